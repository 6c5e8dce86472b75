/-
  The walk of Swiss of the reference.
-/
import Derived.Test.YtkdfplnoldckgaaRows
import Derived.Test.YtkdfplnoldckgaaSMem
import Derived.Test.YtkdfplnoldckgaaSPlain8
import Derived.Test.YtkdfplnoldckgaaS17
import Derived.Test.YtkdfplnoldckgaaS21
import Derived.WalkKit
import Derived.ProofKit
import Derived.OpenShut
import Derived.Deep.DeepMust
import Derived.Outline
namespace Go.Proofs.Ytkdfplnoldckgaa
open Go.ChangeShapes Go.WideShapes Go.ChangeAt Go.RowKit

theorem rswiss_err (ad ap : Option Addr) (n cap np cp : Nat) (s : Int) (ps : List Int) (L : List (List Int)) (w : World) (hn : ps.length = n) (h : s ≠ 2 ∨ n < 2 ∨ 16 < n) :
    Calls Try.prog 16 #[.slice ad n cap, .slice ap np cp, .int .i64 s] w (SwissSaid ps L s w) := by
  have hE := hid (swiss_range (ps := ps) (L := L) (s := s) (by rw [hn]; exact h))
  by_cases h1 : s = 2
  · subst h1
    by_cases h2 : (n : Int) < 2
    · go_enter Try.func16, Try.ntmps16
      go_wp2
      go_ret2
      exact swiss_no hE.out (Below.refl _ _)
    · have h3 : (16 : Int) < n := by omega
      go_enter Try.func16, Try.ntmps16
      go_wp2
      go_ret2
      exact swiss_no hE.out (Below.refl _ _)
  · have h2 : (s == 2) = false := by simpa using h1
    have h3 : (s != 2) = true := by simp [bne, h2]
    go_enter Try.func16, Try.ntmps16
    go_wp2
    go_ret2
    exact swiss_no hE.out (Below.refl _ _)
set_option maxRecDepth 20000 in
set_option maxHeartbeats 16000000 in
theorem rswiss_some (b o n cap np cp : Nat) (ap : Option Addr) (ps : List Int) (L : List (List Int)) (w : World) (h2 : 2 ≤ n) (h16 : n ≤ 16) (h : StdAt w (some ⟨b, o, none⟩) n ps) (hp : HeldL IntsC w ap np cp L) :
    Calls Try.prog 16 #[.slice (some ⟨b, o, none⟩) n cap, .slice ap np cp, .int .i64 2] w (SwissSaid ps L 2 w) := by
  obtain ⟨i0, hi, hz0, hz1, hz2⟩ := info_parts info_int
  obtain ⟨i1, gi, gz0, gz1, gz2⟩ := info_parts info_pairing
  have hn := h.1
  have hn2 : (2 : Int) ≤ n := by omega
  have hn16 : (n : Int) ≤ 16 := by omega
  have hbadS := hid (fun e => swiss_bad (ps := ps) (L := L) (by omega) (by omega) e)
  have hgoodS := hid (fun e => swiss_good (ps := ps) (L := L) (by omega) (by omega) e)
  have hl := hid hn
  clear hn
  go_enter Try.func16, Try.ntmps16
  go_wp2
  go_loopw [8, 9] (fun v i wr => ∃ k : Nat, k ≤ n ∧ i = .int .i64 k ∧ OwnL IntC w.heap.size 3 wr v (ps.take k) ∧ Below w.heap.size w wr ∧ Hid (stdOk [] ps = stdOk (ps.take k) (ps.drop k))) (fun _ i _ => n - (intOf i).toNat)
  case atStart => exact ⟨0, Nat.zero_le _, rfl, OwnL.nil _ _ _ _, Below.refl _ _, hid (by rw [List.take_zero, List.drop_zero])⟩
  case round =>
    obtain ⟨k, hk, rfl, own, hb, hS⟩ := hrel
    by_cases hlt : k < n
    · obtain ⟨a1, a2, a3, a4, a5, c0, _⟩ := (h.below hb (Nat.le_refl _)).at k hlt
      have hk0 : (0 : Int) ≤ k := by omega
      have hkn : (k : Int) < n := by omega
      have hkp : k < ps.length := by rw [hl.out]; exact hlt
      obtain ⟨p, ep⟩ : ∃ p, p = ps.getD k 0 := ⟨_, rfl⟩
      rw [← ep] at c0
      have hbad := hid (stdOk_bad ps k hkp)
      have hgood := hid (stdOk_good ps k hkp)
      have htk := hid (take_getD' ps k hkp)
      rw [← ep] at hbad hgood htk
      have htl := hid (show (ps.take k).length = k by rw [List.length_take]; omega)
      obtain ⟨sn, es⟩ : ∃ sn, sn = ps.take k := ⟨_, rfl⟩
      rw [← es] at own hS hbad hgood htk htl
      clear ep es hkp
      have bs := hb.size
      by_cases hp0 : p < 0
      · have hf := hid (hbadS.out (by rw [hS.out]; exact hbad.out (by unfold stdBad; rw [decide_eq_true hp0]; rfl)))
        clear own
        go_wp2
        go_ret2
        exact swiss_no hf.out hb
      by_cases hp16 : 16 ≤ p
      · have hf := hid (hbadS.out (by rw [hS.out]; exact hbad.out (by unfold stdBad; rw [decide_eq_true hp16]; simp)))
        clear own
        go_wp2
        go_ret2
        exact swiss_no hf.out hb
      obtain ⟨as1, cs, rfl, hsl⟩ := own.slice
      rw [htl.out] at hsl own ⊢
      go_wp2_with fail
      refine (rhas_any as1 k cs sn p _ hsl).mono ?_
      rintro e w2 ⟨rfl, rfl⟩
      cases hyB : hasB sn p
      · have hf := hid (show stdOk [] ps = stdOk (ps.take (k + 1)) (ps.drop (k + 1)) by rw [hS.out]; exact hgood.out (by unfold stdBad; rw [hyB, decide_eq_false (by omega), decide_eq_false (by omega)]; rfl))
        have own1 := own.alloc (.cells #[.int .i64 p] 3)
        have b1 := hb.alloc bs (.cells #[.int .i64 p] 3)
        clear hsl
        go_wp2_with (at_builtin; go_must (refine wpList_append_run rfl (.tmp 49) (.tmp 51) 36 rfl (.slice as1 k cs) (.slice (some ⟨w2.heap.size, 0, none⟩) 1 1) (by rfl) (by rfl) (run_append1 _ w.heap.size 36 _ 3 i0 _ 8 Try.underlying36 hi hz0 hz1 hz2 rfl _ sn own1 w2.heap.size 1 (.int .i64 p) p (by simp) rfl (Rests.int _ _ _) (by rw [htl.out, maxLen_eq]; omega) (by rw [htl.out]; omega) (by simp; omega)) ?_); rintro v3 w3 ⟨own3, b3, _, _⟩)
        have hb3 := b1.trans b3
        clear own own1 hb b1 b3 c0
        go_wp2
        go_roundw
        case rel => exact ⟨k + 1, by omega, by go_num, by rw [htk.out]; exact own3, hb3, hf⟩
        case measure => simp [intOf]; omega
      · have hf := hid (hbadS.out (by rw [hS.out]; exact hbad.out (by unfold stdBad; rw [hyB]; simp)))
        clear own hsl
        go_wp2
        go_ret2
        exact swiss_no hf.out hb
    · obtain rfl : n = k := by omega
      rw [List.take_of_length_le (by rw [hl.out]; exact Nat.le_refl _)] at own
      have hok : stdOk [] ps = true := by rw [hS.out]; exact stdOk_end ps n (by rw [hl.out]; exact Nat.le_refl _)
      have hG := hid (hgoodS.out hok)
      obtain ⟨a1, c1, rfl, hpl1⟩ := own.slice
      rw [hl.out] at hpl1 ⊢
      have hp1 := hp.below hb (Nat.le_refl _)
      have b1s := hb.size
      clear own hS hok hbadS hgoodS h hp
      rcases Nat.mod_two_eq_zero_or_one n with hpar | hpar
      · have hp2 : (n : Int) % 2 = 0 := by omega
        have Hpar := hid (show ps.length % 2 = 0 by rw [hl.out]; exact hpar)
        clear hpar
        go_wp2_with fail
        refine (rpair_any ap np cp L 16 (Nat.le_refl _) ps a1 n c1 _ (by rw [hl.out]; exact h16) hpl1 hp1).mono ?_
        rintro e w5 ⟨v5, rfl, own5, b5⟩
        have hb5 := hb.trans (b5.mono b1s)
        cases hPL : PL (metB L) ps
        · have hR := hid (hG.out.trans (swissR_even_none Hpar.out hPL))
          clear own5
          go_wp2
          go_ret2
          exact swiss_no hR.out hb5
        · rename_i l5
          have hR := hid (hG.out.trans (swissR_even Hpar.out hPL))
          rw [hPL] at own5
          replace own5 : OwnL IntsC w.heap.size 38 w5 v5 l5 := OwnL.rebase own5 b1s
          have hl5 : l5.length ≤ 16 := by have := PL_length hPL; rw [hl.out] at this; omega
          have b5s := hb5.size
          obtain ⟨a5, c5, rfl, z5⟩ := own5.slice
          clear z5
          go_wp2_with (at_builtin; go_must (refine wpList_append_run rfl (.tmp 94) (.tmp 95) 30 rfl (.slice a5 l5.length c5) (.slice none 0 0) (by rfl) (by rfl) (run_append_owns w5 _ w.heap.size w5.heap.size 30 _ 38 i1 _ 24 Try.underlying30 gi gz0 gz1 gz2 rfl _ l5 own5 none 0 0 [] (OwnL.nil _ _ _ _) (Below.refl _ _) (fun k hk hs => by omega) (by rw [maxLen_eq]; omega) (by omega) b5s) ?_); rintro v7 w7 ⟨own7, b7, _, _⟩)
          go_wp2
          go_ret2
          exact ⟨v7, by rw [hR.out]; rfl, by rw [hR.out]; simpa using own7, hb5.trans b7⟩
      · have hp2 : (n : Int) % 2 = 1 := by omega
        have Hpar := hid (show ps.length % 2 = 1 by rw [hl.out]; exact hpar)
        obtain ⟨bp, op, rfl⟩ := hpl1.head (by omega)
        obtain ⟨wm, ewm⟩ : ∃ wm : World, wm = wr := ⟨_, rfl⟩
        rw [← ewm] at hb hpl1 hp1 b1s ⊢
        have HlP := hid (show byeTo L ps ps.length = byeTo L ps n by rw [hl.out])
        clear hpar ewm
        go_wp2
        clear hp2
        go_loop [12] (fun kv => ∃ t : Nat, t ≤ n ∧ kv = .int .i64 ((t : Int) - 1) ∧ Hid (byeTo L ps n = byeTo L ps t)) (fun kv => (intOf kv + 1).toNat)
        case atStart => exact ⟨n, Nat.le_refl _, rfl, hid rfl⟩
        case round =>
          obtain ⟨t, ht, rfl, hT⟩ := hrel
          by_cases ht0 : t = 0
          · have hR := hid (hG.out.trans (swissR_odd_no Hpar.out (by rw [HlP.out, hT.out, ht0]; show (-1 : Int) < 0; omega)))
            have h3 : ¬ (1 : Int) ≤ t := by omega
            have h4 : (t : Int) - 1 < 0 := by omega
            have h5 : ¬ (0 : Int) ≤ (t : Int) - 1 := by omega
            clear ht0
            go_wp2
            go_ret2
            exact swiss_no hR.out hb
          · obtain ⟨q, eq⟩ : ∃ q : Nat, q = t - 1 := ⟨_, rfl⟩
            have htq : (t : Int) - 1 = q := by omega
            have hqn : q < n := by omega
            have hq0 : (0 : Int) ≤ q := by omega
            have hqni : (q : Int) < n := by omega
            have hqneg : ¬ (q : Int) < 0 := by omega
            rw [htq]
            have hst := hid (show byeTo L ps t = if byeB L (ps.getD q 0) = true then byeTo L ps q else (q : Int) by rw [show t = q + 1 by omega]; rfl)
            have cy := hpl1.int q hqn
            obtain ⟨y, ey⟩ : ∃ y, y = ps.getD q 0 := ⟨_, rfl⟩
            rw [← ey] at cy hst
            have Hey := hid ey
            have Htq := hid htq
            clear ey eq htq ht0 ht
            go_wp2_with fail
            refine (rbye_any ap np cp L y _ hp1).mono ?_
            rintro e w2 ⟨rfl, rfl⟩
            cases hB : byeB L y
            · rw [hB] at hst
              have HB := hid (show byeTo L ps ps.length = (q : Int) by rw [HlP.out, hT.out, hst.out]; rfl)
              clear hst hT
              have bW : Below w2.heap.size w2 ((w2.alloc (.cells #[.int .i64 y] 3)).alloc (.cells #[.slice (some ⟨w2.heap.size, 0, none⟩) 1 1] 38)) := ((Below.refl _ _).alloc (Nat.le_refl _) _).alloc (by simp) _
              have hR0 : Rests IntsC (fun k => w2.heap.size ≤ k ∧ (Value.slice none 0 0).ownBlock ≠ some k) ((w2.alloc (.cells #[.int .i64 y] 3)).alloc (.cells #[.slice (some ⟨w2.heap.size, 0, none⟩) 1 1] 38)) (.slice (some ⟨w2.heap.size, 0, none⟩) 1 1) [y] := rests_ints (l := [y]) ((Has.new w2 (ints [y]) 3).alloc _) ⟨Nat.le_refl _, fun e => by cases e⟩ rfl (by omega)
              have hbW := hb.trans (bW.mono b1s)
              go_wp2_with (first
                | (at_builtin; refine wpList_append_run rfl (.tmp 74) (.tmp 81) 30 rfl (.slice none 0 0) (.slice (some ⟨w2.heap.size + 1, 0, none⟩) 1 1) (by rfl) (by rfl) (run_append1 _ w2.heap.size 30 _ 38 i1 _ 24 Try.underlying30 gi gz0 gz1 gz2 rfl _ [] (OwnL.nil _ _ _ _) (w2.heap.size + 1) 1 (.slice (some ⟨w2.heap.size, 0, none⟩) 1 1) [y] (by simp) rfl hR0 (by rw [maxLen_eq]; simp) (by simp) (by simp; omega)) ?_; rintro v3 w3 ⟨own3, b3, _, _⟩; obtain ⟨a3, c3, rfl, z3⟩ := own3.slice; clear z3; replace own3 : OwnL IntsC w2.heap.size 38 w3 (.slice a3 1 c3) [[y]] := own3)
                | fail)
              have hbm3 : Below w2.heap.size w2 w3 := bW.trans b3
              have hb3 := hb.trans (hbm3.mono b1s)
              have hbm3s := hbm3.size
              have hpl3 := hpl1.below hbm3 (Nat.le_refl _)
              have hp3 := hp1.below hbm3 (Nat.le_refl _)
              refine (rwithout_any (some ⟨bp, op, none⟩) n c1 q ps _ (by omega) hqn hpl3).mono ?_
              rintro e w4 ⟨v4, rfl, own4, b4⟩
              have hb4 := hb3.trans (b4.mono hb3.size)
              have b34s := b4.size
              obtain ⟨a4, c4, rfl, hh4⟩ := own4.slice
              have hPl : (ps.eraseIdx q).length ≤ 16 := Nat.le_trans (List.length_eraseIdx_le ps q) (by rw [hl.out]; exact h16)
              have hp4 := hp3.below b4 (Nat.le_refl _)
              obtain ⟨n4, en4⟩ : ∃ n4, n4 = (ps.eraseIdx q).length := ⟨_, rfl⟩
              rw [← en4] at hh4 ⊢
              clear own4 en4 hpl1 hp1 hpl3 hp3 hb hbW hb3 bW b3 hR0
              go_wp2_with fail
              refine (rpair_any ap np cp L 16 (Nat.le_refl _) (ps.eraseIdx q) a4 n4 c4 _ hPl hh4 hp4).mono ?_
              rintro e w5 ⟨v5, rfl, own5, b5⟩
              have hb5 := hb4.trans (b5.mono hb4.size)
              have b35 : Below w3.heap.size w3 w5 := b4.trans (b5.mono b34s)
              cases hPL : PL (metB L) (ps.eraseIdx q)
              · have hR := hid (hG.out.trans (swissR_odd_none Hpar.out HB.out hPL))
                clear own5
                go_wp2
                go_ret2
                exact swiss_no hR.out hb5
              · rename_i l5
                have hR := hid (hG.out.trans (swissR_odd Hpar.out HB.out hPL))
                rw [← Hey.out] at hR
                rw [hPL] at own5
                replace own5 : OwnL IntsC w4.heap.size 38 w5 v5 l5 := own5
                have hg5 := own5.lt
                have own6 := own5.rebase (base' := w.heap.size) hb4.size
                have hl5 : l5.length ≤ 16 := by have := PL_length hPL; omega
                have b5s := hb5.size
                obtain ⟨a5, c5, rfl, z5⟩ := own5.slice
                clear z5 own5
                go_wp2_with (at_builtin; go_must (refine wpList_append_run rfl (.tmp 94) (.tmp 95) 30 rfl (.slice a5 l5.length c5) (.slice a3 1 c3) (by rfl) (by rfl) (run_append_owns w3 _ w.heap.size w2.heap.size 30 _ 38 i1 _ 24 Try.underlying30 gi gz0 gz1 gz2 rfl _ l5 own6 a3 1 c3 [[y]] own3 b35 (fun k hk hs => ⟨by omega, fun e => by have := (hg5 k e).1; omega⟩) (by rw [maxLen_eq]; omega) (by omega) b5s) ?_); rintro v7 w7 ⟨own7, b7, _, _⟩)
                go_wp2
                go_ret2
                exact ⟨v7, by rw [hR.out]; rfl, by rw [hR.out]; exact own7, hb5.trans b7⟩
            · rw [hB] at hst
              go_wp2
              go_round
              case rel => exact ⟨q, by omega, rfl, hid (by rw [hT.out, hst.out]; rfl)⟩
              case measure => simp [intOf]
theorem rswiss_any (ad ap : Option Addr) (n cap np cp : Nat) (s : Int) (ps : List Int) (L : List (List Int)) (w : World) (h : StdAt w ad n ps) (hp : HeldL IntsC w ap np cp L) :
    Calls Try.prog 16 #[.slice ad n cap, .slice ap np cp, .int .i64 s] w (SwissSaid ps L s w) := by
  by_cases hc : s ≠ 2 ∨ n < 2 ∨ 16 < n
  · exact rswiss_err ad ap n cap np cp s ps L w h.1 hc
  · obtain rfl : s = 2 := by omega
    obtain ⟨b, o, rfl⟩ := h.head (by omega)
    exact rswiss_some b o n cap np cp ap ps L w (by omega) (by omega) h hp
end Go.Proofs.Ytkdfplnoldckgaa
