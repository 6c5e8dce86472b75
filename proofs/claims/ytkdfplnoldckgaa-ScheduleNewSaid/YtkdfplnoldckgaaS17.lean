/-
  The walk of Swiss.
-/
import Derived.Test.YtkdfplnoldckgaaRows
import Derived.Test.YtkdfplnoldckgaaSMem
import Derived.Test.YtkdfplnoldckgaaSPlain8
import Derived.Test.YtkdfplnoldckgaaS3
import Derived.Test.YtkdfplnoldckgaaS11
import Derived.Test.YtkdfplnoldckgaaS14
import Derived.Test.YtkdfplnoldckgaaS16
import Derived.WalkKit
import Derived.ProofKit
import Derived.OpenShut
import Derived.Deep.DeepMust
import Derived.Outline
namespace Go.Proofs.Ytkdfplnoldckgaa
open Go.ChangeShapes Go.WideShapes Go.ChangeAt Go.RowKit

/-- What Swiss returns. -/
def SwissSaid (ps : List Int) (L : List (List Int)) (s : Int) (w : World) (e : Ending) (w' : World) : Prop :=
  ∃ v, e = .returned (.tuple #[v, .int .i64 (swiss ps L s).1]) ∧ OwnL IntsC w.heap.size 38 w' v (swiss ps L s).2 ∧ Below w.heap.size w w'
theorem swiss_no {ps : List Int} {L : List (List Int)} {s c : Int} {w w' : World} (h : swiss ps L s = (c, [])) (hb : Below w.heap.size w w') : SwissSaid ps L s w (.returned (.tuple #[.slice none 0 0, .int .i64 c])) w' :=
  ⟨.slice none 0 0, by rw [h], by rw [h]; exact OwnL.nil _ _ _ _, hb⟩
theorem swiss_err (ad ap : Option Addr) (n cap np cp : Nat) (s : Int) (ps : List Int) (L : List (List Int)) (w : World) (hn : ps.length = n) (h : s ≠ 2 ∨ n < 2 ∨ 16 < n) :
    Calls Try.prog 15 #[.slice ad n cap, .slice ap np cp, .int .i64 s] w (SwissSaid ps L s w) := by
  have hE := hid (swiss_range (ps := ps) (L := L) (s := s) (by rw [hn]; exact h))
  by_cases h1 : s = 2
  · subst h1
    by_cases h2 : (n : Int) < 2
    · go_enter Try.func15, Try.ntmps15
      go_wp2
      go_ret2
      exact swiss_no hE.out (Below.refl _ _)
    · have h3 : (16 : Int) < n := by omega
      go_enter Try.func15, Try.ntmps15
      go_wp2
      go_ret2
      exact swiss_no hE.out (Below.refl _ _)
  · have h2 : (s == 2) = false := by simpa using h1
    have h3 : (s != 2) = true := by simp [bne, h2]
    go_enter Try.func15, Try.ntmps15
    go_wp2
    go_ret2
    exact swiss_no hE.out (Below.refl _ _)

set_option maxHeartbeats 8000000 in
theorem swiss_some (b o n cap np cp : Nat) (ap : Option Addr) (ps : List Int) (L : List (List Int)) (w : World) (h2 : 2 ≤ n) (h16 : n ≤ 16) (h : StdAt w (some ⟨b, o, none⟩) n ps) (hp : HeldL IntsC w ap np cp L) :
    Calls Try.prog 15 #[.slice (some ⟨b, o, none⟩) n cap, .slice ap np cp, .int .i64 2] w (SwissSaid ps L 2 w) := by
  obtain ⟨i0, hi, hz0, hz1, hz2⟩ := info_parts info_pairing
  have hn := h.1
  have hn2 : (2 : Int) ≤ n := by omega
  have hn16 : (n : Int) ≤ 16 := by omega
  have hbad := hid (fun e => swiss_bad (ps := ps) (L := L) (by omega) (by omega) e)
  have hgood := hid (fun e => swiss_good (ps := ps) (L := L) (by omega) (by omega) e)
  have Hn := hid hn
  clear hn
  go_enter Try.func15, Try.ntmps15
  go_wp2_with fail
  refine (ranked_some b o n cap ps _ (by omega) h).mono ?_
  rintro e w1 ⟨v1, rfl, own1, b1⟩
  cases hok : stdOk [] ps
  · have hE := hid (hbad.out hok)
    clear own1
    go_wp2
    go_ret2
    exact swiss_no hE.out b1
  · have hS := hid (hgood.out hok)
    obtain ⟨hr1, hnd⟩ := stdOk_spec ps [] hok
    have hrr : ∀ p ∈ ps, 0 ≤ p ∧ p < 16 := fun p hp => ⟨(hr1 p hp).1, (hr1 p hp).2.1⟩
    rw [hok, if_pos rfl] at own1
    obtain ⟨a1, c1, rfl, hpl1⟩ := own1.slice
    rw [Hn.out] at hpl1 ⊢
    have hp1 := hp.below b1 (Nat.le_refl _)
    have HR := hid hrr
    have HN := hid hnd
    clear hr1 hnd hrr hok own1 hbad hgood h hp
    have b1s := b1.size
    rcases Nat.mod_two_eq_zero_or_one n with hpar | hpar
    · have hp2 : (n : Int) % 2 = 0 := by omega
      have Hpar := hid (show ps.length % 2 = 0 by rw [Hn.out]; exact hpar)
      have hPn := HN.out
      have hPr := HR.out
      have hPl : ps.length ≤ 16 := by rw [Hn.out]; exact h16
      have hpW := hp1
      clear hpar hPr
      have hPr := HR.out
      go_wp2_with fail
      refine (paired_any a1 ap n c1 np cp ps L _ hPn hPr hPl hpl1 hpW).mono ?_
      rintro e w5 ⟨v5, rfl, own5, b5⟩
      have hb5 := b1.trans (b5.mono b1.size)
      have hW5 := b1.size
      cases hPL : PL (metB L) ps
      · have hR := hid (hS.out.trans (swissR_even_none Hpar.out hPL))
        clear own5
        go_wp2
        go_ret2
        exact swiss_no hR.out hb5
      · have hR := hid (hS.out.trans (swissR_even Hpar.out hPL))
        rw [hPL] at own5
        go_wp2
        go_ret2
        exact ⟨v5, by rw [hR.out]; rfl, by rw [hR.out]; exact own5.rebase hW5, hb5⟩
    · have hp2 : (n : Int) % 2 = 1 := by omega
      have Hpar := hid (show ps.length % 2 = 1 by rw [Hn.out]; exact hpar)
      obtain ⟨bp, op, rfl⟩ := hpl1.head (by omega)
      clear hpar
      go_wp2
      clear hp2
      go_loopw [10, 39] (fun v i wr => ∃ k : Nat, k ≤ n ∧ i = .int .i64 k ∧ v = .int .i64 (byeTo L ps k) ∧ Below w1.heap.size w1 wr) (fun _ i _ => n - (intOf i).toNat)
      case atStart => exact ⟨0, Nat.zero_le _, rfl, rfl, Below.refl _ _⟩
      case round =>
        obtain ⟨k, hk, rfl, rfl, hb⟩ := hrel
        have hbT := b1.trans (hb.mono b1s)
        by_cases hlt : k < n
        · have hc := (hpl1.below hb (Nat.le_refl _)).int k hlt
          have hk0 : (0 : Int) ≤ k := by omega
          have hkn : (k : Int) < n := by omega
          have hpw := hp1.below hb (Nat.le_refl _)
          have hst := hid (show byeTo L ps (k + 1) = if byeB L (ps.getD k 0) = true then byeTo L ps k else (k : Int) from rfl)
          obtain ⟨y, ey⟩ : ∃ y, y = ps.getD k 0 := ⟨_, rfl⟩
          rw [← ey] at hc hst
          clear ey
          go_wp2_with fail
          refine (rested_any ap np cp L y _ hpw).mono ?_
          rintro e w2 ⟨rfl, b2⟩
          have hb2 := hb.trans (b2.mono hb.size)
          clear hb b2 hc hpw hbT
          cases hB : byeB L y
          · rw [hB] at hst
            have hst2 := hid (show byeTo L ps (k + 1) = (k : Int) from by rw [hst.out]; rfl)
            clear hst
            go_wp2
            go_roundw
            case rel => exact ⟨k + 1, by omega, by go_num, by rw [hst2.out], hb2⟩
            case measure => simp [intOf]; omega
          · rw [hB] at hst
            have hst2 := hid (show byeTo L ps (k + 1) = byeTo L ps k from by rw [hst.out]; rfl)
            clear hst
            go_wp2
            go_roundw
            case rel => exact ⟨k + 1, by omega, by go_num, by rw [hst2.out], hb2⟩
            case measure => simp [intOf]; omega
        · obtain rfl : n = k := by omega
          have hbd := byeTo_bd L ps n
          obtain ⟨B, eB⟩ : ∃ B, B = byeTo L ps n := ⟨_, rfl⟩
          rw [← eB] at hbd ⊢
          have HB := hid (show byeTo L ps ps.length = B by rw [Hn.out]; exact eB.symm)
          clear eB
          by_cases hB0 : B < 0
          · have hR := hid (hS.out.trans (swissR_odd_no Hpar.out (by rw [HB.out]; exact hB0)))
            go_wp2
            go_ret2
            exact swiss_no hR.out hbT
          obtain ⟨q, rfl⟩ := Int.eq_ofNat_of_zero_le (show 0 ≤ B by omega)
          have hqn : q < n := by omega
          have hq0 : (0 : Int) ≤ q := by omega
          have hqni : (q : Int) < n := by omega
          have hqneg : ¬ (q : Int) < 0 := by omega
          have hpl2 := hpl1.below hb (Nat.le_refl _)
          have hp2' := hp1.below hb (Nat.le_refl _)
          clear hpl1 hp1 hb hB0 hbd
          go_wp2_with fail
          refine (without_any (some ⟨bp, op, none⟩) n c1 q ps _ (by omega) hqn hpl2).mono ?_
          rintro e w4 ⟨v4, rfl, own4, b4⟩
          have hb4 := hbT.trans (b4.mono hbT.size)
          obtain ⟨a4, c4, rfl, hle4⟩ := own4.slice
          obtain ⟨n4, en4⟩ : ∃ n4, n4 = (ps.eraseIdx q).length := ⟨_, rfl⟩
          rw [← en4] at hle4 ⊢
          have hpl4 := hpl2.below b4 (Nat.le_refl _)
          have hpW := hp2'.below b4 (Nat.le_refl _)
          have hPn : (ps.eraseIdx q).Nodup := HN.out.sublist (List.eraseIdx_sublist ps q)
          have hPr : ∀ p ∈ ps.eraseIdx q, 0 ≤ p ∧ p < 16 := fun p hp => HR.out p ((List.eraseIdx_sublist ps q).subset hp)
          have hPl : (ps.eraseIdx q).length ≤ 16 := Nat.le_trans (List.length_eraseIdx_le ps q) (by rw [Hn.out]; exact h16)
          clear en4 own4 hbT b4 hpl2 hp2'
          go_wp2_with fail
          refine (paired_any a4 ap n4 c4 np cp (ps.eraseIdx q) L _ hPn hPr hPl hle4 hpW).mono ?_
          rintro e w5 ⟨v5, rfl, own5, b5⟩
          have hb5 := hb4.trans (b5.mono hb4.size)
          have hW5 := hb4.size
          cases hPL : PL (metB L) (ps.eraseIdx q)
          · have hR := hid (hS.out.trans (swissR_odd_none Hpar.out HB.out hPL))
            clear own5
            go_wp2
            go_ret2
            exact swiss_no hR.out hb5
          · rename_i l5
            have hR := hid (hS.out.trans (swissR_odd Hpar.out HB.out hPL))
            rw [hPL] at own5
            replace own5 : OwnL IntsC w4.heap.size 38 w5 v5 l5 := own5
            have hl5 := PL_length hPL
            have hl5b : l5.length ≤ 16 := Nat.le_trans hl5 hPl
            have cp5 := (hpl4.below b5 (Nat.le_refl _)).int q hqn
            obtain ⟨y, ey⟩ : ∃ y, y = ps.getD q 0 := ⟨_, rfl⟩
            rw [← ey] at cp5 hR
            have b5s := b5.size
            have own6 := (own5.alloc (.cells #[.int .i64 y] 3)).alloc (.cells #[.slice (some ⟨w5.heap.size, 0, none⟩) 1 1] 38)
            have hR6 : Rests IntsC (fun k => w4.heap.size ≤ k ∧ v5.ownBlock ≠ some k) ((w5.alloc (.cells #[.int .i64 y] 3)).alloc (.cells #[.slice (some ⟨w5.heap.size, 0, none⟩) 1 1] 38)) (.slice (some ⟨w5.heap.size, 0, none⟩) 1 1) [y] := rests_ints (l := [y]) ((Has.new w5 (ints [y]) 3).alloc _) ⟨b5s, fun e => by have := (own5.lt _ e).2; omega⟩ rfl (by omega)
            have hb6 : Below w.heap.size w ((w5.alloc (.cells #[.int .i64 y] 3)).alloc (.cells #[.slice (some ⟨w5.heap.size, 0, none⟩) 1 1] 38)) := (hb5.alloc hb5.size _).alloc (by have := hb5.size; simp; omega) _
            clear ey own5 hpl4 hpW
            go_wp2_with (at_builtin; go_must (refine wpList_append_run rfl (.tmp 69) (.tmp 76) 30 rfl v5 (.slice (some ⟨w5.heap.size + 1, 0, none⟩) 1 1) (by rfl) (by rfl) (run_append1 _ w4.heap.size 30 _ 38 i0 _ 24 Try.underlying30 hi hz0 hz1 hz2 rfl _ l5 own6 (w5.heap.size + 1) 1 (.slice (some ⟨w5.heap.size, 0, none⟩) 1 1) [y] (by simp) rfl hR6 (by rw [maxLen_eq]; omega) (by omega) (by simp; omega)) ?_); rintro v7 w7 ⟨own7, b7, _, _⟩)
            go_wp2
            go_ret2
            exact ⟨v7, by rw [hR.out]; rfl, by rw [hR.out]; exact own7.rebase hW5, hb6.trans (b7.mono hW5)⟩

theorem swiss_any (ad ap : Option Addr) (n cap np cp : Nat) (s : Int) (ps : List Int) (L : List (List Int)) (w : World) (h : StdAt w ad n ps) (hp : HeldL IntsC w ap np cp L) :
    Calls Try.prog 15 #[.slice ad n cap, .slice ap np cp, .int .i64 s] w (SwissSaid ps L s w) := by
  by_cases hc : s ≠ 2 ∨ n < 2 ∨ 16 < n
  · exact swiss_err ad ap n cap np cp s ps L w h.1 hc
  · obtain rfl : s = 2 := by omega
    obtain ⟨b, o, rfl⟩ := h.head (by omega)
    exact swiss_some b o n cap np cp ap ps L w (by omega) (by omega) h hp
end Go.Proofs.Ytkdfplnoldckgaa
