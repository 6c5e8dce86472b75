/-
  The walk of paired of the reference.
-/
import Derived.Test.YtkdfplnoldckgaaRows
import Derived.Test.YtkdfplnoldckgaaSMem
import Derived.Test.YtkdfplnoldckgaaSPlain7
import Derived.Test.YtkdfplnoldckgaaS3
import Derived.Test.YtkdfplnoldckgaaS15
import Derived.Test.YtkdfplnoldckgaaS20
import Derived.WalkKit
import Derived.ProofKit
import Derived.OpenShut
import Derived.Deep.QuietTactic
import Derived.Deep.RegionHeld3
import Derived.Deep.DrawnRows
import Derived.BigQuiet
import Derived.Deep.DeepMust
import Derived.Outline
namespace Go.Proofs.Ytkdfplnoldckgaa
open Go.ChangeShapes Go.WideShapes Go.ChangeAt Go.RowKit
attribute [local go_sem ↓] Go.wp_at_zero Go.wp_at_succ
def RPairSaid (ap : Option Addr) (np cp : Nat) (PL0 : List (List Int)) (f : Nat) : Prop :=
  ∀ (left : List Int) (ad : Option Addr) (n cap : Nat) (w : World), left.length ≤ f → HeldL IntC w ad n cap left → HeldL IntsC w ap np cp PL0 →
    Calls Try.prog 43 #[.slice ad n cap, .slice ap np cp] w fun e w' => ∃ v, e = .returned (.tuple #[v, .bool (PL (metB PL0) left).isSome]) ∧ OwnL IntsC w.heap.size 38 w' v ((PL (metB PL0) left).getD []) ∧ Below w.heap.size w w'
theorem rpair_nil (ap : Option Addr) (np cp : Nat) (PL0 : List (List Int)) (ad : Option Addr) (cap : Nat) (w : World) :
    Calls Try.prog 43 #[.slice ad 0 cap, .slice ap np cp] w fun e w' => ∃ v, e = .returned (.tuple #[v, .bool (PL (metB PL0) []).isSome]) ∧ OwnL IntsC w.heap.size 38 w' v ((PL (metB PL0) []).getD []) ∧ Below w.heap.size w w' := by
  rw [PL_nil]
  go_enter Try.func43, Try.ntmps43
  go_wp2
  go_ret2
  exact ⟨.slice none 0 0, rfl, OwnL.nil _ _ _ _, Below.refl _ _⟩
set_option maxHeartbeats 8000000 in
theorem rpair_succ (ap : Option Addr) (np cp : Nat) (PL0 : List (List Int)) (f : Nat) (hf16 : f ≤ 15) (ih : Hid (RPairSaid ap np cp PL0 f)) : RPairSaid ap np cp PL0 (f + 1) := by
  intro left ad n cap w hlf hl hp
  obtain ⟨i0, hi, hz0, hz1, hz2⟩ := info_parts info_pairing
  cases left with
  | nil =>
    obtain rfl : n = 0 := hl.len.symm
    exact rpair_nil ap np cp PL0 ad cap w
  | cons x r =>
    have hlen := hl.len
    obtain ⟨left, el⟩ : ∃ left, left = x :: r := ⟨_, rfl⟩
    rw [← el] at hl hlen hlf ⊢
    have hn16 : n ≤ 16 := by omega
    have hn0 : 0 < n := by rw [← hlen, el]; simp
    have hnr := hid (show n = r.length + 1 by rw [← hlen, el]; rfl)
    have Hel := hid el
    have Hlen := hid hlen
    have Hlf := hid hlf
    have hnz : ((n : Int) == 0) = false := by simp; omega
    clear el hlen hlf
    obtain ⟨b, o, rfl⟩ := hl.head hn0
    go_enter Try.func43, Try.ntmps43
    go_wp2
    go_loopw [6] (fun i wr => ∃ q : Nat, 1 ≤ q ∧ q ≤ n ∧ i = .int .i64 q ∧ Hid (noneTo (metB PL0) x r (q - 1)) ∧ Below w.heap.size w wr) (fun i _ => n - (intOf i).toNat)
    case atStart => exact ⟨1, Nat.le_refl _, hn0, rfl, hid (noneTo_zero _ _ _), Below.refl _ _⟩
    case round =>
      obtain ⟨q, hq1, hq, rfl, hN, hb⟩ := hrel
      by_cases hql : q < n
      · have hlw := hl.below hb (Nat.le_refl _)
        have hpw := hp.below hb (Nat.le_refl _)
        have cx := hlw.int 0 hn0
        rw [Nat.add_zero, Hel.out, show (x :: r).getD 0 0 = x from rfl] at cx
        have cy := hlw.int q hql
        obtain ⟨d, ed⟩ : ∃ d, d = q - 1 := ⟨_, rfl⟩
        rw [show left.getD q 0 = r.getD d 0 by rw [Hel.out, show q = d + 1 by omega]; rfl] at cy
        have hdr : d < r.length := by have := hnr.out; omega
        have Hdq := hid (show q = d + 1 by omega)
        rw [← ed] at hN
        obtain ⟨y, ey⟩ : ∃ y, y = r.getD d 0 := ⟨_, rfl⟩
        rw [← ey] at cy
        have Hey := hid ey
        have hq0 : (0 : Int) ≤ q := by omega
        have hqn : (q : Int) < n := by omega
        have hn0' : (0 : Int) < n := by omega
        clear ed ey
        go_wp2
        go_quiet ((go_at_call 46; exact Calls.quiet_of_same (rmet_any ap np cp PL0 x y _ (hpw.below ⟨rfl, rfl, rfl, Nat.le_refl _, fun _ _ => rfl⟩ (Nat.le_refl _)))))
        obtain ⟨w1, e1⟩ : ∃ w1, w1 = wr.drewN nq := ⟨_, rfl⟩
        rw [← e1]
        have b1 : Below wr.heap.size wr w1 := by rw [e1]; exact ⟨rfl, rfl, rfl, Nat.le_refl _, fun _ _ => rfl⟩
        have hb1 : Below w.heap.size w w1 := hb.trans (b1.mono hb.size)
        have hl1 := hlw.below b1 (Nat.le_refl _)
        have hp1 := hpw.below b1 (Nat.le_refl _)
        clear e1 b1 hb hlw hpw cx cy
        cases hmet : metB PL0 x y
        · go_wp2_with fail
          refine (rwithout_any (some ⟨b, o, none⟩) n cap q left _ (by omega) hql hl1).mono ?_
          rintro e w2 ⟨v2, rfl, own2, b2⟩
          obtain ⟨a2, c2, rfl, hh2⟩ := own2.slice
          have hl2e : (left.eraseIdx q).length = n - 1 := by rw [List.length_eraseIdx_of_lt (by rw [Hlen.out]; exact hql), Hlen.out]
          have hh2' : HeldL IntC w2 a2 (n - 1) c2 (left.eraseIdx q) := by rw [← hl2e]; exact hh2
          rw [hl2e]
          have hp2 := hp1.below b2 (Nat.le_refl _)
          have hb2 := hb1.trans (b2.mono hb1.size)
          clear own2 hh2 hp1 hb1 hl1 b2
          go_wp2_with fail
          refine (rwithout_any a2 (n - 1) c2 0 (left.eraseIdx q) _ (by omega) (by omega) hh2').mono ?_
          rintro e w3 ⟨v3, rfl, own3, b3⟩
          rw [show (left.eraseIdx q).eraseIdx 0 = r.eraseIdx d by rw [Hel.out, Hdq.out]; rfl] at own3
          obtain ⟨a3, c3, rfl, hh3⟩ := own3.slice
          have hp3 := hp2.below b3 (Nat.le_refl _)
          have hb3 := hb2.trans (b3.mono hb2.size)
          have hlenf : (r.eraseIdx d).length ≤ f := by have h1 := Hlf.out; have h2 := List.length_eraseIdx_of_lt hdr; rw [Hlen.out, hnr.out] at h1; omega
          obtain ⟨n3, en3⟩ : ∃ n3, n3 = (r.eraseIdx d).length := ⟨_, rfl⟩
          rw [← en3] at hh3 ⊢
          clear own3 hh2' hp2 hb2 b3 en3
          go_wp2_with fail
          refine (ih.out (r.eraseIdx d) a3 n3 c3 w3 hlenf hh3 hp3).mono ?_
          rintro e w4 ⟨v4, rfl, own4, b4⟩
          have hb4 := hb3.trans (b4.mono hb3.size)
          cases hPL : PL (metB PL0) (r.eraseIdx d)
          · clear own4 hh3 hp3
            go_wp2
            go_roundw
            case rel => exact ⟨q + 1, by omega, by omega, by go_num, hid (by rw [show q + 1 - 1 = d + 1 by have := Hdq.out; omega]; exact noneTo_succ hN.out (tryP_none hPL)), hb4⟩
            case measure => simp [intOf]; omega
          · rename_i l4
            rw [hPL] at own4
            replace own4 : OwnL IntsC w3.heap.size 38 w4 v4 l4 := own4
            obtain ⟨a4, c4, rfl, z4⟩ := own4.slice
            have hl4 : l4.length ≤ 16 := by have h1 := PL_length hPL; have h2 := List.length_eraseIdx_of_lt hdr; have h3 := hnr.out; omega
            have hfin := hid (show PL (metB PL0) left = some ([x, y] :: l4) by rw [Hel.out, Hey.out]; exact noneTo_found hdr hN.out (tryP_some (by rw [← Hey.out]; exact hmet) hPL))
            have hrw4 := hl.below hb4 (Nat.le_refl _)
            have cx4 := hrw4.int 0 hn0
            rw [Nat.add_zero, Hel.out, show (x :: r).getD 0 0 = x from rfl] at cx4
            have cy4 := hrw4.int q hql
            rw [show left.getD q 0 = y by rw [Hel.out, Hey.out, Hdq.out]; rfl] at cy4
            have lb4 := lt_of_cell cx4
            have w4s := hb4.size
            have w3s := hb3.size
            have w34 := b4.size
            have B5 : Below w4.heap.size w4 (w4.alloc (.cells #[.int .i64 x, .int .i64 y] 3)).drew := ((Below.refl _ _).alloc (Nat.le_refl _) _).drew
            have B6 : Below w4.heap.size w4 ((w4.alloc (.cells #[.int .i64 x, .int .i64 y] 3)).alloc (.cells #[.slice (some ⟨w4.heap.size, 0, none⟩) 2 2] 38)).drew := (((Below.refl _ _).alloc (Nat.le_refl _) _).alloc (by simp) _).drew
            have cx5 := (B5.cell (p := ⟨b, o, none⟩) lb4).trans cx4
            have cy5 := (B5.cell (p := ⟨b, o + q, none⟩) lb4).trans cy4
            have cx6 := (B6.cell (p := ⟨b, o, none⟩) lb4).trans cx4
            have cy6 := (B6.cell (p := ⟨b, o + q, none⟩) lb4).trans cy4
            have own6 : OwnL IntsC w.heap.size 38 ((w4.alloc (.cells #[.int .i64 x, .int .i64 y] 3)).alloc (.cells #[.slice (some ⟨w4.heap.size, 0, none⟩) 2 2] 38)).drew (.slice (some ⟨w4.heap.size + 1, 0, none⟩) 1 1) [[x, y]] :=
              OwnL.lit (l := [[x, y]]) ((Has.newAt (w := w4.alloc (.cells #[.int .i64 x, .int .i64 y] 3)) (vs := #[.slice (some ⟨w4.heap.size, 0, none⟩) 2 2]) (by simp)).drew) (by omega) rfl rfl (by rw [maxLen_eq]; omega) (fun i hi => by
                simp at hi
                subst hi
                exact ⟨_, rfl, rests_ints (l := [x, y]) (((Has.new w4 (ints [x, y]) 3).alloc _).drew) ⟨w4s, by omega⟩ rfl (by omega)⟩)
            have B6s := B6.size
            have hb6 := hb4.trans (B6.mono w4s)
            clear hrw4 z4 hh3 hp3 hb4 b4
            go_wp2
            go_region_held3 (fun wx => wx.cell? ⟨b, o, none⟩ = some (.int .i64 x) ∧ wx.cell? ⟨b, o + q, none⟩ = some (.int .i64 y)) (first | exact ⟨cx4, cy4⟩ | exact ⟨cx5, cy5⟩ | exact ⟨cx6, cy6⟩ | exact ⟨cx7, cy7⟩)
              ((refine step_append_run rfl (.tmp 46) (.tmp 47) 30 rfl (.slice (some ⟨w4.heap.size + 1, 0, none⟩) 1 1) (.slice a4 l4.length c4) (by rfl) (by rfl) (run_append_owns w4 _ w.heap.size w3.heap.size 30 _ 38 i0 _ 24 Try.underlying30 hi hz0 hz1 hz2 rfl _ [[x, y]] own6 a4 l4.length c4 l4 own4 B6 (fun k hk hs => ⟨by omega, fun e => by have e2 : w4.heap.size + 1 = k := Option.some.inj e; omega⟩) (by rw [maxLen_eq]; simp; omega) (by simp; omega) (by omega)) ?_; rintro v7 w7 ⟨own7, b7, hA7, _⟩; have cx7 := hA7.cell cx6 (fun e => by have e2 : w4.heap.size + 1 = b := Option.some.inj e; omega); have cy7 := hA7.cell cy6 (fun e => by have e2 : w4.heap.size + 1 = b := Option.some.inj e; omega)))
            have hb7 := hb6.trans b7
            go_wp2
            go_ret2
            exact ⟨v7, by rw [hfin.out]; rfl, by rw [hfin.out]; exact own7, hb7⟩
        · clear hl1 hp1
          go_wp2
          go_roundw
          case rel => exact ⟨q + 1, by omega, by omega, by go_num, hid (by rw [show q + 1 - 1 = d + 1 by have := Hdq.out; omega]; exact noneTo_succ hN.out (tryP_met (by rw [← Hey.out]; exact hmet))), hb1⟩
          case measure => simp [intOf]; omega
      · obtain rfl : n = q := by omega
        have hnone := hid (show PL (metB PL0) left = none by rw [Hel.out]; exact noneTo_end (by have h1 := hN.out; rwa [show n - 1 = r.length by have := hnr.out; omega] at h1))
        go_wp2
        go_ret2
        exact ⟨.slice none 0 0, by rw [hnone.out]; rfl, by rw [hnone.out]; exact OwnL.nil _ _ _ _, hb⟩
theorem rpair_any (ap : Option Addr) (np cp : Nat) (PL0 : List (List Int)) : ∀ f, f ≤ 16 → RPairSaid ap np cp PL0 f
  | 0, _ => fun left ad n cap w hlf hl _ => by
    obtain rfl : left = [] := List.eq_nil_of_length_eq_zero (by omega)
    obtain rfl : n = 0 := hl.len.symm
    exact rpair_nil ap np cp PL0 ad cap w
  | f + 1, h => rpair_succ ap np cp PL0 f (by omega) (hid (rpair_any ap np cp PL0 f (by omega)))
end Go.Proofs.Ytkdfplnoldckgaa
