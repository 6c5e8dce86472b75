/-
  The walk of the reference's Robin.
-/
import Derived.Test.YtkdfplnoldckgaaRows
import Derived.Test.YtkdfplnoldckgaaSMem
import Derived.Test.YtkdfplnoldckgaaSPlain2
import Derived.Test.YtkdfplnoldckgaaS4
import Derived.Test.YtkdfplnoldckgaaS5
import Derived.WalkKit
import Derived.ProofKit
import Derived.OpenShut
import Derived.Deep.QuietTactic
import Derived.Deep.RegionHeld3
import Derived.Deep.DrawnRows
import Derived.BigQuiet
import Derived.Deep.DeepMust
import Derived.Outline
namespace Go.Proofs.Ytkdfplnoldckgaa
open Go.ChangeShapes Go.WideShapes Go.ChangeAt Go.RowKit
attribute [local go_sem ↓] Go.wp_at_zero Go.wp_at_succ

/-- What Robin returns. -/
def RobinSaid (n s : Int) (w : World) (e : Ending) (w' : World) : Prop :=
  ∃ v c, e = .returned (.tuple #[v, .int .i64 c]) ∧ OwnL RoundC w.heap.size 30 w' v (robinL n s) ∧ c = robinE n s ∧ Below w.heap.size w w'
theorem rrobin_err (n s : Int) (w : World) (h : s < 2 ∨ 4 < s ∨ n < s ∨ 16 < n) : Calls Try.prog 11 #[.int .i64 n, .int .i64 s] w (RobinSaid n s w) := by
  have hE := hid (show robinL n s = [] ∧ 12 = robinE n s by unfold robinL robinE; rw [if_pos h, if_pos h]; exact ⟨rfl, rfl⟩)
  by_cases h1 : s < 2
  · go_enter Try.func11, Try.ntmps11
    go_wp2
    go_ret2
    exact ⟨_, _, rfl, by rw [hE.out.1]; exact OwnL.nil _ _ _ _, hE.out.2, Below.refl _ _⟩
  by_cases h2 : 4 < s
  · go_enter Try.func11, Try.ntmps11
    go_wp2
    go_ret2
    exact ⟨_, _, rfl, by rw [hE.out.1]; exact OwnL.nil _ _ _ _, hE.out.2, Below.refl _ _⟩
  by_cases h3 : n < s
  · go_enter Try.func11, Try.ntmps11
    go_wp2
    go_ret2
    exact ⟨_, _, rfl, by rw [hE.out.1]; exact OwnL.nil _ _ _ _, hE.out.2, Below.refl _ _⟩
  · have h4 : 16 < n := by omega
    go_enter Try.func11, Try.ntmps11
    go_wp2
    go_ret2
    exact ⟨_, _, rfl, by rw [hE.out.1]; exact OwnL.nil _ _ _ _, hE.out.2, Below.refl _ _⟩
theorem rrobin_two (n : Nat) (w : World) (h2 : 2 ≤ n) (h16 : n ≤ 16) : Calls Try.prog 11 #[.int .i64 n, .int .i64 2] w (RobinSaid n 2 w) := by
  have hE := hid (robin_two h2 h16)
  have a1 : (2 : Int) ≤ n := by omega
  have a2 : (n : Int) ≤ 16 := by omega
  go_enter Try.func11, Try.ntmps11
  go_wp2_with fail
  refine (rcircle_any n _ h2 h16).mono ?_
  rintro e w1 ⟨v, rfl, own, b1⟩
  go_wp2
  go_ret2
  exact ⟨_, _, rfl, by rw [hE.out.1]; exact own, hE.out.2, b1⟩
theorem rrobin_more (n s : Nat) (w : World) (hs : 3 ≤ s) (hs4 : s ≤ 4) (hsn : s ≤ n) (h16 : n ≤ 16) : Calls Try.prog 11 #[.int .i64 n, .int .i64 s] w (RobinSaid n s w) := by
  obtain ⟨i1, gi, gz0, gz1, gz2⟩ := info_parts info_round
  have hE := hid (robin_more hs hs4 hsn h16)
  have a1 : (3 : Int) ≤ s := by omega
  have a2 : (s : Int) ≤ 4 := by omega
  have a3 : (s : Int) ≤ n := by omega
  have a4 : (n : Int) ≤ 16 := by omega
  have a5 : ((s : Int) == 2) = false := by simp; omega
  go_enter Try.func11, Try.ntmps11
  go_wp2_with fail
  refine (rcombs_any n h16 s 0 _ hs4 (by omega)).mono ?_
  rintro e w3 ⟨v, rfl, own, b3⟩
  obtain ⟨X, eX⟩ : ∃ X, X = combs n s 0 := ⟨_, rfl⟩
  have hXl : X.length ≤ 65536 := by rw [eX]; exact combs_small h16 hs4 _
  have HXm : Hid (∀ j, j < X.length → (X.getD j []).length = s) := hid (fun j hj => by rw [eX] at hj ⊢; exact combs_getD hj)
  rw [← eX] at own hE
  obtain ⟨ad, cp, rfl, hX⟩ := own.slice
  obtain ⟨lx, elx⟩ : ∃ lx, lx = X.length := ⟨_, rfl⟩
  rw [← elx] at hX hXl ⊢
  have Hlx := hid elx
  clear own elx eX
  have bs3 := b3.size
  go_wp2
  go_loopw [6, 8] (fun v i wr => ∃ k : Nat, k ≤ lx ∧ i = .int .i64 k ∧ OwnL RoundC w3.heap.size 30 wr v (robTo s X k) ∧ Below w3.heap.size w3 wr) (fun _ i _ => lx - (intOf i).toNat)
  case atStart => exact ⟨0, Nat.zero_le _, rfl, OwnL.nil _ _ _ _, Below.refl _ _⟩
  case round =>
    obtain ⟨k, hk, rfl, own, hb⟩ := hrel
    by_cases hlt : k < lx
    · have hXr := hX.below hb (Nat.le_refl _)
      obtain ⟨b, o, rfl⟩ := hXr.head (by omega)
      obtain ⟨ae, me, ce, hc, hE2⟩ := hXr.elem k hlt
      have hbw3 : b < w3.heap.size := by obtain ⟨_, _, _, h0, _⟩ := hX.elem k hlt; exact lt_of_cell h0
      have hk0 : (0 : Int) ≤ k := by omega
      have hkl : (k : Int) < lx := by omega
      obtain ⟨q, eq⟩ : ∃ q, q = k % s := ⟨_, rfl⟩
      have hq1 : (k : Int) % s = q := by rw [eq]; simp
      have hq2 : Int.tmod (k : Int) s = q := by rw [Int.tmod_eq_emod_of_nonneg (by omega)]; exact hq1
      have hs0 : ((s : Int) == 0) = false := by simp; omega
      have hs0' : ¬ (s : Int) = 0 := by omega
      have hsn0 : ¬ s = 0 := by omega
      have hqs : q < s := by rw [eq]; exact Nat.mod_lt _ (by omega)
      obtain ⟨r, er⟩ : ∃ r, r = X.getD k [] := ⟨_, rfl⟩
      rw [← er] at hE2
      have hme : me ≤ 4 := by have := HXm.out k (by rw [← Hlx.out]; exact hlt); rw [← er, hE2.len] at this; omega
      have Hr := hid (show robTo s X (k + 1) = robTo s X k ++ [[rotL r q]] by rw [robTo_succ, ← er, ← eq])
      have hRl : (robTo s X k).length = k := robTo_length _ _ _
      obtain ⟨Y, eY⟩ : ∃ Y, Y = robTo s X k := ⟨_, rfl⟩
      rw [← eY] at own Hr hRl
      have HRl := hid hRl
      have bsr := hb.size
      have hE3 : HeldL IntC wr.drew ae me ce r := hE2.below ((Below.refl wr.heap.size wr).drew) (Nat.le_refl _)
      have hcd : wr.drew.cell? ⟨b, o + k, none⟩ = some (.slice ae me ce) := hc
      have hbl := lt_of_cell hc
      have owd := own.drew
      have hbd := hb.drew
      clear eq er eY hRl hXr hE2 own hb
      go_wp2
      go_region_held3 (fun wx => wx.cell? ⟨b, o + k, none⟩ = some (.slice ae me ce)) (first | exact hcd | exact hc1 | exact hc2 | exact hc3 | exact hc4)
        (first
          | (go_at_call 34; refine (rrotated_any ae me ce q r _ (by omega) (by omega) hE3).mono ?_; rintro e w1 ⟨v1, rfl, own1, b1⟩; obtain ⟨a1, c1, rfl, hone⟩ := own1.slice; have hR0 := own1.rests; clear own1 hone; obtain ⟨l1, el1⟩ : ∃ l1, l1 = (rotL r (q : Int).toNat).length := ⟨_, rfl⟩; rw [← el1] at hR0 ⊢; rw [Int.toNat_natCast] at hR0; clear el1;
             have hc1 : w1.cell? ⟨b, o + k, none⟩ = some (.slice ae me ce) := (b1.cell (p := ⟨b, o + k, none⟩) hbl).trans hc;
             have bs1 := b1.size;
             have hbl1 : b < w1.heap.size := lt_of_cell hc1;
             have hc2 : (w1.alloc (.cells #[.slice a1 l1 c1] 38)).cell? ⟨b, o + k, none⟩ = some (.slice ae me ce) := (((Below.refl w1.heap.size w1).alloc (Nat.le_refl _) _).cell (p := ⟨b, o + k, none⟩) hbl1).trans hc1;
             have hc3 : ((w1.alloc (.cells #[.slice a1 l1 c1] 38)).alloc (.cells #[.slice (some ⟨w1.heap.size, 0, none⟩) 1 1] 30)).cell? ⟨b, o + k, none⟩ = some (.slice ae me ce) := ((((Below.refl w1.heap.size w1).alloc (Nat.le_refl _) _).alloc (by simp) _).cell (p := ⟨b, o + k, none⟩) hbl1).trans hc1;
             have own2 := ((owd.below b1 (Nat.le_refl _)).alloc (.cells #[.slice a1 l1 c1] 38)).alloc (.cells #[.slice (some ⟨w1.heap.size, 0, none⟩) 1 1] 30);
             have hb1 : Below w3.heap.size w3 w1 := hbd.trans (b1.mono bsr);
             have bs31 := hb1.size;
             have hb3 : Below w3.heap.size w3 ((w1.alloc (.cells #[.slice a1 l1 c1] 38)).alloc (.cells #[.slice (some ⟨w1.heap.size, 0, none⟩) 1 1] 30)) := (hb1.alloc bs31 _).alloc (by simp; omega) _;
             have hR2 : Rests RoundC (fun k => w3.heap.size ≤ k ∧ u6.ownBlock ≠ some k) ((w1.alloc (.cells #[.slice a1 l1 c1] 38)).alloc (.cells #[.slice (some ⟨w1.heap.size, 0, none⟩) 1 1] 30)) (.slice (some ⟨w1.heap.size, 0, none⟩) 1 1) [rotL r q] := (rests_one (Has.new w1 _ _) ⟨bs31, fun e => by have := (owd.lt _ e).2; simp at this bs1; omega⟩ ((hR0.weak fun k _ hs => ⟨Nat.le_trans bsr hs, fun e => by have := (owd.lt _ e).2; omega⟩).alloc _)).alloc _)
          | ((refine step_append_run rfl _ _ 22 rfl u6 (.slice (some ⟨w1.heap.size + 1, 0, none⟩) 1 1) (by rfl) (by rfl) (run_append1 _ w3.heap.size 22 _ 30 i1 _ 24 Try.underlying22 gi gz0 gz1 gz2 rfl _ Y own2 (w1.heap.size + 1) 1 (.slice (some ⟨w1.heap.size, 0, none⟩) 1 1) [rotL r q] (by simp) rfl hR2 (by rw [HRl.out, maxLen_eq]; omega) (by rw [HRl.out]; omega) (by simp; omega)) ?_; rintro v4 w4 ⟨own4, b4, hA4, hat⟩; have hc4 : w4.cell? ⟨b, o + k, none⟩ = some (.slice ae me ce) := hA4.cell hc3 (fun e => by have := (owd.lt _ e).1; omega))))
      have hb5 := hb3.trans b4
      clear hc hcd hc1 hc2 hc3 hc4 own2 owd hbd hb3 b4 hb1 b1 hA4 hat hR0 hR2
      go_wp2
      go_roundw
      case rel => exact ⟨k + 1, by omega, by go_num, by rw [Hr.out]; exact own4, hb5⟩
      case measure => simp [intOf]; omega
    · obtain rfl : k = lx := by omega
      go_wp2
      go_ret2
      exact ⟨_, _, rfl, by rw [hE.out.1, ← Hlx.out]; exact own.rebase bs3, hE.out.2, b3.trans (hb.mono bs3)⟩
theorem rrobin_any (n s : Int) (w : World) : Calls Try.prog 11 #[.int .i64 n, .int .i64 s] w (RobinSaid n s w) := by
  by_cases h : s < 2 ∨ 4 < s ∨ n < s ∨ 16 < n
  · exact rrobin_err n s w h
  · obtain ⟨n, rfl⟩ := Int.eq_ofNat_of_zero_le (show 0 ≤ n by omega)
    by_cases h2 : s = 2
    · subst h2; exact rrobin_two n w (by omega) (by omega)
    · obtain ⟨s, rfl⟩ := Int.eq_ofNat_of_zero_le (show 0 ≤ s by omega)
      exact rrobin_more n s w (by omega) (by omega) (by omega) (by omega)
end Go.Proofs.Ytkdfplnoldckgaa
