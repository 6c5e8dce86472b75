/-
  The walks of rotated, of the program and of the reference.
-/
import Derived.Test.YtkdfplnoldckgaaRows
import Derived.Test.YtkdfplnoldckgaaSMem
import Derived.Test.YtkdfplnoldckgaaSPlain
import Derived.WalkKit
import Derived.ProofKit
import Derived.OpenShut
import Derived.Deep.QuietTactic
import Derived.Deep.RegionHeld3
import Derived.Deep.DrawnRows
import Derived.BigQuiet
import Derived.Outline
namespace Go.Proofs.Ytkdfplnoldckgaa
open Go.ChangeShapes Go.WideShapes Go.ChangeAt Go.RowKit
attribute [local go_sem ↓] Go.wp_at_zero Go.wp_at_succ

theorem info_int : (Try.prog.info? 3).map (fun i => (i.zero, i.size, i.bytes)) = some (some (.int .i64 0), 1, 8) := by kernel_rfl
theorem maxLen_eq : maxLen = 9223372036854775807 := rfl
theorem rotated_some (b o n cap : Nat) (k : Int) (l : List Int) (w : World) (h0 : 0 < n) (hn : n ≤ 1000) (hk : 0 ≤ k ∧ k ≤ 1000000) (h : HeldL IntC w (some ⟨b, o, none⟩) n cap l) :
    Calls Try.prog 31 #[.slice (some ⟨b, o, none⟩) n cap, .int .i64 k] w fun e w' => ∃ v, e = .returned v ∧ OwnL IntC w.heap.size 3 w' v (rotL l k.toNat) ∧ Below w.heap.size w w' := by
  obtain ⟨i0, hi, hz0, hz1, hz2⟩ := info_parts info_int
  obtain ⟨k, rfl⟩ := Int.eq_ofNat_of_zero_le hk.1
  rw [Int.toNat_natCast]
  have hcl := h.le
  have hcm := h.max
  have hnz : ((n : Int) == 0) = false := by simp; omega
  obtain ⟨q, eq⟩ : ∃ q : Nat, q = k % n := ⟨_, rfl⟩
  have hq : (k : Int) % (n : Int) = q := by rw [eq]; rfl
  have hqn : q < n := by rw [eq]; exact Nat.mod_lt _ h0
  have hq0 : (0 : Int) ≤ q := by omega
  have hqn' : (q : Int) ≤ n := by omega
  have hqc : (q : Int) ≤ cap := by omega
  have hcq : ¬ cap = q := by omega
  have hk2 := hk.2
  have Hr := hid (show rotL l k = l.drop q ++ l.take q by rw [eq, ← h.len]; rfl)
  have hd := h.drop q (by omega)
  have ht := h.take q (by omega)
  clear eq
  go_enter Try.func31, Try.ntmps31
  go_wp2
  have own0 : OwnL IntC w.heap.size 3 (w.alloc (.cells #[] 3)).drew (.slice (some ⟨w.heap.size, 0, none⟩) 0 0) [] := (OwnL.made IntC _ _ w (Nat.le_refl _)).drew
  have b0 : Below w.heap.size w (w.alloc (.cells #[] 3)).drew := ((Below.refl _ w).alloc (Nat.le_refl _) _).drew
  obtain ⟨us1, hl1, hus1⟩ := news_ints (hd.below b0 (Nat.le_refl _)) (fun k => w.heap.size ≤ k ∧ Value.ownBlock (.slice (some ⟨w.heap.size, 0, none⟩) 0 0) ≠ some k)
  have hdl := hd.len
  have htl := ht.len
  have bs0 := b0.size
  go_region_held3 (fun _ => True) (exact trivial) (first
    | ((refine step_append_run rfl _ _ 36 rfl (.slice (some ⟨w.heap.size, 0, none⟩) 0 0) (.slice (some ⟨b, o + q, none⟩) (n - q) (cap - q)) rfl rfl (hdl ▸ run_appendL _ w.heap.size 36 _ 3 i0 _ 8 Try.underlying36 hi hz0 hz1 hz2 rfl _ [] own0 _ _ us1 (l.drop q) hl1 hus1 (by rw [hdl, maxLen_eq]; simp; omega) (by rw [hdl]; simp; omega) bs0) ?_; rintro v1 w1 ⟨own1, b1, a1⟩; rw [List.nil_append] at own1; have bb1 := b0.trans b1; obtain ⟨us2, hl2, hus2⟩ := news_ints (ht.below bb1 (Nat.le_refl _)) (fun k => w.heap.size ≤ k ∧ v1.ownBlock ≠ some k)))
    | ((refine step_append_run rfl _ _ 36 rfl v1 (.slice (some ⟨b, o, none⟩) q cap) rfl rfl (htl ▸ run_appendL _ w.heap.size 36 _ 3 i0 _ 8 Try.underlying36 hi hz0 hz1 hz2 rfl _ (l.drop q) own1 _ _ us2 (l.take q) hl2 hus2 (by rw [hdl, htl, maxLen_eq]; omega) (by rw [hdl, htl]; omega) (Nat.le_trans bs0 b1.size)) ?_; rintro v2 w2 ⟨own2, b2, a2⟩)))
  go_wp2
  go_ret
  exact ⟨_, rfl, by rw [Hr.out]; exact own2, bb1.trans b2⟩
theorem rotated_none (ad : Option Addr) (cap : Nat) (k : Int) (w : World) :
    Calls Try.prog 31 #[.slice ad 0 cap, .int .i64 k] w fun e w' => ∃ v, e = .returned v ∧ OwnL IntC w.heap.size 3 w' v (rotL [] k.toNat) ∧ Below w.heap.size w w' := by
  go_enter Try.func31, Try.ntmps31
  go_wp2
  go_ret
  exact ⟨_, rfl, by rw [rotL_nil]; exact OwnL.nil _ _ _ _, Below.refl _ _⟩
theorem rotated_any (ad : Option Addr) (n cap : Nat) (k : Int) (l : List Int) (w : World) (hn : n ≤ 1000) (hk : 0 ≤ k ∧ k ≤ 1000000) (h : HeldL IntC w ad n cap l) :
    Calls Try.prog 31 #[.slice ad n cap, .int .i64 k] w fun e w' => ∃ v, e = .returned v ∧ OwnL IntC w.heap.size 3 w' v (rotL l k.toNat) ∧ Below w.heap.size w w' := by
  by_cases h0 : n = 0
  · subst h0
    obtain rfl : l = [] := List.eq_nil_of_length_eq_zero h.len
    exact rotated_none ad cap k w
  · obtain ⟨b, o, rfl⟩ := h.head (by omega)
    exact rotated_some b o n cap k l w (by omega) hn hk h

theorem rrotated_none (ad : Option Addr) (cap : Nat) (k : Int) (w : World) :
    Calls Try.prog 34 #[.slice ad 0 cap, .int .i64 k] w fun e w' => ∃ v, e = .returned v ∧ OwnL IntC w.heap.size 3 w' v (rotL [] k.toNat) ∧ Below w.heap.size w w' := by
  go_enter Try.func34, Try.ntmps34
  go_wp2
  refine wp_loop_rounds 1 ?_
  rw [rounds_succ]
  go_wp2
  go_ret
  exact ⟨_, rfl, by rw [rotL_nil]; exact OwnL.nil _ _ _ _, Below.refl _ _⟩
theorem rrotated_some (b o n cap : Nat) (k : Int) (l : List Int) (w : World) (h0 : 0 < n) (hn : n ≤ 1000) (hk : 0 ≤ k ∧ k ≤ 1000000) (h : HeldL IntC w (some ⟨b, o, none⟩) n cap l) :
    Calls Try.prog 34 #[.slice (some ⟨b, o, none⟩) n cap, .int .i64 k] w fun e w' => ∃ v, e = .returned v ∧ OwnL IntC w.heap.size 3 w' v (rotL l k.toNat) ∧ Below w.heap.size w w' := by
  obtain ⟨i0, hi, hz0, hz1, hz2⟩ := info_parts info_int
  obtain ⟨k, rfl⟩ := Int.eq_ofNat_of_zero_le hk.1
  rw [Int.toNat_natCast]
  have hk2 := hk.2
  have hl := hid h.len
  go_enter Try.func34, Try.ntmps34
  go_wp2
  go_loopw [5, 6] (fun v i wr => ∃ j : Nat, j ≤ n ∧ i = .int .i64 j ∧ OwnL IntC w.heap.size 3 wr v ((rotL l k).take j) ∧ Below w.heap.size w wr) (fun _ i _ => n - (intOf i).toNat)
  case atStart => exact ⟨0, Nat.zero_le _, rfl, OwnL.nil _ _ _ _, Below.refl _ _⟩
  case round =>
    obtain ⟨j, hj, rfl, own, hb⟩ := hrel
    by_cases hlt : j < n
    · obtain ⟨q, eq⟩ : ∃ q : Nat, q = (j + k) % n := ⟨_, rfl⟩
      have hq : ((j : Int) + (k : Int)) % (n : Int) = q := by rw [eq]; simp
      have hqn : q < n := by rw [eq]; exact Nat.mod_lt _ h0
      have hq0 : (0 : Int) ≤ q := by omega
      have hqn' : (q : Int) < n := by omega
      have hs := hid (show (rotL l k).take (j + 1) = (rotL l k).take j ++ [l.getD q 0] by rw [rotL_snoc l k j (by rw [hl.out]; exact hlt), hl.out, eq])
      have hc := (h.below hb (Nat.le_refl _)).int q hqn
      have bs := hb.size
      have hrl : ((rotL l k).take j).length = j := by rw [List.length_take, rotL_length, hl.out]; omega
      obtain ⟨x, ex⟩ : ∃ x, x = l.getD q 0 := ⟨_, rfl⟩
      rw [← ex] at hc hs
      obtain ⟨L, eL⟩ : ∃ L, L = (rotL l k).take j := ⟨_, rfl⟩
      rw [← eL] at own hrl hs
      have Hrl := hid hrl
      clear eq ex eL hrl
      have own1 := own.alloc (.cells #[.int .i64 x] 3)
      have b1 := hb.alloc bs (.cells #[.int .i64 x] 3)
      go_wp2_with (at_builtin; refine wpList_append_run rfl _ _ 36 rfl _ _ rfl rfl (run_append1 _ w.heap.size 36 _ 3 i0 _ 8 Try.underlying36 hi hz0 hz1 hz2 rfl _ L own1 wr.heap.size 1 (.int .i64 x) x (by simp) rfl (Rests.int _ _ _) (by rw [Hrl.out, maxLen_eq]; omega) (by rw [Hrl.out]; omega) (Nat.le_trans bs (by simp))) ?_; rintro v1 w1 ⟨own2, b2, _⟩)
      have b3 := b1.trans b2
      clear own own1 b1 b2 hb hc
      go_wp2
      go_roundw
      case rel => exact ⟨j + 1, by omega, by go_num, by rw [hs.out]; exact own2, b3⟩
      case measure => simp [intOf]; omega
    · obtain rfl : j = n := by omega
      rw [List.take_of_length_le (by rw [rotL_length, hl.out]; exact Nat.le_refl _)] at own
      go_wp2
      go_ret
      exact ⟨_, rfl, own, hb⟩
theorem rrotated_any (ad : Option Addr) (n cap : Nat) (k : Int) (l : List Int) (w : World) (hn : n ≤ 1000) (hk : 0 ≤ k ∧ k ≤ 1000000) (h : HeldL IntC w ad n cap l) :
    Calls Try.prog 34 #[.slice ad n cap, .int .i64 k] w fun e w' => ∃ v, e = .returned v ∧ OwnL IntC w.heap.size 3 w' v (rotL l k.toNat) ∧ Below w.heap.size w w' := by
  by_cases h0 : n = 0
  · subst h0
    obtain rfl : l = [] := List.eq_nil_of_length_eq_zero h.len
    exact rrotated_none ad cap k w
  · obtain ⟨b, o, rfl⟩ := h.head (by omega)
    exact rrotated_some b o n cap k l w (by omega) hn hk h
end Go.Proofs.Ytkdfplnoldckgaa
