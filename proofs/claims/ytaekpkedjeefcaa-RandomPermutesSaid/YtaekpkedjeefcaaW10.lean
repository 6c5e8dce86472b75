/-
  The walk of the statement RandomPermutes.
-/
import Derived.Test.YtaekpkedjeefcaaRows
import Derived.Test.YtaekpkedjeefcaaPlain2
import Derived.Test.YtaekpkedjeefcaaHeap
import Derived.Test.YtaekpkedjeefcaaW5
import Derived.Test.YtaekpkedjeefcaaW7
import Derived.WalkKit
import Derived.ProofKit
import Derived.OpenShut
import Derived.Outline
namespace Go.Proofs.Ytaekpkedjeefcaa
open Go.ChangeShapes Go.WideShapes Go.ChangeAt Go.RowKit

def bools (l : List Bool) : Array Value := (l.map Value.bool).toArray
theorem bools_get (l : List Bool) (i : Nat) (h : i < l.length) : (bools l)[i]? = some (.bool (l.getD i false)) := by
  unfold bools
  simp [List.getD, h]
theorem bools_set (l : List Bool) (i : Nat) (x : Bool) : (bools l).setIfInBounds i (.bool x) = bools (l.set i x) := by
  unfold bools
  simp [List.map_set]
theorem info_bool : (Try.prog.info? 4).map (fun i => (i.zero, i.size, i.bytes)) = some (some (.bool false), 1, 1) := by kernel_rfl
theorem make_bools (m : Nat) (hm : m ≤ 4096) (w : World) : (Instr.makeSlice 40 (.int .i64 (m : Int)) (.int .i64 (m : Int))).run Try.prog w = .ok (.slice (some ⟨w.heap.size, 0, none⟩) m m) (w.alloc (.cells (bools (List.replicate m false)) 4)) := by
  obtain ⟨i0, hi, hz0, hz1, hz2⟩ := info_parts info_bool
  have h := run_make (P := Try.prog) w 40 4 i0 (.bool false) Try.underlying40 hi hz0 .i64 .i64 (m : Int) (m : Int) (by omega) (by omega) (by rw [hz2]; omega) (by omega)
  rw [hz1] at h
  have e : madeCells (Value.bool false).cells (((m : Int)).toNat * 1) = bools (List.replicate m false) := by
    apply Array.toList_inj.1
    show (madeCells #[Value.bool false] _).toList = _
    rw [toList_madeCells_one]
    simp [bools]
  rw [e] at h
  simpa using h
def ShufM (s n : Int) (m : Nat) (w : World) (e : Ending) (w' : World) : Prop :=
  ∃ b, w.heap.size ≤ b ∧ e = .returned (.tuple #[.agg #[.int .u64 (shufS s n)], .slice (some ⟨b, 0, none⟩) m m]) ∧ Has w' b (ints (shufL s n)) 3 ∧ Below w.heap.size w w'
theorem shuffle_m (s n : Int) (m : Nat) (w : World) (h : Hid (clampN n = m)) : Calls Try.prog 19 #[.agg #[.int .u64 s], .int .i64 n] w (ShufM s n m w) := by
  have h1 := shuffle_any s n w
  unfold Shuffled at h1
  rw [h.out] at h1
  exact h1

set_option maxHeartbeats 1000000 in
theorem permutes_low (s n : Int) (w : World) (h1 : n < 0) :
    Calls Try.prog 7 #[.int .u64 s, .int .i64 n] w fun e w' => e = .returned (.bool true) ∧ Below w.heap.size w w' := by
  have hcl : Hid (clampN n = 0) := hid (by unfold clampN; rw [if_pos h1])
  have hmk : ∀ wx, (Instr.makeSlice 40 (.int .i64 0) (.int .i64 0)).run Try.prog wx = .ok (.slice (some ⟨wx.heap.size, 0, none⟩) 0 0) (wx.alloc (.cells (bools []) 4)) := fun wx => make_bools 0 (by omega) wx
  go_enter Try.func7, Try.ntmps7
  go_wp2_with fail
  refine (shuffle_m _ _ 0 _ hcl).mono ?_
  rintro e w1 ⟨b1, hbb1, rfl, l_1, hb1⟩
  have B1 : Below w.heap.size w w1 := Below.trans (by repeat' (first | with_reducible exact rfl | with_reducible exact Below.refl _ _ | with_reducible refine Below.drew ?_ | with_reducible refine Below.alloc ?_ ?_ _ | with_reducible refine bset ?_ ?_ _ | omega | (simp <;> omega))) (hb1.mono (by first | omega | (simp <;> omega)))
  have hz1 := B1.size
  clear hb1
  clear hbb1 l_1
  go_wp2_with fail
  refine wp_loop_rounds 1 ?_
  rw [rounds_succ]
  go_wp2_with fail
  refine (awake_any _).mono ?_
  rintro e w2 ⟨rfl, hb2⟩
  have B2 : Below w.heap.size w w2 := Below.trans (by repeat' (first | with_reducible exact B1 | with_reducible exact Below.refl _ _ | with_reducible refine Below.drew ?_ | with_reducible refine Below.alloc ?_ ?_ _ | with_reducible refine bset ?_ ?_ _ | omega | (simp <;> omega))) (hb2.mono (by first | omega | (simp <;> omega)))
  have hz2 := B2.size
  clear hb2 B1
  go_wp2_with fail
  go_ret
  exact ⟨rfl, (by repeat' (first | with_reducible exact B2 | with_reducible exact Below.refl _ _ | with_reducible refine Below.drew ?_ | with_reducible refine Below.alloc ?_ ?_ _ | with_reducible refine bset ?_ ?_ _ | omega | (simp <;> omega)))⟩

set_option maxHeartbeats 1000000 in
theorem permutes_mid (s : Int) (m : Nat) (h2 : m ≤ 4096) (w : World) :
    Calls Try.prog 7 #[.int .u64 s, .int .i64 m] w fun e w' => e = .returned (.bool true) ∧ Below w.heap.size w w' := by
  have hcl : Hid (clampN (m : Int) = m) := hid (by unfold clampN; rw [if_neg (by omega), if_neg (by omega)]; omega)
  have h2' : m ≤ 4096 := h2
  have hmk := make_bools m h2'
  
  go_enter Try.func7, Try.ntmps7
  go_wp2_with fail
  refine (shuffle_m _ _ m _ hcl).mono ?_
  rintro e w1 ⟨b1, hbb1, rfl, l_1, hb1⟩
  have B1 : Below w.heap.size w w1 := Below.trans (by repeat' (first | with_reducible exact rfl | with_reducible exact Below.refl _ _ | with_reducible refine Below.drew ?_ | with_reducible refine Below.alloc ?_ ?_ _ | with_reducible refine bset ?_ ?_ _ | omega | (simp <;> omega))) (hb1.mono (by first | omega | (simp <;> omega)))
  have hz1 := B1.size
  clear hb1
  have Ll_1 := l_1.lt
  clear hbb1
  go_wp2_with fail
  obtain ⟨wA, ewA⟩ : ∃ wA, wA = (w1.alloc (.cells #[.int .u64 (shufS s (m : Int))] 24)).alloc (.cells (bools (List.replicate m false)) 4) := ⟨_, rfl⟩
  rw [← ewA]
  have lA : Has wA (b1) (ints (shufL s (m : Int))) 3 := by rw [ewA]; exact (by repeat' (first | with_reducible exact l_1 | ((with_reducible refine Has.newAt ?_); (first | omega | (simp; done) | (simp; omega))) | with_reducible refine Has.drew ?_ | with_reducible refine Has.alloc ?_ _ | with_reducible refine Has.one ?_ _ | with_reducible refine Has.other ?_ ?_ _ | with_reducible exact Has1.of l_1 | ((with_reducible refine Has1.newAt ?_); (first | omega | (simp; done) | (simp; omega))) | with_reducible refine Has1.drew ?_ | with_reducible refine Has1.alloc ?_ _ | with_reducible refine Has1.set ?_ _ | with_reducible refine Has1.other ?_ ?_ _ | omega | (simp <;> omega)))
  have sA : Has wA (w1.heap.size + 1) (bools (List.replicate m false)) 4 := by rw [ewA]; exact (by repeat' (first | with_reducible exact rfl | ((with_reducible refine Has.newAt ?_); (first | omega | (simp; done) | (simp; omega))) | with_reducible refine Has.drew ?_ | with_reducible refine Has.alloc ?_ _ | with_reducible refine Has.one ?_ _ | with_reducible refine Has.other ?_ ?_ _ | with_reducible exact Has1.of rfl | ((with_reducible refine Has1.newAt ?_); (first | omega | (simp; done) | (simp; omega))) | with_reducible refine Has1.drew ?_ | with_reducible refine Has1.alloc ?_ _ | with_reducible refine Has1.set ?_ _ | with_reducible refine Has1.other ?_ ?_ _ | omega | (simp <;> omega)))
  have BA : Below w.heap.size w wA := by rw [ewA]; exact (by repeat' (first | with_reducible exact B1 | with_reducible exact Below.refl _ _ | with_reducible refine Below.drew ?_ | with_reducible refine Below.alloc ?_ ?_ _ | with_reducible refine bset ?_ ?_ _ | omega | (simp <;> omega)))
  obtain ⟨c, ec⟩ : ∃ c, c = w1.heap.size + 1 := ⟨_, rfl⟩
  rw [← ec]
  rw [← ec] at sA
  have hcw : w.heap.size ≤ c := by omega
  have hbc : b1 < c := by omega
  clear ewA ec l_1 B1 hz1 Ll_1 hmk
  obtain ⟨l, el⟩ : ∃ l, l = shufL s (m : Int) := ⟨_, rfl⟩
  rw [← el] at lA
  have hgood : Hid (Inj l ∧ Rng l ∧ l.length = m) := hid (by rw [el]; exact ⟨(shufL_good _ _).1, (shufL_good _ _).2, by rw [shufL_length]; exact hcl.out⟩)
  clear el
  rw [← seenL_zero m l] at sA
  go_loopw [9] (fun i wr => ∃ k : Nat, k ≤ m ∧ i = .int .i64 k ∧ Has wr b1 (ints l) 3 ∧ Has wr c (bools (seenL m l k)) 4 ∧ Below w.heap.size w wr) (fun i _ => m - (intOf i).toNat)
  case atStart => exact ⟨0, Nat.zero_le _, rfl, lA, sA, BA⟩
  case round =>
    clear lA sA BA
    obtain ⟨k, hk, rfl, lA, sA, BA⟩ := hrel
    by_cases hlt : k < m
    · obtain ⟨v, hv, hvm⟩ : ∃ v : Nat, Hid (l.getD k 0 = v) ∧ v < m := by
        have hr := hgood.out.2.1 k (by rw [hgood.out.2.2]; exact hlt)
        rw [hgood.out.2.2] at hr
        exact ⟨(l.getD k 0).toNat, hid (by omega), by omega⟩
      have cl : wr.cell? ⟨b1, k, none⟩ = some (.int .i64 v) := by rw [← hv.out]; exact lA.cell (ints_get l k (by rw [hgood.out.2.2]; exact hlt))
      have cs : wr.cell? ⟨c, v, none⟩ = some (.bool false) := by
        rw [← seenL_fresh l hgood.out.1 k v (by rw [hgood.out.2.2]; exact hlt) hv.out m hvm]
        exact sA.cell (bools_get _ v (by rw [seenL_length]; exact hvm))
      have fs := sA.free v
      go_wp2
      go_roundw
      case rel =>
        refine ⟨k + 1, by omega, by go_num, ?_, ?_, ?_⟩
        · exact (by repeat' (first | with_reducible exact lA | ((with_reducible refine Has.newAt ?_); (first | omega | (simp; done) | (simp; omega))) | with_reducible refine Has.drew ?_ | with_reducible refine Has.alloc ?_ _ | with_reducible refine Has.one ?_ _ | with_reducible refine Has.other ?_ ?_ _ | with_reducible exact Has1.of lA | ((with_reducible refine Has1.newAt ?_); (first | omega | (simp; done) | (simp; omega))) | with_reducible refine Has1.drew ?_ | with_reducible refine Has1.alloc ?_ _ | with_reducible refine Has1.set ?_ _ | with_reducible refine Has1.other ?_ ?_ _ | omega | (simp <;> omega)))
        · rw [← seenL_set l k v (by rw [hgood.out.2.2]; exact hlt) hv.out m]
          have := sA.set v (.bool true)
          rw [bools_set] at this
          exact this
        · exact (by repeat' (first | with_reducible exact BA | with_reducible exact Below.refl _ _ | with_reducible refine Below.drew ?_ | with_reducible refine Below.alloc ?_ ?_ _ | with_reducible refine bset ?_ ?_ _ | omega | (simp <;> omega)))
      case measure => simp [intOf]; omega
    · have hzA := BA.size
      go_wp2_with fail
      refine (awake_any _).mono ?_
      rintro e w11 ⟨rfl, hb11⟩
      have B11 : Below w.heap.size w w11 := Below.trans (by repeat' (first | with_reducible exact BA | with_reducible exact Below.refl _ _ | with_reducible refine Below.drew ?_ | with_reducible refine Below.alloc ?_ ?_ _ | with_reducible refine bset ?_ ?_ _ | omega | (simp <;> omega))) (hb11.mono (by first | omega | (simp <;> omega)))
      have hz11 := B11.size
      clear hb11 BA
      go_wp2_with fail
      go_ret
      exact ⟨rfl, (by repeat' (first | with_reducible exact B11 | with_reducible exact Below.refl _ _ | with_reducible refine Below.drew ?_ | with_reducible refine Below.alloc ?_ ?_ _ | with_reducible refine bset ?_ ?_ _ | omega | (simp <;> omega)))⟩

set_option maxHeartbeats 1000000 in
theorem permutes_high (s : Int) (n : Int) (m : Nat) (hm4 : Hid (m = 4096)) (h1 : 4096 < n) (w : World) :
    Calls Try.prog 7 #[.int .u64 s, .int .i64 n] w fun e w' => e = .returned (.bool true) ∧ Below w.heap.size w w' := by
  have hcl : Hid (clampN n = m) := hid (by rw [hm4.out]; unfold clampN; rw [if_neg (by omega), if_pos h1])
  have h2' : m ≤ 4096 := by rw [hm4.out]; exact Nat.le_refl _
  have hmk := make_bools m h2'
  have hq : (4096 : Int) = (m : Int) := by rw [hm4.out]; rfl
  go_enter Try.func7, Try.ntmps7
  have Hq := hid hq
  clear hq
  go_wp2_with fail
  rw [Hq.out]
  refine (shuffle_m _ _ m _ hcl).mono ?_
  rintro e w1 ⟨b1, hbb1, rfl, l_1, hb1⟩
  have B1 : Below w.heap.size w w1 := Below.trans (by repeat' (first | with_reducible exact rfl | with_reducible exact Below.refl _ _ | with_reducible refine Below.drew ?_ | with_reducible refine Below.alloc ?_ ?_ _ | with_reducible refine bset ?_ ?_ _ | omega | (simp <;> omega))) (hb1.mono (by first | omega | (simp <;> omega)))
  have hz1 := B1.size
  clear hb1
  have Ll_1 := l_1.lt
  clear hbb1
  go_wp2_with fail
  obtain ⟨wA, ewA⟩ : ∃ wA, wA = (w1.alloc (.cells #[.int .u64 (shufS s n)] 24)).alloc (.cells (bools (List.replicate m false)) 4) := ⟨_, rfl⟩
  rw [← ewA]
  have lA : Has wA (b1) (ints (shufL s n)) 3 := by rw [ewA]; exact (by repeat' (first | with_reducible exact l_1 | ((with_reducible refine Has.newAt ?_); (first | omega | (simp; done) | (simp; omega))) | with_reducible refine Has.drew ?_ | with_reducible refine Has.alloc ?_ _ | with_reducible refine Has.one ?_ _ | with_reducible refine Has.other ?_ ?_ _ | with_reducible exact Has1.of l_1 | ((with_reducible refine Has1.newAt ?_); (first | omega | (simp; done) | (simp; omega))) | with_reducible refine Has1.drew ?_ | with_reducible refine Has1.alloc ?_ _ | with_reducible refine Has1.set ?_ _ | with_reducible refine Has1.other ?_ ?_ _ | omega | (simp <;> omega)))
  have sA : Has wA (w1.heap.size + 1) (bools (List.replicate m false)) 4 := by rw [ewA]; exact (by repeat' (first | with_reducible exact rfl | ((with_reducible refine Has.newAt ?_); (first | omega | (simp; done) | (simp; omega))) | with_reducible refine Has.drew ?_ | with_reducible refine Has.alloc ?_ _ | with_reducible refine Has.one ?_ _ | with_reducible refine Has.other ?_ ?_ _ | with_reducible exact Has1.of rfl | ((with_reducible refine Has1.newAt ?_); (first | omega | (simp; done) | (simp; omega))) | with_reducible refine Has1.drew ?_ | with_reducible refine Has1.alloc ?_ _ | with_reducible refine Has1.set ?_ _ | with_reducible refine Has1.other ?_ ?_ _ | omega | (simp <;> omega)))
  have BA : Below w.heap.size w wA := by rw [ewA]; exact (by repeat' (first | with_reducible exact B1 | with_reducible exact Below.refl _ _ | with_reducible refine Below.drew ?_ | with_reducible refine Below.alloc ?_ ?_ _ | with_reducible refine bset ?_ ?_ _ | omega | (simp <;> omega)))
  obtain ⟨c, ec⟩ : ∃ c, c = w1.heap.size + 1 := ⟨_, rfl⟩
  rw [← ec]
  rw [← ec] at sA
  have hcw : w.heap.size ≤ c := by omega
  have hbc : b1 < c := by omega
  clear ewA ec l_1 B1 hz1 Ll_1 hmk
  obtain ⟨l, el⟩ : ∃ l, l = shufL s n := ⟨_, rfl⟩
  rw [← el] at lA
  have hgood : Hid (Inj l ∧ Rng l ∧ l.length = m) := hid (by rw [el]; exact ⟨(shufL_good _ _).1, (shufL_good _ _).2, by rw [shufL_length]; exact hcl.out⟩)
  clear el
  rw [← seenL_zero m l] at sA
  go_loopw [9] (fun i wr => ∃ k : Nat, k ≤ m ∧ i = .int .i64 k ∧ Has wr b1 (ints l) 3 ∧ Has wr c (bools (seenL m l k)) 4 ∧ Below w.heap.size w wr) (fun i _ => m - (intOf i).toNat)
  case atStart => exact ⟨0, Nat.zero_le _, rfl, lA, sA, BA⟩
  case round =>
    clear lA sA BA
    obtain ⟨k, hk, rfl, lA, sA, BA⟩ := hrel
    by_cases hlt : k < m
    · obtain ⟨v, hv, hvm⟩ : ∃ v : Nat, Hid (l.getD k 0 = v) ∧ v < m := by
        have hr := hgood.out.2.1 k (by rw [hgood.out.2.2]; exact hlt)
        rw [hgood.out.2.2] at hr
        exact ⟨(l.getD k 0).toNat, hid (by omega), by omega⟩
      have cl : wr.cell? ⟨b1, k, none⟩ = some (.int .i64 v) := by rw [← hv.out]; exact lA.cell (ints_get l k (by rw [hgood.out.2.2]; exact hlt))
      have cs : wr.cell? ⟨c, v, none⟩ = some (.bool false) := by
        rw [← seenL_fresh l hgood.out.1 k v (by rw [hgood.out.2.2]; exact hlt) hv.out m hvm]
        exact sA.cell (bools_get _ v (by rw [seenL_length]; exact hvm))
      have fs := sA.free v
      go_wp2
      go_roundw
      case rel =>
        refine ⟨k + 1, by omega, by go_num, ?_, ?_, ?_⟩
        · exact (by repeat' (first | with_reducible exact lA | ((with_reducible refine Has.newAt ?_); (first | omega | (simp; done) | (simp; omega))) | with_reducible refine Has.drew ?_ | with_reducible refine Has.alloc ?_ _ | with_reducible refine Has.one ?_ _ | with_reducible refine Has.other ?_ ?_ _ | with_reducible exact Has1.of lA | ((with_reducible refine Has1.newAt ?_); (first | omega | (simp; done) | (simp; omega))) | with_reducible refine Has1.drew ?_ | with_reducible refine Has1.alloc ?_ _ | with_reducible refine Has1.set ?_ _ | with_reducible refine Has1.other ?_ ?_ _ | omega | (simp <;> omega)))
        · rw [← seenL_set l k v (by rw [hgood.out.2.2]; exact hlt) hv.out m]
          have := sA.set v (.bool true)
          rw [bools_set] at this
          exact this
        · exact (by repeat' (first | with_reducible exact BA | with_reducible exact Below.refl _ _ | with_reducible refine Below.drew ?_ | with_reducible refine Below.alloc ?_ ?_ _ | with_reducible refine bset ?_ ?_ _ | omega | (simp <;> omega)))
      case measure => simp [intOf]; omega
    · have hzA := BA.size
      go_wp2_with fail
      refine (awake_any _).mono ?_
      rintro e w11 ⟨rfl, hb11⟩
      have B11 : Below w.heap.size w w11 := Below.trans (by repeat' (first | with_reducible exact BA | with_reducible exact Below.refl _ _ | with_reducible refine Below.drew ?_ | with_reducible refine Below.alloc ?_ ?_ _ | with_reducible refine bset ?_ ?_ _ | omega | (simp <;> omega))) (hb11.mono (by first | omega | (simp <;> omega)))
      have hz11 := B11.size
      clear hb11 BA
      go_wp2_with fail
      go_ret
      exact ⟨rfl, (by repeat' (first | with_reducible exact B11 | with_reducible exact Below.refl _ _ | with_reducible refine Below.drew ?_ | with_reducible refine Below.alloc ?_ ?_ _ | with_reducible refine bset ?_ ?_ _ | omega | (simp <;> omega)))⟩

theorem permutes_any (s n : Int) (w : World) :
    Calls Try.prog 7 #[.int .u64 s, .int .i64 n] w fun e w' => e = .returned (.bool true) ∧ Below w.heap.size w w' := by
  by_cases h1 : n < 0
  · exact permutes_low s n w h1
  · by_cases h2 : 4096 < n
    · exact permutes_high s n 4096 (hid rfl) h2 w
    · obtain ⟨m, rfl⟩ := Int.eq_ofNat_of_zero_le (show 0 ≤ n by omega)
      exact permutes_mid s m (by omega) w
end Go.Proofs.Ytaekpkedjeefcaa
