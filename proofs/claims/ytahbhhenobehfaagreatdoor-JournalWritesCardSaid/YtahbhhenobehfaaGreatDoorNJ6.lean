/-
  The walks of Crash, and of the methods of the reference's journal.
-/
import Derived.Test.YtahbhhenobehfaaGreatDoorRows
import Derived.Test.YtahbhhenobehfaaGreatDoorM1
import Derived.Test.YtahbhhenobehfaaGreatDoorM4
import Derived.Test.YtahbhhenobehfaaGreatDoorNJ5
import Derived.WalkKit
import Derived.ProofKit
import Derived.OpenShut
import Derived.BigRegion
import Derived.Laws.CopyOwn
import Derived.Laws.Concat
import Derived.Deep.QuietTactic
import Derived.BigQuiet
import Derived.Outline
namespace Go.Proofs.YtahbhhenobehfaaGreatDoor
open Go.ChangeShapes Go.WideShapes Go.ChangeAt Go.RowKit

/-- How many bytes a journal has behind Crash. -/
def crash (n F : Nat) (keep : Int) : Nat := if keep < 0 then F else if keep ≤ (n : Int) - F then F + keep.toNat else n
theorem crash_bd (n F : Nat) (keep : Int) (h : F ≤ n) : F ≤ crash n F keep ∧ crash n F keep ≤ n := by unfold crash; split <;> (try split) <;> omega
theorem bcells_get (l : List UInt8) (i : Nat) (hi : i < l.length) : (bcells l)[i]? = some (.int .u8 (bt l i)) := by
  unfold bcells bt
  rw [List.getElem?_map, List.getElem?_eq_getElem hi, List.getD_eq_getElem?_getD, List.getElem?_eq_getElem hi]
  rfl
theorem bt_take (l : List UInt8) (m i : Nat) (h : i < m) : bt (l.take m) i = bt l i := by
  unfold bt
  simp [List.getD, h]
theorem splice_all (cur cs : List Value) (h : cs.length = cur.length) : splice cur 0 cs = cs := by
  unfold splice
  rw [Nat.zero_add, h, List.drop_length, List.take_zero]
  simp
def zeros (m : Nat) : Array Value := (List.replicate m (Value.int .u8 0)).toArray
theorem size_byte : (Tryz.prog.info? 5).map (·.size) = some 1 := by kernel_rfl
theorem make_bytes (m : Nat) (hm : m ≤ 4000000) (w : World) : (Instr.makeSlice 65 (.int .i64 (m : Int)) (.int .i64 (m : Int))).run Tryz.prog w = .ok (.slice (some ⟨w.heap.size, 0, none⟩) m m) (w.alloc (.cells (zeros m) 5)) := by
  obtain ⟨i0, hi, hz0, hz1, hz2⟩ := info_parts info_byte
  have h := run_make (P := Tryz.prog) w 65 5 i0 (.int .u8 0) Tryz.underlying65 hi hz0 .i64 .i64 (m : Int) (m : Int) (by omega) (by omega) (by rw [hz2]; omega) (by omega)
  rw [hz1] at h
  have e : madeCells (Value.int .u8 0).cells (((m : Int)).toNat * 1) = zeros m := by
    apply Array.toList_inj.1
    show (madeCells #[Value.int .u8 0] _).toList = _
    rw [toList_madeCells_one]
    simp [zeros]
  rw [e] at h
  simpa using h


set_option maxRecDepth 20000 in
set_option maxHeartbeats 1000000 in
theorem crash_neg (j : Nat) (B : List UInt8) (F n : Nat) (keep : Int) (w : World) (h : JAt w j B F) (hlen : Hid (B.length = n)) (hn : n ≤ 4000000) (hF : F ≤ n) (h1 : keep < 0) :
    Calls Tryz.prog 13 #[.pointer (some ⟨j, 0, none⟩), .int .i64 keep] w fun e w' => e = .returned (.tuple #[]) ∧ JAt w' j (B.take (crash n F keep)) (crash n F keep) ∧ Only [j] w w' := by
  have h0 := h
  obtain ⟨ad, n', cap, h1', h2', h3, h4, h5⟩ := h
  obtain rfl : n = n' := by rw [← h3, hlen.out]
  have hne := fun h0 => h2'.ne h1' (three_ne _ _ _ (by simp) (by simp) (by simp)) h0
  have c1 : w.cell? ⟨j, 1, none⟩ = some (.slice ad n cap) := h1'.cell (j := 1) rfl
  have c2 : w.cell? ⟨j, 2, none⟩ = some (.int .i64 F) := h1'.cell (j := 2) rfl
  have f1 := h1'.free 1
  have f2 := h1'.free 2
  have hcb := crash_bd n F keep hF
  have hcv : crash n F keep = F := by unfold crash; rw [if_pos h1]
  clear h3
  go_enter Tryz.func13, Tryz.ntmps13
  go_wp2_with fail
  refine (right_any j B F _ h0).mono ?_
  rintro e w' ⟨rfl, rfl⟩
  have Em : Hid (F = crash n F keep) := hid hcv.symm
  clear hcv
  have hmk := make_bytes F (by omega)
  go_wp2_with fail
  go_quiet (fail)
  obtain ⟨w3, e3⟩ : ∃ w3, w3 = w.drewN nq := ⟨_, rfl⟩
  rw [← e3]
  have k1 : Has w3 j #[.bool true, .slice ad n cap, .int .i64 F] 67 := by rw [e3]; exact h1'
  have k2 : RowB w3 ad B := by rw [e3]; exact h2'
  have hw3 : Below w.heap.size w w3 := by rw [e3]; exact ⟨rfl, rfl, rfl, Nat.le_refl _, fun _ _ => rfl⟩
  have lj := k1.lt
  have d1 : w3.cell? ⟨j, 1, none⟩ = some (.slice ad n cap) := k1.cell (j := 1) rfl
  have d2 : w3.cell? ⟨j, 2, none⟩ = some (.int .i64 F) := k1.cell (j := 2) rfl
  have g1 := k1.free 1
  have g2 := k1.free 2
  clear e3 c1 c2 f1 f2
  go_wp2_with (refine wpList_copy_splice (o := ⟨some 34, _, _, _, _, _⟩) rfl (.tmp 29) (.tmp 33) 65 65 rfl 5 Tryz.underlying65 size_byte _ _ _ _ _ _ rfl rfl w3.heap.size 0 (List.replicate F (.int .u8 0)) 5 ?cg (bcells (B.take F)) ?cn ?cp ?cf ?c1 w3.heap.size w3 ?cb (Nat.le_refl _) ?_)
  case cg => exact Has.newAt (by simp)
  case cn => rw [bcells_length, List.length_take, hlen.out, Nat.min_comm]
  case cp =>
    intro hpos
    have hB0 : 0 < B.length := by rw [bcells_length, List.length_take] at hpos; omega
    obtain ⟨b, o, rfl⟩ := k2.head hB0
    refine ⟨_, rfl, fun i v hv => ?_⟩
    have hi : i < (B.take F).length := by rw [← bcells_length]; exact (List.getElem?_eq_some_iff.1 hv).1
    have hiB : i < B.length := by rw [List.length_take] at hi; omega
    have hc := k2.at i hiB
    have e2 : (⟨b, o, none⟩ : Addr).add i = ⟨b, o + i, none⟩ := by unfold Addr.add; split <;> simp_all
    have hbw := lt_of_cell hc
    rw [e2]
    refine (World.cell?_alloc_lt w3 _ ⟨b, o + i, none⟩ hbw).trans ?_
    rw [hc, ← hv, bcells_get _ _ hi, bt_take _ _ _ (by rw [List.length_take] at hi; omega)]
  case cf => rw [bcells_length, List.length_take, List.length_replicate]; omega
  case c1 =>
    intro v hv
    simp only [bcells, List.mem_map] at hv
    obtain ⟨x, _, rfl⟩ := hv
    rfl
  case cb => exact (Below.refl _ _).alloc (Nat.le_refl _) _
  intro w5 hH5 hb5
  have hbw5 : Below w.heap.size w w5 := hw3.trans (hb5.mono hw3.size)
  have k5 : Has w5 j #[.bool true, .slice ad n cap, .int .i64 F] 67 := k1.below hb5 lj
  have l5 := k5.lt
  have c5 : w5.cell? ⟨j, 1, none⟩ = some (.slice ad n cap) := k5.cell (j := 1) rfl
  have c6 : w5.cell? ⟨j, 2, none⟩ = some (.int .i64 F) := k5.cell (j := 2) rfl
  have f5 := k5.free 1
  have f6 := k5.free 2
  have hlt3 : (bcells (B.take F)).length = F := by rw [bcells_length, List.length_take, hlen.out]; omega
  have hN5 : Has w5 w3.heap.size (bcells (B.take F)).toArray 5 := by
    have h := hH5.out
    rw [splice_all _ _ (by rw [hlt3, List.length_replicate])] at h
    exact h
  clear k1 k2 d1 d2 g1 g2 hmk hne
  go_wp2
  go_end0
  have hH : Has ((w5.setCell ⟨j, 1, none⟩ (.slice (some ⟨w3.heap.size, 0, none⟩) F F)).setCell ⟨j, 2, none⟩ (.int .i64 F)) j #[.bool true, .slice (some ⟨w3.heap.size, 0, none⟩) F F, .int .i64 F] 67 := (k5.set 1 (.slice (some ⟨w3.heap.size, 0, none⟩) F F)).set 2 (.int .i64 F)
  have hO : Only [j] w ((w5.setCell ⟨j, 1, none⟩ (.slice (some ⟨w3.heap.size, 0, none⟩) F F)).setCell ⟨j, 2, none⟩ (.int .i64 F)) := ((Only.ofBelow hbw5 (Nat.le_refl _)).setIn (by simp) _).setIn (by simp) _
  have hM : Has ((w5.setCell ⟨j, 1, none⟩ (.slice (some ⟨w3.heap.size, 0, none⟩) F F)).setCell ⟨j, 2, none⟩ (.int .i64 F)) w3.heap.size (bcells (B.take F)).toArray 5 := (hN5.other (by show w3.heap.size ≠ j; omega) _).other (by show w3.heap.size ≠ j; omega) _
  refine ⟨rfl, ⟨some ⟨w3.heap.size, 0, none⟩, F, F, ?_, ?_, ?_, Nat.le_refl _, by omega⟩, hO⟩
  · rw [← Em.out]; exact hH
  · rw [← Em.out]
    intro i hi
    refine ⟨w3.heap.size, 0, rfl, ?_⟩
    rw [Nat.zero_add]
    refine hM.cell ?_
    rw [List.getElem?_toArray]
    exact bcells_get _ _ hi
  · rw [← Em.out, ← bcells_length]; exact hlt3

set_option maxRecDepth 20000 in
set_option maxHeartbeats 1000000 in
theorem crash_mid (j : Nat) (B : List UInt8) (F n : Nat) (keep : Int) (w : World) (h : JAt w j B F) (hlen : Hid (B.length = n)) (hn : n ≤ 4000000) (hF : F ≤ n) (h1 : 0 ≤ keep) (h2 : keep ≤ (n : Int) - F) :
    Calls Tryz.prog 13 #[.pointer (some ⟨j, 0, none⟩), .int .i64 keep] w fun e w' => e = .returned (.tuple #[]) ∧ JAt w' j (B.take (crash n F keep)) (crash n F keep) ∧ Only [j] w w' := by
  have h0 := h
  obtain ⟨ad, n', cap, h1', h2', h3, h4, h5⟩ := h
  obtain rfl : n = n' := by rw [← h3, hlen.out]
  have hne := fun h0 => h2'.ne h1' (three_ne _ _ _ (by simp) (by simp) (by simp)) h0
  have c1 : w.cell? ⟨j, 1, none⟩ = some (.slice ad n cap) := h1'.cell (j := 1) rfl
  have c2 : w.cell? ⟨j, 2, none⟩ = some (.int .i64 F) := h1'.cell (j := 2) rfl
  have f1 := h1'.free 1
  have f2 := h1'.free 2
  have hcb := crash_bd n F keep hF
  have hcv : crash n F keep = (F + keep.toNat) := by unfold crash; rw [if_neg (by omega), if_pos h2]
  clear h3
  go_enter Tryz.func13, Tryz.ntmps13
  go_wp2_with fail
  refine (right_any j B F _ h0).mono ?_
  rintro e w' ⟨rfl, rfl⟩
  obtain ⟨m, em⟩ : ∃ m, m = crash n F keep := ⟨_, rfl⟩
  rw [← em] at hcb hcv
  have Em := hid em
  have hm : (F : Int) + keep = (m : Int) := by omega
  clear em hcv
  have hmk := make_bytes m (by omega)
  go_wp2_with fail
  go_quiet (fail)
  obtain ⟨w3, e3⟩ : ∃ w3, w3 = w.drewN nq := ⟨_, rfl⟩
  rw [← e3]
  have k1 : Has w3 j #[.bool true, .slice ad n cap, .int .i64 F] 67 := by rw [e3]; exact h1'
  have k2 : RowB w3 ad B := by rw [e3]; exact h2'
  have hw3 : Below w.heap.size w w3 := by rw [e3]; exact ⟨rfl, rfl, rfl, Nat.le_refl _, fun _ _ => rfl⟩
  have lj := k1.lt
  have d1 : w3.cell? ⟨j, 1, none⟩ = some (.slice ad n cap) := k1.cell (j := 1) rfl
  have d2 : w3.cell? ⟨j, 2, none⟩ = some (.int .i64 F) := k1.cell (j := 2) rfl
  have g1 := k1.free 1
  have g2 := k1.free 2
  clear e3 c1 c2 f1 f2
  go_wp2_with (refine wpList_copy_splice (o := ⟨some 34, _, _, _, _, _⟩) rfl (.tmp 29) (.tmp 33) 65 65 rfl 5 Tryz.underlying65 size_byte _ _ _ _ _ _ rfl rfl w3.heap.size 0 (List.replicate m (.int .u8 0)) 5 ?cg (bcells (B.take m)) ?cn ?cp ?cf ?c1 w3.heap.size w3 ?cb (Nat.le_refl _) ?_)
  case cg => exact Has.newAt (by simp)
  case cn => rw [bcells_length, List.length_take, hlen.out, Nat.min_comm]
  case cp =>
    intro hpos
    have hB0 : 0 < B.length := by rw [bcells_length, List.length_take] at hpos; omega
    obtain ⟨b, o, rfl⟩ := k2.head hB0
    refine ⟨_, rfl, fun i v hv => ?_⟩
    have hi : i < (B.take m).length := by rw [← bcells_length]; exact (List.getElem?_eq_some_iff.1 hv).1
    have hiB : i < B.length := by rw [List.length_take] at hi; omega
    have hc := k2.at i hiB
    have e2 : (⟨b, o, none⟩ : Addr).add i = ⟨b, o + i, none⟩ := by unfold Addr.add; split <;> simp_all
    have hbw := lt_of_cell hc
    rw [e2]
    refine (World.cell?_alloc_lt w3 _ ⟨b, o + i, none⟩ hbw).trans ?_
    rw [hc, ← hv, bcells_get _ _ hi, bt_take _ _ _ (by rw [List.length_take] at hi; omega)]
  case cf => rw [bcells_length, List.length_take, List.length_replicate]; omega
  case c1 =>
    intro v hv
    simp only [bcells, List.mem_map] at hv
    obtain ⟨x, _, rfl⟩ := hv
    rfl
  case cb => exact (Below.refl _ _).alloc (Nat.le_refl _) _
  intro w5 hH5 hb5
  have hbw5 : Below w.heap.size w w5 := hw3.trans (hb5.mono hw3.size)
  have k5 : Has w5 j #[.bool true, .slice ad n cap, .int .i64 F] 67 := k1.below hb5 lj
  have l5 := k5.lt
  have c5 : w5.cell? ⟨j, 1, none⟩ = some (.slice ad n cap) := k5.cell (j := 1) rfl
  have c6 : w5.cell? ⟨j, 2, none⟩ = some (.int .i64 F) := k5.cell (j := 2) rfl
  have f5 := k5.free 1
  have f6 := k5.free 2
  have hlt3 : (bcells (B.take m)).length = m := by rw [bcells_length, List.length_take, hlen.out]; omega
  have hN5 : Has w5 w3.heap.size (bcells (B.take m)).toArray 5 := by
    have h := hH5.out
    rw [splice_all _ _ (by rw [hlt3, List.length_replicate])] at h
    exact h
  clear k1 k2 d1 d2 g1 g2 hmk hne
  go_wp2
  go_end0
  have hH : Has ((w5.setCell ⟨j, 1, none⟩ (.slice (some ⟨w3.heap.size, 0, none⟩) m m)).setCell ⟨j, 2, none⟩ (.int .i64 m)) j #[.bool true, .slice (some ⟨w3.heap.size, 0, none⟩) m m, .int .i64 m] 67 := (k5.set 1 (.slice (some ⟨w3.heap.size, 0, none⟩) m m)).set 2 (.int .i64 m)
  have hO : Only [j] w ((w5.setCell ⟨j, 1, none⟩ (.slice (some ⟨w3.heap.size, 0, none⟩) m m)).setCell ⟨j, 2, none⟩ (.int .i64 m)) := ((Only.ofBelow hbw5 (Nat.le_refl _)).setIn (by simp) _).setIn (by simp) _
  have hM : Has ((w5.setCell ⟨j, 1, none⟩ (.slice (some ⟨w3.heap.size, 0, none⟩) m m)).setCell ⟨j, 2, none⟩ (.int .i64 m)) w3.heap.size (bcells (B.take m)).toArray 5 := (hN5.other (by show w3.heap.size ≠ j; omega) _).other (by show w3.heap.size ≠ j; omega) _
  refine ⟨rfl, ⟨some ⟨w3.heap.size, 0, none⟩, m, m, ?_, ?_, ?_, Nat.le_refl _, by omega⟩, hO⟩
  · rw [← Em.out]; exact hH
  · rw [← Em.out]
    intro i hi
    refine ⟨w3.heap.size, 0, rfl, ?_⟩
    rw [Nat.zero_add]
    refine hM.cell ?_
    rw [List.getElem?_toArray]
    exact bcells_get _ _ hi
  · rw [← Em.out, ← bcells_length]; exact hlt3

set_option maxRecDepth 20000 in
set_option maxHeartbeats 1000000 in
theorem crash_all (j : Nat) (B : List UInt8) (F n : Nat) (keep : Int) (w : World) (h : JAt w j B F) (hlen : Hid (B.length = n)) (hn : n ≤ 4000000) (hF : F ≤ n) (h1 : 0 ≤ keep) (h2 : (n : Int) - F < keep) :
    Calls Tryz.prog 13 #[.pointer (some ⟨j, 0, none⟩), .int .i64 keep] w fun e w' => e = .returned (.tuple #[]) ∧ JAt w' j (B.take (crash n F keep)) (crash n F keep) ∧ Only [j] w w' := by
  have h0 := h
  obtain ⟨ad, n', cap, h1', h2', h3, h4, h5⟩ := h
  obtain rfl : n = n' := by rw [← h3, hlen.out]
  have hne := fun h0 => h2'.ne h1' (three_ne _ _ _ (by simp) (by simp) (by simp)) h0
  have c1 : w.cell? ⟨j, 1, none⟩ = some (.slice ad n cap) := h1'.cell (j := 1) rfl
  have c2 : w.cell? ⟨j, 2, none⟩ = some (.int .i64 F) := h1'.cell (j := 2) rfl
  have f1 := h1'.free 1
  have f2 := h1'.free 2
  have hcb := crash_bd n F keep hF
  have hcv : crash n F keep = n := by unfold crash; rw [if_neg (by omega), if_neg (by omega)]
  clear h3
  go_enter Tryz.func13, Tryz.ntmps13
  go_wp2_with fail
  refine (right_any j B F _ h0).mono ?_
  rintro e w' ⟨rfl, rfl⟩
  obtain ⟨m, em⟩ : ∃ m, m = crash n F keep := ⟨_, rfl⟩
  rw [← em] at hcb hcv
  have Em := hid em
  have hm : (F : Int) + ((n : Int) - F) = (m : Int) := by omega
  clear em hcv
  have hmk := make_bytes m (by omega)
  go_wp2_with fail
  go_quiet (fail)
  obtain ⟨w3, e3⟩ : ∃ w3, w3 = w.drewN nq := ⟨_, rfl⟩
  rw [← e3]
  have k1 : Has w3 j #[.bool true, .slice ad n cap, .int .i64 F] 67 := by rw [e3]; exact h1'
  have k2 : RowB w3 ad B := by rw [e3]; exact h2'
  have hw3 : Below w.heap.size w w3 := by rw [e3]; exact ⟨rfl, rfl, rfl, Nat.le_refl _, fun _ _ => rfl⟩
  have lj := k1.lt
  have d1 : w3.cell? ⟨j, 1, none⟩ = some (.slice ad n cap) := k1.cell (j := 1) rfl
  have d2 : w3.cell? ⟨j, 2, none⟩ = some (.int .i64 F) := k1.cell (j := 2) rfl
  have g1 := k1.free 1
  have g2 := k1.free 2
  clear e3 c1 c2 f1 f2
  go_wp2_with (refine wpList_copy_splice (o := ⟨some 34, _, _, _, _, _⟩) rfl (.tmp 29) (.tmp 33) 65 65 rfl 5 Tryz.underlying65 size_byte _ _ _ _ _ _ rfl rfl w3.heap.size 0 (List.replicate m (.int .u8 0)) 5 ?cg (bcells (B.take m)) ?cn ?cp ?cf ?c1 w3.heap.size w3 ?cb (Nat.le_refl _) ?_)
  case cg => exact Has.newAt (by simp)
  case cn => rw [bcells_length, List.length_take, hlen.out, Nat.min_comm]
  case cp =>
    intro hpos
    have hB0 : 0 < B.length := by rw [bcells_length, List.length_take] at hpos; omega
    obtain ⟨b, o, rfl⟩ := k2.head hB0
    refine ⟨_, rfl, fun i v hv => ?_⟩
    have hi : i < (B.take m).length := by rw [← bcells_length]; exact (List.getElem?_eq_some_iff.1 hv).1
    have hiB : i < B.length := by rw [List.length_take] at hi; omega
    have hc := k2.at i hiB
    have e2 : (⟨b, o, none⟩ : Addr).add i = ⟨b, o + i, none⟩ := by unfold Addr.add; split <;> simp_all
    have hbw := lt_of_cell hc
    rw [e2]
    refine (World.cell?_alloc_lt w3 _ ⟨b, o + i, none⟩ hbw).trans ?_
    rw [hc, ← hv, bcells_get _ _ hi, bt_take _ _ _ (by rw [List.length_take] at hi; omega)]
  case cf => rw [bcells_length, List.length_take, List.length_replicate]; omega
  case c1 =>
    intro v hv
    simp only [bcells, List.mem_map] at hv
    obtain ⟨x, _, rfl⟩ := hv
    rfl
  case cb => exact (Below.refl _ _).alloc (Nat.le_refl _) _
  intro w5 hH5 hb5
  have hbw5 : Below w.heap.size w w5 := hw3.trans (hb5.mono hw3.size)
  have k5 : Has w5 j #[.bool true, .slice ad n cap, .int .i64 F] 67 := k1.below hb5 lj
  have l5 := k5.lt
  have c5 : w5.cell? ⟨j, 1, none⟩ = some (.slice ad n cap) := k5.cell (j := 1) rfl
  have c6 : w5.cell? ⟨j, 2, none⟩ = some (.int .i64 F) := k5.cell (j := 2) rfl
  have f5 := k5.free 1
  have f6 := k5.free 2
  have hlt3 : (bcells (B.take m)).length = m := by rw [bcells_length, List.length_take, hlen.out]; omega
  have hN5 : Has w5 w3.heap.size (bcells (B.take m)).toArray 5 := by
    have h := hH5.out
    rw [splice_all _ _ (by rw [hlt3, List.length_replicate])] at h
    exact h
  clear k1 k2 d1 d2 g1 g2 hmk hne
  go_wp2
  go_end0
  have hH : Has ((w5.setCell ⟨j, 1, none⟩ (.slice (some ⟨w3.heap.size, 0, none⟩) m m)).setCell ⟨j, 2, none⟩ (.int .i64 m)) j #[.bool true, .slice (some ⟨w3.heap.size, 0, none⟩) m m, .int .i64 m] 67 := (k5.set 1 (.slice (some ⟨w3.heap.size, 0, none⟩) m m)).set 2 (.int .i64 m)
  have hO : Only [j] w ((w5.setCell ⟨j, 1, none⟩ (.slice (some ⟨w3.heap.size, 0, none⟩) m m)).setCell ⟨j, 2, none⟩ (.int .i64 m)) := ((Only.ofBelow hbw5 (Nat.le_refl _)).setIn (by simp) _).setIn (by simp) _
  have hM : Has ((w5.setCell ⟨j, 1, none⟩ (.slice (some ⟨w3.heap.size, 0, none⟩) m m)).setCell ⟨j, 2, none⟩ (.int .i64 m)) w3.heap.size (bcells (B.take m)).toArray 5 := (hN5.other (by show w3.heap.size ≠ j; omega) _).other (by show w3.heap.size ≠ j; omega) _
  refine ⟨rfl, ⟨some ⟨w3.heap.size, 0, none⟩, m, m, ?_, ?_, ?_, Nat.le_refl _, by omega⟩, hO⟩
  · rw [← Em.out]; exact hH
  · rw [← Em.out]
    intro i hi
    refine ⟨w3.heap.size, 0, rfl, ?_⟩
    rw [Nat.zero_add]
    refine hM.cell ?_
    rw [List.getElem?_toArray]
    exact bcells_get _ _ hi
  · rw [← Em.out, ← bcells_length]; exact hlt3

theorem crash_any (j : Nat) (B : List UInt8) (F n : Nat) (keep : Int) (w : World) (h : JAt w j B F) (hlen : B.length = n) (hn : n ≤ 4000000) (hF : F ≤ n) :
    Calls Tryz.prog 13 #[.pointer (some ⟨j, 0, none⟩), .int .i64 keep] w fun e w' => e = .returned (.tuple #[]) ∧ JAt w' j (B.take (crash n F keep)) (crash n F keep) ∧ Only [j] w w' := by
  by_cases h1 : keep < 0
  · exact crash_neg j B F n keep w h (hid hlen) hn hF h1
  · by_cases h2 : keep ≤ (n : Int) - F
    · exact crash_mid j B F n keep w h (hid hlen) hn hF (by omega) h2
    · exact crash_all j B F n keep w h (hid hlen) hn hF (by omega) (by omega)
end Go.Proofs.YtahbhhenobehfaaGreatDoor
