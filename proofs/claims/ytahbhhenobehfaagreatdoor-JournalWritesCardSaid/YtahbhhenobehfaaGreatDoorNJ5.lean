/-
  The walks of the journals' methods, and of those of the reference.
-/
import Derived.Test.YtahbhhenobehfaaGreatDoorRows
import Derived.Test.YtahbhhenobehfaaGreatDoorM1
import Derived.Test.YtahbhhenobehfaaGreatDoorM4
import Derived.Test.YtahbhhenobehfaaGreatDoorM2
import Derived.WalkKit
import Derived.ProofKit
import Derived.OpenShut
import Derived.Outline
namespace Go.Proofs.YtahbhhenobehfaaGreatDoor
open Go.ChangeShapes Go.WideShapes Go.ChangeAt Go.RowKit

/-- How many bytes the whole frames at the beginning have; a journal behind Append. -/
def kept (B : List UInt8) : Nat := B.length - (scanL B).2.length
theorem kept_le (B : List UInt8) : kept B ≤ B.length := Nat.sub_le _ _
theorem kept_eq (B : List UInt8) : ((B.length : Int) - (scanL B).2.length) = (kept B : Int) := by
  have := scanL_count B.length B (Nat.le_refl _)
  unfold kept
  omega
def actB (B s : List UInt8) : List UInt8 := B.take (kept B) ++ frameL s
def actF (B : List UInt8) (f : Int) : Int := if f ≤ kept B then f else kept B
theorem actB_length (B s : List UInt8) : (actB B s).length = kept B + (s.length + 6) := by
  unfold actB
  rw [List.length_append, List.length_take, frameL_length, Nat.min_eq_left (kept_le B)]

theorem new_any (w : World) : Calls Tryz.prog 7 #[] w fun e w' => e = .returned (.pointer (some ⟨w.heap.size, 0, none⟩)) ∧ JAt w' w.heap.size [] 0 ∧ Below w.heap.size w w' := by
  go_enter Tryz.func7, Tryz.ntmps7
  go_wp2
  go_ret
  exact ⟨rfl, ⟨none, 0, 0, Has.new _ _ _, RowB.nil _ _, rfl, Nat.le_refl _, by omega⟩, (Below.refl _ _).alloc (Nat.le_refl _) _⟩
theorem right_any (j : Nat) (B : List UInt8) (f : Int) (w : World) (h : JAt w j B f) : Calls Tryz.prog 35 #[.pointer (some ⟨j, 0, none⟩)] w fun e w' => e = .returned (.bool true) ∧ w = w' := by
  obtain ⟨ad, n, cap, h1, _⟩ := h
  have c0 : w.cell? ⟨j, 0, none⟩ = some (.bool true) := h1.cell (j := 0) rfl
  go_enter Tryz.func35, Tryz.ntmps35
  go_wp2
  go_ret
  exact ⟨rfl, rfl⟩
theorem bytes_any (j : Nat) (B : List UInt8) (f : Int) (w : World) (h : JAt w j B f) : Calls Tryz.prog 20 #[.pointer (some ⟨j, 0, none⟩)] w fun e w' => e = .returned (.string ⟨B.toArray⟩) ∧ w = w' := by
  have h0 := h
  obtain ⟨ad, n, cap, h1, h2, h3, h4⟩ := h
  have c1 : w.cell? ⟨j, 1, none⟩ = some (.slice ad n cap) := h1.cell (j := 1) rfl
  have hcv := h2.convert (cap := cap)
  rw [h3] at hcv
  clear h1 h2 h3 h4
  go_enter Tryz.func20, Tryz.ntmps20
  go_wp2_with (go_at_call 35; refine (right_any j B f _ h0).mono ?_; rintro e w' ⟨rfl, rfl⟩)
  go_ret
  exact ⟨rfl, rfl⟩
def PaysV (B : List UInt8) (w : World) (e : Ending) (w' : World) : Prop :=
  ∃ v, e = .returned v ∧ w'.ownsRow w.heap.size 9 1 v (scanL B).1.length (scells (scanL B).1) ∧ Below w.heap.size w w'
theorem payloads_any (j : Nat) (B : List UInt8) (f : Int) (w : World) (h : JAt w j B f) (hn : B.length ≤ 4000000) : Calls Tryz.prog 12 #[.pointer (some ⟨j, 0, none⟩)] w (PaysV B w) := by
  have h0 := h
  obtain ⟨ad, n, cap, h1, h2, h3, h4, h5⟩ := h
  have c1 : w.cell? ⟨j, 1, none⟩ = some (.slice ad n cap) := h1.cell (j := 1) rfl
  have H3 := hid h3
  go_enter Tryz.func12, Tryz.ntmps12
  go_wp2_with fail
  refine (right_any j B f _ h0).mono ?_
  rintro e w' ⟨rfl, rfl⟩
  clear h1 h3
  go_wp2_with fail
  refine (scan_any ad n cap B _ H3 (by have := H3.out; omega) h4 h5 h2).mono ?_
  rintro e w1 ⟨v, rfl, hown, hb⟩
  go_wp2
  go_ret
  exact ⟨v, rfl, hown, hb⟩
theorem sync_any (j : Nat) (B : List UInt8) (f : Int) (w : World) (h : JAt w j B f) : Calls Tryz.prog 11 #[.pointer (some ⟨j, 0, none⟩)] w fun e w' => e = .returned (.int .i64 B.length) ∧ JAt w' j B B.length ∧ Only [j] w w' := by
  have h0 := h
  obtain ⟨ad, n, cap, h1, h2, h3, h4, h5⟩ := h
  have c1 : w.cell? ⟨j, 1, none⟩ = some (.slice ad n cap) := h1.cell (j := 1) rfl
  have c2 : w.cell? ⟨j, 2, none⟩ = some (.int .i64 f) := h1.cell (j := 2) rfl
  have f2 := h1.free 2
  have hne := fun h0 => h2.ne h1 (three_ne _ _ _ (by simp) (by simp) (by simp)) h0
  have H3 := hid h3
  go_enter Tryz.func11, Tryz.ntmps11
  go_wp2_with fail
  refine (right_any j B f _ h0).mono ?_
  rintro e w' ⟨rfl, rfl⟩
  clear h3
  go_wp2
  go_ret
  have ho : Only [j] w (w.setCell ⟨j, 2, none⟩ (.int .i64 n)) := (Only.refl [j] w).setIn (by simp) _
  refine ⟨by rw [H3.out]; rfl, ⟨ad, n, cap, ?_, h2.onlyNe ho hne, H3.out, h4, h5⟩, ho⟩
  rw [H3.out]
  exact h1.set 2 _
set_option maxHeartbeats 1000000 in
theorem append_any (j : Nat) (B : List UInt8) (f : Int) (s : ByteArray) (w : World) (h : JAt w j B f) (hn : B.length ≤ 4000000) (hs : s.size ≤ 60000) :
    Calls Tryz.prog 17 #[.pointer (some ⟨j, 0, none⟩), .string s] w fun e w' => e = .returned (.int .i64 0) ∧ JAt w' j (actB B s.data.toList) (actF B f) ∧ Only [j] w w' := by
  have h0 := h
  obtain ⟨ad, n, cap, h1, h2, h3, h4, h5⟩ := h
  have hne := fun h0 => h2.ne h1 (three_ne _ _ _ (by simp) (by simp) (by simp)) h0
  have H3 := hid h3
  have hn' : n ≤ 4000000 := by omega
  have hkn : kept B ≤ n := by rw [← h3]; exact kept_le B
  clear h3
  go_enter Tryz.func17, Tryz.ntmps17
  go_wp2_with fail
  refine (right_any j B f _ h0).mono ?_
  rintro e w' ⟨rfl, rfl⟩
  go_wp2_with fail
  refine (frame_short s _ s.size rfl (by omega)).mono ?_
  rintro e w1 ⟨rfl, hb1⟩
  have k1 := h1.below hb1 h1.lt
  have c1 : w1.cell? ⟨j, 1, none⟩ = some (.slice ad n cap) := k1.cell (j := 1) rfl
  go_wp2_with fail
  refine (scan_any ad n cap B _ H3 hn' h4 h5 (h2.below hb1 (Nat.le_refl _))).mono ?_
  rintro e w2 ⟨v, rfl, hown, hb2⟩
  rw [kept_eq B]
  have hb3 : Below w.heap.size w w2 := hb1.trans (hb2.mono hb1.size)
  have k2 := h1.below hb3 h1.lt
  have c2 : w2.cell? ⟨j, 1, none⟩ = some (.slice ad n cap) := k2.cell (j := 1) rfl
  have f2 := k2.free 1
  obtain ⟨k, ek⟩ : ∃ k, k = kept B := ⟨_, rfl⟩
  rw [← ek]
  rw [← ek] at hkn
  have Ek := hid ek
  clear ek hb1 hb2 k1 c1 hown
  obtain ⟨cap', C, hrun, hc1, hc2, hC⟩ := run_grow w2 ad (B.take k) k ⟨(frameL s.data.toList).toArray⟩ ((h2.below hb3 (Nat.le_refl _)).take k) (by rw [List.length_take, H3.out]; omega) (by rw [bsize, frameL_length]; omega) (by rw [bsize, frameL_length, Array.length_toList]; have : s.data.size = s.size := rfl; omega)
  have hsz : (ByteArray.mk (frameL s.data.toList).toArray).size = s.size + 6 := by rw [bsize, frameL_length]; rfl
  rw [hsz] at hrun hc1 hC
  have HC : Hid (∀ i, i < k + (s.size + 6) → C[i]? = some (.int .u8 (bt (actB B s.data.toList) i))) := hid (by unfold actB; rw [← Ek.out]; exact hC)
  have lj := k2.lt
  have c3 : w2.cell? ⟨j, 2, none⟩ = some (.int .i64 f) := k2.cell (j := 2) rfl
  have f3 := k2.free 2
  clear hsz hC
  by_cases hfk : f ≤ (k : Int)
  · have hF : Hid (actF B f = f) := hid (by unfold actF; rw [← Ek.out, if_pos hfk])
    have hmin : min f (k : Int) = f := by omega
    go_wp2_with (at_builtin; refine wpList_append_str _ rfl _ _ 65 9 rfl _ _ rfl rfl _ _ hrun ?_)
    go_ret
    have hH : Has ((((w2.setCell ⟨j, 1, none⟩ (.slice (some ⟨w2.heap.size, 0, none⟩) (k + (s.size + 6)) cap')).setCell ⟨j, 2, none⟩ (.int .i64 (f))).alloc (.cells C 5)).drew) j #[.bool true, .slice (some ⟨w2.heap.size, 0, none⟩) (k + (s.size + 6)) cap', .int .i64 (f)] 67 := ((((k2.set 1 (.slice (some ⟨w2.heap.size, 0, none⟩) (k + (s.size + 6)) cap')).set 2 (.int .i64 (f))).alloc (.cells C 5)).drew)
    have hO : Only [j] w ((((w2.setCell ⟨j, 1, none⟩ (.slice (some ⟨w2.heap.size, 0, none⟩) (k + (s.size + 6)) cap')).setCell ⟨j, 2, none⟩ (.int .i64 (f))).alloc (.cells C 5)).drew) := ((((Only.ofBelow hb3 (Nat.le_refl _)).setIn (by simp) _).setIn (by simp) _).alloc _).drew
    have hN : Has ((((w2.setCell ⟨j, 1, none⟩ (.slice (some ⟨w2.heap.size, 0, none⟩) (k + (s.size + 6)) cap')).setCell ⟨j, 2, none⟩ (.int .i64 (f))).alloc (.cells C 5)).drew) w2.heap.size C 5 := (Has.newAt (by simp)).drew
    refine ⟨rfl, ⟨some ⟨w2.heap.size, 0, none⟩, k + (s.size + 6), cap', ?_, ?_, ?_, hc1, hc2⟩, hO⟩
    · rw [hF.out]; exact hH
    · intro i hi
      refine ⟨w2.heap.size, 0, rfl, ?_⟩
      rw [actB_length, ← Ek.out, Array.length_toList] at hi
      rw [Nat.zero_add]
      exact hN.cell (HC.out i hi)
    · rw [actB_length, ← Ek.out, Array.length_toList]; rfl
  · have hF : Hid (actF B f = (k : Int)) := hid (by unfold actF; rw [← Ek.out, if_neg hfk])
    have hmin : min f (k : Int) = k := by omega
    go_wp2_with (at_builtin; refine wpList_append_str _ rfl _ _ 65 9 rfl _ _ rfl rfl _ _ hrun ?_)
    go_ret
    have hH : Has ((((w2.setCell ⟨j, 1, none⟩ (.slice (some ⟨w2.heap.size, 0, none⟩) (k + (s.size + 6)) cap')).setCell ⟨j, 2, none⟩ (.int .i64 ((k : Int)))).alloc (.cells C 5)).drew) j #[.bool true, .slice (some ⟨w2.heap.size, 0, none⟩) (k + (s.size + 6)) cap', .int .i64 ((k : Int))] 67 := ((((k2.set 1 (.slice (some ⟨w2.heap.size, 0, none⟩) (k + (s.size + 6)) cap')).set 2 (.int .i64 ((k : Int)))).alloc (.cells C 5)).drew)
    have hO : Only [j] w ((((w2.setCell ⟨j, 1, none⟩ (.slice (some ⟨w2.heap.size, 0, none⟩) (k + (s.size + 6)) cap')).setCell ⟨j, 2, none⟩ (.int .i64 ((k : Int)))).alloc (.cells C 5)).drew) := ((((Only.ofBelow hb3 (Nat.le_refl _)).setIn (by simp) _).setIn (by simp) _).alloc _).drew
    have hN : Has ((((w2.setCell ⟨j, 1, none⟩ (.slice (some ⟨w2.heap.size, 0, none⟩) (k + (s.size + 6)) cap')).setCell ⟨j, 2, none⟩ (.int .i64 ((k : Int)))).alloc (.cells C 5)).drew) w2.heap.size C 5 := (Has.newAt (by simp)).drew
    refine ⟨rfl, ⟨some ⟨w2.heap.size, 0, none⟩, k + (s.size + 6), cap', ?_, ?_, ?_, hc1, hc2⟩, hO⟩
    · rw [hF.out]; exact hH
    · intro i hi
      refine ⟨w2.heap.size, 0, rfl, ?_⟩
      rw [actB_length, ← Ek.out, Array.length_toList] at hi
      rw [Nat.zero_add]
      exact hN.cell (HC.out i hi)
    · rw [actB_length, ← Ek.out, Array.length_toList]; rfl
end Go.Proofs.YtahbhhenobehfaaGreatDoor
