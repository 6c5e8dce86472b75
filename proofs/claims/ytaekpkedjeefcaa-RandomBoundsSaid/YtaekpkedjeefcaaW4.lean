/-
  The walks of Shuffle and of its reference.
-/
import Derived.Test.YtaekpkedjeefcaaRows
import Derived.Test.YtaekpkedjeefcaaPlain
import Derived.Test.YtaekpkedjeefcaaHeap
import Derived.Test.YtaekpkedjeefcaaW1
import Derived.Test.YtaekpkedjeefcaaW3
import Derived.WalkKit
import Derived.ProofKit
import Derived.OpenShut
import Derived.BigRegion
import Derived.Outline
namespace Go.Proofs.Ytaekpkedjeefcaa
open Go.ChangeShapes Go.WideShapes Go.ChangeAt Go.RowKit

/-- What Shuffle leaves: the generator behind the last draw, and a new list. -/
def Shuffled (s n : Int) (w : World) (e : Ending) (w' : World) : Prop :=
  ∃ b, w.heap.size ≤ b ∧ e = .returned (.tuple #[.agg #[.int .u64 (shufS s n)], .slice (some ⟨b, 0, none⟩) (clampN n) (clampN n)]) ∧ Has w' b (ints (shufL s n)) 3 ∧ Below w.heap.size w w'

theorem ints_cell {w : World} {b i : Nat} {l : List Int} (h : Has w b (ints l) 3) (hi : i < l.length) : ∃ x, Hid (l.getD i 0 = x) ∧ w.cell? ⟨b, i, none⟩ = some (.int .i64 x) :=
  ⟨_, hid rfl, h.cell (ints_get l i hi)⟩
theorem ints_store {w : World} {b i : Nat} {l : List Int} (h : Has w b (ints l) 3) (x : Int) : Has (w.setCell ⟨b, i, none⟩ (.int .i64 x)) b (ints (l.set i x)) 3 := by
  have := h.set i (.int .i64 x)
  rwa [ints_set] at this

set_option maxHeartbeats 1000000 in
theorem shuffle_low (s n : Int) (m : Nat) (w : World) (hm4 : m ≤ 4096) (hcl : Hid (clampN n = m)) (h1 : n < 0)
    (hmk : ∀ wx, (Instr.makeSlice 34 (.int .i64 (if n < 0 then 0 else if 4096 < n then 4096 else n)) (.int .i64 (if n < 0 then 0 else if 4096 < n then 4096 else n))).run Try.prog wx = .ok (.slice (some ⟨wx.heap.size, 0, none⟩) m m) (wx.alloc (.cells (ints (List.replicate m 0)) 3))) :
    Calls Try.prog 19 #[.agg #[.int .u64 s], .int .i64 n] w (Shuffled s n w) := by
  have z0 : Hid (fillTo m 0 = List.replicate m 0) := hid (fillTo_zero m)
  rw [if_pos h1] at hmk
  go_enter Try.func19, Try.ntmps19
  go_wp2
  go_loopw [7, 17] (fun _ i wr => ∃ k : Nat, k ≤ m ∧ i = .int .i64 k ∧ Has wr (w.heap.size + 1 + 1) (ints (fillTo m k)) 3 ∧ Has wr w.heap.size #[.int .u64 s] 24 ∧ Has wr (w.heap.size + 1) #[.int .u64 0] 24 ∧ Below w.heap.size w wr) (fun _ i _ => m - (intOf i).toNat)
  case atStart =>
    refine ⟨0, Nat.zero_le _, rfl, ?_, ?_, ?_, ?_⟩
    · rw [z0.out]; exact Has.newAt (by simp)
    · exact (by repeat' (first | with_reducible exact rfl | ((with_reducible refine Has.newAt ?_); (first | omega | (simp; done) | (simp; omega))) | with_reducible refine Has.drew ?_ | with_reducible refine Has.alloc ?_ _ | with_reducible refine Has.one ?_ _ | with_reducible refine Has.other ?_ ?_ _ | with_reducible exact Has1.of rfl | ((with_reducible refine Has1.newAt ?_); (first | omega | (simp; done) | (simp; omega))) | with_reducible refine Has1.drew ?_ | with_reducible refine Has1.alloc ?_ _ | with_reducible refine Has1.set ?_ _ | with_reducible refine Has1.other ?_ ?_ _ | omega | (simp <;> omega)))
    · exact (by repeat' (first | with_reducible exact rfl | ((with_reducible refine Has.newAt ?_); (first | omega | (simp; done) | (simp; omega))) | with_reducible refine Has.drew ?_ | with_reducible refine Has.alloc ?_ _ | with_reducible refine Has.one ?_ _ | with_reducible refine Has.other ?_ ?_ _ | with_reducible exact Has1.of rfl | ((with_reducible refine Has1.newAt ?_); (first | omega | (simp; done) | (simp; omega))) | with_reducible refine Has1.drew ?_ | with_reducible refine Has1.alloc ?_ _ | with_reducible refine Has1.set ?_ _ | with_reducible refine Has1.other ?_ ?_ _ | omega | (simp <;> omega)))
    · exact (by repeat' (first | with_reducible exact rfl | with_reducible exact Below.refl _ _ | with_reducible refine Below.drew ?_ | with_reducible refine Below.alloc ?_ ?_ _ | with_reducible refine bset ?_ ?_ _ | omega | (simp <;> omega)))
  case round =>
    obtain ⟨k, hk, rfl, hl, hg, hr, hb⟩ := hrel
    by_cases hlt : k < m
    · obtain ⟨x, hx, hcx⟩ := ints_cell (i := k) hl (by rw [fillTo_length m k hk]; exact hlt)
      have hfx := hl.free k
      clear hmk
      go_wp2
      go_roundw
      case rel =>
        refine ⟨k + 1, by omega, by go_num, ?_, ?_, ?_, ?_⟩
        · rw [← fillTo_set m k hlt]; exact ints_store hl _
        · exact (by repeat' (first | with_reducible exact hg | ((with_reducible refine Has.newAt ?_); (first | omega | (simp; done) | (simp; omega))) | with_reducible refine Has.drew ?_ | with_reducible refine Has.alloc ?_ _ | with_reducible refine Has.one ?_ _ | with_reducible refine Has.other ?_ ?_ _ | with_reducible exact Has1.of hg | ((with_reducible refine Has1.newAt ?_); (first | omega | (simp; done) | (simp; omega))) | with_reducible refine Has1.drew ?_ | with_reducible refine Has1.alloc ?_ _ | with_reducible refine Has1.set ?_ _ | with_reducible refine Has1.other ?_ ?_ _ | omega | (simp <;> omega)))
        · exact (by repeat' (first | with_reducible exact hr | ((with_reducible refine Has.newAt ?_); (first | omega | (simp; done) | (simp; omega))) | with_reducible refine Has.drew ?_ | with_reducible refine Has.alloc ?_ _ | with_reducible refine Has.one ?_ _ | with_reducible refine Has.other ?_ ?_ _ | with_reducible exact Has1.of hr | ((with_reducible refine Has1.newAt ?_); (first | omega | (simp; done) | (simp; omega))) | with_reducible refine Has1.drew ?_ | with_reducible refine Has1.alloc ?_ _ | with_reducible refine Has1.set ?_ _ | with_reducible refine Has1.other ?_ ?_ _ | omega | (simp <;> omega)))
        · exact (by repeat' (first | with_reducible exact hb | with_reducible exact Below.refl _ _ | with_reducible refine Below.drew ?_ | with_reducible refine Below.alloc ?_ ?_ _ | with_reducible refine bset ?_ ?_ _ | omega | (simp <;> omega)))
      case measure => simp [intOf]; omega
    · have hkm : Hid (k = m) := hid (by omega)
      clear hmk
      go_wp2_with fail
      refine (drawer_any _ _).mono ?_
      rintro e w1 ⟨rfl, hw1⟩
      have hl1 : Has w1 (w.heap.size + 1 + 1) (ints (idl m)) 3 := by
        rw [← hw1, ← fillTo_full m]; rw [hkm.out] at hl; exact hl.alloc _
      have hg1 : Has w1 w.heap.size #[.int .u64 s] 24 := by rw [← hw1]; exact hg.alloc _
      have hr1 : Has w1 (w.heap.size + 1) #[.int .u64 0] 24 := by rw [← hw1]; exact hr.alloc _
      obtain ⟨c, hc0⟩ : ∃ c, c = wr.heap.size := ⟨_, rfl⟩
      rw [← hc0]
      have hc1 : Has w1 c #[.pointer (some ⟨w.heap.size, 0, none⟩)] 49 := by rw [← hw1]; exact Has.newAt hc0
      have hcb : w.heap.size + 1 + 1 < c := by rw [hc0]; exact hl.lt
      have hb1 : Below w.heap.size w w1 := by rw [← hw1]; exact hb.alloc hb.size _
      clear hw1 hc0 hg hr hl hb hkm
      go_wp2_with fail
      go_loopw [9, 10] (fun i _ wr => ∃ (v : Int) (l : List Int) (s' : Int), i = .int .i64 v ∧ -1 ≤ v ∧ v < m ∧ l.length = m ∧ Hid (shuf v.toNat s' l = shuf (m - 1) s (idl m)) ∧ Has wr (w.heap.size + 1 + 1) (ints l) 3 ∧ Has wr w.heap.size #[.int .u64 s'] 24 ∧ Has wr (w.heap.size + 1) #[.int .u64 0] 24 ∧ Has wr c #[.pointer (some ⟨w.heap.size, 0, none⟩)] 49 ∧ Below w.heap.size w wr) (fun i _ _ => (intOf i).toNat)
      case atStart =>
        exact ⟨_, idl m, s, rfl, by omega, by omega, idl_length m, hid (by rw [show ((m : Int) - 1).toNat = m - 1 from by omega]), hl1, hg1, hr1, hc1, hb1⟩
      case round =>
        clear hl1 hg1 hr1 hc1 hb1
        obtain ⟨v, l, s', rfl, hv1, hv2, hlen, hsh, hl, hg, hr, hc, hb⟩ := hrel
        have Hlen := hid hlen
        by_cases hv : 0 < v
        · obtain ⟨i, rfl⟩ := Int.eq_ofNat_of_zero_le (show 0 ≤ v by omega)
          have hwl := hl.lt
          go_wp2_with fail
          refine (draw_any _ s' c w.heap.size _ (by omega) hc hg).mono ?_
          rintro e w2 ⟨j, hj1, hj2, rfl, hg2, ho2⟩
          have hji : j ≤ i := by have := belowX_lt s' ((i : Int) + 1) (by omega); omega
          have hl2 : Has w2 (w.heap.size + 1 + 1) (ints l) 3 := hl.only ho2 (by simp; omega)
          have hr2 : Has w2 (w.heap.size + 1) #[.int .u64 0] 24 := hr.only ho2 (by simp)
          have hc2 : Has w2 c #[.pointer (some ⟨w.heap.size, 0, none⟩)] 49 := hc.only ho2 (by simp; omega)
          have hb2 : Below w.heap.size w w2 := ho2.toBelow hb (by simp) hb.size
          have Hj := hid hj1
          clear hj1 hj2 ho2 hl hg hr hc hb hlen
          obtain ⟨xi, hxi, hci⟩ := ints_cell (i := i) hl2 (by rw [Hlen.out]; omega)
          obtain ⟨xj, hxj, hcj⟩ := ints_cell (i := j) hl2 (by rw [Hlen.out]; omega)
          have hfi := hl2.free i
          have hfj := hl2.free j
          obtain ⟨yj, hyj⟩ := cell?_setCell_some (w := w2) (p := ⟨w.heap.size + 1 + 1, i, none⟩) (x := .int .i64 xj) (q := ⟨w.heap.size + 1 + 1, j, none⟩) (v := .int .i64 xj) (by go_simp)
          have hjm : j < m := by omega
          go_wp2_with fail
          go_region
          go_wp2
          go_roundw
          case rel =>
            have hs2 : Has ((w2.setCell ⟨w.heap.size + 1 + 1, i, none⟩ (.int .i64 xj)).setCell ⟨w.heap.size + 1 + 1, j, none⟩ (.int .i64 xi)) (w.heap.size + 1 + 1) (ints (swp l i j)) 3 := by
              unfold swp
              rw [hxi.out, hxj.out]
              exact ints_store (ints_store hl2 xj) xi
            refine ⟨(i : Int) - 1, swp l i j, belowS s' ((i : Int) + 1), rfl, by omega, by omega, by rw [swp_length]; exact Hlen.out, ?_, hs2, ?_, ?_, ?_, ?_⟩
            · refine hid (Eq.trans ?_ hsh.out)
              rw [show ((i : Int)).toNat = i from by omega, shuf_step i s' l (by omega), Hj.out, show ((i : Int) - 1).toNat = i - 1 from by omega]
            · exact (by repeat' (first | with_reducible exact hg2 | ((with_reducible refine Has.newAt ?_); (first | omega | (simp; done) | (simp; omega))) | with_reducible refine Has.drew ?_ | with_reducible refine Has.alloc ?_ _ | with_reducible refine Has.one ?_ _ | with_reducible refine Has.other ?_ ?_ _ | with_reducible exact Has1.of hg2 | ((with_reducible refine Has1.newAt ?_); (first | omega | (simp; done) | (simp; omega))) | with_reducible refine Has1.drew ?_ | with_reducible refine Has1.alloc ?_ _ | with_reducible refine Has1.set ?_ _ | with_reducible refine Has1.other ?_ ?_ _ | omega | (simp <;> omega)))
            · exact (by repeat' (first | with_reducible exact hr2 | ((with_reducible refine Has.newAt ?_); (first | omega | (simp; done) | (simp; omega))) | with_reducible refine Has.drew ?_ | with_reducible refine Has.alloc ?_ _ | with_reducible refine Has.one ?_ _ | with_reducible refine Has.other ?_ ?_ _ | with_reducible exact Has1.of hr2 | ((with_reducible refine Has1.newAt ?_); (first | omega | (simp; done) | (simp; omega))) | with_reducible refine Has1.drew ?_ | with_reducible refine Has1.alloc ?_ _ | with_reducible refine Has1.set ?_ _ | with_reducible refine Has1.other ?_ ?_ _ | omega | (simp <;> omega)))
            · exact (by repeat' (first | with_reducible exact hc2 | ((with_reducible refine Has.newAt ?_); (first | omega | (simp; done) | (simp; omega))) | with_reducible refine Has.drew ?_ | with_reducible refine Has.alloc ?_ _ | with_reducible refine Has.one ?_ _ | with_reducible refine Has.other ?_ ?_ _ | with_reducible exact Has1.of hc2 | ((with_reducible refine Has1.newAt ?_); (first | omega | (simp; done) | (simp; omega))) | with_reducible refine Has1.drew ?_ | with_reducible refine Has1.alloc ?_ _ | with_reducible refine Has1.set ?_ _ | with_reducible refine Has1.other ?_ ?_ _ | omega | (simp <;> omega)))
            · exact (by repeat' (first | with_reducible exact hb2 | with_reducible exact Below.refl _ _ | with_reducible refine Below.drew ?_ | with_reducible refine Below.alloc ?_ ?_ _ | with_reducible refine bset ?_ ?_ _ | omega | (simp <;> omega)))
          case measure => simp [intOf]; omega
        · have e0 : v.toNat = 0 := by omega
          have e1 : s' = shufS s n ∧ l = shufL s n := by
            have h := hsh.out
            rw [e0, shuf] at h
            unfold shufS shufL
            rw [hcl.out, ← h]
            exact ⟨rfl, rfl⟩
          clear e0
          have chg : wr.cell? ⟨w.heap.size, 0, none⟩ = some (.int .u64 s') := hg.cell (j := 0) rfl
          have fhg : wr.frozen? ⟨w.heap.size, 0, none⟩ = false := hg.free 0
          have chr : wr.cell? ⟨w.heap.size + 1, 0, none⟩ = some (.int .u64 0) := hr.cell (j := 0) rfl
          have fhr : wr.frozen? ⟨w.heap.size + 1, 0, none⟩ = false := hr.free 0
          have E := hid e1
          clear e1 hlen
          go_wp2
          refine bodyPost_ret (v := .tuple #[.agg #[.int .u64 s'], .slice (some ⟨w.heap.size + 1 + 1, 0, none⟩) m m]) (by simp [results, Try.results19, go_sem, chr]) rfl ⟨w.heap.size + 1 + 1, by omega, ?_, ?_, ?_⟩
          · rw [E.out.1, hcl.out]
          · rw [← E.out.2]; exact (by repeat' (first | with_reducible exact hl | ((with_reducible refine Has.newAt ?_); (first | omega | (simp; done) | (simp; omega))) | with_reducible refine Has.drew ?_ | with_reducible refine Has.alloc ?_ _ | with_reducible refine Has.one ?_ _ | with_reducible refine Has.other ?_ ?_ _ | with_reducible exact Has1.of hl | ((with_reducible refine Has1.newAt ?_); (first | omega | (simp; done) | (simp; omega))) | with_reducible refine Has1.drew ?_ | with_reducible refine Has1.alloc ?_ _ | with_reducible refine Has1.set ?_ _ | with_reducible refine Has1.other ?_ ?_ _ | omega | (simp <;> omega)))
          · exact (by repeat' (first | with_reducible exact hb | with_reducible exact Below.refl _ _ | with_reducible refine Below.drew ?_ | with_reducible refine Below.alloc ?_ ?_ _ | with_reducible refine bset ?_ ?_ _ | omega | (simp <;> omega)))
set_option maxHeartbeats 1000000 in
theorem shuffle_mid (s n : Int) (m : Nat) (w : World) (hm4 : m ≤ 4096) (hcl : Hid (clampN n = m)) (h1 : 0 ≤ n) (h2 : n ≤ 4096)
    (hmk : ∀ wx, (Instr.makeSlice 34 (.int .i64 (if n < 0 then 0 else if 4096 < n then 4096 else n)) (.int .i64 (if n < 0 then 0 else if 4096 < n then 4096 else n))).run Try.prog wx = .ok (.slice (some ⟨wx.heap.size, 0, none⟩) m m) (wx.alloc (.cells (ints (List.replicate m 0)) 3))) :
    Calls Try.prog 19 #[.agg #[.int .u64 s], .int .i64 n] w (Shuffled s n w) := by
  have z0 : Hid (fillTo m 0 = List.replicate m 0) := hid (fillTo_zero m)
  rw [if_neg (by omega), if_neg (by omega)] at hmk
  go_enter Try.func19, Try.ntmps19
  go_wp2
  go_loopw [7, 17] (fun _ i wr => ∃ k : Nat, k ≤ m ∧ i = .int .i64 k ∧ Has wr (w.heap.size + 1 + 1) (ints (fillTo m k)) 3 ∧ Has wr w.heap.size #[.int .u64 s] 24 ∧ Has wr (w.heap.size + 1) #[.int .u64 0] 24 ∧ Below w.heap.size w wr) (fun _ i _ => m - (intOf i).toNat)
  case atStart =>
    refine ⟨0, Nat.zero_le _, rfl, ?_, ?_, ?_, ?_⟩
    · rw [z0.out]; exact Has.newAt (by simp)
    · exact (by repeat' (first | with_reducible exact rfl | ((with_reducible refine Has.newAt ?_); (first | omega | (simp; done) | (simp; omega))) | with_reducible refine Has.drew ?_ | with_reducible refine Has.alloc ?_ _ | with_reducible refine Has.one ?_ _ | with_reducible refine Has.other ?_ ?_ _ | with_reducible exact Has1.of rfl | ((with_reducible refine Has1.newAt ?_); (first | omega | (simp; done) | (simp; omega))) | with_reducible refine Has1.drew ?_ | with_reducible refine Has1.alloc ?_ _ | with_reducible refine Has1.set ?_ _ | with_reducible refine Has1.other ?_ ?_ _ | omega | (simp <;> omega)))
    · exact (by repeat' (first | with_reducible exact rfl | ((with_reducible refine Has.newAt ?_); (first | omega | (simp; done) | (simp; omega))) | with_reducible refine Has.drew ?_ | with_reducible refine Has.alloc ?_ _ | with_reducible refine Has.one ?_ _ | with_reducible refine Has.other ?_ ?_ _ | with_reducible exact Has1.of rfl | ((with_reducible refine Has1.newAt ?_); (first | omega | (simp; done) | (simp; omega))) | with_reducible refine Has1.drew ?_ | with_reducible refine Has1.alloc ?_ _ | with_reducible refine Has1.set ?_ _ | with_reducible refine Has1.other ?_ ?_ _ | omega | (simp <;> omega)))
    · exact (by repeat' (first | with_reducible exact rfl | with_reducible exact Below.refl _ _ | with_reducible refine Below.drew ?_ | with_reducible refine Below.alloc ?_ ?_ _ | with_reducible refine bset ?_ ?_ _ | omega | (simp <;> omega)))
  case round =>
    obtain ⟨k, hk, rfl, hl, hg, hr, hb⟩ := hrel
    by_cases hlt : k < m
    · obtain ⟨x, hx, hcx⟩ := ints_cell (i := k) hl (by rw [fillTo_length m k hk]; exact hlt)
      have hfx := hl.free k
      clear hmk
      go_wp2
      go_roundw
      case rel =>
        refine ⟨k + 1, by omega, by go_num, ?_, ?_, ?_, ?_⟩
        · rw [← fillTo_set m k hlt]; exact ints_store hl _
        · exact (by repeat' (first | with_reducible exact hg | ((with_reducible refine Has.newAt ?_); (first | omega | (simp; done) | (simp; omega))) | with_reducible refine Has.drew ?_ | with_reducible refine Has.alloc ?_ _ | with_reducible refine Has.one ?_ _ | with_reducible refine Has.other ?_ ?_ _ | with_reducible exact Has1.of hg | ((with_reducible refine Has1.newAt ?_); (first | omega | (simp; done) | (simp; omega))) | with_reducible refine Has1.drew ?_ | with_reducible refine Has1.alloc ?_ _ | with_reducible refine Has1.set ?_ _ | with_reducible refine Has1.other ?_ ?_ _ | omega | (simp <;> omega)))
        · exact (by repeat' (first | with_reducible exact hr | ((with_reducible refine Has.newAt ?_); (first | omega | (simp; done) | (simp; omega))) | with_reducible refine Has.drew ?_ | with_reducible refine Has.alloc ?_ _ | with_reducible refine Has.one ?_ _ | with_reducible refine Has.other ?_ ?_ _ | with_reducible exact Has1.of hr | ((with_reducible refine Has1.newAt ?_); (first | omega | (simp; done) | (simp; omega))) | with_reducible refine Has1.drew ?_ | with_reducible refine Has1.alloc ?_ _ | with_reducible refine Has1.set ?_ _ | with_reducible refine Has1.other ?_ ?_ _ | omega | (simp <;> omega)))
        · exact (by repeat' (first | with_reducible exact hb | with_reducible exact Below.refl _ _ | with_reducible refine Below.drew ?_ | with_reducible refine Below.alloc ?_ ?_ _ | with_reducible refine bset ?_ ?_ _ | omega | (simp <;> omega)))
      case measure => simp [intOf]; omega
    · have hkm : Hid (k = m) := hid (by omega)
      clear hmk
      go_wp2_with fail
      refine (drawer_any _ _).mono ?_
      rintro e w1 ⟨rfl, hw1⟩
      have hl1 : Has w1 (w.heap.size + 1 + 1) (ints (idl m)) 3 := by
        rw [← hw1, ← fillTo_full m]; rw [hkm.out] at hl; exact hl.alloc _
      have hg1 : Has w1 w.heap.size #[.int .u64 s] 24 := by rw [← hw1]; exact hg.alloc _
      have hr1 : Has w1 (w.heap.size + 1) #[.int .u64 0] 24 := by rw [← hw1]; exact hr.alloc _
      obtain ⟨c, hc0⟩ : ∃ c, c = wr.heap.size := ⟨_, rfl⟩
      rw [← hc0]
      have hc1 : Has w1 c #[.pointer (some ⟨w.heap.size, 0, none⟩)] 49 := by rw [← hw1]; exact Has.newAt hc0
      have hcb : w.heap.size + 1 + 1 < c := by rw [hc0]; exact hl.lt
      have hb1 : Below w.heap.size w w1 := by rw [← hw1]; exact hb.alloc hb.size _
      clear hw1 hc0 hg hr hl hb hkm
      go_wp2_with fail
      go_loopw [9, 10] (fun i _ wr => ∃ (v : Int) (l : List Int) (s' : Int), i = .int .i64 v ∧ -1 ≤ v ∧ v < m ∧ l.length = m ∧ Hid (shuf v.toNat s' l = shuf (m - 1) s (idl m)) ∧ Has wr (w.heap.size + 1 + 1) (ints l) 3 ∧ Has wr w.heap.size #[.int .u64 s'] 24 ∧ Has wr (w.heap.size + 1) #[.int .u64 0] 24 ∧ Has wr c #[.pointer (some ⟨w.heap.size, 0, none⟩)] 49 ∧ Below w.heap.size w wr) (fun i _ _ => (intOf i).toNat)
      case atStart =>
        exact ⟨_, idl m, s, rfl, by omega, by omega, idl_length m, hid (by rw [show ((m : Int) - 1).toNat = m - 1 from by omega]), hl1, hg1, hr1, hc1, hb1⟩
      case round =>
        clear hl1 hg1 hr1 hc1 hb1
        obtain ⟨v, l, s', rfl, hv1, hv2, hlen, hsh, hl, hg, hr, hc, hb⟩ := hrel
        have Hlen := hid hlen
        by_cases hv : 0 < v
        · obtain ⟨i, rfl⟩ := Int.eq_ofNat_of_zero_le (show 0 ≤ v by omega)
          have hwl := hl.lt
          go_wp2_with fail
          refine (draw_any _ s' c w.heap.size _ (by omega) hc hg).mono ?_
          rintro e w2 ⟨j, hj1, hj2, rfl, hg2, ho2⟩
          have hji : j ≤ i := by have := belowX_lt s' ((i : Int) + 1) (by omega); omega
          have hl2 : Has w2 (w.heap.size + 1 + 1) (ints l) 3 := hl.only ho2 (by simp; omega)
          have hr2 : Has w2 (w.heap.size + 1) #[.int .u64 0] 24 := hr.only ho2 (by simp)
          have hc2 : Has w2 c #[.pointer (some ⟨w.heap.size, 0, none⟩)] 49 := hc.only ho2 (by simp; omega)
          have hb2 : Below w.heap.size w w2 := ho2.toBelow hb (by simp) hb.size
          have Hj := hid hj1
          clear hj1 hj2 ho2 hl hg hr hc hb hlen
          obtain ⟨xi, hxi, hci⟩ := ints_cell (i := i) hl2 (by rw [Hlen.out]; omega)
          obtain ⟨xj, hxj, hcj⟩ := ints_cell (i := j) hl2 (by rw [Hlen.out]; omega)
          have hfi := hl2.free i
          have hfj := hl2.free j
          obtain ⟨yj, hyj⟩ := cell?_setCell_some (w := w2) (p := ⟨w.heap.size + 1 + 1, i, none⟩) (x := .int .i64 xj) (q := ⟨w.heap.size + 1 + 1, j, none⟩) (v := .int .i64 xj) (by go_simp)
          have hjm : j < m := by omega
          go_wp2_with fail
          go_region
          go_wp2
          go_roundw
          case rel =>
            have hs2 : Has ((w2.setCell ⟨w.heap.size + 1 + 1, i, none⟩ (.int .i64 xj)).setCell ⟨w.heap.size + 1 + 1, j, none⟩ (.int .i64 xi)) (w.heap.size + 1 + 1) (ints (swp l i j)) 3 := by
              unfold swp
              rw [hxi.out, hxj.out]
              exact ints_store (ints_store hl2 xj) xi
            refine ⟨(i : Int) - 1, swp l i j, belowS s' ((i : Int) + 1), rfl, by omega, by omega, by rw [swp_length]; exact Hlen.out, ?_, hs2, ?_, ?_, ?_, ?_⟩
            · refine hid (Eq.trans ?_ hsh.out)
              rw [show ((i : Int)).toNat = i from by omega, shuf_step i s' l (by omega), Hj.out, show ((i : Int) - 1).toNat = i - 1 from by omega]
            · exact (by repeat' (first | with_reducible exact hg2 | ((with_reducible refine Has.newAt ?_); (first | omega | (simp; done) | (simp; omega))) | with_reducible refine Has.drew ?_ | with_reducible refine Has.alloc ?_ _ | with_reducible refine Has.one ?_ _ | with_reducible refine Has.other ?_ ?_ _ | with_reducible exact Has1.of hg2 | ((with_reducible refine Has1.newAt ?_); (first | omega | (simp; done) | (simp; omega))) | with_reducible refine Has1.drew ?_ | with_reducible refine Has1.alloc ?_ _ | with_reducible refine Has1.set ?_ _ | with_reducible refine Has1.other ?_ ?_ _ | omega | (simp <;> omega)))
            · exact (by repeat' (first | with_reducible exact hr2 | ((with_reducible refine Has.newAt ?_); (first | omega | (simp; done) | (simp; omega))) | with_reducible refine Has.drew ?_ | with_reducible refine Has.alloc ?_ _ | with_reducible refine Has.one ?_ _ | with_reducible refine Has.other ?_ ?_ _ | with_reducible exact Has1.of hr2 | ((with_reducible refine Has1.newAt ?_); (first | omega | (simp; done) | (simp; omega))) | with_reducible refine Has1.drew ?_ | with_reducible refine Has1.alloc ?_ _ | with_reducible refine Has1.set ?_ _ | with_reducible refine Has1.other ?_ ?_ _ | omega | (simp <;> omega)))
            · exact (by repeat' (first | with_reducible exact hc2 | ((with_reducible refine Has.newAt ?_); (first | omega | (simp; done) | (simp; omega))) | with_reducible refine Has.drew ?_ | with_reducible refine Has.alloc ?_ _ | with_reducible refine Has.one ?_ _ | with_reducible refine Has.other ?_ ?_ _ | with_reducible exact Has1.of hc2 | ((with_reducible refine Has1.newAt ?_); (first | omega | (simp; done) | (simp; omega))) | with_reducible refine Has1.drew ?_ | with_reducible refine Has1.alloc ?_ _ | with_reducible refine Has1.set ?_ _ | with_reducible refine Has1.other ?_ ?_ _ | omega | (simp <;> omega)))
            · exact (by repeat' (first | with_reducible exact hb2 | with_reducible exact Below.refl _ _ | with_reducible refine Below.drew ?_ | with_reducible refine Below.alloc ?_ ?_ _ | with_reducible refine bset ?_ ?_ _ | omega | (simp <;> omega)))
          case measure => simp [intOf]; omega
        · have e0 : v.toNat = 0 := by omega
          have e1 : s' = shufS s n ∧ l = shufL s n := by
            have h := hsh.out
            rw [e0, shuf] at h
            unfold shufS shufL
            rw [hcl.out, ← h]
            exact ⟨rfl, rfl⟩
          clear e0
          have chg : wr.cell? ⟨w.heap.size, 0, none⟩ = some (.int .u64 s') := hg.cell (j := 0) rfl
          have fhg : wr.frozen? ⟨w.heap.size, 0, none⟩ = false := hg.free 0
          have chr : wr.cell? ⟨w.heap.size + 1, 0, none⟩ = some (.int .u64 0) := hr.cell (j := 0) rfl
          have fhr : wr.frozen? ⟨w.heap.size + 1, 0, none⟩ = false := hr.free 0
          have E := hid e1
          clear e1 hlen
          go_wp2
          refine bodyPost_ret (v := .tuple #[.agg #[.int .u64 s'], .slice (some ⟨w.heap.size + 1 + 1, 0, none⟩) m m]) (by simp [results, Try.results19, go_sem, chr]) rfl ⟨w.heap.size + 1 + 1, by omega, ?_, ?_, ?_⟩
          · rw [E.out.1, hcl.out]
          · rw [← E.out.2]; exact (by repeat' (first | with_reducible exact hl | ((with_reducible refine Has.newAt ?_); (first | omega | (simp; done) | (simp; omega))) | with_reducible refine Has.drew ?_ | with_reducible refine Has.alloc ?_ _ | with_reducible refine Has.one ?_ _ | with_reducible refine Has.other ?_ ?_ _ | with_reducible exact Has1.of hl | ((with_reducible refine Has1.newAt ?_); (first | omega | (simp; done) | (simp; omega))) | with_reducible refine Has1.drew ?_ | with_reducible refine Has1.alloc ?_ _ | with_reducible refine Has1.set ?_ _ | with_reducible refine Has1.other ?_ ?_ _ | omega | (simp <;> omega)))
          · exact (by repeat' (first | with_reducible exact hb | with_reducible exact Below.refl _ _ | with_reducible refine Below.drew ?_ | with_reducible refine Below.alloc ?_ ?_ _ | with_reducible refine bset ?_ ?_ _ | omega | (simp <;> omega)))
set_option maxHeartbeats 1000000 in
theorem shuffle_high (s n : Int) (m : Nat) (w : World) (hm4 : m ≤ 4096) (hcl : Hid (clampN n = m)) (h1 : 4096 < n)
    (hmk : ∀ wx, (Instr.makeSlice 34 (.int .i64 (if n < 0 then 0 else if 4096 < n then 4096 else n)) (.int .i64 (if n < 0 then 0 else if 4096 < n then 4096 else n))).run Try.prog wx = .ok (.slice (some ⟨wx.heap.size, 0, none⟩) m m) (wx.alloc (.cells (ints (List.replicate m 0)) 3))) :
    Calls Try.prog 19 #[.agg #[.int .u64 s], .int .i64 n] w (Shuffled s n w) := by
  have z0 : Hid (fillTo m 0 = List.replicate m 0) := hid (fillTo_zero m)
  rw [if_neg (by omega), if_pos h1] at hmk
  go_enter Try.func19, Try.ntmps19
  go_wp2
  go_loopw [7, 17] (fun _ i wr => ∃ k : Nat, k ≤ m ∧ i = .int .i64 k ∧ Has wr (w.heap.size + 1 + 1) (ints (fillTo m k)) 3 ∧ Has wr w.heap.size #[.int .u64 s] 24 ∧ Has wr (w.heap.size + 1) #[.int .u64 0] 24 ∧ Below w.heap.size w wr) (fun _ i _ => m - (intOf i).toNat)
  case atStart =>
    refine ⟨0, Nat.zero_le _, rfl, ?_, ?_, ?_, ?_⟩
    · rw [z0.out]; exact Has.newAt (by simp)
    · exact (by repeat' (first | with_reducible exact rfl | ((with_reducible refine Has.newAt ?_); (first | omega | (simp; done) | (simp; omega))) | with_reducible refine Has.drew ?_ | with_reducible refine Has.alloc ?_ _ | with_reducible refine Has.one ?_ _ | with_reducible refine Has.other ?_ ?_ _ | with_reducible exact Has1.of rfl | ((with_reducible refine Has1.newAt ?_); (first | omega | (simp; done) | (simp; omega))) | with_reducible refine Has1.drew ?_ | with_reducible refine Has1.alloc ?_ _ | with_reducible refine Has1.set ?_ _ | with_reducible refine Has1.other ?_ ?_ _ | omega | (simp <;> omega)))
    · exact (by repeat' (first | with_reducible exact rfl | ((with_reducible refine Has.newAt ?_); (first | omega | (simp; done) | (simp; omega))) | with_reducible refine Has.drew ?_ | with_reducible refine Has.alloc ?_ _ | with_reducible refine Has.one ?_ _ | with_reducible refine Has.other ?_ ?_ _ | with_reducible exact Has1.of rfl | ((with_reducible refine Has1.newAt ?_); (first | omega | (simp; done) | (simp; omega))) | with_reducible refine Has1.drew ?_ | with_reducible refine Has1.alloc ?_ _ | with_reducible refine Has1.set ?_ _ | with_reducible refine Has1.other ?_ ?_ _ | omega | (simp <;> omega)))
    · exact (by repeat' (first | with_reducible exact rfl | with_reducible exact Below.refl _ _ | with_reducible refine Below.drew ?_ | with_reducible refine Below.alloc ?_ ?_ _ | with_reducible refine bset ?_ ?_ _ | omega | (simp <;> omega)))
  case round =>
    obtain ⟨k, hk, rfl, hl, hg, hr, hb⟩ := hrel
    by_cases hlt : k < m
    · obtain ⟨x, hx, hcx⟩ := ints_cell (i := k) hl (by rw [fillTo_length m k hk]; exact hlt)
      have hfx := hl.free k
      clear hmk
      go_wp2
      go_roundw
      case rel =>
        refine ⟨k + 1, by omega, by go_num, ?_, ?_, ?_, ?_⟩
        · rw [← fillTo_set m k hlt]; exact ints_store hl _
        · exact (by repeat' (first | with_reducible exact hg | ((with_reducible refine Has.newAt ?_); (first | omega | (simp; done) | (simp; omega))) | with_reducible refine Has.drew ?_ | with_reducible refine Has.alloc ?_ _ | with_reducible refine Has.one ?_ _ | with_reducible refine Has.other ?_ ?_ _ | with_reducible exact Has1.of hg | ((with_reducible refine Has1.newAt ?_); (first | omega | (simp; done) | (simp; omega))) | with_reducible refine Has1.drew ?_ | with_reducible refine Has1.alloc ?_ _ | with_reducible refine Has1.set ?_ _ | with_reducible refine Has1.other ?_ ?_ _ | omega | (simp <;> omega)))
        · exact (by repeat' (first | with_reducible exact hr | ((with_reducible refine Has.newAt ?_); (first | omega | (simp; done) | (simp; omega))) | with_reducible refine Has.drew ?_ | with_reducible refine Has.alloc ?_ _ | with_reducible refine Has.one ?_ _ | with_reducible refine Has.other ?_ ?_ _ | with_reducible exact Has1.of hr | ((with_reducible refine Has1.newAt ?_); (first | omega | (simp; done) | (simp; omega))) | with_reducible refine Has1.drew ?_ | with_reducible refine Has1.alloc ?_ _ | with_reducible refine Has1.set ?_ _ | with_reducible refine Has1.other ?_ ?_ _ | omega | (simp <;> omega)))
        · exact (by repeat' (first | with_reducible exact hb | with_reducible exact Below.refl _ _ | with_reducible refine Below.drew ?_ | with_reducible refine Below.alloc ?_ ?_ _ | with_reducible refine bset ?_ ?_ _ | omega | (simp <;> omega)))
      case measure => simp [intOf]; omega
    · have hkm : Hid (k = m) := hid (by omega)
      clear hmk
      go_wp2_with fail
      refine (drawer_any _ _).mono ?_
      rintro e w1 ⟨rfl, hw1⟩
      have hl1 : Has w1 (w.heap.size + 1 + 1) (ints (idl m)) 3 := by
        rw [← hw1, ← fillTo_full m]; rw [hkm.out] at hl; exact hl.alloc _
      have hg1 : Has w1 w.heap.size #[.int .u64 s] 24 := by rw [← hw1]; exact hg.alloc _
      have hr1 : Has w1 (w.heap.size + 1) #[.int .u64 0] 24 := by rw [← hw1]; exact hr.alloc _
      obtain ⟨c, hc0⟩ : ∃ c, c = wr.heap.size := ⟨_, rfl⟩
      rw [← hc0]
      have hc1 : Has w1 c #[.pointer (some ⟨w.heap.size, 0, none⟩)] 49 := by rw [← hw1]; exact Has.newAt hc0
      have hcb : w.heap.size + 1 + 1 < c := by rw [hc0]; exact hl.lt
      have hb1 : Below w.heap.size w w1 := by rw [← hw1]; exact hb.alloc hb.size _
      clear hw1 hc0 hg hr hl hb hkm
      go_wp2_with fail
      go_loopw [9, 10] (fun i _ wr => ∃ (v : Int) (l : List Int) (s' : Int), i = .int .i64 v ∧ -1 ≤ v ∧ v < m ∧ l.length = m ∧ Hid (shuf v.toNat s' l = shuf (m - 1) s (idl m)) ∧ Has wr (w.heap.size + 1 + 1) (ints l) 3 ∧ Has wr w.heap.size #[.int .u64 s'] 24 ∧ Has wr (w.heap.size + 1) #[.int .u64 0] 24 ∧ Has wr c #[.pointer (some ⟨w.heap.size, 0, none⟩)] 49 ∧ Below w.heap.size w wr) (fun i _ _ => (intOf i).toNat)
      case atStart =>
        exact ⟨_, idl m, s, rfl, by omega, by omega, idl_length m, hid (by rw [show ((m : Int) - 1).toNat = m - 1 from by omega]), hl1, hg1, hr1, hc1, hb1⟩
      case round =>
        clear hl1 hg1 hr1 hc1 hb1
        obtain ⟨v, l, s', rfl, hv1, hv2, hlen, hsh, hl, hg, hr, hc, hb⟩ := hrel
        have Hlen := hid hlen
        by_cases hv : 0 < v
        · obtain ⟨i, rfl⟩ := Int.eq_ofNat_of_zero_le (show 0 ≤ v by omega)
          have hwl := hl.lt
          go_wp2_with fail
          refine (draw_any _ s' c w.heap.size _ (by omega) hc hg).mono ?_
          rintro e w2 ⟨j, hj1, hj2, rfl, hg2, ho2⟩
          have hji : j ≤ i := by have := belowX_lt s' ((i : Int) + 1) (by omega); omega
          have hl2 : Has w2 (w.heap.size + 1 + 1) (ints l) 3 := hl.only ho2 (by simp; omega)
          have hr2 : Has w2 (w.heap.size + 1) #[.int .u64 0] 24 := hr.only ho2 (by simp)
          have hc2 : Has w2 c #[.pointer (some ⟨w.heap.size, 0, none⟩)] 49 := hc.only ho2 (by simp; omega)
          have hb2 : Below w.heap.size w w2 := ho2.toBelow hb (by simp) hb.size
          have Hj := hid hj1
          clear hj1 hj2 ho2 hl hg hr hc hb hlen
          obtain ⟨xi, hxi, hci⟩ := ints_cell (i := i) hl2 (by rw [Hlen.out]; omega)
          obtain ⟨xj, hxj, hcj⟩ := ints_cell (i := j) hl2 (by rw [Hlen.out]; omega)
          have hfi := hl2.free i
          have hfj := hl2.free j
          obtain ⟨yj, hyj⟩ := cell?_setCell_some (w := w2) (p := ⟨w.heap.size + 1 + 1, i, none⟩) (x := .int .i64 xj) (q := ⟨w.heap.size + 1 + 1, j, none⟩) (v := .int .i64 xj) (by go_simp)
          have hjm : j < m := by omega
          go_wp2_with fail
          go_region
          go_wp2
          go_roundw
          case rel =>
            have hs2 : Has ((w2.setCell ⟨w.heap.size + 1 + 1, i, none⟩ (.int .i64 xj)).setCell ⟨w.heap.size + 1 + 1, j, none⟩ (.int .i64 xi)) (w.heap.size + 1 + 1) (ints (swp l i j)) 3 := by
              unfold swp
              rw [hxi.out, hxj.out]
              exact ints_store (ints_store hl2 xj) xi
            refine ⟨(i : Int) - 1, swp l i j, belowS s' ((i : Int) + 1), rfl, by omega, by omega, by rw [swp_length]; exact Hlen.out, ?_, hs2, ?_, ?_, ?_, ?_⟩
            · refine hid (Eq.trans ?_ hsh.out)
              rw [show ((i : Int)).toNat = i from by omega, shuf_step i s' l (by omega), Hj.out, show ((i : Int) - 1).toNat = i - 1 from by omega]
            · exact (by repeat' (first | with_reducible exact hg2 | ((with_reducible refine Has.newAt ?_); (first | omega | (simp; done) | (simp; omega))) | with_reducible refine Has.drew ?_ | with_reducible refine Has.alloc ?_ _ | with_reducible refine Has.one ?_ _ | with_reducible refine Has.other ?_ ?_ _ | with_reducible exact Has1.of hg2 | ((with_reducible refine Has1.newAt ?_); (first | omega | (simp; done) | (simp; omega))) | with_reducible refine Has1.drew ?_ | with_reducible refine Has1.alloc ?_ _ | with_reducible refine Has1.set ?_ _ | with_reducible refine Has1.other ?_ ?_ _ | omega | (simp <;> omega)))
            · exact (by repeat' (first | with_reducible exact hr2 | ((with_reducible refine Has.newAt ?_); (first | omega | (simp; done) | (simp; omega))) | with_reducible refine Has.drew ?_ | with_reducible refine Has.alloc ?_ _ | with_reducible refine Has.one ?_ _ | with_reducible refine Has.other ?_ ?_ _ | with_reducible exact Has1.of hr2 | ((with_reducible refine Has1.newAt ?_); (first | omega | (simp; done) | (simp; omega))) | with_reducible refine Has1.drew ?_ | with_reducible refine Has1.alloc ?_ _ | with_reducible refine Has1.set ?_ _ | with_reducible refine Has1.other ?_ ?_ _ | omega | (simp <;> omega)))
            · exact (by repeat' (first | with_reducible exact hc2 | ((with_reducible refine Has.newAt ?_); (first | omega | (simp; done) | (simp; omega))) | with_reducible refine Has.drew ?_ | with_reducible refine Has.alloc ?_ _ | with_reducible refine Has.one ?_ _ | with_reducible refine Has.other ?_ ?_ _ | with_reducible exact Has1.of hc2 | ((with_reducible refine Has1.newAt ?_); (first | omega | (simp; done) | (simp; omega))) | with_reducible refine Has1.drew ?_ | with_reducible refine Has1.alloc ?_ _ | with_reducible refine Has1.set ?_ _ | with_reducible refine Has1.other ?_ ?_ _ | omega | (simp <;> omega)))
            · exact (by repeat' (first | with_reducible exact hb2 | with_reducible exact Below.refl _ _ | with_reducible refine Below.drew ?_ | with_reducible refine Below.alloc ?_ ?_ _ | with_reducible refine bset ?_ ?_ _ | omega | (simp <;> omega)))
          case measure => simp [intOf]; omega
        · have e0 : v.toNat = 0 := by omega
          have e1 : s' = shufS s n ∧ l = shufL s n := by
            have h := hsh.out
            rw [e0, shuf] at h
            unfold shufS shufL
            rw [hcl.out, ← h]
            exact ⟨rfl, rfl⟩
          clear e0
          have chg : wr.cell? ⟨w.heap.size, 0, none⟩ = some (.int .u64 s') := hg.cell (j := 0) rfl
          have fhg : wr.frozen? ⟨w.heap.size, 0, none⟩ = false := hg.free 0
          have chr : wr.cell? ⟨w.heap.size + 1, 0, none⟩ = some (.int .u64 0) := hr.cell (j := 0) rfl
          have fhr : wr.frozen? ⟨w.heap.size + 1, 0, none⟩ = false := hr.free 0
          have E := hid e1
          clear e1 hlen
          go_wp2
          refine bodyPost_ret (v := .tuple #[.agg #[.int .u64 s'], .slice (some ⟨w.heap.size + 1 + 1, 0, none⟩) m m]) (by simp [results, Try.results19, go_sem, chr]) rfl ⟨w.heap.size + 1 + 1, by omega, ?_, ?_, ?_⟩
          · rw [E.out.1, hcl.out]
          · rw [← E.out.2]; exact (by repeat' (first | with_reducible exact hl | ((with_reducible refine Has.newAt ?_); (first | omega | (simp; done) | (simp; omega))) | with_reducible refine Has.drew ?_ | with_reducible refine Has.alloc ?_ _ | with_reducible refine Has.one ?_ _ | with_reducible refine Has.other ?_ ?_ _ | with_reducible exact Has1.of hl | ((with_reducible refine Has1.newAt ?_); (first | omega | (simp; done) | (simp; omega))) | with_reducible refine Has1.drew ?_ | with_reducible refine Has1.alloc ?_ _ | with_reducible refine Has1.set ?_ _ | with_reducible refine Has1.other ?_ ?_ _ | omega | (simp <;> omega)))
          · exact (by repeat' (first | with_reducible exact hb | with_reducible exact Below.refl _ _ | with_reducible refine Below.drew ?_ | with_reducible refine Below.alloc ?_ ?_ _ | with_reducible refine bset ?_ ?_ _ | omega | (simp <;> omega)))
end Go.Proofs.Ytaekpkedjeefcaa
