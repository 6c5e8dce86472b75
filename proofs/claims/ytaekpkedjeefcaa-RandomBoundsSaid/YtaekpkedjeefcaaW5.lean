/-
  The walk of the reference's Shuffle; and both Shuffles for every number.
-/
import Derived.Test.YtaekpkedjeefcaaRows
import Derived.Test.YtaekpkedjeefcaaPlain
import Derived.Test.YtaekpkedjeefcaaHeap
import Derived.Test.YtaekpkedjeefcaaW1
import Derived.Test.YtaekpkedjeefcaaW3
import Derived.Test.YtaekpkedjeefcaaW4
import Derived.WalkKit
import Derived.ProofKit
import Derived.OpenShut
import Derived.BigRegion
import Derived.Outline
namespace Go.Proofs.Ytaekpkedjeefcaa
open Go.ChangeShapes Go.WideShapes Go.ChangeAt Go.RowKit
set_option maxHeartbeats 1000000 in
theorem rshuffle_mid (s n : Int) (m : Nat) (w : World) (hm4 : m ≤ 4096) (hcl : Hid (clampN n = m)) (h1 : 0 ≤ n) (h2 : n ≤ 4096) (hq : Hid ((if n < 0 then 0 else if 4096 < n then 4096 else n) = (m : Int)))
    (hmk : ∀ wx, (Instr.makeSlice 34 (.int .i64 (if n < 0 then 0 else if 4096 < n then 4096 else n)) (.int .i64 (if n < 0 then 0 else if 4096 < n then 4096 else n))).run Try.prog wx = .ok (.slice (some ⟨wx.heap.size, 0, none⟩) m m) (wx.alloc (.cells (ints (List.replicate m 0)) 3))) :
    Calls Try.prog 20 #[.agg #[.int .u64 s], .int .i64 n] w (Shuffled s n w) := by
  have z0 : Hid (fillTo m 0 = List.replicate m 0) := hid (fillTo_zero m)
  rw [if_neg (by omega), if_neg (by omega)] at hmk
  go_enter Try.func20, Try.ntmps20
  go_wp2
  have hq2 := hq.out
  rw [if_neg (by omega), if_neg (by omega)] at hq2
  rw [hq2]
  have Hq2 := hid hq2
  clear hq2
  go_loopw [8] (fun i wr => ∃ k : Nat, k ≤ m ∧ i = .int .i64 k ∧ Has wr (w.heap.size + 1 + 1) (ints (fillTo m k)) 3 ∧ Has wr w.heap.size #[.int .u64 s] 24 ∧ Has wr (w.heap.size + 1) #[.int .u64 0] 24 ∧ Below w.heap.size w wr) (fun i _ => m - (intOf i).toNat)
  case atStart =>
    refine ⟨0, Nat.zero_le _, rfl, ?_, ?_, ?_, ?_⟩
    · rw [z0.out]; exact Has.newAt (by simp)
    · exact (by repeat' (first | with_reducible exact rfl | ((with_reducible refine Has.newAt ?_); (first | omega | (simp; done) | (simp; omega))) | with_reducible refine Has.drew ?_ | with_reducible refine Has.alloc ?_ _ | with_reducible refine Has.one ?_ _ | with_reducible refine Has.other ?_ ?_ _ | with_reducible exact Has1.of rfl | ((with_reducible refine Has1.newAt ?_); (first | omega | (simp; done) | (simp; omega))) | with_reducible refine Has1.drew ?_ | with_reducible refine Has1.alloc ?_ _ | with_reducible refine Has1.set ?_ _ | with_reducible refine Has1.other ?_ ?_ _ | omega | (simp <;> omega)))
    · exact (by repeat' (first | with_reducible exact rfl | ((with_reducible refine Has.newAt ?_); (first | omega | (simp; done) | (simp; omega))) | with_reducible refine Has.drew ?_ | with_reducible refine Has.alloc ?_ _ | with_reducible refine Has.one ?_ _ | with_reducible refine Has.other ?_ ?_ _ | with_reducible exact Has1.of rfl | ((with_reducible refine Has1.newAt ?_); (first | omega | (simp; done) | (simp; omega))) | with_reducible refine Has1.drew ?_ | with_reducible refine Has1.alloc ?_ _ | with_reducible refine Has1.set ?_ _ | with_reducible refine Has1.other ?_ ?_ _ | omega | (simp <;> omega)))
    · exact (by repeat' (first | with_reducible exact rfl | with_reducible exact Below.refl _ _ | with_reducible refine Below.drew ?_ | with_reducible refine Below.alloc ?_ ?_ _ | with_reducible refine bset ?_ ?_ _ | omega | (simp <;> omega)))
  case round =>
    obtain ⟨k, hk, rfl, hl, hg, hr, hb⟩ := hrel
    by_cases hlt : k < m
    · obtain ⟨x, hx, hcx⟩ := ints_cell (i := k) hl (by rw [fillTo_length m k hk]; exact hlt)
      have hfx := hl.free k
      clear hmk
      go_wp2
      go_roundw
      case rel =>
        refine ⟨k + 1, by omega, by go_num, ?_, ?_, ?_, ?_⟩
        · rw [← fillTo_set m k hlt]; exact ints_store hl _
        · exact (by repeat' (first | with_reducible exact hg | ((with_reducible refine Has.newAt ?_); (first | omega | (simp; done) | (simp; omega))) | with_reducible refine Has.drew ?_ | with_reducible refine Has.alloc ?_ _ | with_reducible refine Has.one ?_ _ | with_reducible refine Has.other ?_ ?_ _ | with_reducible exact Has1.of hg | ((with_reducible refine Has1.newAt ?_); (first | omega | (simp; done) | (simp; omega))) | with_reducible refine Has1.drew ?_ | with_reducible refine Has1.alloc ?_ _ | with_reducible refine Has1.set ?_ _ | with_reducible refine Has1.other ?_ ?_ _ | omega | (simp <;> omega)))
        · exact (by repeat' (first | with_reducible exact hr | ((with_reducible refine Has.newAt ?_); (first | omega | (simp; done) | (simp; omega))) | with_reducible refine Has.drew ?_ | with_reducible refine Has.alloc ?_ _ | with_reducible refine Has.one ?_ _ | with_reducible refine Has.other ?_ ?_ _ | with_reducible exact Has1.of hr | ((with_reducible refine Has1.newAt ?_); (first | omega | (simp; done) | (simp; omega))) | with_reducible refine Has1.drew ?_ | with_reducible refine Has1.alloc ?_ _ | with_reducible refine Has1.set ?_ _ | with_reducible refine Has1.other ?_ ?_ _ | omega | (simp <;> omega)))
        · exact (by repeat' (first | with_reducible exact hb | with_reducible exact Below.refl _ _ | with_reducible refine Below.drew ?_ | with_reducible refine Below.alloc ?_ ?_ _ | with_reducible refine bset ?_ ?_ _ | omega | (simp <;> omega)))
      case measure => simp [intOf]; omega
    · obtain rfl : k = m := by omega
      have hl1 : Has wr (w.heap.size + 1 + 1) (ints (idl k)) 3 := by rw [← fillTo_full k]; exact hl
      clear hmk hl
      go_wp2
      go_loopw [9] (fun i wr => ∃ (v : Int) (l : List Int) (s' : Int), i = .int .i64 v ∧ -1 ≤ v ∧ v < k ∧ l.length = k ∧ Hid (shuf v.toNat s' l = shuf (k - 1) s (idl k)) ∧ Has wr (w.heap.size + 1 + 1) (ints l) 3 ∧ Has wr w.heap.size #[.int .u64 s'] 24 ∧ Has wr (w.heap.size + 1) #[.int .u64 0] 24 ∧ Below w.heap.size w wr) (fun i _ => (intOf i).toNat)
      case atStart =>
        exact ⟨_, idl k, s, rfl, by omega, by omega, idl_length k, hid (by rw [show ((k : Int) - 1).toNat = k - 1 from by omega]), hl1, hg, hr, hb⟩
      case round =>
        clear hl1 hg hr hb
        obtain ⟨v, l, s', rfl, hv1, hv2, hlen, hsh, hl, hg, hr, hb⟩ := hrel
        have Hlen := hid hlen
        have chg : wr.cell? ⟨w.heap.size, 0, none⟩ = some (.int .u64 s') := hg.cell (j := 0) rfl
        have fhg : wr.frozen? ⟨w.heap.size, 0, none⟩ = false := hg.free 0
        have chr : wr.cell? ⟨w.heap.size + 1, 0, none⟩ = some (.int .u64 0) := hr.cell (j := 0) rfl
        have fhr : wr.frozen? ⟨w.heap.size + 1, 0, none⟩ = false := hr.free 0
        by_cases hv : 0 < v
        · obtain ⟨i, rfl⟩ := Int.eq_ofNat_of_zero_le (show 0 ≤ v by omega)
          go_wp2_with fail
          refine (rbelow_any s' _ _ (by omega)).mono ?_
          rintro e w2 ⟨rfl, hb0⟩
          have hl2 : Has w2 (w.heap.size + 1 + 1) (ints l) 3 := hl.below hb0 hl.lt
          have hg2 : Has w2 w.heap.size #[.int .u64 s'] 24 := hg.below hb0 hg.lt
          have hr2 : Has w2 (w.heap.size + 1) #[.int .u64 0] 24 := hr.below hb0 hr.lt
          have hb2 : Below w.heap.size w w2 := hb.trans (hb0.mono hb.size)
          obtain ⟨j, hj⟩ := Int.eq_ofNat_of_zero_le (belowX_nonneg s' ((i : Int) + 1))
          have hji : j ≤ i := by have := belowX_lt s' ((i : Int) + 1) (by omega); omega
          rw [hj]
          have Hj := hid hj
          clear hj hb0 hl hg hr hb hlen chg fhg chr fhr
          obtain ⟨g', eg'⟩ : ∃ g', g' = belowS s' ((i : Int) + 1) := ⟨_, rfl⟩
          rw [← eg']
          have Eg := hid eg'
          clear eg'
          have hwl := hl2.lt
          have hfg := hg2.free 0
          have hcg : w2.cell? ⟨w.heap.size, 0, none⟩ = some (.int .u64 s') := hg2.cell (j := 0) rfl
          have hwg := hg2.lt
          go_wp2_with fail
          obtain ⟨w3, ew3⟩ : ∃ w3, w3 = (w2.setCell ⟨w.heap.size, 0, none⟩ (.int .u64 g')).alloc (.cells #[.int .u64 g'] 24) := ⟨_, rfl⟩
          rw [← ew3]
          have hl3 : Has w3 (w.heap.size + 1 + 1) (ints l) 3 := by rw [ew3]; exact (by repeat' (first | with_reducible exact hl2 | ((with_reducible refine Has.newAt ?_); (first | omega | (simp; done) | (simp; omega))) | with_reducible refine Has.drew ?_ | with_reducible refine Has.alloc ?_ _ | with_reducible refine Has.one ?_ _ | with_reducible refine Has.other ?_ ?_ _ | with_reducible exact Has1.of hl2 | ((with_reducible refine Has1.newAt ?_); (first | omega | (simp; done) | (simp; omega))) | with_reducible refine Has1.drew ?_ | with_reducible refine Has1.alloc ?_ _ | with_reducible refine Has1.set ?_ _ | with_reducible refine Has1.other ?_ ?_ _ | omega | (simp <;> omega)))
          have hg3 : Has w3 (w.heap.size) #[.int .u64 g'] 24 := by rw [ew3]; exact (by repeat' (first | with_reducible exact hg2 | ((with_reducible refine Has.newAt ?_); (first | omega | (simp; done) | (simp; omega))) | with_reducible refine Has.drew ?_ | with_reducible refine Has.alloc ?_ _ | with_reducible refine Has.one ?_ _ | with_reducible refine Has.other ?_ ?_ _ | with_reducible exact Has1.of hg2 | ((with_reducible refine Has1.newAt ?_); (first | omega | (simp; done) | (simp; omega))) | with_reducible refine Has1.drew ?_ | with_reducible refine Has1.alloc ?_ _ | with_reducible refine Has1.set ?_ _ | with_reducible refine Has1.other ?_ ?_ _ | omega | (simp <;> omega)))
          have hr3 : Has w3 (w.heap.size + 1) #[.int .u64 0] 24 := by rw [ew3]; exact (by repeat' (first | with_reducible exact hr2 | ((with_reducible refine Has.newAt ?_); (first | omega | (simp; done) | (simp; omega))) | with_reducible refine Has.drew ?_ | with_reducible refine Has.alloc ?_ _ | with_reducible refine Has.one ?_ _ | with_reducible refine Has.other ?_ ?_ _ | with_reducible exact Has1.of hr2 | ((with_reducible refine Has1.newAt ?_); (first | omega | (simp; done) | (simp; omega))) | with_reducible refine Has1.drew ?_ | with_reducible refine Has1.alloc ?_ _ | with_reducible refine Has1.set ?_ _ | with_reducible refine Has1.other ?_ ?_ _ | omega | (simp <;> omega)))
          have hb3 : Below w.heap.size w w3 := by rw [ew3]; exact (by repeat' (first | with_reducible exact hb2 | with_reducible exact Below.refl _ _ | with_reducible refine Below.drew ?_ | with_reducible refine Below.alloc ?_ ?_ _ | with_reducible refine bset ?_ ?_ _ | omega | (simp <;> omega)))
          clear ew3 hl2 hg2 hr2 hb2 hcg hfg hwg hwl
          obtain ⟨xi, hxi, hci⟩ := ints_cell (i := i) hl3 (by rw [Hlen.out]; omega)
          obtain ⟨xj, hxj, hcj⟩ := ints_cell (i := j) hl3 (by rw [Hlen.out]; omega)
          have hfi := hl3.free i
          have hfj := hl3.free j
          have hjm : j < k := by omega
          obtain ⟨yj, hyj⟩ := cell?_setCell_some (w := w3) (p := ⟨w.heap.size + 1 + 1, i, none⟩) (x := .int .i64 xj) (q := ⟨w.heap.size + 1 + 1, j, none⟩) (v := .int .i64 xj) (by go_simp)
          go_region
          go_wp2
          go_roundw
          case rel =>
            have hs2 : Has ((w3.setCell ⟨w.heap.size + 1 + 1, i, none⟩ (.int .i64 xj)).setCell ⟨w.heap.size + 1 + 1, j, none⟩ (.int .i64 xi)) (w.heap.size + 1 + 1) (ints (swp l i j)) 3 := by
              unfold swp
              rw [hxi.out, hxj.out]
              exact ints_store (ints_store hl3 xj) xi
            refine ⟨(i : Int) - 1, swp l i j, g', rfl, by omega, by omega, by rw [swp_length]; exact Hlen.out, ?_, hs2, ?_, ?_, ?_⟩
            · refine hid (Eq.trans ?_ hsh.out)
              rw [show ((i : Int)).toNat = i from by omega, shuf_step i s' l (by omega), Hj.out, show ((i : Int) - 1).toNat = i - 1 from by omega, Eg.out]
              rfl
            · exact (by repeat' (first | with_reducible exact hg3 | ((with_reducible refine Has.newAt ?_); (first | omega | (simp; done) | (simp; omega))) | with_reducible refine Has.drew ?_ | with_reducible refine Has.alloc ?_ _ | with_reducible refine Has.one ?_ _ | with_reducible refine Has.other ?_ ?_ _ | with_reducible exact Has1.of hg3 | ((with_reducible refine Has1.newAt ?_); (first | omega | (simp; done) | (simp; omega))) | with_reducible refine Has1.drew ?_ | with_reducible refine Has1.alloc ?_ _ | with_reducible refine Has1.set ?_ _ | with_reducible refine Has1.other ?_ ?_ _ | omega | (simp <;> omega)))
            · exact (by repeat' (first | with_reducible exact hr3 | ((with_reducible refine Has.newAt ?_); (first | omega | (simp; done) | (simp; omega))) | with_reducible refine Has.drew ?_ | with_reducible refine Has.alloc ?_ _ | with_reducible refine Has.one ?_ _ | with_reducible refine Has.other ?_ ?_ _ | with_reducible exact Has1.of hr3 | ((with_reducible refine Has1.newAt ?_); (first | omega | (simp; done) | (simp; omega))) | with_reducible refine Has1.drew ?_ | with_reducible refine Has1.alloc ?_ _ | with_reducible refine Has1.set ?_ _ | with_reducible refine Has1.other ?_ ?_ _ | omega | (simp <;> omega)))
            · exact (by repeat' (first | with_reducible exact hb3 | with_reducible exact Below.refl _ _ | with_reducible refine Below.drew ?_ | with_reducible refine Below.alloc ?_ ?_ _ | with_reducible refine bset ?_ ?_ _ | omega | (simp <;> omega)))
          case measure => simp [intOf]; omega
        · have e0 : v.toNat = 0 := by omega
          have e1 : s' = shufS s n ∧ l = shufL s n := by
            have h := hsh.out
            rw [e0, shuf] at h
            unfold shufS shufL
            rw [hcl.out, ← h]
            exact ⟨rfl, rfl⟩
          clear e0
          have E := hid e1
          clear e1 hlen
          go_wp2
          refine bodyPost_ret (v := .tuple #[.agg #[.int .u64 s'], .slice (some ⟨w.heap.size + 1 + 1, 0, none⟩) k k]) (by simp [results, Try.results20, go_sem, chr]) rfl ⟨w.heap.size + 1 + 1, by omega, ?_, ?_, ?_⟩
          · rw [E.out.1, hcl.out]
          · rw [← E.out.2]; exact (by repeat' (first | with_reducible exact hl | ((with_reducible refine Has.newAt ?_); (first | omega | (simp; done) | (simp; omega))) | with_reducible refine Has.drew ?_ | with_reducible refine Has.alloc ?_ _ | with_reducible refine Has.one ?_ _ | with_reducible refine Has.other ?_ ?_ _ | with_reducible exact Has1.of hl | ((with_reducible refine Has1.newAt ?_); (first | omega | (simp; done) | (simp; omega))) | with_reducible refine Has1.drew ?_ | with_reducible refine Has1.alloc ?_ _ | with_reducible refine Has1.set ?_ _ | with_reducible refine Has1.other ?_ ?_ _ | omega | (simp <;> omega)))
          · exact (by repeat' (first | with_reducible exact hb | with_reducible exact Below.refl _ _ | with_reducible refine Below.drew ?_ | with_reducible refine Below.alloc ?_ ?_ _ | with_reducible refine bset ?_ ?_ _ | omega | (simp <;> omega)))
set_option maxHeartbeats 1000000 in
theorem rshuffle_high (s n : Int) (m : Nat) (w : World) (hm4 : m ≤ 4096) (hcl : Hid (clampN n = m)) (h1 : 4096 < n) (hq : Hid ((if n < 0 then 0 else if 4096 < n then 4096 else n) = (m : Int)))
    (hmk : ∀ wx, (Instr.makeSlice 34 (.int .i64 (if n < 0 then 0 else if 4096 < n then 4096 else n)) (.int .i64 (if n < 0 then 0 else if 4096 < n then 4096 else n))).run Try.prog wx = .ok (.slice (some ⟨wx.heap.size, 0, none⟩) m m) (wx.alloc (.cells (ints (List.replicate m 0)) 3))) :
    Calls Try.prog 20 #[.agg #[.int .u64 s], .int .i64 n] w (Shuffled s n w) := by
  have z0 : Hid (fillTo m 0 = List.replicate m 0) := hid (fillTo_zero m)
  rw [if_neg (by omega), if_pos h1] at hmk
  go_enter Try.func20, Try.ntmps20
  go_wp2
  have hq2 := hq.out
  rw [if_neg (by omega), if_pos h1] at hq2
  rw [hq2]
  have Hq2 := hid hq2
  clear hq2
  go_loopw [8] (fun i wr => ∃ k : Nat, k ≤ m ∧ i = .int .i64 k ∧ Has wr (w.heap.size + 1 + 1) (ints (fillTo m k)) 3 ∧ Has wr w.heap.size #[.int .u64 s] 24 ∧ Has wr (w.heap.size + 1) #[.int .u64 0] 24 ∧ Below w.heap.size w wr) (fun i _ => m - (intOf i).toNat)
  case atStart =>
    refine ⟨0, Nat.zero_le _, rfl, ?_, ?_, ?_, ?_⟩
    · rw [z0.out]; exact Has.newAt (by simp)
    · exact (by repeat' (first | with_reducible exact rfl | ((with_reducible refine Has.newAt ?_); (first | omega | (simp; done) | (simp; omega))) | with_reducible refine Has.drew ?_ | with_reducible refine Has.alloc ?_ _ | with_reducible refine Has.one ?_ _ | with_reducible refine Has.other ?_ ?_ _ | with_reducible exact Has1.of rfl | ((with_reducible refine Has1.newAt ?_); (first | omega | (simp; done) | (simp; omega))) | with_reducible refine Has1.drew ?_ | with_reducible refine Has1.alloc ?_ _ | with_reducible refine Has1.set ?_ _ | with_reducible refine Has1.other ?_ ?_ _ | omega | (simp <;> omega)))
    · exact (by repeat' (first | with_reducible exact rfl | ((with_reducible refine Has.newAt ?_); (first | omega | (simp; done) | (simp; omega))) | with_reducible refine Has.drew ?_ | with_reducible refine Has.alloc ?_ _ | with_reducible refine Has.one ?_ _ | with_reducible refine Has.other ?_ ?_ _ | with_reducible exact Has1.of rfl | ((with_reducible refine Has1.newAt ?_); (first | omega | (simp; done) | (simp; omega))) | with_reducible refine Has1.drew ?_ | with_reducible refine Has1.alloc ?_ _ | with_reducible refine Has1.set ?_ _ | with_reducible refine Has1.other ?_ ?_ _ | omega | (simp <;> omega)))
    · exact (by repeat' (first | with_reducible exact rfl | with_reducible exact Below.refl _ _ | with_reducible refine Below.drew ?_ | with_reducible refine Below.alloc ?_ ?_ _ | with_reducible refine bset ?_ ?_ _ | omega | (simp <;> omega)))
  case round =>
    obtain ⟨k, hk, rfl, hl, hg, hr, hb⟩ := hrel
    by_cases hlt : k < m
    · obtain ⟨x, hx, hcx⟩ := ints_cell (i := k) hl (by rw [fillTo_length m k hk]; exact hlt)
      have hfx := hl.free k
      clear hmk
      go_wp2
      go_roundw
      case rel =>
        refine ⟨k + 1, by omega, by go_num, ?_, ?_, ?_, ?_⟩
        · rw [← fillTo_set m k hlt]; exact ints_store hl _
        · exact (by repeat' (first | with_reducible exact hg | ((with_reducible refine Has.newAt ?_); (first | omega | (simp; done) | (simp; omega))) | with_reducible refine Has.drew ?_ | with_reducible refine Has.alloc ?_ _ | with_reducible refine Has.one ?_ _ | with_reducible refine Has.other ?_ ?_ _ | with_reducible exact Has1.of hg | ((with_reducible refine Has1.newAt ?_); (first | omega | (simp; done) | (simp; omega))) | with_reducible refine Has1.drew ?_ | with_reducible refine Has1.alloc ?_ _ | with_reducible refine Has1.set ?_ _ | with_reducible refine Has1.other ?_ ?_ _ | omega | (simp <;> omega)))
        · exact (by repeat' (first | with_reducible exact hr | ((with_reducible refine Has.newAt ?_); (first | omega | (simp; done) | (simp; omega))) | with_reducible refine Has.drew ?_ | with_reducible refine Has.alloc ?_ _ | with_reducible refine Has.one ?_ _ | with_reducible refine Has.other ?_ ?_ _ | with_reducible exact Has1.of hr | ((with_reducible refine Has1.newAt ?_); (first | omega | (simp; done) | (simp; omega))) | with_reducible refine Has1.drew ?_ | with_reducible refine Has1.alloc ?_ _ | with_reducible refine Has1.set ?_ _ | with_reducible refine Has1.other ?_ ?_ _ | omega | (simp <;> omega)))
        · exact (by repeat' (first | with_reducible exact hb | with_reducible exact Below.refl _ _ | with_reducible refine Below.drew ?_ | with_reducible refine Below.alloc ?_ ?_ _ | with_reducible refine bset ?_ ?_ _ | omega | (simp <;> omega)))
      case measure => simp [intOf]; omega
    · obtain rfl : k = m := by omega
      have hl1 : Has wr (w.heap.size + 1 + 1) (ints (idl k)) 3 := by rw [← fillTo_full k]; exact hl
      clear hmk hl
      go_wp2
      go_loopw [9] (fun i wr => ∃ (v : Int) (l : List Int) (s' : Int), i = .int .i64 v ∧ -1 ≤ v ∧ v < k ∧ l.length = k ∧ Hid (shuf v.toNat s' l = shuf (k - 1) s (idl k)) ∧ Has wr (w.heap.size + 1 + 1) (ints l) 3 ∧ Has wr w.heap.size #[.int .u64 s'] 24 ∧ Has wr (w.heap.size + 1) #[.int .u64 0] 24 ∧ Below w.heap.size w wr) (fun i _ => (intOf i).toNat)
      case atStart =>
        exact ⟨_, idl k, s, rfl, by omega, by omega, idl_length k, hid (by rw [show ((k : Int) - 1).toNat = k - 1 from by omega]), hl1, hg, hr, hb⟩
      case round =>
        clear hl1 hg hr hb
        obtain ⟨v, l, s', rfl, hv1, hv2, hlen, hsh, hl, hg, hr, hb⟩ := hrel
        have Hlen := hid hlen
        have chg : wr.cell? ⟨w.heap.size, 0, none⟩ = some (.int .u64 s') := hg.cell (j := 0) rfl
        have fhg : wr.frozen? ⟨w.heap.size, 0, none⟩ = false := hg.free 0
        have chr : wr.cell? ⟨w.heap.size + 1, 0, none⟩ = some (.int .u64 0) := hr.cell (j := 0) rfl
        have fhr : wr.frozen? ⟨w.heap.size + 1, 0, none⟩ = false := hr.free 0
        by_cases hv : 0 < v
        · obtain ⟨i, rfl⟩ := Int.eq_ofNat_of_zero_le (show 0 ≤ v by omega)
          go_wp2_with fail
          refine (rbelow_any s' _ _ (by omega)).mono ?_
          rintro e w2 ⟨rfl, hb0⟩
          have hl2 : Has w2 (w.heap.size + 1 + 1) (ints l) 3 := hl.below hb0 hl.lt
          have hg2 : Has w2 w.heap.size #[.int .u64 s'] 24 := hg.below hb0 hg.lt
          have hr2 : Has w2 (w.heap.size + 1) #[.int .u64 0] 24 := hr.below hb0 hr.lt
          have hb2 : Below w.heap.size w w2 := hb.trans (hb0.mono hb.size)
          obtain ⟨j, hj⟩ := Int.eq_ofNat_of_zero_le (belowX_nonneg s' ((i : Int) + 1))
          have hji : j ≤ i := by have := belowX_lt s' ((i : Int) + 1) (by omega); omega
          rw [hj]
          have Hj := hid hj
          clear hj hb0 hl hg hr hb hlen chg fhg chr fhr
          obtain ⟨g', eg'⟩ : ∃ g', g' = belowS s' ((i : Int) + 1) := ⟨_, rfl⟩
          rw [← eg']
          have Eg := hid eg'
          clear eg'
          have hwl := hl2.lt
          have hfg := hg2.free 0
          have hcg : w2.cell? ⟨w.heap.size, 0, none⟩ = some (.int .u64 s') := hg2.cell (j := 0) rfl
          have hwg := hg2.lt
          go_wp2_with fail
          obtain ⟨w3, ew3⟩ : ∃ w3, w3 = (w2.setCell ⟨w.heap.size, 0, none⟩ (.int .u64 g')).alloc (.cells #[.int .u64 g'] 24) := ⟨_, rfl⟩
          rw [← ew3]
          have hl3 : Has w3 (w.heap.size + 1 + 1) (ints l) 3 := by rw [ew3]; exact (by repeat' (first | with_reducible exact hl2 | ((with_reducible refine Has.newAt ?_); (first | omega | (simp; done) | (simp; omega))) | with_reducible refine Has.drew ?_ | with_reducible refine Has.alloc ?_ _ | with_reducible refine Has.one ?_ _ | with_reducible refine Has.other ?_ ?_ _ | with_reducible exact Has1.of hl2 | ((with_reducible refine Has1.newAt ?_); (first | omega | (simp; done) | (simp; omega))) | with_reducible refine Has1.drew ?_ | with_reducible refine Has1.alloc ?_ _ | with_reducible refine Has1.set ?_ _ | with_reducible refine Has1.other ?_ ?_ _ | omega | (simp <;> omega)))
          have hg3 : Has w3 (w.heap.size) #[.int .u64 g'] 24 := by rw [ew3]; exact (by repeat' (first | with_reducible exact hg2 | ((with_reducible refine Has.newAt ?_); (first | omega | (simp; done) | (simp; omega))) | with_reducible refine Has.drew ?_ | with_reducible refine Has.alloc ?_ _ | with_reducible refine Has.one ?_ _ | with_reducible refine Has.other ?_ ?_ _ | with_reducible exact Has1.of hg2 | ((with_reducible refine Has1.newAt ?_); (first | omega | (simp; done) | (simp; omega))) | with_reducible refine Has1.drew ?_ | with_reducible refine Has1.alloc ?_ _ | with_reducible refine Has1.set ?_ _ | with_reducible refine Has1.other ?_ ?_ _ | omega | (simp <;> omega)))
          have hr3 : Has w3 (w.heap.size + 1) #[.int .u64 0] 24 := by rw [ew3]; exact (by repeat' (first | with_reducible exact hr2 | ((with_reducible refine Has.newAt ?_); (first | omega | (simp; done) | (simp; omega))) | with_reducible refine Has.drew ?_ | with_reducible refine Has.alloc ?_ _ | with_reducible refine Has.one ?_ _ | with_reducible refine Has.other ?_ ?_ _ | with_reducible exact Has1.of hr2 | ((with_reducible refine Has1.newAt ?_); (first | omega | (simp; done) | (simp; omega))) | with_reducible refine Has1.drew ?_ | with_reducible refine Has1.alloc ?_ _ | with_reducible refine Has1.set ?_ _ | with_reducible refine Has1.other ?_ ?_ _ | omega | (simp <;> omega)))
          have hb3 : Below w.heap.size w w3 := by rw [ew3]; exact (by repeat' (first | with_reducible exact hb2 | with_reducible exact Below.refl _ _ | with_reducible refine Below.drew ?_ | with_reducible refine Below.alloc ?_ ?_ _ | with_reducible refine bset ?_ ?_ _ | omega | (simp <;> omega)))
          clear ew3 hl2 hg2 hr2 hb2 hcg hfg hwg hwl
          obtain ⟨xi, hxi, hci⟩ := ints_cell (i := i) hl3 (by rw [Hlen.out]; omega)
          obtain ⟨xj, hxj, hcj⟩ := ints_cell (i := j) hl3 (by rw [Hlen.out]; omega)
          have hfi := hl3.free i
          have hfj := hl3.free j
          have hjm : j < k := by omega
          obtain ⟨yj, hyj⟩ := cell?_setCell_some (w := w3) (p := ⟨w.heap.size + 1 + 1, i, none⟩) (x := .int .i64 xj) (q := ⟨w.heap.size + 1 + 1, j, none⟩) (v := .int .i64 xj) (by go_simp)
          go_region
          go_wp2
          go_roundw
          case rel =>
            have hs2 : Has ((w3.setCell ⟨w.heap.size + 1 + 1, i, none⟩ (.int .i64 xj)).setCell ⟨w.heap.size + 1 + 1, j, none⟩ (.int .i64 xi)) (w.heap.size + 1 + 1) (ints (swp l i j)) 3 := by
              unfold swp
              rw [hxi.out, hxj.out]
              exact ints_store (ints_store hl3 xj) xi
            refine ⟨(i : Int) - 1, swp l i j, g', rfl, by omega, by omega, by rw [swp_length]; exact Hlen.out, ?_, hs2, ?_, ?_, ?_⟩
            · refine hid (Eq.trans ?_ hsh.out)
              rw [show ((i : Int)).toNat = i from by omega, shuf_step i s' l (by omega), Hj.out, show ((i : Int) - 1).toNat = i - 1 from by omega, Eg.out]
              rfl
            · exact (by repeat' (first | with_reducible exact hg3 | ((with_reducible refine Has.newAt ?_); (first | omega | (simp; done) | (simp; omega))) | with_reducible refine Has.drew ?_ | with_reducible refine Has.alloc ?_ _ | with_reducible refine Has.one ?_ _ | with_reducible refine Has.other ?_ ?_ _ | with_reducible exact Has1.of hg3 | ((with_reducible refine Has1.newAt ?_); (first | omega | (simp; done) | (simp; omega))) | with_reducible refine Has1.drew ?_ | with_reducible refine Has1.alloc ?_ _ | with_reducible refine Has1.set ?_ _ | with_reducible refine Has1.other ?_ ?_ _ | omega | (simp <;> omega)))
            · exact (by repeat' (first | with_reducible exact hr3 | ((with_reducible refine Has.newAt ?_); (first | omega | (simp; done) | (simp; omega))) | with_reducible refine Has.drew ?_ | with_reducible refine Has.alloc ?_ _ | with_reducible refine Has.one ?_ _ | with_reducible refine Has.other ?_ ?_ _ | with_reducible exact Has1.of hr3 | ((with_reducible refine Has1.newAt ?_); (first | omega | (simp; done) | (simp; omega))) | with_reducible refine Has1.drew ?_ | with_reducible refine Has1.alloc ?_ _ | with_reducible refine Has1.set ?_ _ | with_reducible refine Has1.other ?_ ?_ _ | omega | (simp <;> omega)))
            · exact (by repeat' (first | with_reducible exact hb3 | with_reducible exact Below.refl _ _ | with_reducible refine Below.drew ?_ | with_reducible refine Below.alloc ?_ ?_ _ | with_reducible refine bset ?_ ?_ _ | omega | (simp <;> omega)))
          case measure => simp [intOf]; omega
        · have e0 : v.toNat = 0 := by omega
          have e1 : s' = shufS s n ∧ l = shufL s n := by
            have h := hsh.out
            rw [e0, shuf] at h
            unfold shufS shufL
            rw [hcl.out, ← h]
            exact ⟨rfl, rfl⟩
          clear e0
          have E := hid e1
          clear e1 hlen
          go_wp2
          refine bodyPost_ret (v := .tuple #[.agg #[.int .u64 s'], .slice (some ⟨w.heap.size + 1 + 1, 0, none⟩) k k]) (by simp [results, Try.results20, go_sem, chr]) rfl ⟨w.heap.size + 1 + 1, by omega, ?_, ?_, ?_⟩
          · rw [E.out.1, hcl.out]
          · rw [← E.out.2]; exact (by repeat' (first | with_reducible exact hl | ((with_reducible refine Has.newAt ?_); (first | omega | (simp; done) | (simp; omega))) | with_reducible refine Has.drew ?_ | with_reducible refine Has.alloc ?_ _ | with_reducible refine Has.one ?_ _ | with_reducible refine Has.other ?_ ?_ _ | with_reducible exact Has1.of hl | ((with_reducible refine Has1.newAt ?_); (first | omega | (simp; done) | (simp; omega))) | with_reducible refine Has1.drew ?_ | with_reducible refine Has1.alloc ?_ _ | with_reducible refine Has1.set ?_ _ | with_reducible refine Has1.other ?_ ?_ _ | omega | (simp <;> omega)))
          · exact (by repeat' (first | with_reducible exact hb | with_reducible exact Below.refl _ _ | with_reducible refine Below.drew ?_ | with_reducible refine Below.alloc ?_ ?_ _ | with_reducible refine bset ?_ ?_ _ | omega | (simp <;> omega)))
set_option maxHeartbeats 1000000 in
theorem rshuffle_low (s n : Int) (w : World) (hcl : Hid (clampN n = 0)) (h1 : n < 0) (hlst : Hid (shufS s n = s ∧ shufL s n = []))
    (hmk : ∀ wx, (Instr.makeSlice 34 (.int .i64 0) (.int .i64 0)).run Try.prog wx = .ok (.slice (some ⟨wx.heap.size, 0, none⟩) 0 0) (wx.alloc (.cells (ints []) 3))) :
    Calls Try.prog 20 #[.agg #[.int .u64 s], .int .i64 n] w (Shuffled s n w) := by
  go_enter Try.func20, Try.ntmps20
  go_wp2
  refine wp_loop_rounds 1 ?_
  rw [rounds_succ]
  go_wp2
  refine wp_loop_rounds 1 ?_
  rw [rounds_succ]
  go_wp2
  refine bodyPost_ret (v := .tuple #[.agg #[.int .u64 s], .slice (some ⟨w.heap.size + 1 + 1, 0, none⟩) 0 0]) (by simp [results, Try.results20, go_sem]) rfl ⟨w.heap.size + 1 + 1, by omega, ?_, ?_, ?_⟩
  · rw [hlst.out.1, hcl.out]
  · rw [hlst.out.2]; exact (by repeat' (first | with_reducible exact rfl | ((with_reducible refine Has.newAt ?_); (first | omega | (simp; done) | (simp; omega))) | with_reducible refine Has.drew ?_ | with_reducible refine Has.alloc ?_ _ | with_reducible refine Has.one ?_ _ | with_reducible refine Has.other ?_ ?_ _ | with_reducible exact Has1.of rfl | ((with_reducible refine Has1.newAt ?_); (first | omega | (simp; done) | (simp; omega))) | with_reducible refine Has1.drew ?_ | with_reducible refine Has1.alloc ?_ _ | with_reducible refine Has1.set ?_ _ | with_reducible refine Has1.other ?_ ?_ _ | omega | (simp <;> omega)))
  · exact (by repeat' (first | with_reducible exact rfl | with_reducible exact Below.refl _ _ | with_reducible refine Below.drew ?_ | with_reducible refine Below.alloc ?_ ?_ _ | with_reducible refine bset ?_ ?_ _ | omega | (simp <;> omega)))

theorem shuffle_any (s n : Int) (w : World) : Calls Try.prog 19 #[.agg #[.int .u64 s], .int .i64 n] w (Shuffled s n w) := by
  by_cases h1 : n < 0
  · have hc : clampN n = 0 := by unfold clampN; rw [if_pos h1]
    refine shuffle_low s n 0 w (by omega) (hid hc) h1 ?_
    rw [if_pos h1]
    exact fun wx => make_ints 0 (by omega) wx
  · by_cases h2 : 4096 < n
    · have hc : clampN n = 4096 := by unfold clampN; rw [if_neg h1, if_pos h2]
      refine shuffle_high s n 4096 w (by omega) (hid hc) h2 ?_
      rw [if_neg h1, if_pos h2]
      exact fun wx => make_ints 4096 (by omega) wx
    · have hc : clampN n = n.toNat := by unfold clampN; rw [if_neg h1, if_neg h2]
      refine shuffle_mid s n n.toNat w (by omega) (hid hc) (by omega) (by omega) ?_
      rw [if_neg h1, if_neg h2]
      intro wx
      have h := make_ints n.toNat (by omega) wx
      rwa [Int.toNat_of_nonneg (by omega)] at h
theorem rshuffle_any (s n : Int) (w : World) : Calls Try.prog 20 #[.agg #[.int .u64 s], .int .i64 n] w (Shuffled s n w) := by
  by_cases h1 : n < 0
  · have hc : clampN n = 0 := by unfold clampN; rw [if_pos h1]
    refine rshuffle_low s n w (hid hc) h1 (hid ?_) (fun wx => make_ints 0 (by omega) wx)
    unfold shufS shufL
    rw [hc]
    exact ⟨rfl, rfl⟩
  · by_cases h2 : 4096 < n
    · have hc : clampN n = 4096 := by unfold clampN; rw [if_neg h1, if_pos h2]
      refine rshuffle_high s n 4096 w (by omega) (hid hc) h2 (hid (by rw [if_neg h1, if_pos h2]; rfl)) ?_
      rw [if_neg h1, if_pos h2]
      exact fun wx => make_ints 4096 (by omega) wx
    · have hc : clampN n = n.toNat := by unfold clampN; rw [if_neg h1, if_neg h2]
      refine rshuffle_mid s n n.toNat w (by omega) (hid hc) (by omega) (by omega) (hid (by rw [if_neg h1, if_neg h2]; omega)) ?_
      rw [if_neg h1, if_neg h2]
      intro wx
      have h := make_ints n.toNat (by omega) wx
      rwa [Int.toNat_of_nonneg (by omega)] at h
end Go.Proofs.Ytaekpkedjeefcaa
