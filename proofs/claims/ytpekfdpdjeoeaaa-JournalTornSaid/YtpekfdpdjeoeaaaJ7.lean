/-
  The walks of the methods of the reference's journal.
-/
import Derived.Test.YtpekfdpdjeoeaaaRows
import Derived.Test.YtpekfdpdjeoeaaaJPlain
import Derived.Test.YtpekfdpdjeoeaaaHeap
import Derived.Test.YtpekfdpdjeoeaaaJMem2
import Derived.Test.YtpekfdpdjeoeaaaJ6
import Derived.WalkKit
import Derived.ProofKit
import Derived.OpenShut
import Derived.BigRegion
import Derived.Laws.Concat
import Derived.Deep.QuietTactic
import Derived.BigQuiet
import Derived.Outline
namespace Go.Proofs.Ytpekfdpdjeoeaaa
open Go.ChangeShapes Go.WideShapes Go.ChangeAt Go.RowKit

theorem cut_run (B : List UInt8) (k : Nat) (A : Int) (hA : A = (k : Int)) (hk : k ≤ B.length) (wx : World) :
    (Instr.slice 9 (.string ⟨B.toArray⟩) none (some (.int .i64 A)) none).run Try.prog wx = .ok (.string ⟨(B.take k).toArray⟩) wx := by
  subst hA
  have h := run_slice_string_h (P := Try.prog) (w := wx) (t := 9) (s := ⟨B.toArray⟩) Try.underlying9 .i64 (k : Int) (by omega) (by rw [bsize]; omega)
  rw [h]
  have e : (ByteArray.mk B.toArray).extract 0 ((k : Int)).toNat = ⟨(B.take k).toArray⟩ := by
    apply ByteArray.ext
    apply Array.toList_inj.1
    rw [extract_list]
    simp
  rw [e]
theorem add_run (a b : List UInt8) (h : a.length + b.length ≤ 100000) (wx : World) : (Op.stringOp .add ⟨a.toArray⟩ ⟨b.toArray⟩).run Try.prog wx = .ok (.string ⟨(a ++ b).toArray⟩) wx := by
  rw [run_string_add_sum wx _ _ (by rw [bsize, bsize]; omega)]
  congr 2
theorem ksync_any (k : Nat) (B : List UInt8) (f : Int) (w : World) (h : KAt w k B f) : Calls Try.prog 18 #[.pointer (some ⟨k, 0, none⟩)] w fun e w' => e = .returned (.int .i64 B.length) ∧ KAt w' k B B.length ∧ Only [k] w w' := by
  have c0 : w.cell? ⟨k, 0, none⟩ = some (.string ⟨B.toArray⟩) := Has.cell h (j := 0) rfl
  have c1 : w.cell? ⟨k, 1, none⟩ = some (.int .i64 f) := Has.cell h (j := 1) rfl
  have f1 := Has.free h 1
  have hs := bsize B
  go_enter Try.func18, Try.ntmps18
  go_wp2
  go_ret
  exact ⟨rfl, Has.set h 1 _, (Only.refl [k] w).setIn (by simp) _⟩
set_option maxHeartbeats 1000000 in
theorem kappend_any (k : Nat) (B : List UInt8) (f : Int) (s : ByteArray) (w : World) (h : KAt w k B f) (hn : B.length ≤ 10000) (hs : s.size ≤ 300) :
    Calls Try.prog 16 #[.pointer (some ⟨k, 0, none⟩), .string s] w fun e w' => e = .returned (.int .i64 0) ∧ KAt w' k (actB B s.data.toList) (actF B f) ∧ Only [k] w w' := by
  have hkn := kept_le B
  have hsl : Hid (s.data.toList.length = s.size) := hid (by simp)
  go_enter Try.func16, Try.ntmps16
  go_wp2_with fail
  refine (rframe_short s _ s.size rfl (by omega)).mono ?_
  rintro e w1 ⟨rfl, hb1⟩
  have k1 := Has.below h hb1 (Has.lt h)
  have c0 : w1.cell? ⟨k, 0, none⟩ = some (.string ⟨B.toArray⟩) := k1.cell (j := 0) rfl
  go_wp2_with fail
  refine (rScan_any ⟨B.toArray⟩ _ (by rw [bsize]; exact hn)).mono ?_
  rintro e w2 ⟨v, rfl, hown, hb2⟩
  rw [show (ByteArray.mk B.toArray).data.toList = B from rfl, kept_eq B]
  have hb3 : Below w.heap.size w w2 := hb1.trans (hb2.mono hb1.size)
  have k2 := Has.below h hb3 (Has.lt h)
  have d0 : w2.cell? ⟨k, 0, none⟩ = some (.string ⟨B.toArray⟩) := k2.cell (j := 0) rfl
  have d1 : w2.cell? ⟨k, 1, none⟩ = some (.int .i64 f) := k2.cell (j := 1) rfl
  have g0 := k2.free 0
  have g1 := k2.free 1
  obtain ⟨n, en⟩ : ∃ n, n = kept B := ⟨_, rfl⟩
  rw [← en]
  rw [← en] at hkn
  have En := hid en
  clear en hb1 hb2 k1 c0 hown
  have hc := cut_run B n (n : Int) rfl hkn
  have ha := add_run (B.take n) (frameL s.data.toList) (by have := hsl.out; simp only [List.length_take, frameL_length]; omega)
  by_cases hfn : f ≤ (n : Int)
  · have hF : Hid (actF B f = f) := hid (by unfold actF; rw [← En.out, if_pos hfn])
    go_wp2
    go_ret
    refine ⟨rfl, ?_, ((Only.ofBelow hb3 (Nat.le_refl _)).setIn (by simp) _).setIn (by simp) _⟩
    unfold KAt actB
    rw [hF.out, ← En.out]
    exact (k2.set 1 (.int .i64 (f))).set 0 (.string ⟨(B.take n ++ frameL s.data.toList).toArray⟩)
  · have hF : Hid (actF B f = (n : Int)) := hid (by unfold actF; rw [← En.out, if_neg hfn])
    go_wp2
    go_ret
    refine ⟨rfl, ?_, ((Only.ofBelow hb3 (Nat.le_refl _)).setIn (by simp) _).setIn (by simp) _⟩
    unfold KAt actB
    rw [hF.out, ← En.out]
    exact (k2.set 1 (.int .i64 ((n : Int)))).set 0 (.string ⟨(B.take n ++ frameL s.data.toList).toArray⟩)

set_option maxHeartbeats 1000000 in
theorem kcrash_neg (k : Nat) (B : List UInt8) (F n : Nat) (keep : Int) (w : World) (h : KAt w k B F) (hlen : Hid (B.length = n)) (hn : n ≤ 10000) (hF : F ≤ n) (h1 : keep < 0) :
    Calls Try.prog 20 #[.pointer (some ⟨k, 0, none⟩), .int .i64 keep] w fun e w' => e = .returned (.tuple #[]) ∧ KAt w' k (B.take (crash n F keep)) (crash n F keep) ∧ Only [k] w w' := by
  have c0 : w.cell? ⟨k, 0, none⟩ = some (.string ⟨B.toArray⟩) := Has.cell h (j := 0) rfl
  have c1 : w.cell? ⟨k, 1, none⟩ = some (.int .i64 F) := Has.cell h (j := 1) rfl
  have f0 := Has.free h 0
  have f1 := Has.free h 1
  have hcb := crash_bd n F keep hF
  have hcv : crash n F keep = F := by unfold crash; rw [if_pos h1]
  have hsz : (ByteArray.mk B.toArray).size = n := by rw [bsize, hlen.out]
  have Em : Hid (F = crash n F keep) := hid hcv.symm
  clear hcv
  have hsz2 : (ByteArray.mk (B.take F).toArray).size = F := by rw [bsize, List.length_take, hlen.out]; omega
  have hc := cut_run B F (F : Int) rfl (by rw [hlen.out]; omega)
  go_enter Try.func20, Try.ntmps20
  go_wp2
  go_quiet (fail)
  go_wp2
  go_region
  go_wp2
  go_end0
  refine ⟨rfl, ?_, ?_⟩
  · rw [← Em.out]
    exact Has.set (Has.set h 0 (.string ⟨(B.take F).toArray⟩)) 1 (.int .i64 F)
  · have ho : Only [k] w ((w.setCell ⟨k, 0, none⟩ (.string ⟨(B.take F).toArray⟩)).setCell ⟨k, 1, none⟩ (.int .i64 F)) := ((Only.refl [k] w).setIn (by simp) _).setIn (by simp) _
    exact ⟨ho.os, ho.tape, ho.output, ho.size, ho.block⟩

set_option maxHeartbeats 1000000 in
theorem kcrash_mid (k : Nat) (B : List UInt8) (F n : Nat) (keep : Int) (w : World) (h : KAt w k B F) (hlen : Hid (B.length = n)) (hn : n ≤ 10000) (hF : F ≤ n) (h1 : 0 ≤ keep) (h2 : keep ≤ (n : Int) - F) :
    Calls Try.prog 20 #[.pointer (some ⟨k, 0, none⟩), .int .i64 keep] w fun e w' => e = .returned (.tuple #[]) ∧ KAt w' k (B.take (crash n F keep)) (crash n F keep) ∧ Only [k] w w' := by
  have c0 : w.cell? ⟨k, 0, none⟩ = some (.string ⟨B.toArray⟩) := Has.cell h (j := 0) rfl
  have c1 : w.cell? ⟨k, 1, none⟩ = some (.int .i64 F) := Has.cell h (j := 1) rfl
  have f0 := Has.free h 0
  have f1 := Has.free h 1
  have hcb := crash_bd n F keep hF
  have hcv : crash n F keep = (F + keep.toNat) := by unfold crash; rw [if_neg (by omega), if_pos h2]
  have hsz : (ByteArray.mk B.toArray).size = n := by rw [bsize, hlen.out]
  obtain ⟨m, em⟩ : ∃ m, m = crash n F keep := ⟨_, rfl⟩
  rw [← em] at hcb hcv
  have Em := hid em
  have hm : (F : Int) + keep = (m : Int) := by omega
  clear em hcv
  have hsz2 : (ByteArray.mk (B.take m).toArray).size = m := by rw [bsize, List.length_take, hlen.out]; omega
  have hc := cut_run B m (m : Int) rfl (by rw [hlen.out]; omega)
  go_enter Try.func20, Try.ntmps20
  go_wp2
  go_quiet (fail)
  go_wp2
  go_region
  go_wp2
  go_end0
  refine ⟨rfl, ?_, ?_⟩
  · rw [← Em.out]
    exact Has.set (Has.set h 0 (.string ⟨(B.take m).toArray⟩)) 1 (.int .i64 m)
  · have ho : Only [k] w ((w.setCell ⟨k, 0, none⟩ (.string ⟨(B.take m).toArray⟩)).setCell ⟨k, 1, none⟩ (.int .i64 m)) := ((Only.refl [k] w).setIn (by simp) _).setIn (by simp) _
    exact ⟨ho.os, ho.tape, ho.output, ho.size, ho.block⟩

set_option maxHeartbeats 1000000 in
theorem kcrash_all (k : Nat) (B : List UInt8) (F n : Nat) (keep : Int) (w : World) (h : KAt w k B F) (hlen : Hid (B.length = n)) (hn : n ≤ 10000) (hF : F ≤ n) (h1 : 0 ≤ keep) (h2 : (n : Int) - F < keep) :
    Calls Try.prog 20 #[.pointer (some ⟨k, 0, none⟩), .int .i64 keep] w fun e w' => e = .returned (.tuple #[]) ∧ KAt w' k (B.take (crash n F keep)) (crash n F keep) ∧ Only [k] w w' := by
  have c0 : w.cell? ⟨k, 0, none⟩ = some (.string ⟨B.toArray⟩) := Has.cell h (j := 0) rfl
  have c1 : w.cell? ⟨k, 1, none⟩ = some (.int .i64 F) := Has.cell h (j := 1) rfl
  have f0 := Has.free h 0
  have f1 := Has.free h 1
  have hcb := crash_bd n F keep hF
  have hcv : crash n F keep = n := by unfold crash; rw [if_neg (by omega), if_neg (by omega)]
  have hsz : (ByteArray.mk B.toArray).size = n := by rw [bsize, hlen.out]
  obtain ⟨m, em⟩ : ∃ m, m = crash n F keep := ⟨_, rfl⟩
  rw [← em] at hcb hcv
  have Em := hid em
  have hm : (F : Int) + ((n : Int) - F) = (m : Int) := by omega
  clear em hcv
  have hsz2 : (ByteArray.mk (B.take m).toArray).size = m := by rw [bsize, List.length_take, hlen.out]; omega
  have hc := cut_run B m (m : Int) rfl (by rw [hlen.out]; omega)
  go_enter Try.func20, Try.ntmps20
  go_wp2
  go_quiet (fail)
  go_wp2
  go_region
  go_wp2
  go_end0
  refine ⟨rfl, ?_, ?_⟩
  · rw [← Em.out]
    exact Has.set (Has.set h 0 (.string ⟨(B.take m).toArray⟩)) 1 (.int .i64 m)
  · have ho : Only [k] w ((w.setCell ⟨k, 0, none⟩ (.string ⟨(B.take m).toArray⟩)).setCell ⟨k, 1, none⟩ (.int .i64 m)) := ((Only.refl [k] w).setIn (by simp) _).setIn (by simp) _
    exact ⟨ho.os, ho.tape, ho.output, ho.size, ho.block⟩

theorem kcrash_any (k : Nat) (B : List UInt8) (F n : Nat) (keep : Int) (w : World) (h : KAt w k B F) (hlen : B.length = n) (hn : n ≤ 10000) (hF : F ≤ n) :
    Calls Try.prog 20 #[.pointer (some ⟨k, 0, none⟩), .int .i64 keep] w fun e w' => e = .returned (.tuple #[]) ∧ KAt w' k (B.take (crash n F keep)) (crash n F keep) ∧ Only [k] w w' := by
  by_cases h1 : keep < 0
  · exact kcrash_neg k B F n keep w h (hid hlen) hn hF h1
  · by_cases h2 : keep ≤ (n : Int) - F
    · exact kcrash_mid k B F n keep w h (hid hlen) hn hF (by omega) h2
    · exact kcrash_all k B F n keep w h (hid hlen) hn hF (by omega) (by omega)
end Go.Proofs.Ytpekfdpdjeoeaaa
