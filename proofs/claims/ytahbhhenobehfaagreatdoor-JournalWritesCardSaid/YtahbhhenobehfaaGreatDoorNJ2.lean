/-
  The walk of cut of package journal.
-/
import Derived.Test.YtahbhhenobehfaaGreatDoorRows
import Derived.Test.YtahbhhenobehfaaGreatDoorM1
import Derived.Test.YtahbhhenobehfaaGreatDoorM2
import Derived.WalkKit
import Derived.ProofKit
import Derived.OpenShut
import Derived.Deep.QuietTactic
import Derived.BigQuiet
import Derived.Outline
namespace Go.Proofs.YtahbhhenobehfaaGreatDoor
open Go.ChangeShapes Go.WideShapes Go.ChangeAt Go.RowKit

/-- What cut gives back: nothing, or the payload and the rest, each read where it lies. -/
def CutNo (ad : Option Addr) (n cap : Nat) (w : World) (e : Ending) (w' : World) : Prop :=
  e = .returned (.tuple #[.slice none 0 0, .slice ad n cap, .bool false]) ∧ Below w.heap.size w w'
def CutYes (b : Nat) (p r : List UInt8) (w : World) (e : Ending) (w' : World) : Prop :=
  ∃ a1 a2 c2, e = .returned (.tuple #[.slice a1 p.length p.length, .slice a2 r.length c2, .bool true]) ∧ r.length ≤ c2 ∧ c2 ≤ 9223372036854775807 ∧ RowB w' a1 p ∧ RowB w' a2 r ∧ (∀ a, a2 = some a → a.block = b) ∧ Below w.heap.size w w'
theorem cut_short (ad : Option Addr) (n cap : Nat) (w : World) (h : n < 6) :
    Calls Tryz.prog 76 #[.slice ad n cap] w (CutNo ad n cap w) := by
  go_enter Tryz.func76, Tryz.ntmps76
  go_wp2
  go_ret3
  exact ⟨rfl, Below.refl _ _⟩
set_option maxHeartbeats 1000000 in
theorem cut_torn (b o n cap : Nat) (l : List UInt8) (w : World) (K : Int) (hK : Hid (K = bt l 0 * 256 + bt l 1)) (hlen : Hid (l.length = n)) (h6 : 6 ≤ n) (hm : n ≤ 9223372036854775807) (hr : RowB w (some ⟨b, o, none⟩) l) (hn : (n : Int) < 6 + K) :
    Calls Tryz.prog 76 #[.slice (some ⟨b, o, none⟩) n cap] w (CutNo (some ⟨b, o, none⟩) n cap w) := by
  have c0 : w.cell? ⟨b, o, none⟩ = some (.int .u8 (bt l 0)) := hr.at 0 (by rw [hlen.out]; omega)
  have c1 := hr.at 1 (by rw [hlen.out]; omega)
  have c2 := hr.at 2 (by rw [hlen.out]; omega)
  have c3 := hr.at 3 (by rw [hlen.out]; omega)
  have c4 := hr.at 4 (by rw [hlen.out]; omega)
  have c5 := hr.at 5 (by rw [hlen.out]; omega)
  have h0 := bt_bd l 0
  have h1 := bt_bd l 1
  have h2 := bt_bd l 2
  have h3 := bt_bd l 3
  have h4 := bt_bd l 4
  have h5 := bt_bd l 5
  have i0 : (0 : Int) < (n : Int) := by omega
  have i1 : (1 : Int) < (n : Int) := by omega
  have i2 : (2 : Int) < (n : Int) := by omega
  have i3 : (3 : Int) < (n : Int) := by omega
  have i4 : (4 : Int) < (n : Int) := by omega
  have i5 : (5 : Int) < (n : Int) := by omega
  have hKb : 0 ≤ K ∧ K ≤ 65535 := by rw [hK.out]; omega
  have ho := or_len _ _ h0 h1
  rw [← hK.out] at ho
  go_enter Tryz.func76, Tryz.ntmps76
  go_wp2
  go_quiet (fail)
  go_wp2
  go_ret3
  exact ⟨rfl, ⟨rfl, rfl, rfl, Nat.le_refl _, fun _ _ => rfl⟩⟩

set_option maxHeartbeats 1000000 in
theorem cut_bad_zero (b o n cap : Nat) (S : Int) (l : List UInt8) (w : World) (hk : Hid (((0 : Nat) : Int) = bt l 0 * 256 + bt l 1)) (hS : Hid (S = bt l 2 * 16777216 + bt l 3 * 65536 + bt l 4 * 256 + bt l 5)) (hlen : Hid (l.length = n)) (h6 : 6 ≤ n) (hc : n ≤ cap) (hm : cap ≤ 9223372036854775807) (hr : RowB w (some ⟨b, o, none⟩) l) (hbad : sum32 ((l.drop 6).take 0) ≠ S) :
    Calls Tryz.prog 76 #[.slice (some ⟨b, o, none⟩) n cap] w (CutNo (some ⟨b, o, none⟩) n cap w) := by
  have c0 : w.cell? ⟨b, o, none⟩ = some (.int .u8 (bt l 0)) := hr.at 0 (by rw [hlen.out]; omega)
  have c1 := hr.at 1 (by rw [hlen.out]; omega)
  have c2 := hr.at 2 (by rw [hlen.out]; omega)
  have c3 := hr.at 3 (by rw [hlen.out]; omega)
  have c4 := hr.at 4 (by rw [hlen.out]; omega)
  have c5 := hr.at 5 (by rw [hlen.out]; omega)
  have h0 := bt_bd l 0
  have h1 := bt_bd l 1
  have h2 := bt_bd l 2
  have h3 := bt_bd l 3
  have h4 := bt_bd l 4
  have h5 := bt_bd l 5
  have i0 : (0 : Int) < (n : Int) := by omega
  have i1 : (1 : Int) < (n : Int) := by omega
  have i2 : (2 : Int) < (n : Int) := by omega
  have i3 : (3 : Int) < (n : Int) := by omega
  have i4 : (4 : Int) < (n : Int) := by omega
  have i5 : (5 : Int) < (n : Int) := by omega
  have ho := or_len _ _ h0 h1
  rw [← hk.out] at ho
  have hs := or_sum _ _ _ _ h2 h3 h4 h5
  rw [← hS.out] at hs
  have hpl : ((l.drop 6).take 0).length = 0 := by simp only [List.length_take, List.length_drop]; have := hlen.out; omega
  have hrp : ∀ m, RowB (w.drewN m) (some ⟨b, o, none⟩) ((l.drop 6).take 0) := fun m => by rw [List.take_zero]; exact RowB.nil _ _
  have hcv : ∀ m, (convert 65 9 (.slice (some ⟨b, o, none⟩) 0 0)).run Tryz.prog (w.drewN m) = .ok (.string ⟨((l.drop 6).take 0).toArray⟩) (w.drewN m) := fun m => by
    have h := (hrp m).convert (cap := 0)
    rwa [hpl] at h
  have Hpl := hid hpl
  clear hpl
  obtain ⟨P, eP⟩ : ∃ P, P = (l.drop 6).take 0 := ⟨_, rfl⟩
  rw [← eP] at hcv hrp Hpl
  have EP := hid eP
  clear eP
  have Hrp := hid hrp
  clear hrp
  have ho2 : bits .or .i64 (bt l 0 * 256) (bt l 1) = 0 := by rw [ho]; rfl
  clear ho
  go_enter Tryz.func76, Tryz.ntmps76
  go_wp2
  go_quiet (fail)
  go_wp2
  go_quiet (fail)
  go_wp2_with fail
  refine (checksum_any ⟨P.toArray⟩ _ (by rw [bsize, Hpl.out]; unfold maxLen; omega)).mono ?_
  rintro e w1 ⟨rfl, rfl⟩
  have hne : (sum32 P != S) = true := by rw [EP.out]; simpa using hbad
  clear hbad
  go_wp2
  go_ret3
  exact ⟨rfl, ⟨rfl, rfl, rfl, Nat.le_refl _, fun _ _ => rfl⟩⟩

set_option maxHeartbeats 1000000 in
theorem cut_bad_pos (b o n cap k : Nat) (S : Int) (l : List UInt8) (w : World) (hk : Hid (((k : Nat) : Int) = bt l 0 * 256 + bt l 1)) (hk0 : 0 < k) (hS : Hid (S = bt l 2 * 16777216 + bt l 3 * 65536 + bt l 4 * 256 + bt l 5)) (hlen : Hid (l.length = n)) (h6 : 6 ≤ n) (hkn : 6 + k ≤ n) (hc : n ≤ cap) (hm : cap ≤ 9223372036854775807) (hr : RowB w (some ⟨b, o, none⟩) l) (hbad : sum32 ((l.drop 6).take k) ≠ S) :
    Calls Tryz.prog 76 #[.slice (some ⟨b, o, none⟩) n cap] w (CutNo (some ⟨b, o, none⟩) n cap w) := by
  have c0 : w.cell? ⟨b, o, none⟩ = some (.int .u8 (bt l 0)) := hr.at 0 (by rw [hlen.out]; omega)
  have c1 := hr.at 1 (by rw [hlen.out]; omega)
  have c2 := hr.at 2 (by rw [hlen.out]; omega)
  have c3 := hr.at 3 (by rw [hlen.out]; omega)
  have c4 := hr.at 4 (by rw [hlen.out]; omega)
  have c5 := hr.at 5 (by rw [hlen.out]; omega)
  have h0 := bt_bd l 0
  have h1 := bt_bd l 1
  have h2 := bt_bd l 2
  have h3 := bt_bd l 3
  have h4 := bt_bd l 4
  have h5 := bt_bd l 5
  have i0 : (0 : Int) < (n : Int) := by omega
  have i1 : (1 : Int) < (n : Int) := by omega
  have i2 : (2 : Int) < (n : Int) := by omega
  have i3 : (3 : Int) < (n : Int) := by omega
  have i4 : (4 : Int) < (n : Int) := by omega
  have i5 : (5 : Int) < (n : Int) := by omega
  have ho := or_len _ _ h0 h1
  rw [← hk.out] at ho
  have hs := or_sum _ _ _ _ h2 h3 h4 h5
  rw [← hS.out] at hs
  have hpl : ((l.drop 6).take k).length = k := by simp only [List.length_take, List.length_drop]; have := hlen.out; omega
  have hrp : ∀ m, RowB (w.drewN m) (some ⟨b, o + 6, none⟩) ((l.drop 6).take k) := fun m => (RowB.part (w := w) hr 6 k)
  have hcv : ∀ m, (convert 65 9 (.slice (some ⟨b, o + 6, none⟩) k k)).run Tryz.prog (w.drewN m) = .ok (.string ⟨((l.drop 6).take k).toArray⟩) (w.drewN m) := fun m => by
    have h := (hrp m).convert (cap := k)
    rwa [hpl] at h
  have Hpl := hid hpl
  clear hpl
  obtain ⟨P, eP⟩ : ∃ P, P = (l.drop 6).take k := ⟨_, rfl⟩
  rw [← eP] at hcv hrp Hpl
  have EP := hid eP
  clear eP
  have Hrp := hid hrp
  clear hrp
  
  
  go_enter Tryz.func76, Tryz.ntmps76
  go_wp2
  go_quiet (fail)
  go_wp2
  go_quiet (fail)
  go_wp2_with fail
  refine (checksum_any ⟨P.toArray⟩ _ (by rw [bsize, Hpl.out]; unfold maxLen; omega)).mono ?_
  rintro e w1 ⟨rfl, rfl⟩
  have hne : (sum32 P != S) = true := by rw [EP.out]; simpa using hbad
  clear hbad
  go_wp2
  go_ret3
  exact ⟨rfl, ⟨rfl, rfl, rfl, Nat.le_refl _, fun _ _ => rfl⟩⟩

set_option maxHeartbeats 1000000 in
theorem cut_good_zero_end (b o : Nat) (S : Int) (l : List UInt8) (w : World) (hk : Hid (((0 : Nat) : Int) = bt l 0 * 256 + bt l 1)) (hS : Hid (S = bt l 2 * 16777216 + bt l 3 * 65536 + bt l 4 * 256 + bt l 5)) (hlen : Hid (l.length = 6)) (hr : RowB w (some ⟨b, o, none⟩) l) (hgood : sum32 ((l.drop 6).take 0) = S) :
    Calls Tryz.prog 76 #[.slice (some ⟨b, o, none⟩) 6 6] w (CutYes b ((l.drop 6).take 0) (l.drop (6)) w) := by
  have c0 : w.cell? ⟨b, o, none⟩ = some (.int .u8 (bt l 0)) := hr.at 0 (by rw [hlen.out]; omega)
  have c1 := hr.at 1 (by rw [hlen.out]; omega)
  have c2 := hr.at 2 (by rw [hlen.out]; omega)
  have c3 := hr.at 3 (by rw [hlen.out]; omega)
  have c4 := hr.at 4 (by rw [hlen.out]; omega)
  have c5 := hr.at 5 (by rw [hlen.out]; omega)
  have h0 := bt_bd l 0
  have h1 := bt_bd l 1
  have h2 := bt_bd l 2
  have h3 := bt_bd l 3
  have h4 := bt_bd l 4
  have h5 := bt_bd l 5
  have ho := or_len _ _ h0 h1
  rw [← hk.out] at ho
  have hs := or_sum _ _ _ _ h2 h3 h4 h5
  rw [← hS.out] at hs
  have hpl : ((l.drop 6).take 0).length = 0 := by simp only [List.length_take, List.length_drop]; have := hlen.out; omega
  have hrp : ∀ m, RowB (w.drewN m) (some ⟨b, o, none⟩) ((l.drop 6).take 0) := fun m => by rw [List.take_zero]; exact RowB.nil _ _
  have hcv : ∀ m, (convert 65 9 (.slice (some ⟨b, o, none⟩) 0 0)).run Tryz.prog (w.drewN m) = .ok (.string ⟨((l.drop 6).take 0).toArray⟩) (w.drewN m) := fun m => by
    have h := (hrp m).convert (cap := 0)
    rwa [hpl] at h
  have Hpl := hid hpl
  clear hpl
  obtain ⟨P, eP⟩ : ∃ P, P = (l.drop 6).take 0 := ⟨_, rfl⟩
  have hgd : sum32 P = S := by rw [eP]; exact hgood
  rw [← eP]
  rw [← eP] at hcv hrp Hpl
  have EP := hid eP
  clear eP hgood
  have Hrp := hid hrp
  clear hrp
  have hne : (sum32 P != S) = false := by simpa using hgd
  clear hgd
  have Hlr : Hid ((l.drop (6)).length = 0) := hid (by rw [List.length_drop, hlen.out])
  have Hrr : Hid (∀ m, RowB (w.drewN m) (some ⟨b, o, none⟩) (l.drop (6))) := hid fun m => by rw [List.drop_of_length_le (by rw [hlen.out]; exact Nat.le_refl _)]; exact RowB.nil _ _
  have ho2 : bits .or .i64 (bt l 0 * 256) (bt l 1) = 0 := by rw [ho]; rfl
  clear ho
  go_enter Tryz.func76, Tryz.ntmps76
  go_wp2
  go_quiet (fail)
  go_wp2
  go_quiet (fail)
  go_wp2_with fail
  refine (checksum_any ⟨P.toArray⟩ _ (by rw [bsize, Hpl.out]; unfold maxLen; omega)).mono ?_
  rintro e w1 ⟨rfl, rfl⟩
  go_wp2
  go_quiet (fail)
  go_wp2
  go_ret3
  have hlp := Hpl.out
  have hlr := Hlr.out
  exact ⟨some ⟨b, o, none⟩, some ⟨b, o, none⟩, 0, by rw [hlp, hlr]; rfl, by omega, by omega, by exact Hrp.out 0, by exact Hrr.out 0, fun a ha => by cases ha; rfl, ⟨rfl, rfl, rfl, Nat.le_refl _, fun _ _ => rfl⟩⟩

set_option maxHeartbeats 1000000 in
theorem cut_good_zero (b o n cap : Nat) (S : Int) (l : List UInt8) (w : World) (hk : Hid (((0 : Nat) : Int) = bt l 0 * 256 + bt l 1)) (hS : Hid (S = bt l 2 * 16777216 + bt l 3 * 65536 + bt l 4 * 256 + bt l 5)) (hlen : Hid (l.length = n)) (h6 : 6 ≤ n) (hc : n ≤ cap) (hcap : 6 < cap) (hm : cap ≤ 9223372036854775807) (hr : RowB w (some ⟨b, o, none⟩) l) (hgood : sum32 ((l.drop 6).take 0) = S) :
    Calls Tryz.prog 76 #[.slice (some ⟨b, o, none⟩) n cap] w (CutYes b ((l.drop 6).take 0) (l.drop (6)) w) := by
  have c0 : w.cell? ⟨b, o, none⟩ = some (.int .u8 (bt l 0)) := hr.at 0 (by rw [hlen.out]; omega)
  have c1 := hr.at 1 (by rw [hlen.out]; omega)
  have c2 := hr.at 2 (by rw [hlen.out]; omega)
  have c3 := hr.at 3 (by rw [hlen.out]; omega)
  have c4 := hr.at 4 (by rw [hlen.out]; omega)
  have c5 := hr.at 5 (by rw [hlen.out]; omega)
  have h0 := bt_bd l 0
  have h1 := bt_bd l 1
  have h2 := bt_bd l 2
  have h3 := bt_bd l 3
  have h4 := bt_bd l 4
  have h5 := bt_bd l 5
  have i0 : (0 : Int) < (n : Int) := by omega
  have i1 : (1 : Int) < (n : Int) := by omega
  have i2 : (2 : Int) < (n : Int) := by omega
  have i3 : (3 : Int) < (n : Int) := by omega
  have i4 : (4 : Int) < (n : Int) := by omega
  have i5 : (5 : Int) < (n : Int) := by omega
  have ho := or_len _ _ h0 h1
  rw [← hk.out] at ho
  have hs := or_sum _ _ _ _ h2 h3 h4 h5
  rw [← hS.out] at hs
  have hpl : ((l.drop 6).take 0).length = 0 := by simp only [List.length_take, List.length_drop]; have := hlen.out; omega
  have hrp : ∀ m, RowB (w.drewN m) (some ⟨b, o, none⟩) ((l.drop 6).take 0) := fun m => by rw [List.take_zero]; exact RowB.nil _ _
  have hcv : ∀ m, (convert 65 9 (.slice (some ⟨b, o, none⟩) 0 0)).run Tryz.prog (w.drewN m) = .ok (.string ⟨((l.drop 6).take 0).toArray⟩) (w.drewN m) := fun m => by
    have h := (hrp m).convert (cap := 0)
    rwa [hpl] at h
  have Hpl := hid hpl
  clear hpl
  obtain ⟨P, eP⟩ : ∃ P, P = (l.drop 6).take 0 := ⟨_, rfl⟩
  have hgd : sum32 P = S := by rw [eP]; exact hgood
  rw [← eP]
  rw [← eP] at hcv hrp Hpl
  have EP := hid eP
  clear eP hgood
  have Hrp := hid hrp
  clear hrp
  have hne : (sum32 P != S) = false := by simpa using hgd
  clear hgd
  have Hlr : Hid ((l.drop (6)).length = n - (6)) := hid (by rw [List.length_drop, hlen.out])
  have Hrr : Hid (∀ m, RowB (w.drewN m) (some ⟨b, o + (6), none⟩) (l.drop (6))) := hid fun m => (RowB.drop (w := w) hr (6))
  have ho2 : bits .or .i64 (bt l 0 * 256) (bt l 1) = 0 := by rw [ho]; rfl
  clear ho
  go_enter Tryz.func76, Tryz.ntmps76
  go_wp2
  go_quiet (fail)
  go_wp2
  go_quiet (fail)
  go_wp2_with fail
  refine (checksum_any ⟨P.toArray⟩ _ (by rw [bsize, Hpl.out]; unfold maxLen; omega)).mono ?_
  rintro e w1 ⟨rfl, rfl⟩
  go_wp2
  go_quiet (fail)
  go_wp2
  go_ret3
  have hlp := Hpl.out
  have hlr := Hlr.out
  exact ⟨some ⟨b, o, none⟩, some ⟨b, o + (6), none⟩, cap - (6), by rw [hlp, hlr]; rfl, by omega, by omega, by exact Hrp.out 0, by exact Hrr.out 0, fun a ha => by cases ha; rfl, ⟨rfl, rfl, rfl, Nat.le_refl _, fun _ _ => rfl⟩⟩

set_option maxHeartbeats 1000000 in
theorem cut_good_pos_end (b o k : Nat) (S : Int) (l : List UInt8) (w : World) (hk : Hid (((k : Nat) : Int) = bt l 0 * 256 + bt l 1)) (hk0 : 0 < k) (hS : Hid (S = bt l 2 * 16777216 + bt l 3 * 65536 + bt l 4 * 256 + bt l 5)) (hlen : Hid (l.length = (6 + k))) (hm : (6 + k) ≤ 9223372036854775807) (hr : RowB w (some ⟨b, o, none⟩) l) (hgood : sum32 ((l.drop 6).take k) = S) :
    Calls Tryz.prog 76 #[.slice (some ⟨b, o, none⟩) (6 + k) (6 + k)] w (CutYes b ((l.drop 6).take k) (l.drop (6 + k)) w) := by
  have c0 : w.cell? ⟨b, o, none⟩ = some (.int .u8 (bt l 0)) := hr.at 0 (by rw [hlen.out]; omega)
  have c1 := hr.at 1 (by rw [hlen.out]; omega)
  have c2 := hr.at 2 (by rw [hlen.out]; omega)
  have c3 := hr.at 3 (by rw [hlen.out]; omega)
  have c4 := hr.at 4 (by rw [hlen.out]; omega)
  have c5 := hr.at 5 (by rw [hlen.out]; omega)
  have h0 := bt_bd l 0
  have h1 := bt_bd l 1
  have h2 := bt_bd l 2
  have h3 := bt_bd l 3
  have h4 := bt_bd l 4
  have h5 := bt_bd l 5
  have i0 : (0 : Int) < (((6 + k) : Nat) : Int) := by omega
  have i1 : (1 : Int) < (((6 + k) : Nat) : Int) := by omega
  have i2 : (2 : Int) < (((6 + k) : Nat) : Int) := by omega
  have i3 : (3 : Int) < (((6 + k) : Nat) : Int) := by omega
  have i4 : (4 : Int) < (((6 + k) : Nat) : Int) := by omega
  have i5 : (5 : Int) < (((6 + k) : Nat) : Int) := by omega
  have ho := or_len _ _ h0 h1
  rw [← hk.out] at ho
  have hs := or_sum _ _ _ _ h2 h3 h4 h5
  rw [← hS.out] at hs
  have hpl : ((l.drop 6).take k).length = k := by simp only [List.length_take, List.length_drop]; have := hlen.out; omega
  have hrp : ∀ m, RowB (w.drewN m) (some ⟨b, o + 6, none⟩) ((l.drop 6).take k) := fun m => (RowB.part (w := w) hr 6 k)
  have hcv : ∀ m, (convert 65 9 (.slice (some ⟨b, o + 6, none⟩) k k)).run Tryz.prog (w.drewN m) = .ok (.string ⟨((l.drop 6).take k).toArray⟩) (w.drewN m) := fun m => by
    have h := (hrp m).convert (cap := k)
    rwa [hpl] at h
  have Hpl := hid hpl
  clear hpl
  obtain ⟨P, eP⟩ : ∃ P, P = (l.drop 6).take k := ⟨_, rfl⟩
  have hgd : sum32 P = S := by rw [eP]; exact hgood
  rw [← eP]
  rw [← eP] at hcv hrp Hpl
  have EP := hid eP
  clear eP hgood
  have Hrp := hid hrp
  clear hrp
  have hne : (sum32 P != S) = false := by simpa using hgd
  clear hgd
  have Hlr : Hid ((l.drop (6 + k)).length = 6 + k - (6 + k)) := hid (by rw [List.length_drop, hlen.out])
  have Hrr : Hid (∀ m, RowB (w.drewN m) (some ⟨b, o, none⟩) (l.drop (6 + k))) := hid fun m => by rw [List.drop_of_length_le (by rw [hlen.out]; exact Nat.le_refl _)]; exact RowB.nil _ _
  
  
  go_enter Tryz.func76, Tryz.ntmps76
  go_wp2
  go_quiet (fail)
  go_wp2
  go_quiet (fail)
  go_wp2_with fail
  refine (checksum_any ⟨P.toArray⟩ _ (by rw [bsize, Hpl.out]; unfold maxLen; omega)).mono ?_
  rintro e w1 ⟨rfl, rfl⟩
  go_wp2
  go_quiet (fail)
  go_wp2
  go_ret3
  have hlp := Hpl.out
  have hlr := Hlr.out
  exact ⟨some ⟨b, o + 6, none⟩, some ⟨b, o, none⟩, 6 + k - (6 + k), by rw [hlp, hlr]; rfl, by omega, by omega, by exact Hrp.out 0, by exact Hrr.out 0, fun a ha => by cases ha; rfl, ⟨rfl, rfl, rfl, Nat.le_refl _, fun _ _ => rfl⟩⟩

set_option maxHeartbeats 1000000 in
theorem cut_good_pos (b o n cap k : Nat) (S : Int) (l : List UInt8) (w : World) (hk : Hid (((k : Nat) : Int) = bt l 0 * 256 + bt l 1)) (hk0 : 0 < k) (hS : Hid (S = bt l 2 * 16777216 + bt l 3 * 65536 + bt l 4 * 256 + bt l 5)) (hlen : Hid (l.length = n)) (h6 : 6 ≤ n) (hkn : 6 + k ≤ n) (hc : n ≤ cap) (hcap : 6 + k < cap) (hm : cap ≤ 9223372036854775807) (hr : RowB w (some ⟨b, o, none⟩) l) (hgood : sum32 ((l.drop 6).take k) = S) :
    Calls Tryz.prog 76 #[.slice (some ⟨b, o, none⟩) n cap] w (CutYes b ((l.drop 6).take k) (l.drop (6 + k)) w) := by
  have c0 : w.cell? ⟨b, o, none⟩ = some (.int .u8 (bt l 0)) := hr.at 0 (by rw [hlen.out]; omega)
  have c1 := hr.at 1 (by rw [hlen.out]; omega)
  have c2 := hr.at 2 (by rw [hlen.out]; omega)
  have c3 := hr.at 3 (by rw [hlen.out]; omega)
  have c4 := hr.at 4 (by rw [hlen.out]; omega)
  have c5 := hr.at 5 (by rw [hlen.out]; omega)
  have h0 := bt_bd l 0
  have h1 := bt_bd l 1
  have h2 := bt_bd l 2
  have h3 := bt_bd l 3
  have h4 := bt_bd l 4
  have h5 := bt_bd l 5
  have i0 : (0 : Int) < (n : Int) := by omega
  have i1 : (1 : Int) < (n : Int) := by omega
  have i2 : (2 : Int) < (n : Int) := by omega
  have i3 : (3 : Int) < (n : Int) := by omega
  have i4 : (4 : Int) < (n : Int) := by omega
  have i5 : (5 : Int) < (n : Int) := by omega
  have ho := or_len _ _ h0 h1
  rw [← hk.out] at ho
  have hs := or_sum _ _ _ _ h2 h3 h4 h5
  rw [← hS.out] at hs
  have hpl : ((l.drop 6).take k).length = k := by simp only [List.length_take, List.length_drop]; have := hlen.out; omega
  have hrp : ∀ m, RowB (w.drewN m) (some ⟨b, o + 6, none⟩) ((l.drop 6).take k) := fun m => (RowB.part (w := w) hr 6 k)
  have hcv : ∀ m, (convert 65 9 (.slice (some ⟨b, o + 6, none⟩) k k)).run Tryz.prog (w.drewN m) = .ok (.string ⟨((l.drop 6).take k).toArray⟩) (w.drewN m) := fun m => by
    have h := (hrp m).convert (cap := k)
    rwa [hpl] at h
  have Hpl := hid hpl
  clear hpl
  obtain ⟨P, eP⟩ : ∃ P, P = (l.drop 6).take k := ⟨_, rfl⟩
  have hgd : sum32 P = S := by rw [eP]; exact hgood
  rw [← eP]
  rw [← eP] at hcv hrp Hpl
  have EP := hid eP
  clear eP hgood
  have Hrp := hid hrp
  clear hrp
  have hne : (sum32 P != S) = false := by simpa using hgd
  clear hgd
  have Hlr : Hid ((l.drop (6 + k)).length = n - (6 + k)) := hid (by rw [List.length_drop, hlen.out])
  have Hrr : Hid (∀ m, RowB (w.drewN m) (some ⟨b, o + (6 + k), none⟩) (l.drop (6 + k))) := hid fun m => (RowB.drop (w := w) hr (6 + k))
  
  
  go_enter Tryz.func76, Tryz.ntmps76
  go_wp2
  go_quiet (fail)
  go_wp2
  go_quiet (fail)
  go_wp2_with fail
  refine (checksum_any ⟨P.toArray⟩ _ (by rw [bsize, Hpl.out]; unfold maxLen; omega)).mono ?_
  rintro e w1 ⟨rfl, rfl⟩
  go_wp2
  go_quiet (fail)
  go_wp2
  go_ret3
  have hlp := Hpl.out
  have hlr := Hlr.out
  exact ⟨some ⟨b, o + 6, none⟩, some ⟨b, o + (6 + k), none⟩, cap - (6 + k), by rw [hlp, hlr]; rfl, by omega, by omega, by exact Hrp.out 0, by exact Hrr.out 0, fun a ha => by cases ha; rfl, ⟨rfl, rfl, rfl, Nat.le_refl _, fun _ _ => rfl⟩⟩

theorem cut_no (ad : Option Addr) (n cap : Nat) (l : List UInt8) (w : World) (hcut : cutL l = none) (hlen : l.length = n) (hc : n ≤ cap) (hm : cap ≤ 9223372036854775807) (hr : RowB w ad l) :
    Calls Tryz.prog 76 #[.slice ad n cap] w (CutNo ad n cap w) := by
  by_cases h6 : n < 6
  · exact cut_short ad n cap w h6
  · obtain ⟨b, o, rfl⟩ := hr.head (by omega)
    have h0 := bt_bd l 0
    have h1 := bt_bd l 1
    unfold cutL at hcut
    rw [if_neg (by omega)] at hcut
    by_cases h7 : (l.length : Int) < 6 + (bt l 0 * 256 + bt l 1)
    · exact cut_torn b o n cap l w _ (hid rfl) (hid hlen) (by omega) (by omega) hr (by rw [← hlen]; exact h7)
    · rw [if_neg h7] at hcut
      split at hcut
      · cases hcut
      · rename_i hne
        by_cases hk0 : (bt l 0 * 256 + bt l 1).toNat = 0
        · rw [hk0] at hne
          exact cut_bad_zero b o n cap _ l w (hid (by omega)) (hid rfl) (hid hlen) (by omega) hc hm hr hne
        · exact cut_bad_pos b o n cap _ _ l w (hid (by omega)) (by omega) (hid rfl) (hid hlen) (by omega) (by omega) hc hm hr hne
theorem cut_yes (b o : Nat) (n cap : Nat) (l p r : List UInt8) (w : World) (hcut : cutL l = some (p, r)) (hlen : l.length = n) (hc : n ≤ cap) (hm : cap ≤ 9223372036854775807) (hr : RowB w (some ⟨b, o, none⟩) l) :
    Calls Tryz.prog 76 #[.slice (some ⟨b, o, none⟩) n cap] w (CutYes b p r w) := by
  have h0 := bt_bd l 0
  have h1 := bt_bd l 1
  unfold cutL at hcut
  split at hcut
  · cases hcut
  · split at hcut
    · cases hcut
    · split at hcut
      · rename_i h6 h7 heq
        injection hcut with hcut
        injection hcut with hp hr'
        subst hp hr'
        by_cases hk0 : (bt l 0 * 256 + bt l 1).toNat = 0
        · rw [hk0] at heq ⊢
          by_cases hend : cap = 6
          · obtain rfl : n = 6 := by omega
            subst hend
            exact cut_good_zero_end b o _ l w (hid (by omega)) (hid rfl) (hid hlen) hr heq
          · exact cut_good_zero b o n cap _ l w (hid (by omega)) (hid rfl) (hid hlen) (by omega) hc (by omega) hm hr heq
        · obtain ⟨k, hk⟩ : ∃ k, k = (bt l 0 * 256 + bt l 1).toNat := ⟨_, rfl⟩
          rw [← hk] at heq hk0 ⊢
          by_cases hend : cap = 6 + k
          · obtain rfl : n = 6 + k := by omega
            subst hend
            exact cut_good_pos_end b o k _ l w (hid (by omega)) (by omega) (hid rfl) (hid hlen) hm hr heq
          · exact cut_good_pos b o n cap k _ l w (hid (by omega)) (by omega) (hid rfl) (hid hlen) (by omega) (by omega) hc (by omega) hm hr heq
      · cases hcut
end Go.Proofs.YtahbhhenobehfaaGreatDoor
