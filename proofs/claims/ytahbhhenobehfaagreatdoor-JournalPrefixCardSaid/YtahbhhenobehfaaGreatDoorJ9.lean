/-
  The walk of awake: what one small journal does, byte by byte.
-/
import Derived.Test.YtahbhhenobehfaaGreatDoorRows
import Derived.Test.YtahbhhenobehfaaGreatDoorJPlain
import Derived.Test.YtahbhhenobehfaaGreatDoorHeap
import Derived.Test.YtahbhhenobehfaaGreatDoorJ1
import Derived.Test.YtahbhhenobehfaaGreatDoorJ6
import Derived.Test.YtahbhhenobehfaaGreatDoorJ8
import Derived.WalkKit
import Derived.ProofKit
import Derived.OpenShut
import Derived.BigRegion
import Derived.Deep.QuietTactic
import Derived.BigQuiet
import Derived.Outline
namespace Go.Proofs.YtahbhhenobehfaaGreatDoor
open Go.ChangeShapes Go.WideShapes Go.ChangeAt Go.RowKit

def G1 : List UInt8 := actB [] [97]
def G2 : List UInt8 := actB G1 [98, 99]
def G3 : List UInt8 := G2.take 10
def G4 : List UInt8 := actB G3 [100]
theorem sum_a : sum32 [97] = 3826002220 := by decide +kernel
theorem sum_0 : sum32 [] = 2166136261 := by decide +kernel
theorem actF0 : actF [] 0 = 0 := by decide +kernel
theorem len1 : G1.length = 7 := by decide +kernel
theorem actF1 : actF G1 7 = 7 := by decide +kernel
theorem len2 : G2.length = 15 := by decide +kernel
theorem len3 : G3.length = 10 := by decide +kernel
theorem scan3 : scanL G3 = ([[97]], G3.drop 7) := by decide +kernel
theorem actF3 : actF G3 10 = 7 := by decide +kernel
theorem len4 : G4.length = 14 := by decide +kernel
theorem scan4 : (scanL G4).1 = [[97], [100]] := by decide +kernel
theorem aw_sum1 (w : World) : Calls Tryz.prog 28 #[.string ⟨#[97]⟩] w fun e w' => e = .returned (.int .u32 3826002220) ∧ w = w' := by
  refine (checksum_any ⟨#[97]⟩ w (by decide)).mono ?_
  rintro e w' ⟨rfl, h⟩
  exact ⟨by rw [← sum_a], h⟩
theorem aw_sum0 (w : World) : Calls Tryz.prog 28 #[.string ⟨#[]⟩] w fun e w' => e = .returned (.int .u32 2166136261) ∧ w = w' := by
  refine (checksum_any ⟨#[]⟩ w (by decide)).mono ?_
  rintro e w' ⟨rfl, h⟩
  exact ⟨by rw [← sum_0], h⟩
theorem aw_app1 (j : Nat) (w : World) (h : JAt w j [] 0) : Calls Tryz.prog 17 #[.pointer (some ⟨j, 0, none⟩), .string ⟨#[97]⟩] w fun e w' => e = .returned (.int .i64 0) ∧ JAt w' j G1 0 ∧ Only [j] w w' := by
  refine (append_any j [] 0 ⟨#[97]⟩ w h (by decide) (by decide)).mono ?_
  rintro e w' ⟨rfl, h, ho⟩
  exact ⟨rfl, by rw [actF0] at h; exact h, ho⟩
theorem aw_sync (j : Nat) (w : World) (h : JAt w j G1 0) : Calls Tryz.prog 11 #[.pointer (some ⟨j, 0, none⟩)] w fun e w' => e = .returned (.int .i64 7) ∧ JAt w' j G1 7 ∧ Only [j] w w' := by
  refine (sync_any j G1 0 w h).mono ?_
  rintro e w' ⟨rfl, h, ho⟩
  rw [len1] at h ⊢
  exact ⟨rfl, h, ho⟩
theorem aw_app2 (j : Nat) (w : World) (h : JAt w j G1 7) : Calls Tryz.prog 17 #[.pointer (some ⟨j, 0, none⟩), .string ⟨#[98, 99]⟩] w fun e w' => e = .returned (.int .i64 0) ∧ JAt w' j G2 7 ∧ Only [j] w w' := by
  refine (append_any j G1 7 ⟨#[98, 99]⟩ w h (by rw [len1]; decide) (by decide)).mono ?_
  rintro e w' ⟨rfl, h, ho⟩
  exact ⟨rfl, by rw [actF1] at h; exact h, ho⟩
theorem aw_crash (j : Nat) (w : World) (h : JAt w j G2 7) : Calls Tryz.prog 13 #[.pointer (some ⟨j, 0, none⟩), .int .i64 3] w fun e w' => e = .returned (.tuple #[]) ∧ JAt w' j G3 10 ∧ Only [j] w w' := by
  refine (crash_any j G2 7 15 3 w h len2 (by decide) (by decide)).mono ?_
  rintro e w' ⟨rfl, h, ho⟩
  exact ⟨rfl, h, ho⟩
theorem aw_scan (w : World) : Calls Tryz.prog 29 #[.string ⟨G3.toArray⟩] w fun e w' => ∃ b o cap, e = .returned (.tuple #[.slice (some ⟨b, o, none⟩) 1 cap, .int .i64 7]) ∧ w'.cell? ⟨b, o, none⟩ = some (.string ⟨#[97]⟩) ∧ Below w.heap.size w w' := by
  refine (Scan_any ⟨G3.toArray⟩ w (by rw [bsize, len3]; decide)).mono ?_
  rintro e w' ⟨v, rfl, hown, hb⟩
  rw [show (ByteArray.mk G3.toArray).data.toList = G3 from rfl, scan3] at hown ⊢
  obtain ⟨ad, cap, rfl, hr⟩ := RowS.ofOwn hown
  obtain ⟨b, o, rfl⟩ := hr.head (by decide)
  obtain ⟨s, hs, hc⟩ := hr.at 0 (by decide)
  rw [hs.out] at hc
  refine ⟨b, o, cap, ?_, hc, hb⟩
  rw [len3, show (G3.drop 7).length = 3 from by decide +kernel]
  rfl
theorem aw_pays (j : Nat) (w : World) (h : JAt w j G4 7) : Calls Tryz.prog 12 #[.pointer (some ⟨j, 0, none⟩)] w fun e w' => ∃ ad cap, e = .returned (.slice ad 2 cap) ∧ RowS w' ad [[97], [100]] ∧ Below w.heap.size w w' := by
  refine (payloads_any j G4 7 w h (by rw [len4]; decide)).mono ?_
  rintro e w' ⟨v, rfl, hown, hb⟩
  rw [scan4] at hown
  obtain ⟨ad, cap, rfl, hr⟩ := RowS.ofOwn hown
  exact ⟨ad, cap, rfl, hr, hb⟩
theorem aw_app4 (j : Nat) (w : World) (h : JAt w j G3 10) : Calls Tryz.prog 17 #[.pointer (some ⟨j, 0, none⟩), .string ⟨#[100]⟩] w fun e w' => e = .returned (.int .i64 0) ∧ JAt w' j G4 7 ∧ Only [j] w w' := by
  refine (append_any j G3 10 ⟨#[100]⟩ w h (by rw [len3]; decide) (by decide)).mono ?_
  rintro e w' ⟨rfl, h, ho⟩
  exact ⟨rfl, by rw [actF3] at h; exact h, ho⟩
set_option maxHeartbeats 2000000 in
theorem awake_any (w : World) : Calls Tryz.prog 6 #[] w fun e w' => e = .returned (.bool true) ∧ Below w.heap.size w w' := by
  go_enter Tryz.func6, Tryz.ntmps6
  go_wp2_with fail
  refine (new_any w).mono ?_
  rintro e w1 ⟨rfl, h1, b1⟩
  have l1 := h1.lt
  go_wp2_with fail
  refine (aw_sum1 _).mono ?_
  rintro e _ ⟨rfl, rfl⟩
  go_wp2_with fail
  refine (aw_sum0 _).mono ?_
  rintro e _ ⟨rfl, rfl⟩
  go_wp2_with fail
  refine (aw_app1 _ _ h1).mono ?_
  rintro e w2 ⟨rfl, h2, o2⟩
  have b2 : Below w.heap.size w w2 := o2.toBelow b1 (by simp) b1.size
  clear h1 b1 o2
  go_wp2_with fail
  refine (aw_sync _ _ h2).mono ?_
  rintro e w3 ⟨rfl, h3, o3⟩
  have b3 : Below w.heap.size w w3 := o3.toBelow b2 (by simp) b2.size
  clear h2 b2 o3
  go_wp2_with fail
  refine (aw_app2 _ _ h3).mono ?_
  rintro e w4 ⟨rfl, h4, o4⟩
  have b4 : Below w.heap.size w w4 := o4.toBelow b3 (by simp) b3.size
  clear h3 b3 o4
  go_wp2_with fail
  refine (aw_crash _ _ h4).mono ?_
  rintro e w5 ⟨rfl, h5, o5⟩
  have b5 : Below w.heap.size w w5 := o5.toBelow b4 (by simp) b4.size
  clear h4 b4 o5
  go_wp2_with fail
  refine (bytes_any _ _ _ _ h5).mono ?_
  rintro e _ ⟨rfl, rfl⟩
  go_wp2_with fail
  refine (aw_scan _).mono ?_
  rintro e w6 ⟨pb, po, pc, rfl, hc6, o6⟩
  have h6 := h5.below o6 (Nat.le_refl _)
  have b6 : Below w.heap.size w w6 := b5.trans (o6.mono b5.size)
  clear h5 b5 o6
  have hsz : (ByteArray.mk G3.toArray).size = 10 := by rw [bsize, len3]
  go_wp2_with fail
  refine (bytes_any _ _ _ _ h6).mono ?_
  rintro e _ ⟨rfl, rfl⟩
  go_wp2_with fail
  refine (aw_app4 _ _ h6).mono ?_
  rintro e w7 ⟨rfl, h7, o7⟩
  have b7 : Below w.heap.size w w7 := o7.toBelow b6 (by simp) b6.size
  have hsz4 : (ByteArray.mk G4.toArray).size = 14 := by rw [bsize, len4]
  clear h6 b6 o7 hc6
  go_wp2_with fail
  refine (bytes_any _ _ _ _ h7).mono ?_
  rintro e _ ⟨rfl, rfl⟩
  go_wp2_with fail
  refine (aw_pays _ _ h7).mono ?_
  rintro e w8 ⟨ad, cap, rfl, r8, o8⟩
  have b8 : Below w.heap.size w w8 := b7.trans (o8.mono b7.size)
  clear h7 b7 o8
  go_wp2_with fail
  have hn := Has.new w8 #[.string ⟨#[97]⟩, .string ⟨#[100]⟩] 9
  refine (strings_any ad _ 2 cap 2 [[97], [100]] _ (by decide) rfl (r8.below ((Below.refl _ _).alloc (Nat.le_refl _) _) (Nat.le_refl _)) (RowS.ofHas hn)).mono ?_
  rintro e w9 ⟨rfl, o9⟩
  have b9 : Below w.heap.size w w9 := (b8.alloc b8.size _).trans (o9.mono (by have := b8.size; simp; omega))
  clear hn r8 b8 o9
  go_wp2
  go_ret
  exact ⟨rfl, b9⟩
end Go.Proofs.YtahbhhenobehfaaGreatDoor
