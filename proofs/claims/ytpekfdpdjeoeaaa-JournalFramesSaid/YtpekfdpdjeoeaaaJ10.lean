/-
  The walk of the law JournalFrames.
-/
import Derived.Test.YtpekfdpdjeoeaaaRows
import Derived.Test.YtpekfdpdjeoeaaaJPlain
import Derived.Test.YtpekfdpdjeoeaaaHeap
import Derived.Test.YtpekfdpdjeoeaaaJ1
import Derived.Test.YtpekfdpdjeoeaaaJ6
import Derived.Test.YtpekfdpdjeoeaaaJ8
import Derived.Test.YtpekfdpdjeoeaaaJ9
import Derived.WalkKit
import Derived.ProofKit
import Derived.OpenShut
import Derived.BigRegion
import Derived.Deep.QuietTactic
import Derived.BigQuiet
import Derived.Outline
namespace Go.Proofs.Ytpekfdpdjeoeaaa
open Go.ChangeShapes Go.WideShapes Go.ChangeAt Go.RowKit
theorem frames_mid (a b : ByteArray) (L M : Int) (hL : ((a.size : Nat) : Int) = L) (_hM : ((b.size : Nat) : Int) = M) (w : World) (h1 : 2000 < L) (h2 : L < 65000) : Calls Try.prog 3 #[.string a, .string b] w fun e w' => e = .returned (.bool true) ∧ Below w.heap.size w w' := by
  go_enter Try.func3, Try.ntmps3
  go_wp2_with fail
  refine (awake_any _).mono ?_
  rintro e w1 ⟨rfl, b1⟩
  go_wp2
  go_ret
  exact ⟨rfl, b1⟩
theorem frames_big (a b : ByteArray) (L M : Int) (hL : ((a.size : Nat) : Int) = L) (_hM : ((b.size : Nat) : Int) = M) (w : World) (h1 : 66000 < L) : Calls Try.prog 3 #[.string a, .string b] w fun e w' => e = .returned (.bool true) ∧ Below w.heap.size w w' := by
  go_enter Try.func3, Try.ntmps3
  go_wp2_with fail
  refine (awake_any _).mono ?_
  rintro e w1 ⟨rfl, b1⟩
  go_wp2
  go_ret
  exact ⟨rfl, b1⟩
theorem frames_low (a b : ByteArray) (L M : Int) (hL : ((a.size : Nat) : Int) = L) (hM : ((b.size : Nat) : Int) = M) (w : World) (h1 : L ≤ 2000) (h2 : 2000 < M) : Calls Try.prog 3 #[.string a, .string b] w fun e w' => e = .returned (.bool true) ∧ Below w.heap.size w w' := by
  go_enter Try.func3, Try.ntmps3
  go_wp2_with fail
  refine (awake_any _).mono ?_
  rintro e w1 ⟨rfl, b1⟩
  go_wp2
  go_ret
  exact ⟨rfl, b1⟩
theorem frames_high (a b : ByteArray) (L M : Int) (hL : ((a.size : Nat) : Int) = L) (hM : ((b.size : Nat) : Int) = M) (w : World) (h1 : 65000 ≤ L) (h2 : L ≤ 66000) (h3 : 2000 < M) : Calls Try.prog 3 #[.string a, .string b] w fun e w' => e = .returned (.bool true) ∧ Below w.heap.size w w' := by
  go_enter Try.func3, Try.ntmps3
  go_wp2_with fail
  refine (awake_any _).mono ?_
  rintro e w1 ⟨rfl, b1⟩
  go_wp2
  go_ret
  exact ⟨rfl, b1⟩
set_option maxHeartbeats 1000000 in
theorem frames_long (a b : ByteArray) (L M : Int) (hL : ((a.size : Nat) : Int) = L) (hM : ((b.size : Nat) : Int) = M) (w : World) (h1 : 65536 ≤ L) (h2 : L ≤ 66000) (h3 : M ≤ 2000) : Calls Try.prog 3 #[.string a, .string b] w fun e w' => e = .returned (.bool true) ∧ Below w.heap.size w w' := by
  go_enter Try.func3, Try.ntmps3
  go_wp2_with fail
  refine (frame_long a _ L hL h1).mono ?_
  rintro e _ ⟨rfl, rfl⟩
  go_wp2_with fail
  refine (rframe_long a _ L hL h1).mono ?_
  rintro e w2 ⟨rfl, rfl⟩
  have b2 := Below.refl w.heap.size w
  go_wp2_with fail
  refine (Scan_any b _ (by omega)).mono ?_
  rintro e w3 ⟨v, rfl, own3, hb3⟩
  have b3 : Below w.heap.size w w3 := b2.trans (hb3.mono b2.size)
  obtain ⟨ad1, cap1, rfl, r1⟩ := RowS.ofOwn own3
  obtain ⟨z, ez⟩ : ∃ z : Int, z = (b.data.toList.length : Int) - (scanL b.data.toList).2.length := ⟨_, rfl⟩
  rw [← ez]
  have Ez := hid ez
  clear own3 b2 hb3 ez
  go_wp2_with fail
  refine (rScan_any b _ (by omega)).mono ?_
  rintro e w4 ⟨v, rfl, own4, hb4⟩
  have b4 : Below w.heap.size w w4 := b3.trans (hb4.mono b3.size)
  obtain ⟨ad2, cap2, rfl, r2⟩ := RowS.ofOwn own4
  rw [← Ez.out]
  have r1 := r1.below hb4 (Nat.le_refl _)
  have hct := scanL_count b.data.toList.length b.data.toList (Nat.le_refl _)
  have hbl : b.data.toList.length = b.size := by simp
  obtain ⟨n, en⟩ : ∃ n, n = (scanL b.data.toList).1.length := ⟨_, rfl⟩
  rw [← en]
  rw [← en] at hct
  have hn : n ≤ 9223372036854775807 := by omega
  have En := hid en
  clear own4 b3 hb4 Ez hct hbl en
  go_wp2_with fail
  refine (checksum_any a _ (by unfold maxLen; omega)).mono ?_
  rintro e _ ⟨rfl, rfl⟩
  go_wp2_with fail
  refine (rchecksum_any a _ (by unfold maxLen; omega)).mono ?_
  rintro e _ ⟨rfl, rfl⟩
  obtain ⟨q, eq⟩ : ∃ q : Int, q = sum32 a.data.toList := ⟨_, rfl⟩
  rw [← eq]
  clear eq
  go_wp2_with fail
  refine (strings_any ad1 ad2 n cap1 cap2 (scanL b.data.toList).1 _ hn En.out.symm r1 r2).mono ?_
  rintro e w5 ⟨rfl, hb5⟩
  have b5 : Below w.heap.size w w5 := b4.trans (hb5.mono b4.size)
  clear r1 r2 En hb5 b4
  go_wp2_with fail
  refine (awake_any _).mono ?_
  rintro e w6 ⟨rfl, hb6⟩
  have b6 : Below w.heap.size w w6 := b5.trans (hb6.mono b5.size)
  clear b5 hb6
  go_wp2
  go_ret
  exact ⟨rfl, b6⟩
set_option maxHeartbeats 1000000 in
theorem frames_short (a b : ByteArray) (L M : Int) (hL : ((a.size : Nat) : Int) = L) (hM : ((b.size : Nat) : Int) = M) (w : World) (h1 : L ≤ 2000) (h3 : M ≤ 2000) : Calls Try.prog 3 #[.string a, .string b] w fun e w' => e = .returned (.bool true) ∧ Below w.heap.size w w' := by
  go_enter Try.func3, Try.ntmps3
  go_wp2_with fail
  refine (frame_short a _ L hL (by omega)).mono ?_
  rintro e w1 ⟨rfl, b1⟩
  obtain ⟨fr, ef⟩ : ∃ fr, fr = ByteArray.mk (frameL a.data.toList).toArray := ⟨_, rfl⟩
  rw [← ef]
  go_wp2_with fail
  refine (rframe_short a _ L hL (by omega)).mono ?_
  rintro e w2 ⟨rfl, hb2⟩
  rw [← ef]
  have b2 : Below w.heap.size w w2 := b1.trans (hb2.mono b1.size)
  clear ef b1 hb2
  go_wp2_with fail
  refine (Scan_any b _ (by omega)).mono ?_
  rintro e w3 ⟨v, rfl, own3, hb3⟩
  have b3 : Below w.heap.size w w3 := b2.trans (hb3.mono b2.size)
  obtain ⟨ad1, cap1, rfl, r1⟩ := RowS.ofOwn own3
  obtain ⟨z, ez⟩ : ∃ z : Int, z = (b.data.toList.length : Int) - (scanL b.data.toList).2.length := ⟨_, rfl⟩
  rw [← ez]
  have Ez := hid ez
  clear own3 b2 hb3 ez
  go_wp2_with fail
  refine (rScan_any b _ (by omega)).mono ?_
  rintro e w4 ⟨v, rfl, own4, hb4⟩
  have b4 : Below w.heap.size w w4 := b3.trans (hb4.mono b3.size)
  obtain ⟨ad2, cap2, rfl, r2⟩ := RowS.ofOwn own4
  rw [← Ez.out]
  have r1 := r1.below hb4 (Nat.le_refl _)
  have hct := scanL_count b.data.toList.length b.data.toList (Nat.le_refl _)
  have hbl : b.data.toList.length = b.size := by simp
  obtain ⟨n, en⟩ : ∃ n, n = (scanL b.data.toList).1.length := ⟨_, rfl⟩
  rw [← en]
  rw [← en] at hct
  have hn : n ≤ 9223372036854775807 := by omega
  have En := hid en
  clear own4 b3 hb4 Ez hct hbl en
  go_wp2_with fail
  refine (checksum_any a _ (by unfold maxLen; omega)).mono ?_
  rintro e _ ⟨rfl, rfl⟩
  go_wp2_with fail
  refine (rchecksum_any a _ (by unfold maxLen; omega)).mono ?_
  rintro e _ ⟨rfl, rfl⟩
  obtain ⟨q, eq⟩ : ∃ q : Int, q = sum32 a.data.toList := ⟨_, rfl⟩
  rw [← eq]
  clear eq
  go_wp2_with fail
  refine (strings_any ad1 ad2 n cap1 cap2 (scanL b.data.toList).1 _ hn En.out.symm r1 r2).mono ?_
  rintro e w5 ⟨rfl, hb5⟩
  have b5 : Below w.heap.size w w5 := b4.trans (hb5.mono b4.size)
  clear r1 r2 En hb5 b4
  go_wp2_with fail
  refine (awake_any _).mono ?_
  rintro e w6 ⟨rfl, hb6⟩
  have b6 : Below w.heap.size w w6 := b5.trans (hb6.mono b5.size)
  clear b5 hb6
  go_wp2
  go_ret
  exact ⟨rfl, b6⟩
set_option maxHeartbeats 1000000 in
theorem frames_near (a b : ByteArray) (L M : Int) (hL : ((a.size : Nat) : Int) = L) (hM : ((b.size : Nat) : Int) = M) (w : World) (h1 : 65000 ≤ L) (h2 : L < 65536) (h3 : M ≤ 2000) : Calls Try.prog 3 #[.string a, .string b] w fun e w' => e = .returned (.bool true) ∧ Below w.heap.size w w' := by
  go_enter Try.func3, Try.ntmps3
  go_wp2_with fail
  refine (frame_short a _ L hL (by omega)).mono ?_
  rintro e w1 ⟨rfl, b1⟩
  obtain ⟨fr, ef⟩ : ∃ fr, fr = ByteArray.mk (frameL a.data.toList).toArray := ⟨_, rfl⟩
  rw [← ef]
  go_wp2_with fail
  refine (rframe_short a _ L hL (by omega)).mono ?_
  rintro e w2 ⟨rfl, hb2⟩
  rw [← ef]
  have b2 : Below w.heap.size w w2 := b1.trans (hb2.mono b1.size)
  clear ef b1 hb2
  go_wp2_with fail
  refine (Scan_any b _ (by omega)).mono ?_
  rintro e w3 ⟨v, rfl, own3, hb3⟩
  have b3 : Below w.heap.size w w3 := b2.trans (hb3.mono b2.size)
  obtain ⟨ad1, cap1, rfl, r1⟩ := RowS.ofOwn own3
  obtain ⟨z, ez⟩ : ∃ z : Int, z = (b.data.toList.length : Int) - (scanL b.data.toList).2.length := ⟨_, rfl⟩
  rw [← ez]
  have Ez := hid ez
  clear own3 b2 hb3 ez
  go_wp2_with fail
  refine (rScan_any b _ (by omega)).mono ?_
  rintro e w4 ⟨v, rfl, own4, hb4⟩
  have b4 : Below w.heap.size w w4 := b3.trans (hb4.mono b3.size)
  obtain ⟨ad2, cap2, rfl, r2⟩ := RowS.ofOwn own4
  rw [← Ez.out]
  have r1 := r1.below hb4 (Nat.le_refl _)
  have hct := scanL_count b.data.toList.length b.data.toList (Nat.le_refl _)
  have hbl : b.data.toList.length = b.size := by simp
  obtain ⟨n, en⟩ : ∃ n, n = (scanL b.data.toList).1.length := ⟨_, rfl⟩
  rw [← en]
  rw [← en] at hct
  have hn : n ≤ 9223372036854775807 := by omega
  have En := hid en
  clear own4 b3 hb4 Ez hct hbl en
  go_wp2_with fail
  refine (checksum_any a _ (by unfold maxLen; omega)).mono ?_
  rintro e _ ⟨rfl, rfl⟩
  go_wp2_with fail
  refine (rchecksum_any a _ (by unfold maxLen; omega)).mono ?_
  rintro e _ ⟨rfl, rfl⟩
  obtain ⟨q, eq⟩ : ∃ q : Int, q = sum32 a.data.toList := ⟨_, rfl⟩
  rw [← eq]
  clear eq
  go_wp2_with fail
  refine (strings_any ad1 ad2 n cap1 cap2 (scanL b.data.toList).1 _ hn En.out.symm r1 r2).mono ?_
  rintro e w5 ⟨rfl, hb5⟩
  have b5 : Below w.heap.size w w5 := b4.trans (hb5.mono b4.size)
  clear r1 r2 En hb5 b4
  go_wp2_with fail
  refine (awake_any _).mono ?_
  rintro e w6 ⟨rfl, hb6⟩
  have b6 : Below w.heap.size w w6 := b5.trans (hb6.mono b5.size)
  clear b5 hb6
  go_wp2
  go_ret
  exact ⟨rfl, b6⟩
theorem frames_any (a b : ByteArray) (w : World) : Calls Try.prog 3 #[.string a, .string b] w fun e w' => e = .returned (.bool true) ∧ Below w.heap.size w w' := by
  obtain ⟨L, hL⟩ : ∃ L : Int, ((a.size : Nat) : Int) = L := ⟨_, rfl⟩
  obtain ⟨M, hM⟩ : ∃ M : Int, ((b.size : Nat) : Int) = M := ⟨_, rfl⟩
  by_cases h1 : L ≤ 2000
  · by_cases h3 : M ≤ 2000
    · exact frames_short a b L M hL hM w h1 h3
    · exact frames_low a b L M hL hM w h1 (by omega)
  · by_cases h2 : L < 65000
    · exact frames_mid a b L M hL hM w (by omega) h2
    · by_cases h4 : L ≤ 66000
      · by_cases h3 : M ≤ 2000
        · by_cases h5 : L < 65536
          · exact frames_near a b L M hL hM w (by omega) h5 h3
          · exact frames_long a b L M hL hM w (by omega) h4 h3
        · exact frames_high a b L M hL hM w (by omega) h4 (by omega)
      · exact frames_big a b L M hL hM w (by omega)
end Go.Proofs.Ytpekfdpdjeoeaaa
