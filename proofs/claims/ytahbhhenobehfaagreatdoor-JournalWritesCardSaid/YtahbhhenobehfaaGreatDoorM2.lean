/-
  Bits: an or of parts that do not meet is a sum.
  The walks of Checksum and Frame of package journal and of their references.
-/
import Derived.Laws.BitsAllLaws
import Derived.Laws.BitsLemmas
import Derived.Test.YtahbhhenobehfaaGreatDoorRows
import Derived.Test.YtahbhhenobehfaaGreatDoorM1
import Derived.WalkKit
import Derived.ProofKit
import Derived.OpenShut
import Derived.Lib.AppendStr
import Derived.Laws.IdiomStrings
import Derived.Laws.Concat
import Derived.Outline
namespace Go.Proofs.YtahbhhenobehfaaGreatDoor

theorem ofInt_i64 (a : Nat) (ha : a < 9223372036854775808) : (BitVec.ofInt 64 (a : Int)).toNat = a := by
  rw [BitVec.ofInt_natCast, BitVec.toNat_ofNat]; exact Nat.mod_eq_of_lt (by omega)
theorem i64_or_nat (a b : Nat) (ha : a < 9223372036854775808) (hb : b < 9223372036854775808) : bits .or .i64 (a : Int) (b : Int) = ((a ||| b : Nat) : Int) := by
  have hx : a ||| b < 2 ^ 63 := Nat.or_lt_two_pow (by omega) (by omega)
  show IntKind.i64.wrap ((BitVec.ofInt 64 (a : Int) ||| BitVec.ofInt 64 (b : Int)).toNat : Int) = _
  rw [BitVec.toNat_or, ofInt_i64 a ha, ofInt_i64 b hb, IntKind.wrap_i64]
  omega
theorem ofInt_u32 (a : Nat) (ha : a < 4294967296) : (BitVec.ofInt 32 (a : Int)).toNat = a := by
  rw [BitVec.ofInt_natCast, BitVec.toNat_ofNat]; exact Nat.mod_eq_of_lt (by omega)
theorem u32_or_nat (a b : Nat) (ha : a < 4294967296) (hb : b < 4294967296) : bits .or .u32 (a : Int) (b : Int) = ((a ||| b : Nat) : Int) := by
  have hx : a ||| b < 2 ^ 32 := Nat.or_lt_two_pow (by omega) (by omega)
  show IntKind.u32.wrap ((BitVec.ofInt 32 (a : Int) ||| BitVec.ofInt 32 (b : Int)).toNat : Int) = _
  rw [BitVec.toNat_or, ofInt_u32 a ha, ofInt_u32 b hb, IntKind.wrap_u32]
  omega
theorem or_nat (a b i p : Nat) (hp : p = 2 ^ i) (h : b < p) : a * p ||| b = a * p + b := by
  subst hp
  rw [← Nat.shiftLeft_eq, Nat.shiftLeft_add_eq_or_of_lt h]
theorem or_i64 (a b i p : Nat) (hp : p = 2 ^ i) (h : b < p) (X Y : Int) (hX : X = ((a * p : Nat) : Int)) (hY : Y = (b : Int)) (h1 : a * p < 9223372036854775808) (h2 : b < 9223372036854775808) : bits .or .i64 X Y = X + Y := by
  subst hX hY
  rw [i64_or_nat _ _ h1 h2, or_nat a b i p hp h]
  omega
theorem or_u32 (a b i p : Nat) (hp : p = 2 ^ i) (h : b < p) (X Y : Int) (hX : X = ((a * p : Nat) : Int)) (hY : Y = (b : Int)) (h1 : a * p < 4294967296) (h2 : b < 4294967296) : bits .or .u32 X Y = X + Y := by
  subst hX hY
  rw [u32_or_nat _ _ h1 h2, or_nat a b i p hp h]
  omega
theorem or_len (x y : Int) (hx : 0 ≤ x ∧ x ≤ 255) (hy : 0 ≤ y ∧ y ≤ 255) : bits .or .i64 (x * 256) y = x * 256 + y :=
  or_i64 x.toNat y.toNat 8 256 (by decide +kernel) (by omega) _ _ (by omega) (by omega) (by omega) (by omega)
theorem or_sum1 (x y : Int) (hx : 0 ≤ x ∧ x ≤ 255) (hy : 0 ≤ y ∧ y ≤ 255) : bits .or .u32 (x * 16777216) (y * 65536) = x * 16777216 + y * 65536 :=
  or_u32 x.toNat (y * 65536).toNat 24 16777216 (by decide +kernel) (by omega) _ _ (by omega) (by omega) (by omega) (by omega)
theorem or_sum2 (x y : Int) (hx : 0 ≤ x ∧ x ≤ 65535) (hy : 0 ≤ y ∧ y ≤ 255) : bits .or .u32 (x * 65536) (y * 256) = x * 65536 + y * 256 :=
  or_u32 x.toNat (y * 256).toNat 16 65536 (by decide +kernel) (by omega) _ _ (by omega) (by omega) (by omega) (by omega)
theorem or_sum3 (x y : Int) (hx : 0 ≤ x ∧ x ≤ 16777215) (hy : 0 ≤ y ∧ y ≤ 255) : bits .or .u32 (x * 256) y = x * 256 + y :=
  or_u32 x.toNat y.toNat 8 256 (by decide +kernel) (by omega) _ _ (by omega) (by omega) (by omega) (by omega)
/-- The four bytes of a checksum, put together. -/
theorem or_sum (x2 x3 x4 x5 : Int) (h2 : 0 ≤ x2 ∧ x2 ≤ 255) (h3 : 0 ≤ x3 ∧ x3 ≤ 255) (h4 : 0 ≤ x4 ∧ x4 ≤ 255) (h5 : 0 ≤ x5 ∧ x5 ≤ 255) :
    bits .or .u32 (bits .or .u32 (bits .or .u32 (x2 * 16777216) (x3 * 65536)) (x4 * 256)) x5 = x2 * 16777216 + x3 * 65536 + x4 * 256 + x5 := by
  rw [or_sum1 x2 x3 h2 h3]
  have e1 := or_sum2 (x2 * 256 + x3) x4 (by omega) h4
  rw [show (x2 * 256 + x3) * 65536 = x2 * 16777216 + x3 * 65536 from by omega] at e1
  rw [e1]
  have e2 := or_sum3 (x2 * 65536 + x3 * 256 + x4) x5 (by omega) h5
  rw [show (x2 * 65536 + x3 * 256 + x4) * 256 = x2 * 16777216 + x3 * 65536 + x4 * 256 from by omega] at e2
  exact e2
end Go.Proofs.YtahbhhenobehfaaGreatDoor
namespace Go.Proofs.YtahbhhenobehfaaGreatDoor
open Go.ChangeShapes Go.WideShapes Go.ChangeAt Go.RowKit
theorem checksum_any (s : ByteArray) (w : World) (hs : s.size ≤ maxLen) :
    Calls Tryz.prog 28 #[.string s] w fun e w' => e = .returned (.int .u32 (sum32 s.data.toList)) ∧ w = w' := by
  unfold maxLen at hs
  go_enter Tryz.func28, Tryz.ntmps28
  go_wp2
  go_loop [3, 4, 7] (fun h _ i => ∃ k : Nat, k ≤ s.size ∧ i = .int .i64 k ∧ h = .int .u32 (hash 2166136261 (s.data.toList.take k))) (fun _ _ i => s.size - (intOf i).toNat)
  case atStart => exact ⟨0, Nat.zero_le _, rfl, rfl⟩
  case round =>
    obtain ⟨k, hk, rfl, rfl⟩ := hrel
    by_cases hlt : k < s.size
    · have H := hid (hash_take s k hlt 2166136261)
      go_wp2
      go_round
      case rel => exact ⟨k + 1, by omega, by go_num, by rw [H.out]⟩
      case measure => simp [intOf]; omega
    · go_wp2
      go_ret
      exact ⟨ret_int (by rw [List.take_of_length_le (by simp; omega)]; rfl), rfl⟩
theorem rchecksum_any (s : ByteArray) (w : World) (hs : s.size ≤ maxLen) :
    Calls Tryz.prog 78 #[.string s] w fun e w' => e = .returned (.int .u32 (sum32 s.data.toList)) ∧ w = w' := by
  unfold maxLen at hs
  go_enter Tryz.func78, Tryz.ntmps78
  go_wp2
  go_loop [3, 4, 7] (fun h _ i => ∃ k : Nat, k ≤ s.size ∧ i = .int .i64 k ∧ h = .int .u32 (hash 2166136261 (s.data.toList.take k))) (fun _ _ i => s.size - (intOf i).toNat)
  case atStart => exact ⟨0, Nat.zero_le _, rfl, rfl⟩
  case round =>
    obtain ⟨k, hk, rfl, rfl⟩ := hrel
    by_cases hlt : k < s.size
    · have H := hid (hash_take s k hlt 2166136261)
      go_wp2
      go_round
      case rel => exact ⟨k + 1, by omega, by go_num, by rw [H.out]⟩
      case measure => simp [intOf]; omega
    · go_wp2
      go_ret
      exact ⟨ret_int (by rw [List.take_of_length_le (by simp; omega)]; rfl), rfl⟩

theorem frame_long (s : ByteArray) (w : World) (L : Int) (hL : ((s.size : Nat) : Int) = L) (h : 65536 ≤ L) :
    Calls Tryz.prog 41 #[.string s] w fun e w' => e = .returned (.tuple #[.string ⟨#[]⟩, .int .i64 2]) ∧ w = w' := by
  go_enter Tryz.func41, Tryz.ntmps41
  go_wp2
  go_ret2
  exact ⟨rfl, rfl⟩
theorem rframe_long (s : ByteArray) (w : World) (L : Int) (hL : ((s.size : Nat) : Int) = L) (h : 65536 ≤ L) :
    Calls Tryz.prog 42 #[.string s] w fun e w' => e = .returned (.tuple #[.string ⟨#[]⟩, .int .i64 2]) ∧ w = w' := by
  go_enter Tryz.func42, Tryz.ntmps42
  go_wp2
  go_ret2
  exact ⟨rfl, rfl⟩
theorem frame_short (s : ByteArray) (w : World) (L : Int) (hL : ((s.size : Nat) : Int) = L) (h : L < 65536) :
    Calls Tryz.prog 41 #[.string s] w fun e w' => e = .returned (.tuple #[.string ⟨(frameL s.data.toList).toArray⟩, .int .i64 0]) ∧ Below w.heap.size w w' := by
  have hb := sum32_bd s.data.toList
  have h0 : 0 ≤ L := by omega
  go_enter Tryz.func41, Tryz.ntmps41
  go_wp2_with fail
  refine (checksum_any s _ (by unfold maxLen; omega)).mono ?_
  rintro e w1 ⟨rfl, rfl⟩
  obtain ⟨c, ec⟩ : ∃ c, c = sum32 s.data.toList := ⟨_, rfl⟩
  rw [← ec]
  rw [← ec] at hb
  have Ec := hid ec
  clear ec
  obtain ⟨i0, hi, hz0, hz1, hz2⟩ := info_parts info_byte
  have hown : (w.alloc (.cells (headV L c) 5)).ownsRow w.heap.size 5 1 (.slice (some ⟨w.heap.size, 0, none⟩) 6 6) 6 (bcells (headL s.data.toList)) := by
    rw [← headV_eq s.data.toList L c (by simpa using hL) h Ec.out]
    exact own_of_has (Has.new _ _ _) (Nat.le_refl _) rfl (by decide)
  have Hown := hid hown
  clear hown
  have Hsz : Hid (s.size < 65536) := hid (by omega)
  go_wp2_with (at_builtin; refine Lib.wpList_append_own_string _ rfl _ _ 65 9 rfl w.heap.size 5 i0 Tryz.underlying65 Tryz.underlying9 hi hz0 hz1 hz2 _ 6 _ rfl Hown.out s rfl (by have := Hsz.out; unfold maxLen; omega) (by have := Hsz.out; omega) (by simp) ?_; intro v' w1 hown1 hg1 _; rw [bcells_str, ← bcells_append] at hown1; obtain ⟨g, cap, ev, hgb, hk⟩ := back_of_own hown1 (by omega); rw [ev])
  go_ret2
  exact ⟨rfl, Below.grown ((Below.refl _ _).alloc (Nat.le_refl _) _) hg1 (by simp) (by intro k hk; injection hk with hk; exact Nat.le_of_eq hk)⟩
theorem rframe_short (s : ByteArray) (w : World) (L : Int) (hL : ((s.size : Nat) : Int) = L) (h : L < 65536) :
    Calls Tryz.prog 42 #[.string s] w fun e w' => e = .returned (.tuple #[.string ⟨(frameL s.data.toList).toArray⟩, .int .i64 0]) ∧ Below w.heap.size w w' := by
  have hb := sum32_bd s.data.toList
  have h0 : 0 ≤ L := by omega
  go_enter Tryz.func42, Tryz.ntmps42
  go_wp2_with fail
  refine (rchecksum_any s _ (by unfold maxLen; omega)).mono ?_
  rintro e w1 ⟨rfl, rfl⟩
  obtain ⟨c, ec⟩ : ∃ c, c = sum32 s.data.toList := ⟨_, rfl⟩
  rw [← ec]
  rw [← ec] at hb
  have hk : (convert 65 9 (.slice (some ⟨w.heap.size, 0, none⟩) 6 6)).run Tryz.prog (w.alloc (.cells #[.int .u8 (L / 256), .int .u8 (L % 256), .int .u8 (c / 16777216), .int .u8 (c / 65536 % 256), .int .u8 (c / 256 % 256), .int .u8 (c % 256)] 5)) = .ok (.string ⟨(headL s.data.toList).toArray⟩) (w.alloc (.cells #[.int .u8 (L / 256), .int .u8 (L % 256), .int .u8 (c / 16777216), .int .u8 (c / 65536 % 256), .int .u8 (c / 256 % 256), .int .u8 (c % 256)] 5)) := by
    have hown : (w.alloc (.cells (headV L c) 5)).ownsRow w.heap.size 5 1 (.slice (some ⟨w.heap.size, 0, none⟩) 6 6) 6 (bcells (headL s.data.toList)) := by
      rw [← headV_eq s.data.toList L c (by simpa using hL) h ec]
      exact own_of_has (Has.new _ _ _) (Nat.le_refl _) rfl (by decide)
    exact (RowB.ofOwn hown).convert
  have hadd : ∀ wx, (Op.stringOp .add ⟨(headL s.data.toList).toArray⟩ s).run Tryz.prog wx = .ok (.string (⟨(headL s.data.toList).toArray⟩ ++ s)) wx := fun wx => run_string_add_sum wx _ _ (by
    have : (ByteArray.mk (headL s.data.toList).toArray).size = 6 := rfl
    omega)
  have hcat : (⟨(headL s.data.toList).toArray⟩ ++ s : ByteArray) = ⟨(frameL s.data.toList).toArray⟩ := by
    unfold frameL
    apply ByteArray.ext
    apply Array.toList_inj.1
    simp
  rw [hcat] at hadd
  clear ec hcat
  go_wp2
  go_ret2
  exact ⟨rfl, (Below.refl _ _).alloc (Nat.le_refl _) _⟩
end Go.Proofs.YtahbhhenobehfaaGreatDoor
