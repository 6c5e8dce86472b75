/-
  The walks of decimal, Dec and number of the references.
-/
import Derived.Test.YtahbhhenobehfaaGreatDoorT13
import Derived.Lib.ItoaNum
namespace Go.Proofs.YtahbhhenobehfaaGreatDoor
open Go.ChangeShapes Go.WideShapes Go.ChangeAt Go.RowKit

theorem dec_len : ∀ (k u : Nat), u < 10 ^ (k + 1) → (Lib.decDigits u).length ≤ k + 1
  | 0, u, h => by rw [Lib.decDigits_one (by omega)]; simp
  | k + 1, u, h => by
    rw [Lib.decDigits]
    split
    · simp
    · rw [List.length_append]
      have := dec_len k (u / 10) (by rw [Nat.pow_succ] at h; omega)
      simp; omega
def digS : ByteArray := ⟨#[48, 49, 50, 51, 52, 53, 54, 55, 56, 57]⟩
theorem dig_at (i : Nat) (h : i < 10) : digS.extract i (i + 1) = str [UInt8.ofNat (48 + i)] := by
  rw [extract_one digS i (by show i < 10; exact h)]
  congr 1
  congr 1
  match i, h with
  | 0, _ => rfl
  | 1, _ => rfl
  | 2, _ => rfl
  | 3, _ => rfl
  | 4, _ => rfl
  | 5, _ => rfl
  | 6, _ => rfl
  | 7, _ => rfl
  | 8, _ => rfl
  | 9, _ => rfl
  | n + 10, h => exact absurd h (by omega)
theorem slice_run64 (s : ByteArray) (a b : Nat) (A B : Int) (hA : A = (a : Int)) (hB : B = (b : Int)) (h1 : a ≤ b) (h2 : b ≤ s.size) (q : ByteArray) (hq : q = s.extract a b) (wx : World) :
    (Instr.slice 9 (.string s) (some (.int .u64 A)) (some (.int .u64 B)) none).run Tryz.prog wx = .ok (.string q) wx := by
  subst hA hB hq
  have := run_slice_string (P := Tryz.prog) wx 9 s .u64 .u64 (a : Int) (b : Int) Tryz.underlying9 (by omega) (by omega) (by omega)
  simpa using this
theorem dec_step (M : Int) (h : 9 < M) : Lib.decDigits M.toNat = Lib.decDigits (M / 10).toNat ++ [UInt8.ofNat (48 + (M % 10).toNat)] := by
  rw [Lib.decDigits, dif_neg (by omega)]
  rw [show M.toNat / 10 = (M / 10).toNat by omega, show M.toNat % 10 = (M % 10).toNat by omega]
set_option maxHeartbeats 1000000 in
theorem decimal_any (N : Int) (w : World) (h0 : 0 ≤ N) (h1 : N ≤ 18446744073709551615) :
    Calls Tryz.prog 59 #[.int .u64 N] w fun e w' => e = .returned (.string (str (Lib.decDigits N.toNat))) ∧ w = w' := by
  have hlen := hid (dec_len 19 N.toNat (by omega))
  go_enter Tryz.func59, Tryz.ntmps59
  go_wp2
  go_loop [0, 4] (fun n v => ∃ (M : Int) (T : List UInt8), n = .int .u64 M ∧ v = .string (str T) ∧ 0 ≤ M ∧ M ≤ 18446744073709551615 ∧ Hid (Lib.decDigits N.toNat = Lib.decDigits M.toNat ++ T)) (fun n _ => (intOf n).toNat)
  case atStart => exact ⟨N, [], rfl, rfl, h0, h1, hid (by rw [List.append_nil])⟩
  case round =>
    obtain ⟨M, T, rfl, rfl, hM0, hM1, hT⟩ := hrel
    have hTl := hid (show T.length ≤ 20 by
      have h1 := congrArg List.length hT.out
      have h2 := hlen.out
      rw [List.length_append] at h1; omega)
    by_cases hgt : 9 < M
    · have hst := hid (dec_step M hgt)
      have hm0 : 0 ≤ M % 10 := by omega
      have hm1 : M % 10 < 10 := by omega
      have hs := slice_run64 digS (M % 10).toNat ((M % 10).toNat + 1) (M % 10) (M % 10 + 1) (by omega) (by omega) (by omega) (by show _ ≤ 10; omega) (str [UInt8.ofNat (48 + (M % 10).toNat)]) (dig_at _ (by omega)).symm
      have ha := add_str [UInt8.ofNat (48 + (M % 10).toNat)] T (by have := hTl.out; simp only [List.length_cons, List.length_nil]; omega)
      unfold digS at hs
      obtain ⟨q, eq⟩ : ∃ q, q = UInt8.ofNat (48 + (M % 10).toNat) := ⟨_, rfl⟩
      rw [← eq] at hs ha hst
      clear eq
      have hT2 := hid (show Lib.decDigits N.toNat = Lib.decDigits (M / 10).toNat ++ ([q] ++ T) by rw [hT.out, hst.out, List.append_assoc])
      go_wp2
      go_round
      case rel => exact ⟨M / 10, [q] ++ T, rfl, rfl, by omega, by omega, hT2⟩
      case measure => simp [intOf]; omega
    · have hs := slice_run64 digS M.toNat (M.toNat + 1) M (M + 1) (by omega) (by omega) (by omega) (by show _ ≤ 10; omega) (str [UInt8.ofNat (48 + M.toNat)]) (dig_at _ (by omega)).symm
      have ha := add_str [UInt8.ofNat (48 + M.toNat)] T (by have := hTl.out; simp only [List.length_cons, List.length_nil]; omega)
      have hfin := hid (show str ([UInt8.ofNat (48 + M.toNat)] ++ T) = str (Lib.decDigits N.toNat) by rw [hT.out, Lib.decDigits_one (i := M.toNat) (by omega)])
      unfold digS at hs
      obtain ⟨q, eq⟩ : ∃ q, q = UInt8.ofNat (48 + M.toNat) := ⟨_, rfl⟩
      rw [← eq] at hs ha hfin
      clear eq
      go_wp2
      go_ret
      exact ⟨ret_str hfin.out, rfl⟩
theorem size_any (N : Int) (w : World) (h0 : 0 ≤ N) (h1 : N ≤ 9223372036854775807) :
    Calls Tryz.prog 60 #[.int .i64 N] w fun e w' => e = .returned (.int .u64 N) ∧ w = w' := by
  have hn : ¬ N < 0 := by omega
  go_enter Tryz.func60, Tryz.ntmps60
  go_wp2
  go_ret
  exact ⟨rfl, rfl⟩
theorem dec_any (N : Int) (w : World) (h0 : 0 ≤ N) (h1 : N ≤ 9223372036854775807) :
    Calls Tryz.prog 31 #[.int .i64 N] w fun e w' => e = .returned (.string (str (Lib.decDigits N.toNat))) ∧ w = w' := by
  have hn : ¬ N < 0 := by omega
  go_enter Tryz.func31, Tryz.ntmps31
  go_wp2_with fail
  refine (size_any N _ h0 h1).mono ?_
  rintro e w1 ⟨rfl, rfl⟩
  go_wp2_with fail
  refine (decimal_any N _ h0 (by omega)).mono ?_
  rintro e w2 ⟨rfl, rfl⟩
  go_wp2
  go_ret
  exact ⟨rfl, rfl⟩
theorem number_low (N : Int) (w : World) (h0 : 0 ≤ N) (h1 : N ≤ 4611686018427387904) :
    Calls Tryz.prog 30 #[.int .u64 N] w fun e w' => e = .returned (.string (str (Lib.decDigits N.toNat))) ∧ w = w' := by
  go_enter Tryz.func30, Tryz.ntmps30
  go_wp2_with fail
  refine (dec_any N _ h0 (by omega)).mono ?_
  rintro e w1 ⟨rfl, rfl⟩
  go_wp2
  go_ret
  exact ⟨rfl, rfl⟩
theorem number_any (N : Int) (w : World) (h0 : 0 ≤ N) (h1 : N ≤ 18446744073709551615) :
    Calls Tryz.prog 30 #[.int .u64 N] w fun e w' => e = .returned (.string (str (Lib.decDigits N.toNat))) ∧ w = w' := by
  by_cases hlo : N ≤ 4611686018427387904
  · exact number_low N w h0 hlo
  have hgt : (4611686018427387904 : Int) < N := by omega
  have hst := hid (dec_step N (by omega))
  have ha := add_str (Lib.decDigits (N / 10).toNat) (Lib.decDigits (N % 10).toNat) (by
    have h2 := dec_len 19 (N / 10).toNat (by omega)
    have h3 := dec_len 19 (N % 10).toNat (by omega)
    omega)
  have hfin := hid (show str (Lib.decDigits (N / 10).toNat ++ Lib.decDigits (N % 10).toNat) = str (Lib.decDigits N.toNat) by
    rw [hst.out, Lib.decDigits_one (i := (N % 10).toNat) (by omega)])
  clear hlo
  go_enter Tryz.func30, Tryz.ntmps30
  go_wp2_with fail
  refine (number_low (N / 10) _ (by omega) (by omega)).mono ?_
  rintro e w1 ⟨rfl, rfl⟩
  go_wp2_with fail
  refine (dec_any (N % 10) _ (by omega) (by omega)).mono ?_
  rintro e w2 ⟨rfl, rfl⟩
  go_wp2
  go_ret
  exact ⟨ret_str hfin.out, rfl⟩
end Go.Proofs.YtahbhhenobehfaaGreatDoor
