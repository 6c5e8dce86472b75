/-
  The walk of Escape of package message.
-/
import Derived.Test.YtahbhhenobehfaaGreatDoorT11
namespace Go.Proofs.YtahbhhenobehfaaGreatDoor
open Go.ChangeShapes Go.WideShapes Go.ChangeAt Go.RowKit

theorem hex_at (i : Nat) (h : i < 16) : (ByteArray.mk #[48, 49, 50, 51, 52, 53, 54, 55, 56, 57, 97, 98, 99, 100, 101, 102])[i]'(by show i < 16; exact h) = hexD i := by
  match i, h with
  | 0, _ => rfl
  | 1, _ => rfl
  | 2, _ => rfl
  | 3, _ => rfl
  | 4, _ => rfl
  | 5, _ => rfl
  | 6, _ => rfl
  | 7, _ => rfl
  | 8, _ => rfl
  | 9, _ => rfl
  | 10, _ => rfl
  | 11, _ => rfl
  | 12, _ => rfl
  | 13, _ => rfl
  | 14, _ => rfl
  | 15, _ => rfl
  | n + 16, h => exact absurd h (by omega)
set_option maxRecDepth 20000 in
set_option maxHeartbeats 4000000 in
theorem escape_any (s : ByteArray) (w : World) (hs : s.size ≤ 10000000) :
    Calls Tryz.prog 73 #[.string s] w fun e w' => e = .returned (.string (str (escL s.data.toList))) ∧ Below w.heap.size w w' := by
  have hsz := hid (blen s)
  have Hs := hid hs
  clear hs
  by_cases h0 : s.size = 0
  · have e0 : s.toList = [] := by rw [ByteArray.toList_eq]; exact List.eq_nil_of_length_eq_zero (by rw [hsz.out]; exact h0)
    have e1 : (s.toList == []) = true := by rw [e0]; rfl
    have e2 : s.toList.isEmpty = true := by rw [e0]; rfl
    have hr := hid (show (⟨#[37]⟩ : ByteArray) = str (escL s.data.toList) by
      rw [show s.data.toList = [] from List.eq_nil_of_length_eq_zero (by rw [hsz.out]; exact h0)]; rfl)
    clear e0
    go_enter Tryz.func73, Tryz.ntmps73
    go_wp2
    go_ret
    exact ⟨ret_str hr.out, Below.refl _ _⟩
  have hne : s.toList ≠ [] := by rw [ByteArray.toList_eq]; intro e; exact h0 (by rw [← hsz.out, e]; rfl)
  have e1 : (s.toList == []) = false := by simpa using hne
  have e2 : s.toList.isEmpty = false := by simpa using hne
  have hEsc := hid (escL_some (l := s.data.toList) (by rw [hsz.out]; omega))
  have hF := Bld.fresh (B := w.heap.size) w (Nat.le_refl _)
  have b0 : Below w.heap.size w (w.alloc (.cells #[.pointer none, .slice none 0 0] 123)) := (Below.refl _ _).alloc (Nat.le_refl _) _
  go_enter Tryz.func73, Tryz.ntmps73
  go_wp2
  clear hne
  go_loopw [4] (fun i wr => ∃ k : Nat, k ≤ s.size ∧ i = .int .i64 k ∧ Bld w.heap.size w.heap.size (escT (s.data.toList.take k)) wr ∧ Below w.heap.size w wr) (fun i _ => s.size - (intOf i).toNat)
  case atStart => exact ⟨0, Nat.zero_le _, rfl, hF, b0⟩
  case round =>
    clear hF b0
    obtain ⟨k, hk, rfl, hb, hB⟩ := hrel
    have bs := hB.size
    by_cases hlt : k < s.size
    · have hk0 : (0 : Int) ≤ k := by omega
      have hkn : (k : Int) < s.size := by omega
      have hkm : (s.size : Int) ≤ 10000000 := by have := Hs.out; omega
      have hst := hid (escT_take s.data.toList k (by rw [hsz.out]; exact hlt))
      have hsk : s.data.toList[k]'(by rw [hsz.out]; exact hlt) = s[k] := rfl
      rw [hsk] at hst
      have hel := hid (show (escT (s.data.toList.take k)).length ≤ 30000000 by
        have h1 := escT_len (s.data.toList.take k)
        have h2 := Hs.out
        rw [List.length_take, hsz.out] at h1; omega)
      obtain ⟨X, eX⟩ : ∃ X, X = escT (s.data.toList.take k) := ⟨_, rfl⟩
      rw [← eX] at hst hel hb
      clear eX hsk
      go_wp2_with fail
      refine (mplain_any _ _).mono ?_
      rintro e w1 ⟨rfl, rfl⟩
      obtain ⟨F, eF⟩ : ∃ F, plainI ((s[k].toNat : Nat) : Int) = F := ⟨_, rfl⟩
      rw [eF]
      have HF := hid eF
      clear eF
      cases F
      · have hx := hid (escB_hex HF.out)
        go_wp2_with fail
        refine (Bld.byte (37 : UInt8) hb (by have := hel.out; omega) bs).mono ?_
        rintro e w2 ⟨rfl, hb2, k2⟩
        have B2 := hB.trans k2.below
        have bs2 := B2.size
        have hq0 : (0 : Int) ≤ (s[k].toNat : Int) / 16 := by omega
        have hq1 : (s[k].toNat : Int) / 16 < 16 := by have := s[k].toNat_lt; omega
        clear hb k2
        go_wp2_with fail
        refine (Bld.byte _ hb2 (by have := hel.out; rw [List.length_append]; simp only [List.length_cons, List.length_nil]; omega) bs2).mono ?_
        rintro e w3 ⟨rfl, hb3, k3⟩
        have B3 := B2.trans k3.below
        have bs3 := B3.size
        clear hb2 k3 B2 hB
        have hr0 : (0 : Int) ≤ (s[k].toNat : Int) % 16 := by omega
        have hr1 : (s[k].toNat : Int) % 16 < 16 := by omega
        go_wp2_with fail
        refine (Bld.byte _ hb3 (by have := hel.out; simp only [List.length_append, List.length_cons, List.length_nil]; omega) bs3).mono ?_
        rintro e w4 ⟨rfl, hb4, k4⟩
        have B4 := B3.trans k4.below
        rw [hex_at _ (by have := s[k].toNat_lt; omega), hex_at _ (by omega)] at hb4
        have hb5 : Bld w.heap.size w.heap.size (escT (s.data.toList.take (k + 1))) w4 := by
          rw [hst.out, hx.out]
          simpa only [List.append_assoc, List.cons_append, List.nil_append] using hb4
        clear hb3 k4 hb4 B3
        go_wp2
        go_roundw
        case rel => exact ⟨k + 1, by omega, by go_num, hb5, B4⟩
        case measure => simp [intOf]; omega
      · have hx := hid (escB_plain HF.out)
        go_wp2_with fail
        refine (Bld.byte s[k] hb (by have := hel.out; omega) bs).mono ?_
        rintro e w2 ⟨rfl, hb2, k2⟩
        have B2 := hB.trans k2.below
        have hb3 : Bld w.heap.size w.heap.size (escT (s.data.toList.take (k + 1))) w2 := by rw [hst.out, hx.out]; exact hb2
        clear hb k2 hb2 hB
        go_wp2
        go_roundw
        case rel => exact ⟨k + 1, by omega, by go_num, hb3, B2⟩
        case measure => simp [intOf]; omega
    · obtain rfl : s.size = k := by omega
      rw [List.take_of_length_le (by rw [hsz.out]; exact Nat.le_refl _), ← hEsc.out] at hb
      go_wp2_with fail
      refine (hb.text bs).mono ?_
      rintro e w2 ⟨rfl, k2⟩
      have B2 := hB.trans k2.below
      clear hb k2
      go_wp2
      go_ret
      exact ⟨rfl, B2⟩
end Go.Proofs.YtahbhhenobehfaaGreatDoor
