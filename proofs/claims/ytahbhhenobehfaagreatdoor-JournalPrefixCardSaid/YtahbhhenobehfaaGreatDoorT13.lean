/-
  The walk of Escape of the reference of messages.
-/
import Derived.Test.YtahbhhenobehfaaGreatDoorT12
import Derived.Test.YtahbhhenobehfaaGreatDoorJMem
import Derived.IntWalk
namespace Go.Proofs.YtahbhhenobehfaaGreatDoor
open Go.ChangeShapes Go.WideShapes Go.ChangeAt Go.RowKit

theorem extract_one (s : ByteArray) (k : Nat) (h : k < s.size) : s.extract k (k + 1) = str [s[k]] := by
  have e := extract_list s k (k + 1)
  rw [show k + 1 - k = 1 by omega, List.drop_eq_getElem_cons (by rw [blen]; exact h)] at e
  rw [← str_eta (s.extract k (k + 1)), e]
  rfl
def hexS : ByteArray := ⟨#[48, 49, 50, 51, 52, 53, 54, 55, 56, 57, 97, 98, 99, 100, 101, 102]⟩
set_option maxRecDepth 20000 in
set_option maxHeartbeats 4000000 in
theorem rescape_any (s : ByteArray) (w : World) (hs : s.size ≤ 10000000) :
    Calls Tryz.prog 32 #[.string s] w fun e w' => e = .returned (.string (str (escL s.data.toList))) ∧ Below w.heap.size w w' := by
  have hsz := hid (blen s)
  have Hs := hid hs
  clear hs
  by_cases h0 : s.size = 0
  · have e0 : s.toList = [] := by rw [ByteArray.toList_eq]; exact List.eq_nil_of_length_eq_zero (by rw [hsz.out]; exact h0)
    have e1 : (s.toList == []) = true := by rw [e0]; rfl
    have e2 : s.toList.isEmpty = true := by rw [e0]; rfl
    have hr := hid (show (⟨#[37]⟩ : ByteArray) = str (escL s.data.toList) by
      rw [show s.data.toList = [] from List.eq_nil_of_length_eq_zero (by rw [hsz.out]; exact h0)]; rfl)
    clear e0
    go_enter Tryz.func32, Tryz.ntmps32
    go_wp2
    go_ret
    exact ⟨ret_str hr.out, Below.refl _ _⟩
  have hne : s.toList ≠ [] := by rw [ByteArray.toList_eq]; intro e; exact h0 (by rw [← hsz.out, e]; rfl)
  have e1 : (s.toList == []) = false := by simpa using hne
  have e2 : s.toList.isEmpty = false := by simpa using hne
  have hEsc := hid (escL_some (l := s.data.toList) (by rw [hsz.out]; omega))
  go_enter Tryz.func32, Tryz.ntmps32
  go_wp2
  clear hne
  go_loopw [4, 5] (fun v i wr => ∃ k : Nat, k ≤ s.size ∧ i = .int .i64 k ∧ v = .string (str (escT (s.data.toList.take k))) ∧ Below w.heap.size w wr) (fun _ i _ => s.size - (intOf i).toNat)
  case atStart => exact ⟨0, Nat.zero_le _, rfl, rfl, Below.refl _ _⟩
  case round =>
    obtain ⟨k, hk, rfl, rfl, hB⟩ := hrel
    by_cases hlt : k < s.size
    · have hk0 : (0 : Int) ≤ k := by omega
      have hkn : (k : Int) < s.size := by omega
      have hkm : (s.size : Int) ≤ 10000000 := by have := Hs.out; omega
      have hst := hid (escT_take s.data.toList k (by rw [hsz.out]; exact hlt))
      have hsk : s.data.toList[k]'(by rw [hsz.out]; exact hlt) = s[k] := rfl
      rw [hsk] at hst
      have hel := hid (show (escT (s.data.toList.take k)).length ≤ 30000000 by
        have h1 := escT_len (s.data.toList.take k)
        have h2 := Hs.out
        rw [List.length_take, hsz.out] at h1; omega)
      obtain ⟨X, eX⟩ : ∃ X, X = escT (s.data.toList.take k) := ⟨_, rfl⟩
      rw [← eX] at hst hel
      rw [← eX]
      clear eX hsk
      go_wp2_with fail
      refine (rplain_any _ _).mono ?_
      rintro e w1 ⟨rfl, rfl⟩
      obtain ⟨F, eF⟩ : ∃ F, plainI ((s[k].toNat : Nat) : Int) = F := ⟨_, rfl⟩
      rw [eF]
      have HF := hid eF
      clear eF
      cases F
      · have hx := hid (escB_hex HF.out)
        have hfin := hid (show str ((X ++ [37] ++ [hexD (s[k].toNat / 16)]) ++ [hexD (s[k].toNat % 16)]) = str (escT (s.data.toList.take (k + 1))) by rw [hst.out, hx.out]; simp)
        obtain ⟨n1, en1⟩ : ∃ n1 : Int, n1 = (s[k].toNat : Int) := ⟨_, rfl⟩
        have hn1 : 0 ≤ n1 ∧ n1 < 256 := by have := s[k].toNat_lt; omega
        have t1 : IntKind.i64.wrap (n1.tdiv 16) = ((s[k].toNat / 16 : Nat) : Int) := by
          rw [Int.tdiv_eq_ediv_of_nonneg hn1.1, IntWalk.i64_in _ (by omega)]; omega
        have t2 : IntKind.i64.wrap (IntKind.i64.wrap (n1.tdiv 16) + 1) = ((s[k].toNat / 16 + 1 : Nat) : Int) := by
          rw [t1, IntWalk.i64_in _ (by have := s[k].toNat_lt; omega)]; omega
        have t3 : n1.tmod 16 = ((s[k].toNat % 16 : Nat) : Int) := by
          rw [Int.tmod_eq_emod_of_nonneg hn1.1]; omega
        have t4 : IntKind.i64.wrap (n1.tmod 16 + 1) = ((s[k].toNat % 16 + 1 : Nat) : Int) := by
          rw [t3, IntWalk.i64_in _ (by omega)]; omega
        have q1 := slice_run hexS (s[k].toNat / 16) (s[k].toNat / 16 + 1) _ _ t1 t2 (by omega) (by have := s[k].toNat_lt; show _ ≤ 16; omega) (str [hexD (s[k].toNat / 16)]) (by rw [extract_one hexS _ (by have := s[k].toNat_lt; show _ < 16; omega)]; congr 1; congr 1; exact (hex_at _ (by have := s[k].toNat_lt; omega)).symm)
        have q2 := slice_run hexS (s[k].toNat % 16) (s[k].toNat % 16 + 1) _ _ t3 t4 (by omega) (by show _ ≤ 16; omega) (str [hexD (s[k].toNat % 16)]) (by rw [extract_one hexS _ (by show _ < 16; omega)]; congr 1; congr 1; exact (hex_at _ (by omega)).symm)
        obtain ⟨Q1, eQ1⟩ : ∃ Q1, Q1 = hexD (s[k].toNat / 16) := ⟨_, rfl⟩
        obtain ⟨Q2, eQ2⟩ : ∃ Q2, Q2 = hexD (s[k].toNat % 16) := ⟨_, rfl⟩
        rw [← eQ1, ← eQ2] at hfin
        rw [← eQ1] at q1
        rw [← eQ2] at q2
        clear t1 t2 t3 t4 eQ1 eQ2
        have a1 := add_str_lit X ⟨#[37]⟩ [37] rfl (by have := hel.out; simp only [List.length_cons, List.length_nil]; omega)
        obtain ⟨X1, eX1⟩ : ∃ X1, X1 = X ++ [37] := ⟨_, rfl⟩
        rw [← eX1] at a1 hfin
        have a2 := add_str X1 [Q1] (by have := hel.out; rw [eX1]; simp only [List.length_append, List.length_cons, List.length_nil]; omega)
        obtain ⟨X2, eX2⟩ : ∃ X2, X2 = X1 ++ [Q1] := ⟨_, rfl⟩
        rw [← eX2] at a2 hfin
        have a3 := add_str X2 [Q2] (by have := hel.out; rw [eX2, eX1]; simp only [List.length_append, List.length_cons, List.length_nil]; omega)
        obtain ⟨X3, eX3⟩ : ∃ X3, X3 = X2 ++ [Q2] := ⟨_, rfl⟩
        rw [← eX3] at a3 hfin
        clear eX1 eX2 eX3
        unfold hexS at q1 q2
        go_wp2
        rw [← en1]
        clear en1 hn1
        go_quiet (fail)
        go_wp2
        go_roundw
        case rel => exact ⟨k + 1, by omega, by go_num, by rw [hfin.out], hB.trans (below_drew _ _)⟩
        case measure => simp [intOf]; omega
      · have hx := hid (escB_plain HF.out)
        have hsl := slice_run s k (k + 1) (k : Int) ((k : Int) + 1) rfl (by omega) (by omega) (by omega) (str [s[k]]) (extract_one s k hlt).symm
        have hadd := add_str X [s[k]] (by have := hel.out; simp only [List.length_cons, List.length_nil]; omega)
        have hfin := hid (show str (X ++ [s[k]]) = str (escT (s.data.toList.take (k + 1))) by rw [hst.out, hx.out])
        obtain ⟨q, eq⟩ : ∃ q, q = str [s[k]] := ⟨_, rfl⟩
        rw [← eq] at hsl hadd
        clear eq
        go_wp2
        go_roundw
        case rel => exact ⟨k + 1, by omega, by go_num, by rw [hfin.out], hB⟩
        case measure => simp [intOf]; omega
    · obtain rfl : s.size = k := by omega
      rw [List.take_of_length_le (by rw [hsz.out]; exact Nat.le_refl _), ← hEsc.out]
      obtain ⟨X, eX⟩ : ∃ X, X = str (escL s.data.toList) := ⟨_, rfl⟩
      have EX := hid eX
      rw [← eX]
      clear eX
      go_wp2
      go_ret
      exact ⟨ret_str EX.out, hB⟩
end Go.Proofs.YtahbhhenobehfaaGreatDoor
