/-
  The walk of Escape of package message.
  The walk of Escape of the reference of messages.
  Escaped texts read back. No program in sight.
-/
import Derived.Test.YtahbhhenobehfaaGreatDoorM15
import Derived.Test.YtahbhhenobehfaaGreatDoorM1
import Derived.IntWalk
import Derived.Test.YtahbhhenobehfaaGreatDoorM12
import Derived.Lib.OthersKept
import Derived.Lib.Bytealg
namespace Go.Proofs.YtahbhhenobehfaaGreatDoor
open Go.ChangeShapes Go.WideShapes Go.ChangeAt Go.RowKit

theorem hex_at (i : Nat) (h : i < 16) : (ByteArray.mk #[48, 49, 50, 51, 52, 53, 54, 55, 56, 57, 97, 98, 99, 100, 101, 102])[i]'(by show i < 16; exact h) = hexD i := by
  match i, h with
  | 0, _ => rfl
  | 1, _ => rfl
  | 2, _ => rfl
  | 3, _ => rfl
  | 4, _ => rfl
  | 5, _ => rfl
  | 6, _ => rfl
  | 7, _ => rfl
  | 8, _ => rfl
  | 9, _ => rfl
  | 10, _ => rfl
  | 11, _ => rfl
  | 12, _ => rfl
  | 13, _ => rfl
  | 14, _ => rfl
  | 15, _ => rfl
  | n + 16, h => exact absurd h (by omega)
set_option maxRecDepth 20000 in
set_option maxHeartbeats 4000000 in
theorem escape_any (s : ByteArray) (w : World) (hs : s.size ≤ 10000000) :
    Calls Tryz.prog 73 #[.string s] w fun e w' => e = .returned (.string (str (escL s.data.toList))) ∧ Below w.heap.size w w' := by
  have hsz := hid (blen s)
  have Hs := hid hs
  clear hs
  by_cases h0 : s.size = 0
  · have e0 : s.toList = [] := by rw [ByteArray.toList_eq]; exact List.eq_nil_of_length_eq_zero (by rw [hsz.out]; exact h0)
    have e1 : (s.toList == []) = true := by rw [e0]; rfl
    have e2 : s.toList.isEmpty = true := by rw [e0]; rfl
    have hr := hid (show (⟨#[37]⟩ : ByteArray) = str (escL s.data.toList) by
      rw [show s.data.toList = [] from List.eq_nil_of_length_eq_zero (by rw [hsz.out]; exact h0)]; rfl)
    clear e0
    go_enter Tryz.func73, Tryz.ntmps73
    go_wp2
    go_ret
    exact ⟨ret_str hr.out, Below.refl _ _⟩
  have hne : s.toList ≠ [] := by rw [ByteArray.toList_eq]; intro e; exact h0 (by rw [← hsz.out, e]; rfl)
  have e1 : (s.toList == []) = false := by simpa using hne
  have e2 : s.toList.isEmpty = false := by simpa using hne
  have hEsc := hid (escL_some (l := s.data.toList) (by rw [hsz.out]; omega))
  have hF := Bld.fresh (B := w.heap.size) w (Nat.le_refl _)
  have b0 : Below w.heap.size w (w.alloc (.cells #[.pointer none, .slice none 0 0] 123)) := (Below.refl _ _).alloc (Nat.le_refl _) _
  go_enter Tryz.func73, Tryz.ntmps73
  go_wp2
  clear hne
  go_loopw [4] (fun i wr => ∃ k : Nat, k ≤ s.size ∧ i = .int .i64 k ∧ Bld w.heap.size w.heap.size (escT (s.data.toList.take k)) wr ∧ Below w.heap.size w wr) (fun i _ => s.size - (intOf i).toNat)
  case atStart => exact ⟨0, Nat.zero_le _, rfl, hF, b0⟩
  case round =>
    clear hF b0
    obtain ⟨k, hk, rfl, hb, hB⟩ := hrel
    have bs := hB.size
    by_cases hlt : k < s.size
    · have hk0 : (0 : Int) ≤ k := by omega
      have hkn : (k : Int) < s.size := by omega
      have hkm : (s.size : Int) ≤ 10000000 := by have := Hs.out; omega
      have hst := hid (escT_take s.data.toList k (by rw [hsz.out]; exact hlt))
      have hsk : s.data.toList[k]'(by rw [hsz.out]; exact hlt) = s[k] := rfl
      rw [hsk] at hst
      have hel := hid (show (escT (s.data.toList.take k)).length ≤ 30000000 by
        have h1 := escT_len (s.data.toList.take k)
        have h2 := Hs.out
        rw [List.length_take, hsz.out] at h1; omega)
      obtain ⟨X, eX⟩ : ∃ X, X = escT (s.data.toList.take k) := ⟨_, rfl⟩
      rw [← eX] at hst hel hb
      clear eX hsk
      go_wp2_with fail
      refine (mplain_any _ _).mono ?_
      rintro e w1 ⟨rfl, rfl⟩
      obtain ⟨F, eF⟩ : ∃ F, plainI ((s[k].toNat : Nat) : Int) = F := ⟨_, rfl⟩
      rw [eF]
      have HF := hid eF
      clear eF
      cases F
      · have hx := hid (escB_hex HF.out)
        go_wp2_with fail
        refine (Bld.byte (37 : UInt8) hb (by have := hel.out; omega) bs).mono ?_
        rintro e w2 ⟨rfl, hb2, k2⟩
        have B2 := hB.trans k2.below
        have bs2 := B2.size
        have hq0 : (0 : Int) ≤ (s[k].toNat : Int) / 16 := by omega
        have hq1 : (s[k].toNat : Int) / 16 < 16 := by have := s[k].toNat_lt; omega
        clear hb k2
        go_wp2_with fail
        refine (Bld.byte _ hb2 (by have := hel.out; rw [List.length_append]; simp only [List.length_cons, List.length_nil]; omega) bs2).mono ?_
        rintro e w3 ⟨rfl, hb3, k3⟩
        have B3 := B2.trans k3.below
        have bs3 := B3.size
        clear hb2 k3 B2 hB
        have hr0 : (0 : Int) ≤ (s[k].toNat : Int) % 16 := by omega
        have hr1 : (s[k].toNat : Int) % 16 < 16 := by omega
        go_wp2_with fail
        refine (Bld.byte _ hb3 (by have := hel.out; simp only [List.length_append, List.length_cons, List.length_nil]; omega) bs3).mono ?_
        rintro e w4 ⟨rfl, hb4, k4⟩
        have B4 := B3.trans k4.below
        rw [hex_at _ (by have := s[k].toNat_lt; omega), hex_at _ (by omega)] at hb4
        have hb5 : Bld w.heap.size w.heap.size (escT (s.data.toList.take (k + 1))) w4 := by
          rw [hst.out, hx.out]
          simpa only [List.append_assoc, List.cons_append, List.nil_append] using hb4
        clear hb3 k4 hb4 B3
        go_wp2
        go_roundw
        case rel => exact ⟨k + 1, by omega, by go_num, hb5, B4⟩
        case measure => simp [intOf]; omega
      · have hx := hid (escB_plain HF.out)
        go_wp2_with fail
        refine (Bld.byte s[k] hb (by have := hel.out; omega) bs).mono ?_
        rintro e w2 ⟨rfl, hb2, k2⟩
        have B2 := hB.trans k2.below
        have hb3 : Bld w.heap.size w.heap.size (escT (s.data.toList.take (k + 1))) w2 := by rw [hst.out, hx.out]; exact hb2
        clear hb k2 hb2 hB
        go_wp2
        go_roundw
        case rel => exact ⟨k + 1, by omega, by go_num, hb3, B2⟩
        case measure => simp [intOf]; omega
    · obtain rfl : s.size = k := by omega
      rw [List.take_of_length_le (by rw [hsz.out]; exact Nat.le_refl _), ← hEsc.out] at hb
      go_wp2_with fail
      refine (hb.text bs).mono ?_
      rintro e w2 ⟨rfl, k2⟩
      have B2 := hB.trans k2.below
      clear hb k2
      go_wp2
      go_ret
      exact ⟨rfl, B2⟩
end Go.Proofs.YtahbhhenobehfaaGreatDoor
namespace Go.Proofs.YtahbhhenobehfaaGreatDoor
open Go.ChangeShapes Go.WideShapes Go.ChangeAt Go.RowKit

theorem extract_one (s : ByteArray) (k : Nat) (h : k < s.size) : s.extract k (k + 1) = str [s[k]] := by
  have e := extract_list s k (k + 1)
  rw [show k + 1 - k = 1 by omega, List.drop_eq_getElem_cons (by rw [blen]; exact h)] at e
  rw [← str_eta (s.extract k (k + 1)), e]
  rfl
def hexS : ByteArray := ⟨#[48, 49, 50, 51, 52, 53, 54, 55, 56, 57, 97, 98, 99, 100, 101, 102]⟩
set_option maxRecDepth 20000 in
set_option maxHeartbeats 4000000 in
theorem rescape_any (s : ByteArray) (w : World) (hs : s.size ≤ 10000000) :
    Calls Tryz.prog 32 #[.string s] w fun e w' => e = .returned (.string (str (escL s.data.toList))) ∧ Below w.heap.size w w' := by
  have hsz := hid (blen s)
  have Hs := hid hs
  clear hs
  by_cases h0 : s.size = 0
  · have e0 : s.toList = [] := by rw [ByteArray.toList_eq]; exact List.eq_nil_of_length_eq_zero (by rw [hsz.out]; exact h0)
    have e1 : (s.toList == []) = true := by rw [e0]; rfl
    have e2 : s.toList.isEmpty = true := by rw [e0]; rfl
    have hr := hid (show (⟨#[37]⟩ : ByteArray) = str (escL s.data.toList) by
      rw [show s.data.toList = [] from List.eq_nil_of_length_eq_zero (by rw [hsz.out]; exact h0)]; rfl)
    clear e0
    go_enter Tryz.func32, Tryz.ntmps32
    go_wp2
    go_ret
    exact ⟨ret_str hr.out, Below.refl _ _⟩
  have hne : s.toList ≠ [] := by rw [ByteArray.toList_eq]; intro e; exact h0 (by rw [← hsz.out, e]; rfl)
  have e1 : (s.toList == []) = false := by simpa using hne
  have e2 : s.toList.isEmpty = false := by simpa using hne
  have hEsc := hid (escL_some (l := s.data.toList) (by rw [hsz.out]; omega))
  go_enter Tryz.func32, Tryz.ntmps32
  go_wp2
  clear hne
  go_loopw [4, 5] (fun v i wr => ∃ k : Nat, k ≤ s.size ∧ i = .int .i64 k ∧ v = .string (str (escT (s.data.toList.take k))) ∧ Below w.heap.size w wr) (fun _ i _ => s.size - (intOf i).toNat)
  case atStart => exact ⟨0, Nat.zero_le _, rfl, rfl, Below.refl _ _⟩
  case round =>
    obtain ⟨k, hk, rfl, rfl, hB⟩ := hrel
    by_cases hlt : k < s.size
    · have hk0 : (0 : Int) ≤ k := by omega
      have hkn : (k : Int) < s.size := by omega
      have hkm : (s.size : Int) ≤ 10000000 := by have := Hs.out; omega
      have hst := hid (escT_take s.data.toList k (by rw [hsz.out]; exact hlt))
      have hsk : s.data.toList[k]'(by rw [hsz.out]; exact hlt) = s[k] := rfl
      rw [hsk] at hst
      have hel := hid (show (escT (s.data.toList.take k)).length ≤ 30000000 by
        have h1 := escT_len (s.data.toList.take k)
        have h2 := Hs.out
        rw [List.length_take, hsz.out] at h1; omega)
      obtain ⟨X, eX⟩ : ∃ X, X = escT (s.data.toList.take k) := ⟨_, rfl⟩
      rw [← eX] at hst hel
      rw [← eX]
      clear eX hsk
      go_wp2_with fail
      refine (rplain_any _ _).mono ?_
      rintro e w1 ⟨rfl, rfl⟩
      obtain ⟨F, eF⟩ : ∃ F, plainI ((s[k].toNat : Nat) : Int) = F := ⟨_, rfl⟩
      rw [eF]
      have HF := hid eF
      clear eF
      cases F
      · have hx := hid (escB_hex HF.out)
        have hfin := hid (show str ((X ++ [37] ++ [hexD (s[k].toNat / 16)]) ++ [hexD (s[k].toNat % 16)]) = str (escT (s.data.toList.take (k + 1))) by rw [hst.out, hx.out]; simp)
        obtain ⟨n1, en1⟩ : ∃ n1 : Int, n1 = (s[k].toNat : Int) := ⟨_, rfl⟩
        have hn1 : 0 ≤ n1 ∧ n1 < 256 := by have := s[k].toNat_lt; omega
        have t1 : IntKind.i64.wrap (n1.tdiv 16) = ((s[k].toNat / 16 : Nat) : Int) := by
          rw [Int.tdiv_eq_ediv_of_nonneg hn1.1, IntWalk.i64_in _ (by omega)]; omega
        have t2 : IntKind.i64.wrap (IntKind.i64.wrap (n1.tdiv 16) + 1) = ((s[k].toNat / 16 + 1 : Nat) : Int) := by
          rw [t1, IntWalk.i64_in _ (by have := s[k].toNat_lt; omega)]; omega
        have t3 : n1.tmod 16 = ((s[k].toNat % 16 : Nat) : Int) := by
          rw [Int.tmod_eq_emod_of_nonneg hn1.1]; omega
        have t4 : IntKind.i64.wrap (n1.tmod 16 + 1) = ((s[k].toNat % 16 + 1 : Nat) : Int) := by
          rw [t3, IntWalk.i64_in _ (by omega)]; omega
        have q1 := slice_run hexS (s[k].toNat / 16) (s[k].toNat / 16 + 1) _ _ t1 t2 (by omega) (by have := s[k].toNat_lt; show _ ≤ 16; omega) (str [hexD (s[k].toNat / 16)]) (by rw [extract_one hexS _ (by have := s[k].toNat_lt; show _ < 16; omega)]; congr 1; congr 1; exact (hex_at _ (by have := s[k].toNat_lt; omega)).symm)
        have q2 := slice_run hexS (s[k].toNat % 16) (s[k].toNat % 16 + 1) _ _ t3 t4 (by omega) (by show _ ≤ 16; omega) (str [hexD (s[k].toNat % 16)]) (by rw [extract_one hexS _ (by show _ < 16; omega)]; congr 1; congr 1; exact (hex_at _ (by omega)).symm)
        obtain ⟨Q1, eQ1⟩ : ∃ Q1, Q1 = hexD (s[k].toNat / 16) := ⟨_, rfl⟩
        obtain ⟨Q2, eQ2⟩ : ∃ Q2, Q2 = hexD (s[k].toNat % 16) := ⟨_, rfl⟩
        rw [← eQ1, ← eQ2] at hfin
        rw [← eQ1] at q1
        rw [← eQ2] at q2
        clear t1 t2 t3 t4 eQ1 eQ2
        have a1 := add_str_lit X ⟨#[37]⟩ [37] rfl (by have := hel.out; simp only [List.length_cons, List.length_nil]; omega)
        obtain ⟨X1, eX1⟩ : ∃ X1, X1 = X ++ [37] := ⟨_, rfl⟩
        rw [← eX1] at a1 hfin
        have a2 := add_str X1 [Q1] (by have := hel.out; rw [eX1]; simp only [List.length_append, List.length_cons, List.length_nil]; omega)
        obtain ⟨X2, eX2⟩ : ∃ X2, X2 = X1 ++ [Q1] := ⟨_, rfl⟩
        rw [← eX2] at a2 hfin
        have a3 := add_str X2 [Q2] (by have := hel.out; rw [eX2, eX1]; simp only [List.length_append, List.length_cons, List.length_nil]; omega)
        obtain ⟨X3, eX3⟩ : ∃ X3, X3 = X2 ++ [Q2] := ⟨_, rfl⟩
        rw [← eX3] at a3 hfin
        clear eX1 eX2 eX3
        unfold hexS at q1 q2
        go_wp2
        rw [← en1]
        clear en1 hn1
        go_quiet (fail)
        go_wp2
        go_roundw
        case rel => exact ⟨k + 1, by omega, by go_num, by rw [hfin.out], hB.trans (below_drew _ _)⟩
        case measure => simp [intOf]; omega
      · have hx := hid (escB_plain HF.out)
        have hsl := slice_run s k (k + 1) (k : Int) ((k : Int) + 1) rfl (by omega) (by omega) (by omega) (str [s[k]]) (extract_one s k hlt).symm
        have hadd := add_str X [s[k]] (by have := hel.out; simp only [List.length_cons, List.length_nil]; omega)
        have hfin := hid (show str (X ++ [s[k]]) = str (escT (s.data.toList.take (k + 1))) by rw [hst.out, hx.out])
        obtain ⟨q, eq⟩ : ∃ q, q = str [s[k]] := ⟨_, rfl⟩
        rw [← eq] at hsl hadd
        clear eq
        go_wp2
        go_roundw
        case rel => exact ⟨k + 1, by omega, by go_num, by rw [hfin.out], hB⟩
        case measure => simp [intOf]; omega
    · obtain rfl : s.size = k := by omega
      rw [List.take_of_length_le (by rw [hsz.out]; exact Nat.le_refl _), ← hEsc.out]
      obtain ⟨X, eX⟩ : ∃ X, X = str (escL s.data.toList) := ⟨_, rfl⟩
      have EX := hid eX
      rw [← eX]
      clear eX
      go_wp2
      go_ret
      exact ⟨ret_str EX.out, hB⟩
end Go.Proofs.YtahbhhenobehfaaGreatDoor
namespace Go.Proofs.YtahbhhenobehfaaGreatDoor
open Go.RowKit

def hexI (x : Int) : Int := if 48 ≤ x ∧ x ≤ 57 then x - 48 else if 97 ≤ x ∧ x ≤ 102 then x - 87 else -1
theorem hexI_le (x : Int) : hexI x ≤ 15 := by
  unfold hexI
  split
  · omega
  · split <;> omega
theorem hexI_hex (n : Nat) (h : n < 16) : hexI ((hexD n).toNat : Int) = n := by
  have : ∀ n : Fin 16, hexI ((hexD n.val).toNat : Int) = (n.val : Int) := by decide
  exact this ⟨n, h⟩
set_option maxRecDepth 100000 in
theorem hexI_index (c : UInt8) : Lib.indexByte [48, 49, 50, 51, 52, 53, 54, 55, 56, 57, 97, 98, 99, 100, 101, 102] c = hexI (c.toNat : Int) := by
  have : ∀ n : Fin 256, Lib.indexByte [48, 49, 50, 51, 52, 53, 54, 55, 56, 57, 97, 98, 99, 100, 101, 102] (UInt8.ofNat n.val) = hexI (((UInt8.ofNat n.val).toNat : Nat) : Int) := by decide
  have h := this ⟨c.toNat, c.toNat_lt⟩
  simpa using h
theorem escT_cons (c : UInt8) (r : List UInt8) : escT (c :: r) = escB c ++ escT r := by unfold escT; rw [List.flatMap_cons]
theorem escB_ne (c : UInt8) : escB c ≠ [] := by unfold escB; split <;> simp
theorem escT_nil_iff {l : List UInt8} (h : escT l = []) : l = [] := by
  cases l with
  | nil => rfl
  | cons c r =>
    rw [escT_cons] at h
    exact absurd (List.append_eq_nil_iff.1 h).1 (escB_ne c)
/-- At place p of l all has been read that a text may hold that is so escaped. -/
def EscAt (l o : List UInt8) (p : Nat) : Prop := ∀ t, l = escT t → ∃ k, k ≤ t.length ∧ o = t.take k ∧ l.drop p = escT (t.drop k)
theorem EscAt.start (l : List UInt8) : EscAt l [] 0 := fun _ h => ⟨0, Nat.zero_le _, rfl, h⟩
theorem EscAt.done {l o : List UInt8} (h : EscAt l o l.length) {t : List UInt8} (ht : l = escT t) : o = t := by
  obtain ⟨k, hk, rfl, e⟩ := h t ht
  rw [List.drop_length] at e
  have := escT_nil_iff e.symm
  rw [List.drop_eq_nil_iff] at this
  exact List.take_of_length_le this
theorem EscAt.next {l o : List UInt8} {p : Nat} (h : EscAt l o p) (hp : p < l.length) {t : List UInt8} (ht : l = escT t) : ∃ k, ∃ hk : k < t.length, o = t.take k ∧ l.drop p = escB t[k] ++ escT (t.drop (k + 1)) := by
  obtain ⟨k, hk, rfl, e⟩ := h t ht
  have hne : l.drop p ≠ [] := by rw [Ne, List.drop_eq_nil_iff]; omega
  have hk2 : k < t.length := by
    rcases Nat.lt_or_ge k t.length with h | h
    · exact h
    · rw [List.drop_of_length_le h] at e
      exact absurd e hne
  exact ⟨k, hk2, rfl, by rw [e, List.drop_eq_getElem_cons hk2, escT_cons]⟩
theorem EscAt.plain {l o : List UInt8} {p : Nat} (h : EscAt l o p) (hp : p < l.length) (h37 : l[p] ≠ 37) : EscAt l (o ++ [l[p]]) (p + 1) := fun t ht => by
  obtain ⟨k, hk, rfl, e⟩ := h.next hp ht
  rw [List.drop_eq_getElem_cons hp] at e
  by_cases hpl : plainI ((t[k]).toNat : Int) = true
  · rw [escB_plain hpl] at e
    simp only [List.cons_append, List.nil_append, List.cons.injEq] at e
    exact ⟨k + 1, hk, by rw [List.take_succ_eq_append_getElem hk, e.1], e.2⟩
  · rw [escB_hex (by simpa using hpl)] at e
    simp only [List.cons_append, List.cons.injEq] at e
    exact absurd e.1 h37
theorem EscAt.odd {l o : List UInt8} {p : Nat} (h : EscAt l o p) (hp : p < l.length) (h37 : l[p] ≠ 37) (hpl : plainI ((l[p]).toNat : Int) = false) (t : List UInt8) : l ≠ escT t := fun ht => by
  obtain ⟨k, hk, rfl, e⟩ := h.next hp ht
  rw [List.drop_eq_getElem_cons hp] at e
  by_cases hp2 : plainI ((t[k]).toNat : Int) = true
  · rw [escB_plain hp2] at e
    simp only [List.cons_append, List.nil_append, List.cons.injEq] at e
    rw [e.1, hp2] at hpl
    cases hpl
  · rw [escB_hex (by simpa using hp2)] at e
    simp only [List.cons_append, List.cons.injEq] at e
    exact h37 e.1
theorem EscAt.mark {l o : List UInt8} {p : Nat} (h : EscAt l o p) (hp : p < l.length) (h37 : l[p] = 37) {t : List UInt8} (ht : l = escT t) :
    ∃ h2 : p + 2 < l.length, 0 ≤ hexI ((l[p + 1]).toNat : Int) ∧ 0 ≤ hexI ((l[p + 2]).toNat : Int) := by
  obtain ⟨k, hk, rfl, e⟩ := h.next hp ht
  have hlen : (l.drop p).length = l.length - p := List.length_drop
  have hpl : plainI ((t[k]).toNat : Int) = false := by
    rw [Bool.eq_false_iff]
    intro hpl
    rw [escB_plain hpl, List.drop_eq_getElem_cons hp] at e
    simp only [List.cons_append, List.nil_append, List.cons.injEq] at e
    rw [← e.1, h37] at hpl
    exact absurd hpl (by decide)
  rw [escB_hex hpl] at e
  have h2 : p + 2 < l.length := by
    rw [e] at hlen
    simp at hlen
    omega
  rw [List.drop_eq_getElem_cons hp, List.drop_eq_getElem_cons (show p + 1 < l.length by omega), List.drop_eq_getElem_cons h2] at e
  simp only [List.cons_append, List.nil_append, List.cons.injEq] at e
  have hb : t[k].toNat < 256 := t[k].toNat_lt
  exact ⟨h2, by rw [e.2.1, hexI_hex _ (by omega)]; omega, by rw [e.2.2.1, hexI_hex _ (by omega)]; omega⟩
theorem EscAt.hex {l o : List UInt8} {p : Nat} (h : EscAt l o p) (h2 : p + 2 < l.length) (h37 : l[p] = 37) {c : UInt8} (hc : (c.toNat : Int) = hexI ((l[p + 1]).toNat : Int) * 16 + hexI ((l[p + 2]).toNat : Int)) : EscAt l (o ++ [c]) (p + 3) := fun t ht => by
  obtain ⟨k, hk, rfl, e⟩ := h.next (by omega) ht
  have hpl : plainI ((t[k]).toNat : Int) = false := by
    rw [Bool.eq_false_iff]
    intro hpl
    rw [escB_plain hpl, List.drop_eq_getElem_cons (show p < l.length by omega)] at e
    simp only [List.cons_append, List.nil_append, List.cons.injEq] at e
    rw [← e.1, h37] at hpl
    exact absurd hpl (by decide)
  rw [escB_hex hpl, List.drop_eq_getElem_cons (show p < l.length by omega), List.drop_eq_getElem_cons (show p + 1 < l.length by omega), List.drop_eq_getElem_cons h2] at e
  simp only [List.cons_append, List.nil_append, List.cons.injEq] at e
  have hb : t[k].toNat < 256 := t[k].toNat_lt
  rw [e.2.1, e.2.2.1, hexI_hex _ (by omega), hexI_hex _ (by omega)] at hc
  have hct : c = t[k] := by
    apply UInt8.toNat_inj.1
    omega
  exact ⟨k + 1, hk, by rw [List.take_succ_eq_append_getElem hk, hct], e.2.2.2⟩
theorem escL_one {l t : List UInt8} (h : l = escL t) (h1 : l ≠ [37]) : l = escT t := by
  unfold escL at h
  split at h
  · exact absurd h h1
  · exact h
theorem escL_mark {t : List UInt8} (h : [37] = escL t) : t = [] := by
  unfold escL at h
  split at h
  · rename_i h2; simpa using h2
  · match t, h with
    | [], _ => rfl
    | c :: r, h =>
      rw [escT_cons] at h
      by_cases hp : plainI (c.toNat : Int) = true
      · rw [escB_plain hp] at h
        simp only [List.cons_append, List.nil_append, List.cons.injEq] at h
        rw [← h.1] at hp
        exact absurd hp (by decide)
      · rw [escB_hex (by simpa using hp)] at h
        simp at h
/-- Bytes, one cell each. -/
def ByteC (_ : World) (u : Value) (x : UInt8) : Prop := u = .int .u8 (x.toNat : Int)
theorem Rests.byte (S : Nat → Prop) (w : World) (x : UInt8) : Rests ByteC S w (.int .u8 (x.toNat : Int)) x := fun _ _ => rfl
theorem OwnL.bytes {base : Nat} {E : TypeId} {w : World} {v : Value} {l : List UInt8} (h : OwnL ByteC base E w v l) : ∃ ad cap, v = .slice ad l.length cap ∧ RowB w ad l := by
  obtain ⟨ad, cap, e, hH⟩ := h.slice
  refine ⟨ad, cap, e, fun i hi => ?_⟩
  obtain ⟨b, o, u, e2, hc, hu⟩ := hH.lst.2.2.2 i hi
  refine ⟨b, o, e2, ?_⟩
  rw [hc, show u = _ from hu]
  unfold bt
  rw [List.getD_eq_getElem?_getD, List.getElem?_eq_getElem hi]
  rfl
/-- The step of an iterator leaves an own list. -/
theorem OwnL.iterAt {α : Type} {C : World → Value → α → Prop} {base : Nat} {E : TypeId} {w : World} {v : Value} {l : List α} {k : Nat} {s : ByteArray} (h : OwnL C base E w v l) (hb : k < base) (q : Nat) : OwnL C base E (w.iterAt k s q) v l := by
  refine h.agr ⟨by rw [Lib.iterAt_size]; exact Nat.le_refl _, fun j hj hs => Lib.iterAt_other _ _ _ _ _ (by have hs' : base ≤ j := hs; omega)⟩ (fun g hg => Lib.iterAt_other _ _ _ _ _ (by have := (h.lt g hg).1; omega))
end Go.Proofs.YtahbhhenobehfaaGreatDoor
