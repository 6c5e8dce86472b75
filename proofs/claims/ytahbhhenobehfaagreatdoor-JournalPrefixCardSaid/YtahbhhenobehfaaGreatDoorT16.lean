/-
  The walks of list of package journal and of its reference.
-/
import Derived.Test.YtahbhhenobehfaaGreatDoorTRec
import Derived.Test.YtahbhhenobehfaaGreatDoorT10
import Derived.Test.YtahbhhenobehfaaGreatDoorT15
namespace Go.Proofs.YtahbhhenobehfaaGreatDoor
open Go.ChangeShapes Go.WideShapes Go.ChangeAt Go.RowKit

theorem listL_nil (sep : List UInt8) : listL [] sep = [45] := rfl
theorem listL_some {l : List Int} (sep : List UInt8) (h : 0 < l.length) : listL l sep = Lib.join (l.map numT) sep := by
  unfold listL
  have : l.isEmpty = false := by cases l with | nil => simp at h | cons _ _ => rfl
  rw [this]; rfl
theorem numT_len (n : Int) (h0 : 0 ≤ n) (h1 : n ≤ 9223372036854775807) : (numT n).length ≤ 20 := dec_len 19 n.toNat (by omega)
theorem map_getD {l : List Int} (k : Nat) (hk : k < l.length) : (l.map numT).getD k [] = numT (l.getD k 0) := by
  rw [List.getD_eq_getElem?_getD, List.getElem?_map, List.getElem?_eq_getElem hk, List.getD_eq_getElem?_getD, List.getElem?_eq_getElem hk]; rfl
set_option maxRecDepth 20000 in
set_option maxHeartbeats 4000000 in
theorem jlist_any (ad : Option Addr) (m cap : Nat) (l : List Int) (sep : List UInt8) (w : World) (h : HeldL IntC w ad m cap l) (hm : m ≤ 100000) (hr : ∀ i, i < m → 0 ≤ l.getD i 0 ∧ l.getD i 0 ≤ 9223372036854775807) (hlen : (listL l sep).length ≤ 100000000) (ht : Tab w) :
    Calls Tryz.prog 75 #[.slice ad m cap, .string (str sep)] w fun e w' => e = .returned (.string (str (listL l sep))) ∧ Below w.heap.size w w' := by
  obtain ⟨i0, hi, hz0, hz1, hz2⟩ := info_parts info_string
  have hl := hid h.len
  have hle := h.le
  have hmx := h.max
  by_cases h0 : m = 0
  · subst h0
    obtain rfl : l = [] := List.eq_nil_of_length_eq_zero hl.out
    go_enter Tryz.func75, Tryz.ntmps75
    go_wp2
    go_ret
    exact ⟨rfl, Below.refl _ _⟩
  have hm0 : (0 : Int) < m := by omega
  have hmz : ((m : Int) == 0) = false := by simp; omega
  obtain ⟨J, eJ⟩ : ∃ J, J = l.map numT := ⟨_, rfl⟩
  have hJl := hid (show J.length = m by rw [eJ, List.length_map]; exact hl.out)
  have hJk := hid (show ∀ k (hk : k < l.length), J.getD k [] = numT (l.getD k 0) from fun k hk => by rw [eJ]; exact map_getD k hk)
  have hT := hid (show listL l sep = Lib.join J sep by rw [eJ]; exact listL_some sep (by rw [hl.out]; omega))
  have Hlen := hid hlen
  have Hm := hid hm
  have HR := hid hr
  clear eJ hlen hm hr
  go_enter Tryz.func75, Tryz.ntmps75
  go_wp2
  go_loopw [5, 13] (fun v i wr => ∃ k : Nat, k ≤ m ∧ i = .int .i64 k ∧ OwnL StrC w.heap.size 9 wr v (J.take k) ∧ Below w.heap.size w wr) (fun _ i _ => m - (intOf i).toNat)
  case atStart => exact ⟨0, Nat.zero_le _, rfl, OwnL.nil _ _ _ _, Below.refl _ _⟩
  case round =>
    obtain ⟨k, hk, rfl, own, hb⟩ := hrel
    by_cases hlt : k < m
    · have hw := h.below hb (Nat.le_refl _)
      obtain ⟨b', o', rfl⟩ := hw.head (by omega)
      have hc := hw.int k hlt
      have hk0 : (0 : Int) ≤ k := by omega
      have hkn : (k : Int) < m := by omega
      have hJ2 := hid (hJk.out k (by rw [hl.out]; exact hlt))
      have hrk := HR.out k hlt
      obtain ⟨x, ex⟩ : ∃ x, x = l.getD k 0 := ⟨_, rfl⟩
      rw [← ex] at hc hJ2 hrk
      obtain ⟨Y, eY⟩ : ∃ Y, Y = numT x := ⟨_, rfl⟩
      have EY := hid eY
      have hst := hid (show J.take (k + 1) = J.take k ++ [Y] by
        rw [List.take_succ_eq_append_getElem (by rw [hJl.out]; exact hlt), eY, ← hJ2.out, List.getD_eq_getElem?_getD, List.getElem?_eq_getElem (by rw [hJl.out]; exact hlt)]; rfl)
      have hln := hid (show (J.take k).length ≤ 100000 by rw [List.length_take]; have := Hm.out; omega)
      obtain ⟨D, eD⟩ : ∃ D, D = J.take k := ⟨_, rfl⟩
      rw [← eD] at own hst hln
      have htw := tab_below ht hb (Nat.le_refl _)
      clear ex hw eY eD
      have bs := hb.size
      go_wp2_with fail
      refine (itoa_any x _ hrk.1 hrk.2 htw).mono ?_
      rintro e w3 ⟨rfl, o3⟩
      rw [show Lib.decDigits x.toNat = Y from EY.out.symm]
      have hb3 := hb.trans (o3.mono bs)
      have own3 := own.below o3 (Nat.le_refl _)
      have bs3 := hb3.size
      have own4 := own3.alloc (.cells #[.string (str Y)] 9)
      have hb4 := hb3.alloc bs3 (.cells #[.string (str Y)] 9)
      clear own3 own o3 hb3 hb hc htw
      go_wp2_with (at_builtin; go_must (refine wpList_append_run rfl (.tmp 17) (.tmp 20) 32 rfl u5 (.slice (some ⟨w3.heap.size, 0, none⟩) 1 1) (by rfl) (by rfl) (run_append1 _ w.heap.size 32 _ 9 i0 _ 16 Tryz.underlying32 hi hz0 hz1 hz2 rfl _ D own4 w3.heap.size 1 (.string (str Y)) Y (by simp) rfl (Rests.str _ _ _) (by have := hln.out; rw [maxLen_eq]; omega) (by have := hln.out; omega) (by simp; omega)) ?_); rintro v5 w5 ⟨own5, b5, _, _⟩)
      have hb5 := hb4.trans b5
      clear own4 hb4 b5
      go_wp2
      go_roundw
      case rel => exact ⟨k + 1, by omega, by go_num, by rw [hst.out]; exact own5, hb5⟩
      case measure => simp [intOf]; omega
    · obtain rfl : k = m := by omega
      rw [List.take_of_length_le (by rw [hJl.out]; exact Nat.le_refl _)] at own
      obtain ⟨a1, c1, rfl, hs⟩ := own.slice
      have hjT := hid (show (Lib.join J sep).length ≤ 140737488355328 by rw [← hT.out]; have := Hlen.out; omega)
      have hfin := hid (show str (Lib.join J sep) = str (listL l sep) by rw [hT.out])
      have hJm := hid (show J.length ≤ 140737488355328 by rw [hJl.out]; have := Hm.out; omega)
      obtain ⟨b2, o2, rfl⟩ := hs.head (by rw [hJl.out]; omega)
      have hle2 := hs.le
      have hcell := hid (show ∀ j (hj : j < J.length), wr.cell? ⟨b2, o2 + j, none⟩ = some (.string (str J[j])) from fun j hj => by
        obtain ⟨b', o', u, e, hc, hx⟩ := hs.lst.2.2.2 j hj
        cases e
        rw [hc, show u = _ from hx])
      have hbk := hid (lt_of_cell (hcell.out 0 (by rw [hJl.out]; omega)))
      clear own hs
      go_wp2_with fail
      refine (join_str b2 o2 c1 J sep _ hcell.out hbk.out hJm.out hle2 hjT.out).mono ?_
      rintro e w3 ⟨rfl, o3⟩
      rw [hfin.out]
      have hb3 := hb.trans (o3.mono hb.size)
      go_wp2
      go_ret
      exact ⟨rfl, hb3⟩
set_option maxRecDepth 20000 in
set_option maxHeartbeats 4000000 in
theorem rlist_any (ad : Option Addr) (m cap : Nat) (l : List Int) (sep : List UInt8) (w : World) (h : HeldL IntC w ad m cap l) (hr : ∀ i, i < m → 0 ≤ l.getD i 0 ∧ l.getD i 0 ≤ 9223372036854775807) (hlen : (listL l sep).length ≤ 100000000) (hsep : sep.length ≤ 100000000) :
    Calls Tryz.prog 34 #[.slice ad m cap, .string (str sep)] w fun e w' => e = .returned (.string (str (listL l sep))) ∧ w = w' := by
  have hl := hid h.len
  have hle := h.le
  have hmx := h.max
  by_cases h0 : m = 0
  · subst h0
    obtain rfl : l = [] := List.eq_nil_of_length_eq_zero hl.out
    go_enter Tryz.func34, Tryz.ntmps34
    go_wp2
    go_ret
    exact ⟨rfl, rfl⟩
  have hm0 : (0 : Int) < m := by omega
  have hmz : ((m : Int) == 0) = false := by simp; omega
  obtain ⟨J, eJ⟩ : ∃ J, J = l.map numT := ⟨_, rfl⟩
  have hJl := hid (show J.length = m by rw [eJ, List.length_map]; exact hl.out)
  have hJk := hid (show ∀ k (hk : k < l.length), J.getD k [] = numT (l.getD k 0) from fun k hk => by rw [eJ]; exact map_getD k hk)
  have hT := hid (show listL l sep = Lib.join J sep by rw [eJ]; exact listL_some sep (by rw [hl.out]; omega))
  have Hlen := hid hlen
  have Hsep := hid hsep
  have HR := hid hr
  clear eJ hlen hsep hr
  obtain ⟨b', o', rfl⟩ := h.head (by omega)
  go_enter Tryz.func34, Tryz.ntmps34
  go_wp2
  go_loop [5, 12] (fun v i => ∃ k : Nat, k ≤ m ∧ i = .int .i64 k ∧ v = .string (str (Lib.join (J.take k) sep))) (fun _ i => m - (intOf i).toNat)
  case atStart => exact ⟨0, Nat.zero_le _, rfl, rfl⟩
  case round =>
    obtain ⟨k, hk, rfl, rfl⟩ := hrel
    by_cases hlt : k < m
    · have hc := h.int k hlt
      have hk0 : (0 : Int) ≤ k := by omega
      have hkn : (k : Int) < m := by omega
      have hJ2 := hid (hJk.out k (by rw [hl.out]; exact hlt))
      have hrk := HR.out k hlt
      obtain ⟨x, ex⟩ : ∃ x, x = l.getD k 0 := ⟨_, rfl⟩
      rw [← ex] at hc hJ2 hrk
      obtain ⟨Y, eY⟩ : ∃ Y, Y = numT x := ⟨_, rfl⟩
      have EY := hid eY
      have hY20 := hid (show Y.length ≤ 20 by rw [eY]; exact numT_len x hrk.1 hrk.2)
      have hjle := hid (join_take_le sep J (k + 1))
      have hjT := hid (show (Lib.join J sep).length ≤ 100000000 by rw [← hT.out]; exact Hlen.out)
      clear ex eY
      obtain ⟨X, eX⟩ : ∃ X, X = Lib.join (J.take k) sep := ⟨_, rfl⟩
      rw [← eX]
      have EX := hid eX
      clear eX
      by_cases hk1 : k = 0
      · have hjs := hid (show Lib.join (J.take (k + 1)) sep = X ++ Y by
          rw [EX.out]
          subst hk1
          rw [List.take_zero, Lib.join_nil, List.nil_append, join_take_zero sep J (by rw [hJl.out]; omega), EY.out, ← hJ2.out, List.getD_eq_getElem?_getD, List.getElem?_eq_getElem (by rw [hJl.out]; omega)]; rfl)
        have hkg : ¬ (0 : Int) < k := by omega
        have hlenW := hid (show X.length + Y.length ≤ 100000000 by
          have h2 := hjle.out
          have h3 := congrArg List.length hjs.out
          have h4 := hjT.out
          rw [List.length_append] at h3
          omega)
        have hadd := add_str X Y (by have := hlenW.out; omega)
        clear hk1
        go_wp2_with fail
        refine (dec_any x _ hrk.1 hrk.2).mono ?_
        rintro e w3 ⟨rfl, rfl⟩
        rw [show Lib.decDigits x.toNat = Y from EY.out.symm]
        have hfin := hid (show str (X ++ Y) = str (Lib.join (J.take (k + 1)) sep) by rw [hjs.out])
        go_wp2
        go_round
        case rel => exact ⟨k + 1, by omega, by go_num, by rw [hfin.out]⟩
        case measure => simp [intOf]; omega
      · have hjs := hid (show Lib.join (J.take (k + 1)) sep = (X ++ sep) ++ Y by
          rw [EX.out, join_take_succ sep J k (by rw [hJl.out]; omega) (by omega), EY.out, ← hJ2.out, List.getD_eq_getElem?_getD, List.getElem?_eq_getElem (by rw [hJl.out]; omega)]; rfl)
        have hkg : (0 : Int) < k := by omega
        have hlenW := hid (show X.length + sep.length + Y.length ≤ 100000000 by
          have h2 := hjle.out
          have h3 := congrArg List.length hjs.out
          have h4 := hjT.out
          simp only [List.length_append] at h3
          omega)
        have hadd1 := add_str X sep (by have := hlenW.out; omega)
        obtain ⟨X2, eX2⟩ : ∃ X2, X2 = X ++ sep := ⟨_, rfl⟩
        rw [← eX2] at hadd1
        have EX2 := hid eX2
        have hadd2 := add_str X2 Y (by have := hlenW.out; rw [eX2]; simp only [List.length_append]; omega)
        clear hk1 eX2
        go_wp2_with fail
        refine (dec_any x _ hrk.1 hrk.2).mono ?_
        rintro e w3 ⟨rfl, rfl⟩
        rw [show Lib.decDigits x.toNat = Y from EY.out.symm]
        have hfin := hid (show str (X2 ++ Y) = str (Lib.join (J.take (k + 1)) sep) by rw [hjs.out, EX2.out])
        go_wp2
        go_round
        case rel => exact ⟨k + 1, by omega, by go_num, by rw [hfin.out]⟩
        case measure => simp [intOf]; omega
    · obtain rfl : k = m := by omega
      rw [List.take_of_length_le (by rw [hJl.out]; exact Nat.le_refl _)]
      have hfin := hid (show str (Lib.join J sep) = str (listL l sep) by rw [hT.out])
      obtain ⟨X, eX⟩ : ∃ X, X = Lib.join J sep := ⟨_, rfl⟩
      rw [← eX]
      rw [← eX] at hfin
      clear eX
      go_wp2
      go_ret
      exact ⟨ret_str hfin.out, rfl⟩
end Go.Proofs.YtahbhhenobehfaaGreatDoor
