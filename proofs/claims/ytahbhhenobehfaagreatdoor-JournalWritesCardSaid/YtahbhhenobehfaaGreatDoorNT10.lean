/-
  The walks of Terms of package printer and of its reference.
-/
import Derived.Test.YtahbhhenobehfaaGreatDoorM9
import Derived.Test.YtahbhhenobehfaaGreatDoorNSMem
import Derived.Test.YtahbhhenobehfaaGreatDoorM14
import Derived.Test.YtahbhhenobehfaaGreatDoorM15
namespace Go.Proofs.YtahbhhenobehfaaGreatDoor
open Go.ChangeShapes Go.WideShapes Go.ChangeAt Go.RowKit

theorem maxLen_eq : maxLen = 9223372036854775807 := rfl
def StrC (_ : World) (u : Value) (x : List UInt8) : Prop := u = .string (str x)
theorem Rests.str (S : Nat → Prop) (w : World) (x : List UInt8) : Rests StrC S w (.string (str x)) x := fun _ _ => rfl
theorem info_string : (Tryz.prog.info? 9).map (fun i => (i.zero, i.size, i.bytes)) = some (some (.string ⟨#[]⟩), 1, 16) := by kernel_rfl
theorem text_le_join {J : List (List UInt8)} (sep : List UInt8) (k : Nat) (hk : k < J.length) : (J.getD k []).length ≤ (Lib.join J sep).length := by
  have h := join_take_le sep J (k + 1)
  refine Nat.le_trans ?_ h
  have e : J.getD k [] = J[k] := by rw [List.getD_eq_getElem?_getD, List.getElem?_eq_getElem hk]; rfl
  rw [e]
  by_cases h0 : k = 0
  · subst h0; rw [join_take_zero sep J hk]; exact Nat.le_refl _
  · rw [join_take_succ sep J k hk (by omega)]; simp only [List.length_append]; omega
set_option maxRecDepth 20000 in
set_option maxHeartbeats 4000000 in
theorem rterms_any (ad : Option Addr) (m cap : Nat) (l : List Tm) (w : World) (h : TmsAt w ad m cap l) (hlen : (termsL l).length ≤ 100000000) :
    Calls Tryz.prog 33 #[.slice ad m cap] w fun e w' => e = .returned (.string (str (termsL l))) ∧ Below w.heap.size w w' := by
  have hl := hid h.len
  have hle := h.le
  have hmx := h.max
  obtain ⟨J, eJ⟩ : ∃ J, J = l.map textL := ⟨_, rfl⟩
  have hJl := hid (show J.length = m by rw [eJ, List.length_map]; exact hl.out)
  have hJk := hid (show ∀ k (hk : k < l.length), J.getD k [] = textL l[k] from fun k hk => by rw [eJ, List.getD_eq_getElem?_getD, List.getElem?_map, List.getElem?_eq_getElem hk]; rfl)
  have hT := hid (show termsL l = Lib.join J [44, 32] by rw [eJ]; rfl)
  have Hlen := hid hlen
  clear eJ hlen
  go_enter Tryz.func33, Tryz.ntmps33
  go_wp2
  go_loopw [3, 4] (fun v i wr => ∃ k : Nat, k ≤ m ∧ i = .int .i64 k ∧ v = .string (str (Lib.join (J.take k) [44, 32])) ∧ Below w.heap.size w wr) (fun _ i _ => m - (intOf i).toNat)
  case atStart => exact ⟨0, Nat.zero_le _, rfl, rfl, Below.refl _ _⟩
  case round =>
    obtain ⟨k, hk, rfl, rfl, hb⟩ := hrel
    by_cases hlt : k < m
    · have hw := h.below hb (Nat.le_refl _)
      obtain ⟨b', o', rfl⟩ := hw.head (by omega)
      obtain ⟨n2, l2, ad2, m2, cap2, et, hn2, d0, d1, h2⟩ := hw.at' k (by rw [hl.out]; exact hlt)
      have hk0 : (0 : Int) ≤ k := by omega
      have hkn : (k : Int) < m := by omega
      have hJ2 := hid (hJk.out k (by rw [hl.out]; exact hlt))
      rw [et] at hJ2
      have hjle := hid (join_take_le [44, 32] J (k + 1))
      have hjT := hid (show (Lib.join J [44, 32]).length ≤ 100000000 by rw [← hT.out]; exact Hlen.out)
      obtain ⟨Y, eY⟩ : ∃ Y, Y = textL (.mk n2 l2) := ⟨_, rfl⟩
      have EY := hid eY
      clear et hw eY
      obtain ⟨X, eX⟩ : ∃ X, X = Lib.join (J.take k) [44, 32] := ⟨_, rfl⟩
      rw [← eX]
      have EX := hid eX
      clear eX
      by_cases hk1 : k = 0
      · have hjs := hid (show Lib.join (J.take (k + 1)) [44, 32] = X ++ Y by
          rw [EX.out]
          subst hk1
          rw [List.take_zero, Lib.join_nil, List.nil_append, join_take_zero [44, 32] J (by rw [hJl.out]; omega), EY.out, ← hJ2.out, List.getD_eq_getElem?_getD, List.getElem?_eq_getElem (by rw [hJl.out]; omega)]; rfl)
        have hkg : ¬ (0 : Int) < k := by omega
        have hlenW := hid (show X.length + Y.length ≤ 100000000 by
          have h2 := hjle.out
          have h3 := congrArg List.length hjs.out
          have h4 := hjT.out
          rw [List.length_append] at h3
          omega)
        have hadd := add_str X Y (by have := hlenW.out; omega)
        clear hk1
        go_wp2_with fail
        refine (rtext_any _ n2 ad2 m2 cap2 l2 _ (Nat.le_refl _) hn2 h2 (by rw [← EY.out]; have := hlenW.out; omega)).mono ?_
        rintro e w3 ⟨rfl, o3⟩
        rw [← EY.out]
        have hb3 := hb.trans (o3.mono hb.size)
        have hfin := hid (show str (X ++ Y) = str (Lib.join (J.take (k + 1)) [44, 32]) by rw [hjs.out])
        clear h2 o3
        go_wp2
        go_roundw
        case rel => exact ⟨k + 1, by omega, by go_num, by rw [hfin.out], hb3⟩
        case measure => simp [intOf]; omega
      · have hjs := hid (show Lib.join (J.take (k + 1)) [44, 32] = (X ++ [44, 32]) ++ Y by
          rw [EX.out, join_take_succ [44, 32] J k (by rw [hJl.out]; omega) (by omega), EY.out, ← hJ2.out, List.getD_eq_getElem?_getD, List.getElem?_eq_getElem (by rw [hJl.out]; omega)]; rfl)
        have hkg : (0 : Int) < k := by omega
        have hlenW := hid (show X.length + 2 + Y.length ≤ 100000000 by
          have h2 := hjle.out
          have h3 := congrArg List.length hjs.out
          have h4 := hjT.out
          simp only [List.length_append, List.length_cons, List.length_nil] at h3
          omega)
        have hadd1 := add_str_lit X ⟨#[44, 32]⟩ [44, 32] rfl (by have := hlenW.out; simp only [List.length_cons, List.length_nil]; omega)
        obtain ⟨X2, eX2⟩ : ∃ X2, X2 = X ++ [44, 32] := ⟨_, rfl⟩
        rw [← eX2] at hadd1
        have EX2 := hid eX2
        have hadd2 := add_str X2 Y (by have := hlenW.out; rw [eX2]; simp only [List.length_append, List.length_cons, List.length_nil]; omega)
        clear hk1 eX2
        go_wp2_with fail
        refine (rtext_any _ n2 ad2 m2 cap2 l2 _ (Nat.le_refl _) hn2 h2 (by rw [← EY.out]; have := hlenW.out; omega)).mono ?_
        rintro e w3 ⟨rfl, o3⟩
        rw [← EY.out]
        have hb3 := hb.trans (o3.mono hb.size)
        have hfin := hid (show str (X2 ++ Y) = str (Lib.join (J.take (k + 1)) [44, 32]) by rw [hjs.out, EX2.out])
        clear h2 o3
        go_wp2
        go_roundw
        case rel => exact ⟨k + 1, by omega, by go_num, by rw [hfin.out], hb3⟩
        case measure => simp [intOf]; omega
    · obtain rfl : k = m := by omega
      rw [List.take_of_length_le (by rw [hJl.out]; exact Nat.le_refl _)]
      have hfin := hid (show str (Lib.join J [44, 32]) = str (termsL l) by rw [hT.out])
      obtain ⟨X, eX⟩ : ∃ X, X = Lib.join J [44, 32] := ⟨_, rfl⟩
      rw [← eX]
      rw [← eX] at hfin
      clear eX
      go_wp2
      go_ret
      exact ⟨ret_str hfin.out, hb⟩
theorem ttext_str (n : ByteArray) (ad : Option Addr) (m cap : Nat) (l : List Tm) (w : World) (hn : n.size ≤ maxLen) (h : TmsAt w ad m cap l) (hlen : (textL (.mk n l)).length ≤ 100000000) :
    Calls Tryz.prog 102 #[.agg #[.string n, .slice ad m cap]] w fun e w' => e = .returned (.string (str (textL (.mk n l)))) ∧ Below w.heap.size w w' := ttext_any n ad m cap l w hn h hlen
theorem join_str (bk o c : Nat) (xs : List (List UInt8)) (sep : List UInt8) (w : World) (hcells : ∀ j (h : j < xs.length), w.cell? ⟨bk, o + j, none⟩ = some (.string (str xs[j]))) (hbk : bk < w.heap.size) (hN : xs.length ≤ 140737488355328) (hc : xs.length ≤ c)
    (hlen : (Lib.join xs sep).length ≤ 140737488355328) :
    Calls Tryz.prog 70 #[.slice (some ⟨bk, o, none⟩) xs.length c, .string (str sep)] w fun e w' => e = .returned (.string (str (Lib.join xs sep))) ∧ Below w.heap.size w w' := by
  have e1 : (xs.map str).map (fun x => x.data.toList) = xs := by
    rw [List.map_map]
    exact (List.map_congr_left fun x _ => str_list x).trans (List.map_id _)
  have e2 : (str sep).data.toList = sep := str_list sep
  have h := Tryz.strings_Join bk o c (xs.map str) (str sep) w (fun j x hx => by
    rw [List.getElem?_map] at hx
    obtain ⟨y, hy, rfl⟩ := Option.map_eq_some_iff.1 hx
    obtain ⟨hj, rfl⟩ := List.getElem?_eq_some_iff.1 hy
    exact hcells j hj) hbk (by simpa using hN) (by simpa using hc) (by rw [e1, e2]; exact hlen)
  rw [e1, e2, List.length_map] at h
  exact h
set_option maxRecDepth 20000 in
set_option maxHeartbeats 4000000 in
theorem tterms_any (ad : Option Addr) (m cap : Nat) (l : List Tm) (w : World) (h : TmsAt w ad m cap l) (hm : m ≤ 100000) (hlen : (termsL l).length ≤ 100000000) :
    Calls Tryz.prog 74 #[.slice ad m cap] w fun e w' => e = .returned (.string (str (termsL l))) ∧ Below w.heap.size w w' := by
  obtain ⟨i0, hi, hz0, hz1, hz2⟩ := info_parts info_string
  have hl := hid h.len
  have hle := h.le
  have hmx := h.max
  obtain ⟨J, eJ⟩ : ∃ J, J = l.map textL := ⟨_, rfl⟩
  have hJl := hid (show J.length = m by rw [eJ, List.length_map]; exact hl.out)
  have hJk := hid (show ∀ k (hk : k < l.length), J.getD k [] = textL l[k] from fun k hk => by rw [eJ, List.getD_eq_getElem?_getD, List.getElem?_map, List.getElem?_eq_getElem hk]; rfl)
  have hT := hid (show termsL l = Lib.join J [44, 32] by rw [eJ]; rfl)
  have Hlen := hid hlen
  have Hm := hid hm
  clear eJ hlen hm
  go_enter Tryz.func74, Tryz.ntmps74
  go_wp2
  go_loopw [3, 8] (fun v i wr => ∃ k : Nat, k ≤ m ∧ i = .int .i64 k ∧ OwnL StrC w.heap.size 9 wr v (J.take k) ∧ Below w.heap.size w wr) (fun _ i _ => m - (intOf i).toNat)
  case atStart => exact ⟨0, Nat.zero_le _, rfl, OwnL.nil _ _ _ _, Below.refl _ _⟩
  case round =>
    obtain ⟨k, hk, rfl, own, hb⟩ := hrel
    by_cases hlt : k < m
    · have hw := h.below hb (Nat.le_refl _)
      obtain ⟨b', o', rfl⟩ := hw.head (by omega)
      obtain ⟨n2, l2, ad2, m2, cap2, et, hn2, d0, d1, h2⟩ := hw.at' k (by rw [hl.out]; exact hlt)
      have hk0 : (0 : Int) ≤ k := by omega
      have hkn : (k : Int) < m := by omega
      have hJ2 := hid (hJk.out k (by rw [hl.out]; exact hlt))
      rw [et] at hJ2
      have hjT := hid (show (Lib.join J [44, 32]).length ≤ 100000000 by rw [← hT.out]; exact Hlen.out)
      obtain ⟨Y, eY⟩ : ∃ Y, Y = textL (.mk n2 l2) := ⟨_, rfl⟩
      have EY := hid eY
      have hYl := hid (show Y.length ≤ 100000000 by rw [eY, ← hJ2.out]; exact Nat.le_trans (text_le_join [44, 32] k (by rw [hJl.out]; exact hlt)) hjT.out)
      have hst := hid (show J.take (k + 1) = J.take k ++ [Y] by
        rw [List.take_succ_eq_append_getElem (by rw [hJl.out]; exact hlt), eY, ← hJ2.out, List.getD_eq_getElem?_getD, List.getElem?_eq_getElem (by rw [hJl.out]; exact hlt)]; rfl)
      have hln := hid (show (J.take k).length ≤ 100000 by rw [List.length_take]; have := Hm.out; omega)
      obtain ⟨D, eD⟩ : ∃ D, D = J.take k := ⟨_, rfl⟩
      rw [← eD] at own hst hln
      clear et hw eY eD
      have bs := hb.size
      have bW : Below wr.heap.size wr (wr.alloc (.cells #[.string n2, .slice ad2 m2 cap2] 76)) := (Below.refl _ _).alloc (Nat.le_refl _) _
      have h2W := h2.below bW (Nat.le_refl _)
      have ownW := own.below bW (Nat.le_refl _)
      have hbW := hb.trans (bW.mono bs)
      clear h2 own bW hb
      go_wp2_with fail
      refine (ttext_str n2 ad2 m2 cap2 l2 _ hn2 h2W (by rw [← EY.out]; exact hYl.out)).mono ?_
      rintro e w3 ⟨rfl, o3⟩
      rw [← EY.out]
      have hb3 := hbW.trans (o3.mono hbW.size)
      have own3 := ownW.below o3 (Nat.le_refl _)
      have bs3 := hb3.size
      have own4 := own3.alloc (.cells #[.string (str Y)] 9)
      have hb4 := hb3.alloc bs3 (.cells #[.string (str Y)] 9)
      clear own3 ownW hbW o3 hb3 h2W
      go_wp2_with (at_builtin; go_must (refine wpList_append_run rfl (.tmp 12) (.tmp 15) 32 rfl u3 (.slice (some ⟨w3.heap.size, 0, none⟩) 1 1) (by rfl) (by rfl) (run_append1 _ w.heap.size 32 _ 9 i0 _ 16 Tryz.underlying32 hi hz0 hz1 hz2 rfl _ D own4 w3.heap.size 1 (.string (str Y)) Y (by simp) rfl (Rests.str _ _ _) (by have := hln.out; rw [maxLen_eq]; omega) (by have := hln.out; omega) (by simp; omega)) ?_); rintro v5 w5 ⟨own5, b5, _, _⟩)
      have hb5 := hb4.trans b5
      clear own4 hb4 b5
      go_wp2
      go_roundw
      case rel => exact ⟨k + 1, by omega, by go_num, by rw [hst.out]; exact own5, hb5⟩
      case measure => simp [intOf]; omega
    · obtain rfl : k = m := by omega
      rw [List.take_of_length_le (by rw [hJl.out]; exact Nat.le_refl _)] at own
      obtain ⟨a1, c1, rfl, hs⟩ := own.slice
      have hjT := hid (show (Lib.join J [44, 32]).length ≤ 140737488355328 by rw [← hT.out]; have := Hlen.out; omega)
      have hfin := hid (show str (Lib.join J [44, 32]) = str (termsL l) by rw [hT.out])
      have hJm := hid (show J.length ≤ 140737488355328 by rw [hJl.out]; have := Hm.out; omega)
      clear own
      by_cases h0 : k = 0
      · have hz := hid (show str (Lib.join J [44, 32]) = ⟨#[]⟩ by
          obtain rfl : J = [] := List.eq_nil_of_length_eq_zero (by rw [hJl.out]; exact h0)
          rfl)
        rw [show J.length = 0 by rw [hJl.out]; exact h0] at hs ⊢
        go_wp2_with fail
        refine (Tryz.strings_Join_none a1 c1 _ _).mono ?_
        rintro e w3 ⟨rfl, rfl⟩
        go_wp2
        go_ret
        exact ⟨ret_str (by rw [← hfin.out, hz.out]), hb⟩
      · obtain ⟨b2, o2, rfl⟩ := hs.head (by rw [hJl.out]; omega)
        have hle2 := hs.le
        have hcell := hid (show ∀ j (hj : j < J.length), wr.cell? ⟨b2, o2 + j, none⟩ = some (.string (str J[j])) from fun j hj => by
          obtain ⟨b', o', u, e, hc, hx⟩ := hs.lst.2.2.2 j hj
          cases e
          rw [hc, show u = _ from hx])
        have hbk := hid (lt_of_cell (hcell.out 0 (by rw [hJl.out]; omega)))
        clear hs
        go_wp2_with fail
        refine (join_str b2 o2 c1 J [44, 32] _ hcell.out hbk.out hJm.out hle2 hjT.out).mono ?_
        rintro e w3 ⟨rfl, o3⟩
        rw [hfin.out]
        have hb3 := hb.trans (o3.mono hb.size)
        go_wp2
        go_ret
        exact ⟨rfl, hb3⟩
end Go.Proofs.YtahbhhenobehfaaGreatDoor
