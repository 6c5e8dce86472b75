/-
  The walk of Text of the reference of terms.
  The walks of plain and Escape of package message and of its reference.
-/
import Derived.Test.YtahbhhenobehfaaGreatDoorM10
import Derived.Test.YtahbhhenobehfaaGreatDoorM9
import Derived.Laws.Concat
import Derived.Test.YtahbhhenobehfaaGreatDoorM14
namespace Go.Proofs.YtahbhhenobehfaaGreatDoor
open Go.ChangeShapes Go.WideShapes Go.ChangeAt Go.RowKit

/-- A string out of its bytes. -/
def str (l : List UInt8) : ByteArray := ⟨l.toArray⟩
theorem str_eta (n : ByteArray) : str n.data.toList = n := by cases n; simp [str]
theorem str_size (l : List UInt8) : (str l).size = l.length := by simp [str, ByteArray.size]
theorem str_list (l : List UInt8) : (str l).data.toList = l := by simp [str]
theorem str_append (x y : List UInt8) : str x ++ str y = str (x ++ y) := ByteArray.mk_append_mk x y
theorem add_str (x y : List UInt8) (h : x.length + y.length ≤ 1000000000) : ∀ wx, (Op.stringOp .add (str x) (str y)).run Tryz.prog wx = .ok (.string (str (x ++ y))) wx := fun wx => by
  rw [run_string_add_sum wx _ _ (by rw [str_size, str_size]; omega), str_append]
theorem add_str_lit (x : List UInt8) (q : ByteArray) (y : List UInt8) (hq : q = str y) (h : x.length + y.length ≤ 1000000000) : ∀ wx, (Op.stringOp .add (str x) q).run Tryz.prog wx = .ok (.string (str (x ++ y))) wx := by
  subst hq; exact add_str x y h
theorem ret_str {a b : ByteArray} (h : a = b) : Ending.returned (.string a) = .returned (.string b) := by rw [h]
set_option maxRecDepth 20000 in
set_option maxHeartbeats 8000000 in
theorem rtext_any : ∀ (K : Nat) (n : ByteArray) (ad : Option Addr) (m cap : Nat) (l : List Tm) (w : World), tmH (.mk n l) ≤ K → n.size ≤ maxLen → TmsAt w ad m cap l → (textL (.mk n l)).length ≤ 100000000 →
    Calls Tryz.prog 62 #[.agg #[.string n, .slice ad m cap]] w fun e w' => e = .returned (.string (str (textL (.mk n l)))) ∧ Below w.heap.size w w'
  | 0, n, ad, m, cap, l, w, hK, hn, h, hlen => by simp [tmH] at hK
  | K + 1, n, ad, m, cap, l, w, hK, hn, h, hlen => by
    have ih := hid (rtext_any K)
    have HK := hid hK
    have Hlen := hid hlen
    have hl := hid h.len
    have hle := h.le
    have hmx := h.max
    clear hK hlen
    have b0 : Below w.heap.size w (w.alloc (.cells #[.string n, .slice ad m cap] 76)) := (Below.refl _ _).alloc (Nat.le_refl _) _
    have H0 : Has (w.alloc (.cells #[.string n, .slice ad m cap] 76)) w.heap.size #[.string n, .slice ad m cap] 76 := Has.new _ _ _
    by_cases h0 : m = 0
    · subst h0
      obtain rfl : l = [] := List.eq_nil_of_length_eq_zero hl.out
      have hr := hid (show n = str (textL (.mk n [])) by rw [textL_leaf, str_eta])
      clear H0
      go_enter Tryz.func62, Tryz.ntmps62
      go_wp2
      go_ret
      exact ⟨ret_str hr.out, b0⟩
    have hm0 : (0 : Int) < m := by omega
    have hmz : ((m : Int) == 0) = false := by simp; omega
    obtain ⟨J, eJ⟩ : ∃ J, J = l.map textL := ⟨_, rfl⟩
    have hJl := hid (show J.length = m by rw [eJ, List.length_map]; exact hl.out)
    have hJk := hid (show ∀ k (hk : k < l.length), J.getD k [] = textL l[k] from fun k hk => by rw [eJ, List.getD_eq_getElem?_getD, List.getElem?_map, List.getElem?_eq_getElem hk]; rfl)
    have hT2 := hid (show textL (.mk n l) = (n.data.toList ++ [40]) ++ Lib.join J [44] ++ [41] by rw [textL_node n l (by rw [hl.out]; omega), eJ]; simp)
    have hLen2 := hid (show (n.data.toList ++ [40]).length + (Lib.join J [44]).length + 1 ≤ 100000000 by
      have h1 := Hlen.out
      rw [hT2.out] at h1
      simp only [List.length_append, List.length_cons, List.length_nil] at h1 ⊢
      omega)
    clear eJ Hlen
    obtain ⟨N, eN⟩ : ∃ N, N = n.data.toList := ⟨_, rfl⟩
    have En := hid (show n = str N by rw [eN, str_eta])
    rw [← eN] at hT2 hLen2
    clear eN
    have hadd : ∀ wx, (Op.stringOp .add n ⟨#[40]⟩).run Tryz.prog wx = .ok (.string (str (N ++ [40]))) wx := by
      rw [En.out]; exact add_str_lit N ⟨#[40]⟩ [40] rfl (by have := hLen2.out; simp only [List.length_append, List.length_cons, List.length_nil] at this ⊢; omega)
    obtain ⟨P, eP⟩ : ∃ P, P = N ++ [40] := ⟨_, rfl⟩
    rw [← eP] at hT2 hLen2 hadd
    clear eP En
    go_enter Tryz.func62, Tryz.ntmps62
    go_wp2
    clear hadd
    obtain ⟨w0, ew0⟩ : ∃ w0, w0 = w.alloc (.cells #[.string n, .slice ad m cap] 76) := ⟨_, rfl⟩
    rw [← ew0] at b0 H0
    rw [← ew0]
    have hz : w.heap.size < w0.heap.size := H0.lt
    clear ew0
    go_loopw [3, 17] (fun v i wr => ∃ k : Nat, k ≤ m ∧ i = .int .i64 k ∧ v = .string (str (P ++ Lib.join (J.take k) [44])) ∧ Below w0.heap.size w0 wr) (fun _ i _ => m - (intOf i).toNat)
    case atStart => exact ⟨0, Nat.zero_le _, rfl, by rw [List.take_zero, Lib.join_nil, List.append_nil], Below.refl _ _⟩
    case round =>
      obtain ⟨k, hk, rfl, rfl, hb⟩ := hrel
      have hbT := b0.trans (hb.mono b0.size)
      by_cases hlt : k < m
      · have hw := h.below hbT (Nat.le_refl _)
        obtain ⟨b', o', rfl⟩ := hw.head (by omega)
        obtain ⟨n2, l2, ad2, m2, cap2, et, hn2, d0, d1, h2⟩ := hw.at' k (by rw [hl.out]; exact hlt)
        have hk0 : (0 : Int) ≤ k := by omega
        have hkn : (k : Int) < m := by omega
        have cA : wr.cell? ⟨w.heap.size, 1, none⟩ = some (.slice (some ⟨b', o', none⟩) m cap) := (hb.cell (p := ⟨w.heap.size, 1, none⟩) hz).trans (H0.cell (j := 1) rfl)
        have htm := hid (tmH_arg HK.out k (by rw [hl.out]; exact hlt))
        have hJ2 := hid (hJk.out k (by rw [hl.out]; exact hlt))
        rw [et] at htm hJ2
        have hjle := hid (join_take_le [44] J (k + 1))
        obtain ⟨Y, eY⟩ : ∃ Y, Y = textL (.mk n2 l2) := ⟨_, rfl⟩
        have EY := hid eY
        clear et hw eY
        by_cases hk1 : k = 0
        · have hjs := hid (show Lib.join (J.take (k + 1)) [44] = Lib.join (J.take k) [44] ++ Y by
            subst hk1
            rw [List.take_zero, Lib.join_nil, List.nil_append, join_take_zero [44] J (by rw [hJl.out]; omega), EY.out, ← hJ2.out, List.getD_eq_getElem?_getD, List.getElem?_eq_getElem (by rw [hJl.out]; omega)]; rfl)
          have hkg : ¬ (0 : Int) < k := by omega
          have hlenW := hid (show (P ++ Lib.join (J.take k) [44]).length + Y.length ≤ 100000000 by
            have h1 := hLen2.out
            have h2 := hjle.out
            have h3 := congrArg List.length hjs.out
            simp only [List.length_append] at h3 ⊢
            omega)
          obtain ⟨X, eX⟩ : ∃ X, X = P ++ Lib.join (J.take k) [44] := ⟨_, rfl⟩
          rw [← eX]
          rw [← eX] at hlenW
          have EX := hid eX
          have hadd := add_str X Y (by have := hlenW.out; omega)
          clear hk1 eX
          go_wp2_with fail
          refine (ih.out n2 ad2 m2 cap2 l2 _ htm.out hn2 h2 (by rw [← EY.out]; have := hlenW.out; omega)).mono ?_
          rintro e w3 ⟨rfl, o3⟩
          rw [← EY.out]
          have hb3 := hb.trans (o3.mono hb.size)
          have hfin := hid (show str (X ++ Y) = str (P ++ Lib.join (J.take (k + 1)) [44]) by rw [hjs.out, EX.out, List.append_assoc])
          clear h2 o3
          go_wp2
          go_roundw
          case rel => exact ⟨k + 1, by omega, by go_num, by rw [hfin.out], hb3⟩
          case measure => simp [intOf]; omega
        · have hjs := hid (show Lib.join (J.take (k + 1)) [44] = (Lib.join (J.take k) [44] ++ [44]) ++ Y by
            rw [join_take_succ [44] J k (by rw [hJl.out]; omega) (by omega), EY.out, ← hJ2.out, List.getD_eq_getElem?_getD, List.getElem?_eq_getElem (by rw [hJl.out]; omega)]; rfl)
          have hkg : (0 : Int) < k := by omega
          have hlenW := hid (show (P ++ Lib.join (J.take k) [44]).length + 1 + Y.length ≤ 100000000 by
            have h1 := hLen2.out
            have h2 := hjle.out
            have h3 := congrArg List.length hjs.out
            simp only [List.length_append, List.length_cons, List.length_nil] at h3 ⊢
            omega)
          obtain ⟨X, eX⟩ : ∃ X, X = P ++ Lib.join (J.take k) [44] := ⟨_, rfl⟩
          rw [← eX]
          rw [← eX] at hlenW
          have EX := hid eX
          have hadd1 := add_str_lit X ⟨#[44]⟩ [44] rfl (by have := hlenW.out; simp only [List.length_cons, List.length_nil]; omega)
          obtain ⟨X2, eX2⟩ : ∃ X2, X2 = X ++ [44] := ⟨_, rfl⟩
          rw [← eX2] at hadd1
          have EX2 := hid eX2
          have hadd2 := add_str X2 Y (by have := hlenW.out; rw [eX2]; simp only [List.length_append, List.length_cons, List.length_nil]; omega)
          clear hk1 eX eX2
          go_wp2_with fail
          refine (ih.out n2 ad2 m2 cap2 l2 _ htm.out hn2 h2 (by rw [← EY.out]; have := hlenW.out; omega)).mono ?_
          rintro e w3 ⟨rfl, o3⟩
          rw [← EY.out]
          have hb3 := hb.trans (o3.mono hb.size)
          have hfin := hid (show str (X2 ++ Y) = str (P ++ Lib.join (J.take (k + 1)) [44]) by rw [hjs.out, EX2.out, EX.out]; simp only [List.append_assoc])
          clear h2 o3
          go_wp2
          go_roundw
          case rel => exact ⟨k + 1, by omega, by go_num, by rw [hfin.out], hb3⟩
          case measure => simp [intOf]; omega
      · obtain rfl : k = m := by omega
        rw [List.take_of_length_le (by rw [hJl.out]; exact Nat.le_refl _)]
        obtain ⟨X, eX⟩ : ∃ X, X = P ++ Lib.join J [44] := ⟨_, rfl⟩
        have hadd := add_str_lit X ⟨#[41]⟩ [41] rfl (by have := hLen2.out; rw [eX]; simp only [List.length_append, List.length_cons, List.length_nil]; omega)
        have hfin := hid (show str (X ++ [41]) = str (textL (.mk n l)) by rw [hT2.out, eX])
        rw [← eX]
        clear eX
        go_wp2
        go_ret
        exact ⟨ret_str hfin.out, hbT⟩
end Go.Proofs.YtahbhhenobehfaaGreatDoor
namespace Go.Proofs.YtahbhhenobehfaaGreatDoor
open Go.ChangeShapes Go.WideShapes Go.ChangeAt Go.RowKit

theorem plain_far {x : Int} (h : 57 < x) : (x == 40) = false ∧ (x == 41) = false ∧ (x == 44) = false ∧ (x == 46) = false ∧ (x == 45) = false := by
  simp only [beq_eq_false_iff_ne, ne_eq]; omega
theorem mplain_any (x : Int) (w : World) : Calls Tryz.prog 100 #[.int .u8 x] w fun e w' => e = .returned (.bool (plainI x)) ∧ w = w' := by
  rcases plain_cases x with (rfl | rfl | rfl | rfl | rfl) | ⟨h1, g1, g2, g3, g4, g5⟩ | ⟨h1, h2⟩ | ⟨h1, h2⟩ | ⟨h1, h2⟩ | ⟨h1, h2⟩ | ⟨h1, h2⟩ | h1
  case inl.inl | inl.inr.inl | inl.inr.inr.inl | inl.inr.inr.inr.inl | inl.inr.inr.inr.inr =>
    go_enter Tryz.func100, Tryz.ntmps100
    go_wp2
    go_ret
    exact ⟨rfl, rfl⟩
  case inr.inl =>
    have hr := hid (show plainI x = false by unfold plainI; rw [decide_eq_false (p := 97 ≤ x) (by omega), decide_eq_false (p := 65 ≤ x) (by omega), decide_eq_false (p := 48 ≤ x) (by omega), g1, g2, g3, g4, g5]; rfl)
    go_enter Tryz.func100, Tryz.ntmps100
    go_wp2
    go_ret
    exact ⟨ret_bool hr.out.symm, rfl⟩
  case inr.inr.inl =>
    have hr := hid (show plainI x = true by unfold plainI; rw [decide_eq_true h1, decide_eq_true h2]; simp)
    have h3 : ¬ 97 ≤ x := by omega
    have h4 : ¬ 65 ≤ x := by omega
    go_enter Tryz.func100, Tryz.ntmps100
    go_wp2
    go_ret
    exact ⟨ret_bool hr.out.symm, rfl⟩
  case inr.inr.inr.inl =>
    obtain ⟨g1, g2, g3, g4, g5⟩ := plain_far h1
    have hr := hid (show plainI x = false by unfold plainI; rw [decide_eq_false (p := 97 ≤ x) (by omega), decide_eq_false (p := 65 ≤ x) (by omega), decide_eq_false (p := x ≤ 57) (by omega), g1, g2, g3, g4, g5]; simp)
    have h3 : ¬ 97 ≤ x := by omega
    have h4 : ¬ 65 ≤ x := by omega
    have h5 : 48 ≤ x := by omega
    have h6 : ¬ x ≤ 57 := by omega
    go_enter Tryz.func100, Tryz.ntmps100
    go_wp2
    go_ret
    exact ⟨ret_bool hr.out.symm, rfl⟩
  case inr.inr.inr.inr.inl =>
    have hr := hid (show plainI x = true by unfold plainI; rw [decide_eq_true h1, decide_eq_true h2]; simp)
    have h3 : ¬ 97 ≤ x := by omega
    go_enter Tryz.func100, Tryz.ntmps100
    go_wp2
    go_ret
    exact ⟨ret_bool hr.out.symm, rfl⟩
  case inr.inr.inr.inr.inr.inl =>
    obtain ⟨g1, g2, g3, g4, g5⟩ := plain_far (x := x) (by omega)
    have hr := hid (show plainI x = false by unfold plainI; rw [decide_eq_false (p := 97 ≤ x) (by omega), decide_eq_false (p := x ≤ 90) (by omega), decide_eq_false (p := x ≤ 57) (by omega), g1, g2, g3, g4, g5]; simp)
    have h3 : ¬ 97 ≤ x := by omega
    have h4 : 65 ≤ x := by omega
    have h7 : ¬ x ≤ 90 := by omega
    have h5 : 48 ≤ x := by omega
    have h6 : ¬ x ≤ 57 := by omega
    go_enter Tryz.func100, Tryz.ntmps100
    go_wp2
    go_ret
    exact ⟨ret_bool hr.out.symm, rfl⟩
  case inr.inr.inr.inr.inr.inr.inl =>
    have hr := hid (show plainI x = true by unfold plainI; rw [decide_eq_true h1, decide_eq_true h2]; simp)
    go_enter Tryz.func100, Tryz.ntmps100
    go_wp2
    go_ret
    exact ⟨ret_bool hr.out.symm, rfl⟩
  case inr.inr.inr.inr.inr.inr.inr =>
    obtain ⟨g1, g2, g3, g4, g5⟩ := plain_far (x := x) (by omega)
    have hr := hid (show plainI x = false by unfold plainI; rw [decide_eq_false (p := x ≤ 122) (by omega), decide_eq_false (p := x ≤ 90) (by omega), decide_eq_false (p := x ≤ 57) (by omega), g1, g2, g3, g4, g5]; simp)
    have h3 : 97 ≤ x := by omega
    have h8 : ¬ x ≤ 122 := by omega
    have h4 : 65 ≤ x := by omega
    have h7 : ¬ x ≤ 90 := by omega
    have h5 : 48 ≤ x := by omega
    have h6 : ¬ x ≤ 57 := by omega
    go_enter Tryz.func100, Tryz.ntmps100
    go_wp2
    go_ret
    exact ⟨ret_bool hr.out.symm, rfl⟩
theorem rplain_any (x : Int) (w : World) : Calls Tryz.prog 61 #[.int .u8 x] w fun e w' => e = .returned (.bool (plainI x)) ∧ w = w' := by
  rcases plain_cases x with (rfl | rfl | rfl | rfl | rfl) | ⟨h1, g1, g2, g3, g4, g5⟩ | ⟨h1, h2⟩ | ⟨h1, h2⟩ | ⟨h1, h2⟩ | ⟨h1, h2⟩ | ⟨h1, h2⟩ | h1
  case inl.inl | inl.inr.inl | inl.inr.inr.inl | inl.inr.inr.inr.inl | inl.inr.inr.inr.inr =>
    go_enter Tryz.func61, Tryz.ntmps61
    go_wp2
    go_ret
    exact ⟨rfl, rfl⟩
  case inr.inl =>
    have hr := hid (show plainI x = false by unfold plainI; rw [decide_eq_false (p := 97 ≤ x) (by omega), decide_eq_false (p := 65 ≤ x) (by omega), decide_eq_false (p := 48 ≤ x) (by omega), g1, g2, g3, g4, g5]; rfl)
    go_enter Tryz.func61, Tryz.ntmps61
    go_wp2
    go_ret
    exact ⟨ret_bool hr.out.symm, rfl⟩
  case inr.inr.inl =>
    have hr := hid (show plainI x = true by unfold plainI; rw [decide_eq_true h1, decide_eq_true h2]; simp)
    have h3 : ¬ 97 ≤ x := by omega
    have h4 : ¬ 65 ≤ x := by omega
    go_enter Tryz.func61, Tryz.ntmps61
    go_wp2
    go_ret
    exact ⟨ret_bool hr.out.symm, rfl⟩
  case inr.inr.inr.inl =>
    obtain ⟨g1, g2, g3, g4, g5⟩ := plain_far h1
    have hr := hid (show plainI x = false by unfold plainI; rw [decide_eq_false (p := 97 ≤ x) (by omega), decide_eq_false (p := 65 ≤ x) (by omega), decide_eq_false (p := x ≤ 57) (by omega), g1, g2, g3, g4, g5]; simp)
    have h3 : ¬ 97 ≤ x := by omega
    have h4 : ¬ 65 ≤ x := by omega
    have h5 : 48 ≤ x := by omega
    have h6 : ¬ x ≤ 57 := by omega
    go_enter Tryz.func61, Tryz.ntmps61
    go_wp2
    go_ret
    exact ⟨ret_bool hr.out.symm, rfl⟩
  case inr.inr.inr.inr.inl =>
    have hr := hid (show plainI x = true by unfold plainI; rw [decide_eq_true h1, decide_eq_true h2]; simp)
    have h3 : ¬ 97 ≤ x := by omega
    go_enter Tryz.func61, Tryz.ntmps61
    go_wp2
    go_ret
    exact ⟨ret_bool hr.out.symm, rfl⟩
  case inr.inr.inr.inr.inr.inl =>
    obtain ⟨g1, g2, g3, g4, g5⟩ := plain_far (x := x) (by omega)
    have hr := hid (show plainI x = false by unfold plainI; rw [decide_eq_false (p := 97 ≤ x) (by omega), decide_eq_false (p := x ≤ 90) (by omega), decide_eq_false (p := x ≤ 57) (by omega), g1, g2, g3, g4, g5]; simp)
    have h3 : ¬ 97 ≤ x := by omega
    have h4 : 65 ≤ x := by omega
    have h7 : ¬ x ≤ 90 := by omega
    have h5 : 48 ≤ x := by omega
    have h6 : ¬ x ≤ 57 := by omega
    go_enter Tryz.func61, Tryz.ntmps61
    go_wp2
    go_ret
    exact ⟨ret_bool hr.out.symm, rfl⟩
  case inr.inr.inr.inr.inr.inr.inl =>
    have hr := hid (show plainI x = true by unfold plainI; rw [decide_eq_true h1, decide_eq_true h2]; simp)
    go_enter Tryz.func61, Tryz.ntmps61
    go_wp2
    go_ret
    exact ⟨ret_bool hr.out.symm, rfl⟩
  case inr.inr.inr.inr.inr.inr.inr =>
    obtain ⟨g1, g2, g3, g4, g5⟩ := plain_far (x := x) (by omega)
    have hr := hid (show plainI x = false by unfold plainI; rw [decide_eq_false (p := x ≤ 122) (by omega), decide_eq_false (p := x ≤ 90) (by omega), decide_eq_false (p := x ≤ 57) (by omega), g1, g2, g3, g4, g5]; simp)
    have h3 : 97 ≤ x := by omega
    have h8 : ¬ x ≤ 122 := by omega
    have h4 : 65 ≤ x := by omega
    have h7 : ¬ x ≤ 90 := by omega
    have h5 : 48 ≤ x := by omega
    have h6 : ¬ x ≤ 57 := by omega
    go_enter Tryz.func61, Tryz.ntmps61
    go_wp2
    go_ret
    exact ⟨ret_bool hr.out.symm, rfl⟩
end Go.Proofs.YtahbhhenobehfaaGreatDoor
