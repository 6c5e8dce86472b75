/-
  The walks of write and Text of package term.
-/
import Derived.Test.YtahbhhenobehfaaGreatDoorT1
import Derived.Test.YtahbhhenobehfaaGreatDoorT7
import Derived.Test.YtahbhhenobehfaaGreatDoorTText
namespace Go.Proofs.YtahbhhenobehfaaGreatDoor
open Go.ChangeShapes Go.WideShapes Go.ChangeAt Go.RowKit

theorem kept_set {B b : Nat} {a w : World} (h : Kept B b a w) (hB : B ≤ w.heap.size) (o : Obj) : Kept B b a (w.alloc o) := h.alloc hB o
set_option maxRecDepth 20000 in
set_option maxHeartbeats 8000000 in
theorem write_any : ∀ (K : Nat) (n : ByteArray) (ad : Option Addr) (m cap : Nat) (l : List Tm) (B b : Nat) (bs : List UInt8) (wB w : World), tmH (.mk n l) ≤ K → n.size ≤ maxLen → wB.heap.size ≤ B → TmsAt wB ad m cap l → Below B wB w →
    Bld B b bs w → B ≤ w.heap.size → bs.length + (textL (.mk n l)).length ≤ 100000000 →
    Calls Tryz.prog 129 #[.pointer (some ⟨b, 0, none⟩), .agg #[.string n, .slice ad m cap]] w fun e w' => e = .returned (.tuple #[]) ∧ Bld B b (bs ++ textL (.mk n l)) w' ∧ Kept B b w w'
  | 0, n, ad, m, cap, l, B, b, bs, wB, w, hK, hn, hwB, h, hbB, hb, hBw, hlen => by simp [tmH] at hK
  | K + 1, n, ad, m, cap, l, B, b, bs, wB, w, hK, hn, hwB, h, hbB, hb, hBw, hlen => by
    have ih := hid (write_any K)
    have HK := hid hK
    have Hlen := hid hlen
    have hl := hid h.len
    have hle := h.le
    have hmx := h.max
    clear hK hlen
    have k0 : Kept B b w (w.alloc (.cells #[.string n, .slice ad m cap] 76)) := (Kept.refl B b w).alloc hBw _
    have hb0 := hb.alloc (.cells #[.string n, .slice ad m cap] 76)
    have H0 : Has (w.alloc (.cells #[.string n, .slice ad m cap] 76)) w.heap.size #[.string n, .slice ad m cap] 76 := Has.new _ _ _
    have hbl := hb.lt
    have hbne : w.heap.size ≠ b := by omega
    have hn2 : n.data.toList.length ≤ (textL (.mk n l)).length := by
      by_cases e : 0 < l.length
      · rw [textL_node n l e]; simp
      · obtain rfl : l = [] := List.eq_nil_of_length_eq_zero (by omega)
        rw [textL_leaf]; exact Nat.le_refl _
    have Hn2 := hid hn2
    clear hn2
    go_enter Tryz.func129, Tryz.ntmps129
    go_wp2_with fail
    refine (Bld.str n hb0 (by have h1 := Hlen.out; have h2 := Hn2.out; rw [blen] at h2; omega) (by simp; omega)).mono ?_
    rintro e w1 ⟨rfl, hb1, k1'⟩
    have k1 := k0.trans k1'
    have H1 := H0.kept k1' hbne (by decide)
    have B1 := k1.below.size
    clear k0 k1' H0 hb0 hb
    have c1 : w1.cell? ⟨w.heap.size, 1, none⟩ = some (.slice ad m cap) := H1.cell (j := 1) rfl
    by_cases h0 : m = 0
    · subst h0
      obtain rfl : l = [] := List.eq_nil_of_length_eq_zero hl.out
      have hb1' : Bld B b (bs ++ textL (.mk n [])) w1 := by rw [textL_leaf]; exact hb1
      clear hb1
      go_wp2
      refine bodyPost_ret (results_none rfl _ _ _) rfl ?_
      exact ⟨rfl, hb1', k1⟩
    have hm0 : (0 : Int) < m := by omega
    have hmz : ((m : Int) == 0) = false := by simp; omega
    have hT := hid (textL_node n l (by rw [hl.out]; omega))
    have hz1 : B ≤ w1.heap.size := by omega
    obtain ⟨J, eJ⟩ : ∃ J, J = l.map textL := ⟨_, rfl⟩
    have hJl := hid (show J.length = m by rw [eJ, List.length_map]; exact hl.out)
    have hJk := hid (show ∀ k (hk : k < l.length), J.getD k [] = textL l[k] from fun k hk => by rw [eJ, List.getD_eq_getElem?_getD, List.getElem?_map, List.getElem?_eq_getElem hk]; rfl)
    have hT2 := hid (show bs ++ textL (.mk n l) = ((bs ++ n.data.toList) ++ [40]) ++ Lib.join J [44] ++ [41] by rw [hT.out, eJ]; simp)
    have hLen2 := hid (show ((bs ++ n.data.toList) ++ [40]).length + (Lib.join J [44]).length + 1 ≤ 100000000 by
      have h1 := Hlen.out
      rw [← List.length_append, hT2.out] at h1
      simp only [List.length_append, List.length_cons, List.length_nil] at h1 ⊢
      omega)
    clear eJ hT Hlen Hn2
    go_wp2_with fail
    refine (Bld.byte (40 : UInt8) hb1 (by have := hLen2.out; simp only [List.length_append, List.length_cons, List.length_nil] at this ⊢; omega) hz1).mono ?_
    rintro e w2 ⟨rfl, hb2, k2'⟩
    have k2 := k1.trans k2'
    have H2 := H1.kept k2' hbne (by decide)
    have B2 := k2.below.size
    obtain ⟨P, eP⟩ : ∃ P, P = (bs ++ n.data.toList) ++ [40] := ⟨_, rfl⟩
    have eP2 : P = (bs ++ n.data.toList) ++ [(40 : UInt8)] := eP
    rw [← eP2] at hb2
    rw [← eP] at hT2 hLen2
    clear eP eP2 k1 k2' H1 hb1 c1 hz1
    have hz2 : B ≤ w2.heap.size := by omega
    have hbs2 : w.heap.size < w2.heap.size := H2.lt
    have c2 : w2.cell? ⟨w.heap.size, 1, none⟩ = some (.slice ad m cap) := H2.cell (j := 1) rfl
    go_wp2
    go_loopw [19] (fun i wr => ∃ k : Nat, k ≤ m ∧ i = .int .i64 k ∧ Bld B b (P ++ Lib.join (J.take k) [44]) wr ∧ Kept B b w2 wr) (fun i _ => m - (intOf i).toNat)
    case atStart => exact ⟨0, Nat.zero_le _, rfl, by rw [List.take_zero, Lib.join_nil, List.append_nil]; exact hb2, Kept.refl _ _ _⟩
    case round =>
      clear hb2 c2
      obtain ⟨k, hk, rfl, hbk, kk⟩ := hrel
      have kT := k2.trans kk
      have bT := hbB.trans kT.below
      have bS := kT.below.size
      have hzr : B ≤ wr.heap.size := by omega
      by_cases hlt : k < m
      · have hw := h.below bT hwB
        obtain ⟨b', o', rfl⟩ := hw.head (by omega)
        obtain ⟨n2, l2, ad2, m2, cap2, et, hn2, d0, d1, h2⟩ := h.at'' bT hwB k (by rw [hl.out]; exact hlt)
        have hk0 : (0 : Int) ≤ k := by omega
        have hkn : (k : Int) < m := by omega
        have htm := hid (tmH_arg HK.out k (by rw [hl.out]; exact hlt))
        have hJ2 := hid (hJk.out k (by rw [hl.out]; exact hlt))
        rw [et] at htm hJ2
        have hbW := hbk.alloc (.cells #[.string n2, .slice ad2 m2 cap2] 76)
        have kW : Kept B b wr (wr.alloc (.cells #[.string n2, .slice ad2 m2 cap2] 76)) := (Kept.refl B b wr).alloc hzr _
        have HW : Has (wr.alloc (.cells #[.string n2, .slice ad2 m2 cap2] 76)) wr.heap.size #[.string n2, .slice ad2 m2 cap2] 76 := Has.new _ _ _
        have hbr := hbk.lt
        have hbnr : wr.heap.size ≠ b := by omega
        have hjle := hid (join_take_le [44] J (k + 1))
        clear et hw
        by_cases hk1 : k = 0
        · have hjs := hid (show Lib.join (J.take (k + 1)) [44] = Lib.join (J.take k) [44] ++ textL (.mk n2 l2) by
            subst hk1
            rw [List.take_zero, Lib.join_nil, List.nil_append, join_take_zero [44] J (by rw [hJl.out]; omega), ← hJ2.out, List.getD_eq_getElem?_getD, List.getElem?_eq_getElem (by rw [hJl.out]; omega)]; rfl)
          have hkg : ¬ (0 : Int) < k := by omega
          have hlenW := hid (show (P ++ Lib.join (J.take k) [44]).length + (textL (.mk n2 l2)).length ≤ 100000000 by
            have h1 := hLen2.out
            have h2 := hjle.out
            have h3 := congrArg List.length hjs.out
            simp only [List.length_append] at h3 ⊢
            omega)
          clear hk1
          go_wp2_with fail
          refine (ih.out n2 ad2 m2 cap2 l2 B b _ wB _ htm.out hn2 hwB h2 (bT.trans kW.below) hbW (by simp; omega) hlenW.out).mono ?_
          rintro e w4 ⟨rfl, hb4, k4⟩
          rw [List.append_assoc, ← hjs.out] at hb4
          have kE := kk.trans (kW.trans k4)
          clear h2 hbW kW HW hbk kk kT bT
          go_wp2
          go_roundw
          case rel => exact ⟨k + 1, by omega, by go_num, hb4, kE⟩
          case measure => simp [intOf]; omega
        · have hjs := hid (show Lib.join (J.take (k + 1)) [44] = (Lib.join (J.take k) [44] ++ [44]) ++ textL (.mk n2 l2) by
            rw [join_take_succ [44] J k (by rw [hJl.out]; omega) (by omega), ← hJ2.out, List.getD_eq_getElem?_getD, List.getElem?_eq_getElem (by rw [hJl.out]; omega)]; rfl)
          have hkg : (0 : Int) < k := by omega
          have hlenW := hid (show ((P ++ Lib.join (J.take k) [44]) ++ [44]).length + (textL (.mk n2 l2)).length ≤ 100000000 by
            have h1 := hLen2.out
            have h2 := hjle.out
            have h3 := congrArg List.length hjs.out
            simp only [List.length_append] at h3 ⊢
            omega)
          clear hk1
          go_wp2_with fail
          refine (Bld.byte (44 : UInt8) hbW (by have := hlenW.out; simp only [List.length_append, List.length_cons, List.length_nil] at this ⊢; omega) (by simp; omega)).mono ?_
          rintro e w3 ⟨rfl, hb3, k3'⟩
          have k3 := kW.trans k3'
          have H3 := HW.kept k3' hbnr (by decide)
          have B3 := k3.below.size
          have e0 : w3.cell? ⟨wr.heap.size, 0, none⟩ = some (.string n2) := H3.cell (j := 0) rfl
          have e1 : w3.cell? ⟨wr.heap.size, 1, none⟩ = some (.slice ad2 m2 cap2) := H3.cell (j := 1) rfl
          clear hbW kW HW k3' H3 hbk
          go_wp2_with fail
          refine (ih.out n2 ad2 m2 cap2 l2 B b _ wB _ htm.out hn2 hwB h2 (bT.trans k3.below) hb3 (by omega) hlenW.out).mono ?_
          rintro e w4 ⟨rfl, hb4, k4⟩
          rw [List.append_assoc, List.append_assoc, ← List.append_assoc (Lib.join (J.take k) [44]), ← hjs.out] at hb4
          have kE := kk.trans (k3.trans k4)
          clear h2 hb3 k3 kk kT bT
          go_wp2
          go_roundw
          case rel => exact ⟨k + 1, by omega, by go_num, hb4, kE⟩
          case measure => simp [intOf]; omega
      · obtain rfl : k = m := by omega
        rw [List.take_of_length_le (by rw [hJl.out]; exact Nat.le_refl _)] at hbk
        go_wp2_with fail
        refine (Bld.byte (41 : UInt8) hbk (by have := hLen2.out; rw [List.length_append]; omega) (by omega)).mono ?_
        rintro e w3 ⟨rfl, hb3, k3⟩
        have hF : Bld B b (bs ++ textL (.mk n l)) w3 := by rw [hT2.out]; exact hb3
        have kE := kT.trans k3
        clear hb3 k3 kT
        go_wp2
        go_end0
        exact ⟨rfl, hF, kE⟩
set_option maxHeartbeats 1000000 in
theorem ttext_any (n : ByteArray) (ad : Option Addr) (m cap : Nat) (l : List Tm) (w : World) (hn : n.size ≤ maxLen) (h : TmsAt w ad m cap l) (hlen : (textL (.mk n l)).length ≤ 100000000) :
    Calls Tryz.prog 102 #[.agg #[.string n, .slice ad m cap]] w fun e w' => e = .returned (.string ⟨(textL (.mk n l)).toArray⟩) ∧ Below w.heap.size w w' := by
  have b0 : Below w.heap.size w (w.alloc (.cells #[.string n, .slice ad m cap] 76)) := (Below.refl _ _).alloc (Nat.le_refl _) _
  have hF := Bld.fresh (B := w.heap.size) (w.alloc (.cells #[.string n, .slice ad m cap] 76)) (by simp)
  have b1 : Below w.heap.size w ((w.alloc (.cells #[.string n, .slice ad m cap] 76)).alloc (.cells #[.pointer none, .slice none 0 0] 123)) := b0.alloc b0.size _
  have Hlen := hid hlen
  clear hlen
  rw [World.size_alloc] at hF
  go_enter Tryz.func102, Tryz.ntmps102
  go_wp2_with fail
  refine (write_any (tmH (.mk n l)) n ad m cap l w.heap.size (w.heap.size + 1) [] w _ (Nat.le_refl _) hn (Nat.le_refl _) h b1 hF b1.size (by have := Hlen.out; simpa using this)).mono ?_
  rintro e w1 ⟨rfl, hb, kk⟩
  have b2 := b1.trans kk.below
  rw [List.nil_append] at hb
  clear hF b0 b1 kk
  go_wp2_with fail
  refine (hb.text b2.size).mono ?_
  rintro e w2 ⟨rfl, k2⟩
  have b3 := b2.trans k2.below
  clear hb b2 k2
  go_wp2
  go_ret
  exact ⟨rfl, b3⟩
end Go.Proofs.YtahbhhenobehfaaGreatDoor
