/-
  The library's contracts of strings.Builder, at this program: WriteByte, WriteString, String.
  The walks of write and Text of package term.
-/
import Derived.Test.YtahbhhenobehfaaGreatDoorRows
import Derived.Shelf.Strings.Builder1
import Derived.Shelf.Strings.Builder2
import Derived.Shelf.Strings.BuilderK
import Derived.Test.YtahbhhenobehfaaGreatDoorM1
import Derived.Test.YtahbhhenobehfaaGreatDoorShelf
import Derived.KernelRfl
import Derived.Test.YtahbhhenobehfaaGreatDoorM10
import Derived.Test.YtahbhhenobehfaaGreatDoorM9
namespace Go.Proofs.YtahbhhenobehfaaGreatDoor
open Go.Shelf Go.RowKit Go.Proofs

/-- Which function and type of this program is meant by a number of the library's. -/
def bren : Ren where
  f := fun n => match n with
    | 166 => 96
    | 167 => 101
    | 240 => 122
    | 276 => 156
    | n => n
  t := fun n => match n with
    | 0 => 0
    | 3 => 3
    | 4 => 4
    | 5 => 5
    | 9 => 9
    | 20 => 20
    | 37 => 65
    | 70 => 121
    | 72 => 123
    | 75 => 104
    | 80 => 51
    | 164 => 172
    | n => n
  g := fun n => n
theorem lays167 : Lays.n167 Tryz.prog bren where
  mixed := by kernel_rfl
  f167 := by kernel_rfl
  f240 := by kernel_rfl
  f276 := by kernel_rfl
  t0 := by kernel_rfl
  a0 := fun _ => by kernel_rfl
  z0 := fun _ => by kernel_rfl
  v0 := fun _ => by kernel_rfl
  t4 := by kernel_rfl
  a4 := fun _ => by kernel_rfl
  z4 := fun _ => by kernel_rfl
  v4 := fun _ => by kernel_rfl
  t5 := by kernel_rfl
  a5 := fun _ => by kernel_rfl
  z5 := fun _ => by kernel_rfl
  v5 := fun _ => by kernel_rfl
  t9 := by kernel_rfl
  a9 := fun _ => by kernel_rfl
  z9 := fun _ => by kernel_rfl
  v9 := fun _ => by kernel_rfl
  t20 := by kernel_rfl
  a20 := fun _ => by kernel_rfl
  z20 := fun _ => by kernel_rfl
  v20 := fun _ => by kernel_rfl
  t37 := by kernel_rfl
  a37 := fun _ => by kernel_rfl
  z37 := fun _ => by kernel_rfl
  v37 := fun _ => by kernel_rfl
  t70 := by kernel_rfl
  a70 := fun _ => by kernel_rfl
  z70 := fun _ => by kernel_rfl
  v70 := fun _ => by kernel_rfl
  t72 := by kernel_rfl
  a72 := fun _ => by kernel_rfl
  z72 := fun _ => by kernel_rfl
  v72 := fun _ => by kernel_rfl
  t75 := by kernel_rfl
  a75 := fun _ => by kernel_rfl
  z75 := fun _ => by kernel_rfl
  v75 := fun _ => by kernel_rfl
  t164 := by kernel_rfl
  a164 := fun _ => by kernel_rfl
  z164 := fun _ => by kernel_rfl
  v164 := fun _ => by kernel_rfl
theorem lays166 : Lays.n166 Tryz.prog bren where
  mixed := by kernel_rfl
  f166 := by kernel_rfl
  f240 := by kernel_rfl
  f276 := by kernel_rfl
  t0 := by kernel_rfl
  a0 := fun _ => by kernel_rfl
  z0 := fun _ => by kernel_rfl
  v0 := fun _ => by kernel_rfl
  t3 := by kernel_rfl
  a3 := fun _ => by kernel_rfl
  z3 := fun _ => by kernel_rfl
  v3 := fun _ => by kernel_rfl
  t4 := by kernel_rfl
  a4 := fun _ => by kernel_rfl
  z4 := fun _ => by kernel_rfl
  v4 := fun _ => by kernel_rfl
  t9 := by kernel_rfl
  a9 := fun _ => by kernel_rfl
  z9 := fun _ => by kernel_rfl
  v9 := fun _ => by kernel_rfl
  t20 := by kernel_rfl
  a20 := fun _ => by kernel_rfl
  z20 := fun _ => by kernel_rfl
  v20 := fun _ => by kernel_rfl
  t37 := by kernel_rfl
  a37 := fun _ => by kernel_rfl
  z37 := fun _ => by kernel_rfl
  v37 := fun _ => by kernel_rfl
  t70 := by kernel_rfl
  a70 := fun _ => by kernel_rfl
  z70 := fun _ => by kernel_rfl
  v70 := fun _ => by kernel_rfl
  t72 := by kernel_rfl
  a72 := fun _ => by kernel_rfl
  z72 := fun _ => by kernel_rfl
  v72 := fun _ => by kernel_rfl
  t75 := by kernel_rfl
  a75 := fun _ => by kernel_rfl
  z75 := fun _ => by kernel_rfl
  v75 := fun _ => by kernel_rfl
  t164 := by kernel_rfl
  a164 := fun _ => by kernel_rfl
  z164 := fun _ => by kernel_rfl
  v164 := fun _ => by kernel_rfl
theorem bextra : Builder.Extra Tryz.prog bren where
  sizeBuilder := by kernel_rfl
  liesBuilder := by kernel_rfl
  t5 := by kernel_rfl
  a5 := fun _ => by kernel_rfl
  z5 := fun _ => by kernel_rfl
  v5 := fun _ => by kernel_rfl
  infoByte := by kernel_rfl
  cellsByte := by kernel_rfl
  sizeByte := by kernel_rfl
  neB5 := by decide
theorem wbyte_any (B b : Nat) (bs : List Value) (c : Int) (w : World) (h : Lib.IsBuilder 123 5 B b bs w) (hlen : bs.length + 1 ≤ 140737488355328) (hBw : B ≤ w.heap.size) :
    Calls Tryz.prog 101 #[.pointer (some ⟨b, 0, none⟩), .int .u8 c] w fun e w' => e = .returned .nilIface ∧ (Lib.BuilderAt 123 5 B b (.pointer (some ⟨b, 0, none⟩)) (bs ++ [.int .u8 c]) w' ∧ Below B w w') :=
  Any.Builder_WriteByte lays167 bextra B b bs c w h hlen hBw
theorem wstring_any (B b : Nat) (bs : List Value) (s : ByteArray) (w : World) (h : Lib.IsBuilder 123 5 B b bs w) (hlen : bs.length + s.size ≤ 140737488355328) (hBw : B ≤ w.heap.size) :
    Calls Tryz.prog 96 #[.pointer (some ⟨b, 0, none⟩), .string s] w fun e w' => e = .returned (.tuple #[.int .i64 s.size, .nilIface]) ∧ (Lib.BuilderAt 123 5 B b (.pointer (some ⟨b, 0, none⟩)) (bs ++ Lib.strCells s) w' ∧ Below B w w') :=
  Any.Builder_WriteString lays166 bextra B b bs s w h hlen hBw

/-- A builder of the call's own, in block b ≥ B, that holds the bytes l. -/
def Bld (B b : Nat) (l : List UInt8) (w : World) : Prop := Lib.IsBuilderF 123 5 B b (Lib.byteCells l) w
/-- What writing into the builder b leaves alone: blocks below B, and all that is no row of bytes. -/
structure Kept (B b : Nat) (w w' : World) : Prop where
  below : Below B w w'
  others : Lib.OthersKept 5 (some b) w w'
namespace Kept
variable {B b : Nat} {a w w' : World}
theorem refl (B b : Nat) (w : World) : Kept B b w w := ⟨Below.refl _ _, Lib.OthersKept.refl _ _ _⟩
theorem trans (h : Kept B b a w) (k : Kept B b w w') : Kept B b a w' := ⟨h.below.trans k.below, h.others.trans k.others⟩
theorem drew (h : Kept B b a w) : Kept B b a w.drew := ⟨h.below.drew, h.others.drew⟩
theorem alloc (h : Kept B b a w) (hB : B ≤ w.heap.size) (o : Obj) : Kept B b a (w.alloc o) := ⟨h.below.alloc hB o, h.others.alloc o⟩
end Kept
theorem Has.kept {B b k : Nat} {w w' : World} {vs : Array Value} {T : TypeId} (h : Has w k vs T) (hk : Kept B b w w') (hb : k ≠ b) (hT : T ≠ 5) : Has w' k vs T :=
  hk.others k _ h (fun e => hb (Option.some.inj e)) (fun c fz e => by injection e with _ e2 _; exact hT e2)
theorem Bld.alloc {B b : Nat} {l : List UInt8} {w : World} (h : Bld B b l w) (o : Obj) : Bld B b l (w.alloc o) := Lib.IsBuilderF.alloc h o
theorem Bld.lt {B b : Nat} {l : List UInt8} {w : World} (h : Bld B b l w) : b < w.heap.size := by
  rcases h with h | h <;> exact h.lt
theorem Bld.fresh {B : Nat} (w : World) (hB : B ≤ w.heap.size) : Bld B w.heap.size [] (w.alloc (.cells #[.pointer none, .slice none 0 0] 123)) :=
  Or.inl ⟨hB, .slice none 0 0, Has.new w _ _, World.ownsRowF_nil _ _ _ _, by simp [Value.ownBlock]⟩
theorem Bld.byte {B b : Nat} {l : List UInt8} (c : UInt8) {w : World} (h : Bld B b l w) (hlen : l.length + 1 ≤ 140737488355328) (hBw : B ≤ w.heap.size) :
    Calls Tryz.prog 101 #[.pointer (some ⟨b, 0, none⟩), .int .u8 c.toNat] w fun e w' => e = .returned .nilIface ∧ Bld B b (l ++ [c]) w' ∧ Kept B b w w' :=
  (Any.Builder_WriteByte_k lays167 bextra B b _ c.toNat w h (by simpa [Lib.byteCells] using hlen) hBw).mono fun e w' ⟨he, hb, h1, h2⟩ =>
    ⟨he, Or.inr (by have e2 : Lib.byteCells (l ++ [c]) = Lib.byteCells l ++ [.int .u8 c.toNat] := by simp [Lib.byteCells]
                    rw [e2]; exact hb), ⟨h1, h2⟩⟩
theorem Bld.str {B b : Nat} {l : List UInt8} (s : ByteArray) {w : World} (h : Bld B b l w) (hlen : l.length + s.size ≤ 140737488355328) (hBw : B ≤ w.heap.size) :
    Calls Tryz.prog 96 #[.pointer (some ⟨b, 0, none⟩), .string s] w fun e w' => e = .returned (.tuple #[.int .i64 s.size, .nilIface]) ∧ Bld B b (l ++ s.data.toList) w' ∧ Kept B b w w' :=
  (Any.Builder_WriteString_k lays166 bextra B b _ s w h (by simpa [Lib.byteCells] using hlen) hBw).mono fun e w' ⟨he, hb, h1, h2⟩ =>
    ⟨he, Or.inr (by have e2 : Lib.byteCells (l ++ s.data.toList) = Lib.byteCells l ++ Lib.strCells s := by simp [Lib.byteCells, Lib.strCells]
                    rw [e2]; exact hb), ⟨h1, h2⟩⟩
theorem Bld.text {B b : Nat} {l : List UInt8} {w : World} (h : Bld B b l w) (hBw : B ≤ w.heap.size) :
    Calls Tryz.prog 97 #[.pointer (some ⟨b, 0, none⟩)] w fun e w' => e = .returned (.string ⟨l.toArray⟩) ∧ Kept B b w w' :=
  (Tryz.Builder_String_any_k B b l w h hBw).mono fun _ _ ⟨he, _, h1, h2⟩ => ⟨he, h1, h2⟩
end Go.Proofs.YtahbhhenobehfaaGreatDoor
namespace Go.Proofs.YtahbhhenobehfaaGreatDoor
open Go.ChangeShapes Go.WideShapes Go.ChangeAt Go.RowKit

theorem kept_set {B b : Nat} {a w : World} (h : Kept B b a w) (hB : B ≤ w.heap.size) (o : Obj) : Kept B b a (w.alloc o) := h.alloc hB o
set_option maxRecDepth 20000 in
set_option maxHeartbeats 8000000 in
theorem write_any : ∀ (K : Nat) (n : ByteArray) (ad : Option Addr) (m cap : Nat) (l : List Tm) (B b : Nat) (bs : List UInt8) (wB w : World), tmH (.mk n l) ≤ K → n.size ≤ maxLen → wB.heap.size ≤ B → TmsAt wB ad m cap l → Below B wB w →
    Bld B b bs w → B ≤ w.heap.size → bs.length + (textL (.mk n l)).length ≤ 100000000 →
    Calls Tryz.prog 129 #[.pointer (some ⟨b, 0, none⟩), .agg #[.string n, .slice ad m cap]] w fun e w' => e = .returned (.tuple #[]) ∧ Bld B b (bs ++ textL (.mk n l)) w' ∧ Kept B b w w'
  | 0, n, ad, m, cap, l, B, b, bs, wB, w, hK, hn, hwB, h, hbB, hb, hBw, hlen => by simp [tmH] at hK
  | K + 1, n, ad, m, cap, l, B, b, bs, wB, w, hK, hn, hwB, h, hbB, hb, hBw, hlen => by
    have ih := hid (write_any K)
    have HK := hid hK
    have Hlen := hid hlen
    have hl := hid h.len
    have hle := h.le
    have hmx := h.max
    clear hK hlen
    have k0 : Kept B b w (w.alloc (.cells #[.string n, .slice ad m cap] 76)) := (Kept.refl B b w).alloc hBw _
    have hb0 := hb.alloc (.cells #[.string n, .slice ad m cap] 76)
    have H0 : Has (w.alloc (.cells #[.string n, .slice ad m cap] 76)) w.heap.size #[.string n, .slice ad m cap] 76 := Has.new _ _ _
    have hbl := hb.lt
    have hbne : w.heap.size ≠ b := by omega
    have hn2 : n.data.toList.length ≤ (textL (.mk n l)).length := by
      by_cases e : 0 < l.length
      · rw [textL_node n l e]; simp
      · obtain rfl : l = [] := List.eq_nil_of_length_eq_zero (by omega)
        rw [textL_leaf]; exact Nat.le_refl _
    have Hn2 := hid hn2
    clear hn2
    go_enter Tryz.func129, Tryz.ntmps129
    go_wp2_with fail
    refine (Bld.str n hb0 (by have h1 := Hlen.out; have h2 := Hn2.out; rw [blen] at h2; omega) (by simp; omega)).mono ?_
    rintro e w1 ⟨rfl, hb1, k1'⟩
    have k1 := k0.trans k1'
    have H1 := H0.kept k1' hbne (by decide)
    have B1 := k1.below.size
    clear k0 k1' H0 hb0 hb
    have c1 : w1.cell? ⟨w.heap.size, 1, none⟩ = some (.slice ad m cap) := H1.cell (j := 1) rfl
    by_cases h0 : m = 0
    · subst h0
      obtain rfl : l = [] := List.eq_nil_of_length_eq_zero hl.out
      have hb1' : Bld B b (bs ++ textL (.mk n [])) w1 := by rw [textL_leaf]; exact hb1
      clear hb1
      go_wp2
      refine bodyPost_ret (results_none rfl _ _ _) rfl ?_
      exact ⟨rfl, hb1', k1⟩
    have hm0 : (0 : Int) < m := by omega
    have hmz : ((m : Int) == 0) = false := by simp; omega
    have hT := hid (textL_node n l (by rw [hl.out]; omega))
    have hz1 : B ≤ w1.heap.size := by omega
    obtain ⟨J, eJ⟩ : ∃ J, J = l.map textL := ⟨_, rfl⟩
    have hJl := hid (show J.length = m by rw [eJ, List.length_map]; exact hl.out)
    have hJk := hid (show ∀ k (hk : k < l.length), J.getD k [] = textL l[k] from fun k hk => by rw [eJ, List.getD_eq_getElem?_getD, List.getElem?_map, List.getElem?_eq_getElem hk]; rfl)
    have hT2 := hid (show bs ++ textL (.mk n l) = ((bs ++ n.data.toList) ++ [40]) ++ Lib.join J [44] ++ [41] by rw [hT.out, eJ]; simp)
    have hLen2 := hid (show ((bs ++ n.data.toList) ++ [40]).length + (Lib.join J [44]).length + 1 ≤ 100000000 by
      have h1 := Hlen.out
      rw [← List.length_append, hT2.out] at h1
      simp only [List.length_append, List.length_cons, List.length_nil] at h1 ⊢
      omega)
    clear eJ hT Hlen Hn2
    go_wp2_with fail
    refine (Bld.byte (40 : UInt8) hb1 (by have := hLen2.out; simp only [List.length_append, List.length_cons, List.length_nil] at this ⊢; omega) hz1).mono ?_
    rintro e w2 ⟨rfl, hb2, k2'⟩
    have k2 := k1.trans k2'
    have H2 := H1.kept k2' hbne (by decide)
    have B2 := k2.below.size
    obtain ⟨P, eP⟩ : ∃ P, P = (bs ++ n.data.toList) ++ [40] := ⟨_, rfl⟩
    have eP2 : P = (bs ++ n.data.toList) ++ [(40 : UInt8)] := eP
    rw [← eP2] at hb2
    rw [← eP] at hT2 hLen2
    clear eP eP2 k1 k2' H1 hb1 c1 hz1
    have hz2 : B ≤ w2.heap.size := by omega
    have hbs2 : w.heap.size < w2.heap.size := H2.lt
    have c2 : w2.cell? ⟨w.heap.size, 1, none⟩ = some (.slice ad m cap) := H2.cell (j := 1) rfl
    go_wp2
    go_loopw [19] (fun i wr => ∃ k : Nat, k ≤ m ∧ i = .int .i64 k ∧ Bld B b (P ++ Lib.join (J.take k) [44]) wr ∧ Kept B b w2 wr) (fun i _ => m - (intOf i).toNat)
    case atStart => exact ⟨0, Nat.zero_le _, rfl, by rw [List.take_zero, Lib.join_nil, List.append_nil]; exact hb2, Kept.refl _ _ _⟩
    case round =>
      clear hb2 c2
      obtain ⟨k, hk, rfl, hbk, kk⟩ := hrel
      have kT := k2.trans kk
      have bT := hbB.trans kT.below
      have bS := kT.below.size
      have hzr : B ≤ wr.heap.size := by omega
      by_cases hlt : k < m
      · have hw := h.below bT hwB
        obtain ⟨b', o', rfl⟩ := hw.head (by omega)
        obtain ⟨n2, l2, ad2, m2, cap2, et, hn2, d0, d1, h2⟩ := h.at'' bT hwB k (by rw [hl.out]; exact hlt)
        have hk0 : (0 : Int) ≤ k := by omega
        have hkn : (k : Int) < m := by omega
        have htm := hid (tmH_arg HK.out k (by rw [hl.out]; exact hlt))
        have hJ2 := hid (hJk.out k (by rw [hl.out]; exact hlt))
        rw [et] at htm hJ2
        have hbW := hbk.alloc (.cells #[.string n2, .slice ad2 m2 cap2] 76)
        have kW : Kept B b wr (wr.alloc (.cells #[.string n2, .slice ad2 m2 cap2] 76)) := (Kept.refl B b wr).alloc hzr _
        have HW : Has (wr.alloc (.cells #[.string n2, .slice ad2 m2 cap2] 76)) wr.heap.size #[.string n2, .slice ad2 m2 cap2] 76 := Has.new _ _ _
        have hbr := hbk.lt
        have hbnr : wr.heap.size ≠ b := by omega
        have hjle := hid (join_take_le [44] J (k + 1))
        clear et hw
        by_cases hk1 : k = 0
        · have hjs := hid (show Lib.join (J.take (k + 1)) [44] = Lib.join (J.take k) [44] ++ textL (.mk n2 l2) by
            subst hk1
            rw [List.take_zero, Lib.join_nil, List.nil_append, join_take_zero [44] J (by rw [hJl.out]; omega), ← hJ2.out, List.getD_eq_getElem?_getD, List.getElem?_eq_getElem (by rw [hJl.out]; omega)]; rfl)
          have hkg : ¬ (0 : Int) < k := by omega
          have hlenW := hid (show (P ++ Lib.join (J.take k) [44]).length + (textL (.mk n2 l2)).length ≤ 100000000 by
            have h1 := hLen2.out
            have h2 := hjle.out
            have h3 := congrArg List.length hjs.out
            simp only [List.length_append] at h3 ⊢
            omega)
          clear hk1
          go_wp2_with fail
          refine (ih.out n2 ad2 m2 cap2 l2 B b _ wB _ htm.out hn2 hwB h2 (bT.trans kW.below) hbW (by simp; omega) hlenW.out).mono ?_
          rintro e w4 ⟨rfl, hb4, k4⟩
          rw [List.append_assoc, ← hjs.out] at hb4
          have kE := kk.trans (kW.trans k4)
          clear h2 hbW kW HW hbk kk kT bT
          go_wp2
          go_roundw
          case rel => exact ⟨k + 1, by omega, by go_num, hb4, kE⟩
          case measure => simp [intOf]; omega
        · have hjs := hid (show Lib.join (J.take (k + 1)) [44] = (Lib.join (J.take k) [44] ++ [44]) ++ textL (.mk n2 l2) by
            rw [join_take_succ [44] J k (by rw [hJl.out]; omega) (by omega), ← hJ2.out, List.getD_eq_getElem?_getD, List.getElem?_eq_getElem (by rw [hJl.out]; omega)]; rfl)
          have hkg : (0 : Int) < k := by omega
          have hlenW := hid (show ((P ++ Lib.join (J.take k) [44]) ++ [44]).length + (textL (.mk n2 l2)).length ≤ 100000000 by
            have h1 := hLen2.out
            have h2 := hjle.out
            have h3 := congrArg List.length hjs.out
            simp only [List.length_append] at h3 ⊢
            omega)
          clear hk1
          go_wp2_with fail
          refine (Bld.byte (44 : UInt8) hbW (by have := hlenW.out; simp only [List.length_append, List.length_cons, List.length_nil] at this ⊢; omega) (by simp; omega)).mono ?_
          rintro e w3 ⟨rfl, hb3, k3'⟩
          have k3 := kW.trans k3'
          have H3 := HW.kept k3' hbnr (by decide)
          have B3 := k3.below.size
          have e0 : w3.cell? ⟨wr.heap.size, 0, none⟩ = some (.string n2) := H3.cell (j := 0) rfl
          have e1 : w3.cell? ⟨wr.heap.size, 1, none⟩ = some (.slice ad2 m2 cap2) := H3.cell (j := 1) rfl
          clear hbW kW HW k3' H3 hbk
          go_wp2_with fail
          refine (ih.out n2 ad2 m2 cap2 l2 B b _ wB _ htm.out hn2 hwB h2 (bT.trans k3.below) hb3 (by omega) hlenW.out).mono ?_
          rintro e w4 ⟨rfl, hb4, k4⟩
          rw [List.append_assoc, List.append_assoc, ← List.append_assoc (Lib.join (J.take k) [44]), ← hjs.out] at hb4
          have kE := kk.trans (k3.trans k4)
          clear h2 hb3 k3 kk kT bT
          go_wp2
          go_roundw
          case rel => exact ⟨k + 1, by omega, by go_num, hb4, kE⟩
          case measure => simp [intOf]; omega
      · obtain rfl : k = m := by omega
        rw [List.take_of_length_le (by rw [hJl.out]; exact Nat.le_refl _)] at hbk
        go_wp2_with fail
        refine (Bld.byte (41 : UInt8) hbk (by have := hLen2.out; rw [List.length_append]; omega) (by omega)).mono ?_
        rintro e w3 ⟨rfl, hb3, k3⟩
        have hF : Bld B b (bs ++ textL (.mk n l)) w3 := by rw [hT2.out]; exact hb3
        have kE := kT.trans k3
        clear hb3 k3 kT
        go_wp2
        go_end0
        exact ⟨rfl, hF, kE⟩
set_option maxHeartbeats 1000000 in
theorem ttext_any (n : ByteArray) (ad : Option Addr) (m cap : Nat) (l : List Tm) (w : World) (hn : n.size ≤ maxLen) (h : TmsAt w ad m cap l) (hlen : (textL (.mk n l)).length ≤ 100000000) :
    Calls Tryz.prog 102 #[.agg #[.string n, .slice ad m cap]] w fun e w' => e = .returned (.string ⟨(textL (.mk n l)).toArray⟩) ∧ Below w.heap.size w w' := by
  have b0 : Below w.heap.size w (w.alloc (.cells #[.string n, .slice ad m cap] 76)) := (Below.refl _ _).alloc (Nat.le_refl _) _
  have hF := Bld.fresh (B := w.heap.size) (w.alloc (.cells #[.string n, .slice ad m cap] 76)) (by simp)
  have b1 : Below w.heap.size w ((w.alloc (.cells #[.string n, .slice ad m cap] 76)).alloc (.cells #[.pointer none, .slice none 0 0] 123)) := b0.alloc b0.size _
  have Hlen := hid hlen
  clear hlen
  rw [World.size_alloc] at hF
  go_enter Tryz.func102, Tryz.ntmps102
  go_wp2_with fail
  refine (write_any (tmH (.mk n l)) n ad m cap l w.heap.size (w.heap.size + 1) [] w _ (Nat.le_refl _) hn (Nat.le_refl _) h b1 hF b1.size (by have := Hlen.out; simpa using this)).mono ?_
  rintro e w1 ⟨rfl, hb, kk⟩
  have b2 := b1.trans kk.below
  rw [List.nil_append] at hb
  clear hF b0 b1 kk
  go_wp2_with fail
  refine (hb.text b2.size).mono ?_
  rintro e w2 ⟨rfl, k2⟩
  have b3 := b2.trans k2.below
  clear hb b2 k2
  go_wp2
  go_ret
  exact ⟨rfl, b3⟩
end Go.Proofs.YtahbhhenobehfaaGreatDoor
