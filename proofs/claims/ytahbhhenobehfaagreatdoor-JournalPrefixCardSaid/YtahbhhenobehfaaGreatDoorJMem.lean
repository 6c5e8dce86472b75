/-
  Bytes in memory: slices of bytes that read as a list; what append of a string onto a row of the call's own and the conversions between bytes and strings leave.
-/
import Derived.Test.YtahbhhenobehfaaGreatDoorRows
import Derived.Test.YtahbhhenobehfaaGreatDoorJPlain
import Derived.Test.YtahbhhenobehfaaGreatDoorHeap
import Derived.WalkKit
import Derived.Lib.AppendStr
import Derived.Laws.IdiomStrings
import Derived.Laws.BytesArg
import Derived.Deep.Draws
namespace Go.Proofs.YtahbhhenobehfaaGreatDoor
open Go.RowKit

/-- Bytes as cells. -/
def bcells (l : List UInt8) : List Value := l.map fun b => Value.int .u8 b.toNat
theorem bcells_length (l : List UInt8) : (bcells l).length = l.length := by simp [bcells]
theorem bcells_append (a b : List UInt8) : bcells (a ++ b) = bcells a ++ bcells b := by simp [bcells]
theorem bcells_str (s : ByteArray) : Lib.strCells s = bcells s.data.toList := rfl
theorem own_of_has {w : World} {g base n : Nat} {vs : Array Value} {e : TypeId} (h : Has w g vs e) (hb : base ≤ g) (hn : vs.size = n) (hm : n ≤ maxLen) :
    w.ownsRow base e 1 (.slice (some ⟨g, 0, none⟩) n n) n vs.toList :=
  ⟨by simp [hn], .inr ⟨g, n, vs, rfl, hb, h, Nat.le_refl _, hm, by omega, by rw [Nat.mul_one, ← hn, ← Array.length_toList]; exact List.take_length⟩⟩
/-- A string made of an owned row of bytes. -/
theorem back_of_own {w : World} {base n : Nat} {v : Value} {l : List UInt8} (h : w.ownsRow base 5 1 v n (bcells l)) (hn : 0 < n) :
    ∃ g cap, v = .slice (some ⟨g, 0, none⟩) n cap ∧ base ≤ g ∧ (convert 65 9 (.slice (some ⟨g, 0, none⟩) n cap)).run Tryz.prog w = .ok (.string ⟨l.toArray⟩) w := by
  have hl : l.length = n := by have := h.1; rw [bcells_length] at this; omega
  rcases h.2 with ⟨_, h0⟩ | ⟨g, cap, cur, rfl, hb, hh, _, _, _, _⟩
  · omega
  · refine ⟨g, cap, rfl, hb, ?_⟩
    have hc := h.cells (g := g) rfl
    rw [← hl]
    exact run_convert_bytes_back w 65 9 5 ⟨g, 0, none⟩ cap l Tryz.underlying65 Tryz.underlying5 Tryz.underlying9 fun j hj => hc j _ (by simp [bcells, hj])
theorem info_byte : (Tryz.prog.info? 5).map (fun i => (i.zero, i.size, i.bytes)) = some (some (.int .u8 0), 1, 1) := by kernel_rfl

/-- A slice of bytes that starts at ad reads as the list: nothing is said of an empty one's address. -/
def RowB (w : World) (ad : Option Addr) (l : List UInt8) : Prop := ∀ i, i < l.length → ∃ b o, ad = some ⟨b, o, none⟩ ∧ w.cell? ⟨b, o + i, none⟩ = some (.int .u8 (bt l i))
theorem RowB.below {w w' : World} {ad : Option Addr} {l : List UInt8} {B : Nat} (h : RowB w ad l) (hb : Below B w w') (hB : w.heap.size ≤ B) : RowB w' ad l := fun i hi => by
  obtain ⟨b, o, e, hc⟩ := h i hi
  exact ⟨b, o, e, (hb.cell (p := ⟨b, o + i, none⟩) (Nat.lt_of_lt_of_le (lt_of_cell hc) hB)).trans hc⟩
theorem RowB.only {w w' : World} {ad : Option Addr} {l : List UInt8} {x : List Nat} (h : RowB w ad l) (k : Only x w w') (hb : ∀ a, ad = some a → a.block ∉ x) : RowB w' ad l := fun i hi => by
  obtain ⟨b, o, e, hc⟩ := h i hi
  exact ⟨b, o, e, (World.cell?_of_block (w := w) (a := ⟨b, o + i, none⟩) (k.block b (lt_of_cell hc) (hb _ e))).trans hc⟩
theorem RowB.head {w : World} {ad : Option Addr} {l : List UInt8} (h : RowB w ad l) (hi : 0 < l.length) : ∃ b o, ad = some ⟨b, o, none⟩ := by
  obtain ⟨b', o', e, _⟩ := h 0 hi
  exact ⟨b', o', e⟩
theorem RowB.at {w : World} {b o : Nat} {l : List UInt8} (h : RowB w (some ⟨b, o, none⟩) l) (i : Nat) (hi : i < l.length) : w.cell? ⟨b, o + i, none⟩ = some (.int .u8 (bt l i)) := by
  obtain ⟨b', o', e, hc⟩ := h i hi
  cases e
  exact hc
theorem RowB.drewN {w : World} {ad : Option Addr} {l : List UInt8} (h : RowB (w.drewN 0) ad l) (k : Nat) : RowB (w.drewN k) ad l := h
theorem RowB.nil (w : World) (ad : Option Addr) : RowB w ad [] := fun i hi => by simp at hi
/-- A part of such a slice. -/
theorem RowB.part {w : World} {b o : Nat} {l : List UInt8} (h : RowB w (some ⟨b, o, none⟩) l) (k n : Nat) : RowB w (some ⟨b, o + k, none⟩) ((l.drop k).take n) := fun i hi => by
  simp only [List.length_take, List.length_drop] at hi
  refine ⟨b, o + k, rfl, ?_⟩
  have := h.at (k + i) (by omega)
  rw [Nat.add_assoc, this]
  congr 2
  unfold bt
  simp [List.getD, show i < n from by omega]
theorem RowB.drop {w : World} {b o : Nat} {l : List UInt8} (h : RowB w (some ⟨b, o, none⟩) l) (k : Nat) : RowB w (some ⟨b, o + k, none⟩) (l.drop k) := by
  have := h.part k (l.length - k)
  rwa [List.take_of_length_le (by simp)] at this
theorem RowB.convert {w : World} {ad : Option Addr} {l : List UInt8} {cap : Nat} (h : RowB w ad l) :
    (convert 65 9 (.slice ad l.length cap)).run Tryz.prog w = .ok (.string ⟨l.toArray⟩) w := by
  cases l with
  | nil =>
    cases ad with
    | none => exact run_convert_bytes_nil w 65 5 Tryz.underlying65 Tryz.underlying5 0 cap 9 Tryz.underlying9
    | some a =>
      have := run_convert_bytes_back (P := Tryz.prog) w 65 9 5 a cap [] Tryz.underlying65 Tryz.underlying5 Tryz.underlying9 (fun j hj => by simp at hj)
      exact this
  | cons x r =>
    obtain ⟨b, o, rfl⟩ := h.head (by simp)
    refine run_convert_bytes_back w 65 9 5 ⟨b, o, none⟩ cap (x :: r) Tryz.underlying65 Tryz.underlying5 Tryz.underlying9 fun j hj => ?_
    have hc := h.at j hj
    have e : (⟨b, o, none⟩ : Addr).add j = ⟨b, o + j, none⟩ := by unfold Addr.add; split <;> simp_all
    rw [e, hc]
    unfold bt
    rw [List.getD_eq_getElem?_getD, List.getElem?_eq_getElem hj]
    rfl
theorem RowB.ofOwn {w : World} {base n cap : Nat} {ad : Option Addr} {l : List UInt8} (h : w.ownsRow base 5 1 (.slice ad n cap) n (bcells l)) : RowB w ad l := fun i hi => by
  have hl : l.length = n := by have := h.1; rw [bcells_length] at this; omega
  rcases h.2 with ⟨_, h0⟩ | ⟨g, cap, cur, hv, hb, hh, _, _, _, _⟩
  · omega
  · injection hv with h1 h2 h3
    subst h1
    refine ⟨g, 0, rfl, ?_⟩
    have hc := h.cells (g := g) rfl i (.int .u8 (bt l i)) (by simp [bcells, hi, bt, List.getD])
    have e : (⟨g, 0, none⟩ : Addr).add i = ⟨g, 0 + i, none⟩ := by unfold Addr.add; split <;> simp_all
    rw [← e]
    exact hc
theorem slice_run (s : ByteArray) (a b : Nat) (A B : Int) (hA : A = (a : Int)) (hB : B = (b : Int)) (h1 : a ≤ b) (h2 : b ≤ s.size) (q : ByteArray) (hq : q = s.extract a b) (wx : World) :
    (Instr.slice 9 (.string s) (some (.int .i64 A)) (some (.int .i64 B)) none).run Tryz.prog wx = .ok (.string q) wx := by
  subst hA hB hq
  have := run_slice_string (P := Tryz.prog) wx 9 s .i64 .i64 (a : Int) (b : Int) Tryz.underlying9 (by omega) (by omega) (by omega)
  simpa using this
theorem extract_list (s : ByteArray) (a b : Nat) : (s.extract a b).data.toList = (s.data.toList.drop a).take (b - a) := by
  simp [ByteArray.data_extract, Array.toList_extract, List.extract_eq_take_drop]
theorem bsize (l : List UInt8) : (ByteArray.mk l.toArray).size = l.length := by simp [ByteArray.size]
/-- The head of a frame as the walk spells its cells. -/
def headV (L c : Int) : Array Value := #[.int .u8 (L / 256), .int .u8 (L % 256), .int .u8 (c / 16777216), .int .u8 (c / 65536 % 256), .int .u8 (c / 256 % 256), .int .u8 (c % 256)]
theorem headV_eq (l : List UInt8) (L c : Int) (hL : (l.length : Int) = L) (h : L < 65536) (hc : c = sum32 l) : (headV L c).toList = bcells (headL l) := by
  have hb := sum32_bd l
  subst hL hc
  unfold headV headL bcells
  simp only [List.map_cons, List.map_nil, byte_toNat]
  rw [show ((l.length : Int) / 256) % 256 = (l.length : Int) / 256 from by omega, show (sum32 l / 16777216) % 256 = sum32 l / 16777216 from by omega]
end Go.Proofs.YtahbhhenobehfaaGreatDoor
