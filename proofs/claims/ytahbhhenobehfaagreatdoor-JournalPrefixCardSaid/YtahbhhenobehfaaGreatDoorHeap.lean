/-
  Blocks of the call's own: 'Has w b vs T' says that block b of the world w is a block of cells vs of element type T, none of them frozen; how this is kept by new blocks, draws, stores, and by calls that leave old blocks alone ('Below'). No program in sight.
-/
import GoSem.Claim
import Derived.WalkKit
namespace Go.Proofs.YtahbhhenobehfaaGreatDoor
open Go.RowKit

theorem hid {p : Prop} (h : p) : Hid p := h
theorem ret_int {k : IntKind} {a b : Int} (h : a = b) : Ending.returned (.int k a) = .returned (.int k b) := by rw [h]

def Has (w : World) (b : Nat) (vs : Array Value) (T : TypeId) : Prop := w.heap[b]? = some (.cells vs T (0, 0))

namespace Has
variable {w w' : World} {b : Nat} {vs : Array Value} {T : TypeId}

theorem lt (h : Has w b vs T) : b < w.heap.size := lt_of_block h
theorem cell (h : Has w b vs T) {j : Nat} {v : Value} (hv : vs[j]? = some v) : w.cell? ⟨b, j, none⟩ = some v := by
  unfold Has at h; simp [World.cell?, h, hv]
theorem free (h : Has w b vs T) (j : Nat) : w.frozen? ⟨b, j, none⟩ = false := by
  unfold Has at h; simp [World.frozen?, h]
theorem new (w : World) (vs : Array Value) (T : TypeId) : Has (w.alloc (.cells vs T)) w.heap.size vs T := by
  show (w.heap.push _)[w.heap.size]? = _
  simp
theorem newAt {n : Nat} (hn : n = w.heap.size) : Has (w.alloc (.cells vs T)) n vs T := by
  subst hn; exact new _ _ _
theorem alloc (h : Has w b vs T) (o : Obj) : Has (w.alloc o) b vs T := by
  unfold Has; rw [Below.heap_alloc _ _ _ h.lt]; exact h
theorem drew (h : Has w b vs T) : Has w.drew b vs T := h
theorem other (h : Has w b vs T) {a : Addr} (ha : b ≠ a.block) (u : Value) : Has (w.setCell a u) b vs T := by
  unfold Has; rw [Below.heap_setCell _ _ _ _ ha]; exact h
theorem set (h : Has w b vs T) (j : Nat) (u : Value) : Has (w.setCell ⟨b, j, none⟩ u) b (vs.setIfInBounds j u) T := by
  have hlt := h.lt
  have h' : w.heap[b] = .cells vs T (0, 0) := by unfold Has at h; simpa [Array.getElem?_eq_getElem hlt] using h
  show (w.heap.modify b _)[b]? = _
  rw [Array.getElem?_eq_getElem (by simpa using hlt), Array.getElem_modify_self, h']
  rfl
theorem below {B : Nat} (h : Has w b vs T) (hb : Below B w w') (hB : b < B) : Has w' b vs T := by
  unfold Has; rw [hb.block b hB]; exact h
end Has
/-- A block of one cell, whatever it holds. -/
def Has1 (w : World) (b : Nat) (T : TypeId) : Prop := ∃ v, Has w b #[v] T
namespace Has1
variable {w w' : World} {b : Nat} {T : TypeId}
theorem of {v : Value} (h : Has w b #[v] T) : Has1 w b T := ⟨v, h⟩
theorem alloc (h : Has1 w b T) (o : Obj) : Has1 (w.alloc o) b T := ⟨_, h.choose_spec.alloc o⟩
theorem newAt {v : Value} {n : Nat} (hn : n = w.heap.size) : Has1 (w.alloc (.cells #[v] T)) n T := ⟨v, Has.newAt hn⟩
theorem drew (h : Has1 w b T) : Has1 w.drew b T := h
theorem set (h : Has1 w b T) (u : Value) : Has1 (w.setCell ⟨b, 0, none⟩ u) b T := ⟨u, h.choose_spec.set 0 u⟩
theorem other (h : Has1 w b T) {a : Addr} (ha : b ≠ a.block) (u : Value) : Has1 (w.setCell a u) b T := ⟨_, h.choose_spec.other ha u⟩
end Has1
namespace Has
variable {w w' : World} {b : Nat} {vs : Array Value} {T : TypeId}
/-- A block of one cell, behind a store into it. -/
theorem one (h : Has1 w b T) (u : Value) : Has (w.setCell ⟨b, 0, none⟩ u) b #[u] T := h.choose_spec.set 0 u
end Has

/-- A store outside what is looked at, for 'Below'. -/
theorem bset {B : Nat} {a w : World} (h : Below B a w) {b o : Nat} (hp : B ≤ b) (u : Value) : Below B a (w.setCell ⟨b, o, none⟩ u) := h.setCell (p := ⟨b, o, none⟩) hp u

/-- Of the blocks that w has, w' has changed at most those of the list l; new blocks may be there. -/
structure Only (l : List Nat) (w w' : World) : Prop where
  os : w'.os = w.os
  tape : w'.tape = w.tape
  output : w'.output = w.output
  size : w.heap.size ≤ w'.heap.size
  block : ∀ k, k < w.heap.size → k ∉ l → w'.heap[k]? = w.heap[k]?

namespace Only
variable {l : List Nat} {w a w' : World}
theorem refl (l : List Nat) (w : World) : Only l w w := ⟨rfl, rfl, rfl, Nat.le_refl _, fun _ _ _ => rfl⟩
theorem trans {l' : List Nat} {b : World} (h : Only l w a) (k : Only l' a b) (hl : ∀ x ∈ l', x ∈ l ∨ w.heap.size ≤ x) : Only l w b :=
  ⟨k.os.trans h.os, k.tape.trans h.tape, k.output.trans h.output, Nat.le_trans h.size k.size, fun i hi hn => (k.block i (Nat.lt_of_lt_of_le hi h.size) (fun hm => by
    rcases hl i hm with h' | h'
    · exact hn h'
    · omega)).trans (h.block i hi hn)⟩
theorem drew (h : Only l w a) : Only l w a.drew := ⟨h.os, h.tape, h.output, h.size, h.block⟩
theorem alloc (h : Only l w a) (o : Obj) : Only l w (a.alloc o) :=
  ⟨h.os, h.tape, h.output, by have := h.size; simp; omega, fun k hk hn => (Below.heap_alloc _ _ _ (Nat.lt_of_lt_of_le hk h.size)).trans (h.block k hk hn)⟩
theorem setNew (h : Only l w a) {b o : Nat} (hb : w.heap.size ≤ b) (u : Value) : Only l w (a.setCell ⟨b, o, none⟩ u) :=
  ⟨h.os, h.tape, h.output, by have := h.size; simp [World.setCell]; omega, fun k hk hn => (Below.heap_setCell _ _ _ _ (by simp; omega)).trans (h.block k hk hn)⟩
theorem setIn (h : Only l w a) {b o : Nat} (hb : b ∈ l) (u : Value) : Only l w (a.setCell ⟨b, o, none⟩ u) :=
  ⟨h.os, h.tape, h.output, by have := h.size; simp [World.setCell]; omega, fun k hk hn => (Below.heap_setCell _ _ _ _ (by simp; intro e; subst e; exact hn hb)).trans (h.block k hk hn)⟩
theorem below {B : Nat} (h : Only l w a) (k : Below B a w') (hB : w.heap.size ≤ B) : Only l w w' :=
  ⟨k.os.trans h.os, k.tape.trans h.tape, k.output.trans h.output, Nat.le_trans h.size k.size, fun i hi hn => (k.block i (by omega)).trans (h.block i hi hn)⟩
theorem ofBelow {B : Nat} (k : Below B w w') (hB : w.heap.size ≤ B) : Only l w w' := (refl l w).below k hB
/-- What changed lies above B: below B all is as it was. -/
theorem toBelow {B : Nat} (h : Only l a w') (k : Below B w a) (hl : ∀ x ∈ l, B ≤ x) (hB : B ≤ a.heap.size) : Below B w w' :=
  k.trans ⟨h.os, h.tape, h.output, h.size, fun i hi => h.block i (by omega) (fun hm => by have := hl i hm; omega)⟩
end Only
theorem Has.only {w w' : World} {l : List Nat} {b : Nat} {vs : Array Value} {T : TypeId} (h : Has w b vs T) (k : Only l w w') (hb : b ∉ l) : Has w' b vs T := by
  unfold Has; rw [k.block b h.lt hb]; exact h

def ints (l : List Int) : Array Value := (l.map (Value.int .i64)).toArray
theorem ints_get (l : List Int) (i : Nat) (h : i < l.length) : (ints l)[i]? = some (.int .i64 (l.getD i 0)) := by
  unfold ints
  simp [List.getD, h]
theorem ints_set (l : List Int) (i : Nat) (x : Int) : (ints l).setIfInBounds i (.int .i64 x) = ints (l.set i x) := by
  unfold ints
  simp [List.map_set]

/-- A slice of integers that starts at ad reads as the list: nothing is said of an empty one's address. -/
def Row (w : World) (ad : Option Addr) (l : List Int) : Prop := ∀ i, i < l.length → ∃ b o, ad = some ⟨b, o, none⟩ ∧ w.cell? ⟨b, o + i, none⟩ = some (.int .i64 (l.getD i 0))
theorem lt_of_cell {w : World} {b o : Nat} {v : Value} (h : w.cell? ⟨b, o, none⟩ = some v) : b < w.heap.size := by
  rcases Nat.lt_or_ge b w.heap.size with h' | h'
  · exact h'
  · simp [World.cell?, Array.getElem?_eq_none h'] at h
theorem Row.below {w w' : World} {ad : Option Addr} {l : List Int} {B : Nat} (h : Row w ad l) (hb : Below B w w') (hB : w.heap.size ≤ B) : Row w' ad l := fun i hi => by
  obtain ⟨b, o, e, hc⟩ := h i hi
  exact ⟨b, o, e, (hb.cell (p := ⟨b, o + i, none⟩) (Nat.lt_of_lt_of_le (lt_of_cell hc) hB)).trans hc⟩
theorem Row.ofHas {w : World} {b : Nat} {l : List Int} {T : TypeId} (h : Has w b (ints l) T) : Row w (some ⟨b, 0, none⟩) l := fun i hi => by
  refine ⟨b, 0, rfl, ?_⟩
  rw [Nat.zero_add]
  exact h.cell (ints_get l i hi)
theorem Row.only {w w' : World} {ad : Option Addr} {l : List Int} {x : List Nat} (h : Row w ad l) (k : Only x w w') (hb : ∀ a, ad = some a → a.block ∉ x) : Row w' ad l := fun i hi => by
  obtain ⟨b, o, e, hc⟩ := h i hi
  exact ⟨b, o, e, (World.cell?_of_block (w := w) (a := ⟨b, o + i, none⟩) (k.block b (lt_of_cell hc) (hb _ e))).trans hc⟩
/-- A slice of integers that came in, as the row's frame tells it: its elements read as a list. -/
theorem row_of {w : World} {a : Option Addr} {len cap : Nat} {zs : List Int}
    (h : (a = none ∧ len = 0 ∧ cap = 0 ∧ zs = []) ∨ ∃ x : Addr, a = some x ∧ len ≤ cap ∧ cap ≤ maxLen ∧ zs.length = cap ∧ (∀ i, i < zs.length → w.cell? (x.add i) = some (.int .i64 (zs.getD i 0))) ∧ ∀ n ∈ zs, (Lit.int .i64 n).wf = true) :
    Row w a (zs.take len) ∧ (zs.take len).length = len ∧ len ≤ 9223372036854775807 := by
  rcases h with ⟨rfl, rfl, rfl, rfl⟩ | ⟨x, rfl, h1, h2, h3, h4, h5⟩
  · exact ⟨fun i hi => by simp at hi, by simp, by omega⟩
  · refine ⟨fun i hi => ?_, by simp; omega, by unfold maxLen at h2; omega⟩
    have hi' : i < len := by simp at hi; omega
    have hc := h4 i (by omega)
    have hc0 := h4 0 (by omega)
    obtain ⟨b, o, spot⟩ := x
    have hs : spot = none := by simpa [Addr.add] using World.cell?_spot hc0
    subst hs
    refine ⟨b, o, rfl, ?_⟩
    have e : (zs.take len).getD i 0 = zs.getD i 0 := by simp [List.getD, hi']
    rw [e]
    by_cases h0 : i = 0
    · subst h0; simpa [Addr.add] using hc
    · simpa [Addr.add, h0] using hc
end Go.Proofs.YtahbhhenobehfaaGreatDoor
