/-
  Lists in memory: a slice whose elements read as the elements of a list ('Lst', 'SliceOf', nested to any depth), what such a reading rests on ('Rests'), a slice of the call's own that grows by append ('OwnL'). No program in sight.
-/
import Derived.Test.YtahbhhenobehfaaGreatDoorM1
import Derived.WalkKit
import Derived.Maps.AppendAt
namespace Go.Proofs.YtahbhhenobehfaaGreatDoor
open Go.RowKit

/-- w' agrees with w on the blocks of w that are in S. -/
structure Agr (S : Nat → Prop) (w w' : World) : Prop where
  size : w.heap.size ≤ w'.heap.size
  block : ∀ k, k < w.heap.size → S k → w'.heap[k]? = w.heap[k]?
namespace Agr
variable {S S' : Nat → Prop} {w w' w'' : World}
theorem refl (S : Nat → Prop) (w : World) : Agr S w w := ⟨Nat.le_refl _, fun _ _ _ => rfl⟩
theorem trans (h : Agr S w w') (k : Agr S' w' w'') (hs : ∀ k, k < w.heap.size → S k → S' k) : Agr S w w'' :=
  ⟨Nat.le_trans h.size k.size, fun i hi hsi => (k.block i (Nat.lt_of_lt_of_le hi h.size) (hs i hi hsi)).trans (h.block i hi hsi)⟩
theorem ofBelow {B : Nat} (h : Below B w w') (hs : ∀ k, k < w.heap.size → S k → k < B) : Agr S w w' := ⟨h.size, fun k hk hsk => h.block k (hs k hk hsk)⟩
theorem ofBelow' {B : Nat} (h : Below B w w') (hB : w.heap.size ≤ B) : Agr S w w' := .ofBelow h fun _ hk _ => Nat.lt_of_lt_of_le hk hB
theorem cell (h : Agr S w w') {b o : Nat} {u : Value} (hc : w.cell? ⟨b, o, none⟩ = some u) (hb : S b) : w'.cell? ⟨b, o, none⟩ = some u :=
  (World.cell?_of_block (w := w) (a := ⟨b, o, none⟩) (h.block b (lt_of_cell hc) hb)).trans hc
end Agr

/-- The reading 'u reads as x' holds in w and in every world that agrees with w on the blocks of S. -/
def Rests {α : Type} (C : World → Value → α → Prop) (S : Nat → Prop) (w : World) (u : Value) (x : α) : Prop := ∀ w', Agr S w w' → C w' u x
namespace Rests
variable {α : Type} {C : World → Value → α → Prop} {S S' : Nat → Prop} {w w' : World} {u : Value} {x : α}
theorem now (h : Rests C S w u x) : C w u x := h w (.refl _ _)
theorem move (h : Rests C S w u x) (k : Agr S w w') (hs : ∀ k, k < w.heap.size → S k → S' k) : Rests C S' w' u x := fun w'' k' => h w'' (k.trans k' hs)
theorem weak (h : Rests C S w u x) (hs : ∀ k, k < w.heap.size → S k → S' k) : Rests C S' w u x := h.move (.refl _ _) hs
theorem below {B : Nat} (h : Rests C S w u x) (hb : Below B w w') (hB : w.heap.size ≤ B) : Rests C S w' u x := h.move (.ofBelow' hb hB) fun _ _ h => h
end Rests
/-- The reading stays wherever all blocks stay. -/
def Held {α : Type} (C : World → Value → α → Prop) (w : World) (u : Value) (x : α) : Prop := Rests C (fun _ => True) w u x
theorem Held.below {α : Type} {C : World → Value → α → Prop} {w w' : World} {u : Value} {x : α} {B : Nat} (h : Held C w u x) (hb : Below B w w') (hB : w.heap.size ≤ B) : Held C w' u x := Rests.below h hb hB
theorem Rests.held {α : Type} {C : World → Value → α → Prop} {S : Nat → Prop} {w : World} {u : Value} {x : α} (h : Rests C S w u x) : Held C w u x := Rests.weak h fun _ _ _ => trivial

theorem Rests.alloc {α : Type} {C : World → Value → α → Prop} {S : Nat → Prop} {w : World} {u : Value} {x : α} (h : Rests C S w u x) (o : Obj) : Rests C S (w.alloc o) u x := h.below ((Below.refl w.heap.size w).alloc (Nat.le_refl _) o) (Nat.le_refl _)
def IntC (_ : World) (u : Value) (n : Int) : Prop := u = .int .i64 n
theorem Rests.int (S : Nat → Prop) (w : World) (n : Int) : Rests IntC S w (.int .i64 n) n := fun _ _ => rfl

/-- The slice (ad, n, cap) has n elements, which read as those of l. -/
def Lst {α : Type} (C : World → Value → α → Prop) (w : World) (ad : Option Addr) (n cap : Nat) (l : List α) : Prop :=
  l.length = n ∧ n ≤ cap ∧ (cap : Int) ≤ 9223372036854775807 ∧ ∀ i (h : i < l.length), ∃ b o u, ad = some ⟨b, o, none⟩ ∧ w.cell? ⟨b, o + i, none⟩ = some u ∧ C w u l[i]
def SliceOf {α : Type} (C : World → Value → α → Prop) (w : World) (v : Value) (l : List α) : Prop := ∃ ad n cap, v = .slice ad n cap ∧ Lst C w ad n cap l
abbrev IntsC := SliceOf IntC
abbrev RoundC := SliceOf IntsC
abbrev RoundsC := SliceOf RoundC
/-- A slice that came in, or that is at hand: it and all below it stay as long as its blocks stay. -/
theorem Rests.empty {α : Type} {C : World → Value → α → Prop} (S : Nat → Prop) (w : World) : Rests (SliceOf C) S w (.slice none 0 0) [] := fun _ _ => ⟨none, 0, 0, rfl, rfl, Nat.le_refl _, by omega, fun i hi => by simp at hi⟩
def HeldL {α : Type} (C : World → Value → α → Prop) (w : World) (ad : Option Addr) (n cap : Nat) (l : List α) : Prop := Held (SliceOf C) w (.slice ad n cap) l
namespace HeldL
variable {α : Type} {C : World → Value → α → Prop} {w w' : World} {ad : Option Addr} {n cap : Nat} {l : List α}
theorem lst (h : HeldL C w ad n cap l) : Lst C w ad n cap l := by
  obtain ⟨ad', n', cap', e, hl⟩ := Rests.now h
  cases e
  exact hl
theorem below {B : Nat} (h : HeldL C w ad n cap l) (hb : Below B w w') (hB : w.heap.size ≤ B) : HeldL C w' ad n cap l := Held.below h hb hB
theorem len (h : HeldL C w ad n cap l) : l.length = n := h.lst.1
theorem le (h : HeldL C w ad n cap l) : n ≤ cap := h.lst.2.1
theorem max (h : HeldL C w ad n cap l) : (cap : Int) ≤ 9223372036854775807 := h.lst.2.2.1
theorem head (h : HeldL C w ad n cap l) (h0 : 0 < n) : ∃ b o, ad = some ⟨b, o, none⟩ := by
  obtain ⟨b, o, _, e, _⟩ := h.lst.2.2.2 0 (by have := h.len; omega)
  exact ⟨b, o, e⟩
theorem drop {b o : Nat} (h : HeldL C w (some ⟨b, o, none⟩) n cap l) (k : Nat) (hk : k ≤ n) : HeldL C w (some ⟨b, o + k, none⟩) (n - k) (cap - k) (l.drop k) := fun w' a => by
  obtain ⟨ad', n', cap', e, h1, h2, h3, h4⟩ := h w' a
  cases e
  refine ⟨_, _, _, rfl, by simp [h1], by omega, by omega, fun i hi => ?_⟩
  simp only [List.length_drop] at hi
  obtain ⟨b', o', u, e, hc, hx⟩ := h4 (k + i) (by omega)
  cases e
  exact ⟨b, o + k, u, rfl, by rw [Nat.add_assoc]; exact hc, by simpa using hx⟩
theorem take (h : HeldL C w ad n cap l) (k : Nat) (hk : k ≤ n) : HeldL C w ad k cap (l.take k) := fun w' a => by
  obtain ⟨ad', n', cap', e, h1, h2, h3, h4⟩ := h w' a
  cases e
  refine ⟨_, _, _, rfl, by simp; omega, by omega, by omega, fun i hi => ?_⟩
  simp only [List.length_take] at hi
  obtain ⟨b', o', u, e, hc, hx⟩ := h4 i (by omega)
  exact ⟨b', o', u, e, hc, by simpa using hx⟩
end HeldL
namespace HeldL
variable {w : World} {b o n cap : Nat}
/-- An element that is a number. -/
theorem int {l : List Int} (h : HeldL IntC w (some ⟨b, o, none⟩) n cap l) (i : Nat) (hi : i < n) : w.cell? ⟨b, o + i, none⟩ = some (.int .i64 (l.getD i 0)) := by
  have hl := h.len
  obtain ⟨b', o', u, e, hc, hx⟩ := h.lst.2.2.2 i (by omega)
  cases e
  rw [hc, show u = _ from hx, List.getD_eq_getElem?_getD, List.getElem?_eq_getElem (by omega)]
  rfl
/-- An element that is a slice. -/
theorem elem {α : Type} {C : World → Value → α → Prop} {l : List (List α)} (h : HeldL (SliceOf C) w (some ⟨b, o, none⟩) n cap l) (i : Nat) (hi : i < n) :
    ∃ ad m c, w.cell? ⟨b, o + i, none⟩ = some (.slice ad m c) ∧ HeldL C w ad m c (l.getD i []) := by
  have hl := h.len
  obtain ⟨b', o', u, e, hc, ad, m, c, e2, hx⟩ := h.lst.2.2.2 i (by omega)
  cases e
  subst e2
  refine ⟨ad, m, c, hc, fun w' a => ?_⟩
  obtain ⟨ad', n', cap', e, h1, h2, h3, h4⟩ := h w' a
  cases e
  obtain ⟨b', o', u, e, hc', hx'⟩ := h4 i (by omega)
  cases e
  have : u = .slice ad m c := by
    have := (a.cell hc trivial).symm.trans hc'
    injection this with this
    exact this.symm
  subst this
  rw [List.getD_eq_getElem?_getD, List.getElem?_eq_getElem (by omega)]
  exact hx'
end HeldL

/-- A slice of the call's own, in a block from base on, that append may lengthen: its elements read as those of l, and rest on other blocks from base on. -/
def OwnL {α : Type} (C : World → Value → α → Prop) (base : Nat) (E : TypeId) (w : World) (v : Value) (l : List α) : Prop :=
  ∃ xs : List Value, w.ownsRow base E 1 v l.length xs ∧ ∀ i (h : i < l.length), ∃ u, xs[i]? = some u ∧ Rests C (fun k => base ≤ k ∧ v.ownBlock ≠ some k) w u l[i]
namespace OwnL
variable {α : Type} {C : World → Value → α → Prop} {base : Nat} {E : TypeId} {w w' : World} {v : Value} {l : List α}
theorem nil (C : World → Value → α → Prop) (base : Nat) (E : TypeId) (w : World) : OwnL C base E w (.slice none 0 0) [] := ⟨[], World.ownsRow_nil _ _ _ _, fun i h => by simp at h⟩
theorem lt (h : OwnL C base E w v l) : ∀ k, v.ownBlock = some k → base ≤ k ∧ k < w.heap.size := by
  obtain ⟨xs, h1, _⟩ := h
  exact h1.lt
/-- An empty slice with a block of its own, of no cell. -/
theorem made (C : World → Value → α → Prop) (base : Nat) (E : TypeId) (w : World) (hb : base ≤ w.heap.size) : OwnL C base E (w.alloc (.cells #[] E)) (.slice (some ⟨w.heap.size, 0, none⟩) 0 0) [] :=
  ⟨[], World.ownsRow_made w #[] 0 hb (by unfold maxLen; omega) rfl, fun i h => by simp at h⟩
theorem agr (h : OwnL C base E w v l) (k : Agr (fun k => base ≤ k) w w') (hos : ∀ g, v.ownBlock = some g → w'.heap[g]? = w.heap[g]?) : OwnL C base E w' v l := by
  obtain ⟨xs, h1, h2⟩ := h
  refine ⟨xs, ?_, fun i hi => ?_⟩
  · refine ⟨h1.1, ?_⟩
    rcases h1.2 with h3 | ⟨g, cap, cur, rfl, hg, hh, r⟩
    · exact .inl h3
    · exact .inr ⟨g, cap, cur, rfl, hg, (hos g rfl).trans hh, r⟩
  · obtain ⟨u, e, hr⟩ := h2 i hi
    exact ⟨u, e, hr.move ⟨k.size, fun j hj hs => k.block j hj hs.1⟩ fun _ _ h => h⟩
theorem below {B : Nat} (h : OwnL C base E w v l) (hb : Below B w w') (hB : w.heap.size ≤ B) : OwnL C base E w' v l :=
  h.agr (.ofBelow' hb hB) fun g hg => hb.block g (Nat.lt_of_lt_of_le (h.lt g hg).2 hB)
theorem drew (h : OwnL C base E w v l) : OwnL C base E w.drew v l := h.below ((Below.refl w.heap.size w).drew) (Nat.le_refl _)
theorem alloc (h : OwnL C base E w v l) (o : Obj) : OwnL C base E (w.alloc o) v l := h.below ((Below.refl w.heap.size w).alloc (Nat.le_refl _) o) (Nat.le_refl _)
theorem rebase {base' : Nat} (h : OwnL C base E w v l) (hb : base' ≤ base) : OwnL C base' E w v l := by
  obtain ⟨xs, h1, h2⟩ := h
  refine ⟨xs, ⟨h1.1, ?_⟩, fun i hi => ?_⟩
  · rcases h1.2 with h3 | ⟨g, cap, cur, rfl, hg, r⟩
    · exact .inl h3
    · exact .inr ⟨g, cap, cur, rfl, Nat.le_trans hb hg, r⟩
  · obtain ⟨u, e, hr⟩ := h2 i hi
    exact ⟨u, e, hr.weak fun k _ hk => ⟨Nat.le_trans hb hk.1, hk.2⟩⟩
/-- A block that the call has just laid, as a slice of its own. -/
theorem lit {g n : Nat} {vs : Array Value} (h : Has w g vs E) (hb : base ≤ g) (hn : l.length = n) (hv : vs.size = n) (hm : n ≤ maxLen) (hx : ∀ i (hi : i < l.length), ∃ u, vs[i]? = some u ∧ Rests C (fun k => base ≤ k ∧ k ≠ g) w u l[i]) :
    OwnL C base E w (.slice (some ⟨g, 0, none⟩) n n) l := by
  subst hn
  refine ⟨vs.toList, ⟨by simp; omega, .inr ⟨g, _, vs, rfl, hb, h, Nat.le_refl _, hm, by omega, List.take_of_length_le (by simp; omega)⟩⟩, fun i hi => ?_⟩
  obtain ⟨u, e, hr⟩ := hx i hi
  exact ⟨u, by simpa using e, hr.weak fun k _ hk => ⟨hk.1, fun e => hk.2 (by injection e with e; exact e.symm)⟩⟩
theorem litInts {base : Nat} {E : TypeId} {w : World} {g : Nat} {l : List Int} (h : Has w g (ints l) E) (hb : base ≤ g) (hm : l.length ≤ maxLen) : OwnL IntC base E w (.slice (some ⟨g, 0, none⟩) l.length l.length) l :=
  lit h hb rfl (by simp [ints]) hm fun i hi => ⟨.int .i64 l[i], by rw [ints_get l i hi, List.getD_eq_getElem?_getD, List.getElem?_eq_getElem hi]; rfl, Rests.int _ _ _⟩
/-- As a value: a slice that reads as l and rests on blocks from base on. -/
theorem rests (h : OwnL C base E w v l) : Rests (SliceOf C) (fun k => base ≤ k) w v l := fun w' a => by
  obtain ⟨xs, h1, h2⟩ := h
  rcases h1.2 with ⟨rfl, h3⟩ | ⟨g, cap, cur, rfl, hg, hh, hn, hm, _, _⟩
  · exact ⟨none, 0, 0, rfl, by omega, by omega, by omega, fun i hi => by omega⟩
  · refine ⟨some ⟨g, 0, none⟩, l.length, cap, rfl, rfl, hn, by unfold maxLen at hm; omega, fun i hi => ?_⟩
    obtain ⟨u, e, hr⟩ := h2 i hi
    have hc := h1.cells (g := g) rfl i u e
    have e2 : (⟨g, 0, none⟩ : Addr).add i = ⟨g, 0 + i, none⟩ := by unfold Addr.add; split <;> simp_all
    rw [e2] at hc
    exact ⟨g, 0, u, rfl, a.cell hc hg, hr w' ⟨a.size, fun k hk hs => a.block k hk hs.1⟩⟩
theorem slice (h : OwnL C base E w v l) : ∃ ad cap, v = .slice ad l.length cap ∧ HeldL C w ad l.length cap l := by
  have hr := h.rests
  obtain ⟨ad, n, cap, rfl, hl⟩ := hr.now
  obtain rfl := hl.1
  exact ⟨ad, cap, rfl, hr.held⟩
end OwnL

/-- append of m elements, each of which reads as an element of ys, onto a slice of the call's own. -/
theorem run_appendL {α : Type} {C : World → Value → α → Prop} {P : Program} (w : World) (base : Nat) (t ty E : TypeId) (i : TypeInfo) (z : Value) (bytes : Nat) (ht : P.underlying t = some (.slice E)) (hi : P.info? E = some i) (hz : i.zero = some z)
    (hsize : i.size = 1) (hby : i.bytes = bytes) (hzs : z.cells.size = 1) (v : Value) (l : List α) (hown : OwnL C base E w v l)
    (a : Addr) (c : Nat) (us : List Value) (ys : List α) (hul : us.length = ys.length)
    (hus : ∀ j (h : j < ys.length), ∃ u, us[j]? = some u ∧ w.cell? (a.add j) = some u ∧ u.oneCell' = true ∧ Rests C (fun k => base ≤ k ∧ v.ownBlock ≠ some k) w u ys[j])
    (h63 : l.length + ys.length ≤ maxLen) (hbytes : (l.length + ys.length) * bytes ≤ 140737488355328) (hbase : base ≤ w.heap.size) :
    ∃ v' w', (Builtin.append_ #[t, t] ty #[v, .slice (some a) ys.length c]).run P w = .ok v' w' ∧ OwnL C base E w' v' (l ++ ys) ∧ Below base w w' ∧ Agr (fun k => v.ownBlock ≠ some k) w w' ∧ ∀ g, v'.ownBlock = some g → v.ownBlock = some g ∨ w.heap.size ≤ g := by
  obtain ⟨xs, h1, h2⟩ := hown
  obtain ⟨v', w', hr, ho, hg, _, hat⟩ := run_append_own_at (P := P) w base t ty E i z 1 bytes ht hi hz hsize hby hzs (by omega) v l.length xs h1 a ys.length c us (by omega)
    (fun j u hu => by
      have hj : j < ys.length := by rw [← hul]; exact (List.getElem?_eq_some_iff.1 hu).1
      obtain ⟨u', e, hc, _⟩ := hus j hj
      rw [hc]; exact e.symm.trans hu)
    (fun u hu => by
      obtain ⟨j, hj, e⟩ := List.getElem_of_mem hu
      obtain ⟨u', e', _, h1', _⟩ := hus j (by omega)
      rw [List.getElem?_eq_getElem hj, e] at e'
      injection e' with e'
      rw [e']; exact h1')
    h63 hbytes hbase
  have hlt := h1.lt
  have hA : Agr (fun k => v.ownBlock ≠ some k) w w' := ⟨hg.size, fun k hk hs => hg.block k hk (fun e => hs e.symm)⟩
  have hS : ∀ k, k < w.heap.size → base ≤ k ∧ v.ownBlock ≠ some k → base ≤ k ∧ v'.ownBlock ≠ some k := fun k hk hs => ⟨hs.1, by
    rcases hat with e | e
    · rw [e]; exact hs.2
    · rw [e]; intro e2; injection e2 with e2; omega⟩
  have hA2 : Agr (fun k => base ≤ k ∧ v.ownBlock ≠ some k) w w' := ⟨hg.size, fun k hk hs => hg.block k hk (fun e => hs.2 e.symm)⟩
  refine ⟨v', w', hr, ⟨xs ++ us, by rw [List.length_append]; exact ho, fun j hj => ?_⟩, ?_, hA, fun g e => ?_⟩
  · have hxl : xs.length = l.length := by have := h1.1; omega
    simp only [List.length_append] at hj
    by_cases hjl : j < l.length
    · obtain ⟨u, e, hR⟩ := h2 j hjl
      refine ⟨u, by rw [List.getElem?_append_left (by omega)]; exact e, ?_⟩
      rw [List.getElem_append_left hjl]
      exact hR.move hA2 hS
    · obtain ⟨u, e, _, _, hR⟩ := hus (j - l.length) (by omega)
      refine ⟨u, by rw [List.getElem?_append_right (by omega), hxl]; exact e, ?_⟩
      rw [List.getElem_append_right (by omega)]
      exact hR.move hA2 hS
  · exact (Below.refl base w).grown hg hbase fun k hk => (hlt k hk).1
  · rcases hat with e2 | e2
    · exact Or.inl (e2 ▸ e)
    · rw [e2] at e; injection e with e; exact Or.inr (by omega)
/-- append of one element that lies in a block of its own. -/
theorem run_append1 {α : Type} {C : World → Value → α → Prop} {P : Program} (w : World) (base : Nat) (t ty E : TypeId) (i : TypeInfo) (z : Value) (bytes : Nat) (ht : P.underlying t = some (.slice E)) (hi : P.info? E = some i) (hz : i.zero = some z)
    (hsize : i.size = 1) (hby : i.bytes = bytes) (hzs : z.cells.size = 1) (v : Value) (l : List α) (hown : OwnL C base E w v l)
    (b c : Nat) (u : Value) (x : α) (hc : w.cell? ⟨b, 0, none⟩ = some u) (h1 : u.oneCell' = true) (hR : Rests C (fun k => base ≤ k ∧ v.ownBlock ≠ some k) w u x)
    (h63 : l.length + 1 ≤ maxLen) (hbytes : (l.length + 1) * bytes ≤ 140737488355328) (hbase : base ≤ w.heap.size) :
    ∃ v' w', (Builtin.append_ #[t, t] ty #[v, .slice (some ⟨b, 0, none⟩) 1 c]).run P w = .ok v' w' ∧ OwnL C base E w' v' (l ++ [x]) ∧ Below base w w' ∧ Agr (fun k => v.ownBlock ≠ some k) w w' ∧ ∀ g, v'.ownBlock = some g → v.ownBlock = some g ∨ w.heap.size ≤ g :=
  run_appendL w base t ty E i z bytes ht hi hz hsize hby hzs v l hown ⟨b, 0, none⟩ c [u] [x] rfl (fun j hj => by
    have : j = 0 := by simp at hj; omega
    subst this
    exact ⟨u, rfl, by simpa [Addr.add] using hc, h1, hR⟩) h63 hbytes hbase
/-- A block that holds a list, cell by cell. -/
theorem rests_arr {α : Type} {C : World → Value → α → Prop} {S : Nat → Prop} {w : World} {b : Nat} {vs : Array Value} {T : TypeId} {l : List α} {n cap : Nat} (h : Has w b vs T) (hS : S b) (hn : l.length = n) (hc : n ≤ cap) (hm : (cap : Int) ≤ 9223372036854775807)
    (hx : ∀ i (hi : i < l.length), ∃ u, vs[i]? = some u ∧ Rests C S w u l[i]) : Rests (SliceOf C) S w (.slice (some ⟨b, 0, none⟩) n cap) l := fun w' a => by
  refine ⟨_, _, _, rfl, hn, hc, hm, fun i hi => ?_⟩
  obtain ⟨u, e, hr⟩ := hx i hi
  exact ⟨b, 0, u, rfl, a.cell (by rw [Nat.zero_add]; exact h.cell e) hS, hr w' a⟩
theorem rests_ints {S : Nat → Prop} {w : World} {b : Nat} {T : TypeId} {l : List Int} {n : Nat} (h : Has w b (ints l) T) (hS : S b) (hn : l.length = n) (hm : (n : Int) ≤ 9223372036854775807) : Rests IntsC S w (.slice (some ⟨b, 0, none⟩) n n) l :=
  rests_arr h hS hn (Nat.le_refl _) hm fun i hi => ⟨.int .i64 l[i], by rw [ints_get l i hi, List.getD_eq_getElem?_getD, List.getElem?_eq_getElem hi]; rfl, Rests.int _ _ _⟩
theorem rests_one {α : Type} {C : World → Value → α → Prop} {S : Nat → Prop} {w : World} {b : Nat} {T : TypeId} {u : Value} {x : α} (h : Has w b #[u] T) (hS : S b) (hr : Rests C S w u x) : Rests (SliceOf C) S w (.slice (some ⟨b, 0, none⟩) 1 1) [x] :=
  rests_arr h hS rfl (Nat.le_refl _) (by omega) fun i hi => ⟨u, by simp at hi; subst hi; rfl, by simp at hi; subst hi; exact hr⟩
/-- Numbers that are at hand, as append asks for them. -/
theorem news_ints {w : World} {a : Addr} {n cap : Nat} {ys : List Int} (h : HeldL IntC w (some a) n cap ys) (S : Nat → Prop) :
    ∃ us : List Value, us.length = ys.length ∧ ∀ j (hj : j < ys.length), ∃ u, us[j]? = some u ∧ w.cell? (a.add j) = some u ∧ u.oneCell' = true ∧ Rests IntC S w u ys[j] := by
  refine ⟨ys.map (.int .i64), by simp, fun j hj => ?_⟩
  obtain ⟨b, o, u, e, hc, hx⟩ := h.lst.2.2.2 j hj
  cases e
  have e2 : (⟨b, o, none⟩ : Addr).add j = ⟨b, o + j, none⟩ := by unfold Addr.add; split <;> simp_all
  have hu : u = .int .i64 ys[j] := hx
  subst hu
  exact ⟨_, by simp [hj], by rw [e2]; exact hc, rfl, Rests.int _ _ _⟩
/-- The elements of a slice of the call's own, as append onto another asks for them. -/
theorem news_own {α : Type} {C : World → Value → α → Prop} {w : World} {base : Nat} {E : TypeId} {a : Addr} {n cap : Nat} {ys : List α} {S : Nat → Prop} (h : OwnL C base E w (.slice (some a) n cap) ys) (hC : ∀ w u x, C w u x → u.oneCell' = true)
    (hS : ∀ k, k < w.heap.size → base ≤ k → k ≠ a.block → S k) :
    ∃ us : List Value, us.length = ys.length ∧ ∀ j (hj : j < ys.length), ∃ u, us[j]? = some u ∧ w.cell? (a.add j) = some u ∧ u.oneCell' = true ∧ Rests C S w u ys[j] := by
  obtain ⟨xs, h1, h2⟩ := h
  refine ⟨xs, by have := h1.1; omega, fun j hj => ?_⟩
  obtain ⟨u, e, hr⟩ := h2 j hj
  refine ⟨u, e, ?_, hC _ _ _ hr.now, hr.weak fun k hk hs => hS k hk hs.1 (fun e => hs.2 (by rw [e]; rfl))⟩
  rcases h1.2 with ⟨h3, _⟩ | ⟨g, cap', cur, h3, _⟩
  · cases h3
  · injection h3 with h4 _ _
    injection h4 with h4
    subst h4
    exact h1.cells (g := g) rfl j u e
theorem one_ints : ∀ (w : World) (u : Value) (x : List Int), IntsC w u x → u.oneCell' = true := fun w u x h => by
  obtain ⟨_, _, _, rfl, _⟩ := h; rfl

/-- append of nothing: nil behind a slice of the call's own. -/
theorem run_append_of_none {P : Program} (w : World) (base : Nat) (t ty E : TypeId) (i : TypeInfo) (ht : P.underlying t = some (.slice E)) (hi : P.info? E = some i) (v : Value) (n : Nat) (xs : List Value) (hown : w.ownsRow base E 1 v n xs) (c : Nat) :
    (Builtin.append_ #[t, t] ty #[v, .slice none 0 c]).run P w = .ok v w := by
  rcases hown.2 with ⟨rfl, rfl⟩ | ⟨g, cap, cur, rfl, _, _, hnc, _⟩
  · simp [Builtin.append_, run_underlying ht, sizeOf, typeInfo, hi, Builtin.lenOf, Builtin.firstCells]
  · simp [Builtin.append_, run_underlying ht, sizeOf, typeInfo, hi, Builtin.lenOf, Builtin.firstCells, hnc, storeCells]
/-- append of numbers that are at hand (nil let in). -/
theorem run_append_ints {P : Program} (w : World) (base : Nat) (t ty E : TypeId) (i : TypeInfo) (z : Value) (bytes : Nat) (ht : P.underlying t = some (.slice E)) (hi : P.info? E = some i) (hz : i.zero = some z)
    (hsize : i.size = 1) (hby : i.bytes = bytes) (hzs : z.cells.size = 1) (v : Value) (l : List Int) (hown : OwnL IntC base E w v l)
    (ad : Option Addr) (m c : Nat) (ys : List Int) (h : HeldL IntC w ad m c ys) (h63 : l.length + m ≤ maxLen) (hbytes : (l.length + m) * bytes ≤ 140737488355328) (hbase : base ≤ w.heap.size) :
    ∃ v' w', (Builtin.append_ #[t, t] ty #[v, .slice ad m c]).run P w = .ok v' w' ∧ OwnL IntC base E w' v' (l ++ ys) ∧ Below base w w' ∧ Agr (fun k => v.ownBlock ≠ some k) w w' ∧ ∀ g, v'.ownBlock = some g → v.ownBlock = some g ∨ w.heap.size ≤ g := by
  have hm := h.len
  cases ad with
  | none =>
    have h0 : m = 0 := by
      rcases Nat.eq_zero_or_pos m with h0 | h0
      · exact h0
      · obtain ⟨b, o, e⟩ := h.head h0; cases e
    subst h0
    obtain rfl : ys = [] := List.eq_nil_of_length_eq_zero hm
    have hown' := hown
    obtain ⟨xs, h1, _⟩ := hown
    exact ⟨v, w, run_append_of_none w base t ty E i ht hi v l.length xs h1 c, by rw [List.append_nil]; exact hown', Below.refl _ _, Agr.refl _ _, fun g e => Or.inl e⟩
  | some a =>
    obtain ⟨us, hl, hus⟩ := news_ints h (fun k => base ≤ k ∧ v.ownBlock ≠ some k)
    subst hm
    exact run_appendL w base t ty E i z bytes ht hi hz hsize hby hzs v l hown a c us ys hl hus h63 hbytes hbase

theorem wpList_append_run {P : Program} {w : World} {ops : Array Oper} {rest : List Oper} {o : Oper} {a : Act} {Q : Exit → Act → World → Prop} (hgd : o.guard = none) (sl x : Operand) (t : TypeId)
    (ho : o.op = .call { callee := .builtin .append, args := #[sl, x], argTypes := #[t, t] }) (v y : Value) (hs : a.eval sl = v) (hx : a.eval x = y) {R : Value → World → Prop}
    (hr : ∃ v' w', (Builtin.append_ #[t, t] o.type #[v, y]).run P w = .ok v' w' ∧ R v' w') (h : ∀ v' w', R v' w' → wpList P ops Q rest (a.put o.dst v') w') : wpList P ops Q (o :: rest) a w := by
  refine wpList_plain hgd fun K hK => ?_
  obtain ⟨v', w', hr, hR⟩ := hr
  unfold Oper.wp execOp
  simp only [ho, resolve, invoke, builtin, Sem.run_bind, Sem.run_pure, Result.andThen_ok, List.map_toArray, List.map_cons, List.map_nil, hs, hx, hr]
  exact hK _ _ (h v' w' hR)
/-- .. at a step of a region that draws its order. -/
theorem step_append_run {P : Program} {w : World} {ops : Array Oper} {o : Oper} {a : Act} {K : Act → World → Prop} {Q : Exit → Act → World → Prop} {E : Prop} (hgd : o.guard = none) (sl x : Operand) (t : TypeId)
    (ho : o.op = .call { callee := .builtin .append, args := #[sl, x], argTypes := #[t, t] }) (v y : Value) (hs : a.eval sl = v) (hx : a.eval x = y) {R : Value → World → Prop}
    (hr : ∃ v' w', (Builtin.append_ #[t, t] o.type #[v, y]).run P w = .ok v' w' ∧ R v' w') (h : ∀ v' w', R v' w' → K (a.put o.dst v') w') :
    if Region.wanted o (yielded ops a.tmps) = true then Oper.wp P o a w K Q else E := by
  have hw : Region.wanted o (yielded ops a.tmps) = true := by simp [Region.wanted, hgd]
  rw [if_pos hw]
  obtain ⟨v', w', hr, hR⟩ := hr
  unfold Oper.wp execOp
  simp only [ho, resolve, invoke, builtin, Sem.run_bind, Sem.run_pure, Result.andThen_ok, List.map_toArray, List.map_cons, List.map_nil, hs, hx, hr]
  exact h v' w' hR
end Go.Proofs.YtahbhhenobehfaaGreatDoor
