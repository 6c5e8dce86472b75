/-
  Terms in memory: two cells, a name and a slice of terms. No program in sight.
-/
import Derived.Test.YtahbhhenobehfaaGreatDoorTPlain
import Derived.Test.YtahbhhenobehfaaGreatDoorHeap
import Derived.WalkKit
namespace Go.Proofs.YtahbhhenobehfaaGreatDoor
open Go.RowKit

mutual
/-- The two cells of a term read as t. -/
def TmV (w : World) (s a : Value) : Tm → Prop
  | .mk n l => s = .string n ∧ n.size ≤ maxLen ∧ ∃ (ad : Option Addr) (cap : Nat), a = .slice ad l.length cap ∧ l.length ≤ cap ∧ (cap : Int) ≤ 9223372036854775807 ∧ TmL w ad 0 l
/-- The terms at ad, from place i on, read as those of a list. -/
def TmL (w : World) (ad : Option Addr) (i : Nat) : List Tm → Prop
  | [] => True
  | t :: r => (∃ b o s a, ad = some ⟨b, o, none⟩ ∧ w.cell? ⟨b, o + i * 2, none⟩ = some s ∧ w.cell? ⟨b, o + i * 2 + 1, none⟩ = some a ∧ TmV w s a t) ∧ TmL w ad (i + 1) r
end
mutual
theorem TmV.below {w w' : World} {B : Nat} (hb : Below B w w') (hB : w.heap.size ≤ B) : ∀ (t : Tm) (s a : Value), TmV w s a t → TmV w' s a t
  | .mk n l, s, a, h => by
    obtain ⟨h1, h2, ad, cap, h3, h4, h5, h6⟩ := h
    exact ⟨h1, h2, ad, cap, h3, h4, h5, TmL.below hb hB l ad 0 h6⟩
theorem TmL.below {w w' : World} {B : Nat} (hb : Below B w w') (hB : w.heap.size ≤ B) : ∀ (l : List Tm) (ad : Option Addr) (i : Nat), TmL w ad i l → TmL w' ad i l
  | [], _, _, _ => trivial
  | t :: r, ad, i, h => by
    obtain ⟨⟨b, o, s, a, h1, h2, h3, h4⟩, h5⟩ := h
    have hl := Nat.lt_of_lt_of_le (lt_of_cell h2) hB
    exact ⟨⟨b, o, s, a, h1, (hb.cell (p := ⟨b, o + i * 2, none⟩) hl).trans h2, (hb.cell (p := ⟨b, o + i * 2 + 1, none⟩) hl).trans h3, TmV.below hb hB t s a h4⟩, TmL.below hb hB r ad (i + 1) h5⟩
end
theorem TmL.get {w : World} {ad : Option Addr} : ∀ {l : List Tm} {i : Nat}, TmL w ad i l → ∀ k (h : k < l.length), ∃ b o s a, ad = some ⟨b, o, none⟩ ∧ w.cell? ⟨b, o + (i + k) * 2, none⟩ = some s ∧ w.cell? ⟨b, o + (i + k) * 2 + 1, none⟩ = some a ∧ TmV w s a l[k]
  | t :: r, i, h, 0, _ => by
    obtain ⟨⟨b, o, s, a, h1, h2, h3, h4⟩, _⟩ := h
    exact ⟨b, o, s, a, h1, h2, h3, h4⟩
  | t :: r, i, h, k + 1, hk => by
    obtain ⟨_, h5⟩ := h
    obtain ⟨b, o, s, a, h1, h2, h3, h4⟩ := TmL.get h5 k (by simpa using hk)
    rw [show i + 1 + k = i + (k + 1) by omega] at h2 h3
    exact ⟨b, o, s, a, h1, h2, h3, h4⟩
/-- A slice of terms that stays as long as old blocks stay. -/
def TmsAt (w : World) (ad : Option Addr) (n cap : Nat) (l : List Tm) : Prop := l.length = n ∧ n ≤ cap ∧ (cap : Int) ≤ 9223372036854775807 ∧ TmL w ad 0 l
namespace TmsAt
variable {w w' : World} {ad : Option Addr} {n cap : Nat} {l : List Tm}
theorem len (h : TmsAt w ad n cap l) : l.length = n := h.1
theorem le (h : TmsAt w ad n cap l) : n ≤ cap := h.2.1
theorem max (h : TmsAt w ad n cap l) : (cap : Int) ≤ 9223372036854775807 := h.2.2.1
theorem below {B : Nat} (h : TmsAt w ad n cap l) (hb : Below B w w') (hB : w.heap.size ≤ B) : TmsAt w' ad n cap l := ⟨h.1, h.2.1, h.2.2.1, TmL.below hb hB l ad 0 h.2.2.2⟩
theorem head (h : TmsAt w ad n cap l) (h0 : 0 < n) : ∃ b o, ad = some ⟨b, o, none⟩ := by
  obtain ⟨b, o, _, _, e, _⟩ := h.2.2.2.get 0 (by have := h.1; omega)
  exact ⟨b, o, e⟩
theorem at' {b o : Nat} (h : TmsAt w (some ⟨b, o, none⟩) n cap l) (k : Nat) (hk : k < l.length) : ∃ (m : ByteArray) (l2 : List Tm) (ad2 : Option Addr) (n2 cap2 : Nat), l[k] = .mk m l2 ∧ m.size ≤ maxLen ∧ w.cell? ⟨b, o + k * 2, none⟩ = some (.string m) ∧ w.cell? ⟨b, o + k * 2 + 1, none⟩ = some (.slice ad2 n2 cap2) ∧ TmsAt w ad2 n2 cap2 l2 := by
  obtain ⟨b', o', s, a, e, h2, h3, h4⟩ := h.2.2.2.get k hk
  cases e
  rw [Nat.zero_add] at h2 h3
  generalize l[k] = t at h4 ⊢
  match t, h4 with
  | .mk m l2, h4 =>
    obtain ⟨rfl, h5, ad2, cap2, rfl, h6, h7, h8⟩ := h4
    exact ⟨m, l2, ad2, l2.length, cap2, rfl, h5, h2, h3, rfl, h6, h7, h8⟩
/-- An element, its cells as they stand now, what it reads as in the old world. -/
theorem at'' {b o : Nat} {B : Nat} (h : TmsAt w (some ⟨b, o, none⟩) n cap l) (hb : Below B w w') (hB : w.heap.size ≤ B) (k : Nat) (hk : k < l.length) : ∃ (m : ByteArray) (l2 : List Tm) (ad2 : Option Addr) (n2 cap2 : Nat), l[k] = .mk m l2 ∧ m.size ≤ maxLen ∧ w'.cell? ⟨b, o + k * 2, none⟩ = some (.string m) ∧ w'.cell? ⟨b, o + k * 2 + 1, none⟩ = some (.slice ad2 n2 cap2) ∧ TmsAt w ad2 n2 cap2 l2 := by
  obtain ⟨m, l2, ad2, n2, cap2, h1, h2, h3, h4, h5⟩ := h.at' k hk
  have hl := Nat.lt_of_lt_of_le (lt_of_cell h3) hB
  exact ⟨m, l2, ad2, n2, cap2, h1, h2, (hb.cell (p := ⟨b, o + k * 2, none⟩) hl).trans h3, (hb.cell (p := ⟨b, o + k * 2 + 1, none⟩) hl).trans h4, h5⟩
end TmsAt
theorem groundB_zero (t : Tm) : groundB 0 t = false := by unfold groundB; rfl
theorem groundB_leaf (k : Nat) (s : ByteArray) : groundB (k + 1) (.mk s []) = (nameB s.data.toList || numB s.data.toList) := by unfold groundB; rfl
theorem groundB_node (k : Nat) (s : ByteArray) (l : List Tm) (h : 0 < l.length) : groundB (k + 1) (.mk s l) = (decide (l.length ≤ 4) && (l.all (groundB k) && nameB s.data.toList)) := by
  unfold groundB
  have : l.isEmpty = false := by cases l with | nil => simp at h | cons _ _ => rfl
  rw [this]; rfl
theorem alltm_bad {l : List Tm} {f : Tm → Bool} (k : Nat) (hk : k < l.length) (h : f l[k] = false) : l.all f = false := by
  rw [List.all_eq_false]
  exact ⟨l[k], List.getElem_mem hk, by rw [h]; exact Bool.false_ne_true⟩
theorem alltm_to {l : List Tm} {f : Tm → Bool} (h : ∀ i (hi : i < l.length), f l[i] = true) : l.all f = true := by
  rw [List.all_eq_true]
  intro c hc
  obtain ⟨i, hi, e⟩ := List.getElem_of_mem hc
  rw [← e]; exact h i hi
end Go.Proofs.YtahbhhenobehfaaGreatDoor
