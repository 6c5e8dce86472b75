/-
  Names, numbers and terms: what they are as lists of bytes. No program in sight.
-/
import Derived.Test.YtahbhhenobehfaaGreatDoorJPlain
namespace Go.Proofs.YtahbhhenobehfaaGreatDoor

/-- A byte is in one of some ranges. -/
def inB (c : Int) (l : List (Int × Int)) : Bool := l.any fun p => decide (p.1 ≤ c) && decide (c ≤ p.2)
def spelledB (l : List UInt8) (sp : List (Int × Int)) : Bool := decide (1 ≤ l.length) && decide (l.length ≤ 16) && inB (bt l 0) (sp.take 1) && l.all fun c => inB (c.toNat : Int) sp
def nameSp : List (Int × Int) := [(97, 122), (48, 57), (45, 45)]
def wordB (l : List UInt8) : Bool := l == [105, 102] || l == [97, 110, 100] || l == [110, 111, 116]
def nameB (l : List UInt8) : Bool := spelledB l nameSp && !wordB l
def digB (c : UInt8) : Bool := decide (48 ≤ (c.toNat : Int)) && decide ((c.toNat : Int) ≤ 57)
/-- A number of at most four digits, without a zero ahead. -/
def numB (l : List UInt8) : Bool := decide (1 ≤ l.length) && decide (l.length ≤ 4) && !(bt l 0 == 48 && decide (1 < l.length)) && l.all digB
def valL (l : List UInt8) : Int := l.foldl (fun n c => 10 * n + ((c.toNat : Int) - 48)) 0
inductive Tm where
  | mk (name : ByteArray) (args : List Tm)
def groundB : Nat → Tm → Bool
  | 0, _ => false
  | k + 1, .mk s l => if l.isEmpty then nameB s.data.toList || numB s.data.toList else decide (l.length ≤ 4) && (l.all (groundB k) && nameB s.data.toList)

theorem inB_take (c : Int) (l : List (Int × Int)) (k : Nat) (hk : k < l.length) : inB c (l.take (k + 1)) = (inB c (l.take k) || (decide ((l.getD k (0, 0)).1 ≤ c) && decide (c ≤ (l.getD k (0, 0)).2))) := by
  unfold inB
  rw [List.take_succ_eq_append_getElem hk, List.any_append, List.getD_eq_getElem?_getD, List.getElem?_eq_getElem hk]
  simp
theorem inB_true (c : Int) (l : List (Int × Int)) (k : Nat) (hk : k < l.length) (h1 : (l.getD k (0, 0)).1 ≤ c) (h2 : c ≤ (l.getD k (0, 0)).2) : inB c l = true := by
  unfold inB
  rw [List.any_eq_true]
  refine ⟨l[k], List.getElem_mem hk, ?_⟩
  rw [List.getD_eq_getElem?_getD, List.getElem?_eq_getElem hk] at h1 h2
  simp at h1 h2
  simp [h1, h2]
theorem bt_get (l : List UInt8) (k : Nat) (hk : k < l.length) : bt l k = ((l[k]).toNat : Int) := by
  unfold bt
  rw [List.getD_eq_getElem?_getD, List.getElem?_eq_getElem hk]; rfl
theorem all_bad {l : List UInt8} {f : UInt8 → Bool} (k : Nat) (hk : k < l.length) (h : f l[k] = false) : l.all f = false := by
  rw [List.all_eq_false]
  exact ⟨l[k], List.getElem_mem hk, by rw [h]; exact Bool.false_ne_true⟩
theorem all_to {l : List UInt8} {f : UInt8 → Bool} (h : ∀ i (hi : i < l.length), f l[i] = true) : l.all f = true := by
  rw [List.all_eq_true]
  intro c hc
  obtain ⟨i, hi, e⟩ := List.getElem_of_mem hc
  rw [← e]; exact h i hi
theorem spelledB_short {l : List UInt8} {sp : List (Int × Int)} (h : l.length < 1 ∨ 16 < l.length) : spelledB l sp = false := by
  unfold spelledB
  rcases h with h | h
  · rw [decide_eq_false (by omega)]; rfl
  · rw [decide_eq_false (p := l.length ≤ 16) (by omega)]; simp
theorem spelledB_first {l : List UInt8} {sp : List (Int × Int)} (h : inB (bt l 0) (sp.take 1) = false) : spelledB l sp = false := by
  unfold spelledB; rw [h]; simp
theorem spelledB_bad {l : List UInt8} {sp : List (Int × Int)} (k : Nat) (hk : k < l.length) (h : inB (bt l k) sp = false) : spelledB l sp = false := by
  unfold spelledB
  rw [all_bad k hk (by rw [← bt_get l k hk]; exact h)]; simp
theorem spelledB_ok {l : List UInt8} {sp : List (Int × Int)} (h1 : 1 ≤ l.length) (h2 : l.length ≤ 16) (h3 : inB (bt l 0) (sp.take 1) = true) (h : ∀ i, i < l.length → inB (bt l i) sp = true) : spelledB l sp = true := by
  unfold spelledB
  rw [decide_eq_true h1, decide_eq_true h2, h3, all_to fun i hi => by rw [← bt_get l i hi]; exact h i hi]; rfl
end Go.Proofs.YtahbhhenobehfaaGreatDoor
