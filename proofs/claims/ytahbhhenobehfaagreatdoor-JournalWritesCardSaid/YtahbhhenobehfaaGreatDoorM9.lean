/-
  Names, numbers and terms: what they are as lists of bytes. No program in sight.
  Terms in memory: two cells, a name and a slice of terms. No program in sight.
  The text of a term. No program in sight.
  A text as one word: what is escaped. No program in sight.
  Records of matches: what they are, how they lie in memory, their payloads. No program in sight.
-/
import Derived.Test.YtahbhhenobehfaaGreatDoorM1
import Derived.WalkKit
import Derived.Lib.Join
import Derived.Test.YtahbhhenobehfaaGreatDoorNSMem
import Derived.Lib.ItoaNum
namespace Go.Proofs.YtahbhhenobehfaaGreatDoor

/-- A byte is in one of some ranges. -/
def inB (c : Int) (l : List (Int × Int)) : Bool := l.any fun p => decide (p.1 ≤ c) && decide (c ≤ p.2)
def spelledB (l : List UInt8) (sp : List (Int × Int)) : Bool := decide (1 ≤ l.length) && decide (l.length ≤ 16) && inB (bt l 0) (sp.take 1) && l.all fun c => inB (c.toNat : Int) sp
def nameSp : List (Int × Int) := [(97, 122), (48, 57), (45, 45)]
def wordB (l : List UInt8) : Bool := l == [105, 102] || l == [97, 110, 100] || l == [110, 111, 116]
def nameB (l : List UInt8) : Bool := spelledB l nameSp && !wordB l
def digB (c : UInt8) : Bool := decide (48 ≤ (c.toNat : Int)) && decide ((c.toNat : Int) ≤ 57)
/-- A number of at most four digits, without a zero ahead. -/
def numB (l : List UInt8) : Bool := decide (1 ≤ l.length) && decide (l.length ≤ 4) && !(bt l 0 == 48 && decide (1 < l.length)) && l.all digB
def valL (l : List UInt8) : Int := l.foldl (fun n c => 10 * n + ((c.toNat : Int) - 48)) 0
inductive Tm where
  | mk (name : ByteArray) (args : List Tm)
def groundB : Nat → Tm → Bool
  | 0, _ => false
  | k + 1, .mk s l => if l.isEmpty then nameB s.data.toList || numB s.data.toList else decide (l.length ≤ 4) && (l.all (groundB k) && nameB s.data.toList)

theorem inB_take (c : Int) (l : List (Int × Int)) (k : Nat) (hk : k < l.length) : inB c (l.take (k + 1)) = (inB c (l.take k) || (decide ((l.getD k (0, 0)).1 ≤ c) && decide (c ≤ (l.getD k (0, 0)).2))) := by
  unfold inB
  rw [List.take_succ_eq_append_getElem hk, List.any_append, List.getD_eq_getElem?_getD, List.getElem?_eq_getElem hk]
  simp
theorem inB_true (c : Int) (l : List (Int × Int)) (k : Nat) (hk : k < l.length) (h1 : (l.getD k (0, 0)).1 ≤ c) (h2 : c ≤ (l.getD k (0, 0)).2) : inB c l = true := by
  unfold inB
  rw [List.any_eq_true]
  refine ⟨l[k], List.getElem_mem hk, ?_⟩
  rw [List.getD_eq_getElem?_getD, List.getElem?_eq_getElem hk] at h1 h2
  simp at h1 h2
  simp [h1, h2]
theorem bt_get (l : List UInt8) (k : Nat) (hk : k < l.length) : bt l k = ((l[k]).toNat : Int) := by
  unfold bt
  rw [List.getD_eq_getElem?_getD, List.getElem?_eq_getElem hk]; rfl
theorem all_bad {l : List UInt8} {f : UInt8 → Bool} (k : Nat) (hk : k < l.length) (h : f l[k] = false) : l.all f = false := by
  rw [List.all_eq_false]
  exact ⟨l[k], List.getElem_mem hk, by rw [h]; exact Bool.false_ne_true⟩
theorem all_to {l : List UInt8} {f : UInt8 → Bool} (h : ∀ i (hi : i < l.length), f l[i] = true) : l.all f = true := by
  rw [List.all_eq_true]
  intro c hc
  obtain ⟨i, hi, e⟩ := List.getElem_of_mem hc
  rw [← e]; exact h i hi
theorem spelledB_short {l : List UInt8} {sp : List (Int × Int)} (h : l.length < 1 ∨ 16 < l.length) : spelledB l sp = false := by
  unfold spelledB
  rcases h with h | h
  · rw [decide_eq_false (by omega)]; rfl
  · rw [decide_eq_false (p := l.length ≤ 16) (by omega)]; simp
theorem spelledB_first {l : List UInt8} {sp : List (Int × Int)} (h : inB (bt l 0) (sp.take 1) = false) : spelledB l sp = false := by
  unfold spelledB; rw [h]; simp
theorem spelledB_bad {l : List UInt8} {sp : List (Int × Int)} (k : Nat) (hk : k < l.length) (h : inB (bt l k) sp = false) : spelledB l sp = false := by
  unfold spelledB
  rw [all_bad k hk (by rw [← bt_get l k hk]; exact h)]; simp
theorem spelledB_ok {l : List UInt8} {sp : List (Int × Int)} (h1 : 1 ≤ l.length) (h2 : l.length ≤ 16) (h3 : inB (bt l 0) (sp.take 1) = true) (h : ∀ i, i < l.length → inB (bt l i) sp = true) : spelledB l sp = true := by
  unfold spelledB
  rw [decide_eq_true h1, decide_eq_true h2, h3, all_to fun i hi => by rw [← bt_get l i hi]; exact h i hi]; rfl
end Go.Proofs.YtahbhhenobehfaaGreatDoor
namespace Go.Proofs.YtahbhhenobehfaaGreatDoor
open Go.RowKit

mutual
/-- The two cells of a term read as t. -/
def TmV (w : World) (s a : Value) : Tm → Prop
  | .mk n l => s = .string n ∧ n.size ≤ maxLen ∧ ∃ (ad : Option Addr) (cap : Nat), a = .slice ad l.length cap ∧ l.length ≤ cap ∧ (cap : Int) ≤ 9223372036854775807 ∧ TmL w ad 0 l
/-- The terms at ad, from place i on, read as those of a list. -/
def TmL (w : World) (ad : Option Addr) (i : Nat) : List Tm → Prop
  | [] => True
  | t :: r => (∃ b o s a, ad = some ⟨b, o, none⟩ ∧ w.cell? ⟨b, o + i * 2, none⟩ = some s ∧ w.cell? ⟨b, o + i * 2 + 1, none⟩ = some a ∧ TmV w s a t) ∧ TmL w ad (i + 1) r
end
mutual
theorem TmV.below {w w' : World} {B : Nat} (hb : Below B w w') (hB : w.heap.size ≤ B) : ∀ (t : Tm) (s a : Value), TmV w s a t → TmV w' s a t
  | .mk n l, s, a, h => by
    obtain ⟨h1, h2, ad, cap, h3, h4, h5, h6⟩ := h
    exact ⟨h1, h2, ad, cap, h3, h4, h5, TmL.below hb hB l ad 0 h6⟩
theorem TmL.below {w w' : World} {B : Nat} (hb : Below B w w') (hB : w.heap.size ≤ B) : ∀ (l : List Tm) (ad : Option Addr) (i : Nat), TmL w ad i l → TmL w' ad i l
  | [], _, _, _ => trivial
  | t :: r, ad, i, h => by
    obtain ⟨⟨b, o, s, a, h1, h2, h3, h4⟩, h5⟩ := h
    have hl := Nat.lt_of_lt_of_le (lt_of_cell h2) hB
    exact ⟨⟨b, o, s, a, h1, (hb.cell (p := ⟨b, o + i * 2, none⟩) hl).trans h2, (hb.cell (p := ⟨b, o + i * 2 + 1, none⟩) hl).trans h3, TmV.below hb hB t s a h4⟩, TmL.below hb hB r ad (i + 1) h5⟩
end
theorem TmL.get {w : World} {ad : Option Addr} : ∀ {l : List Tm} {i : Nat}, TmL w ad i l → ∀ k (h : k < l.length), ∃ b o s a, ad = some ⟨b, o, none⟩ ∧ w.cell? ⟨b, o + (i + k) * 2, none⟩ = some s ∧ w.cell? ⟨b, o + (i + k) * 2 + 1, none⟩ = some a ∧ TmV w s a l[k]
  | t :: r, i, h, 0, _ => by
    obtain ⟨⟨b, o, s, a, h1, h2, h3, h4⟩, _⟩ := h
    exact ⟨b, o, s, a, h1, h2, h3, h4⟩
  | t :: r, i, h, k + 1, hk => by
    obtain ⟨_, h5⟩ := h
    obtain ⟨b, o, s, a, h1, h2, h3, h4⟩ := TmL.get h5 k (by simpa using hk)
    rw [show i + 1 + k = i + (k + 1) by omega] at h2 h3
    exact ⟨b, o, s, a, h1, h2, h3, h4⟩
/-- A slice of terms that stays as long as old blocks stay. -/
def TmsAt (w : World) (ad : Option Addr) (n cap : Nat) (l : List Tm) : Prop := l.length = n ∧ n ≤ cap ∧ (cap : Int) ≤ 9223372036854775807 ∧ TmL w ad 0 l
namespace TmsAt
variable {w w' : World} {ad : Option Addr} {n cap : Nat} {l : List Tm}
theorem len (h : TmsAt w ad n cap l) : l.length = n := h.1
theorem le (h : TmsAt w ad n cap l) : n ≤ cap := h.2.1
theorem max (h : TmsAt w ad n cap l) : (cap : Int) ≤ 9223372036854775807 := h.2.2.1
theorem below {B : Nat} (h : TmsAt w ad n cap l) (hb : Below B w w') (hB : w.heap.size ≤ B) : TmsAt w' ad n cap l := ⟨h.1, h.2.1, h.2.2.1, TmL.below hb hB l ad 0 h.2.2.2⟩
theorem head (h : TmsAt w ad n cap l) (h0 : 0 < n) : ∃ b o, ad = some ⟨b, o, none⟩ := by
  obtain ⟨b, o, _, _, e, _⟩ := h.2.2.2.get 0 (by have := h.1; omega)
  exact ⟨b, o, e⟩
theorem at' {b o : Nat} (h : TmsAt w (some ⟨b, o, none⟩) n cap l) (k : Nat) (hk : k < l.length) : ∃ (m : ByteArray) (l2 : List Tm) (ad2 : Option Addr) (n2 cap2 : Nat), l[k] = .mk m l2 ∧ m.size ≤ maxLen ∧ w.cell? ⟨b, o + k * 2, none⟩ = some (.string m) ∧ w.cell? ⟨b, o + k * 2 + 1, none⟩ = some (.slice ad2 n2 cap2) ∧ TmsAt w ad2 n2 cap2 l2 := by
  obtain ⟨b', o', s, a, e, h2, h3, h4⟩ := h.2.2.2.get k hk
  cases e
  rw [Nat.zero_add] at h2 h3
  generalize l[k] = t at h4 ⊢
  match t, h4 with
  | .mk m l2, h4 =>
    obtain ⟨rfl, h5, ad2, cap2, rfl, h6, h7, h8⟩ := h4
    exact ⟨m, l2, ad2, l2.length, cap2, rfl, h5, h2, h3, rfl, h6, h7, h8⟩
/-- An element, its cells as they stand now, what it reads as in the old world. -/
theorem at'' {b o : Nat} {B : Nat} (h : TmsAt w (some ⟨b, o, none⟩) n cap l) (hb : Below B w w') (hB : w.heap.size ≤ B) (k : Nat) (hk : k < l.length) : ∃ (m : ByteArray) (l2 : List Tm) (ad2 : Option Addr) (n2 cap2 : Nat), l[k] = .mk m l2 ∧ m.size ≤ maxLen ∧ w'.cell? ⟨b, o + k * 2, none⟩ = some (.string m) ∧ w'.cell? ⟨b, o + k * 2 + 1, none⟩ = some (.slice ad2 n2 cap2) ∧ TmsAt w ad2 n2 cap2 l2 := by
  obtain ⟨m, l2, ad2, n2, cap2, h1, h2, h3, h4, h5⟩ := h.at' k hk
  have hl := Nat.lt_of_lt_of_le (lt_of_cell h3) hB
  exact ⟨m, l2, ad2, n2, cap2, h1, h2, (hb.cell (p := ⟨b, o + k * 2, none⟩) hl).trans h3, (hb.cell (p := ⟨b, o + k * 2 + 1, none⟩) hl).trans h4, h5⟩
end TmsAt
theorem groundB_zero (t : Tm) : groundB 0 t = false := by unfold groundB; rfl
theorem groundB_leaf (k : Nat) (s : ByteArray) : groundB (k + 1) (.mk s []) = (nameB s.data.toList || numB s.data.toList) := by unfold groundB; rfl
theorem groundB_node (k : Nat) (s : ByteArray) (l : List Tm) (h : 0 < l.length) : groundB (k + 1) (.mk s l) = (decide (l.length ≤ 4) && (l.all (groundB k) && nameB s.data.toList)) := by
  unfold groundB
  have : l.isEmpty = false := by cases l with | nil => simp at h | cons _ _ => rfl
  rw [this]; rfl
theorem alltm_bad {l : List Tm} {f : Tm → Bool} (k : Nat) (hk : k < l.length) (h : f l[k] = false) : l.all f = false := by
  rw [List.all_eq_false]
  exact ⟨l[k], List.getElem_mem hk, by rw [h]; exact Bool.false_ne_true⟩
theorem alltm_to {l : List Tm} {f : Tm → Bool} (h : ∀ i (hi : i < l.length), f l[i] = true) : l.all f = true := by
  rw [List.all_eq_true]
  intro c hc
  obtain ⟨i, hi, e⟩ := List.getElem_of_mem hc
  rw [← e]; exact h i hi
end Go.Proofs.YtahbhhenobehfaaGreatDoor
namespace Go.Proofs.YtahbhhenobehfaaGreatDoor

mutual
def textL : Tm → List UInt8
  | .mk s l => if l.isEmpty then s.data.toList else s.data.toList ++ 40 :: (Lib.join (textsL l) [44] ++ [41])
def textsL : List Tm → List (List UInt8)
  | [] => []
  | t :: r => textL t :: textsL r
end
theorem textsL_map : ∀ l, textsL l = l.map textL
  | [] => by simp [textsL]
  | t :: r => by simp [textsL, textsL_map r]
theorem textL_leaf (s : ByteArray) : textL (.mk s []) = s.data.toList := by simp [textL]
theorem textL_node (s : ByteArray) (l : List Tm) (h : 0 < l.length) : textL (.mk s l) = s.data.toList ++ 40 :: (Lib.join (l.map textL) [44] ++ [41]) := by
  have e : l.isEmpty = false := by cases l with | nil => simp at h | cons _ _ => rfl
  simp [textL, e, textsL_map]
theorem join_take_zero (sep : List UInt8) (xs : List (List UInt8)) (h : 0 < xs.length) : Lib.join (xs.take 1) sep = xs[0] := by
  rw [show 1 = 0 + 1 from rfl, List.take_succ_eq_append_getElem h]
  simp [Lib.join, List.intercalate]
theorem join_snoc (sep : List UInt8) : ∀ (xs : List (List UInt8)) (x : List UInt8), xs ≠ [] → Lib.join (xs ++ [x]) sep = Lib.join xs sep ++ sep ++ x
  | [], x, h => absurd rfl h
  | a :: r, x, _ => by
    rw [List.cons_append, Lib.join_cons, Lib.join_cons]
    simp [Lib.joinTail, List.map_append, List.flatten_append]
theorem join_take_succ (sep : List UInt8) (xs : List (List UInt8)) (k : Nat) (h : k < xs.length) (h0 : 0 < k) : Lib.join (xs.take (k + 1)) sep = Lib.join (xs.take k) sep ++ sep ++ xs[k] := by
  rw [List.take_succ_eq_append_getElem h]
  exact join_snoc sep _ _ (by intro e; have := congrArg List.length e; rw [List.length_take, List.length_nil] at this; omega)
theorem join_take_le (sep : List UInt8) (xs : List (List UInt8)) : ∀ k, (Lib.join (xs.take k) sep).length ≤ (Lib.join xs sep).length := by
  have hstep : ∀ k, k ≤ xs.length → (Lib.join (xs.take k) sep).length ≤ (Lib.join xs sep).length := by
    intro k hk
    have hdown : ∀ d, d ≤ xs.length → (Lib.join (xs.take (xs.length - d)) sep).length ≤ (Lib.join xs sep).length := by
      intro d
      induction d with
      | zero => intro _; simp
      | succ d ih =>
        intro hd
        have h1 := ih (by omega)
        refine Nat.le_trans ?_ h1
        rcases Nat.eq_zero_or_pos (xs.length - (d + 1)) with e | e
        · rw [e]; simp [Lib.join_nil]
        · have h2 := join_take_succ sep xs (xs.length - (d + 1)) (by omega) e
          rw [show xs.length - (d + 1) + 1 = xs.length - d by omega] at h2
          rw [h2]; simp only [List.length_append]; omega
    have := hdown (xs.length - k) (by omega)
    rwa [show xs.length - (xs.length - k) = k by omega] at this
  intro k
  by_cases h : k ≤ xs.length
  · exact hstep k h
  · rw [List.take_of_length_le (by omega)]; exact Nat.le_refl _
mutual
def tmH : Tm → Nat
  | .mk _ l => tmsH l + 1
def tmsH : List Tm → Nat
  | [] => 0
  | t :: r => max (tmH t) (tmsH r)
end
theorem tmsH_get : ∀ (l : List Tm) (k : Nat) (h : k < l.length), tmH l[k] ≤ tmsH l
  | t :: r, 0, _ => by simp only [List.getElem_cons_zero, tmsH]; omega
  | t :: r, k + 1, h => by
    have := tmsH_get r k (by simpa using h)
    simp only [List.getElem_cons_succ, tmsH]; omega
theorem tmH_arg {s : ByteArray} {l : List Tm} {K : Nat} (h : tmH (.mk s l) ≤ K + 1) (k : Nat) (hk : k < l.length) : tmH l[k] ≤ K := by
  have := tmsH_get l k hk
  simp only [tmH] at h; omega
end Go.Proofs.YtahbhhenobehfaaGreatDoor
namespace Go.Proofs.YtahbhhenobehfaaGreatDoor

def plainI (x : Int) : Bool := (decide (97 ≤ x) && decide (x ≤ 122)) || (decide (65 ≤ x) && decide (x ≤ 90)) || (decide (48 ≤ x) && decide (x ≤ 57)) || (x == 40 || x == 41 || x == 44 || x == 46 || x == 45)
def hexD (i : Nat) : UInt8 := ([48, 49, 50, 51, 52, 53, 54, 55, 56, 57, 97, 98, 99, 100, 101, 102] : List UInt8).getD i 0
def escB (c : UInt8) : List UInt8 := if plainI (c.toNat : Int) = true then [c] else [37, hexD (c.toNat / 16), hexD (c.toNat % 16)]
def escT (l : List UInt8) : List UInt8 := l.flatMap escB
def escL (l : List UInt8) : List UInt8 := if l.isEmpty then [37] else escT l
theorem escB_len (c : UInt8) : (escB c).length ≤ 3 := by unfold escB; split <;> simp
theorem escT_take (l : List UInt8) (k : Nat) (hk : k < l.length) : escT (l.take (k + 1)) = escT (l.take k) ++ escB l[k] := by
  unfold escT
  rw [List.take_succ_eq_append_getElem hk, List.flatMap_append]; simp
theorem escT_len : ∀ l : List UInt8, (escT l).length ≤ 3 * l.length
  | [] => by simp [escT]
  | c :: r => by
    have h1 := escB_len c
    have h2 := escT_len r
    unfold escT at h2 ⊢
    rw [List.flatMap_cons, List.length_append, List.length_cons]; omega
theorem escB_plain {c : UInt8} (h : plainI (c.toNat : Int) = true) : escB c = [c] := by unfold escB; rw [if_pos h]
theorem escB_hex {c : UInt8} (h : plainI (c.toNat : Int) = false) : escB c = [37, hexD (c.toNat / 16), hexD (c.toNat % 16)] := by unfold escB; rw [if_neg (by rw [h]; exact Bool.false_ne_true)]
theorem escL_nil : escL [] = [37] := rfl
theorem escL_some {l : List UInt8} (h : 0 < l.length) : escL l = escT l := by
  unfold escL
  have : l.isEmpty = false := by cases l with | nil => simp at h | cons _ _ => rfl
  rw [this]; rfl
theorem plain_cases (x : Int) : (x = 40 ∨ x = 41 ∨ x = 44 ∨ x = 45 ∨ x = 46) ∨ (x < 48 ∧ (x == 40) = false ∧ (x == 41) = false ∧ (x == 44) = false ∧ (x == 46) = false ∧ (x == 45) = false) ∨ (48 ≤ x ∧ x ≤ 57) ∨ (57 < x ∧ x < 65) ∨ (65 ≤ x ∧ x ≤ 90) ∨ (90 < x ∧ x < 97) ∨ (97 ≤ x ∧ x ≤ 122) ∨ 122 < x := by
  simp only [beq_eq_false_iff_ne, ne_eq]
  omega
end Go.Proofs.YtahbhhenobehfaaGreatDoor
namespace Go.Proofs.YtahbhhenobehfaaGreatDoor
open Go.RowKit

def numT (n : Int) : List UInt8 := Lib.decDigits n.toNat
def listL (l : List Int) (sep : List UInt8) : List UInt8 := if l.isEmpty then [45] else Lib.join (l.map numT) sep
def termsL (l : List Tm) : List UInt8 := Lib.join (l.map textL) [44, 32]
structure Rnd where
  joint : List Tm
  faults : List Int
structure Rec where
  name : ByteArray
  text : ByteArray
  seed : Int
  start : Int
  clock : Int
  rounds : List Rnd
  ended : Bool
  goals : List Int
  excl : List Bool
def payHead (r : Rec) : List UInt8 := [109, 97, 116, 99, 104, 32] ++ r.name.data.toList ++ [32] ++ numT r.seed ++ [32] ++ numT r.start ++ [32] ++ numT r.clock ++ [32] ++ escL r.text.data.toList
def payRound (x : Rnd) : List UInt8 := [114, 111, 117, 110, 100, 32] ++ escL (termsL x.joint) ++ [32] ++ listL x.faults []
def payOver (r : Rec) : List UInt8 := [111, 118, 101, 114, 32] ++ listL r.goals [44]
def payL (r : Rec) : List (List UInt8) := payHead r :: (r.rounds.map payRound ++ if r.ended then [payOver r] else [])
theorem payHead_join (r : Rec) : Lib.join [[109, 97, 116, 99, 104], r.name.data.toList, numT r.seed, numT r.start, numT r.clock, escL r.text.data.toList] [32] = payHead r := by
  simp [Lib.join, List.intercalate, payHead]

def BoolC (_ : World) (u : Value) (x : Bool) : Prop := u = .bool x
/-- Rounds in memory: two cells each, the joint move and the faults. -/
def RndAt (w : World) (b o : Nat) (x : Rnd) : Prop := ∃ aj nj cj af nf cf, w.cell? ⟨b, o, none⟩ = some (.slice aj nj cj) ∧ w.cell? ⟨b, o + 1, none⟩ = some (.slice af nf cf) ∧ TmsAt w aj nj cj x.joint ∧ HeldL IntC w af nf cf x.faults
theorem RndAt.below {w w' : World} {b o B : Nat} {x : Rnd} (h : RndAt w b o x) (hb : Below B w w') (hB : w.heap.size ≤ B) : RndAt w' b o x := by
  obtain ⟨aj, nj, cj, af, nf, cf, h1, h2, h3, h4⟩ := h
  have hl := Nat.lt_of_lt_of_le (lt_of_cell h1) hB
  exact ⟨aj, nj, cj, af, nf, cf, (hb.cell (p := ⟨b, o, none⟩) hl).trans h1, (hb.cell (p := ⟨b, o + 1, none⟩) hl).trans h2, h3.below hb hB, h4.below hb hB⟩
def RndsAt (w : World) (ad : Option Addr) (n cap : Nat) (l : List Rnd) : Prop := l.length = n ∧ n ≤ cap ∧ (cap : Int) ≤ 9223372036854775807 ∧ ∀ k (h : k < l.length), ∃ b o, ad = some ⟨b, o, none⟩ ∧ RndAt w b (o + k * 2) l[k]
namespace RndsAt
variable {w w' : World} {ad : Option Addr} {n cap : Nat} {l : List Rnd}
theorem len (h : RndsAt w ad n cap l) : l.length = n := h.1
theorem le (h : RndsAt w ad n cap l) : n ≤ cap := h.2.1
theorem max (h : RndsAt w ad n cap l) : (cap : Int) ≤ 9223372036854775807 := h.2.2.1
theorem below {B : Nat} (h : RndsAt w ad n cap l) (hb : Below B w w') (hB : w.heap.size ≤ B) : RndsAt w' ad n cap l :=
  ⟨h.1, h.2.1, h.2.2.1, fun k hk => by
    obtain ⟨b, o, e, h2⟩ := h.2.2.2 k hk
    exact ⟨b, o, e, h2.below hb hB⟩⟩
theorem head (h : RndsAt w ad n cap l) (h0 : 0 < n) : ∃ b o, ad = some ⟨b, o, none⟩ := by
  obtain ⟨b, o, e, _⟩ := h.2.2.2 0 (by have := h.1; omega)
  exact ⟨b, o, e⟩
theorem at' {b o : Nat} (h : RndsAt w (some ⟨b, o, none⟩) n cap l) (k : Nat) (hk : k < l.length) : RndAt w b (o + k * 2) l[k] := by
  obtain ⟨b', o', e, h2⟩ := h.2.2.2 k hk
  cases e; exact h2
/-- Its first elements. -/
theorem take (h : RndsAt w ad n cap l) (k : Nat) (hk : k ≤ n) : RndsAt w ad k cap (l.take k) :=
  ⟨by rw [List.length_take, h.1]; omega, by have := h.2.1; omega, h.2.2.1, fun j hj => by
    rw [List.length_take] at hj
    obtain ⟨b, o, e, h2⟩ := h.2.2.2 j (by omega)
    exact ⟨b, o, e, by rw [List.getElem_take]; exact h2⟩⟩
end RndsAt
/-- A record's nine cells. -/
def recV (r : Rec) (ar : Option Addr) (nr cr : Nat) (ag : Option Addr) (ng cg : Nat) (ae : Option Addr) (ne ce : Nat) : Array Value :=
  #[.string r.name, .string r.text, .int .u64 r.seed, .int .i64 r.start, .int .i64 r.clock, .slice ar nr cr, .bool r.ended, .slice ag ng cg, .slice ae ne ce]
structure RecAt (w : World) (r : Rec) (ar : Option Addr) (nr cr : Nat) (ag : Option Addr) (ng cg : Nat) (ae : Option Addr) (ne ce : Nat) : Prop where
  rounds : RndsAt w ar nr cr r.rounds
  goals : HeldL IntC w ag ng cg r.goals
  excl : HeldL BoolC w ae ne ce r.excl
  name : r.name.size ≤ maxLen
  text : r.text.size ≤ maxLen
theorem RecAt.below {w w' : World} {B : Nat} {r : Rec} {ar : Option Addr} {nr cr : Nat} {ag : Option Addr} {ng cg : Nat} {ae : Option Addr} {ne ce : Nat} (h : RecAt w r ar nr cr ag ng cg ae ne ce) (hb : Below B w w') (hB : w.heap.size ≤ B) : RecAt w' r ar nr cr ag ng cg ae ne ce :=
  ⟨h.rounds.below hb hB, h.goals.below hb hB, h.excl.below hb hB, h.name, h.text⟩
/-- What keeps a record's payloads within bounds. -/
structure RecFine (r : Rec) : Prop where
  name : r.name.size ≤ 1000
  seed : 0 ≤ r.seed ∧ r.seed ≤ 18446744073709551615
  start : 0 ≤ r.start ∧ r.start ≤ 9223372036854775807
  clock : 0 ≤ r.clock ∧ r.clock ≤ 9223372036854775807
  text : r.text.size ≤ 10000000
  rounds : r.rounds.length ≤ 1000
  joint : ∀ x ∈ r.rounds, x.joint.length ≤ 1000 ∧ (termsL x.joint).length ≤ 1000000
  faults : ∀ x ∈ r.rounds, x.faults.length ≤ 1000 ∧ ∀ n ∈ x.faults, 0 ≤ n ∧ n ≤ 9223372036854775807
  goals : r.goals.length ≤ 1000 ∧ ∀ n ∈ r.goals, 0 ≤ n ∧ n ≤ 9223372036854775807
end Go.Proofs.YtahbhhenobehfaaGreatDoor
