/-
  Records of matches: what they are, how they lie in memory, their payloads. No program in sight.
-/
import Derived.Test.YtahbhhenobehfaaGreatDoorSMem
import Derived.Test.YtahbhhenobehfaaGreatDoorTMem
import Derived.Test.YtahbhhenobehfaaGreatDoorTText
import Derived.Test.YtahbhhenobehfaaGreatDoorTEsc
import Derived.Lib.ItoaNum
namespace Go.Proofs.YtahbhhenobehfaaGreatDoor
open Go.RowKit

def numT (n : Int) : List UInt8 := Lib.decDigits n.toNat
def listL (l : List Int) (sep : List UInt8) : List UInt8 := if l.isEmpty then [45] else Lib.join (l.map numT) sep
def termsL (l : List Tm) : List UInt8 := Lib.join (l.map textL) [44, 32]
structure Rnd where
  joint : List Tm
  faults : List Int
structure Rec where
  name : ByteArray
  text : ByteArray
  seed : Int
  start : Int
  clock : Int
  rounds : List Rnd
  ended : Bool
  goals : List Int
  excl : List Bool
def payHead (r : Rec) : List UInt8 := [109, 97, 116, 99, 104, 32] ++ r.name.data.toList ++ [32] ++ numT r.seed ++ [32] ++ numT r.start ++ [32] ++ numT r.clock ++ [32] ++ escL r.text.data.toList
def payRound (x : Rnd) : List UInt8 := [114, 111, 117, 110, 100, 32] ++ escL (termsL x.joint) ++ [32] ++ listL x.faults []
def payOver (r : Rec) : List UInt8 := [111, 118, 101, 114, 32] ++ listL r.goals [44]
def payL (r : Rec) : List (List UInt8) := payHead r :: (r.rounds.map payRound ++ if r.ended then [payOver r] else [])
theorem payHead_join (r : Rec) : Lib.join [[109, 97, 116, 99, 104], r.name.data.toList, numT r.seed, numT r.start, numT r.clock, escL r.text.data.toList] [32] = payHead r := by
  simp [Lib.join, List.intercalate, payHead]

def BoolC (_ : World) (u : Value) (x : Bool) : Prop := u = .bool x
/-- Rounds in memory: two cells each, the joint move and the faults. -/
def RndAt (w : World) (b o : Nat) (x : Rnd) : Prop := ∃ aj nj cj af nf cf, w.cell? ⟨b, o, none⟩ = some (.slice aj nj cj) ∧ w.cell? ⟨b, o + 1, none⟩ = some (.slice af nf cf) ∧ TmsAt w aj nj cj x.joint ∧ HeldL IntC w af nf cf x.faults
theorem RndAt.below {w w' : World} {b o B : Nat} {x : Rnd} (h : RndAt w b o x) (hb : Below B w w') (hB : w.heap.size ≤ B) : RndAt w' b o x := by
  obtain ⟨aj, nj, cj, af, nf, cf, h1, h2, h3, h4⟩ := h
  have hl := Nat.lt_of_lt_of_le (lt_of_cell h1) hB
  exact ⟨aj, nj, cj, af, nf, cf, (hb.cell (p := ⟨b, o, none⟩) hl).trans h1, (hb.cell (p := ⟨b, o + 1, none⟩) hl).trans h2, h3.below hb hB, h4.below hb hB⟩
def RndsAt (w : World) (ad : Option Addr) (n cap : Nat) (l : List Rnd) : Prop := l.length = n ∧ n ≤ cap ∧ (cap : Int) ≤ 9223372036854775807 ∧ ∀ k (h : k < l.length), ∃ b o, ad = some ⟨b, o, none⟩ ∧ RndAt w b (o + k * 2) l[k]
namespace RndsAt
variable {w w' : World} {ad : Option Addr} {n cap : Nat} {l : List Rnd}
theorem len (h : RndsAt w ad n cap l) : l.length = n := h.1
theorem le (h : RndsAt w ad n cap l) : n ≤ cap := h.2.1
theorem max (h : RndsAt w ad n cap l) : (cap : Int) ≤ 9223372036854775807 := h.2.2.1
theorem below {B : Nat} (h : RndsAt w ad n cap l) (hb : Below B w w') (hB : w.heap.size ≤ B) : RndsAt w' ad n cap l :=
  ⟨h.1, h.2.1, h.2.2.1, fun k hk => by
    obtain ⟨b, o, e, h2⟩ := h.2.2.2 k hk
    exact ⟨b, o, e, h2.below hb hB⟩⟩
theorem head (h : RndsAt w ad n cap l) (h0 : 0 < n) : ∃ b o, ad = some ⟨b, o, none⟩ := by
  obtain ⟨b, o, e, _⟩ := h.2.2.2 0 (by have := h.1; omega)
  exact ⟨b, o, e⟩
theorem at' {b o : Nat} (h : RndsAt w (some ⟨b, o, none⟩) n cap l) (k : Nat) (hk : k < l.length) : RndAt w b (o + k * 2) l[k] := by
  obtain ⟨b', o', e, h2⟩ := h.2.2.2 k hk
  cases e; exact h2
/-- Its first elements. -/
theorem take (h : RndsAt w ad n cap l) (k : Nat) (hk : k ≤ n) : RndsAt w ad k cap (l.take k) :=
  ⟨by rw [List.length_take, h.1]; omega, by have := h.2.1; omega, h.2.2.1, fun j hj => by
    rw [List.length_take] at hj
    obtain ⟨b, o, e, h2⟩ := h.2.2.2 j (by omega)
    exact ⟨b, o, e, by rw [List.getElem_take]; exact h2⟩⟩
end RndsAt
/-- A record's nine cells. -/
def recV (r : Rec) (ar : Option Addr) (nr cr : Nat) (ag : Option Addr) (ng cg : Nat) (ae : Option Addr) (ne ce : Nat) : Array Value :=
  #[.string r.name, .string r.text, .int .u64 r.seed, .int .i64 r.start, .int .i64 r.clock, .slice ar nr cr, .bool r.ended, .slice ag ng cg, .slice ae ne ce]
structure RecAt (w : World) (r : Rec) (ar : Option Addr) (nr cr : Nat) (ag : Option Addr) (ng cg : Nat) (ae : Option Addr) (ne ce : Nat) : Prop where
  rounds : RndsAt w ar nr cr r.rounds
  goals : HeldL IntC w ag ng cg r.goals
  excl : HeldL BoolC w ae ne ce r.excl
  name : r.name.size ≤ maxLen
  text : r.text.size ≤ maxLen
theorem RecAt.below {w w' : World} {B : Nat} {r : Rec} {ar : Option Addr} {nr cr : Nat} {ag : Option Addr} {ng cg : Nat} {ae : Option Addr} {ne ce : Nat} (h : RecAt w r ar nr cr ag ng cg ae ne ce) (hb : Below B w w') (hB : w.heap.size ≤ B) : RecAt w' r ar nr cr ag ng cg ae ne ce :=
  ⟨h.rounds.below hb hB, h.goals.below hb hB, h.excl.below hb hB, h.name, h.text⟩
/-- What keeps a record's payloads within bounds. -/
structure RecFine (r : Rec) : Prop where
  name : r.name.size ≤ 1000
  seed : 0 ≤ r.seed ∧ r.seed ≤ 18446744073709551615
  start : 0 ≤ r.start ∧ r.start ≤ 9223372036854775807
  clock : 0 ≤ r.clock ∧ r.clock ≤ 9223372036854775807
  text : r.text.size ≤ 10000000
  rounds : r.rounds.length ≤ 1000
  joint : ∀ x ∈ r.rounds, x.joint.length ≤ 1000 ∧ (termsL x.joint).length ≤ 1000000
  faults : ∀ x ∈ r.rounds, x.faults.length ≤ 1000 ∧ ∀ n ∈ x.faults, 0 ≤ n ∧ n ≤ 9223372036854775807
  goals : r.goals.length ≤ 1000 ∧ ∀ n ∈ r.goals, 0 ≤ n ∧ n ≤ 9223372036854775807
end Go.Proofs.YtahbhhenobehfaaGreatDoor
