/-
  The plain mathematics of package journal: checksums, frames, and the frames that stand at the beginning of bytes. No program in sight.
  Blocks of the call's own: 'Has w b vs T' says that block b of the world w is a block of cells vs of element type T, none of them frozen; how this is kept by new blocks, draws, stores, and by calls that leave old blocks alone ('Below'). No program in sight.
  Bytes in memory: slices of bytes that read as a list; what append of a string onto a row of the call's own and the conversions between bytes and strings leave.
-/
import GoSem.Claim
import Derived.WalkKit
import Derived.OpenShut
import Derived.Test.YtahbhhenobehfaaGreatDoorRows
import Derived.Lib.AppendStr
import Derived.Laws.IdiomStrings
import Derived.Laws.BytesArg
import Derived.Deep.Draws
namespace Go.Proofs.YtahbhhenobehfaaGreatDoor
open Go.RowKit

/-- The checksum (FNV-1a with 32 bits). -/
def hashStep (h b : Int) : Int := IntKind.u32.wrap (bits BinOp.xor IntKind.u32 h b * 16777619)
def hash (h : Int) : List UInt8 → Int
  | [] => h
  | b :: r => hash (hashStep h b.toNat) r
def sum32 (l : List UInt8) : Int := hash 2166136261 l
theorem wrap_u32' (n : Int) : IntKind.u32.wrap n = n % 4294967296 := by rw [IntKind.wrap_u32]
theorem wrap_u8' (n : Int) : IntKind.u8.wrap n = n % 256 := by rw [IntKind.wrap_u8]
theorem hash_bd : ∀ (l : List UInt8) (h : Int), 0 ≤ h ∧ h ≤ 4294967295 → 0 ≤ hash h l ∧ hash h l ≤ 4294967295
  | [], _, hh => hh
  | b :: r, h, _ => by
    rw [hash]
    exact hash_bd r _ (by unfold hashStep; rw [wrap_u32']; omega)
theorem sum32_bd (l : List UInt8) : 0 ≤ sum32 l ∧ sum32 l ≤ 4294967295 := hash_bd l _ (by omega)
theorem u32_byte (b : UInt8) : IntKind.u32.wrap (b.toNat : Int) = b.toNat := IntWalk.u32_in _ (by have := b.toNat_lt; omega)
theorem hash_snoc (l : List UInt8) (b : UInt8) : ∀ h, hash h (l ++ [b]) = hashStep (hash h l) b.toNat := by
  induction l with
  | nil => intro h; rfl
  | cons x r ih => intro h; exact ih _
theorem hash_take (s : ByteArray) (k : Nat) (hk : k < s.size) (h : Int) : hash h (s.data.toList.take (k + 1)) = bits BinOp.xor IntKind.u32 (hash h (s.data.toList.take k)) ((s[k].toNat : Int) % 4294967296) * 16777619 % 4294967296 := by
  rw [List.take_succ_eq_append_getElem (by simpa using hk), hash_snoc, ← wrap_u32', ← wrap_u32', u32_byte]; rfl

/-- A byte of a number. -/
def byte (n : Int) : UInt8 := UInt8.ofNat (n % 256).toNat
theorem byte_toNat (n : Int) : ((byte n).toNat : Int) = n % 256 := by
  unfold byte
  rw [UInt8.toNat_ofNat']
  omega
/-- The head of a frame, and the frame. -/
def headL (l : List UInt8) : List UInt8 := [byte ((l.length : Int) / 256), byte l.length, byte (sum32 l / 16777216), byte (sum32 l / 65536), byte (sum32 l / 256), byte (sum32 l)]
def frameL (l : List UInt8) : List UInt8 := headL l ++ l
theorem headL_length (l : List UInt8) : (headL l).length = 6 := rfl
theorem frameL_length (l : List UInt8) : (frameL l).length = l.length + 6 := by simp [frameL, headL_length]; omega

/-- A byte as a number; the payload of the whole frame at the beginning, and the rest. -/
def bt (l : List UInt8) (i : Nat) : Int := ((l.getD i 0).toNat : Int)
def cutL (l : List UInt8) : Option (List UInt8 × List UInt8) :=
  if l.length < 6 then none
  else if (l.length : Int) < 6 + (bt l 0 * 256 + bt l 1) then none
  else if sum32 ((l.drop 6).take (bt l 0 * 256 + bt l 1).toNat) = bt l 2 * 16777216 + bt l 3 * 65536 + bt l 4 * 256 + bt l 5 then
    some ((l.drop 6).take (bt l 0 * 256 + bt l 1).toNat, l.drop (6 + (bt l 0 * 256 + bt l 1).toNat))
  else none
theorem bt_bd (l : List UInt8) (i : Nat) : 0 ≤ bt l i ∧ bt l i ≤ 255 := by
  unfold bt
  have := (l.getD i 0).toNat_lt
  omega
/-- The payloads of the whole frames at the beginning, and what is left (the number bounds how many are looked for). -/
def scanN : Nat → List UInt8 → List (List UInt8) × List UInt8
  | 0, l => ([], l)
  | n + 1, l => match cutL l with
    | none => ([], l)
    | some (p, r) => (p :: (scanN n r).1, (scanN n r).2)
def scanL (l : List UInt8) : List (List UInt8) × List UInt8 := scanN l.length l
theorem cutL_rest {l p r : List UInt8} (h : cutL l = some (p, r)) : r.length + 6 + p.length = l.length ∧ p.length ≤ 65535 := by
  unfold cutL at h
  have h0 := bt_bd l 0
  have h1 := bt_bd l 1
  split at h
  · cases h
  · split at h
    · cases h
    · split at h
      · injection h with h
        injection h with hp hr
        subst hp hr
        simp only [List.length_take, List.length_drop]
        omega
      · cases h
theorem scanN_more : ∀ (n m : Nat) (l : List UInt8), l.length ≤ n → l.length ≤ m → scanN n l = scanN m l
  | 0, 0, _, _, _ => rfl
  | 0, m + 1, l, h, _ => by
    have : cutL l = none := by unfold cutL; rw [if_pos (by omega)]
    simp [scanN, this]
  | n + 1, 0, l, _, h => by
    have : cutL l = none := by unfold cutL; rw [if_pos (by omega)]
    simp [scanN, this]
  | n + 1, m + 1, l, h1, h2 => by
    cases hc : cutL l with
    | none => simp [scanN, hc]
    | some x =>
      obtain ⟨p, r⟩ := x
      have := cutL_rest hc
      simp only [scanN, hc]
      rw [scanN_more n m r (by omega) (by omega)]
theorem scanL_none {l : List UInt8} (h : cutL l = none) : scanL l = ([], l) := by
  unfold scanL
  cases hl : l.length with
  | zero => rfl
  | succ n => simp [scanN, h]
theorem scanL_some {l p r : List UInt8} (h : cutL l = some (p, r)) : scanL l = (p :: (scanL r).1, (scanL r).2) := by
  have hr := cutL_rest h
  unfold scanL
  obtain ⟨n, hn⟩ : ∃ n, l.length = n + 1 := ⟨l.length - 1, by omega⟩
  rw [hn]
  simp only [scanN, h]
  rw [scanN_more n r.length r (by omega) (Nat.le_refl _)]
theorem u8_ext {a b : UInt8} (h : (a.toNat : Int) = b.toNat) : a = b := UInt8.toNat_inj.1 (by omega)
/-- The frame of the payload stands there exactly if its checksum does. -/
theorem frame_iff (x0 x1 x2 x3 x4 x5 : UInt8) (rest : List UInt8) (n : Nat) (hn : (n : Int) = (x0.toNat : Int) * 256 + x1.toNat) (hl : n ≤ rest.length) :
    frameL (rest.take n) = x0 :: x1 :: x2 :: x3 :: x4 :: x5 :: rest.take n ↔ sum32 (rest.take n) = (x2.toNat : Int) * 16777216 + (x3.toNat : Int) * 65536 + (x4.toNat : Int) * 256 + x5.toNat := by
  have hlen : ((rest.take n).length : Int) = n := by rw [List.length_take]; omega
  have hb := sum32_bd (rest.take n)
  have b0 := x0.toNat_lt
  have b1 := x1.toNat_lt
  have b2 := x2.toNat_lt
  have b3 := x3.toNat_lt
  have b4 := x4.toNat_lt
  have b5 := x5.toNat_lt
  unfold frameL headL
  rw [hlen]
  generalize hs : sum32 (rest.take n) = S at *
  simp only [List.cons_append, List.nil_append, List.cons.injEq, and_true]
  constructor
  · rintro ⟨_, _, h2, h3, h4, h5⟩
    have e2 := byte_toNat (S / 16777216)
    have e3 := byte_toNat (S / 65536)
    have e4 := byte_toNat (S / 256)
    have e5 := byte_toNat S
    rw [h2] at e2
    rw [h3] at e3
    rw [h4] at e4
    rw [h5] at e5
    omega
  · intro h
    refine ⟨u8_ext ?_, u8_ext ?_, u8_ext ?_, u8_ext ?_, u8_ext ?_, u8_ext ?_⟩ <;> rw [byte_toNat] <;> omega
theorem six (x : List UInt8) (h : 6 ≤ x.length) : ∃ x0 x1 x2 x3 x4 x5 rest, x = x0 :: x1 :: x2 :: x3 :: x4 :: x5 :: rest := by
  rcases x with _ | ⟨x0, x⟩
  · simp at h
  rcases x with _ | ⟨x1, x⟩
  · simp at h
  rcases x with _ | ⟨x2, x⟩
  · simp at h
  rcases x with _ | ⟨x3, x⟩
  · simp at h
  rcases x with _ | ⟨x4, x⟩
  · simp at h
  rcases x with _ | ⟨x5, x⟩
  · simp at h
  exact ⟨x0, x1, x2, x3, x4, x5, x, rfl⟩
theorem frame_cut (x : List UInt8) (n : Nat) (hn : (n : Int) = bt x 0 * 256 + bt x 1) (hl : 6 + n ≤ x.length) :
    frameL ((x.drop 6).take n) = x.take (6 + n) ↔ sum32 ((x.drop 6).take n) = bt x 2 * 16777216 + bt x 3 * 65536 + bt x 4 * 256 + bt x 5 := by
  obtain ⟨x0, x1, x2, x3, x4, x5, rest, rfl⟩ := six x (by omega)
  have e : (x0 :: x1 :: x2 :: x3 :: x4 :: x5 :: rest).take (6 + n) = x0 :: x1 :: x2 :: x3 :: x4 :: x5 :: rest.take n := by
    rw [show 6 + n = n + 1 + 1 + 1 + 1 + 1 + 1 from by omega]
    simp only [List.take_succ_cons]
  rw [e]
  exact frame_iff x0 x1 x2 x3 x4 x5 rest n hn (by simp only [List.length_cons] at hl; omega)
/-- What cutL says, by the frame. -/
theorem cutL_of (x : List UInt8) (n : Nat) (hn : (n : Int) = bt x 0 * 256 + bt x 1) (hl : 6 + n ≤ x.length) :
    cutL x = if frameL ((x.drop 6).take n) = x.take (6 + n) then some ((x.drop 6).take n, x.drop (6 + n)) else none := by
  have e : (bt x 0 * 256 + bt x 1).toNat = n := by omega
  unfold cutL
  rw [if_neg (by omega), if_neg (by omega), e]
  by_cases h : frameL ((x.drop 6).take n) = x.take (6 + n)
  · rw [if_pos h, if_pos ((frame_cut x n hn hl).1 h)]
  · rw [if_neg h, if_neg (fun hs => h ((frame_cut x n hn hl).2 hs))]
theorem cutL_short (x : List UInt8) (h : x.length < 6) : cutL x = none := by unfold cutL; rw [if_pos h]
theorem cutL_torn (x : List UInt8) (n : Nat) (hn : (n : Int) = bt x 0 * 256 + bt x 1) (h : x.length < 6 + n) : cutL x = none := by
  unfold cutL
  by_cases h6 : x.length < 6
  · rw [if_pos h6]
  · rw [if_neg h6, if_pos (by omega)]
end Go.Proofs.YtahbhhenobehfaaGreatDoor
namespace Go.Proofs.YtahbhhenobehfaaGreatDoor
open Go.RowKit

theorem hid {p : Prop} (h : p) : Hid p := h
theorem ret_int {k : IntKind} {a b : Int} (h : a = b) : Ending.returned (.int k a) = .returned (.int k b) := by rw [h]

def Has (w : World) (b : Nat) (vs : Array Value) (T : TypeId) : Prop := w.heap[b]? = some (.cells vs T (0, 0))

namespace Has
variable {w w' : World} {b : Nat} {vs : Array Value} {T : TypeId}

theorem lt (h : Has w b vs T) : b < w.heap.size := lt_of_block h
theorem cell (h : Has w b vs T) {j : Nat} {v : Value} (hv : vs[j]? = some v) : w.cell? ⟨b, j, none⟩ = some v := by
  unfold Has at h; simp [World.cell?, h, hv]
theorem free (h : Has w b vs T) (j : Nat) : w.frozen? ⟨b, j, none⟩ = false := by
  unfold Has at h; simp [World.frozen?, h]
theorem new (w : World) (vs : Array Value) (T : TypeId) : Has (w.alloc (.cells vs T)) w.heap.size vs T := by
  show (w.heap.push _)[w.heap.size]? = _
  simp
theorem newAt {n : Nat} (hn : n = w.heap.size) : Has (w.alloc (.cells vs T)) n vs T := by
  subst hn; exact new _ _ _
theorem alloc (h : Has w b vs T) (o : Obj) : Has (w.alloc o) b vs T := by
  unfold Has; rw [Below.heap_alloc _ _ _ h.lt]; exact h
theorem drew (h : Has w b vs T) : Has w.drew b vs T := h
theorem other (h : Has w b vs T) {a : Addr} (ha : b ≠ a.block) (u : Value) : Has (w.setCell a u) b vs T := by
  unfold Has; rw [Below.heap_setCell _ _ _ _ ha]; exact h
theorem set (h : Has w b vs T) (j : Nat) (u : Value) : Has (w.setCell ⟨b, j, none⟩ u) b (vs.setIfInBounds j u) T := by
  have hlt := h.lt
  have h' : w.heap[b] = .cells vs T (0, 0) := by unfold Has at h; simpa [Array.getElem?_eq_getElem hlt] using h
  show (w.heap.modify b _)[b]? = _
  rw [Array.getElem?_eq_getElem (by simpa using hlt), Array.getElem_modify_self, h']
  rfl
theorem below {B : Nat} (h : Has w b vs T) (hb : Below B w w') (hB : b < B) : Has w' b vs T := by
  unfold Has; rw [hb.block b hB]; exact h
end Has
/-- A block of one cell, whatever it holds. -/
def Has1 (w : World) (b : Nat) (T : TypeId) : Prop := ∃ v, Has w b #[v] T
namespace Has1
variable {w w' : World} {b : Nat} {T : TypeId}
theorem of {v : Value} (h : Has w b #[v] T) : Has1 w b T := ⟨v, h⟩
theorem alloc (h : Has1 w b T) (o : Obj) : Has1 (w.alloc o) b T := ⟨_, h.choose_spec.alloc o⟩
theorem newAt {v : Value} {n : Nat} (hn : n = w.heap.size) : Has1 (w.alloc (.cells #[v] T)) n T := ⟨v, Has.newAt hn⟩
theorem drew (h : Has1 w b T) : Has1 w.drew b T := h
theorem set (h : Has1 w b T) (u : Value) : Has1 (w.setCell ⟨b, 0, none⟩ u) b T := ⟨u, h.choose_spec.set 0 u⟩
theorem other (h : Has1 w b T) {a : Addr} (ha : b ≠ a.block) (u : Value) : Has1 (w.setCell a u) b T := ⟨_, h.choose_spec.other ha u⟩
end Has1
namespace Has
variable {w w' : World} {b : Nat} {vs : Array Value} {T : TypeId}
/-- A block of one cell, behind a store into it. -/
theorem one (h : Has1 w b T) (u : Value) : Has (w.setCell ⟨b, 0, none⟩ u) b #[u] T := h.choose_spec.set 0 u
end Has

/-- A store outside what is looked at, for 'Below'. -/
theorem bset {B : Nat} {a w : World} (h : Below B a w) {b o : Nat} (hp : B ≤ b) (u : Value) : Below B a (w.setCell ⟨b, o, none⟩ u) := h.setCell (p := ⟨b, o, none⟩) hp u

/-- Of the blocks that w has, w' has changed at most those of the list l; new blocks may be there. -/
structure Only (l : List Nat) (w w' : World) : Prop where
  os : w'.os = w.os
  tape : w'.tape = w.tape
  output : w'.output = w.output
  size : w.heap.size ≤ w'.heap.size
  block : ∀ k, k < w.heap.size → k ∉ l → w'.heap[k]? = w.heap[k]?

namespace Only
variable {l : List Nat} {w a w' : World}
theorem refl (l : List Nat) (w : World) : Only l w w := ⟨rfl, rfl, rfl, Nat.le_refl _, fun _ _ _ => rfl⟩
theorem trans {l' : List Nat} {b : World} (h : Only l w a) (k : Only l' a b) (hl : ∀ x ∈ l', x ∈ l ∨ w.heap.size ≤ x) : Only l w b :=
  ⟨k.os.trans h.os, k.tape.trans h.tape, k.output.trans h.output, Nat.le_trans h.size k.size, fun i hi hn => (k.block i (Nat.lt_of_lt_of_le hi h.size) (fun hm => by
    rcases hl i hm with h' | h'
    · exact hn h'
    · omega)).trans (h.block i hi hn)⟩
theorem drew (h : Only l w a) : Only l w a.drew := ⟨h.os, h.tape, h.output, h.size, h.block⟩
theorem alloc (h : Only l w a) (o : Obj) : Only l w (a.alloc o) :=
  ⟨h.os, h.tape, h.output, by have := h.size; simp; omega, fun k hk hn => (Below.heap_alloc _ _ _ (Nat.lt_of_lt_of_le hk h.size)).trans (h.block k hk hn)⟩
theorem setNew (h : Only l w a) {b o : Nat} (hb : w.heap.size ≤ b) (u : Value) : Only l w (a.setCell ⟨b, o, none⟩ u) :=
  ⟨h.os, h.tape, h.output, by have := h.size; simp [World.setCell]; omega, fun k hk hn => (Below.heap_setCell _ _ _ _ (by simp; omega)).trans (h.block k hk hn)⟩
theorem setIn (h : Only l w a) {b o : Nat} (hb : b ∈ l) (u : Value) : Only l w (a.setCell ⟨b, o, none⟩ u) :=
  ⟨h.os, h.tape, h.output, by have := h.size; simp [World.setCell]; omega, fun k hk hn => (Below.heap_setCell _ _ _ _ (by simp; intro e; subst e; exact hn hb)).trans (h.block k hk hn)⟩
theorem below {B : Nat} (h : Only l w a) (k : Below B a w') (hB : w.heap.size ≤ B) : Only l w w' :=
  ⟨k.os.trans h.os, k.tape.trans h.tape, k.output.trans h.output, Nat.le_trans h.size k.size, fun i hi hn => (k.block i (by omega)).trans (h.block i hi hn)⟩
theorem ofBelow {B : Nat} (k : Below B w w') (hB : w.heap.size ≤ B) : Only l w w' := (refl l w).below k hB
/-- What changed lies above B: below B all is as it was. -/
theorem toBelow {B : Nat} (h : Only l a w') (k : Below B w a) (hl : ∀ x ∈ l, B ≤ x) (hB : B ≤ a.heap.size) : Below B w w' :=
  k.trans ⟨h.os, h.tape, h.output, h.size, fun i hi => h.block i (by omega) (fun hm => by have := hl i hm; omega)⟩
end Only
theorem Has.only {w w' : World} {l : List Nat} {b : Nat} {vs : Array Value} {T : TypeId} (h : Has w b vs T) (k : Only l w w') (hb : b ∉ l) : Has w' b vs T := by
  unfold Has; rw [k.block b h.lt hb]; exact h

def ints (l : List Int) : Array Value := (l.map (Value.int .i64)).toArray
theorem ints_get (l : List Int) (i : Nat) (h : i < l.length) : (ints l)[i]? = some (.int .i64 (l.getD i 0)) := by
  unfold ints
  simp [List.getD, h]
theorem ints_set (l : List Int) (i : Nat) (x : Int) : (ints l).setIfInBounds i (.int .i64 x) = ints (l.set i x) := by
  unfold ints
  simp [List.map_set]

/-- A slice of integers that starts at ad reads as the list: nothing is said of an empty one's address. -/
def Row (w : World) (ad : Option Addr) (l : List Int) : Prop := ∀ i, i < l.length → ∃ b o, ad = some ⟨b, o, none⟩ ∧ w.cell? ⟨b, o + i, none⟩ = some (.int .i64 (l.getD i 0))
theorem lt_of_cell {w : World} {b o : Nat} {v : Value} (h : w.cell? ⟨b, o, none⟩ = some v) : b < w.heap.size := by
  rcases Nat.lt_or_ge b w.heap.size with h' | h'
  · exact h'
  · simp [World.cell?, Array.getElem?_eq_none h'] at h
theorem Row.below {w w' : World} {ad : Option Addr} {l : List Int} {B : Nat} (h : Row w ad l) (hb : Below B w w') (hB : w.heap.size ≤ B) : Row w' ad l := fun i hi => by
  obtain ⟨b, o, e, hc⟩ := h i hi
  exact ⟨b, o, e, (hb.cell (p := ⟨b, o + i, none⟩) (Nat.lt_of_lt_of_le (lt_of_cell hc) hB)).trans hc⟩
theorem Row.ofHas {w : World} {b : Nat} {l : List Int} {T : TypeId} (h : Has w b (ints l) T) : Row w (some ⟨b, 0, none⟩) l := fun i hi => by
  refine ⟨b, 0, rfl, ?_⟩
  rw [Nat.zero_add]
  exact h.cell (ints_get l i hi)
theorem Row.only {w w' : World} {ad : Option Addr} {l : List Int} {x : List Nat} (h : Row w ad l) (k : Only x w w') (hb : ∀ a, ad = some a → a.block ∉ x) : Row w' ad l := fun i hi => by
  obtain ⟨b, o, e, hc⟩ := h i hi
  exact ⟨b, o, e, (World.cell?_of_block (w := w) (a := ⟨b, o + i, none⟩) (k.block b (lt_of_cell hc) (hb _ e))).trans hc⟩
/-- A slice of integers that came in, as the row's frame tells it: its elements read as a list. -/
theorem row_of {w : World} {a : Option Addr} {len cap : Nat} {zs : List Int}
    (h : (a = none ∧ len = 0 ∧ cap = 0 ∧ zs = []) ∨ ∃ x : Addr, a = some x ∧ len ≤ cap ∧ cap ≤ maxLen ∧ zs.length = cap ∧ (∀ i, i < zs.length → w.cell? (x.add i) = some (.int .i64 (zs.getD i 0))) ∧ ∀ n ∈ zs, (Lit.int .i64 n).wf = true) :
    Row w a (zs.take len) ∧ (zs.take len).length = len ∧ len ≤ 9223372036854775807 := by
  rcases h with ⟨rfl, rfl, rfl, rfl⟩ | ⟨x, rfl, h1, h2, h3, h4, h5⟩
  · exact ⟨fun i hi => by simp at hi, by simp, by omega⟩
  · refine ⟨fun i hi => ?_, by simp; omega, by unfold maxLen at h2; omega⟩
    have hi' : i < len := by simp at hi; omega
    have hc := h4 i (by omega)
    have hc0 := h4 0 (by omega)
    obtain ⟨b, o, spot⟩ := x
    have hs : spot = none := by simpa [Addr.add] using World.cell?_spot hc0
    subst hs
    refine ⟨b, o, rfl, ?_⟩
    have e : (zs.take len).getD i 0 = zs.getD i 0 := by simp [List.getD, hi']
    rw [e]
    by_cases h0 : i = 0
    · subst h0; simpa [Addr.add] using hc
    · simpa [Addr.add, h0] using hc
end Go.Proofs.YtahbhhenobehfaaGreatDoor
namespace Go.Proofs.YtahbhhenobehfaaGreatDoor
open Go.RowKit

/-- Bytes as cells. -/
def bcells (l : List UInt8) : List Value := l.map fun b => Value.int .u8 b.toNat
theorem bcells_length (l : List UInt8) : (bcells l).length = l.length := by simp [bcells]
theorem bcells_append (a b : List UInt8) : bcells (a ++ b) = bcells a ++ bcells b := by simp [bcells]
theorem bcells_str (s : ByteArray) : Lib.strCells s = bcells s.data.toList := rfl
theorem own_of_has {w : World} {g base n : Nat} {vs : Array Value} {e : TypeId} (h : Has w g vs e) (hb : base ≤ g) (hn : vs.size = n) (hm : n ≤ maxLen) :
    w.ownsRow base e 1 (.slice (some ⟨g, 0, none⟩) n n) n vs.toList :=
  ⟨by simp [hn], .inr ⟨g, n, vs, rfl, hb, h, Nat.le_refl _, hm, by omega, by rw [Nat.mul_one, ← hn, ← Array.length_toList]; exact List.take_length⟩⟩
/-- A string made of an owned row of bytes. -/
theorem back_of_own {w : World} {base n : Nat} {v : Value} {l : List UInt8} (h : w.ownsRow base 5 1 v n (bcells l)) (hn : 0 < n) :
    ∃ g cap, v = .slice (some ⟨g, 0, none⟩) n cap ∧ base ≤ g ∧ (convert 65 9 (.slice (some ⟨g, 0, none⟩) n cap)).run Tryz.prog w = .ok (.string ⟨l.toArray⟩) w := by
  have hl : l.length = n := by have := h.1; rw [bcells_length] at this; omega
  rcases h.2 with ⟨_, h0⟩ | ⟨g, cap, cur, rfl, hb, hh, _, _, _, _⟩
  · omega
  · refine ⟨g, cap, rfl, hb, ?_⟩
    have hc := h.cells (g := g) rfl
    rw [← hl]
    exact run_convert_bytes_back w 65 9 5 ⟨g, 0, none⟩ cap l Tryz.underlying65 Tryz.underlying5 Tryz.underlying9 fun j hj => hc j _ (by simp [bcells, hj])
theorem info_byte : (Tryz.prog.info? 5).map (fun i => (i.zero, i.size, i.bytes)) = some (some (.int .u8 0), 1, 1) := by kernel_rfl

/-- A slice of bytes that starts at ad reads as the list: nothing is said of an empty one's address. -/
def RowB (w : World) (ad : Option Addr) (l : List UInt8) : Prop := ∀ i, i < l.length → ∃ b o, ad = some ⟨b, o, none⟩ ∧ w.cell? ⟨b, o + i, none⟩ = some (.int .u8 (bt l i))
theorem RowB.below {w w' : World} {ad : Option Addr} {l : List UInt8} {B : Nat} (h : RowB w ad l) (hb : Below B w w') (hB : w.heap.size ≤ B) : RowB w' ad l := fun i hi => by
  obtain ⟨b, o, e, hc⟩ := h i hi
  exact ⟨b, o, e, (hb.cell (p := ⟨b, o + i, none⟩) (Nat.lt_of_lt_of_le (lt_of_cell hc) hB)).trans hc⟩
theorem RowB.only {w w' : World} {ad : Option Addr} {l : List UInt8} {x : List Nat} (h : RowB w ad l) (k : Only x w w') (hb : ∀ a, ad = some a → a.block ∉ x) : RowB w' ad l := fun i hi => by
  obtain ⟨b, o, e, hc⟩ := h i hi
  exact ⟨b, o, e, (World.cell?_of_block (w := w) (a := ⟨b, o + i, none⟩) (k.block b (lt_of_cell hc) (hb _ e))).trans hc⟩
theorem RowB.head {w : World} {ad : Option Addr} {l : List UInt8} (h : RowB w ad l) (hi : 0 < l.length) : ∃ b o, ad = some ⟨b, o, none⟩ := by
  obtain ⟨b', o', e, _⟩ := h 0 hi
  exact ⟨b', o', e⟩
theorem RowB.at {w : World} {b o : Nat} {l : List UInt8} (h : RowB w (some ⟨b, o, none⟩) l) (i : Nat) (hi : i < l.length) : w.cell? ⟨b, o + i, none⟩ = some (.int .u8 (bt l i)) := by
  obtain ⟨b', o', e, hc⟩ := h i hi
  cases e
  exact hc
theorem RowB.drewN {w : World} {ad : Option Addr} {l : List UInt8} (h : RowB (w.drewN 0) ad l) (k : Nat) : RowB (w.drewN k) ad l := h
theorem RowB.nil (w : World) (ad : Option Addr) : RowB w ad [] := fun i hi => by simp at hi
/-- A part of such a slice. -/
theorem RowB.part {w : World} {b o : Nat} {l : List UInt8} (h : RowB w (some ⟨b, o, none⟩) l) (k n : Nat) : RowB w (some ⟨b, o + k, none⟩) ((l.drop k).take n) := fun i hi => by
  simp only [List.length_take, List.length_drop] at hi
  refine ⟨b, o + k, rfl, ?_⟩
  have := h.at (k + i) (by omega)
  rw [Nat.add_assoc, this]
  congr 2
  unfold bt
  simp [List.getD, show i < n from by omega]
theorem RowB.drop {w : World} {b o : Nat} {l : List UInt8} (h : RowB w (some ⟨b, o, none⟩) l) (k : Nat) : RowB w (some ⟨b, o + k, none⟩) (l.drop k) := by
  have := h.part k (l.length - k)
  rwa [List.take_of_length_le (by simp)] at this
theorem RowB.convert {w : World} {ad : Option Addr} {l : List UInt8} {cap : Nat} (h : RowB w ad l) :
    (convert 65 9 (.slice ad l.length cap)).run Tryz.prog w = .ok (.string ⟨l.toArray⟩) w := by
  cases l with
  | nil =>
    cases ad with
    | none => exact run_convert_bytes_nil w 65 5 Tryz.underlying65 Tryz.underlying5 0 cap 9 Tryz.underlying9
    | some a =>
      have := run_convert_bytes_back (P := Tryz.prog) w 65 9 5 a cap [] Tryz.underlying65 Tryz.underlying5 Tryz.underlying9 (fun j hj => by simp at hj)
      exact this
  | cons x r =>
    obtain ⟨b, o, rfl⟩ := h.head (by simp)
    refine run_convert_bytes_back w 65 9 5 ⟨b, o, none⟩ cap (x :: r) Tryz.underlying65 Tryz.underlying5 Tryz.underlying9 fun j hj => ?_
    have hc := h.at j hj
    have e : (⟨b, o, none⟩ : Addr).add j = ⟨b, o + j, none⟩ := by unfold Addr.add; split <;> simp_all
    rw [e, hc]
    unfold bt
    rw [List.getD_eq_getElem?_getD, List.getElem?_eq_getElem hj]
    rfl
theorem RowB.ofOwn {w : World} {base n cap : Nat} {ad : Option Addr} {l : List UInt8} (h : w.ownsRow base 5 1 (.slice ad n cap) n (bcells l)) : RowB w ad l := fun i hi => by
  have hl : l.length = n := by have := h.1; rw [bcells_length] at this; omega
  rcases h.2 with ⟨_, h0⟩ | ⟨g, cap, cur, hv, hb, hh, _, _, _, _⟩
  · omega
  · injection hv with h1 h2 h3
    subst h1
    refine ⟨g, 0, rfl, ?_⟩
    have hc := h.cells (g := g) rfl i (.int .u8 (bt l i)) (by simp [bcells, hi, bt, List.getD])
    have e : (⟨g, 0, none⟩ : Addr).add i = ⟨g, 0 + i, none⟩ := by unfold Addr.add; split <;> simp_all
    rw [← e]
    exact hc
theorem slice_run (s : ByteArray) (a b : Nat) (A B : Int) (hA : A = (a : Int)) (hB : B = (b : Int)) (h1 : a ≤ b) (h2 : b ≤ s.size) (q : ByteArray) (hq : q = s.extract a b) (wx : World) :
    (Instr.slice 9 (.string s) (some (.int .i64 A)) (some (.int .i64 B)) none).run Tryz.prog wx = .ok (.string q) wx := by
  subst hA hB hq
  have := run_slice_string (P := Tryz.prog) wx 9 s .i64 .i64 (a : Int) (b : Int) Tryz.underlying9 (by omega) (by omega) (by omega)
  simpa using this
theorem extract_list (s : ByteArray) (a b : Nat) : (s.extract a b).data.toList = (s.data.toList.drop a).take (b - a) := by
  simp [ByteArray.data_extract, Array.toList_extract, List.extract_eq_take_drop]
theorem bsize (l : List UInt8) : (ByteArray.mk l.toArray).size = l.length := by simp [ByteArray.size]
/-- The head of a frame as the walk spells its cells. -/
def headV (L c : Int) : Array Value := #[.int .u8 (L / 256), .int .u8 (L % 256), .int .u8 (c / 16777216), .int .u8 (c / 65536 % 256), .int .u8 (c / 256 % 256), .int .u8 (c % 256)]
theorem headV_eq (l : List UInt8) (L c : Int) (hL : (l.length : Int) = L) (h : L < 65536) (hc : c = sum32 l) : (headV L c).toList = bcells (headL l) := by
  have hb := sum32_bd l
  subst hL hc
  unfold headV headL bcells
  simp only [List.map_cons, List.map_nil, byte_toNat]
  rw [show ((l.length : Int) / 256) % 256 = (l.length : Int) / 256 from by omega, show (sum32 l / 16777216) % 256 = sum32 l / 16777216 from by omega]
end Go.Proofs.YtahbhhenobehfaaGreatDoor
