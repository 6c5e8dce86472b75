/-
  Journals in memory; append of a string behind a slice of bytes without spare room.
-/
import Derived.Test.YtahbhhenobehfaaGreatDoorJMem
import Derived.Test.YtahbhhenobehfaaGreatDoorJ3
import Derived.OpenShut
namespace Go.Proofs.YtahbhhenobehfaaGreatDoor
open Go.RowKit

/-- A slice whose cells are numbers of one byte does not lie in a block of other cells. -/
theorem RowB.ne {w : World} {ad : Option Addr} {l : List UInt8} {k : Nat} {vs : Array Value} {T : TypeId} (h : RowB w ad l) (hk : Has w k vs T) (hv : ∀ (i : Nat) (n : Int), vs[i]? ≠ some (.int .u8 n)) (h0 : 0 < l.length) : ∀ a, ad = some a → a.block ≠ k := by
  intro a ha e
  obtain ⟨b, o, e2, hc⟩ := h 0 h0
  rw [ha] at e2
  injection e2 with e2
  subst e2
  have hb : b = k := e
  subst hb
  unfold Has at hk
  simp [World.cell?, hk] at hc
  exact hv _ _ hc
theorem RowB.onlyNe {w w' : World} {ad : Option Addr} {l : List UInt8} {k : Nat} (h : RowB w ad l) (ho : Only [k] w w') (hn : 0 < l.length → ∀ a, ad = some a → a.block ≠ k) : RowB w' ad l := fun i hi => by
  obtain ⟨b, o, e, hc⟩ := h i hi
  exact ⟨b, o, e, (World.cell?_of_block (w := w) (a := ⟨b, o + i, none⟩) (ho.block b (lt_of_cell hc) (by simpa using hn (by omega) _ e))).trans hc⟩

theorem RowB.take {w : World} {ad : Option Addr} {l : List UInt8} (h : RowB w ad l) (k : Nat) : RowB w ad (l.take k) := fun i hi => by
  simp only [List.length_take] at hi
  obtain ⟨b, o, e, hc⟩ := h i (by omega)
  refine ⟨b, o, e, hc.trans ?_⟩
  congr 2
  unfold bt
  simp [List.getD, show i < k from by omega]
/-- A journal of the program in block j; one of the reference in block k. -/
def JAt (w : World) (j : Nat) (B : List UInt8) (f : Int) : Prop :=
  ∃ ad n cap, Has w j #[.bool true, .slice ad n cap, .int .i64 f] 67 ∧ RowB w ad B ∧ B.length = n ∧ n ≤ cap ∧ cap ≤ 9223372036854775807
def KAt (w : World) (k : Nat) (B : List UInt8) (f : Int) : Prop := Has w k #[.string ⟨B.toArray⟩, .int .i64 f] 48
theorem three_ne (x y z : Value) (hx : ∀ n, x ≠ .int .u8 n) (hy : ∀ n, y ≠ .int .u8 n) (hz : ∀ n, z ≠ .int .u8 n) (i : Nat) (n : Int) : (#[x, y, z] : Array Value)[i]? ≠ some (.int .u8 n) := by
  match i with
  | 0 => intro h; injection h with h; exact hx n h
  | 1 => intro h; injection h with h; exact hy n h
  | 2 => intro h; injection h with h; exact hz n h
  | i + 3 => intro h; simp at h
theorem two_ne (x y : Value) (hx : ∀ n, x ≠ .int .u8 n) (hy : ∀ n, y ≠ .int .u8 n) (i : Nat) (n : Int) : (#[x, y] : Array Value)[i]? ≠ some (.int .u8 n) := by
  match i with
  | 0 => intro h; injection h with h; exact hx n h
  | 1 => intro h; injection h with h; exact hy n h
  | i + 2 => intro h; simp at h
theorem JAt.below {w w' : World} {j B' : Nat} {B : List UInt8} {f : Int} (h : JAt w j B f) (hb : Below B' w w') (hB : w.heap.size ≤ B') : JAt w' j B f := by
  obtain ⟨ad, n, cap, h1, h2, h3⟩ := h
  exact ⟨ad, n, cap, h1.below hb (Nat.lt_of_lt_of_le h1.lt hB), h2.below hb hB, h3⟩
theorem JAt.lt {w : World} {j : Nat} {B : List UInt8} {f : Int} (h : JAt w j B f) : j < w.heap.size := by
  obtain ⟨ad, n, cap, h1, h2, h3⟩ := h
  exact h1.lt
theorem KAt.lt {w : World} {k : Nat} {B : List UInt8} {f : Int} (h : KAt w k B f) : k < w.heap.size := Has.lt h
theorem KAt.below {w w' : World} {k B' : Nat} {B : List UInt8} {f : Int} (h : KAt w k B f) (hb : Below B' w w') (hB : w.heap.size ≤ B') : KAt w' k B f := Has.below h hb (Nat.lt_of_lt_of_le h.lt hB)
/-- The two kinds of journals do not share a block; a change of the one leaves the other. -/
theorem JAt.ne {w : World} {j k : Nat} {B C : List UInt8} {f g : Int} (h : JAt w j B f) (hk : KAt w k C g) : j ≠ k := by
  rintro rfl
  obtain ⟨ad, n, cap, h1, _⟩ := h
  unfold KAt Has at hk
  unfold Has at h1
  rw [h1] at hk
  injection hk with hk
  injection hk with h1 h2
  injection h1 with h1
  injection h1 with h1
  cases h1
theorem JAt.onlyK {w w' : World} {j k : Nat} {B C : List UInt8} {f g : Int} (h : JAt w j B f) (hk : KAt w k C g) (ho : Only [k] w w') : JAt w' j B f := by
  have hne := h.ne hk
  obtain ⟨ad, n, cap, h1, h2, h3⟩ := h
  exact ⟨ad, n, cap, h1.only ho (by simpa using hne), h2.onlyNe ho (fun h0 => h2.ne hk (two_ne _ _ (by simp) (by simp)) h0), h3⟩
theorem KAt.onlyJ {w w' : World} {j k : Nat} {B C : List UInt8} {f g : Int} (h : JAt w j B f) (hk : KAt w k C g) (ho : Only [j] w w') : KAt w' k C g :=
  Has.only hk ho (by have := h.ne hk; simp; omega)

/-- append of a string, by what it comes to. -/
theorem wpList_append_str {P : Program} (w : World) {ops : Array Oper} {rest : List Oper} {o : Oper} {a : Act} {Q : Exit → Act → World → Prop} (hgd : o.guard = none) (sl x : Operand) (t u : TypeId)
    (ho : o.op = .call { callee := .builtin .append, args := #[sl, x], argTypes := #[t, u] }) (v : Value) (s : ByteArray) (hs : a.eval sl = v) (hx : a.eval x = .string s) (v' : Value) (w' : World)
    (hr : (Builtin.append_ #[t, u] o.type #[v, .string s]).run P w = .ok v' w') (h : wpList P ops Q rest (a.put o.dst v') w') : wpList P ops Q (o :: rest) a w := by
  refine wpList_plain hgd fun K hK => ?_
  unfold Oper.wp execOp
  simp only [ho, resolve, invoke, builtin, Sem.run_bind, Sem.run_pure, Result.andThen_ok, List.map_toArray, List.map_cons, List.map_nil, hs, hx, hr]
  exact hK _ _ h
/-- A slice of bytes without spare room, and a string behind it: always a new block. -/
theorem run_grow (w : World) (ad : Option Addr) (l : List UInt8) (k : Nat) (s : ByteArray) (h : RowB w ad l) (hl : l.length = k) (hs : 0 < s.size) (hm : k + s.size ≤ 100000000) :
    ∃ cap C, (Builtin.append_ #[65, 9] 65 #[.slice ad k k, .string s]).run Tryz.prog w = .ok (.slice (some ⟨w.heap.size, 0, none⟩) (k + s.size) cap) (w.drew.alloc (.cells C 5)) ∧
      k + s.size ≤ cap ∧ cap ≤ 9223372036854775807 ∧ ∀ i, i < k + s.size → C[i]? = some (.int .u8 (bt (l ++ s.data.toList) i)) := by
  obtain ⟨i0, hi, hz0, hz1, hz2⟩ := info_parts info_byte
  have key : ∀ (old : Nat) (X : Array Value) (Z : Array Value), X.toList = bcells (l ++ s.data.toList) → ∀ i, i < k + s.size → (X ++ Z)[i]? = some (.int .u8 (bt (l ++ s.data.toList) i)) := by
    intro old X Z hX i hi
    have hsz : X.size = k + s.size := by rw [← Array.length_toList, hX, bcells_length]; simp [hl]
    rw [Array.getElem?_append_left (by omega), ← Array.getElem?_toList, hX]
    have hi' : i < (l ++ s.data.toList).length := by simp [hl]; exact hi
    unfold bcells bt
    rw [List.getElem?_map, List.getElem?_eq_getElem hi', List.getD_eq_getElem?_getD, List.getElem?_eq_getElem hi']
    rfl
  have hcs : (Lib.strCells s) = bcells s.data.toList := rfl
  cases ad with
  | none =>
    have hk0 : k = 0 := by
      rcases Nat.eq_zero_or_pos k with h0 | h0
      · exact h0
      · obtain ⟨b, o, e, _⟩ := h 0 (by omega)
        cases e
    subst hk0
    obtain rfl : l = [] := List.eq_nil_of_length_eq_zero hl
    have hr := run_append_nil_string (P := Tryz.prog) w 65 9 65 5 i0 (.int .u8 0) Tryz.underlying65 Tryz.underlying9 hi hz0 s hs (by omega) (by rw [hz2]; omega)
    refine ⟨_, _, by rw [Nat.zero_add]; exact hr, ?_, ?_, ?_⟩
    · rw [Nat.zero_add]; exact grownCap_ge _ _ _ _
    · exact grownCap_le_maxLen _ _ _ _ (by unfold maxLen; omega)
    · refine key 0 _ _ ?_
      rw [Array.toList_map]
      rfl
  | some b =>
    have holds : ∀ j v, (bcells l)[j]? = some v → w.cell? (b.add j) = some v := by
      intro j v hv
      have hj : j < l.length := by rw [← bcells_length l]; exact (List.getElem?_eq_some_iff.1 hv).1
      obtain ⟨b', o', e, hc⟩ := h j hj
      cases e
      have e2 : (⟨b', o', none⟩ : Addr).add j = ⟨b', o' + j, none⟩ := by unfold Addr.add; split <;> simp_all
      rw [e2, hc, ← hv]
      unfold bcells bt
      rw [List.getElem?_map, List.getElem?_eq_getElem hj, List.getD_eq_getElem?_getD, List.getElem?_eq_getElem hj]
      rfl
    have hr := Lib.run_append_grow_string (P := Tryz.prog) w 65 9 65 5 i0 (.int .u8 0) Tryz.underlying65 Tryz.underlying9 hi hz0 b k k (bcells l) (by rw [hz1, bcells_length]; omega) holds s (by omega) (by omega) (by rw [hz2]; exact growslice_fits (by omega) (by omega))
    refine ⟨_, _, hr, grownCap_ge _ _ _ _, grownCap_le_maxLen _ _ _ _ (by unfold maxLen; omega), ?_⟩
    refine key k _ _ ?_
    rw [hcs]
    simp [bcells]
end Go.Proofs.YtahbhhenobehfaaGreatDoor
