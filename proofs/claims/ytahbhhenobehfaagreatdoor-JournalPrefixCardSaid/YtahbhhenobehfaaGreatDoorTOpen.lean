/-
  What came in, as lists: a record of a match, opened.
-/
import Derived.Test.YtahbhhenobehfaaGreatDoorRows
import Derived.Test.YtahbhhenobehfaaGreatDoorTRec
import Derived.Test.YtahbhhenobehfaaGreatDoorT19
import Derived.WalkKit
import Derived.ProofKit
import Derived.OpenShut
import Derived.ChangeArms
import Derived.Deep.Slices
namespace Go.Proofs.YtahbhhenobehfaaGreatDoor
open Go.ChangeShapes Go.WideShapes Go.ChangeAt Go.RowKit Go.Deep

theorem list_of {α : Type} (d : α) (n : Nat) (P : Nat → α → Prop) (h : ∀ i, i < n → ∃ y, P i y) : ∃ l : List α, l.length = n ∧ ∀ i, i < n → P i (l.getD i d) := by
  induction n with
  | zero => exact ⟨[], rfl, fun i hi => by omega⟩
  | succ n ih =>
    obtain ⟨l, h1, h2⟩ := ih fun i hi => h i (by omega)
    obtain ⟨y, hy⟩ := h n (by omega)
    refine ⟨l ++ [y], by simp [h1], fun i hi => ?_⟩
    rw [List.getD_eq_getElem?_getD]
    by_cases e : i < n
    · rw [List.getElem?_append_left (by omega), ← List.getD_eq_getElem?_getD]
      exact h2 i e
    · obtain rfl : i = n := by omega
      rw [List.getElem?_append_right (by omega), h1, Nat.sub_self]
      exact hy
theorem getD_at {α : Type} (d : α) {l : List α} {k : Nat} (hk : k < l.length) : l.getD k d = l[k] := by
  rw [List.getD_eq_getElem?_getD, List.getElem?_eq_getElem hk]; rfl
theorem heldL_mk {α : Type} {C : World → Value → α → Prop} {w : World} {ad : Option Addr} {n cap : Nat} (d : α) (hn : n ≤ cap) (hm : (cap : Int) ≤ 9223372036854775807)
    (h : ∀ i, i < n → ∃ (y : α) (b o : Nat) (u : Value), ad = some ⟨b, o, none⟩ ∧ w.cell? ⟨b, o + i, none⟩ = some u ∧ Held C w u y) : ∃ l : List α, HeldL C w ad n cap l := by
  obtain ⟨l, h1, h2⟩ := list_of d n (fun i y => ∃ (b o : Nat) (u : Value), ad = some ⟨b, o, none⟩ ∧ w.cell? ⟨b, o + i, none⟩ = some u ∧ Held C w u y) h
  refine ⟨l, fun w' a => ⟨ad, n, cap, rfl, h1, hn, hm, fun i hi => ?_⟩⟩
  obtain ⟨b, o, u, e, hc, hx⟩ := h2 i (by omega)
  refine ⟨b, o, u, e, a.cell hc trivial, ?_⟩
  have := hx w' a
  rwa [getD_at d hi] at this
theorem add_none' (b o x : Nat) : (⟨b, o, none⟩ : Addr).add x = ⟨b, o + x, none⟩ := by unfold Addr.add; split <;> simp_all
theorem cellsOf_int : Tryz.prog.cellsOf 3 = 1 := by kernel_rfl
theorem cellsOf_bool : Tryz.prog.cellsOf 4 = 1 := by kernel_rfl
theorem cellsOf_str : Tryz.prog.cellsOf 9 = 1 := by kernel_rfl
theorem cellsOf_u64 : Tryz.prog.cellsOf 22 = 1 := by kernel_rfl
theorem cellsOf_ints : Tryz.prog.cellsOf 24 = 1 := by kernel_rfl
theorem cellsOf_bools : Tryz.prog.cellsOf 25 = 1 := by kernel_rfl
theorem cellsOf_terms : Tryz.prog.cellsOf 43 = 1 := by kernel_rfl
theorem cellsOf_rounds : Tryz.prog.cellsOf 23 = 1 := by kernel_rfl
theorem cellsOf_term : Tryz.prog.cellsOf 76 = 2 := by kernel_rfl
theorem cellsOf_round : Tryz.prog.cellsOf 45 = 2 := by kernel_rfl
theorem cellsOf_record : Tryz.prog.cellsOf 27 = 9 := by kernel_rfl
section
variable {H : Type} {enc : TypeId × Value → H} {W : World} {spare : Nat → Bool} {held : Bool}
/-- A slice, whatever its elements: its shape, and each element's cells with their reading at one fuel less. -/
theorem slice_parts {t e : TypeId} {m : Nat} (ht : Tryz.prog.underlying t = some (.slice e)) (he : Tryz.prog.cellsOf e = m) (hm : 0 < m) {fuel : Nat} {cs : List Value} {x : DataW H × List MemPlace} (h : DataW.trod enc Tryz.prog W 0 spare held fuel t cs = some x) :
    ∃ (a : Option Addr) (n cap k : Nat), cs = [.slice a n cap] ∧ fuel ≤ k + 1 ∧ k < fuel + 1 ∧ n ≤ cap ∧ (cap : Int) ≤ 9223372036854775807 ∧
      ∀ i, i < n → ∃ (b o : Nat) (us : List Value) (y : DataW H × List MemPlace), a = some ⟨b, o, none⟩ ∧ us.length = m ∧ (∀ j (_ : j < us.length), W.cell? ⟨b, o + i * m + j, none⟩ = some us[j]) ∧ k < fuel ∧ DataW.trod enc Tryz.prog W 0 spare held k e us = some y := by
  rcases DataW.trod_slice ht h with ⟨hcs, _⟩ | ⟨x, l, c, elems, rest, k, hk, hcs, _, _, hl, hmx, hel, hi, _⟩
  · exact ⟨none, 0, 0, fuel, hcs, by omega, by omega, Nat.le_refl _, by omega, fun i hi => by omega⟩
  · refine ⟨some x, l, c, k, hcs, by omega, by omega, hl, by unfold maxLen at hmx; omega, fun i hin => ?_⟩
    have hc := hi i hin
    rw [List.getElem?_eq_getElem (by omega), he] at hc
    obtain ⟨us, h1, h2⟩ := Option.bind_eq_some_iff.1 hc
    obtain ⟨_, hlen, hat⟩ := World.cells?_some h1
    have hc0 := hi 0 (by omega)
    rw [List.getElem?_eq_getElem (by omega), he] at hc0
    obtain ⟨us0, h10, _⟩ := Option.bind_eq_some_iff.1 hc0
    obtain ⟨_, hlen0, hat0⟩ := World.cells?_some h10
    have z0 := (hat0 0 (by omega)).trans (List.getElem?_eq_getElem (by omega))
    obtain ⟨b, o, spot⟩ := x
    have hs : spot = none := by simpa [Addr.add] using World.cell?_spot z0
    subst hs
    refine ⟨b, o, us, _, rfl, hlen, fun j hj => ?_, by omega, h2⟩
    have z := (hat j (by omega)).trans (List.getElem?_eq_getElem hj)
    rw [add_none', add_none'] at z
    exact z
/-- A slice whose elements take one cell each. -/
theorem slice_of {α : Type} {C : World → Value → α → Prop} (d : α) {t e : TypeId} (ht : Tryz.prog.underlying t = some (.slice e)) (he : Tryz.prog.cellsOf e = 1) (hel : ∀ (fuel : Nat) (u : Value) (x : DataW H × List MemPlace), DataW.trod enc Tryz.prog W 0 spare held fuel e [u] = some x → ∃ y, Held C W u y)
    {fuel : Nat} {cs : List Value} {x : DataW H × List MemPlace} (h : DataW.trod enc Tryz.prog W 0 spare held fuel t cs = some x) : ∃ (a : Option Addr) (n cap : Nat) (l : List α), cs = [.slice a n cap] ∧ HeldL C W a n cap l := by
  obtain ⟨a, n, cap, k, rfl, _, _, hn, hm, hi⟩ := slice_parts ht he (by omega) h
  obtain ⟨l, hl⟩ := heldL_mk d hn hm (C := C) (w := W) (ad := a) fun i hin => by
    obtain ⟨b, o, us, y, e1, e2, e3, _, e4⟩ := hi i hin
    match us, e2, e3, e4 with
    | [u], _, e3, e4 =>
      obtain ⟨z, hz⟩ := hel _ _ _ e4
      have := e3 0 (by simp)
      exact ⟨z, b, o, u, e1, by simpa using this, hz⟩
  exact ⟨a, n, cap, l, rfl, hl⟩
theorem int_of (fuel : Nat) (u : Value) (x : DataW H × List MemPlace) (h : DataW.trod enc Tryz.prog W 0 spare held fuel 3 [u] = some x) : ∃ y, Held IntC W u y := by
  obtain ⟨n, e, _, _⟩ := DataW.trod_int Tryz.underlying3 h
  injection e with e
  subst e
  exact ⟨n, Rests.int _ _ _⟩
theorem bool_of (fuel : Nat) (u : Value) (x : DataW H × List MemPlace) (h : DataW.trod enc Tryz.prog W 0 spare held fuel 4 [u] = some x) : ∃ y, Held BoolC W u y := by
  obtain ⟨n, e, _⟩ := DataW.trod_bool Tryz.underlying4 h
  injection e with e
  subst e
  exact ⟨n, Rests.bool _ _ _⟩
theorem ints_cs {fuel : Nat} {cs : List Value} {x : DataW H × List MemPlace} (h : DataW.trod enc Tryz.prog W 0 spare held fuel 24 cs = some x) : ∃ (a : Option Addr) (n cap : Nat) (l : List Int), cs = [.slice a n cap] ∧ HeldL IntC W a n cap l :=
  slice_of 0 Tryz.underlying24 cellsOf_int int_of h
theorem ints_of {fuel : Nat} {a : Option Addr} {n cap : Nat} {x : DataW H × List MemPlace} (h : DataW.trod enc Tryz.prog W 0 spare held fuel 24 [.slice a n cap] = some x) : ∃ l : List Int, HeldL IntC W a n cap l := by
  obtain ⟨a', n', c', l, e, hl⟩ := ints_cs h
  cases e
  exact ⟨l, hl⟩
theorem bools_cs {fuel : Nat} {cs : List Value} {x : DataW H × List MemPlace} (h : DataW.trod enc Tryz.prog W 0 spare held fuel 25 cs = some x) : ∃ (a : Option Addr) (n cap : Nat) (l : List Bool), cs = [.slice a n cap] ∧ HeldL BoolC W a n cap l :=
  slice_of false Tryz.underlying25 cellsOf_bool bool_of h
theorem tmL_mk {w : World} {ad : Option Addr} : ∀ (l : List Tm) (i : Nat), (∀ j (h : j < l.length), ∃ b o s a, ad = some ⟨b, o, none⟩ ∧ w.cell? ⟨b, o + (i + j) * 2, none⟩ = some s ∧ w.cell? ⟨b, o + (i + j) * 2 + 1, none⟩ = some a ∧ TmV w s a l[j]) → TmL w ad i l
  | [], _, _ => trivial
  | t :: r, i, h => by
    refine ⟨?_, tmL_mk r (i + 1) fun j hj => ?_⟩
    · have := h 0 (by simp)
      simpa using this
    · have := h (j + 1) (by simp; omega)
      rw [show i + 1 + j = i + (j + 1) by omega]
      simpa using this
theorem tms_mk {w : World} {ad : Option Addr} {n cap : Nat} (hn : n ≤ cap) (hm : (cap : Int) ≤ 9223372036854775807)
    (h : ∀ i, i < n → ∃ (y : Tm) (b o : Nat) (s a : Value), ad = some ⟨b, o, none⟩ ∧ w.cell? ⟨b, o + i * 2, none⟩ = some s ∧ w.cell? ⟨b, o + i * 2 + 1, none⟩ = some a ∧ TmV w s a y) : ∃ l : List Tm, TmsAt w ad n cap l := by
  obtain ⟨l, h1, h2⟩ := list_of (.mk ByteArray.empty []) n (fun i y => ∃ (b o : Nat) (s a : Value), ad = some ⟨b, o, none⟩ ∧ w.cell? ⟨b, o + i * 2, none⟩ = some s ∧ w.cell? ⟨b, o + i * 2 + 1, none⟩ = some a ∧ TmV w s a y) h
  refine ⟨l, h1, hn, hm, tmL_mk l 0 fun j hj => ?_⟩
  have := h2 j (by omega)
  rw [getD_at _ hj] at this
  rw [Nat.zero_add]
  exact this
theorem terms_cs : ∀ (fuel : Nat) (cs : List Value) (x : DataW H × List MemPlace), DataW.trod enc Tryz.prog W 0 spare held fuel 43 cs = some x → ∃ (a : Option Addr) (n cap : Nat) (l : List Tm), cs = [.slice a n cap] ∧ TmsAt W a n cap l := by
  intro fuel
  induction fuel using Nat.strongRecOn with
  | _ fuel ih =>
    intro cs x h
    obtain ⟨a, n, cap, k, rfl, _, _, hn, hm, hi⟩ := slice_parts Tryz.underlying43 cellsOf_term (by omega) h
    obtain ⟨l, hl⟩ := tms_mk hn hm (w := W) (ad := a) fun i hin => by
      obtain ⟨b, o, us, y, e1, e2, e3, hk, e4⟩ := hi i hin
      match us, e2, e3, e4 with
      | [c0, c1], _, e3, e4 =>
        obtain ⟨xs, q, hq, _, _, hxl, hf⟩ := DataW.trod_struct Tryz.underlying76 e4
        have hx2 : xs.length = 2 := hxl
        have g0 : DataW.trod enc Tryz.prog W 0 spare held q 9 (List.take (Tryz.prog.cellsOf 9) (List.drop 0 [c0, c1])) = xs[0]? := hf 0 _ rfl
        have g1 : DataW.trod enc Tryz.prog W 0 spare held q 43 (List.take (Tryz.prog.cellsOf 43) (List.drop 1 [c0, c1])) = xs[1]? := hf 1 _ rfl
        rw [cellsOf_str, List.getElem?_eq_getElem (by omega)] at g0
        rw [cellsOf_terms, List.getElem?_eq_getElem (by omega)] at g1
        obtain ⟨s, es, _, hs⟩ := DataW.trod_string Tryz.underlying9 g0
        obtain ⟨a2, n2, cap2, l2, ea, hl2⟩ := ih q (by omega) _ _ g1
        have es' : c0 = .string s := by simpa using es
        have ea' : c1 = .slice a2 n2 cap2 := by simpa using ea
        have z0 := e3 0 (by simp)
        have z1 := e3 1 (by simp)
        exact ⟨.mk s l2, b, o, c0, c1, e1, by simpa using z0, by simpa using z1, es', hs, a2, cap2, by rw [ea', hl2.1], by rw [hl2.1]; exact hl2.2.1, hl2.2.2.1, hl2.2.2.2⟩
    exact ⟨a, n, cap, l, rfl, hl⟩
theorem rnds_mk {w : World} {ad : Option Addr} {n cap : Nat} (hn : n ≤ cap) (hm : (cap : Int) ≤ 9223372036854775807)
    (h : ∀ i, i < n → ∃ (y : Rnd) (b o : Nat), ad = some ⟨b, o, none⟩ ∧ RndAt w b (o + i * 2) y) : ∃ l : List Rnd, RndsAt w ad n cap l := by
  obtain ⟨l, h1, h2⟩ := list_of ⟨[], []⟩ n (fun i y => ∃ (b o : Nat), ad = some ⟨b, o, none⟩ ∧ RndAt w b (o + i * 2) y) h
  refine ⟨l, h1, hn, hm, fun j hj => ?_⟩
  have := h2 j (by omega)
  rw [getD_at _ hj] at this
  exact this
theorem rounds_cs {fuel : Nat} {cs : List Value} {x : DataW H × List MemPlace} (h : DataW.trod enc Tryz.prog W 0 spare held fuel 23 cs = some x) : ∃ (a : Option Addr) (n cap : Nat) (l : List Rnd), cs = [.slice a n cap] ∧ RndsAt W a n cap l := by
  obtain ⟨a, n, cap, k, rfl, _, _, hn, hm, hi⟩ := slice_parts Tryz.underlying23 cellsOf_round (by omega) h
  obtain ⟨l, hl⟩ := rnds_mk hn hm (w := W) (ad := a) fun i hin => by
    obtain ⟨b, o, us, y, e1, e2, e3, hk, e4⟩ := hi i hin
    match us, e2, e3, e4 with
    | [c0, c1], _, e3, e4 =>
      obtain ⟨xs, q, hq, _, _, hxl, hf⟩ := DataW.trod_struct Tryz.underlying45 e4
      have hx2 : xs.length = 2 := hxl
      have g0 : DataW.trod enc Tryz.prog W 0 spare held q 43 (List.take (Tryz.prog.cellsOf 43) (List.drop 0 [c0, c1])) = xs[0]? := hf 0 _ rfl
      have g1 : DataW.trod enc Tryz.prog W 0 spare held q 24 (List.take (Tryz.prog.cellsOf 24) (List.drop 1 [c0, c1])) = xs[1]? := hf 1 _ rfl
      rw [cellsOf_terms, List.getElem?_eq_getElem (by omega)] at g0
      rw [cellsOf_ints, List.getElem?_eq_getElem (by omega)] at g1
      obtain ⟨aj, nj, cj, lj, ej, hj⟩ := terms_cs _ _ _ g0
      obtain ⟨af, nf, cf, lf, ef, hf2⟩ := ints_cs g1
      have ej' : c0 = .slice aj nj cj := by simpa using ej
      have ef' : c1 = .slice af nf cf := by simpa using ef
      have z0 := e3 0 (by simp)
      have z1 := e3 1 (by simp)
      simp only [List.getElem_cons_zero, List.getElem_cons_succ, Nat.add_zero] at z0 z1
      exact ⟨⟨lj, lf⟩, b, o, e1, aj, nj, cj, af, nf, cf, by rw [← ej']; exact z0, by rw [← ef']; exact z1, hj, hf2⟩
  exact ⟨a, n, cap, l, rfl, hl⟩
/-- A RECORD THAT CAME IN. -/
theorem record_of {fuel : Nat} {cs : List Value} {x : DataW H × List MemPlace} (hl : cs.length = 9) (h : DataW.trod enc Tryz.prog W 0 spare held fuel 27 cs = some x) :
    ∃ (r : Rec) (ar : Option Addr) (nr cr : Nat) (ag : Option Addr) (ng cg : Nat) (ae : Option Addr) (ne ce : Nat), cs = (recV r ar nr cr ag ng cg ae ne ce).toList ∧ RecAt W r ar nr cr ag ng cg ae ne ce ∧ 0 ≤ r.seed ∧ r.seed ≤ 18446744073709551615 := by
  obtain ⟨c0, c1, c2, c3, c4, c5, c6, c7, c8, rfl⟩ : ∃ c0 c1 c2 c3 c4 c5 c6 c7 c8, cs = [c0, c1, c2, c3, c4, c5, c6, c7, c8] := by
    match cs, hl with
    | [c0, c1, c2, c3, c4, c5, c6, c7, c8], _ => exact ⟨_, _, _, _, _, _, _, _, _, rfl⟩
  obtain ⟨xs, q, _, _, _, hxl, hf⟩ := DataW.trod_struct Tryz.underlying27 h
  have hx9 : xs.length = 9 := hxl
  have g0 : DataW.trod enc Tryz.prog W 0 spare held q 9 (List.take (Tryz.prog.cellsOf 9) (List.drop 0 [c0, c1, c2, c3, c4, c5, c6, c7, c8])) = xs[0]? := hf 0 _ rfl
  have g1 : DataW.trod enc Tryz.prog W 0 spare held q 9 (List.take (Tryz.prog.cellsOf 9) (List.drop 1 [c0, c1, c2, c3, c4, c5, c6, c7, c8])) = xs[1]? := hf 1 _ rfl
  have g2 : DataW.trod enc Tryz.prog W 0 spare held q 22 (List.take (Tryz.prog.cellsOf 22) (List.drop 2 [c0, c1, c2, c3, c4, c5, c6, c7, c8])) = xs[2]? := hf 2 _ rfl
  have g3 : DataW.trod enc Tryz.prog W 0 spare held q 3 (List.take (Tryz.prog.cellsOf 3) (List.drop 3 [c0, c1, c2, c3, c4, c5, c6, c7, c8])) = xs[3]? := hf 3 _ rfl
  have g4 : DataW.trod enc Tryz.prog W 0 spare held q 3 (List.take (Tryz.prog.cellsOf 3) (List.drop 4 [c0, c1, c2, c3, c4, c5, c6, c7, c8])) = xs[4]? := hf 4 _ rfl
  have g5 : DataW.trod enc Tryz.prog W 0 spare held q 23 (List.take (Tryz.prog.cellsOf 23) (List.drop 5 [c0, c1, c2, c3, c4, c5, c6, c7, c8])) = xs[5]? := hf 5 _ rfl
  have g6 : DataW.trod enc Tryz.prog W 0 spare held q 4 (List.take (Tryz.prog.cellsOf 4) (List.drop 6 [c0, c1, c2, c3, c4, c5, c6, c7, c8])) = xs[6]? := hf 6 _ rfl
  have g7 : DataW.trod enc Tryz.prog W 0 spare held q 24 (List.take (Tryz.prog.cellsOf 24) (List.drop 7 [c0, c1, c2, c3, c4, c5, c6, c7, c8])) = xs[7]? := hf 7 _ rfl
  have g8 : DataW.trod enc Tryz.prog W 0 spare held q 25 (List.take (Tryz.prog.cellsOf 25) (List.drop 8 [c0, c1, c2, c3, c4, c5, c6, c7, c8])) = xs[8]? := hf 8 _ rfl
  rw [cellsOf_str, List.getElem?_eq_getElem (by omega)] at g0 g1
  rw [cellsOf_u64, List.getElem?_eq_getElem (by omega)] at g2
  rw [cellsOf_int, List.getElem?_eq_getElem (by omega)] at g3 g4
  rw [cellsOf_rounds, List.getElem?_eq_getElem (by omega)] at g5
  rw [cellsOf_bool, List.getElem?_eq_getElem (by omega)] at g6
  rw [cellsOf_ints, List.getElem?_eq_getElem (by omega)] at g7
  rw [cellsOf_bools, List.getElem?_eq_getElem (by omega)] at g8
  obtain ⟨s0, e0, _, w0⟩ := DataW.trod_string Tryz.underlying9 g0
  obtain ⟨s1, e1, _, w1⟩ := DataW.trod_string Tryz.underlying9 g1
  obtain ⟨n2, e2, _, w2⟩ := DataW.trod_int Tryz.underlying22 g2
  obtain ⟨n3, e3, _, _⟩ := DataW.trod_int Tryz.underlying3 g3
  obtain ⟨n4, e4, _, _⟩ := DataW.trod_int Tryz.underlying3 g4
  obtain ⟨ar, nr, cr, lr, e5, h5⟩ := rounds_cs g5
  obtain ⟨z6, e6, _⟩ := DataW.trod_bool Tryz.underlying4 g6
  obtain ⟨ag, ng, cg, lg, e7, h7⟩ := ints_cs g7
  obtain ⟨ae, ne, ce, le, e8, h8⟩ := bools_cs g8
  clear g0 g1 g2 g3 g4 g5 g6 g7 g8 hf h
  simp only [List.drop_zero, List.drop_succ_cons, List.take_succ_cons, List.take_zero, List.cons.injEq, and_true] at e0 e1 e2 e3 e4 e5 e6 e7 e8
  subst e0 e1 e2 e3 e4 e5 e6 e7 e8
  have hs : 0 ≤ n2 ∧ n2 ≤ 18446744073709551615 := by
    simp only [Lit.wf, Bool.and_eq_true, decide_eq_true_eq] at w2
    rw [show IntKind.u64.min = 0 from rfl, show IntKind.u64.max = 18446744073709551615 from rfl] at w2
    exact w2
  exact ⟨⟨s0, s1, n2, n3, n4, lr, z6, lg, le⟩, ar, nr, cr, ag, ng, cg, ae, ne, ce, rfl, ⟨h5, h7, h8, w0, w1⟩, hs⟩
end
end Go.Proofs.YtahbhhenobehfaaGreatDoor
