/-
  What came in, as lists: a record of a match, opened.
  Lists in memory whose elements take several cells each: slices of the call's own that grow by append, nested to any depth. No program in sight.
-/
import Derived.Test.YtahbhhenobehfaaGreatDoorRows
import Derived.Test.YtahbhhenobehfaaGreatDoorM9
import Derived.Test.YtahbhhenobehfaaGreatDoorM11
import Derived.WalkKit
import Derived.ProofKit
import Derived.OpenShut
import Derived.ChangeArms
import Derived.Deep.Slices
import Derived.Test.YtahbhhenobehfaaGreatDoorNSMem
import Derived.Laws.OwnMore
namespace Go.Proofs.YtahbhhenobehfaaGreatDoor
open Go.ChangeShapes Go.WideShapes Go.ChangeAt Go.RowKit Go.Deep

theorem list_of {α : Type} (d : α) (n : Nat) (P : Nat → α → Prop) (h : ∀ i, i < n → ∃ y, P i y) : ∃ l : List α, l.length = n ∧ ∀ i, i < n → P i (l.getD i d) := by
  induction n with
  | zero => exact ⟨[], rfl, fun i hi => by omega⟩
  | succ n ih =>
    obtain ⟨l, h1, h2⟩ := ih fun i hi => h i (by omega)
    obtain ⟨y, hy⟩ := h n (by omega)
    refine ⟨l ++ [y], by simp [h1], fun i hi => ?_⟩
    rw [List.getD_eq_getElem?_getD]
    by_cases e : i < n
    · rw [List.getElem?_append_left (by omega), ← List.getD_eq_getElem?_getD]
      exact h2 i e
    · obtain rfl : i = n := by omega
      rw [List.getElem?_append_right (by omega), h1, Nat.sub_self]
      exact hy
theorem getD_at {α : Type} (d : α) {l : List α} {k : Nat} (hk : k < l.length) : l.getD k d = l[k] := by
  rw [List.getD_eq_getElem?_getD, List.getElem?_eq_getElem hk]; rfl
theorem heldL_mk {α : Type} {C : World → Value → α → Prop} {w : World} {ad : Option Addr} {n cap : Nat} (d : α) (hn : n ≤ cap) (hm : (cap : Int) ≤ 9223372036854775807)
    (h : ∀ i, i < n → ∃ (y : α) (b o : Nat) (u : Value), ad = some ⟨b, o, none⟩ ∧ w.cell? ⟨b, o + i, none⟩ = some u ∧ Held C w u y) : ∃ l : List α, HeldL C w ad n cap l := by
  obtain ⟨l, h1, h2⟩ := list_of d n (fun i y => ∃ (b o : Nat) (u : Value), ad = some ⟨b, o, none⟩ ∧ w.cell? ⟨b, o + i, none⟩ = some u ∧ Held C w u y) h
  refine ⟨l, fun w' a => ⟨ad, n, cap, rfl, h1, hn, hm, fun i hi => ?_⟩⟩
  obtain ⟨b, o, u, e, hc, hx⟩ := h2 i (by omega)
  refine ⟨b, o, u, e, a.cell hc trivial, ?_⟩
  have := hx w' a
  rwa [getD_at d hi] at this
theorem add_none' (b o x : Nat) : (⟨b, o, none⟩ : Addr).add x = ⟨b, o + x, none⟩ := by unfold Addr.add; split <;> simp_all
theorem cellsOf_int : Tryz.prog.cellsOf 3 = 1 := by kernel_rfl
theorem cellsOf_bool : Tryz.prog.cellsOf 4 = 1 := by kernel_rfl
theorem cellsOf_str : Tryz.prog.cellsOf 9 = 1 := by kernel_rfl
theorem cellsOf_u64 : Tryz.prog.cellsOf 22 = 1 := by kernel_rfl
theorem cellsOf_ints : Tryz.prog.cellsOf 24 = 1 := by kernel_rfl
theorem cellsOf_bools : Tryz.prog.cellsOf 25 = 1 := by kernel_rfl
theorem cellsOf_terms : Tryz.prog.cellsOf 43 = 1 := by kernel_rfl
theorem cellsOf_rounds : Tryz.prog.cellsOf 23 = 1 := by kernel_rfl
theorem cellsOf_term : Tryz.prog.cellsOf 76 = 2 := by kernel_rfl
theorem cellsOf_round : Tryz.prog.cellsOf 45 = 2 := by kernel_rfl
theorem cellsOf_record : Tryz.prog.cellsOf 27 = 9 := by kernel_rfl
section
variable {H : Type} {enc : TypeId × Value → H} {W : World} {spare : Nat → Bool} {held : Bool}
/-- A slice, whatever its elements: its shape, and each element's cells with their reading at one fuel less. -/
theorem slice_parts {t e : TypeId} {m : Nat} (ht : Tryz.prog.underlying t = some (.slice e)) (he : Tryz.prog.cellsOf e = m) (hm : 0 < m) {fuel : Nat} {cs : List Value} {x : DataW H × List MemPlace} (h : DataW.trod enc Tryz.prog W 0 spare held fuel t cs = some x) :
    ∃ (a : Option Addr) (n cap k : Nat), cs = [.slice a n cap] ∧ fuel ≤ k + 1 ∧ k < fuel + 1 ∧ n ≤ cap ∧ (cap : Int) ≤ 9223372036854775807 ∧
      ∀ i, i < n → ∃ (b o : Nat) (us : List Value) (y : DataW H × List MemPlace), a = some ⟨b, o, none⟩ ∧ us.length = m ∧ (∀ j (_ : j < us.length), W.cell? ⟨b, o + i * m + j, none⟩ = some us[j]) ∧ k < fuel ∧ DataW.trod enc Tryz.prog W 0 spare held k e us = some y := by
  rcases DataW.trod_slice ht h with ⟨hcs, _⟩ | ⟨x, l, c, elems, rest, k, hk, hcs, _, _, hl, hmx, hel, hi, _⟩
  · exact ⟨none, 0, 0, fuel, hcs, by omega, by omega, Nat.le_refl _, by omega, fun i hi => by omega⟩
  · refine ⟨some x, l, c, k, hcs, by omega, by omega, hl, by unfold maxLen at hmx; omega, fun i hin => ?_⟩
    have hc := hi i hin
    rw [List.getElem?_eq_getElem (by omega), he] at hc
    obtain ⟨us, h1, h2⟩ := Option.bind_eq_some_iff.1 hc
    obtain ⟨_, hlen, hat⟩ := World.cells?_some h1
    have hc0 := hi 0 (by omega)
    rw [List.getElem?_eq_getElem (by omega), he] at hc0
    obtain ⟨us0, h10, _⟩ := Option.bind_eq_some_iff.1 hc0
    obtain ⟨_, hlen0, hat0⟩ := World.cells?_some h10
    have z0 := (hat0 0 (by omega)).trans (List.getElem?_eq_getElem (by omega))
    obtain ⟨b, o, spot⟩ := x
    have hs : spot = none := by simpa [Addr.add] using World.cell?_spot z0
    subst hs
    refine ⟨b, o, us, _, rfl, hlen, fun j hj => ?_, by omega, h2⟩
    have z := (hat j (by omega)).trans (List.getElem?_eq_getElem hj)
    rw [add_none', add_none'] at z
    exact z
/-- A slice whose elements take one cell each. -/
theorem slice_of {α : Type} {C : World → Value → α → Prop} (d : α) {t e : TypeId} (ht : Tryz.prog.underlying t = some (.slice e)) (he : Tryz.prog.cellsOf e = 1) (hel : ∀ (fuel : Nat) (u : Value) (x : DataW H × List MemPlace), DataW.trod enc Tryz.prog W 0 spare held fuel e [u] = some x → ∃ y, Held C W u y)
    {fuel : Nat} {cs : List Value} {x : DataW H × List MemPlace} (h : DataW.trod enc Tryz.prog W 0 spare held fuel t cs = some x) : ∃ (a : Option Addr) (n cap : Nat) (l : List α), cs = [.slice a n cap] ∧ HeldL C W a n cap l := by
  obtain ⟨a, n, cap, k, rfl, _, _, hn, hm, hi⟩ := slice_parts ht he (by omega) h
  obtain ⟨l, hl⟩ := heldL_mk d hn hm (C := C) (w := W) (ad := a) fun i hin => by
    obtain ⟨b, o, us, y, e1, e2, e3, _, e4⟩ := hi i hin
    match us, e2, e3, e4 with
    | [u], _, e3, e4 =>
      obtain ⟨z, hz⟩ := hel _ _ _ e4
      have := e3 0 (by simp)
      exact ⟨z, b, o, u, e1, by simpa using this, hz⟩
  exact ⟨a, n, cap, l, rfl, hl⟩
theorem int_of (fuel : Nat) (u : Value) (x : DataW H × List MemPlace) (h : DataW.trod enc Tryz.prog W 0 spare held fuel 3 [u] = some x) : ∃ y, Held IntC W u y := by
  obtain ⟨n, e, _, _⟩ := DataW.trod_int Tryz.underlying3 h
  injection e with e
  subst e
  exact ⟨n, Rests.int _ _ _⟩
theorem bool_of (fuel : Nat) (u : Value) (x : DataW H × List MemPlace) (h : DataW.trod enc Tryz.prog W 0 spare held fuel 4 [u] = some x) : ∃ y, Held BoolC W u y := by
  obtain ⟨n, e, _⟩ := DataW.trod_bool Tryz.underlying4 h
  injection e with e
  subst e
  exact ⟨n, Rests.bool _ _ _⟩
theorem ints_cs {fuel : Nat} {cs : List Value} {x : DataW H × List MemPlace} (h : DataW.trod enc Tryz.prog W 0 spare held fuel 24 cs = some x) : ∃ (a : Option Addr) (n cap : Nat) (l : List Int), cs = [.slice a n cap] ∧ HeldL IntC W a n cap l :=
  slice_of 0 Tryz.underlying24 cellsOf_int int_of h
theorem ints_of {fuel : Nat} {a : Option Addr} {n cap : Nat} {x : DataW H × List MemPlace} (h : DataW.trod enc Tryz.prog W 0 spare held fuel 24 [.slice a n cap] = some x) : ∃ l : List Int, HeldL IntC W a n cap l := by
  obtain ⟨a', n', c', l, e, hl⟩ := ints_cs h
  cases e
  exact ⟨l, hl⟩
theorem bools_cs {fuel : Nat} {cs : List Value} {x : DataW H × List MemPlace} (h : DataW.trod enc Tryz.prog W 0 spare held fuel 25 cs = some x) : ∃ (a : Option Addr) (n cap : Nat) (l : List Bool), cs = [.slice a n cap] ∧ HeldL BoolC W a n cap l :=
  slice_of false Tryz.underlying25 cellsOf_bool bool_of h
theorem tmL_mk {w : World} {ad : Option Addr} : ∀ (l : List Tm) (i : Nat), (∀ j (h : j < l.length), ∃ b o s a, ad = some ⟨b, o, none⟩ ∧ w.cell? ⟨b, o + (i + j) * 2, none⟩ = some s ∧ w.cell? ⟨b, o + (i + j) * 2 + 1, none⟩ = some a ∧ TmV w s a l[j]) → TmL w ad i l
  | [], _, _ => trivial
  | t :: r, i, h => by
    refine ⟨?_, tmL_mk r (i + 1) fun j hj => ?_⟩
    · have := h 0 (by simp)
      simpa using this
    · have := h (j + 1) (by simp; omega)
      rw [show i + 1 + j = i + (j + 1) by omega]
      simpa using this
theorem tms_mk {w : World} {ad : Option Addr} {n cap : Nat} (hn : n ≤ cap) (hm : (cap : Int) ≤ 9223372036854775807)
    (h : ∀ i, i < n → ∃ (y : Tm) (b o : Nat) (s a : Value), ad = some ⟨b, o, none⟩ ∧ w.cell? ⟨b, o + i * 2, none⟩ = some s ∧ w.cell? ⟨b, o + i * 2 + 1, none⟩ = some a ∧ TmV w s a y) : ∃ l : List Tm, TmsAt w ad n cap l := by
  obtain ⟨l, h1, h2⟩ := list_of (.mk ByteArray.empty []) n (fun i y => ∃ (b o : Nat) (s a : Value), ad = some ⟨b, o, none⟩ ∧ w.cell? ⟨b, o + i * 2, none⟩ = some s ∧ w.cell? ⟨b, o + i * 2 + 1, none⟩ = some a ∧ TmV w s a y) h
  refine ⟨l, h1, hn, hm, tmL_mk l 0 fun j hj => ?_⟩
  have := h2 j (by omega)
  rw [getD_at _ hj] at this
  rw [Nat.zero_add]
  exact this
theorem terms_cs : ∀ (fuel : Nat) (cs : List Value) (x : DataW H × List MemPlace), DataW.trod enc Tryz.prog W 0 spare held fuel 43 cs = some x → ∃ (a : Option Addr) (n cap : Nat) (l : List Tm), cs = [.slice a n cap] ∧ TmsAt W a n cap l := by
  intro fuel
  induction fuel using Nat.strongRecOn with
  | _ fuel ih =>
    intro cs x h
    obtain ⟨a, n, cap, k, rfl, _, _, hn, hm, hi⟩ := slice_parts Tryz.underlying43 cellsOf_term (by omega) h
    obtain ⟨l, hl⟩ := tms_mk hn hm (w := W) (ad := a) fun i hin => by
      obtain ⟨b, o, us, y, e1, e2, e3, hk, e4⟩ := hi i hin
      match us, e2, e3, e4 with
      | [c0, c1], _, e3, e4 =>
        obtain ⟨xs, q, hq, _, _, hxl, hf⟩ := DataW.trod_struct Tryz.underlying76 e4
        have hx2 : xs.length = 2 := hxl
        have g0 : DataW.trod enc Tryz.prog W 0 spare held q 9 (List.take (Tryz.prog.cellsOf 9) (List.drop 0 [c0, c1])) = xs[0]? := hf 0 _ rfl
        have g1 : DataW.trod enc Tryz.prog W 0 spare held q 43 (List.take (Tryz.prog.cellsOf 43) (List.drop 1 [c0, c1])) = xs[1]? := hf 1 _ rfl
        rw [cellsOf_str, List.getElem?_eq_getElem (by omega)] at g0
        rw [cellsOf_terms, List.getElem?_eq_getElem (by omega)] at g1
        obtain ⟨s, es, _, hs⟩ := DataW.trod_string Tryz.underlying9 g0
        obtain ⟨a2, n2, cap2, l2, ea, hl2⟩ := ih q (by omega) _ _ g1
        have es' : c0 = .string s := by simpa using es
        have ea' : c1 = .slice a2 n2 cap2 := by simpa using ea
        have z0 := e3 0 (by simp)
        have z1 := e3 1 (by simp)
        exact ⟨.mk s l2, b, o, c0, c1, e1, by simpa using z0, by simpa using z1, es', hs, a2, cap2, by rw [ea', hl2.1], by rw [hl2.1]; exact hl2.2.1, hl2.2.2.1, hl2.2.2.2⟩
    exact ⟨a, n, cap, l, rfl, hl⟩
theorem rnds_mk {w : World} {ad : Option Addr} {n cap : Nat} (hn : n ≤ cap) (hm : (cap : Int) ≤ 9223372036854775807)
    (h : ∀ i, i < n → ∃ (y : Rnd) (b o : Nat), ad = some ⟨b, o, none⟩ ∧ RndAt w b (o + i * 2) y) : ∃ l : List Rnd, RndsAt w ad n cap l := by
  obtain ⟨l, h1, h2⟩ := list_of ⟨[], []⟩ n (fun i y => ∃ (b o : Nat), ad = some ⟨b, o, none⟩ ∧ RndAt w b (o + i * 2) y) h
  refine ⟨l, h1, hn, hm, fun j hj => ?_⟩
  have := h2 j (by omega)
  rw [getD_at _ hj] at this
  exact this
theorem rounds_cs {fuel : Nat} {cs : List Value} {x : DataW H × List MemPlace} (h : DataW.trod enc Tryz.prog W 0 spare held fuel 23 cs = some x) : ∃ (a : Option Addr) (n cap : Nat) (l : List Rnd), cs = [.slice a n cap] ∧ RndsAt W a n cap l := by
  obtain ⟨a, n, cap, k, rfl, _, _, hn, hm, hi⟩ := slice_parts Tryz.underlying23 cellsOf_round (by omega) h
  obtain ⟨l, hl⟩ := rnds_mk hn hm (w := W) (ad := a) fun i hin => by
    obtain ⟨b, o, us, y, e1, e2, e3, hk, e4⟩ := hi i hin
    match us, e2, e3, e4 with
    | [c0, c1], _, e3, e4 =>
      obtain ⟨xs, q, hq, _, _, hxl, hf⟩ := DataW.trod_struct Tryz.underlying45 e4
      have hx2 : xs.length = 2 := hxl
      have g0 : DataW.trod enc Tryz.prog W 0 spare held q 43 (List.take (Tryz.prog.cellsOf 43) (List.drop 0 [c0, c1])) = xs[0]? := hf 0 _ rfl
      have g1 : DataW.trod enc Tryz.prog W 0 spare held q 24 (List.take (Tryz.prog.cellsOf 24) (List.drop 1 [c0, c1])) = xs[1]? := hf 1 _ rfl
      rw [cellsOf_terms, List.getElem?_eq_getElem (by omega)] at g0
      rw [cellsOf_ints, List.getElem?_eq_getElem (by omega)] at g1
      obtain ⟨aj, nj, cj, lj, ej, hj⟩ := terms_cs _ _ _ g0
      obtain ⟨af, nf, cf, lf, ef, hf2⟩ := ints_cs g1
      have ej' : c0 = .slice aj nj cj := by simpa using ej
      have ef' : c1 = .slice af nf cf := by simpa using ef
      have z0 := e3 0 (by simp)
      have z1 := e3 1 (by simp)
      simp only [List.getElem_cons_zero, List.getElem_cons_succ, Nat.add_zero] at z0 z1
      exact ⟨⟨lj, lf⟩, b, o, e1, aj, nj, cj, af, nf, cf, by rw [← ej']; exact z0, by rw [← ef']; exact z1, hj, hf2⟩
  exact ⟨a, n, cap, l, rfl, hl⟩
/-- A RECORD THAT CAME IN. -/
theorem record_of {fuel : Nat} {cs : List Value} {x : DataW H × List MemPlace} (hl : cs.length = 9) (h : DataW.trod enc Tryz.prog W 0 spare held fuel 27 cs = some x) :
    ∃ (r : Rec) (ar : Option Addr) (nr cr : Nat) (ag : Option Addr) (ng cg : Nat) (ae : Option Addr) (ne ce : Nat), cs = (recV r ar nr cr ag ng cg ae ne ce).toList ∧ RecAt W r ar nr cr ag ng cg ae ne ce ∧ 0 ≤ r.seed ∧ r.seed ≤ 18446744073709551615 := by
  obtain ⟨c0, c1, c2, c3, c4, c5, c6, c7, c8, rfl⟩ : ∃ c0 c1 c2 c3 c4 c5 c6 c7 c8, cs = [c0, c1, c2, c3, c4, c5, c6, c7, c8] := by
    match cs, hl with
    | [c0, c1, c2, c3, c4, c5, c6, c7, c8], _ => exact ⟨_, _, _, _, _, _, _, _, _, rfl⟩
  obtain ⟨xs, q, _, _, _, hxl, hf⟩ := DataW.trod_struct Tryz.underlying27 h
  have hx9 : xs.length = 9 := hxl
  have g0 : DataW.trod enc Tryz.prog W 0 spare held q 9 (List.take (Tryz.prog.cellsOf 9) (List.drop 0 [c0, c1, c2, c3, c4, c5, c6, c7, c8])) = xs[0]? := hf 0 _ rfl
  have g1 : DataW.trod enc Tryz.prog W 0 spare held q 9 (List.take (Tryz.prog.cellsOf 9) (List.drop 1 [c0, c1, c2, c3, c4, c5, c6, c7, c8])) = xs[1]? := hf 1 _ rfl
  have g2 : DataW.trod enc Tryz.prog W 0 spare held q 22 (List.take (Tryz.prog.cellsOf 22) (List.drop 2 [c0, c1, c2, c3, c4, c5, c6, c7, c8])) = xs[2]? := hf 2 _ rfl
  have g3 : DataW.trod enc Tryz.prog W 0 spare held q 3 (List.take (Tryz.prog.cellsOf 3) (List.drop 3 [c0, c1, c2, c3, c4, c5, c6, c7, c8])) = xs[3]? := hf 3 _ rfl
  have g4 : DataW.trod enc Tryz.prog W 0 spare held q 3 (List.take (Tryz.prog.cellsOf 3) (List.drop 4 [c0, c1, c2, c3, c4, c5, c6, c7, c8])) = xs[4]? := hf 4 _ rfl
  have g5 : DataW.trod enc Tryz.prog W 0 spare held q 23 (List.take (Tryz.prog.cellsOf 23) (List.drop 5 [c0, c1, c2, c3, c4, c5, c6, c7, c8])) = xs[5]? := hf 5 _ rfl
  have g6 : DataW.trod enc Tryz.prog W 0 spare held q 4 (List.take (Tryz.prog.cellsOf 4) (List.drop 6 [c0, c1, c2, c3, c4, c5, c6, c7, c8])) = xs[6]? := hf 6 _ rfl
  have g7 : DataW.trod enc Tryz.prog W 0 spare held q 24 (List.take (Tryz.prog.cellsOf 24) (List.drop 7 [c0, c1, c2, c3, c4, c5, c6, c7, c8])) = xs[7]? := hf 7 _ rfl
  have g8 : DataW.trod enc Tryz.prog W 0 spare held q 25 (List.take (Tryz.prog.cellsOf 25) (List.drop 8 [c0, c1, c2, c3, c4, c5, c6, c7, c8])) = xs[8]? := hf 8 _ rfl
  rw [cellsOf_str, List.getElem?_eq_getElem (by omega)] at g0 g1
  rw [cellsOf_u64, List.getElem?_eq_getElem (by omega)] at g2
  rw [cellsOf_int, List.getElem?_eq_getElem (by omega)] at g3 g4
  rw [cellsOf_rounds, List.getElem?_eq_getElem (by omega)] at g5
  rw [cellsOf_bool, List.getElem?_eq_getElem (by omega)] at g6
  rw [cellsOf_ints, List.getElem?_eq_getElem (by omega)] at g7
  rw [cellsOf_bools, List.getElem?_eq_getElem (by omega)] at g8
  obtain ⟨s0, e0, _, w0⟩ := DataW.trod_string Tryz.underlying9 g0
  obtain ⟨s1, e1, _, w1⟩ := DataW.trod_string Tryz.underlying9 g1
  obtain ⟨n2, e2, _, w2⟩ := DataW.trod_int Tryz.underlying22 g2
  obtain ⟨n3, e3, _, _⟩ := DataW.trod_int Tryz.underlying3 g3
  obtain ⟨n4, e4, _, _⟩ := DataW.trod_int Tryz.underlying3 g4
  obtain ⟨ar, nr, cr, lr, e5, h5⟩ := rounds_cs g5
  obtain ⟨z6, e6, _⟩ := DataW.trod_bool Tryz.underlying4 g6
  obtain ⟨ag, ng, cg, lg, e7, h7⟩ := ints_cs g7
  obtain ⟨ae, ne, ce, le, e8, h8⟩ := bools_cs g8
  clear g0 g1 g2 g3 g4 g5 g6 g7 g8 hf h
  simp only [List.drop_zero, List.drop_succ_cons, List.take_succ_cons, List.take_zero, List.cons.injEq, and_true] at e0 e1 e2 e3 e4 e5 e6 e7 e8
  subst e0 e1 e2 e3 e4 e5 e6 e7 e8
  have hs : 0 ≤ n2 ∧ n2 ≤ 18446744073709551615 := by
    simp only [Lit.wf, Bool.and_eq_true, decide_eq_true_eq] at w2
    rw [show IntKind.u64.min = 0 from rfl, show IntKind.u64.max = 18446744073709551615 from rfl] at w2
    exact w2
  exact ⟨⟨s0, s1, n2, n3, n4, lr, z6, lg, le⟩, ar, nr, cr, ag, ng, cg, ae, ne, ce, rfl, ⟨h5, h7, h8, w0, w1⟩, hs⟩
end
end Go.Proofs.YtahbhhenobehfaaGreatDoor
namespace Go.Proofs.YtahbhhenobehfaaGreatDoor
open Go.RowKit

/-- The cells us read as x, in w and in every world that agrees with w on the blocks of S. -/
def RestsM {α : Type} (C : World → List Value → α → Prop) (S : Nat → Prop) (w : World) (us : List Value) (x : α) : Prop := ∀ w', Agr S w w' → C w' us x
namespace RestsM
variable {α : Type} {C : World → List Value → α → Prop} {S S' : Nat → Prop} {w w' : World} {us : List Value} {x : α}
theorem now (h : RestsM C S w us x) : C w us x := h w (.refl _ _)
theorem move (h : RestsM C S w us x) (k : Agr S w w') (hs : ∀ k, k < w.heap.size → S k → S' k) : RestsM C S' w' us x := fun w'' k' => h w'' (k.trans k' hs)
theorem weak (h : RestsM C S w us x) (hs : ∀ k, k < w.heap.size → S k → S' k) : RestsM C S' w us x := h.move (.refl _ _) hs
theorem below {B : Nat} (h : RestsM C S w us x) (hb : Below B w w') (hB : w.heap.size ≤ B) : RestsM C S w' us x := h.move (.ofBelow' hb hB) fun _ _ h => h
end RestsM
def LstM (m : Nat) {α : Type} (C : World → List Value → α → Prop) (w : World) (ad : Option Addr) (n cap : Nat) (l : List α) : Prop :=
  l.length = n ∧ n ≤ cap ∧ (cap : Int) ≤ 9223372036854775807 ∧ ∀ i (h : i < l.length), ∃ b o us, ad = some ⟨b, o, none⟩ ∧ us.length = m ∧ (∀ j (hj : j < us.length), w.cell? ⟨b, o + i * m + j, none⟩ = some us[j]) ∧ C w us l[i]
def OwnM (m : Nat) {α : Type} (C : World → List Value → α → Prop) (base : Nat) (E : TypeId) (w : World) (v : Value) (l : List α) : Prop :=
  ∃ xs : List Value, w.ownsRow base E m v l.length xs ∧ ∀ i (h : i < l.length), RestsM C (fun k => base ≤ k ∧ v.ownBlock ≠ some k) w ((xs.drop (i * m)).take m) l[i]
namespace OwnM
variable {α : Type} {m : Nat} {C : World → List Value → α → Prop} {base : Nat} {E : TypeId} {w w' : World} {v : Value} {l : List α}
theorem nil (m : Nat) (C : World → List Value → α → Prop) (base : Nat) (E : TypeId) (w : World) : OwnM m C base E w (.slice none 0 0) [] := ⟨[], World.ownsRow_nil _ _ _ _, fun i h => by simp at h⟩
theorem lt (h : OwnM m C base E w v l) : ∀ k, v.ownBlock = some k → base ≤ k ∧ k < w.heap.size := by
  obtain ⟨xs, h1, _⟩ := h
  exact h1.lt
theorem agr (h : OwnM m C base E w v l) (k : Agr (fun k => base ≤ k) w w') (hos : ∀ g, v.ownBlock = some g → w'.heap[g]? = w.heap[g]?) : OwnM m C base E w' v l := by
  obtain ⟨xs, h1, h2⟩ := h
  refine ⟨xs, ?_, fun i hi => ?_⟩
  · refine ⟨h1.1, ?_⟩
    rcases h1.2 with h3 | ⟨g, cap, cur, rfl, hg, hh, r⟩
    · exact .inl h3
    · exact .inr ⟨g, cap, cur, rfl, hg, (hos g rfl).trans hh, r⟩
  · exact (h2 i hi).move ⟨k.size, fun j hj hs => k.block j hj hs.1⟩ fun _ _ h => h
theorem below {B : Nat} (h : OwnM m C base E w v l) (hb : Below B w w') (hB : w.heap.size ≤ B) : OwnM m C base E w' v l :=
  h.agr (.ofBelow' hb hB) fun g hg => hb.block g (Nat.lt_of_lt_of_le (h.lt g hg).2 hB)
theorem only {L : List Nat} (h : OwnM m C base E w v l) (ho : Only L w w') (hn : ∀ x ∈ L, x < base) : OwnM m C base E w' v l :=
  h.agr ⟨ho.size, fun k hk hs => ho.block k hk fun hm => by have := hn k hm; omega⟩ fun g hg => ho.block g (h.lt g hg).2 fun hm => by have := hn g hm; have := (h.lt g hg).1; omega
theorem drew (h : OwnM m C base E w v l) : OwnM m C base E w.drew v l := h.below ((Below.refl w.heap.size w).drew) (Nat.le_refl _)
theorem alloc (h : OwnM m C base E w v l) (o : Obj) : OwnM m C base E (w.alloc o) v l := h.below ((Below.refl w.heap.size w).alloc (Nat.le_refl _) o) (Nat.le_refl _)
theorem rebase {base' : Nat} (h : OwnM m C base E w v l) (hb : base' ≤ base) : OwnM m C base' E w v l := by
  obtain ⟨xs, h1, h2⟩ := h
  refine ⟨xs, ⟨h1.1, ?_⟩, fun i hi => (h2 i hi).weak fun k _ hk => ⟨Nat.le_trans hb hk.1, hk.2⟩⟩
  rcases h1.2 with h3 | ⟨g, cap, cur, rfl, hg, r⟩
  · exact .inl h3
  · exact .inr ⟨g, cap, cur, rfl, Nat.le_trans hb hg, r⟩
theorem shape (h : OwnM m C base E w v l) : ∃ ad cap, v = .slice ad l.length cap := by
  obtain ⟨xs, h1, _⟩ := h
  rcases h1.2 with ⟨rfl, h3⟩ | ⟨g, cap, cur, rfl, _⟩
  · exact ⟨none, 0, by rw [h3]⟩
  · exact ⟨_, _, rfl⟩
/-- As a reading: in every world that keeps the blocks from base on. -/
theorem reads {ad : Option Addr} {n cap : Nat} (h : OwnM m C base E w (.slice ad n cap) l) (w' : World) (a : Agr (fun k => base ≤ k) w w') : LstM m C w' ad n cap l := by
  obtain ⟨xs, h1, h2⟩ := h
  rcases h1.2 with ⟨hv, h3⟩ | ⟨g, cap, cur, hv, hg, hh, hn, hm, _, _⟩
  · cases hv
    exact ⟨h3, by omega, by omega, fun i hi => by omega⟩
  · cases hv
    refine ⟨rfl, hn, by unfold maxLen at hm; omega, fun i hi => ?_⟩
    have hxl : xs.length = l.length * m := h1.1
    have hle : (i + 1) * m ≤ l.length * m := Nat.mul_le_mul_right m hi
    rw [Nat.add_mul, Nat.one_mul] at hle
    refine ⟨g, 0, _, rfl, by rw [List.length_take, List.length_drop, hxl]; omega, fun j hj => ?_, h2 i hi w' ⟨a.size, fun k hk hs => a.block k hk hs.1⟩⟩
    have hj' : j < m := by rw [List.length_take] at hj; omega
    have hc := h1.cells (g := g) rfl (i * m + j) xs[i * m + j] (List.getElem?_eq_getElem (by omega))
    have e2 : (⟨g, 0, none⟩ : Addr).add (i * m + j) = ⟨g, 0 + (i * m + j), none⟩ := by unfold Addr.add; split <;> simp_all
    rw [e2] at hc
    have := a.cell hc hg
    rw [Nat.zero_add] at this ⊢
    rw [this, List.getElem_take, List.getElem_drop]
end OwnM
/-- append of one element of m cells that lie side by side. -/
theorem run_appendM {α : Type} {m : Nat} {C : World → List Value → α → Prop} {P : Program} (w : World) (base : Nat) (t ty E : TypeId) (i : TypeInfo) (z : Value) (bytes : Nat) (ht : P.underlying t = some (.slice E)) (hi : P.info? E = some i) (hz : i.zero = some z)
    (hsize : i.size = m) (hby : i.bytes = bytes) (hzs : z.cells.size = m) (h0 : 0 < m) (v : Value) (l : List α) (hown : OwnM m C base E w v l)
    (a : Addr) (c : Nat) (us : List Value) (x : α) (hul : us.length = m) (hus : ∀ j u, us[j]? = some u → w.cell? (a.add j) = some u) (h1 : ∀ u ∈ us, u.oneCell' = true) (hR : RestsM C (fun k => base ≤ k ∧ v.ownBlock ≠ some k) w us x)
    (h63 : l.length + 1 ≤ maxLen) (hbytes : (l.length + 1) * bytes ≤ 140737488355328) (hbase : base ≤ w.heap.size) :
    ∃ v' w', (Builtin.append_ #[t, t] ty #[v, .slice (some a) 1 c]).run P w = .ok v' w' ∧ OwnM m C base E w' v' (l ++ [x]) ∧ Below base w w' ∧ Agr (fun k => v.ownBlock ≠ some k) w w' ∧ ∀ g, v'.ownBlock = some g → v.ownBlock = some g ∨ w.heap.size ≤ g := by
  obtain ⟨xs, h2, h3⟩ := hown
  obtain ⟨v', w', hr, ho, hg, _, hat⟩ := run_append_own_at (P := P) w base t ty E i z m bytes ht hi hz hsize hby hzs h0 v l.length xs h2 a 1 c us (by omega) hus h1 h63 hbytes hbase
  have hlt := h2.lt
  have hA : Agr (fun k => v.ownBlock ≠ some k) w w' := ⟨hg.size, fun k hk hs => hg.block k hk (fun e => hs e.symm)⟩
  have hS : ∀ k, k < w.heap.size → base ≤ k ∧ v.ownBlock ≠ some k → base ≤ k ∧ v'.ownBlock ≠ some k := fun k hk hs => ⟨hs.1, by
    rcases hat with e | e
    · rw [e]; exact hs.2
    · rw [e]; intro e2; injection e2 with e2; omega⟩
  have hA2 : Agr (fun k => base ≤ k ∧ v.ownBlock ≠ some k) w w' := ⟨hg.size, fun k hk hs => hg.block k hk (fun e => hs.2 e.symm)⟩
  refine ⟨v', w', hr, ⟨xs ++ us, by rw [List.length_append]; exact ho, fun j hj => ?_⟩, ?_, hA, fun g e => ?_⟩
  · have hxl : xs.length = l.length * m := h2.1
    simp only [List.length_append, List.length_cons, List.length_nil] at hj
    by_cases hjl : j < l.length
    · have hle : (j + 1) * m ≤ l.length * m := Nat.mul_le_mul_right m hjl
      rw [Nat.add_mul, Nat.one_mul] at hle
      rw [List.drop_append_of_le_length (by omega), List.take_append_of_le_length (by rw [List.length_drop]; omega), List.getElem_append_left hjl]
      exact (h3 j hjl).move hA2 hS
    · obtain rfl : j = l.length := by omega
      rw [← hxl, List.drop_left, ← hul, List.take_length, List.getElem_append_right (by omega)]
      simp only [Nat.sub_self, List.getElem_cons_zero]
      exact hR.move hA2 hS
  · exact (Below.refl base w).grown hg hbase fun k hk => (hlt k hk).1
  · rcases hat with e2 | e2
    · exact Or.inl (e2 ▸ e)
    · rw [e2] at e; injection e with e; exact Or.inr (by omega)

/-- A term's two cells. -/
def TmC (w : World) (us : List Value) (t : Tm) : Prop := ∃ s a, us = [s, a] ∧ TmV w s a t
theorem TmsAt.ofLst {w : World} {ad : Option Addr} {n cap : Nat} {l : List Tm} (h : LstM 2 TmC w ad n cap l) : TmsAt w ad n cap l := by
  obtain ⟨h1, h2, h3, h4⟩ := h
  refine ⟨h1, h2, h3, tmL_mk l 0 fun j hj => ?_⟩
  obtain ⟨b, o, us, e, _, hc, s, a, rfl, hv⟩ := h4 j hj
  have c0 := hc 0 (by simp)
  have c1 := hc 1 (by simp)
  rw [Nat.zero_add]
  exact ⟨b, o, s, a, e, by simpa using c0, by simpa using c1, hv⟩
theorem rests_term {base : Nat} {E : TypeId} {w : World} {v : Value} {l : List Tm} {n : ByteArray} (hn : n.size ≤ maxLen) (h : OwnM 2 TmC base E w v l) : RestsM TmC (fun k => base ≤ k) w [.string n, v] (.mk n l) := fun w' a => by
  obtain ⟨ad, cap, rfl⟩ := h.shape
  have := TmsAt.ofLst (h.reads w' a)
  exact ⟨_, _, rfl, rfl, hn, ad, cap, rfl, this.2.1, this.2.2.1, this.2.2.2⟩
/-- A round's two cells. -/
def RndC (w : World) (us : List Value) (x : Rnd) : Prop := ∃ aj nj cj af nf cf, us = [.slice aj nj cj, .slice af nf cf] ∧ TmsAt w aj nj cj x.joint ∧ HeldL IntC w af nf cf x.faults
theorem RndsAt.ofLst {w : World} {ad : Option Addr} {n cap : Nat} {l : List Rnd} (h : LstM 2 RndC w ad n cap l) : RndsAt w ad n cap l := by
  obtain ⟨h1, h2, h3, h4⟩ := h
  refine ⟨h1, h2, h3, fun j hj => ?_⟩
  obtain ⟨b, o, us, e, _, hc, aj, nj, cj, af, nf, cf, rfl, hj1, hj2⟩ := h4 j hj
  have c0 := hc 0 (by simp)
  have c1 := hc 1 (by simp)
  exact ⟨b, o, e, aj, nj, cj, af, nf, cf, by simpa using c0, by simpa using c1, hj1, hj2⟩
/-- A token's three cells: kind, text, place. -/
structure Tok where
  kind : Int
  text : ByteArray
  pos : Int
def TokC (_ : World) (us : List Value) (t : Tok) : Prop := us = [.int .i64 t.kind, .string t.text, .int .i64 t.pos]
theorem RestsM.tok (S : Nat → Prop) (w : World) (t : Tok) : RestsM TokC S w [.int .i64 t.kind, .string t.text, .int .i64 t.pos] t := fun _ _ => rfl
/-- Tokens that lie in memory. -/
def ToksAt (w : World) (ad : Option Addr) (n cap : Nat) (l : List Tok) : Prop := LstM 3 TokC w ad n cap l
theorem ToksAt.below {w w' : World} {ad : Option Addr} {n cap : Nat} {l : List Tok} {B : Nat} (h : ToksAt w ad n cap l) (hb : Below B w w') (hB : w.heap.size ≤ B) : ToksAt w' ad n cap l := by
  obtain ⟨h1, h2, h3, h4⟩ := h
  refine ⟨h1, h2, h3, fun j hj => ?_⟩
  obtain ⟨b, o, us, e, hl, hc, hx⟩ := h4 j hj
  exact ⟨b, o, us, e, hl, fun i hi => (hb.cell (p := ⟨b, o + j * 3 + i, none⟩) (Nat.lt_of_lt_of_le (lt_of_cell (hc i hi)) hB)).trans (hc i hi), hx⟩
theorem ToksAt.only {w w' : World} {ad : Option Addr} {n cap : Nat} {l : List Tok} {L : List Nat} (h : ToksAt w ad n cap l) (ho : Only L w w') (hn : ∀ b o, ad = some ⟨b, o, none⟩ → b ∉ L) : ToksAt w' ad n cap l := by
  obtain ⟨h1, h2, h3, h4⟩ := h
  refine ⟨h1, h2, h3, fun j hj => ?_⟩
  obtain ⟨b, o, us, e, hl, hc, hx⟩ := h4 j hj
  exact ⟨b, o, us, e, hl, fun i hi => (World.cell?_of_block (w := w) (a := ⟨b, o + j * 3 + i, none⟩) (ho.block b (lt_of_cell (hc i hi)) (hn b o e))).trans (hc i hi), hx⟩
theorem ToksAt.head {w : World} {ad : Option Addr} {n cap : Nat} {l : List Tok} (h : ToksAt w ad n cap l) (h0 : 0 < n) : ∃ b o, ad = some ⟨b, o, none⟩ := by
  obtain ⟨b, o, _, e, _⟩ := h.2.2.2 0 (by have := h.1; omega)
  exact ⟨b, o, e⟩
theorem ToksAt.at {w : World} {b o n cap : Nat} {l : List Tok} (h : ToksAt w (some ⟨b, o, none⟩) n cap l) (k : Nat) (hk : k < l.length) :
    w.cell? ⟨b, o + k * 3, none⟩ = some (.int .i64 l[k].kind) ∧ w.cell? ⟨b, o + k * 3 + 1, none⟩ = some (.string l[k].text) ∧ w.cell? ⟨b, o + k * 3 + 2, none⟩ = some (.int .i64 l[k].pos) := by
  obtain ⟨b', o', us, e, hl, hc, hx⟩ := h.2.2.2 k hk
  cases e
  have hx' : us = [.int .i64 l[k].kind, .string l[k].text, .int .i64 l[k].pos] := hx
  subst hx'
  have c0 := hc 0 (by simp)
  have c1 := hc 1 (by simp)
  have c2 := hc 2 (by simp)
  exact ⟨by simpa using c0, by simpa using c1, by simpa using c2⟩
end Go.Proofs.YtahbhhenobehfaaGreatDoor
