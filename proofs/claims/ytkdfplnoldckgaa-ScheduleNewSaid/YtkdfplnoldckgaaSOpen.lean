/-
  What came in, as lists: slices of numbers, of pairings, of rounds, of standings.
-/
import Derived.Test.YtkdfplnoldckgaaRows
import Derived.Test.YtkdfplnoldckgaaSMem
import Derived.Test.YtkdfplnoldckgaaS14
import Derived.WalkKit
import Derived.ProofKit
import Derived.OpenShut
import Derived.ChangeArms
import Derived.Deep.Slices
namespace Go.Proofs.Ytkdfplnoldckgaa
open Go.ChangeShapes Go.WideShapes Go.ChangeAt Go.RowKit Go.Deep

theorem list_of {α : Type} (d : α) (n : Nat) (P : Nat → α → Prop) (h : ∀ i, i < n → ∃ y, P i y) : ∃ l : List α, l.length = n ∧ ∀ i, i < n → P i (l.getD i d) := by
  induction n with
  | zero => exact ⟨[], rfl, fun i hi => by omega⟩
  | succ n ih =>
    obtain ⟨l, h1, h2⟩ := ih fun i hi => h i (by omega)
    obtain ⟨y, hy⟩ := h n (by omega)
    refine ⟨l ++ [y], by simp [h1], fun i hi => ?_⟩
    rw [List.getD_eq_getElem?_getD]
    by_cases e : i < n
    · rw [List.getElem?_append_left (by omega), ← List.getD_eq_getElem?_getD]
      exact h2 i e
    · obtain rfl : i = n := by omega
      rw [List.getElem?_append_right (by omega), h1, Nat.sub_self]
      exact hy
theorem heldL_mk {α : Type} {C : World → Value → α → Prop} {w : World} {ad : Option Addr} {n cap : Nat} (d : α) (hn : n ≤ cap) (hm : (cap : Int) ≤ 9223372036854775807)
    (h : ∀ i, i < n → ∃ (y : α) (b o : Nat) (u : Value), ad = some ⟨b, o, none⟩ ∧ w.cell? ⟨b, o + i, none⟩ = some u ∧ Held C w u y) : ∃ l : List α, HeldL C w ad n cap l := by
  obtain ⟨l, h1, h2⟩ := list_of d n (fun i y => ∃ (b o : Nat) (u : Value), ad = some ⟨b, o, none⟩ ∧ w.cell? ⟨b, o + i, none⟩ = some u ∧ Held C w u y) h
  refine ⟨l, fun w' a => ⟨ad, n, cap, rfl, h1, hn, hm, fun i hi => ?_⟩⟩
  obtain ⟨b, o, u, e, hc, hx⟩ := h2 i (by omega)
  refine ⟨b, o, u, e, a.cell hc trivial, ?_⟩
  have := hx w' a
  rwa [List.getD_eq_getElem?_getD, List.getElem?_eq_getElem hi] at this
theorem add_none' (b o x : Nat) : (⟨b, o, none⟩ : Addr).add x = ⟨b, o + x, none⟩ := by unfold Addr.add; split <;> simp_all
theorem cellsOf_int : Try.prog.cellsOf 3 = 1 := by kernel_rfl
theorem cellsOf_pairing : Try.prog.cellsOf 38 = 1 := by kernel_rfl
theorem cellsOf_round : Try.prog.cellsOf 30 = 1 := by kernel_rfl
theorem cellsOf_ints : Try.prog.cellsOf 36 = 1 := by kernel_rfl
section
variable {H : Type} {enc : TypeId × Value → H} {W : World} {spare : Nat → Bool} {held : Bool}
/-- A slice whose elements take one cell each. -/
theorem slice_of {α : Type} {C : World → Value → α → Prop} (d : α) {t e : TypeId} (ht : Try.prog.underlying t = some (.slice e)) (he : Try.prog.cellsOf e = 1) (hel : ∀ (fuel : Nat) (u : Value) (x : DataW H × List MemPlace), DataW.trod enc Try.prog W 0 spare held fuel e [u] = some x → ∃ y, Held C W u y)
    {fuel : Nat} {a : Option Addr} {n cap : Nat} {x : DataW H × List MemPlace} (h : DataW.trod enc Try.prog W 0 spare held fuel t [.slice a n cap] = some x) : ∃ l : List α, HeldL C W a n cap l := by
  rcases open_slice ht h with ⟨hcs, _⟩ | ⟨x, l, c, m, k, D, Pl, hcs, _, hl, hm, hmm, _, hi⟩
  · simp at hcs
    obtain ⟨rfl, rfl, rfl⟩ := hcs
    exact heldL_mk d (Nat.le_refl _) (by omega) (fun i hi => by omega)
  · simp at hcs
    obtain ⟨rfl, rfl, rfl⟩ := hcs
    refine heldL_mk d hl (by unfold maxLen at hm; omega) (fun i hin => ?_)
    obtain ⟨cs, hc, hx⟩ := hi i (by split at hmm <;> omega)
    obtain ⟨c0, hc0, _⟩ := hi 0 (by split at hmm <;> omega)
    rw [he] at hc hc0
    obtain ⟨_, hlen, hat⟩ := World.cells?_some hc
    obtain ⟨_, hlen0, hat0⟩ := World.cells?_some hc0
    obtain ⟨u, rfl⟩ : ∃ u, cs = [u] := by
      match cs, hlen with
      | [u], _ => exact ⟨u, rfl⟩
    obtain ⟨u0, rfl⟩ : ∃ u, c0 = [u] := by
      match c0, hlen0 with
      | [u], _ => exact ⟨u, rfl⟩
    have z0 := hat0 0 (by omega)
    have z := hat 0 (by omega)
    obtain ⟨b, o, spot⟩ := x
    have hs : spot = none := by
      have z0' : W.cell? (((⟨b, o, spot⟩ : Addr).add (0 * 1)).add 0) = some u0 := z0
      simpa [Addr.add] using World.cell?_spot z0'
    subst hs
    rw [add_none', add_none'] at z
    obtain ⟨y, hy⟩ := hel _ u _ hx
    exact ⟨y, b, o, u, rfl, by simpa using z, hy⟩
theorem int_of (fuel : Nat) (u : Value) (x : DataW H × List MemPlace) (h : DataW.trod enc Try.prog W 0 spare held fuel 3 [u] = some x) : ∃ y, Held IntC W u y := by
  obtain ⟨n, e, _, _⟩ := DataW.trod_int Try.underlying3 h
  injection e with e
  subst e
  exact ⟨n, Rests.int _ _ _⟩
theorem ints_of {fuel : Nat} {a : Option Addr} {n cap : Nat} {x : DataW H × List MemPlace} (h : DataW.trod enc Try.prog W 0 spare held fuel 36 [.slice a n cap] = some x) : ∃ l : List Int, HeldL IntC W a n cap l :=
  slice_of 0 Try.underlying36 cellsOf_int int_of h
/-- A slice value, whatever it is, in the shape of its parts. -/
theorem slice_shape {t e : TypeId} (ht : Try.prog.underlying t = some (.slice e)) {fuel : Nat} {u : Value} {x : DataW H × List MemPlace} (h : DataW.trod enc Try.prog W 0 spare held fuel t [u] = some x) : ∃ a n cap, u = .slice a n cap := by
  rcases open_slice ht h with ⟨hcs, _⟩ | ⟨a, l, c, m, k, D, Pl, hcs, _⟩
  · simp at hcs; exact ⟨_, _, _, hcs⟩
  · simp at hcs; exact ⟨_, _, _, hcs⟩
theorem pairing_of (fuel : Nat) (u : Value) (x : DataW H × List MemPlace) (h : DataW.trod enc Try.prog W 0 spare held fuel 38 [u] = some x) : ∃ y, Held IntsC W u y := by
  obtain ⟨xs, q, _, _, _, hxl, hf⟩ := DataW.trod_struct Try.underlying38 h
  have hx1 : xs.length = 1 := hxl
  have g0 : DataW.trod enc Try.prog W 0 spare held q 36 (List.take (Try.prog.cellsOf 36) (List.drop 0 [u])) = xs[0]? := hf 0 _ rfl
  rw [cellsOf_ints, List.getElem?_eq_getElem (by omega)] at g0
  obtain ⟨a, n, cap, rfl⟩ := slice_shape Try.underlying36 g0
  obtain ⟨l, hl⟩ := ints_of g0
  exact ⟨l, hl⟩
theorem pairings_of {fuel : Nat} {a : Option Addr} {n cap : Nat} {x : DataW H × List MemPlace} (h : DataW.trod enc Try.prog W 0 spare held fuel 30 [.slice a n cap] = some x) : ∃ l : List (List Int), HeldL IntsC W a n cap l :=
  slice_of [] Try.underlying30 cellsOf_pairing pairing_of h
theorem round_of (fuel : Nat) (u : Value) (x : DataW H × List MemPlace) (h : DataW.trod enc Try.prog W 0 spare held fuel 30 [u] = some x) : ∃ y, Held RoundC W u y := by
  obtain ⟨a, n, cap, rfl⟩ := slice_shape Try.underlying30 h
  obtain ⟨l, hl⟩ := pairings_of h
  exact ⟨l, hl⟩
theorem rounds_of {fuel : Nat} {a : Option Addr} {n cap : Nat} {x : DataW H × List MemPlace} (h : DataW.trod enc Try.prog W 0 spare held fuel 22 [.slice a n cap] = some x) : ∃ l : List (List (List Int)), HeldL RoundC W a n cap l :=
  slice_of [] Try.underlying22 cellsOf_round round_of h
theorem cellsOf_std : Try.prog.cellsOf 43 = 6 := by kernel_rfl
theorem cellsOf_frac : Try.prog.cellsOf 41 = 2 := by kernel_rfl
theorem frac_of {fuel : Nat} {c0 c1 : Value} {x : DataW H × List MemPlace} (h : DataW.trod enc Try.prog W 0 spare held fuel 41 [c0, c1] = some x) : ∃ a b, c0 = .int .i64 a ∧ c1 = .int .i64 b := by
  obtain ⟨xs, q, _, _, _, hxl, hf⟩ := DataW.trod_struct Try.underlying41 h
  have hx2 : xs.length = 2 := hxl
  have g0 : DataW.trod enc Try.prog W 0 spare held q 3 (List.take (Try.prog.cellsOf 3) (List.drop 0 [c0, c1])) = xs[0]? := hf 0 _ rfl
  have g1 : DataW.trod enc Try.prog W 0 spare held q 3 (List.take (Try.prog.cellsOf 3) (List.drop 1 [c0, c1])) = xs[1]? := hf 1 _ rfl
  rw [cellsOf_int, List.getElem?_eq_getElem (by omega)] at g0 g1
  obtain ⟨a, e0, _, _⟩ := DataW.trod_int Try.underlying3 g0
  obtain ⟨b, e1, _, _⟩ := DataW.trod_int Try.underlying3 g1
  exact ⟨a, b, by simpa using e0, by simpa using e1⟩
theorem std_of {fuel : Nat} {cs : List Value} {x : DataW H × List MemPlace} (hl : cs.length = 6) (h : DataW.trod enc Try.prog W 0 spare held fuel 43 cs = some x) : ∃ p a1 a2 a3 a4 a5 : Int, cs = [.int .i64 p, .int .i64 a1, .int .i64 a2, .int .i64 a3, .int .i64 a4, .int .i64 a5] := by
  obtain ⟨c0, c1, c2, c3, c4, c5, rfl⟩ : ∃ c0 c1 c2 c3 c4 c5, cs = [c0, c1, c2, c3, c4, c5] := by
    match cs, hl with
    | [c0, c1, c2, c3, c4, c5], _ => exact ⟨_, _, _, _, _, _, rfl⟩
  obtain ⟨xs, q, _, _, _, hxl, hf⟩ := DataW.trod_struct Try.underlying43 h
  have hx4 : xs.length = 4 := hxl
  have g0 : DataW.trod enc Try.prog W 0 spare held q 3 (List.take (Try.prog.cellsOf 3) (List.drop 0 [c0, c1, c2, c3, c4, c5])) = xs[0]? := hf 0 _ rfl
  have g1 : DataW.trod enc Try.prog W 0 spare held q 41 (List.take (Try.prog.cellsOf 41) (List.drop 1 [c0, c1, c2, c3, c4, c5])) = xs[1]? := hf 1 _ rfl
  have g2 : DataW.trod enc Try.prog W 0 spare held q 41 (List.take (Try.prog.cellsOf 41) (List.drop 3 [c0, c1, c2, c3, c4, c5])) = xs[2]? := hf 2 _ rfl
  have g3 : DataW.trod enc Try.prog W 0 spare held q 3 (List.take (Try.prog.cellsOf 3) (List.drop 5 [c0, c1, c2, c3, c4, c5])) = xs[3]? := hf 3 _ rfl
  rw [cellsOf_int, List.getElem?_eq_getElem (by omega)] at g0 g3
  rw [cellsOf_frac, List.getElem?_eq_getElem (by omega)] at g1 g2
  obtain ⟨p, e0, _, _⟩ := DataW.trod_int Try.underlying3 g0
  obtain ⟨a5, e5, _, _⟩ := DataW.trod_int Try.underlying3 g3
  obtain ⟨a1, a2, e1, e2⟩ := frac_of g1
  obtain ⟨a3, a4, e3, e4⟩ := frac_of g2
  have e0' : c0 = .int .i64 p := by simpa using e0
  have e5' : c5 = .int .i64 a5 := by simpa using e5
  exact ⟨p, a1, a2, a3, a4, a5, by rw [e0', e1, e2, e3, e4, e5']⟩
theorem stds_of {fuel : Nat} {a : Option Addr} {n cap : Nat} {x : DataW H × List MemPlace} (h : DataW.trod enc Try.prog W 0 spare held fuel 29 [.slice a n cap] = some x) : ∃ ps, StdAt W a n ps := by
  rcases open_slice Try.underlying29 h with ⟨hcs, _⟩ | ⟨x, l, c, m, k, D, Pl, hcs, _, hl, hm, hmm, _, hi⟩
  · simp at hcs
    obtain ⟨rfl, rfl, rfl⟩ := hcs
    exact ⟨[], rfl, fun i hi => by omega⟩
  · simp at hcs
    obtain ⟨rfl, rfl, rfl⟩ := hcs
    obtain ⟨ps, h1, h2⟩ := list_of (0 : Int) n (fun i p => ∃ b o a1 a2 a3 a4 a5, some x = some ⟨b, o, none⟩ ∧ W.cell? ⟨b, o + i * 6, none⟩ = some (.int .i64 p) ∧ W.cell? ⟨b, o + i * 6 + 1, none⟩ = some (.int .i64 a1) ∧ W.cell? ⟨b, o + i * 6 + 2, none⟩ = some (.int .i64 a2) ∧ W.cell? ⟨b, o + i * 6 + 3, none⟩ = some (.int .i64 a3) ∧ W.cell? ⟨b, o + i * 6 + 4, none⟩ = some (.int .i64 a4) ∧ W.cell? ⟨b, o + i * 6 + 5, none⟩ = some (.int .i64 a5)) (fun i hin => by
      obtain ⟨cs, hc, hx⟩ := hi i (by split at hmm <;> omega)
      obtain ⟨c0, hc0, _⟩ := hi 0 (by split at hmm <;> omega)
      rw [cellsOf_std] at hc hc0
      obtain ⟨_, hlen, hat⟩ := World.cells?_some hc
      obtain ⟨_, hlen0, hat0⟩ := World.cells?_some hc0
      have z0 := (hat0 0 (by omega)).trans (List.getElem?_eq_getElem (by omega))
      obtain ⟨b, o, spot⟩ := x
      have hs : spot = none := by simpa [Addr.add] using World.cell?_spot z0
      subst hs
      obtain ⟨p, a1, a2, a3, a4, a5, rfl⟩ := std_of hlen hx
      have z1 := hat 0 (by simp)
      have z2 := hat 1 (by simp)
      have z3 := hat 2 (by simp)
      have z4 := hat 3 (by simp)
      have z5 := hat 4 (by simp)
      have z6 := hat 5 (by simp)
      rw [add_none', add_none'] at z1 z2 z3 z4 z5 z6
      exact ⟨p, b, o, a1, a2, a3, a4, a5, rfl, z1, z2, z3, z4, z5, z6⟩)
    exact ⟨ps, h1, h2⟩
end
end Go.Proofs.Ytkdfplnoldckgaa
