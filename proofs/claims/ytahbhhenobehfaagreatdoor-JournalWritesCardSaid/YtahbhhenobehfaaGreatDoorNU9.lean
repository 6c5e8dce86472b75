/-
  The walks of the parser's term.
-/
import Derived.Test.YtahbhhenobehfaaGreatDoorNU8
namespace Go.Proofs.YtahbhhenobehfaaGreatDoor
open Go.ChangeShapes Go.WideShapes Go.ChangeAt Go.RowKit

set_option maxRecDepth 20000 in
set_option maxHeartbeats 8000000 in
theorem term_walk (d : Nat) (hd : d ≤ 4)
    (hcomp : ∀ (d' : Nat), d = d' + 1 → ∀ (x : Nat) (ad : Option Addr) (cap : Nat) (T : List Tok) (k : Nat) (t : Tok) (L : Int) (w : World), L = 4 - (d' : Int) → RdAt w x ad cap T k → T[k]? = some t → t.kind = 1 → Calls Tryz.prog 177 #[.pointer (some ⟨x, 0, none⟩), .int .i64 L] w (TermSaid d x ad cap T k w))
    (x : Nat) (ad : Option Addr) (cap : Nat) (T : List Tok) (k : Nat) (L : Int) (w : World) (hL : L = 5 - (d : Int)) (h : RdAt w x ad cap T k) :
    Calls Tryz.prog 146 #[.pointer (some ⟨x, 0, none⟩), .int .i64 L] w (TermSaid d x ad cap T k w) := by
  have hsz := h.has.lt
  have hfin := h.fine
  have hsh := h.short
  have hgc := hid h.block
  have hlt := h.lt
  have hk9 : (k : Int) ≤ 1000000 := by omega
  obtain ⟨t, ht⟩ : ∃ t, T[k]? = some t := ⟨_, List.getElem?_eq_getElem h.lt⟩
  have hs0 := hid (sfx_cons ht)
  obtain ⟨K, S, P⟩ := t
  have hSs := hid (show S.size ≤ maxLen from hfin ⟨K, S, P⟩ (List.mem_of_getElem? ht))
  have b0 : Below w.heap.size w (w.alloc (.cells #[.string ⟨#[]⟩, .slice none 0 0] 76)) := (Below.refl _ _).alloc (Nat.le_refl _) _
  have HC := Has.new w #[.string ⟨#[]⟩, .slice none 0 0] 76
  have h0 := h.below b0 (Nat.le_refl _)
  have Hcomp := hid hcomp
  have HL := hid hL
  clear hcomp hL
  go_enter Tryz.func146, Tryz.ntmps146
  go_wp2_with fail
  refine (token_any x ad cap T k _ _ h0 ht).mono ?_
  rintro e w1 ⟨rfl, o1⟩
  have h1 := h0.below o1 (Nat.le_refl _)
  have HC1 := HC.below o1 HC.lt
  have b1 := b0.trans (o1.mono b0.size)
  have b1s := b1.size
  have hcw : w.heap.size < w1.heap.size := HC1.lt
  clear h h0 HC b0 o1
  by_cases hK1 : K = 1
  · subst hK1
    have b2 := b1.alloc b1s (.cells #[.int .i64 1, .string S, .int .i64 P] 141)
    have h2 := h1.below ((Below.refl _ _).alloc (Nat.le_refl _) (.cells #[.int .i64 1, .string S, .int .i64 P] 141)) (Nat.le_refl _)
    have HC2 := HC1.alloc (.cells #[.int .i64 1, .string S, .int .i64 P] 141)
    have HN := Has.new w1 #[.int .i64 1, .string S, .int .i64 P] 141
    have n0 : (w1.alloc (.cells #[.int .i64 1, .string S, .int .i64 P] 141)).cell? ⟨w1.heap.size, 0, none⟩ = some (.int .i64 1) := HN.cell (j := 0) rfl
    by_cases hL4 : (4 : Int) < L
    · have hd0 := hid (show d = 0 by have := HL.out; omega)
      go_wp2_with fail
      refine (fail_any 3 x ad cap T k _ h2).mono ?_
      rintro e w3 ⟨⟨p, er, rfl⟩, o3⟩
      go_wp2
      exact ⟨rfl, Or.inr ⟨⟨_, _, rfl⟩, fun u r hu => by rw [hd0.out] at hu; exact hu.zero⟩, Only.ofBelow (b2.trans (o3.mono b2.size)) (Nat.le_refl _)⟩
    · obtain ⟨d', hd'⟩ : ∃ d', d = d' + 1 := ⟨d - 1, by have := HL.out; omega⟩
      have HD := hid hd'
      clear hd'
      go_wp2_with fail
      refine (Hcomp.out d' HD.out x ad cap T k _ L _ (by have := HL.out; have := HD.out; omega) h2 ht rfl).mono ?_
      rintro e w3 ⟨⟨n, v, u3, k3, rfl, hR3, h3, hk3, hc3⟩ | ⟨⟨p, er, rfl⟩, hno⟩, o3⟩
      · have HC3 := HC2.only o3 (by simp; omega)
        have q0 := HC3.cell (j := 0) rfl
        have q1 := HC3.cell (j := 1) rfl
        have zz0 := HC3.free 0
        have zz1 := HC3.free 1
        obtain ⟨av, nv, cv, rfl⟩ : ∃ av nv cv, v = .slice av nv cv := by
          obtain ⟨s, a', e, hv⟩ := hR3.now
          simp only [List.cons.injEq, and_true] at e
          obtain ⟨_, rfl⟩ := e
          match u3, hv with
          | .mk m l, hv =>
            obtain ⟨_, _, ad, cap, rfl, _⟩ := hv
            exact ⟨_, _, _, rfl⟩
        have HC4 := (HC3.set 0 (.string n)).set 1 (.slice av nv cv)
        have r0 : ((w3.setCell ⟨w.heap.size, 0, none⟩ (.string n)).setCell ⟨w.heap.size, 1, none⟩ (.slice av nv cv)).cell? ⟨w.heap.size, 0, none⟩ = some (.string n) := HC4.cell (j := 0) rfl
        have r1 : ((w3.setCell ⟨w.heap.size, 0, none⟩ (.string n)).setCell ⟨w.heap.size, 1, none⟩ (.slice av nv cv)).cell? ⟨w.heap.size, 1, none⟩ = some (.slice av nv cv) := HC4.cell (j := 1) rfl
        have h4 := (h3.other (c := w.heap.size) (o := 0) (by omega) (fun b o e => by have := hgc.out b o e; omega) (.string n)).other (c := w.heap.size) (o := 1) (by omega) (fun b o e => by have := hgc.out b o e; omega) (.slice av nv cv)
        have oZ := (((Only.ofBelow (l := [x]) b2 (Nat.le_refl _)).trans o3 (by simp)).setNew (b := w.heap.size) (o := 0) (Nat.le_refl _) (.string n)).setNew (b := w.heap.size) (o := 1) (Nat.le_refl _) (.slice av nv cv)
        have oC := ((Only.refl [w.heap.size] w3).setIn (b := w.heap.size) (o := 0) (by simp) (.string n)).setIn (b := w.heap.size) (o := 1) (by simp) (.slice av nv cv)
        have hR4 : RestsM TmC (fun j => w.heap.size ≤ j) ((w3.setCell ⟨w.heap.size, 0, none⟩ (.string n)).setCell ⟨w.heap.size, 1, none⟩ (.slice av nv cv)) [.string n, .slice av nv cv] u3 :=
          hR3.move ⟨oC.size, fun j hj hs => oC.block j hj (by simp at hs ⊢; omega)⟩ (fun j _ hj => by simp at hj; omega)
        have Hfin := hid (show (∃ n v t k', Ending.returned (.agg #[.string n, .slice av nv cv]) = Ending.returned (.agg #[.string n, v]) ∧ True ∧ t = u3 ∧ k' = k3) from ⟨n, _, u3, k3, rfl, trivial, rfl, rfl⟩)
        clear Hfin HC3 HC4 h3 HC2 HC1 HN b2 b1 oC o3 hR3 h2 h1
        have H4 := hid h4
        have OZ := hid oZ
        have HR4 := hid hR4
        clear h4 oZ hR4
        go_wp2
        exact bodyPost_ret (v := .agg #[.string n, .slice av nv cv]) (by simp [results, Tryz.results146, go_sem, r0, r1]) rfl ⟨Or.inl ⟨n, .slice av nv cv, u3, k3, rfl, HR4.out, H4.out, hk3, hc3⟩, OZ.out⟩
      · go_wp2
        exact ⟨rfl, Or.inr ⟨⟨_, _, rfl⟩, hno⟩, (Only.ofBelow (l := [x]) b2 (Nat.le_refl _)).trans o3 (by simp)⟩
  by_cases hK2 : K = 2
  · subst hK2
    have kne : (2 : Int) ≠ 0 := by decide
    have kne1 : ¬ (2 : Int) = 1 := by decide
    have b2 := b1.alloc b1s (.cells #[.int .i64 2, .string S, .int .i64 P] 141)
    have h2 := h1.below ((Below.refl _ _).alloc (Nat.le_refl _) (.cells #[.int .i64 2, .string S, .int .i64 P] 141)) (Nat.le_refl _)
    have HC2 := HC1.alloc (.cells #[.int .i64 2, .string S, .int .i64 P] 141)
    have HN := Has.new w1 #[.int .i64 2, .string S, .int .i64 P] 141
    have n0 : (w1.alloc (.cells #[.int .i64 2, .string S, .int .i64 P] 141)).cell? ⟨w1.heap.size, 0, none⟩ = some (.int .i64 2) := HN.cell (j := 0) rfl
    have n1 : (w1.alloc (.cells #[.int .i64 2, .string S, .int .i64 P] 141)).cell? ⟨w1.heap.size, 1, none⟩ = some (.string S) := HN.cell (j := 1) rfl
    by_cases hL4 : (4 : Int) < L
    · have hd0 := hid (show d = 0 by have := HL.out; omega)
      go_wp2_with fail
      refine (fail_any 3 x ad cap T k _ h2).mono ?_
      rintro e w3 ⟨⟨p, er, rfl⟩, o3⟩
      go_wp2
      exact ⟨rfl, Or.inr ⟨⟨_, _, rfl⟩, fun u r hu => by rw [hd0.out] at hu; exact hu.zero⟩, Only.ofBelow (b2.trans (o3.mono b2.size)) (Nat.le_refl _)⟩
    · obtain ⟨d', hd'⟩ : ∃ d', d = d' + 1 := ⟨d - 1, by have := HL.out; omega⟩
      have hnx : k + 1 < T.length := h2.stop k h2.lt (by rw [List.getElem?_eq_getElem h2.lt] at ht; rw [Option.some.inj ht]; exact kne)
      have h3 := h2.next hnx
      have n1' : ((w1.alloc (.cells #[.int .i64 2, .string S, .int .i64 P] 141)).setCell ⟨x, 1, none⟩ (.int .i64 ((k : Int) + 1))).cell? ⟨w1.heap.size, 1, none⟩ = some (.string S) := (HN.other (a := ⟨x, 1, none⟩) (by simp; omega) (.int .i64 ((k : Int) + 1))).cell (j := 1) rfl
      have x1 : (w1.alloc (.cells #[.int .i64 2, .string S, .int .i64 P] 141)).cell? ⟨x, 1, none⟩ = some (.int .i64 k) := h2.has.cell (j := 1) rfl
      have z1 := h2.has.free 1
      have HC3 := HC2.other (a := ⟨x, 1, none⟩) (by simp; omega) (.int .i64 ((k : Int) + 1))
      have q0 := HC3.cell (j := 0) rfl
      have q1 := HC3.cell (j := 1) rfl
      have zz0 := HC3.free 0
      have zz1 := HC3.free 1
      obtain ⟨w3, ew3⟩ : ∃ w3, w3 = (w1.alloc (.cells #[.int .i64 2, .string S, .int .i64 P] 141)).setCell ⟨x, 1, none⟩ (.int .i64 ((k : Int) + 1)) := ⟨_, rfl⟩
      have HC4 := (HC3.set 0 (.string S)).set 1 (.slice none 0 0)
      have h4 := (h3.other (c := w.heap.size) (o := 0) (by omega) (fun b o e => by have := hgc.out b o e; omega) (.string S)).other (c := w.heap.size) (o := 1) (by omega) (fun b o e => by have := hgc.out b o e; omega) (.slice none 0 0)
      have oZ := (((Only.ofBelow (l := [x]) b2 (Nat.le_refl _)).setIn (b := x) (o := 1) (by simp) (.int .i64 ((k : Int) + 1))).setNew (b := w.heap.size) (o := 0) (Nat.le_refl _) (.string S)).setNew (b := w.heap.size) (o := 1) (Nat.le_refl _) (.slice none 0 0)
      rw [← ew3] at HC4 h4 oZ
      have r0 : ((w3.setCell ⟨w.heap.size, 0, none⟩ (.string S)).setCell ⟨w.heap.size, 1, none⟩ (.slice none 0 0)).cell? ⟨w.heap.size, 0, none⟩ = some (.string S) := HC4.cell (j := 0) rfl
      have r1 : ((w3.setCell ⟨w.heap.size, 0, none⟩ (.string S)).setCell ⟨w.heap.size, 1, none⟩ (.slice none 0 0)).cell? ⟨w.heap.size, 1, none⟩ = some (.slice none 0 0) := HC4.cell (j := 1) rfl
      have hcan := hid (show ∀ u r, Can d u (sfx T k) r → Tm.mk S [] = u ∧ sfx T (k + 1) = r from fun u r hu => by
        rw [hd', hs0.out] at hu
        rcases hu.cases with ⟨s, rfl, _, e1, e2, _⟩ | ⟨s, l, rfl, _, _, e1, _, _, e3⟩
        · have : s = S := ba_ext e1.symm
          subst this
          exact ⟨rfl, e2⟩
        · exact absurd e1 kne1)
      clear HC3 HC4 h3 h2 h1 HC2 HC1 HN b2 b1
      rw [ew3] at r0 r1 h4 oZ
      clear ew3 w3
      have H4 := hid h4
      have OZ := hid oZ
      clear h4 oZ hd'
      go_wp2
      refine bodyPost_ret (v := .agg #[.string S, .slice none 0 0]) (by simp [results, Tryz.results146, go_sem, r0, r1]) rfl ⟨Or.inl ⟨S, .slice none 0 0, .mk S [], k + 1, rfl, rests_term hSs.out (OwnM.nil _ _ _ 76 _), H4.out, by omega, hcan.out⟩, OZ.out⟩
  by_cases hK3 : K = 3
  · subst hK3
    have kne : (3 : Int) ≠ 0 := by decide
    have kne1 : ¬ (3 : Int) = 1 := by decide
    have b2 := b1.alloc b1s (.cells #[.int .i64 3, .string S, .int .i64 P] 141)
    have h2 := h1.below ((Below.refl _ _).alloc (Nat.le_refl _) (.cells #[.int .i64 3, .string S, .int .i64 P] 141)) (Nat.le_refl _)
    have HC2 := HC1.alloc (.cells #[.int .i64 3, .string S, .int .i64 P] 141)
    have HN := Has.new w1 #[.int .i64 3, .string S, .int .i64 P] 141
    have n0 : (w1.alloc (.cells #[.int .i64 3, .string S, .int .i64 P] 141)).cell? ⟨w1.heap.size, 0, none⟩ = some (.int .i64 3) := HN.cell (j := 0) rfl
    have n1 : (w1.alloc (.cells #[.int .i64 3, .string S, .int .i64 P] 141)).cell? ⟨w1.heap.size, 1, none⟩ = some (.string S) := HN.cell (j := 1) rfl
    by_cases hL4 : (4 : Int) < L
    · have hd0 := hid (show d = 0 by have := HL.out; omega)
      go_wp2_with fail
      refine (fail_any 3 x ad cap T k _ h2).mono ?_
      rintro e w3 ⟨⟨p, er, rfl⟩, o3⟩
      go_wp2
      exact ⟨rfl, Or.inr ⟨⟨_, _, rfl⟩, fun u r hu => by rw [hd0.out] at hu; exact hu.zero⟩, Only.ofBelow (b2.trans (o3.mono b2.size)) (Nat.le_refl _)⟩
    · obtain ⟨d', hd'⟩ : ∃ d', d = d' + 1 := ⟨d - 1, by have := HL.out; omega⟩
      have hnx : k + 1 < T.length := h2.stop k h2.lt (by rw [List.getElem?_eq_getElem h2.lt] at ht; rw [Option.some.inj ht]; exact kne)
      have h3 := h2.next hnx
      have n1' : ((w1.alloc (.cells #[.int .i64 3, .string S, .int .i64 P] 141)).setCell ⟨x, 1, none⟩ (.int .i64 ((k : Int) + 1))).cell? ⟨w1.heap.size, 1, none⟩ = some (.string S) := (HN.other (a := ⟨x, 1, none⟩) (by simp; omega) (.int .i64 ((k : Int) + 1))).cell (j := 1) rfl
      have x1 : (w1.alloc (.cells #[.int .i64 3, .string S, .int .i64 P] 141)).cell? ⟨x, 1, none⟩ = some (.int .i64 k) := h2.has.cell (j := 1) rfl
      have z1 := h2.has.free 1
      have HC3 := HC2.other (a := ⟨x, 1, none⟩) (by simp; omega) (.int .i64 ((k : Int) + 1))
      have q0 := HC3.cell (j := 0) rfl
      have q1 := HC3.cell (j := 1) rfl
      have zz0 := HC3.free 0
      have zz1 := HC3.free 1
      obtain ⟨w3, ew3⟩ : ∃ w3, w3 = (w1.alloc (.cells #[.int .i64 3, .string S, .int .i64 P] 141)).setCell ⟨x, 1, none⟩ (.int .i64 ((k : Int) + 1)) := ⟨_, rfl⟩
      have HC4 := (HC3.set 0 (.string S)).set 1 (.slice none 0 0)
      have h4 := (h3.other (c := w.heap.size) (o := 0) (by omega) (fun b o e => by have := hgc.out b o e; omega) (.string S)).other (c := w.heap.size) (o := 1) (by omega) (fun b o e => by have := hgc.out b o e; omega) (.slice none 0 0)
      have oZ := (((Only.ofBelow (l := [x]) b2 (Nat.le_refl _)).setIn (b := x) (o := 1) (by simp) (.int .i64 ((k : Int) + 1))).setNew (b := w.heap.size) (o := 0) (Nat.le_refl _) (.string S)).setNew (b := w.heap.size) (o := 1) (Nat.le_refl _) (.slice none 0 0)
      rw [← ew3] at HC4 h4 oZ
      have r0 : ((w3.setCell ⟨w.heap.size, 0, none⟩ (.string S)).setCell ⟨w.heap.size, 1, none⟩ (.slice none 0 0)).cell? ⟨w.heap.size, 0, none⟩ = some (.string S) := HC4.cell (j := 0) rfl
      have r1 : ((w3.setCell ⟨w.heap.size, 0, none⟩ (.string S)).setCell ⟨w.heap.size, 1, none⟩ (.slice none 0 0)).cell? ⟨w.heap.size, 1, none⟩ = some (.slice none 0 0) := HC4.cell (j := 1) rfl
      have hcan := hid (show ∀ u r, Can d u (sfx T k) r → Tm.mk S [] = u ∧ sfx T (k + 1) = r from fun u r hu => by
        rw [hd', hs0.out] at hu
        rcases hu.cases with ⟨s, rfl, _, e1, e2, _⟩ | ⟨s, l, rfl, _, _, e1, _, _, e3⟩
        · have : s = S := ba_ext e1.symm
          subst this
          exact ⟨rfl, e2⟩
        · exact absurd e1 kne1)
      clear HC3 HC4 h3 h2 h1 HC2 HC1 HN b2 b1
      rw [ew3] at r0 r1 h4 oZ
      clear ew3 w3
      have H4 := hid h4
      have OZ := hid oZ
      clear h4 oZ hd'
      go_wp2
      refine bodyPost_ret (v := .agg #[.string S, .slice none 0 0]) (by simp [results, Tryz.results146, go_sem, r0, r1]) rfl ⟨Or.inl ⟨S, .slice none 0 0, .mk S [], k + 1, rfl, rests_term hSs.out (OwnM.nil _ _ _ 76 _), H4.out, by omega, hcan.out⟩, OZ.out⟩
  have e1 : (K == 1) = false := by rw [beq_eq_false_iff_ne]; exact hK1
  have e2 : (K == 2) = false := by rw [beq_eq_false_iff_ne]; exact hK2
  have e3 : (K == 3) = false := by rw [beq_eq_false_iff_ne]; exact hK3
  have hno := hid (show ∀ u r, ¬ Can d u (sfx T k) r from fun u r hu => by
    match d, hu with
    | 0, hu => exact hu.zero
    | d' + 1, hu =>
      rw [hs0.out] at hu
      rcases hu.cases with ⟨s, rfl, e1, _⟩ | ⟨s, l, rfl, _, _, e1, _⟩
      · rcases e1 with e1 | e1
        · exact hK1 e1
        · exact hK2 e1
      · exact hK1 e1)
  have b2 := b1.alloc b1s (.cells #[.int .i64 K, .string S, .int .i64 P] 141)
  have h2 := h1.below ((Below.refl _ _).alloc (Nat.le_refl _) (.cells #[.int .i64 K, .string S, .int .i64 P] 141)) (Nat.le_refl _)
  have HN := Has.new w1 #[.int .i64 K, .string S, .int .i64 P] 141
  have n0 : (w1.alloc (.cells #[.int .i64 K, .string S, .int .i64 P] 141)).cell? ⟨w1.heap.size, 0, none⟩ = some (.int .i64 K) := HN.cell (j := 0) rfl
  clear hK1 hK2 hK3
  go_wp2_with fail
  refine (fail_any 1 x ad cap T k _ h2).mono ?_
  rintro e w3 ⟨⟨p, er, rfl⟩, o3⟩
  go_wp2
  exact ⟨rfl, Or.inr ⟨⟨_, _, rfl⟩, hno.out⟩, Only.ofBelow (b2.trans (o3.mono b2.size)) (Nat.le_refl _)⟩
theorem term_any : ∀ (d : Nat), d ≤ 4 → ∀ (x : Nat) (ad : Option Addr) (cap : Nat) (T : List Tok) (k : Nat) (L : Int) (w : World), L = 5 - (d : Int) → RdAt w x ad cap T k →
    Calls Tryz.prog 146 #[.pointer (some ⟨x, 0, none⟩), .int .i64 L] w (TermSaid d x ad cap T k w)
  | 0, hd, x, ad, cap, T, k, L, w, hL, h => term_walk 0 hd (fun d' e => by cases e) x ad cap T k L w hL h
  | d + 1, hd, x, ad, cap, T, k, L, w, hL, h => term_walk (d + 1) hd (fun d' e x ad cap T k t L w hL h ht hk => by
      cases e
      exact compound_step d (by omega) (term_any d (by omega)) x ad cap T k t L w hL h ht hk) x ad cap T k L w hL h
end Go.Proofs.YtahbhhenobehfaaGreatDoor
