/-
  The plain law of pairing: the search, its fuel, and sets of players as numbers. No program in sight.
-/
import Derived.Test.YtkdfplnoldckgaaSPlain6
import Derived.WalkKit
import Derived.IntWalk
import Derived.OpenShut
namespace Go.Proofs.Ytkdfplnoldckgaa

/-- The first way to pair a list of players; M: who must not meet. -/
def pairL (M : Int → Int → Bool) : Nat → List Int → Option (List (List Int))
  | _, [] => some []
  | 0, _ :: _ => none
  | f + 1, x :: r => (List.range r.length).findSome? fun j => if M x (r.getD j 0) = true then none else (pairL M f (r.eraseIdx j)).map ([x, r.getD j 0] :: ·)
def PL (M : Int → Int → Bool) (l : List Int) : Option (List (List Int)) := pairL M l.length l
theorem pairL_nil (M : Int → Int → Bool) (f : Nat) : pairL M f [] = some [] := by cases f <;> rfl
theorem findSome_congr {α β : Type} (l : List α) (f g : α → Option β) (h : ∀ x ∈ l, f x = g x) : l.findSome? f = l.findSome? g := by
  induction l with
  | nil => rfl
  | cons a l ih =>
    simp only [List.findSome?_cons]
    rw [h a (by simp), ih (fun x hx => h x (by simp [hx]))]
theorem pairL_fuel (M : Int → Int → Bool) : ∀ (f g : Nat) (l : List Int), l.length ≤ f → l.length ≤ g → pairL M f l = pairL M g l
  | f, g, [], _, _ => by rw [pairL_nil, pairL_nil]
  | 0, g, _ :: _, h, _ => by simp at h
  | f + 1, 0, _ :: _, _, h => by simp at h
  | f + 1, g + 1, x :: r, h1, h2 => by
    simp only [pairL]
    refine findSome_congr _ _ _ fun j hj => ?_
    have hj' : j < r.length := by simpa using hj
    have hl : (r.eraseIdx j).length = r.length - 1 := List.length_eraseIdx_of_lt hj'
    simp only [List.length_cons] at h1 h2
    rw [pairL_fuel M f g (r.eraseIdx j) (by omega) (by omega)]
/-- One try: x with the player at place j of r. -/
def tryP (M : Int → Int → Bool) (x : Int) (r : List Int) (j : Nat) : Option (List (List Int)) := if M x (r.getD j 0) = true then none else (PL M (r.eraseIdx j)).map ([x, r.getD j 0] :: ·)
theorem PL_cons (M : Int → Int → Bool) (x : Int) (r : List Int) : PL M (x :: r) = (List.range r.length).findSome? (tryP M x r) := by
  unfold PL
  simp only [List.length_cons, pairL]
  refine findSome_congr _ _ _ fun j hj => ?_
  have hj' : j < r.length := by simpa using hj
  have hl : (r.eraseIdx j).length = r.length - 1 := List.length_eraseIdx_of_lt hj'
  unfold tryP PL
  rw [pairL_fuel M r.length (r.eraseIdx j).length (r.eraseIdx j) (by omega) (Nat.le_refl _)]
theorem PL_nil (M : Int → Int → Bool) : PL M [] = some [] := pairL_nil M _
theorem pairL_length {M : Int → Int → Bool} : ∀ (f : Nat) (l : List Int) (s : List (List Int)), pairL M f l = some s → s.length ≤ l.length
  | f, [], s, h => by rw [pairL_nil] at h; injection h with h; rw [← h]; simp
  | 0, _ :: _, s, h => by cases h
  | f + 1, x :: r, s, h => by
    simp only [pairL] at h
    obtain ⟨j, hj, e⟩ := List.exists_of_findSome?_eq_some h
    split at e
    · cases e
    · obtain ⟨t, ht, e2⟩ := Option.map_eq_some_iff.1 e
      have h1 := pairL_length f (r.eraseIdx j) t ht
      have h2 : (r.eraseIdx j).length ≤ r.length := List.length_eraseIdx_le r j
      rw [← e2]
      simp only [List.length_cons]
      omega
theorem PL_length {M : Int → Int → Bool} {l : List Int} {s : List (List Int)} (h : PL M l = some s) : s.length ≤ l.length := pairL_length _ _ _ h
/-- None of the first j tries has led anywhere. -/
def noneTo (M : Int → Int → Bool) (x : Int) (r : List Int) (j : Nat) : Prop := (List.range j).findSome? (tryP M x r) = none
theorem noneTo_zero (M : Int → Int → Bool) (x : Int) (r : List Int) : noneTo M x r 0 := rfl
theorem noneTo_succ {M : Int → Int → Bool} {x : Int} {r : List Int} {j : Nat} (h : noneTo M x r j) (h2 : tryP M x r j = none) : noneTo M x r (j + 1) := by
  unfold noneTo at *
  rw [List.range_succ, List.findSome?_append, h]
  simp [h2]
theorem noneTo_end {M : Int → Int → Bool} {x : Int} {r : List Int} (h : noneTo M x r r.length) : PL M (x :: r) = none := by rw [PL_cons]; exact h
theorem noneTo_found {M : Int → Int → Bool} {x : Int} {r : List Int} {j : Nat} {l : List (List Int)} (hj : j < r.length) (h : noneTo M x r j) (h2 : tryP M x r j = some l) : PL M (x :: r) = some l := by
  rw [PL_cons, show r.length = j + (r.length - j) by omega, List.range_add, List.findSome?_append]
  unfold noneTo at h
  rw [h]
  obtain ⟨d, hd⟩ : ∃ d, r.length - j = d + 1 := ⟨r.length - j - 1, by omega⟩
  rw [hd, List.range_succ_eq_map]
  simp [h2]
theorem tryP_met {M : Int → Int → Bool} {x : Int} {r : List Int} {j : Nat} (h : M x (r.getD j 0) = true) : tryP M x r j = none := by unfold tryP; rw [if_pos h]
theorem tryP_none {M : Int → Int → Bool} {x : Int} {r : List Int} {j : Nat} (h2 : PL M (r.eraseIdx j) = none) : tryP M x r j = none := by unfold tryP; rw [h2]; split <;> rfl
theorem tryP_some {M : Int → Int → Bool} {x : Int} {r : List Int} {j : Nat} {l : List (List Int)} (h : M x (r.getD j 0) = false) (h2 : PL M (r.eraseIdx j) = some l) : tryP M x r j = some ([x, r.getD j 0] :: l) := by
  unfold tryP; rw [h2, if_neg (by rw [h]; exact Bool.false_ne_true)]; rfl

/-- A set of players as a number. -/
def maskN (l : List Int) : Nat := l.foldl (fun m p => m ||| 2 ^ p.toNat) 0
theorem maskN_snoc (l : List Int) (p : Int) : maskN (l ++ [p]) = maskN l ||| 2 ^ p.toNat := by simp [maskN, List.foldl_append]
theorem mask_fold (l : List Int) : ∀ (m j : Nat), (l.foldl (fun m p => m ||| 2 ^ p.toNat) m).testBit j = (m.testBit j || l.any fun p => p.toNat == j) := by
  induction l with
  | nil => intro m j; simp
  | cons p l ih =>
    intro m j
    simp only [List.foldl_cons, List.any_cons]
    rw [ih, Nat.testBit_or, Nat.testBit_two_pow, Bool.or_assoc]
    congr 1
theorem maskN_testBit (l : List Int) (j : Nat) : (maskN l).testBit j = l.any fun p => p.toNat == j := by
  unfold maskN; rw [mask_fold]; simp
theorem maskN_lt (l : List Int) (h : ∀ p ∈ l, 0 ≤ p ∧ p < 16) : maskN l < 2 ^ 16 := by
  refine Nat.lt_pow_two_of_testBit _ fun i hi => ?_
  rw [maskN_testBit, List.any_eq_false]
  intro p hp
  have := h p hp
  simp
  omega
theorem or_i64 (x y : Nat) (hx : x < 2 ^ 16) (hy : y < 2 ^ 16) : bits .or .i64 (x : Int) (y : Int) = ((x ||| y : Nat) : Int) := by
  show IntKind.i64.wrap ((BitVec.ofInt 64 (x : Int) ||| BitVec.ofInt 64 (y : Int)).toNat : Int) = _
  have e : ∀ a : Nat, a < 2 ^ 16 → (BitVec.ofInt 64 (a : Int)).toNat = a := fun a ha => by
    rw [BitVec.ofInt_natCast, BitVec.toNat_ofNat]; exact Nat.mod_eq_of_lt (Nat.lt_trans ha (by decide))
  rw [BitVec.toNat_or, e x hx, e y hy]
  have hb : x ||| y < 2 ^ 16 := Nat.or_lt_two_pow hx hy
  exact IntWalk.i64_in _ (by omega)
theorem sub_filter {l P : List Int} (h : l.Sublist P) (hP : P.Nodup) : P.filter (fun p => l.contains p) = l := by
  induction h with
  | slnil => rfl
  | @cons l P a h ih =>
    rw [List.nodup_cons] at hP
    have ha : l.contains a = false := by
      cases hc : l.contains a
      · rfl
      · exact absurd (h.subset (by simpa using hc)) hP.1
    rw [List.filter_cons, ha]
    simpa using ih hP.2
  | @cons_cons l P a h ih =>
    rw [List.nodup_cons] at hP
    have e : P.filter (fun p => (a :: l).contains p) = P.filter (fun p => l.contains p) := List.filter_congr fun p hp => by
      have hne : p ≠ a := fun e => hP.1 (e ▸ hp)
      simp [hne]
    rw [List.filter_cons, if_pos (by simp), e, ih hP.2]
theorem mask_inj {P l1 l2 : List Int} (hP : P.Nodup) (hr : ∀ p ∈ P, 0 ≤ p ∧ p < 16) (h1 : l1.Sublist P) (h2 : l2.Sublist P) (h : maskN l1 = maskN l2) : l1 = l2 := by
  rw [← sub_filter h1 hP, ← sub_filter h2 hP]
  refine List.filter_congr fun p hp => ?_
  have key : ∀ l : List Int, l.Sublist P → (l.contains p = (maskN l).testBit p.toNat) := fun l hl => by
    rw [maskN_testBit, Bool.eq_iff_iff, List.any_eq_true]
    constructor
    · intro hc
      exact ⟨p, by simpa using hc, by simp⟩
    · rintro ⟨q, hq, e⟩
      have h1 := hr p hp
      have h2 := hr q (hl.subset hq)
      have : q = p := by simp at e; omega
      subst this
      simpa using hq
  rw [key l1 h1, key l2 h2, h]
/-- How many more entries the search may make in its memory. -/
def memU : Nat → Nat
  | 0 => 1
  | f + 1 => 1 + f * memU f
theorem memU_small : memU 16 ≤ 100000000000000 := by decide
theorem sub_tail {x : Int} {r P : List Int} (h : (x :: r).Sublist P) (j : Nat) : (r.eraseIdx j).Sublist P := ((List.eraseIdx_sublist r j).trans (List.sublist_cons_self x r)).trans h
end Go.Proofs.Ytkdfplnoldckgaa
