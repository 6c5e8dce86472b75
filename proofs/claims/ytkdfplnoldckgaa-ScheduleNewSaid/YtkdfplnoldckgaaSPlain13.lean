/-
  The plain law behind ScheduleNew: what Swiss returns pairs every player once. No program in sight.
-/
import Derived.Test.YtkdfplnoldckgaaSPlain4
import Derived.Test.YtkdfplnoldckgaaSPlain8
namespace Go.Proofs.Ytkdfplnoldckgaa

theorem erase_perm : ∀ (l : List Int) (i : Nat) (h : i < l.length), (l[i] :: l.eraseIdx i).Perm l
  | [], i, h => by simp at h
  | x :: r, 0, h => by simp
  | x :: r, i + 1, h => by
    have := erase_perm r i (by simpa using h)
    simp only [List.getElem_cons_succ, List.eraseIdx_cons_succ]
    exact (List.Perm.swap x _ _).trans (List.Perm.cons _ this)
theorem pairL_spec {M : Int → Int → Bool} : ∀ (f : Nat) (l : List Int) (s : List (List Int)), pairL M f l = some s → s.flatten.Perm l ∧ ∀ x ∈ s, x.length = 2 ∧ M (x.getD 0 0) (x.getD 1 0) = false
  | f, [], s, h => by rw [pairL_nil] at h; injection h with h; rw [← h]; simp
  | 0, _ :: _, s, h => by cases h
  | f + 1, x :: r, s, h => by
    simp only [pairL] at h
    obtain ⟨j, hj, e⟩ := List.exists_of_findSome?_eq_some h
    have hj' : j < r.length := by simpa using hj
    split at e
    · cases e
    · rename_i hM
      obtain ⟨t, ht, e2⟩ := Option.map_eq_some_iff.1 e
      obtain ⟨h1, h2⟩ := pairL_spec f (r.eraseIdx j) t ht
      subst e2
      refine ⟨?_, fun y hy => ?_⟩
      · have e3 : r.getD j 0 = r[j] := by rw [List.getD_eq_getElem?_getD, List.getElem?_eq_getElem hj']; rfl
        rw [e3]
        show (x :: r[j] :: t.flatten).Perm (x :: r)
        exact List.Perm.cons _ ((List.Perm.cons _ h1).trans (erase_perm r j hj'))
      · rcases List.mem_cons.1 hy with e | hm
        · subst e
          exact ⟨rfl, by simpa using hM⟩
        · exact h2 y hm
def OkPair (L : List (List Int)) (x : List Int) : Prop := (x.length = 1 ∧ byeB L (x.getD 0 0) = false) ∨ (x.length = 2 ∧ metB L (x.getD 0 0) (x.getD 1 0) = false)
def lone (x : List Int) : Bool := x.length == 1
def byesN (A : List (List Int)) : Nat := (A.filter lone).length
theorem byeTo_ok (L : List (List Int)) (ps : List Int) : ∀ (k q : Nat), byeTo L ps k = q → byeB L (ps.getD q 0) = false
  | 0, q, h => by simp [byeTo] at h
  | k + 1, q, h => by
    simp only [byeTo] at h
    split at h
    · exact byeTo_ok L ps k q h
    · rename_i hb
      have : k = q := by omega
      subst this
      simpa using hb
theorem byes_two {A : List (List Int)} (h : ∀ x ∈ A, x.length = 2) : byesN A = 0 := by
  unfold byesN
  rw [List.length_eq_zero_iff, List.filter_eq_nil_iff]
  intro x hx
  unfold lone
  rw [h x hx]; decide
def NewOk (ps : List Int) (L A : List (List Int)) : Prop := A.flatten.Perm ps ∧ (∀ x ∈ A, OkPair L x) ∧ byesN A = ps.length % 2 ∧ ps.Nodup ∧ ps.length ≤ 16
theorem swiss_new {ps : List Int} {L : List (List Int)} (h : (swiss ps L 2).1 = 0) : NewOk ps L (swiss ps L 2).2 := by
  unfold swiss at h ⊢
  split at h
  · simp at h
  rename_i hr
  split at h
  · simp at h
  rename_i hs
  rw [if_neg hr, if_neg hs]
  have hst : stdOk [] ps = true := by cases h' : stdOk [] ps <;> simp_all
  have hnd := (stdOk_spec ps [] hst).2
  unfold swissR at h ⊢
  split at h
  · rename_i hodd
    rw [if_pos hodd]
    split at h
    · simp at h
    rename_i hb
    rw [if_neg hb]
    cases hP : PL (metB L) (ps.eraseIdx (byeTo L ps ps.length).toNat) with
    | none => rw [hP] at h; simp at h
    | some l =>
      obtain ⟨h1, h2⟩ := pairL_spec _ _ _ hP
      have hbd := byeTo_bd L ps ps.length
      obtain ⟨q, hq⟩ := Int.eq_ofNat_of_zero_le (show 0 ≤ byeTo L ps ps.length by omega)
      have hqn : q < ps.length := by omega
      have hbo := byeTo_ok L ps ps.length q hq
      rw [hq, Int.toNat_natCast] at h1 ⊢
      have e3 : ps.getD q 0 = ps[q] := by rw [List.getD_eq_getElem?_getD, List.getElem?_eq_getElem hqn]; rfl
      refine ⟨?_, fun x hx => ?_, ?_, hnd, by omega⟩
      · show (l ++ [[ps.getD q 0]]).flatten.Perm ps
        rw [List.flatten_append, e3]
        show (l.flatten ++ [ps[q]]).Perm ps
        exact (List.perm_append_comm.trans (List.Perm.cons _ h1)).trans (erase_perm ps q hqn)
      · rcases List.mem_append.1 hx with hm | hm
        · exact Or.inr (h2 x hm)
        · rw [List.mem_singleton] at hm
          subst hm
          exact Or.inl ⟨rfl, hbo⟩
      · show byesN (l ++ [[ps.getD q 0]]) = _
        unfold byesN
        rw [List.filter_append, List.length_append]
        have := byes_two fun x hx => (h2 x hx).1
        unfold byesN at this
        rw [this, hodd]; rfl
  · rename_i hev
    rw [if_neg hev]
    cases hP : PL (metB L) ps with
    | none => rw [hP] at h; simp at h
    | some l =>
      obtain ⟨h1, h2⟩ := pairL_spec _ _ _ hP
      refine ⟨h1, fun x hx => Or.inr (h2 x hx), ?_, hnd, by omega⟩
      show byesN l = _
      rw [byes_two fun x hx => (h2 x hx).1]; omega
theorem swiss_none {ps : List Int} {L : List (List Int)} (h : (swiss ps L 2).1 ≠ 0) : (swiss ps L 2).2 = [] := by
  unfold swiss at h ⊢
  split
  · rfl
  · rename_i h1
    rw [if_neg h1] at h
    split
    · rfl
    · rename_i h2
      rw [if_neg h2] at h
      unfold swissR at h ⊢
      split
      · rename_i h3
        rw [if_pos h3] at h
        split
        · rfl
        · rename_i h4
          rw [if_neg h4] at h
          cases hP : PL (metB L) (ps.eraseIdx (byeTo L ps ps.length).toNat) with
          | none => rfl
          | some l => rw [hP] at h; simp at h
      · rename_i h3
        rw [if_neg h3] at h
        cases hP : PL (metB L) ps with
        | none => rfl
        | some l => rw [hP] at h; simp at h
/-- How often a player is in a list. -/
def cntN (l : List Int) (p : Int) : Nat := (l.filter (· == p)).length
theorem cntN_append (a b : List Int) (p : Int) : cntN (a ++ b) p = cntN a p + cntN b p := by unfold cntN; rw [List.filter_append, List.length_append]
theorem cntN_take (l : List Int) (p : Int) (k : Nat) (hk : k < l.length) : cntN (l.take (k + 1)) p = cntN (l.take k) p + (if (l.getD k 0 == p) = true then 1 else 0) := by
  rw [List.take_succ_eq_append_getElem hk, cntN_append, List.getD_eq_getElem?_getD, List.getElem?_eq_getElem hk]
  congr 1
  unfold cntN
  by_cases h : (l[k] == p) = true <;> simp [h]
theorem cntN_le (l : List Int) (p : Int) : cntN l p ≤ l.length := List.length_filter_le _ _
theorem flat_take (A : List (List Int)) (k : Nat) (hk : k < A.length) : (A.take (k + 1)).flatten = (A.take k).flatten ++ A.getD k [] := by
  rw [List.take_succ_eq_append_getElem hk, List.flatten_append, List.getD_eq_getElem?_getD, List.getElem?_eq_getElem hk]
  simp
theorem byes_take (A : List (List Int)) (k : Nat) (hk : k < A.length) : byesN (A.take (k + 1)) = byesN (A.take k) + (if lone (A.getD k []) = true then 1 else 0) := by
  unfold byesN
  rw [List.take_succ_eq_append_getElem hk, List.filter_append, List.length_append, List.getD_eq_getElem?_getD, List.getElem?_eq_getElem hk]
  congr 1
  by_cases h : lone A[k] = true <;> simp [h]
theorem flat_take_le (A : List (List Int)) : ∀ k, (A.take k).flatten.length ≤ A.flatten.length := fun k => by
  have h : (A.take k ++ A.drop k).flatten.length = A.flatten.length := by rw [List.take_append_drop]
  rw [List.flatten_append, List.length_append] at h
  omega
theorem new_cnt {ps : List Int} {L A : List (List Int)} (h : NewOk ps L A) (i : Nat) (hi : i < ps.length) : cntN A.flatten (ps.getD i 0) = 1 := by
  have e : ∀ p, cntN A.flatten p = cntN ps p := fun p => by unfold cntN; exact (h.1.filter _).length_eq
  rw [e]
  have hnd := h.2.2.2.1
  have hm : ps.getD i 0 ∈ ps := getD_mem hi
  generalize ps.getD i 0 = p at hm
  clear e h hi
  induction ps with
  | nil => simp at hm
  | cons q r ih =>
    rw [List.nodup_cons] at hnd
    unfold cntN
    rw [List.filter_cons]
    by_cases e : q = p
    · subst e
      rw [if_pos (by simp), List.length_cons]
      have : r.filter (· == q) = [] := by
        rw [List.filter_eq_nil_iff]
        intro y hy
        have : y ≠ q := fun e => hnd.1 (e ▸ hy)
        simpa using this
      rw [this]; rfl
    · rw [if_neg (by simpa using e)]
      rcases List.mem_cons.1 hm with e2 | hm
      · exact absurd e2.symm e
      · exact ih hnd.2 hm
theorem meet_zero {L : List (List Int)} {a b : Int} (h : metB L a b = false) : meetN [L] a b = 0 := by
  unfold meetN meetR
  have : L.filter (metOne a b) = [] := by
    rw [List.filter_eq_nil_iff]
    unfold metB at h
    rw [List.any_eq_false] at h
    exact h
  simp [this]
theorem bye_not {L : List (List Int)} {p : Int} (h : byeB L p = false) (k : Nat) (hk : k < L.length) (h1 : (L.getD k []).length = 1) : ((L.getD k []).getD 0 0 == p) = false := by
  unfold byeB at h
  rw [List.any_eq_false] at h
  have := h (L.getD k []) (getD_mem hk)
  unfold byeOne at this
  rw [h1] at this
  cases e : ((L.getD k []).getD 0 0 == p)
  · rfl
  · rw [e] at this; simp at this
theorem flat_long : ∀ A : List (List Int), (∀ x ∈ A, 1 ≤ x.length) → A.length ≤ A.flatten.length
  | [], _ => by simp
  | x :: A, h => by
    have h1 := h x (by simp)
    have h2 := flat_long A fun y hy => h y (by simp [hy])
    simp only [List.flatten_cons, List.length_append, List.length_cons]
    omega
theorem new_len {ps : List Int} {L A : List (List Int)} (h : NewOk ps L A) : A.length ≤ A.flatten.length :=
  flat_long A fun x hx => by rcases h.2.1 x hx with ⟨e, _⟩ | ⟨e, _⟩ <;> omega
end Go.Proofs.Ytkdfplnoldckgaa
