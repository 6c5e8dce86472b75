/-
  Parts of records, bounds of their payloads. No program in sight.
  Texts cut at a byte, and numerals read back. No program in sight.
  The walks of strings.Split at any separator of one byte or none: explode at bytes that are no ASCII is walked here.
-/
import Derived.Test.YtahbhhenobehfaaGreatDoorNT24
import Derived.Test.YtahbhhenobehfaaGreatDoorNT17
import Derived.Test.YtahbhhenobehfaaGreatDoorM7
import Derived.Test.YtahbhhenobehfaaGreatDoorM16
import Derived.Test.YtahbhhenobehfaaGreatDoorM9
import Derived.Lib.SplitLaws
import Derived.Lib.AtoiAll
import Derived.Lib.ParseIntB
import Derived.Lib.Explode
import Derived.Test.YtahbhhenobehfaaGreatDoorShelf
import Derived.Laws.MakeOwn
import Derived.Laws.Strings3
import Derived.Shelf.Unicode.DecodeLastEight
import Derived.WalkSmall
namespace Go.Proofs.YtahbhhenobehfaaGreatDoor
open Go.RowKit

def partR (r : Rec) (m : Nat) : Rec := if r.rounds.length ≤ m then r else { r with rounds := r.rounds.take m, ended := false, goals := [], excl := exclL (r.rounds.take m) }
def partK (r : Rec) (m : Nat) : Nat := if r.rounds.length ≤ m then (payL r).length else m + 1
theorem partR_all {r : Rec} {m : Nat} (h : r.rounds.length ≤ m) : partR r m = r := if_pos h
theorem partR_cut {r : Rec} {m : Nat} (h : ¬ r.rounds.length ≤ m) : partR r m = { r with rounds := r.rounds.take m, ended := false, goals := [], excl := exclL (r.rounds.take m) } := if_neg h
theorem payL_len (r : Rec) : r.rounds.length + 1 ≤ (payL r).length := by
  unfold payL
  rw [List.length_cons, List.length_append, List.length_map]; omega
theorem part_pays (r : Rec) (m : Nat) : payL (partR r m) = (payL r).take (partK r m) := by
  unfold partK
  by_cases h : r.rounds.length ≤ m
  · rw [partR_all h, if_pos h, List.take_of_length_le (Nat.le_refl _)]
  · rw [partR_cut h, if_neg h]
    show payHead r :: ((r.rounds.take m).map payRound ++ []) = (payHead r :: (r.rounds.map payRound ++ _)).take (m + 1)
    rw [List.take_succ_cons, List.append_nil, List.take_append_of_le_length (by rw [List.length_map]; omega), List.map_take]
theorem partK_mono (r : Rec) {m m' : Nat} (h : m ≤ m') : partK r m ≤ partK r m' := by
  have := payL_len r
  unfold partK
  split <;> split <;> omega
theorem partK_le (r : Rec) (m : Nat) : partK r m ≤ (payL r).length := by
  have := payL_len r
  unfold partK
  split <;> omega
theorem all_take {α : Type} {l : List α} {f : α → Bool} (h : l.all f = true) (m : Nat) : (l.take m).all f = true := by
  rw [List.all_eq_true] at h ⊢
  exact fun x hx => h x (List.mem_of_mem_take hx)
theorem firstB_take {l : List Rnd} (h : firstB l = true) (m : Nat) : firstB (l.take m) = true := by
  cases l with
  | nil => simp [firstB]
  | cons x r =>
    cases m with
    | zero => rfl
    | succ m => exact h
theorem wfB_parts {r : Rec} (h : wfB r = true) : headB r = true ∧ firstB r.rounds = true ∧ r.rounds.all roundB = true ∧ tailB r = true ∧ sameB r.excl (exclL r.rounds) = true := by
  unfold wfB at h
  simp only [Bool.and_eq_true] at h
  exact ⟨h.1, h.2.1.1, h.2.1.2, h.2.2.1, h.2.2.2⟩
theorem wfB_part {r : Rec} (h : wfB r = true) (m : Nat) : wfB (partR r m) = true := by
  by_cases hm : r.rounds.length ≤ m
  · rw [partR_all hm]; exact h
  · rw [partR_cut hm]
    obtain ⟨h1, h2, h3, h4, h5⟩ := wfB_parts h
    unfold wfB
    simp only [Bool.and_eq_true]
    refine ⟨?_, ⟨firstB_take h2 m, all_take h3 m⟩, rfl, decide_eq_true rfl⟩
    unfold headB at h1 ⊢
    simp only [Bool.and_eq_true, decide_eq_true_eq, List.length_take] at h1 ⊢
    exact ⟨h1.1, h1.2.1, h1.2.2.1, h1.2.2.2.1, by have := h1.2.2.2.2; omega⟩
theorem nameB_len {l : List UInt8} (h : nameB l = true) : l.length ≤ 16 := by
  unfold nameB spelledB at h
  simp only [Bool.and_eq_true, decide_eq_true_eq] at h
  exact h.1.1.1.2
theorem numB_len {l : List UInt8} (h : numB l = true) : l.length ≤ 4 := by
  unfold numB at h
  simp only [Bool.and_eq_true, decide_eq_true_eq] at h
  exact h.1.1.2
/-- How long a ground term's text may be. -/
def textM : Nat → Nat
  | 0 => 16
  | k + 1 => 18 + 4 * (textM k + 1)
theorem sum_le {α : Type} (l : List α) (f : α → Nat) (M : Nat) (h : ∀ x ∈ l, f x ≤ M) : (l.map f).sum ≤ l.length * M := by
  induction l with
  | nil => simp
  | cons x r ih =>
    rw [List.map_cons, List.sum_cons, List.length_cons, Nat.add_one_mul]
    have := ih fun y hy => h y (by simp [hy])
    have := h x (by simp)
    omega
theorem textL_len : ∀ (k : Nat) (t : Tm), groundB (k + 1) t = true → (textL t).length ≤ textM k
  | k, .mk s l, h => by
    by_cases h0 : l = []
    · subst h0
      rw [textL_leaf]
      have hk : 16 ≤ textM k := by cases k with | zero => exact Nat.le_refl _ | succ k => unfold textM; omega
      simp only [groundB, List.isEmpty_nil, if_true, Bool.or_eq_true] at h
      rcases h with h | h
      · have := nameB_len h; omega
      · have := numB_len h; omega
    · have hl : 0 < l.length := List.length_pos_iff.mpr h0
      have he : l.isEmpty = false := by cases l with | nil => exact absurd rfl h0 | cons _ _ => rfl
      simp only [groundB, he, Bool.false_eq_true, if_false, Bool.and_eq_true, decide_eq_true_eq] at h
      obtain ⟨h4, hall, hn⟩ := h
      have hnl := nameB_len hn
      cases k with
      | zero =>
        rw [List.all_eq_true] at hall
        have := hall l[0] (List.getElem_mem hl)
        cases hq : l[0] with
        | mk a b => rw [hq] at this; simp [groundB] at this
      | succ k =>
        rw [textL_node s l hl]
        have hj := lens_join [44] (l.map textL)
        rw [List.map_map] at hj
        have hs := sum_le l ((fun x => x.length + ([44] : List UInt8).length) ∘ textL) (textM k + 1) (fun t ht => by
          rw [List.all_eq_true] at hall
          have := textL_len k t (hall t ht)
          show (textL t).length + 1 ≤ _
          omega)
        have hm : l.length * (textM k + 1) ≤ 4 * (textM k + 1) := Nat.mul_le_mul_right _ h4
        simp only [List.length_append, List.length_cons, List.length_nil]
        unfold textM
        omega
theorem termsL_len {x : Rnd} (h : roundB x = true) : (termsL x.joint).length ≤ 8000 := by
  unfold roundB at h
  simp only [Bool.and_eq_true, decide_eq_true_eq] at h
  obtain ⟨h1, h2, h3, h4⟩ := h
  rw [List.all_eq_true] at h4
  unfold termsL
  have hj := lens_join [44, 32] (x.joint.map textL)
  rw [List.map_map] at hj
  have hs := sum_le x.joint ((fun x => x.length + ([44, 32] : List UInt8).length) ∘ textL) (textM 3 + 2) (fun t ht => by
    have := textL_len 3 t (h4 t ht)
    show (textL t).length + 2 ≤ _
    omega)
  have hm : x.joint.length * (textM 3 + 2) ≤ 4 * (textM 3 + 2) := Nat.mul_le_mul_right _ h1
  have e : textM 3 = 1930 ∨ textM 3 ≤ 1930 := Or.inr (by decide)
  omega
theorem withinB_mem {l : List Int} {K : Int} (h : withinB l K = true) : ∀ n ∈ l, 0 ≤ n ∧ n ≤ K := fun n hn => by
  unfold withinB at h
  rw [List.all_eq_true] at h
  have := h n hn
  simp only [Bool.and_eq_true, decide_eq_true_eq] at this
  exact this
/-- What a well-formed record asks of the walks. -/
theorem fine_of {r : Rec} (h : wfB r = true) (hs : 0 ≤ r.seed ∧ r.seed ≤ 18446744073709551615) : RecFine r := by
  obtain ⟨h1, h2, h3, h4, h5⟩ := wfB_parts h
  unfold headB at h1
  unfold tailB at h4
  simp only [Bool.and_eq_true, decide_eq_true_eq] at h1 h4
  obtain ⟨hn, ⟨s1, s2⟩, ⟨c1, c2⟩, ht, hr⟩ := h1
  obtain ⟨g1, g2, _⟩ := h4
  rw [List.all_eq_true] at h3
  have hnl := nameB_len hn
  rw [blen] at hnl
  refine ⟨by omega, hs, ⟨by omega, by omega⟩, ⟨by omega, by omega⟩, by omega, by omega, fun x hx => ?_, fun x hx => ?_, ⟨by omega, fun n hn => ?_⟩⟩
  · have hx3 := h3 x hx
    have := termsL_len hx3
    unfold roundB at hx3
    simp only [Bool.and_eq_true, decide_eq_true_eq] at hx3
    exact ⟨by omega, by omega⟩
  · have hx3 := h3 x hx
    unfold roundB at hx3
    simp only [Bool.and_eq_true, decide_eq_true_eq] at hx3
    exact ⟨by omega, fun n hn => by have := withinB_mem hx3.2.2.1 n hn; omega⟩
  · have := withinB_mem g2 n hn; omega
theorem numT_len20 (n : Int) (h0 : 0 ≤ n) (h1 : n ≤ 18446744073709551615) : (numT n).length ≤ 20 := by
  unfold numT; exact dec_len 19 n.toNat (by omega)
/-- No payload of a well-formed record with a short text is long. -/
theorem pays_short {r : Rec} (h : wfB r = true) (hs : 0 ≤ r.seed ∧ r.seed ≤ 18446744073709551615) (ht : r.text.size ≤ 500) : ∀ p ∈ payL r, p.length ≤ 60000 := by
  have hf := fine_of h hs
  obtain ⟨h1, h2, h3, h4, h5⟩ := wfB_parts h
  rw [List.all_eq_true] at h3
  have hn : r.name.size ≤ 16 := by
    unfold headB at h1
    simp only [Bool.and_eq_true] at h1
    have := nameB_len h1.1
    rwa [blen] at this
  unfold tailB at h4
  simp only [Bool.and_eq_true, decide_eq_true_eq] at h4
  intro p hp
  unfold payL at hp
  rw [List.mem_cons, List.mem_append, List.mem_map] at hp
  rcases hp with rfl | ⟨x, hx, rfl⟩ | hp
  · have q1 := numT_len20 r.seed hs.1 hs.2
    have q2 := numT_len20 r.start hf.start.1 (by have := hf.start.2; omega)
    have q3 := numT_len20 r.clock hf.clock.1 (by have := hf.clock.2; omega)
    have q4 := recL_len r.text.data.toList
    rw [blen] at q4
    have q5 : r.name.data.toList.length = r.name.size := blen _
    unfold payHead
    simp only [List.length_append, List.length_cons, List.length_nil]
    omega
  · have q1 := recL_len (termsL x.joint)
    have q2 := termsL_len (h3 x hx)
    have q3 := listL_len x.faults [] (hf.faults x hx).2
    have q4 : x.faults.length ≤ 4 := by
      have := h3 x hx
      unfold roundB at this
      simp only [Bool.and_eq_true, decide_eq_true_eq] at this
      exact this.2.1
    have q5 : x.faults.length * (20 + ([] : List UInt8).length) ≤ 4 * 20 := Nat.mul_le_mul q4 (by simp)
    unfold payRound
    simp only [List.length_append, List.length_cons, List.length_nil]
    omega
  · split at hp
    · simp only [List.mem_singleton] at hp
      subst hp
      have q3 := listL_len r.goals [44] hf.goals.2
      have q5 : r.goals.length * (20 + ([44] : List UInt8).length) ≤ 4 * 21 := Nat.mul_le_mul h4.1 (by simp)
      unfold payOver
      simp only [List.length_append, List.length_cons, List.length_nil]
      omega
    · simp at hp
theorem allL_len (ls : List (List UInt8)) (h : ∀ p ∈ ls, p.length ≤ 60000) : (allL ls).length ≤ ls.length * 60006 := by
  induction ls with
  | nil => simp [allL]
  | cons p r ih =>
    have := ih fun q hq => h q (by simp [hq])
    have hp := h p (by simp)
    show (frameL p ++ allL r).length ≤ _
    rw [List.length_append, frameL_length, List.length_cons, Nat.add_one_mul]
    omega
theorem payL_len2 (r : Rec) : (payL r).length ≤ r.rounds.length + 2 := by
  unfold payL
  rw [List.length_cons, List.length_append, List.length_map]
  split <;> simp
end Go.Proofs.YtahbhhenobehfaaGreatDoor
namespace Go.Proofs.YtahbhhenobehfaaGreatDoor
open Go.RowKit

/-- A text cut at all its bytes c. -/
def wordsL (c : UInt8) : List UInt8 → List (List UInt8)
  | [] => [[]]
  | b :: l => if b = c then [] :: wordsL c l else (b :: (wordsL c l).headD []) :: (wordsL c l).tail
theorem wordsL_ne (c : UInt8) (l : List UInt8) : wordsL c l ≠ [] := by
  cases l with
  | nil => simp [wordsL]
  | cons b l => unfold wordsL; split <;> simp
theorem wordsL_split (c : UInt8) : ∀ l : List UInt8, Lib.splitK [c] 0 (Lib.count l [c]) l = wordsL c l
  | [] => by rw [Lib.count_one]; rfl
  | b :: l => by
    have ih := wordsL_split c l
    by_cases hb : b = c
    · subst hb
      rw [Lib.count_cons_eq, Nat.add_comm]
      have hix : Lib.index (b :: l) [b] = ((0 : Nat) : Int) := by rw [Lib.index]; simp [List.isPrefixOf]
      unfold Lib.splitK
      rw [hix]
      simp only [wordsL]
      simp [ih]
    · have hp : ([c] : List UInt8).isPrefixOf (b :: l) = false := by simp [List.isPrefixOf, Ne.symm hb]
      have hix : Lib.index (b :: l) [c] = if Lib.index l [c] == -1 then -1 else Lib.index l [c] + 1 := by rw [Lib.index, hp]; simp
      rw [Lib.count_cons_ne b c l hb]
      obtain ⟨k, hk⟩ : ∃ k, Lib.count l [c] = k := ⟨_, rfl⟩
      rw [hk] at ih ⊢
      cases k with
      | zero =>
        have e : wordsL c l = [l] := ih.symm
        simp only [wordsL, if_neg hb, e]
        rfl
      | succ m =>
        have hm : Lib.index l [c] ≠ -1 := fun e => by
          rw [Lib.count_miss e] at hk
          cases hk
        have hge := Lib.index_ge l [c]
        obtain ⟨j, hj⟩ : ∃ j : Nat, Lib.index l [c] = j := ⟨(Lib.index l [c]).toNat, by omega⟩
        have hm2 : ((j : Int) == -1) = false := by rw [beq_eq_false_iff_ne]; omega
        rw [hj, hm2] at hix
        simp only [Bool.false_eq_true, if_false] at hix
        have hm3 : ((j : Int) + 1 == -1) = false := by rw [beq_eq_false_iff_ne]; omega
        have e1 : ((j : Int) + 1).toNat = j + 1 := by omega
        unfold Lib.splitK at ih ⊢
        rw [hj, hm2] at ih
        rw [hix, hm3]
        simp only [Bool.false_eq_true, if_false, e1, Int.toNat_natCast, Nat.add_zero, List.length_singleton] at ih ⊢
        simp only [wordsL, if_neg hb, ← ih]
        rw [List.take_succ_cons, show j + 1 + 1 = (j + 1) + 1 from rfl, List.drop_succ_cons]
        rfl
theorem wordsL_free (c : UInt8) : ∀ x : List UInt8, c ∉ x → wordsL c x = [x]
  | [], _ => rfl
  | b :: l, h => by
    simp only [List.mem_cons, not_or] at h
    simp only [wordsL, if_neg (Ne.symm h.1), wordsL_free c l h.2]
    rfl
theorem wordsL_cons (c : UInt8) (r : List UInt8) : ∀ x : List UInt8, c ∉ x → wordsL c (x ++ c :: r) = x :: wordsL c r
  | [], _ => by simp [wordsL]
  | b :: l, h => by
    simp only [List.mem_cons, not_or] at h
    rw [List.cons_append]
    simp only [wordsL, if_neg (Ne.symm h.1), wordsL_cons c r l h.2]
    rfl
theorem wordsL_join (c : UInt8) : ∀ xs : List (List UInt8), xs ≠ [] → (∀ x ∈ xs, c ∉ x) → wordsL c (Lib.join xs [c]) = xs
  | [], h, _ => absurd rfl h
  | [x], _, h => by
    rw [show Lib.join [x] [c] = x by simp [Lib.join, List.intercalate]]
    exact wordsL_free c x (h x (by simp))
  | x :: y :: r, _, h => by
    rw [show Lib.join (x :: y :: r) [c] = x ++ c :: Lib.join (y :: r) [c] by simp [Lib.join, List.intercalate], wordsL_cons c _ x (h x (by simp)), wordsL_join c (y :: r) (by simp) (fun z hz => h z (List.mem_cons_of_mem _ hz))]
theorem wordsL_small (c : UInt8) : ∀ l : List UInt8, (wordsL c l).length ≤ l.length + 1 ∧ ∀ x ∈ wordsL c l, x.length ≤ l.length
  | [] => by simp [wordsL]
  | b :: l => by
    obtain ⟨h1, h2⟩ := wordsL_small c l
    unfold wordsL
    split
    · refine ⟨by simp; omega, fun x hx => ?_⟩
      rcases List.mem_cons.1 hx with rfl | hx
      · simp
      · have := h2 x hx; simp; omega
    · match hw : wordsL c l, wordsL_ne c l with
      | y :: ys, _ =>
        rw [hw] at h1 h2
        refine ⟨by simp at h1 ⊢; omega, fun x hx => ?_⟩
        rcases List.mem_cons.1 hx with rfl | hx
        · have := h2 y (by simp); simp; omega
        · have := h2 x (List.mem_cons_of_mem _ hx); simp; omega
theorem wordsL_two (c : UInt8) (b : List UInt8) : ∀ a : List UInt8, 2 ≤ (wordsL c (a ++ c :: b)).length
  | [] => by
    have := wordsL_ne c b
    have h2 : 0 < (wordsL c b).length := List.length_pos_iff.2 this
    simp [wordsL]; omega
  | x :: l => by
    have ih := wordsL_two c b l
    rw [List.cons_append]
    unfold wordsL
    split
    · simp; omega
    · simp; omega
/-- One byte more. -/
theorem wordsL_snoc_sep (c : UInt8) : ∀ l : List UInt8, wordsL c (l ++ [c]) = wordsL c l ++ [[]]
  | [] => by simp [wordsL]
  | b :: l => by
    have ih := wordsL_snoc_sep c l
    rw [List.cons_append]
    by_cases hb : b = c
    · simp only [wordsL, if_pos hb, ih]; rfl
    · simp only [wordsL, if_neg hb, ih]
      match hw : wordsL c l, wordsL_ne c l with
      | y :: ys, _ => simp
theorem wordsL_snoc (c : UInt8) {x : UInt8} (hx : x ≠ c) : ∀ l : List UInt8, ∃ xs y, wordsL c l = xs ++ [y] ∧ wordsL c (l ++ [x]) = xs ++ [y ++ [x]]
  | [] => ⟨[], [], rfl, by simp [wordsL, hx]⟩
  | b :: l => by
    obtain ⟨xs, y, h1, h2⟩ := wordsL_snoc c hx l
    rw [List.cons_append]
    by_cases hb : b = c
    · exact ⟨[] :: xs, y, by simp only [wordsL, if_pos hb, h1]; rfl, by simp only [wordsL, if_pos hb, h2]; rfl⟩
    · cases xs with
      | nil => exact ⟨[], b :: y, by simp only [wordsL, if_neg hb, h1]; rfl, by simp only [wordsL, if_neg hb, h2]; rfl⟩
      | cons z zs => exact ⟨(b :: z) :: zs, y, by simp only [wordsL, if_neg hb, h1]; rfl, by simp only [wordsL, if_neg hb, h2]; rfl⟩
/-- A row of digits' number. -/
def valA (a : Nat) (l : List UInt8) : Nat := l.foldl (fun n c => n * 10 + (c.toNat - 48)) a
theorem valA_ge : ∀ (l : List UInt8) (a : Nat), a ≤ valA a l
  | [], a => Nat.le_refl a
  | c :: r, a => by
    have := valA_ge r (a * 10 + (c.toNat - 48))
    have e : valA a (c :: r) = valA (a * 10 + (c.toNat - 48)) r := rfl
    rw [e]; omega
def allDig (l : List UInt8) : Prop := ∀ c ∈ l, 48 ≤ c.toNat ∧ c.toNat ≤ 57
theorem parseM_ok (M : Nat) (hM : M ≤ 18446744073709551615) : ∀ (l : List UInt8) (a : Nat), allDig l → valA a l ≤ M → Lib.parseUintM M a l = .ok (valA a l)
  | [], a, _, _ => rfl
  | c :: r, a, hd, hv => by
    have e : valA a (c :: r) = valA (a * 10 + (c.toNat - 48)) r := rfl
    rw [e] at hv ⊢
    have h1 := hd c (by simp)
    have h2 := valA_ge r (a * 10 + (c.toNat - 48))
    rw [Lib.parseUintM, if_pos h1, if_neg (by omega), if_neg (by omega)]
    exact parseM_ok M hM r _ (fun x hx => hd x (List.mem_cons_of_mem _ hx)) hv
theorem parse10_ok : ∀ (l : List UInt8) (a : Nat), allDig l → valA a l ≤ 18446744073709551615 → Lib.parseUint10 a l = .ok (valA a l)
  | [], a, _, _ => rfl
  | c :: r, a, hd, hv => by
    have e : valA a (c :: r) = valA (a * 10 + (c.toNat - 48)) r := rfl
    rw [e] at hv ⊢
    have h1 := hd c (by simp)
    have h2 := valA_ge r (a * 10 + (c.toNat - 48))
    rw [Lib.parseUint10, if_pos h1, if_neg (by omega), if_neg (by omega)]
    exact parse10_ok r _ (fun x hx => hd x (List.mem_cons_of_mem _ hx)) hv
theorem dec_digits : ∀ (k u : Nat), u < 10 ^ k.succ → allDig (Lib.decDigits u) ∧ valA 0 (Lib.decDigits u) = u
  | 0, u, h => by
    have hu : u < 10 := by simpa using h
    rw [Lib.decDigits_one hu]
    have e : (UInt8.ofNat (48 + u)).toNat = 48 + u := by rw [UInt8.toNat_ofNat']; omega
    refine ⟨fun c hc => ?_, ?_⟩
    · simp only [List.mem_singleton] at hc
      subst hc; omega
    · show 0 * 10 + ((UInt8.ofNat (48 + u)).toNat - 48) = u
      omega
  | k + 1, u, h => by
    by_cases hu : u < 10
    · exact dec_digits 0 u (by simpa using hu)
    · have hs := dec_step (u : Int) (by omega)
      have e1 : ((u : Int)).toNat = u := by omega
      have e2 : ((u : Int) / 10).toNat = u / 10 := by omega
      have e3 : ((u : Int) % 10).toNat = u % 10 := by omega
      rw [e1, e2, e3] at hs
      obtain ⟨h1, h2⟩ := dec_digits k (u / 10) (by rw [Nat.pow_succ] at h; omega)
      have e : (UInt8.ofNat (48 + u % 10)).toNat = 48 + u % 10 := by rw [UInt8.toNat_ofNat']; omega
      rw [hs]
      refine ⟨fun c hc => ?_, ?_⟩
      · rcases List.mem_append.1 hc with hc | hc
        · exact h1 c hc
        · simp only [List.mem_singleton] at hc
          subst hc; omega
      · unfold valA at h2 ⊢
        rw [List.foldl_append, h2]
        show u / 10 * 10 + ((UInt8.ofNat (48 + u % 10)).toNat - 48) = u
        omega
theorem numT_dig (n : Int) (h : n ≤ 18446744073709551615) : allDig (numT n) ∧ valA 0 (numT n) = n.toNat :=
  dec_digits 19 n.toNat (by omega)
theorem numT_ne (n : Int) : numT n ≠ [] := by
  unfold numT
  rw [Lib.decDigits]
  split <;> simp
theorem parse_numT (n : Int) (h0 : 0 ≤ n) (h : n ≤ 18446744073709551615) : Lib.parseUintB 64 (numT n) = .ok n.toNat := by
  obtain ⟨h1, h2⟩ := numT_dig n h
  unfold Lib.parseUintB
  rw [if_neg (numT_ne n), parseM_ok (2 ^ 64 - 1) (by decide) _ _ h1 (by rw [h2]; omega), h2]
theorem atoi_numT (n : Int) (h0 : 0 ≤ n) (h : n ≤ 9223372036854775807) : Lib.atoiAll (numT n) = .ok n := by
  obtain ⟨h1, h2⟩ := numT_dig n (by omega)
  have hne := numT_ne n
  match hl : numT n, hne with
  | c :: r, _ =>
    rw [hl] at h1 h2
    have hc := h1 c (by simp)
    unfold Lib.atoiAll
    simp only
    rw [if_neg (by omega), Lib.parseMag, if_neg (by simp), parse10_ok _ _ h1 (by rw [h2]; omega), h2]
    simp only
    rw [if_neg (by omega), if_neg (by omega), if_neg (by omega)]
    congr 1
    omega
end Go.Proofs.YtahbhhenobehfaaGreatDoor
namespace Go.Proofs.YtahbhhenobehfaaGreatDoor
open Go.ChangeShapes Go.WideShapes Go.ChangeAt Go.RowKit

def strsV (l : List ByteArray) : Array Value := (l.map Value.string).toArray
theorem strsV_get (l : List ByteArray) (i : Nat) (h : i < l.length) : (strsV l)[i]? = some (.string l[i]) := by
  unfold strsV
  simp [h]
theorem strsV_set (l : List ByteArray) (i : Nat) (x : ByteArray) : (strsV l).setIfInBounds i (.string x) = strsV (l.set i x) := by
  unfold strsV
  simp [List.map_set]
theorem info_str : (Tryz.prog.info? 9).map (fun i => (i.zero, i.size, i.bytes)) = some (some (.string ⟨#[]⟩), 1, 16) := by kernel_rfl
theorem make_strs (F : Nat) (hF : F ≤ 1000000) (w : World) : (Instr.makeSlice 32 (.int .i64 (F : Int)) (.int .i64 (F : Int))).run Tryz.prog w = .ok (.slice (some ⟨w.heap.size, 0, none⟩) F F) (w.alloc (.cells (strsV (List.replicate F ⟨#[]⟩)) 9)) := by
  obtain ⟨i0, hi, hz0, hz1, hz2⟩ := info_parts info_str
  have h := run_make (P := Tryz.prog) w 32 9 i0 (.string ⟨#[]⟩) Tryz.underlying32 hi hz0 .i64 .i64 (F : Int) (F : Int) (by omega) (by omega) (by rw [hz2]; omega) (by omega)
  simp only [Int.toNat_natCast, hz1] at h
  have e : madeCells (Value.string ⟨#[]⟩).cells (F * 1) = strsV (List.replicate F ⟨#[]⟩) := by
    apply Array.toList_inj.mp
    show (madeCells #[Value.string ⟨#[]⟩] _).toList = _
    rw [toList_madeCells_one]
    simp [strsV]
  rw [h, e]
/-- Words in a block of their own. -/
def WordsAt (B : Nat) (w : World) (v : Value) (ws : List ByteArray) (m : Nat) : Prop :=
  ∃ b, v = .slice (some ⟨b, 0, none⟩) ws.length ws.length ∧ B ≤ b ∧ Has w b (strsV ws) 9 ∧ ∀ x ∈ ws, x.size ≤ m
def SplitSaid (s : ByteArray) (Q : List ByteArray → Prop) (w : World) (e : Ending) (w' : World) : Prop :=
  (∃ v ws, e = .returned v ∧ WordsAt w.heap.size w' v ws s.size ∧ ws.length ≤ s.size + 1 ∧ Q ws) ∧ Below w.heap.size w w'
theorem small_set {ws : List ByteArray} {m : Nat} (h : ∀ x ∈ ws, x.size ≤ m) (i : Nat) {y : ByteArray} (hy : y.size ≤ m) : ∀ x ∈ ws.set i y, x.size ≤ m := fun x hx => by
  rcases List.mem_or_eq_of_mem_set hx with hx | rfl
  · exact h x hx
  · exact hy
theorem ext_size (s : ByteArray) (a b : Nat) (_ : a ≤ b) (h2 : b ≤ s.size) : (s.extract a b).size ≤ s.size := by rw [ByteArray.size_extract]; omega
set_option maxRecDepth 20000 in
set_option maxHeartbeats 8000000 in
theorem explode_any (s : ByteArray) (w : World) (hs : s.size ≤ 1000000) (hT : Lib.Utf8Tabs 4 5 w) :
    Calls Tryz.prog 107 #[.string s, .int .i64 (-1)] w (SplitSaid s (fun _ => True) w) := by
  go_enter Tryz.func107, Tryz.ntmps107
  go_wp2_with fail
  refine (Tryz.utf8_RuneCountInString s _ (by omega)).mono ?_
  rintro e w1 ⟨rfl, pos, ew1⟩
  have hN := Lib.runeCount_le s
  obtain ⟨N, eN⟩ : ∃ N, N = Lib.runeCount s := ⟨_, rfl⟩
  rw [← eN] at hN ⊢
  clear eN
  have b1 : Below w.heap.size w w1 := by rw [ew1]; exact (Below.refl _ _).alloc (Nat.le_refl _) _
  have hsz1 : w1.heap.size = w.heap.size + 1 := by rw [ew1]; simp [World.iter]
  clear ew1
  have hmk := make_strs N (by omega) w1
  rw [hsz1] at hmk
  have hnew := Has.new w1 (strsV (List.replicate N ⟨#[]⟩)) 9
  rw [hsz1] at hnew
  have hB0 : Below w.heap.size w (w1.alloc (.cells (strsV (List.replicate N ⟨#[]⟩)) 9)) := b1.alloc b1.size _
  have hrel0 := hid (show ∃ (r : ByteArray) (i : Nat) (ws : List ByteArray), Value.string s = .string r ∧ Value.int .i64 0 = .int .i64 (i : Int) ∧ r.size ≤ s.size ∧ ws.length = N ∧ Has (w1.alloc (.cells (strsV (List.replicate N ⟨#[]⟩)) 9)) (w.heap.size + 1) (strsV ws) 9 ∧ (∀ x ∈ ws, x.size ≤ s.size) ∧ Below w.heap.size w (w1.alloc (.cells (strsV (List.replicate N ⟨#[]⟩)) 9)) ∧ i ≤ N from
    ⟨s, 0, List.replicate N ⟨#[]⟩, rfl, rfl, Nat.le_refl _, by simp, hnew, fun x hx => by rw [(List.mem_replicate.1 hx).2]; exact Nat.zero_le _, hB0, Nat.zero_le _⟩)
  clear hB0 b1 hnew
  go_wp2
  go_loopw [0, 7] (fun u i wr => ∃ (r : ByteArray) (k : Nat) (ws : List ByteArray), u = .string r ∧ i = .int .i64 k ∧ r.size ≤ s.size ∧ ws.length = N ∧ Has wr (w.heap.size + 1) (strsV ws) 9 ∧ (∀ x ∈ ws, x.size ≤ s.size) ∧ Below w.heap.size w wr ∧ k ≤ N) (fun _ i _ => N - (intOf i).toNat)
  case atStart => exact hrel0.out
  case round =>
    clear hrel0
    obtain ⟨r, k, ws, rfl, rfl, hr, hws, H, hsm, hB, hk⟩ := hrel
    have hBs := hB.size
    by_cases hkN : (k : Int) < (N : Int) - 1
    · have hd1 := Lib.decodeGo_le_size r
      go_wp2_with fail
      refine (Tryz.utf8_DecodeRuneInString r _ (Utf8Tabs_below hT hB)).mono ?_
      rintro e w2 ⟨rfl, o2⟩
      obtain ⟨D, eD⟩ : ∃ D, D = (Lib.decodeGo r).2 := ⟨_, rfl⟩
      rw [← eD] at hd1 ⊢
      clear eD
      have H2 := H.below o2 H.lt
      have hB2 := hB.trans (o2.mono hB.size)
      have hcell := H2.cell (strsV_get ws k (by omega))
      have hfr := H2.free k
      have hdi : (D : Int) ≤ r.size := by omega
      have H3 := hid (show Has (w2.setCell ⟨w.heap.size + 1, k, none⟩ (.string (r.extract 0 D))) (w.heap.size + 1) (strsV (ws.set k (r.extract 0 D))) 9 by rw [← strsV_set]; exact H2.set k _)
      have hsm3 := hid (small_set hsm k (Nat.le_trans (ext_size r 0 D (Nat.zero_le _) hd1) hr))
      have hB3 := hid (hB2.setCell (p := ⟨w.heap.size + 1, k, none⟩) (Nat.le_succ _) (.string (r.extract 0 D)))
      have hr3 := Nat.le_trans (ext_size r D r.size hd1 (Nat.le_refl _)) hr
      clear H H2 hB hB2 o2 hsm
      go_wp2
      go_roundw
      case rel => exact ⟨r.extract D r.size, k + 1, ws.set k (r.extract 0 D), rfl, by go_num, hr3, by rw [List.length_set]; exact hws, H3.out, hsm3.out, hB3.out, by omega⟩
      case measure => simp [intOf]; omega
    · by_cases hN0 : N = 0
      · subst hN0
        have hws0 : ws = [] := List.eq_nil_of_length_eq_zero hws
        subst hws0
        have H' := hid H
        have hB' := hid hB
        clear H hB
        go_wp2
        go_ret
        exact ⟨⟨_, [], rfl, ⟨_, rfl, Nat.le_succ _, H'.out, fun x hx => by cases hx⟩, Nat.zero_le _, trivial⟩, hB'.out⟩
      · have hkN1 : (0 : Int) < N := by omega
        have hcell := H.cell (strsV_get ws (N - 1) (by omega))
        have hfr := H.free (N - 1)
        have e1 : ((N : Int) - 1) = ((N - 1 : Nat) : Int) := by omega
        have H3 := hid (show Has (wr.setCell ⟨w.heap.size + 1, N - 1, none⟩ (.string r)) (w.heap.size + 1) (strsV (ws.set (N - 1) r)) 9 by rw [← strsV_set]; exact H.set (N - 1) _)
        have hsm3 := hid (small_set hsm (N - 1) hr)
        have hB3 := hid (hB.setCell (p := ⟨w.heap.size + 1, N - 1, none⟩) (Nat.le_succ _) (.string r))
        have hlen3 : (ws.set (N - 1) r).length = N := by rw [List.length_set]; exact hws
        have ti : ((N : Int) - 1).toNat = N - 1 := by omega
        clear H hB hsm
        go_wp2
        go_ret
        exact ⟨⟨_, ws.set (N - 1) r, rfl, ⟨_, by rw [hlen3]; rfl, Nat.le_succ _, H3.out, hsm3.out⟩, by rw [hlen3]; omega, trivial⟩, hB3.out⟩
set_option maxRecDepth 20000 in
set_option maxHeartbeats 4000000 in
theorem split_none (s : ByteArray) (w : World) (hs : s.size ≤ 1000000) (hT : Lib.Utf8Tabs 4 5 w) :
    Calls Tryz.prog 45 #[.string s, .string ⟨#[]⟩] w (SplitSaid s (fun ws => (∀ b ∈ s.data.toList, b.toNat < 128) → ws = Lib.charsB s) w) := by
  by_cases ha : ∀ b ∈ s.data.toList, b.toNat < 128
  · have hcl : (Lib.charsB s).length = s.size := Lib.charsUpTo_length s s.size
    refine (Tryz.strings_Split_chars s ⟨#[]⟩ w rfl (by omega) (fun j b h => ha b (List.mem_of_getElem? h))).mono ?_
    rintro e w' ⟨rfl, rfl⟩
    refine ⟨⟨_, Lib.charsB s, rfl, ⟨_, by rw [hcl], ?_, ?_, ?_⟩, by omega, fun _ => rfl⟩, ?_⟩
    · show w.heap.size ≤ (w.heap.push _).size
      simp
    · exact Has.new _ _ _
    · intro x hx
      obtain ⟨j, hj, rfl⟩ := List.mem_map.1 hx
      have := List.mem_range.1 hj
      exact ext_size s j (j + 1) (Nat.le_succ _) (by omega)
    · exact ((Below.refl _ _).alloc (Nat.le_refl _) _).alloc (by simp) _
  · go_enter Tryz.func45, Tryz.ntmps45
    go_wp2_with fail
    refine Calls.mono (R := SplitSaid s (fun _ => True) w) ?_ ?_
    · go_enter Tryz.func82, Tryz.ntmps82
      go_wp2_with fail
      refine (explode_any s _ hs hT).mono ?_
      rintro e w1 ⟨⟨v, ws, rfl, h1, h2, _⟩, h3⟩
      go_wp2
      go_ret
      exact ⟨⟨_, ws, rfl, h1, h2, trivial⟩, h3⟩
    · rintro e w1 ⟨⟨v, ws, rfl, h1, h2, _⟩, h3⟩
      go_wp2
      go_ret
      exact ⟨⟨_, ws, rfl, h1, h2, fun h => absurd h ha⟩, h3⟩
theorem split_byte (c : UInt8) (s : ByteArray) (w : World) (m : Int) (hs : s.size ≤ 1000000) (hm : w.cell? ⟨3, 0, none⟩ = some (.int .i64 m)) :
    Calls Tryz.prog 45 #[.string s, .string ⟨#[c]⟩] w (SplitSaid s (fun ws => ws.map (·.data.toList) = wordsL c s.data.toList) w) := by
  refine (Tryz.strings_Split s ⟨#[c]⟩ m w (by omega) hm (Nat.le_refl _)).mono ?_
  rintro e w' ⟨rfl, rfl⟩
  have hl := Lib.splitB_all ⟨#[c]⟩ (Nat.le_refl _) 0 _ s rfl
  have hd := Lib.splitB_data ⟨#[c]⟩ 0 (Lib.countB s ⟨#[c]⟩) s
  have hd2 : (Lib.splitB ⟨#[c]⟩ 0 (Lib.countB s ⟨#[c]⟩) s).map (·.data.toList) = wordsL c s.data.toList := hd.trans (wordsL_split c s.data.toList)
  have hn : (Lib.splitB ⟨#[c]⟩ 0 (Lib.countB s ⟨#[c]⟩) s).length ≤ s.size + 1 := by
    rw [← List.length_map (f := (·.data.toList)), hd2]
    have h1 := (wordsL_small c s.data.toList).1
    have h2 : s.data.toList.length = s.size := Array.length_toList
    omega
  refine ⟨⟨_, Lib.splitB ⟨#[c]⟩ 0 (Lib.countB s ⟨#[c]⟩) s, rfl, ⟨_, by rw [hl], Nat.le_refl _, Has.new w _ _, fun x hx => ?_⟩, hn, hd2⟩, (Below.refl _ _).alloc (Nat.le_refl _) _⟩
  have h1 := (wordsL_small c s.data.toList).2 x.data.toList (by rw [← hd2]; exact List.mem_map_of_mem hx)
  have h2 : s.data.toList.length = s.size := Array.length_toList
  have h3 : x.data.toList.length = x.size := Array.length_toList
  omega
end Go.Proofs.YtahbhhenobehfaaGreatDoor
