/-
  The plain laws behind ScheduleOnce and ScheduleSeats: how often two players meet in a round robin. No program in sight.
-/
import Derived.Test.YtkdfplnoldckgaaSPlain2
import Derived.Test.YtkdfplnoldckgaaSPlain5
import Derived.Test.YtkdfplnoldckgaaSPlain9
import Derived.Test.YtkdfplnoldckgaaSPlain11
namespace Go.Proofs.Ytkdfplnoldckgaa

theorem hasB_rot (l : List Int) (k : Nat) (p : Int) : hasB (rotL l k) p = hasB l p := by
  unfold hasB rotL
  rw [List.any_append, Bool.or_comm, ← List.any_append, List.take_append_drop]
theorem metOne_rot (a b : Int) (l : List Int) (k : Nat) : metOne a b (rotL l k) = metOne a b l := by
  unfold metOne; rw [hasB_rot, hasB_rot]
theorem meetR_rot (a b : Int) (k : Nat) (r : List (List Int)) : meetR (dblR k r) a b = meetR r a b := by
  unfold meetR dblR
  rw [List.filter_map, List.length_map]
  congr 2
  funext l
  exact metOne_rot a b l k
theorem meetN_append (L M : List (List (List Int))) (a b : Int) : meetN (L ++ M) a b = meetN L a b + meetN M a b := by
  unfold meetN; rw [List.map_append, List.sum_append]
theorem meetN_dblR (L : List (List (List Int))) (a b : Int) (k : Nat) : meetN (L.map (dblR k)) a b = meetN L a b := by
  unfold meetN
  rw [List.map_map]
  congr 1
  refine List.map_congr_left fun r _ => ?_
  exact meetR_rot a b k r
theorem dblL_eq (L : List (List (List Int))) : dblL L = L.map (dblR 0) ++ L.map (dblR 1) := by
  unfold dblL dblS
  simp [List.range_succ]
theorem meetN_dbl (L : List (List (List Int))) (a b : Int) : meetN (dblL L) a b = 2 * meetN L a b := by
  rw [dblL_eq, meetN_append, meetN_dblR, meetN_dblR]; omega

/-- How many lists of s numbers are there, out of k. -/
def ch : Nat → Nat → Nat
  | _, 0 => 1
  | 0, _ + 1 => 0
  | k + 1, s + 1 => ch k s + ch k (s + 1)
theorem ch_pos : ∀ k s, s ≤ k → 0 < ch k s
  | _, 0, _ => by unfold ch; omega
  | 0, s + 1, h => by omega
  | k + 1, s + 1, h => by
    have := ch_pos k s (by omega)
    unfold ch; omega
theorem combs_cons (n s f : Nat) (h : f < n) : combs n (s + 1) f = (combs n s (f + 1)).map ((f : Int) :: ·) ++ combs n (s + 1) (f + 1) := by
  simp only [combs]
  rw [show n - f = (n - (f + 1)) + 1 by omega, List.range'_succ, List.flatMap_cons]
theorem combs_past (n s f : Nat) (h : n ≤ f) : combs n (s + 1) f = [] := by
  simp only [combs]
  rw [show n - f = 0 by omega]; rfl
theorem combs_low (n : Nat) : ∀ s f c, c ∈ combs n s f → ∀ p ∈ c, (f : Int) ≤ p ∧ p < n
  | 0, _, c, h => by simp [combs] at h; simp [h]
  | s + 1, f, c, h => by
    simp only [combs, List.mem_flatMap, List.mem_map] at h
    obtain ⟨i, hi, r, hr, rfl⟩ := h
    rw [List.mem_range'_1] at hi
    intro p hp
    rcases List.mem_cons.1 hp with rfl | hp
    · omega
    · have := combs_low n s (i + 1) r hr p hp
      omega
theorem hasB_no {l : List Int} {p : Int} (h : ∀ q ∈ l, q ≠ p) : hasB l p = false := by
  unfold hasB
  rw [List.any_eq_false]
  intro q hq
  have := h q hq
  simpa using this
theorem hasB_cons (x : Int) (l : List Int) (p : Int) : hasB (x :: l) p = (x == p || hasB l p) := rfl
def C1 (n s f : Nat) (a : Int) : Nat := ((combs n s f).filter (hasB · a)).length
def C2 (n s f : Nat) (a b : Int) : Nat := ((combs n s f).filter fun c => hasB c a && hasB c b).length
theorem C0_eq (n s : Nat) : ∀ k f, n - f = k → (combs n s f).length = ch k s := by
  induction s with
  | zero => intro k f _; simp [combs, ch]
  | succ s ihs =>
    intro k
    induction k with
    | zero => intro f h; rw [combs_past n s f (by omega)]; rfl
    | succ k ihk =>
      intro f h
      rw [combs_cons n s f (by omega), List.length_append, List.length_map, ihs k (f + 1) (by omega), ihk (f + 1) (by omega)]
      rfl
theorem C1_low (n s f : Nat) (a : Int) (h : a < f) : C1 n s f a = 0 := by
  unfold C1
  rw [List.length_eq_zero_iff, List.filter_eq_nil_iff]
  intro c hc
  rw [hasB_no fun q hq => by have := combs_low n s f c hc q hq; omega]
  exact Bool.false_ne_true
theorem C1_cons (n s f : Nat) (a : Int) (h : f < n) : C1 n (s + 1) f a = (if (f : Int) = a then (combs n s (f + 1)).length else C1 n s (f + 1) a) + C1 n (s + 1) (f + 1) a := by
  unfold C1
  rw [combs_cons n s f h, List.filter_append, List.length_append, List.filter_map, List.length_map]
  congr 1
  split
  · rename_i e
    rw [List.filter_eq_self.2]
    intro c _
    simp only [Function.comp, hasB_cons]
    simp [e]
  · rename_i e
    congr 2
    funext c
    simp only [Function.comp, hasB_cons]
    have : ((f : Int) == a) = false := by simpa using e
    rw [this, Bool.false_or]
theorem C1_eq (n s : Nat) (a : Int) (ha : a < n) : ∀ k f, n - f = k → (f : Int) ≤ a → C1 n (s + 1) f a = ch (k - 1) s := by
  induction s with
  | zero =>
    intro k
    induction k with
    | zero => intro f h hf; omega
    | succ k ihk =>
      intro f h hf
      rw [C1_cons n 0 f a (by omega)]
      by_cases e : (f : Int) = a
      · rw [if_pos e, C1_low n 1 (f + 1) a (by omega)]; simp [combs, ch]
      · rw [if_neg e, ihk (f + 1) (by omega) (by omega)]
        simp [C1, combs, ch, hasB]
  | succ s ihs =>
    intro k
    induction k with
    | zero => intro f h hf; omega
    | succ k ihk =>
      intro f h hf
      rw [C1_cons n (s + 1) f a (by omega)]
      by_cases e : (f : Int) = a
      · rw [if_pos e, C1_low n (s + 1 + 1) (f + 1) a (by omega), C0_eq n (s + 1) k (f + 1) (by omega)]
        simp
      · rw [if_neg e, ihk (f + 1) (by omega) (by omega), ihs k (f + 1) (by omega) (by omega)]
        obtain ⟨j, rfl⟩ : ∃ j, k = j + 1 := ⟨k - 1, by omega⟩
        show ch j s + ch j (s + 1) = ch (j + 1) (s + 1)
        rfl
theorem C2_low (n s f : Nat) (a b : Int) (h : a < f ∨ b < f) : C2 n s f a b = 0 := by
  unfold C2
  rw [List.length_eq_zero_iff, List.filter_eq_nil_iff]
  intro c hc
  rcases h with h | h
  · rw [hasB_no (p := a) fun q hq => by have := combs_low n s f c hc q hq; omega]; simp
  · rw [hasB_no (p := b) fun q hq => by have := combs_low n s f c hc q hq; omega]; simp
theorem C2_cons (n s f : Nat) (a b : Int) (hab : a ≠ b) (h : f < n) :
    C2 n (s + 1) f a b = (if (f : Int) = a then C1 n s (f + 1) b else if (f : Int) = b then C1 n s (f + 1) a else C2 n s (f + 1) a b) + C2 n (s + 1) (f + 1) a b := by
  unfold C2 C1
  rw [combs_cons n s f h, List.filter_append, List.length_append, List.filter_map, List.length_map]
  congr 1
  split
  · rename_i e
    congr 2
    funext c
    simp only [Function.comp, hasB_cons]
    have h1 : ((f : Int) == a) = true := by simpa using e
    have h2 : ((f : Int) == b) = false := by simp; omega
    rw [h1, h2]; simp
  · rename_i e
    split
    · rename_i e2
      congr 2
      funext c
      simp only [Function.comp, hasB_cons]
      have h1 : ((f : Int) == a) = false := by simpa using e
      have h2 : ((f : Int) == b) = true := by simpa using e2
      rw [h1, h2]; simp
    · rename_i e2
      congr 2
      funext c
      simp only [Function.comp, hasB_cons]
      have h1 : ((f : Int) == a) = false := by simpa using e
      have h2 : ((f : Int) == b) = false := by simpa using e2
      rw [h1, h2]; simp
theorem C2_one (n : Nat) (a b : Int) (hab : a ≠ b) : ∀ k f, n - f = k → C2 n 1 f a b = 0 := by
  intro k
  induction k with
  | zero => intro f h; unfold C2; rw [combs_past n 0 f (by omega)]; rfl
  | succ k ihk =>
    intro f h
    rw [C2_cons n 0 f a b hab (by omega), ihk (f + 1) (by omega)]
    simp [C1, C2, combs, hasB]
theorem C2_eq (n s : Nat) (a b : Int) (hab : a ≠ b) (ha : a < n) (hb : b < n) : ∀ k f, n - f = k → (f : Int) ≤ a → (f : Int) ≤ b → C2 n (s + 2) f a b = ch (k - 2) s := by
  induction s with
  | zero =>
    intro k
    induction k with
    | zero => intro f h hf; omega
    | succ k ihk =>
      intro f h hf hg
      rw [C2_cons n 1 f a b hab (by omega)]
      by_cases e : (f : Int) = a
      · rw [if_pos e, C2_low n 2 (f + 1) a b (by omega), C1_eq n 0 b hb k (f + 1) (by omega) (by omega)]
        simp [ch]
      · rw [if_neg e]
        by_cases e2 : (f : Int) = b
        · rw [if_pos e2, C2_low n 2 (f + 1) a b (by omega), C1_eq n 0 a ha k (f + 1) (by omega) (by omega)]
          simp [ch]
        · rw [if_neg e2, ihk (f + 1) (by omega) (by omega) (by omega), C2_one n a b hab k (f + 1) (by omega)]
          simp [ch]
  | succ s ihs =>
    intro k
    induction k with
    | zero => intro f h hf; omega
    | succ k ihk =>
      intro f h hf hg
      rw [C2_cons n (s + 2) f a b hab (by omega)]
      by_cases e : (f : Int) = a
      · rw [if_pos e, C2_low n (s + 1 + 2) (f + 1) a b (by omega), C1_eq n (s + 1) b hb k (f + 1) (by omega) (by omega)]
        simp
      · rw [if_neg e]
        by_cases e2 : (f : Int) = b
        · rw [if_pos e2, C2_low n (s + 1 + 2) (f + 1) a b (by omega), C1_eq n (s + 1) a ha k (f + 1) (by omega) (by omega)]
          simp
        · rw [if_neg e2, ihk (f + 1) (by omega) (by omega) (by omega), ihs k (f + 1) (by omega) (by omega) (by omega)]
          obtain ⟨j, rfl⟩ : ∃ j, k = j + 2 := ⟨k - 2, by omega⟩
          show ch j s + ch j (s + 1) = ch (j + 1) (s + 1)
          rfl
theorem sum_map_zero_one (f : List Int → Bool) (X : List (List Int)) : (X.map fun c => if f c = true then 1 else 0).sum = (X.filter f).length := by
  induction X with
  | nil => rfl
  | cons c X ih =>
    rw [List.map_cons, List.sum_cons, ih, List.filter_cons]
    split <;> simp <;> omega
theorem meetN_robTo (s : Nat) (X : List (List Int)) (a b : Int) (hab : a ≠ b) : meetN (robTo s X X.length) a b = (X.filter fun c => hasB c a && hasB c b).length := by
  rw [← sum_map_zero_one]
  unfold meetN robTo
  rw [List.map_map]
  congr 1
  refine List.ext_getElem (by simp) fun i h1 h2 => ?_
  simp only [List.length_map, List.length_range] at h1
  simp only [List.getElem_map, List.getElem_range, Function.comp]
  rw [List.getD_eq_getElem?_getD, List.getElem?_eq_getElem h1]
  unfold meetR
  simp only [Option.getD_some, List.filter_cons, metOne_rot, List.filter_nil]
  have : metOne a b X[i] = (hasB X[i] a && hasB X[i] b) := by
    unfold metOne
    have : (a == b) = false := by simpa using hab
    rw [this]; simp
  rw [this]
  split <;> rfl
theorem once_more {n s : Nat} (hs : 3 ≤ s) (hs4 : s ≤ 4) (hsn : s ≤ n) (h16 : n ≤ 16) (a b : Nat) (ha : a < n) (hb : b < n) (hab : a ≠ b) : meetN (robinL n s) a b = ch (n - 2) (s - 2) := by
  rw [(robin_more hs hs4 hsn h16).1, meetN_robTo s _ a b (by omega)]
  have h := C2_eq n (s - 2) a b (by omega) (by omega) (by omega) n 0 (by omega) (by omega) (by omega)
  rw [show s - 2 + 2 = s by omega] at h
  exact h
set_option maxRecDepth 100000 in
theorem once_two_all : ((List.range 15).all fun i => (List.range (i + 2)).all fun a => (List.range (i + 2)).all fun b => a == b || meetN (circleL (i + 2)) (a : Int) (b : Int) == 1) = true := by decide +kernel
theorem once_two {n : Nat} (h2 : 2 ≤ n) (h16 : n ≤ 16) (a b : Nat) (ha : a < n) (hb : b < n) (hab : a ≠ b) : meetN (robinL n 2) a b = 1 := by
  rw [(robin_two h2 h16).1]
  have h := once_two_all
  rw [List.all_eq_true] at h
  have h1 := h (n - 2) (by rw [List.mem_range]; omega)
  rw [show n - 2 + 2 = n by omega, List.all_eq_true] at h1
  have h2 := h1 a (List.mem_range.2 ha)
  rw [List.all_eq_true] at h2
  have h3 := h2 b (List.mem_range.2 hb)
  have : (a == b) = false := by simpa using hab
  rw [this, Bool.false_or] at h3
  simpa using h3
def onceN (n s : Nat) : Nat := if s = 2 then 1 else ch (n - 2) (s - 2)
theorem onceN_pos {n s : Nat} (h2 : 2 ≤ s) (hsn : s ≤ n) : 0 < onceN n s := by
  unfold onceN
  split
  · omega
  · exact ch_pos _ _ (by omega)
theorem once_any {n s : Nat} (hs : 2 ≤ s) (hs4 : s ≤ 4) (hsn : s ≤ n) (h16 : n ≤ 16) (a b : Nat) (ha : a < n) (hb : b < n) (hab : a ≠ b) : meetN (robinL n s) a b = onceN n s := by
  unfold onceN
  by_cases e : s = 2
  · subst e; rw [if_pos rfl]; exact once_two hsn h16 a b ha hb hab
  · rw [if_neg e]; exact once_more (by omega) hs4 hsn h16 a b ha hb hab
set_option maxRecDepth 100000 in
theorem seats_all : ((List.range 15).all fun i => balL (dblL (circleL (i + 2))) (i + 2) 2 == List.replicate (i + 2) [(i + 1 : Int), (i + 1 : Int)]) = true := by decide +kernel
theorem seats_any {n : Nat} (h2 : 2 ≤ n) (h16 : n ≤ 16) : balX (dblL (robinL n 2)) n 2 = List.replicate n [(n : Int) - 1, (n : Int) - 1] := by
  rw [(robin_two h2 h16).1]
  have h := seats_all
  rw [List.all_eq_true] at h
  have h1 := h (n - 2) (by rw [List.mem_range]; omega)
  rw [show n - 2 + 2 = n by omega] at h1
  have e := eq_of_beq h1
  unfold balX
  rw [if_neg (by omega), Int.toNat_natCast, show (2 : Int).toNat = 2 from rfl, e, show (((n - 2 : Nat) : Int) + 1) = (n : Int) - 1 by omega]
set_option maxRecDepth 100000 in
theorem check_two_all : ((List.range 15).all fun i => checkE ((i + 2 : Nat) : Int) (circleL (i + 2)) == 0 && checkE ((i + 2 : Nat) : Int) (dblL (circleL (i + 2))) == 0) = true := by decide +kernel
theorem check_two {n : Nat} (h2 : 2 ≤ n) (h16 : n ≤ 16) : checkE n (robinL n 2) = 0 ∧ checkE n (dblL (robinL n 2)) = 0 := by
  rw [(robin_two h2 h16).1]
  have h := check_two_all
  rw [List.all_eq_true] at h
  have h1 := h (n - 2) (by rw [List.mem_range]; omega)
  rw [show n - 2 + 2 = n by omega] at h1
  simpa using h1
theorem seatsE_nodup : ∀ (x seen : List Int), (seen ++ x).Nodup → seatsE seen x = some (seen ++ x)
  | [], seen, _ => by simp [seatsE]
  | s :: r, seen, h => by
    have hs : hasB seen s = false := hasB_no fun q hq e => by
      rw [List.nodup_append] at h
      exact h.2.2 q hq s (by simp) e
    simp only [seatsE]
    rw [if_neg (by rw [hs]; exact Bool.false_ne_true), seatsE_nodup r (seen ++ [s]) (by rw [List.append_assoc]; exact h), List.append_assoc]; rfl
theorem combs_nodup (n : Nat) : ∀ s f c, c ∈ combs n s f → c.Nodup
  | 0, _, c, h => by simp [combs] at h; simp [h]
  | s + 1, f, c, h => by
    simp only [combs, List.mem_flatMap, List.mem_map] at h
    obtain ⟨i, hi, r, hr, rfl⟩ := h
    rw [List.nodup_cons]
    refine ⟨fun hm => ?_, combs_nodup n s (i + 1) r hr⟩
    have := combs_low n s (i + 1) r hr _ hm
    omega
def GoodP (n : Nat) (x : List Int) : Prop := 1 ≤ x.length ∧ x.length ≤ 4 ∧ (∀ p ∈ x, 0 ≤ p ∧ p < n) ∧ x.Nodup
theorem rotL_perm (x : List Int) (k : Nat) : (rotL x k).Perm x := by
  unfold rotL
  exact List.perm_append_comm.trans (by rw [List.take_append_drop])
theorem GoodP.rot {n : Nat} {x : List Int} (h : GoodP n x) (k : Nat) : GoodP n (rotL x k) := by
  have hp := rotL_perm x k
  refine ⟨by rw [hp.length_eq]; exact h.1, by rw [hp.length_eq]; exact h.2.1, fun p hm => h.2.2.1 p (hp.mem_iff.1 hm), hp.nodup_iff.2 h.2.2.2⟩
theorem GoodP.round {n : Nat} {x : List Int} (h : GoodP n x) : roundE n [] [x] = 0 := by
  have hb : badB n x = false := by
    unfold badB
    rw [List.any_eq_false]
    intro q hq
    have := h.2.2.1 q hq
    simp; omega
  have e := pairE_ok n [] x x (by have := h.1; have := h.2.1; omega) hb (by rw [seatsE_nodup x [] (by simpa using h.2.2.2)]; rfl)
  simp only [roundE]
  rw [e, if_pos rfl]
theorem checkR_all (n : Int) : ∀ L : List (List (List Int)), (∀ r ∈ L, roundE n [] r = 0) → checkR n L = 0
  | [], _ => rfl
  | r :: L, h => by
    simp only [checkR]
    rw [if_pos (h r (by simp)), checkR_all n L fun q hq => h q (by simp [hq])]
theorem robTo_good {n s : Nat} (hs : 1 ≤ s) (hs4 : s ≤ 4) (r : List (List Int)) (hr : r ∈ robTo s (combs n s 0) (combs n s 0).length) : ∃ x, r = [x] ∧ GoodP n x := by
  unfold robTo at hr
  rw [List.mem_map] at hr
  obtain ⟨i, hi, rfl⟩ := hr
  rw [List.mem_range] at hi
  have hm : (combs n s 0).getD i [] ∈ combs n s 0 := getD_mem hi
  refine ⟨_, rfl, GoodP.rot ⟨?_, ?_, fun p hp => ?_, combs_nodup n s 0 _ hm⟩ _⟩
  · rw [combs_mem n s 0 _ hm]; exact hs
  · rw [combs_mem n s 0 _ hm]; exact hs4
  · have := combs_low n s 0 _ hm p hp; omega
theorem check_more {n s : Nat} (hs : 3 ≤ s) (hs4 : s ≤ 4) (hsn : s ≤ n) (h16 : n ≤ 16) : checkE n (robinL n s) = 0 ∧ checkE n (dblL (robinL n s)) = 0 := by
  rw [(robin_more hs hs4 hsn h16).1]
  unfold checkE
  rw [if_neg (by omega), if_neg (by omega)]
  refine ⟨checkR_all _ _ fun r hr => ?_, checkR_all _ _ fun r hr => ?_⟩
  · obtain ⟨x, rfl, hg⟩ := robTo_good (by omega) hs4 r hr
    exact hg.round
  · rw [dblL_eq, List.mem_append, List.mem_map, List.mem_map] at hr
    rcases hr with ⟨q, hq, rfl⟩ | ⟨q, hq, rfl⟩
    all_goals
      obtain ⟨x, rfl, hg⟩ := robTo_good (by omega) hs4 q hq
      exact (hg.rot _).round
theorem check_robin {n s : Nat} (hs : 2 ≤ s) (hs4 : s ≤ 4) (hsn : s ≤ n) (h16 : n ≤ 16) : checkE n (robinL n s) = 0 ∧ checkE n (dblL (robinL n s)) = 0 := by
  by_cases e : s = 2
  · subst e; exact check_two hsn h16
  · exact check_more (by omega) hs4 hsn h16
theorem ch_small : ((List.range 17).all fun n => (List.range 5).all fun s => decide (ch n s ≤ 1820)) = true := by decide +kernel
set_option maxRecDepth 100000 in
theorem circle_small : ((List.range 15).all fun i => decide ((circleL (i + 2)).length ≤ 1000) && (circleL (i + 2)).all fun r => decide (r.length ≤ 1000) && r.all fun p => decide (p.length ≤ 1000)) = true := by decide +kernel
theorem robin_small {n s : Nat} (hs : 2 ≤ s) (hs4 : s ≤ 4) (hsn : s ≤ n) (h16 : n ≤ 16) : (robinL n s).length ≤ 2000 ∧ ∀ r ∈ robinL n s, r.length ≤ 1000 ∧ ∀ p ∈ r, p.length ≤ 1000 := by
  by_cases e : s = 2
  · subst e
    have e2 : robinL n ((2 : Nat) : Int) = circleL n := (robin_two hsn h16).1
    rw [e2]
    have h := circle_small
    rw [List.all_eq_true] at h
    have h1 := h (n - 2) (by rw [List.mem_range]; omega)
    rw [show n - 2 + 2 = n by omega, Bool.and_eq_true, decide_eq_true_eq, List.all_eq_true] at h1
    refine ⟨by omega, fun r hr => ?_⟩
    have h2 := h1.2 r hr
    rw [Bool.and_eq_true, decide_eq_true_eq, List.all_eq_true] at h2
    exact ⟨h2.1, fun p hp => by simpa using h2.2 p hp⟩
  · rw [(robin_more (by omega) hs4 hsn h16).1]
    refine ⟨?_, fun r hr => ?_⟩
    · rw [robTo_length, C0_eq n s n 0 (by omega)]
      have h := ch_small
      rw [List.all_eq_true] at h
      have h1 := h n (by rw [List.mem_range]; omega)
      rw [List.all_eq_true] at h1
      have h2 := h1 s (by rw [List.mem_range]; omega)
      have h3 : ch n s ≤ 1820 := by simpa using h2
      omega
    · obtain ⟨x, rfl, hg⟩ := robTo_good (by omega) hs4 r hr
      exact ⟨by simp, fun p hp => by rw [List.mem_singleton] at hp; subst hp; have := hg.2.1; omega⟩
theorem robin_modest {n s : Nat} (hs : 2 ≤ s) (hs4 : s ≤ 4) (hsn : s ≤ n) (h16 : n ≤ 16) : Modest49 (robinL n s) :=
  ⟨by have := (robin_small hs hs4 hsn h16).1; omega, (robin_small hs hs4 hsn h16).2⟩
theorem dbl_modest {L : List (List (List Int))} (h : L.length ≤ 5000) (h2 : ∀ r ∈ L, r.length ≤ 1000 ∧ ∀ p ∈ r, p.length ≤ 1000) : Modest49 (dblL L) := by
  refine ⟨by rw [dblL, dblS_length]; omega, fun r hr => ?_⟩
  rw [dblL_eq, List.mem_append, List.mem_map, List.mem_map] at hr
  rcases hr with ⟨q, hq, rfl⟩ | ⟨q, hq, rfl⟩
  all_goals
    refine ⟨by rw [dblR, List.length_map]; exact (h2 q hq).1, fun p hp => ?_⟩
    rw [dblR, List.mem_map] at hp
    obtain ⟨x, hx, rfl⟩ := hp
    rw [rotL_length]
    exact (h2 q hq).2 x hx
end Go.Proofs.Ytkdfplnoldckgaa
