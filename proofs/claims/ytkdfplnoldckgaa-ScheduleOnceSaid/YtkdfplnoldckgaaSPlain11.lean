/-
  The plain steps of a row of Balance. No program in sight.
-/
import Derived.Test.YtkdfplnoldckgaaSPlain10
namespace Go.Proofs.Ytkdfplnoldckgaa

def rowF (m : Nat) (f : Nat → Nat) : List Int := (List.range m).map fun s => (f s : Int)
theorem rowF_length (m : Nat) (f : Nat → Nat) : (rowF m f).length = m := by simp [rowF]
theorem rowF_get (m : Nat) (f : Nat → Nat) (t : Nat) (h : t < m) : (rowF m f).getD t 0 = (f t : Int) := by
  unfold rowF
  rw [List.getD_eq_getElem?_getD, List.getElem?_map, List.getElem?_range h]
  rfl
theorem rowF_congr {m : Nat} {f g : Nat → Nat} (h : ∀ s, s < m → f s = g s) : rowF m f = rowF m g := by
  unfold rowF
  refine List.map_congr_left fun s hs => ?_
  rw [h s (List.mem_range.1 hs)]
theorem rowF_set (m : Nat) (f : Nat → Nat) (t : Nat) : (rowF m f).set t ((f t : Int) + 1) = rowF m (fun s => if s = t then f s + 1 else f s) := by
  unfold rowF
  refine List.ext_getElem (by simp) fun i h1 h2 => ?_
  simp only [List.length_set, List.length_map, List.length_range] at h1
  rw [List.getElem_set]
  by_cases e : t = i
  · subst e; simp
  · rw [if_neg e]; simp [Ne.symm e]
theorem rowF_zero (m : Nat) : List.replicate m (0 : Int) = rowF m (fun _ => 0) := by
  unfold rowF
  refine List.ext_getElem (by simp) fun i h1 h2 => ?_
  simp
theorem balR_len_le (r : List (List Int)) (p : Int) (s : Nat) : balR r p s ≤ r.length := balR_le r p s
theorem balN_le (L : List (List (List Int))) (p : Int) (s : Nat) (h : ∀ r ∈ L, r.length ≤ 1000) : balN L p s ≤ L.length * 1000 := by
  induction L with
  | nil => simp [balN]
  | cons r L ih =>
    have h1 := h r (by simp)
    have h2 := ih fun q hq => h q (by simp [hq])
    have h3 := balR_le r p s
    unfold balN at h2 ⊢
    simp only [List.map_cons, List.sum_cons, List.length_cons]
    omega
def fT (a : Nat → Nat) (x : List Int) (p : Int) (t s : Nat) : Nat := a s + (if s < t ∧ seatOne p s x = true then 1 else 0)
theorem fT_zero (m : Nat) (a : Nat → Nat) (x : List Int) (p : Int) : rowF m a = rowF m (fT a x p 0) := rowF_congr fun s _ => by simp [fT]
theorem seatOne_get (p : Int) (t : Nat) (x : List Int) (h : t < x.length) : seatOne p t x = (x.getD t 0 == p) := by
  unfold seatOne
  rw [List.getD_eq_getElem?_getD, List.getElem?_eq_getElem h]
  rfl
theorem fT_yes (m : Nat) (a : Nat → Nat) (x : List Int) (p : Int) (t : Nat) (h : t < x.length) (hp : (x.getD t 0 == p) = true) :
    (rowF m (fT a x p t)).set t ((fT a x p t t : Int) + 1) = rowF m (fT a x p (t + 1)) := by
  rw [rowF_set]
  refine rowF_congr fun s _ => ?_
  rw [← seatOne_get p t x h] at hp
  unfold fT
  by_cases e : s = t
  · subst e; simp [hp]
  · rw [if_neg e]
    have : (s < t) ↔ (s < t + 1) := by omega
    simp only [this]
theorem fT_no (m : Nat) (a : Nat → Nat) (x : List Int) (p : Int) (t : Nat) (h : t < x.length) (hp : (x.getD t 0 == p) = false) :
    rowF m (fT a x p t) = rowF m (fT a x p (t + 1)) := by
  refine rowF_congr fun s _ => ?_
  rw [← seatOne_get p t x h] at hp
  unfold fT
  by_cases e : s = t
  · subst e; simp [hp]
  · have : (s < t) ↔ (s < t + 1) := by omega
    simp only [this]
theorem fT_end (m : Nat) (a : Nat → Nat) (x : List Int) (p : Int) (t : Nat) (h : m ≤ t ∨ x.length ≤ t) :
    rowF m (fT a x p t) = rowF m (fun s => a s + (if seatOne p s x = true then 1 else 0)) := by
  refine rowF_congr fun s hs => ?_
  unfold fT
  by_cases e : s < t
  · simp [e]
  · have : seatOne p s x = false := by
      unfold seatOne
      rw [List.getElem?_eq_none (by omega)]; rfl
    simp [this]
def rowK (L : List (List (List Int))) (m : Nat) (p : Int) (k : Nat) : List Int := rowF m fun s => balN (L.take k) p s
def aJ (L : List (List (List Int))) (r : List (List Int)) (p : Int) (k j : Nat) (s : Nat) : Nat := balN (L.take k) p s + balR (r.take j) p s
theorem rowK_zero (L : List (List (List Int))) (m : Nat) (p : Int) : List.replicate m (0 : Int) = rowK L m p 0 := by
  rw [rowF_zero]; exact rowF_congr fun s _ => by simp [balN]
theorem rowK_end (L : List (List (List Int))) (m : Nat) (p : Int) (k : Nat) (h : L.length ≤ k) : rowK L m p k = balRow L m p := by
  unfold rowK balRow rowF
  rw [List.take_of_length_le h]
theorem aJ_zero (L : List (List (List Int))) (r : List (List Int)) (m : Nat) (p : Int) (k : Nat) : rowK L m p k = rowF m (aJ L r p k 0) :=
  rowF_congr fun s _ => by simp [aJ, balR]
theorem aJ_succ (L : List (List (List Int))) (r : List (List Int)) (m : Nat) (p : Int) (k j t : Nat) (x : List Int) (hj : j < r.length) (hx : x = r.getD j []) (h : m ≤ t ∨ x.length ≤ t) :
    rowF m (fT (aJ L r p k j) x p t) = rowF m (aJ L r p k (j + 1)) := by
  rw [fT_end m _ x p t h]
  refine rowF_congr fun s _ => ?_
  show balN (L.take k) p s + balR (r.take j) p s + _ = balN (L.take k) p s + balR (r.take (j + 1)) p s
  rw [balR_take r p s j hj, ← hx]; omega
theorem aJ_end (L : List (List (List Int))) (r : List (List Int)) (m : Nat) (p : Int) (k j : Nat) (hk : k < L.length) (hr : r = L.getD k []) (h : r.length ≤ j) : rowF m (aJ L r p k j) = rowK L m p (k + 1) := by
  refine rowF_congr fun s _ => ?_
  show balN (L.take k) p s + balR (r.take j) p s = _
  rw [List.take_of_length_le h, balN_take L p s k hk, ← hr]
theorem fT_le (L : List (List (List Int))) (r : List (List Int)) (y : List Int) (p : Int) (k j t s : Nat) (hL : ∀ r ∈ L, r.length ≤ 1000) (hn : L.length ≤ 10000) (hr : r.length ≤ 1000) : fT (aJ L r p k j) y p t s ≤ 20000000 := by
  have h1 := balN_le (L.take k) p s fun q hq => hL q (List.mem_of_mem_take hq)
  have h2 := balR_le (r.take j) p s
  have h3 : (L.take k).length ≤ L.length := by simp; omega
  have h4 : (r.take j).length ≤ r.length := by simp; omega
  unfold fT aJ
  split <;> omega
theorem fT_over (m : Nat) (a : Nat → Nat) (x : List Int) (p : Int) (t : Nat) (h : m ≤ t) : rowF m (fT a x p t) = rowF m (fT a x p (t + 1)) :=
  rowF_congr fun s hs => by
    unfold fT
    have : (s < t) ↔ (s < t + 1) := by omega
    simp only [this]
theorem balL_get (L : List (List (List Int))) (n m i : Nat) (h : i < (balL L n m).length) : (balL L n m)[i] = balRow L m (i : Int) := by
  simp only [balL, List.getElem_map, List.getElem_range]
def balX (L : List (List (List Int))) (N m : Int) : List (List Int) := if N < 1 ∨ 16 < N ∨ m < 1 ∨ 4 < m then [] else balL L N.toNat m.toNat
end Go.Proofs.Ytkdfplnoldckgaa
