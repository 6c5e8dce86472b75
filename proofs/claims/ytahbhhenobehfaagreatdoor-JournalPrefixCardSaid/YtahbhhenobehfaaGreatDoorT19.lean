/-
  The walks that compare lists of bools.
-/
import Derived.Test.YtahbhhenobehfaaGreatDoorTRec
import Derived.Test.YtahbhhenobehfaaGreatDoorT5
import Derived.Deep.QuietTactic
import Derived.BigQuiet
import Derived.Outline
namespace Go.Proofs.YtahbhhenobehfaaGreatDoor
open Go.ChangeShapes Go.WideShapes Go.ChangeAt Go.RowKit

theorem HeldL.boolAt {w : World} {b o n cap : Nat} {l : List Bool} (h : HeldL BoolC w (some ⟨b, o, none⟩) n cap l) (i : Nat) (hi : i < n) : w.cell? ⟨b, o + i, none⟩ = some (.bool (l.getD i false)) := by
  obtain ⟨hn, _, _, hx⟩ := h.lst
  obtain ⟨b', o', u, e, hc, hu⟩ := hx i (by omega)
  cases e
  rw [hc, hu, List.getD_eq_getElem?_getD, List.getElem?_eq_getElem (by omega)]; rfl
theorem Rests.bool (S : Nat → Prop) (w : World) (x : Bool) : Rests BoolC S w (.bool x) x := fun _ _ => rfl
def sameB (l1 l2 : List Bool) : Bool := decide (l1 = l2)
theorem sameB_len {l1 l2 : List Bool} (h : l1.length ≠ l2.length) : sameB l1 l2 = false := decide_eq_false fun e => h (by rw [e])
theorem sameB_at {l1 l2 : List Bool} (k : Nat) (h : l1.getD k false ≠ l2.getD k false) : sameB l1 l2 = false := decide_eq_false fun e => h (by rw [e])
theorem sameB_ok {l1 l2 : List Bool} (h : l1.length = l2.length) (hx : ∀ i, i < l1.length → l1.getD i false = l2.getD i false) : sameB l1 l2 = true := decide_eq_true (List.ext_getElem h fun i h1 h2 => by
  have := hx i h1
  rwa [List.getD_eq_getElem?_getD, List.getD_eq_getElem?_getD, List.getElem?_eq_getElem h1, List.getElem?_eq_getElem h2] at this)
theorem ret_boolv {a b : Bool} (h : a = b) : Ending.returned (.bool a) = .returned (.bool b) := by rw [h]
theorem Below.drewN (w : World) (q : Nat) : Below w.heap.size w (w.drewN q) := ⟨rfl, rfl, rfl, Nat.le_refl _, fun _ _ => rfl⟩
theorem bools_none (a1 a2 : Option Addr) (c1 c2 : Nat) (w : World) :
    Calls Tryz.prog 26 #[.slice a1 0 c1, .slice a2 0 c2] w fun e w' => e = .returned (.bool true) ∧ ∃ q, w' = w.drewN q := by
  go_enter Tryz.func26, Tryz.ntmps26
  go_wp2
  refine wp_loop_rounds 1 ?_
  rw [rounds_succ]
  go_wp2
  go_ret
  exact ⟨rfl, 0, rfl⟩
theorem bools_other (a1 a2 : Option Addr) (n m c1 c2 : Nat) (w : World) (h : n ≠ m) :
    Calls Tryz.prog 26 #[.slice a1 n c1, .slice a2 m c2] w fun e w' => e = .returned (.bool false) ∧ ∃ q, w' = w.drewN q := by
  have hz : ((n : Int) == m) = false := by simp; omega
  go_enter Tryz.func26, Tryz.ntmps26
  go_wp2
  go_ret
  exact ⟨rfl, 0, rfl⟩
theorem bools_some (b1 o1 b2 o2 : Nat) (n c1 c2 : Nat) (l1 l2 : List Bool) (w : World) (hm : (n : Int) ≤ 9223372036854775807) (h1 : HeldL BoolC w (some ⟨b1, o1, none⟩) n c1 l1) (h2 : HeldL BoolC w (some ⟨b2, o2, none⟩) n c2 l2) :
    Calls Tryz.prog 26 #[.slice (some ⟨b1, o1, none⟩) n c1, .slice (some ⟨b2, o2, none⟩) n c2] w fun e w' => e = .returned (.bool (sameB l1 l2)) ∧ ∃ q, w' = w.drewN q := by
  have hl1 := hid h1.len
  have hl2 := hid h2.len
  go_enter Tryz.func26, Tryz.ntmps26
  go_wp2
  go_loopw [5, 13] (fun _ i wr => ∃ k : Nat, k ≤ n ∧ i = .int .i64 k ∧ Hid (∀ j, j < k → l1.getD j false = l2.getD j false) ∧ ∃ q, wr = w.drewN q) (fun _ i _ => n - (intOf i).toNat)
  case atStart => exact ⟨0, Nat.zero_le _, rfl, hid (fun j hj => by omega), 0, rfl⟩
  case round =>
    obtain ⟨k, hk, rfl, hsame, q0, hw⟩ := hrel
    have hb : Below w.heap.size w wr := by rw [hw]; exact ⟨rfl, rfl, rfl, Nat.le_refl _, fun _ _ => rfl⟩
    replace h1 := h1.below hb (Nat.le_refl _)
    replace h2 := h2.below hb (Nat.le_refl _)
    have Hw := hid hw
    clear hw hb
    by_cases hlt : k < n
    · have x1 := h1.boolAt k hlt
      have x2 := h2.boolAt k hlt
      obtain ⟨x, ex⟩ : ∃ x, x = l1.getD k false := ⟨_, rfl⟩
      obtain ⟨y, ey⟩ : ∃ y, y = l2.getD k false := ⟨_, rfl⟩
      rw [← ex] at x1
      rw [← ey] at x2
      have Hx := hid ex
      have Hy := hid ey
      clear h1 h2 ex ey
      have hk0 : (0 : Int) ≤ k := by omega
      have hkn : (k : Int) < n := by omega
      cases x
      · cases y
        · go_wp2
          go_quiet (fail)
          go_wp2
          go_roundw
          case rel => exact ⟨k + 1, by omega, by go_num, hid (fun j hj => by
            rcases Nat.lt_succ_iff_lt_or_eq.mp hj with h | h
            · exact hsame.out j h
            · rw [h, ← Hx.out, ← Hy.out]), q0 + nq, by rw [Hw.out, World.drewN_drewN]⟩
          case measure => simp [intOf]; omega
        · go_wp2
          go_quiet (fail)
          go_wp2
          go_ret
          exact ⟨ret_boolv (sameB_at k (by rw [← Hx.out, ← Hy.out]; decide)).symm, q0 + nq, by rw [Hw.out, World.drewN_drewN]⟩
      · cases y
        · go_wp2
          go_quiet (fail)
          go_wp2
          go_ret
          exact ⟨ret_boolv (sameB_at k (by rw [← Hx.out, ← Hy.out]; decide)).symm, q0 + nq, by rw [Hw.out, World.drewN_drewN]⟩
        · go_wp2
          go_quiet (fail)
          go_wp2
          go_roundw
          case rel => exact ⟨k + 1, by omega, by go_num, hid (fun j hj => by
            rcases Nat.lt_succ_iff_lt_or_eq.mp hj with h | h
            · exact hsame.out j h
            · rw [h, ← Hx.out, ← Hy.out]), q0 + nq, by rw [Hw.out, World.drewN_drewN]⟩
          case measure => simp [intOf]; omega
    · obtain rfl : n = k := by omega
      go_wp2
      go_ret
      exact ⟨ret_boolv (sameB_ok (by rw [hl1.out, hl2.out]) (fun i hi => hsame.out i (by rw [← hl1.out]; exact hi))).symm, q0, Hw.out⟩
theorem bools_any (a1 a2 : Option Addr) (n m c1 c2 : Nat) (l1 l2 : List Bool) (w : World) (h1 : HeldL BoolC w a1 n c1 l1) (h2 : HeldL BoolC w a2 m c2 l2) :
    Calls Tryz.prog 26 #[.slice a1 n c1, .slice a2 m c2] w fun e w' => e = .returned (.bool (sameB l1 l2)) ∧ ∃ q, w' = w.drewN q := by
  by_cases hnm : n = m
  · subst hnm
    by_cases h0 : n = 0
    · subst h0
      obtain rfl : l1 = [] := List.eq_nil_of_length_eq_zero h1.len
      obtain rfl : l2 = [] := List.eq_nil_of_length_eq_zero h2.len
      exact bools_none a1 a2 c1 c2 w
    · obtain ⟨b1, o1, rfl⟩ := h1.head (by omega)
      obtain ⟨b2, o2, rfl⟩ := h2.head (by omega)
      exact bools_some b1 o1 b2 o2 n c1 c2 l1 l2 w (by have := h1.le; have := h1.max; omega) h1 h2
  · rw [sameB_len (by rw [h1.len, h2.len]; exact hnm)]
    exact bools_other a1 a2 n m c1 c2 w hnm
theorem eqbools_none (a1 a2 : Option Addr) (c1 c2 : Nat) (w : World) :
    Calls Tryz.prog 69 #[.slice a1 0 c1, .slice a2 0 c2] w fun e w' => e = .returned (.bool true) ∧ ∃ q, w' = w.drewN q := by
  go_enter Tryz.func69, Tryz.ntmps69
  go_wp2
  refine wp_loop_rounds 1 ?_
  rw [rounds_succ]
  go_wp2
  go_ret
  exact ⟨rfl, 0, rfl⟩
theorem eqbools_other (a1 a2 : Option Addr) (n m c1 c2 : Nat) (w : World) (h : n ≠ m) :
    Calls Tryz.prog 69 #[.slice a1 n c1, .slice a2 m c2] w fun e w' => e = .returned (.bool false) ∧ ∃ q, w' = w.drewN q := by
  have hz : ((n : Int) == m) = false := by simp; omega
  go_enter Tryz.func69, Tryz.ntmps69
  go_wp2
  go_ret
  exact ⟨rfl, 0, rfl⟩
theorem eqbools_some (b1 o1 b2 o2 : Nat) (n c1 c2 : Nat) (l1 l2 : List Bool) (w : World) (hm : (n : Int) ≤ 9223372036854775807) (h1 : HeldL BoolC w (some ⟨b1, o1, none⟩) n c1 l1) (h2 : HeldL BoolC w (some ⟨b2, o2, none⟩) n c2 l2) :
    Calls Tryz.prog 69 #[.slice (some ⟨b1, o1, none⟩) n c1, .slice (some ⟨b2, o2, none⟩) n c2] w fun e w' => e = .returned (.bool (sameB l1 l2)) ∧ ∃ q, w' = w.drewN q := by
  have hl1 := hid h1.len
  have hl2 := hid h2.len
  go_enter Tryz.func69, Tryz.ntmps69
  go_wp2
  go_loopw [5, 13] (fun _ i wr => ∃ k : Nat, k ≤ n ∧ i = .int .i64 k ∧ Hid (∀ j, j < k → l1.getD j false = l2.getD j false) ∧ ∃ q, wr = w.drewN q) (fun _ i _ => n - (intOf i).toNat)
  case atStart => exact ⟨0, Nat.zero_le _, rfl, hid (fun j hj => by omega), 0, rfl⟩
  case round =>
    obtain ⟨k, hk, rfl, hsame, q0, hw⟩ := hrel
    have hb : Below w.heap.size w wr := by rw [hw]; exact ⟨rfl, rfl, rfl, Nat.le_refl _, fun _ _ => rfl⟩
    replace h1 := h1.below hb (Nat.le_refl _)
    replace h2 := h2.below hb (Nat.le_refl _)
    have Hw := hid hw
    clear hw hb
    by_cases hlt : k < n
    · have x1 := h1.boolAt k hlt
      have x2 := h2.boolAt k hlt
      obtain ⟨x, ex⟩ : ∃ x, x = l1.getD k false := ⟨_, rfl⟩
      obtain ⟨y, ey⟩ : ∃ y, y = l2.getD k false := ⟨_, rfl⟩
      rw [← ex] at x1
      rw [← ey] at x2
      have Hx := hid ex
      have Hy := hid ey
      clear h1 h2 ex ey
      have hk0 : (0 : Int) ≤ k := by omega
      have hkn : (k : Int) < n := by omega
      cases x
      · cases y
        · go_wp2
          go_quiet (fail)
          go_wp2
          go_roundw
          case rel => exact ⟨k + 1, by omega, by go_num, hid (fun j hj => by
            rcases Nat.lt_succ_iff_lt_or_eq.mp hj with h | h
            · exact hsame.out j h
            · rw [h, ← Hx.out, ← Hy.out]), q0 + nq, by rw [Hw.out, World.drewN_drewN]⟩
          case measure => simp [intOf]; omega
        · go_wp2
          go_quiet (fail)
          go_wp2
          go_ret
          exact ⟨ret_boolv (sameB_at k (by rw [← Hx.out, ← Hy.out]; decide)).symm, q0 + nq, by rw [Hw.out, World.drewN_drewN]⟩
      · cases y
        · go_wp2
          go_quiet (fail)
          go_wp2
          go_ret
          exact ⟨ret_boolv (sameB_at k (by rw [← Hx.out, ← Hy.out]; decide)).symm, q0 + nq, by rw [Hw.out, World.drewN_drewN]⟩
        · go_wp2
          go_quiet (fail)
          go_wp2
          go_roundw
          case rel => exact ⟨k + 1, by omega, by go_num, hid (fun j hj => by
            rcases Nat.lt_succ_iff_lt_or_eq.mp hj with h | h
            · exact hsame.out j h
            · rw [h, ← Hx.out, ← Hy.out]), q0 + nq, by rw [Hw.out, World.drewN_drewN]⟩
          case measure => simp [intOf]; omega
    · obtain rfl : n = k := by omega
      go_wp2
      go_ret
      exact ⟨ret_boolv (sameB_ok (by rw [hl1.out, hl2.out]) (fun i hi => hsame.out i (by rw [← hl1.out]; exact hi))).symm, q0, Hw.out⟩
theorem eqbools_any (a1 a2 : Option Addr) (n m c1 c2 : Nat) (l1 l2 : List Bool) (w : World) (h1 : HeldL BoolC w a1 n c1 l1) (h2 : HeldL BoolC w a2 m c2 l2) :
    Calls Tryz.prog 69 #[.slice a1 n c1, .slice a2 m c2] w fun e w' => e = .returned (.bool (sameB l1 l2)) ∧ ∃ q, w' = w.drewN q := by
  by_cases hnm : n = m
  · subst hnm
    by_cases h0 : n = 0
    · subst h0
      obtain rfl : l1 = [] := List.eq_nil_of_length_eq_zero h1.len
      obtain rfl : l2 = [] := List.eq_nil_of_length_eq_zero h2.len
      exact eqbools_none a1 a2 c1 c2 w
    · obtain ⟨b1, o1, rfl⟩ := h1.head (by omega)
      obtain ⟨b2, o2, rfl⟩ := h2.head (by omega)
      exact eqbools_some b1 o1 b2 o2 n c1 c2 l1 l2 w (by have := h1.le; have := h1.max; omega) h1 h2
  · rw [sameB_len (by rw [h1.len, h2.len]; exact hnm)]
    exact eqbools_other a1 a2 n m c1 c2 w hnm
end Go.Proofs.YtahbhhenobehfaaGreatDoor
