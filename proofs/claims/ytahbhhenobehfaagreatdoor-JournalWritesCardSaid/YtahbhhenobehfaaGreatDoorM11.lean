/-
  The walks of within and Ground of package term.
  The walks that compare lists of bools.
-/
import Derived.Test.YtahbhhenobehfaaGreatDoorM10
import Derived.Test.YtahbhhenobehfaaGreatDoorM9
import Derived.Deep.QuietTactic
import Derived.BigQuiet
import Derived.Outline
namespace Go.Proofs.YtahbhhenobehfaaGreatDoor
open Go.ChangeShapes Go.WideShapes Go.ChangeAt Go.RowKit

theorem within_zero (n : ByteArray) (ad : Option Addr) (m cap : Nat) (K : Int) (hK : K < 1) (v : Bool) (w : World) :
    Calls Tryz.prog 120 #[.agg #[.string n, .slice ad m cap], .int .i64 K, .bool v] w fun e w' => e = .returned (.bool false) ∧ Below w.heap.size w w' := by
  have b0 : Below w.heap.size w (w.alloc (.cells #[.string n, .slice ad m cap] 76)) := (Below.refl _ _).alloc (Nat.le_refl _) _
  go_enter Tryz.func120, Tryz.ntmps120
  go_wp2
  go_ret
  exact ⟨rfl, b0⟩
theorem within_leaf (n : ByteArray) (ad : Option Addr) (cap : Nat) (K : Int) (hK : 1 ≤ K) (w : World) (hn : n.size ≤ maxLen) :
    Calls Tryz.prog 120 #[.agg #[.string n, .slice ad 0 cap], .int .i64 K, .bool false] w fun e w' => e = .returned (.bool (nameB n.data.toList || numB n.data.toList)) ∧ Below w.heap.size w w' := by
  have b0 : Below w.heap.size w (w.alloc (.cells #[.string n, .slice ad 0 cap] 76)) := (Below.refl _ _).alloc (Nat.le_refl _) _
  go_enter Tryz.func120, Tryz.ntmps120
  go_wp2_with fail
  refine (tname_any n _ hn).mono ?_
  rintro e w1 ⟨rfl, o1⟩
  have c0 : w1.cell? ⟨w.heap.size, 0, none⟩ = some (.string n) := (o1.cell (p := ⟨w.heap.size, 0, none⟩) (by simp)).trans ((Has.new w #[.string n, .slice ad 0 cap] 76).cell (j := 0) rfl)
  have b1 := b0.trans (o1.mono b0.size)
  obtain ⟨B, eB⟩ : ∃ B, nameB n.data.toList = B := ⟨_, rfl⟩
  rw [eB]
  clear b0 o1
  cases B
  · have hB := hid eB
    clear eB
    go_wp2_with fail
    refine (tnumber_any n _ hn).mono ?_
    rintro e w2 ⟨rfl, rfl⟩
    obtain ⟨C, eC⟩ : ∃ C, numB n.data.toList = C := ⟨_, rfl⟩
    rw [eC]
    have hC := hid eC
    clear eC
    cases C
    all_goals
      go_wp2
      go_ret
      exact ⟨ret_bool (by rw [hB.out, hC.out]; rfl), b1⟩
  · have hB := hid eB
    clear eB
    go_wp2
    go_ret
    exact ⟨ret_bool (by rw [hB.out]; rfl), b1⟩
set_option maxRecDepth 20000 in
set_option maxHeartbeats 4000000 in
theorem within_any : ∀ (K : Nat) (n : ByteArray) (ad : Option Addr) (m cap : Nat) (l : List Tm) (w : World), K ≤ 100 → n.size ≤ maxLen → TmsAt w ad m cap l →
    Calls Tryz.prog 120 #[.agg #[.string n, .slice ad m cap], .int .i64 K, .bool false] w fun e w' => e = .returned (.bool (groundB K (.mk n l))) ∧ Below w.heap.size w w'
  | 0, n, ad, m, cap, l, w, _, hn, h => by
    rw [groundB_zero]
    exact within_zero n ad m cap 0 (by omega) false w
  | K + 1, n, ad, m, cap, l, w, hK, hn, h => by
    have ih := hid (within_any K)
    by_cases h0 : m = 0
    · subst h0
      obtain rfl : l = [] := List.eq_nil_of_length_eq_zero h.len
      rw [groundB_leaf]
      exact within_leaf n ad cap ((K + 1 : Nat) : Int) (by omega) w hn
    have hG := hid (groundB_node K n l (by rw [h.len]; omega))
    have hl := hid h.len
    have hle := h.le
    have hmx := h.max
    have hK0 : (0 : Int) ≤ K := by omega
    have hK1 : (K : Int) ≤ 100 := by omega
    rw [show ((K + 1 : Nat) : Int) = (K : Int) + 1 by omega]
    have b0 : Below w.heap.size w (w.alloc (.cells #[.string n, .slice ad m cap] 76)) := (Below.refl _ _).alloc (Nat.le_refl _) _
    have H0 : Has (w.alloc (.cells #[.string n, .slice ad m cap] 76)) w.heap.size #[.string n, .slice ad m cap] 76 := Has.new _ _ _
    have hm0 : (0 : Int) < m := by omega
    have hmz : ((m : Int) == 0) = false := by simp; omega
    by_cases h4 : (4 : Int) < m
    · have hr := hid (show groundB (K + 1) (.mk n l) = false by rw [hG.out, decide_eq_false (by rw [hl.out]; omega)]; rfl)
      clear H0
      go_enter Tryz.func120, Tryz.ntmps120
      go_wp2
      go_ret
      exact ⟨ret_bool hr.out.symm, b0⟩
    have hl4 := hid (show decide (l.length ≤ 4) = true by rw [hl.out]; exact decide_eq_true (by omega))
    go_enter Tryz.func120, Tryz.ntmps120
    go_wp2
    obtain ⟨w0, ew0⟩ : ∃ w0, w0 = w.alloc (.cells #[.string n, .slice ad m cap] 76) := ⟨_, rfl⟩
    rw [← ew0] at b0 H0
    rw [← ew0]
    have hz : w.heap.size < w0.heap.size := H0.lt
    clear ew0
    go_loopw [40] (fun i wr => ∃ k : Nat, k ≤ m ∧ i = .int .i64 k ∧ Hid (∀ j (hj : j < l.length), j < k → groundB K l[j] = true) ∧ Below w0.heap.size w0 wr) (fun i _ => m - (intOf i).toNat)
    case atStart => exact ⟨0, Nat.zero_le _, rfl, hid (fun j _ hj => by omega), Below.refl _ _⟩
    case round =>
      obtain ⟨k, hk, rfl, hA, hb⟩ := hrel
      have hbT := b0.trans (hb.mono b0.size)
      by_cases hlt : k < m
      · have hw := h.below hbT (Nat.le_refl _)
        obtain ⟨b, o, rfl⟩ := hw.head (by omega)
        obtain ⟨n2, l2, ad2, m2, cap2, et, hn2, c0, c1, h2⟩ := hw.at' k (by rw [hl.out]; exact hlt)
        have hk0 : (0 : Int) ≤ k := by omega
        have hkn : (k : Int) < m := by omega
        have bs := hb.size
        have bsT := hbT.size
        have h2a := h2.below ((Below.refl wr.heap.size wr).alloc (Nat.le_refl _) (.cells #[.string n2, .slice ad2 m2 cap2] 76)) (Nat.le_refl _)
        have hba := hb.alloc bs (.cells #[.string n2, .slice ad2 m2 cap2] 76)
        have Et := hid et
        clear et hw h2
        go_wp2_with fail
        refine (ih.out n2 ad2 m2 cap2 l2 _ (by omega) hn2 h2a).mono ?_
        rintro e w3 ⟨rfl, o3⟩
        have hb3 := hba.trans (o3.mono hba.size)
        obtain ⟨B, eB⟩ : ∃ B, groundB K (.mk n2 l2) = B := ⟨_, rfl⟩
        rw [eB]
        have hB := hid eB
        clear eB hba o3
        cases B
        · have hr := hid (show groundB (K + 1) (.mk n l) = false by rw [hG.out, alltm_bad k (by rw [hl.out]; exact hlt) (by rw [Et.out]; exact hB.out)]; simp)
          have hbF := b0.trans (hb3.mono b0.size)
          go_wp2
          go_ret
          exact ⟨ret_bool hr.out.symm, hbF⟩
        · have hA2 := hid (show ∀ j (hj : j < l.length), j < k + 1 → groundB K l[j] = true from fun j hj h => by
            by_cases e : j < k
            · exact hA.out j hj e
            · have e2 : j = k := by omega
              subst e2
              rw [Et.out]; exact hB.out)
          go_wp2
          go_roundw
          case rel => exact ⟨k + 1, by omega, by go_num, hA2, hb3⟩
          case measure => simp [intOf]; omega
      · obtain rfl : k = m := by omega
        have hall := hid (show l.all (groundB K) = true from alltm_to fun i hi => hA.out i hi (by rw [hl.out] at hi; exact hi))
        have c0 : wr.cell? ⟨w.heap.size, 0, none⟩ = some (.string n) := (hb.cell (p := ⟨w.heap.size, 0, none⟩) hz).trans (H0.cell (j := 0) rfl)
        go_wp2_with fail
        refine (tname_any n _ hn).mono ?_
        rintro e w3 ⟨rfl, o3⟩
        have hb3 := hbT.trans (o3.mono hbT.size)
        have hr := hid (show groundB (K + 1) (.mk n l) = nameB n.data.toList by rw [hG.out, hl4.out, hall.out]; rfl)
        go_wp2
        go_ret
        exact ⟨ret_bool hr.out.symm, hb3⟩
theorem tground_any (n : ByteArray) (ad : Option Addr) (m cap : Nat) (l : List Tm) (w : World) (hn : n.size ≤ maxLen) (h : TmsAt w ad m cap l) :
    Calls Tryz.prog 92 #[.agg #[.string n, .slice ad m cap]] w fun e w' => e = .returned (.bool (groundB 4 (.mk n l))) ∧ Below w.heap.size w w' := by
  have b0 : Below w.heap.size w (w.alloc (.cells #[.string n, .slice ad m cap] 76)) := (Below.refl _ _).alloc (Nat.le_refl _) _
  have h0 := h.below b0 (Nat.le_refl _)
  go_enter Tryz.func92, Tryz.ntmps92
  go_wp2_with fail
  refine (within_any 4 n ad m cap l _ (by omega) hn h0).mono ?_
  rintro e w1 ⟨rfl, o1⟩
  have b1 := b0.trans (o1.mono b0.size)
  clear b0 o1
  go_wp2
  go_ret
  exact ⟨rfl, b1⟩
end Go.Proofs.YtahbhhenobehfaaGreatDoor
namespace Go.Proofs.YtahbhhenobehfaaGreatDoor
open Go.ChangeShapes Go.WideShapes Go.ChangeAt Go.RowKit

theorem HeldL.boolAt {w : World} {b o n cap : Nat} {l : List Bool} (h : HeldL BoolC w (some ⟨b, o, none⟩) n cap l) (i : Nat) (hi : i < n) : w.cell? ⟨b, o + i, none⟩ = some (.bool (l.getD i false)) := by
  obtain ⟨hn, _, _, hx⟩ := h.lst
  obtain ⟨b', o', u, e, hc, hu⟩ := hx i (by omega)
  cases e
  rw [hc, hu, List.getD_eq_getElem?_getD, List.getElem?_eq_getElem (by omega)]; rfl
theorem Rests.bool (S : Nat → Prop) (w : World) (x : Bool) : Rests BoolC S w (.bool x) x := fun _ _ => rfl
def sameB (l1 l2 : List Bool) : Bool := decide (l1 = l2)
theorem sameB_len {l1 l2 : List Bool} (h : l1.length ≠ l2.length) : sameB l1 l2 = false := decide_eq_false fun e => h (by rw [e])
theorem sameB_at {l1 l2 : List Bool} (k : Nat) (h : l1.getD k false ≠ l2.getD k false) : sameB l1 l2 = false := decide_eq_false fun e => h (by rw [e])
theorem sameB_ok {l1 l2 : List Bool} (h : l1.length = l2.length) (hx : ∀ i, i < l1.length → l1.getD i false = l2.getD i false) : sameB l1 l2 = true := decide_eq_true (List.ext_getElem h fun i h1 h2 => by
  have := hx i h1
  rwa [List.getD_eq_getElem?_getD, List.getD_eq_getElem?_getD, List.getElem?_eq_getElem h1, List.getElem?_eq_getElem h2] at this)
theorem ret_boolv {a b : Bool} (h : a = b) : Ending.returned (.bool a) = .returned (.bool b) := by rw [h]
theorem Below.drewN (w : World) (q : Nat) : Below w.heap.size w (w.drewN q) := ⟨rfl, rfl, rfl, Nat.le_refl _, fun _ _ => rfl⟩
theorem bools_none (a1 a2 : Option Addr) (c1 c2 : Nat) (w : World) :
    Calls Tryz.prog 26 #[.slice a1 0 c1, .slice a2 0 c2] w fun e w' => e = .returned (.bool true) ∧ ∃ q, w' = w.drewN q := by
  go_enter Tryz.func26, Tryz.ntmps26
  go_wp2
  refine wp_loop_rounds 1 ?_
  rw [rounds_succ]
  go_wp2
  go_ret
  exact ⟨rfl, 0, rfl⟩
theorem bools_other (a1 a2 : Option Addr) (n m c1 c2 : Nat) (w : World) (h : n ≠ m) :
    Calls Tryz.prog 26 #[.slice a1 n c1, .slice a2 m c2] w fun e w' => e = .returned (.bool false) ∧ ∃ q, w' = w.drewN q := by
  have hz : ((n : Int) == m) = false := by simp; omega
  go_enter Tryz.func26, Tryz.ntmps26
  go_wp2
  go_ret
  exact ⟨rfl, 0, rfl⟩
theorem bools_some (b1 o1 b2 o2 : Nat) (n c1 c2 : Nat) (l1 l2 : List Bool) (w : World) (hm : (n : Int) ≤ 9223372036854775807) (h1 : HeldL BoolC w (some ⟨b1, o1, none⟩) n c1 l1) (h2 : HeldL BoolC w (some ⟨b2, o2, none⟩) n c2 l2) :
    Calls Tryz.prog 26 #[.slice (some ⟨b1, o1, none⟩) n c1, .slice (some ⟨b2, o2, none⟩) n c2] w fun e w' => e = .returned (.bool (sameB l1 l2)) ∧ ∃ q, w' = w.drewN q := by
  have hl1 := hid h1.len
  have hl2 := hid h2.len
  go_enter Tryz.func26, Tryz.ntmps26
  go_wp2
  go_loopw [5, 13] (fun _ i wr => ∃ k : Nat, k ≤ n ∧ i = .int .i64 k ∧ Hid (∀ j, j < k → l1.getD j false = l2.getD j false) ∧ ∃ q, wr = w.drewN q) (fun _ i _ => n - (intOf i).toNat)
  case atStart => exact ⟨0, Nat.zero_le _, rfl, hid (fun j hj => by omega), 0, rfl⟩
  case round =>
    obtain ⟨k, hk, rfl, hsame, q0, hw⟩ := hrel
    have hb : Below w.heap.size w wr := by rw [hw]; exact ⟨rfl, rfl, rfl, Nat.le_refl _, fun _ _ => rfl⟩
    replace h1 := h1.below hb (Nat.le_refl _)
    replace h2 := h2.below hb (Nat.le_refl _)
    have Hw := hid hw
    clear hw hb
    by_cases hlt : k < n
    · have x1 := h1.boolAt k hlt
      have x2 := h2.boolAt k hlt
      obtain ⟨x, ex⟩ : ∃ x, x = l1.getD k false := ⟨_, rfl⟩
      obtain ⟨y, ey⟩ : ∃ y, y = l2.getD k false := ⟨_, rfl⟩
      rw [← ex] at x1
      rw [← ey] at x2
      have Hx := hid ex
      have Hy := hid ey
      clear h1 h2 ex ey
      have hk0 : (0 : Int) ≤ k := by omega
      have hkn : (k : Int) < n := by omega
      cases x
      · cases y
        · go_wp2
          go_quiet (fail)
          go_wp2
          go_roundw
          case rel => exact ⟨k + 1, by omega, by go_num, hid (fun j hj => by
            rcases Nat.lt_succ_iff_lt_or_eq.mp hj with h | h
            · exact hsame.out j h
            · rw [h, ← Hx.out, ← Hy.out]), q0 + nq, by rw [Hw.out, World.drewN_drewN]⟩
          case measure => simp [intOf]; omega
        · go_wp2
          go_quiet (fail)
          go_wp2
          go_ret
          exact ⟨ret_boolv (sameB_at k (by rw [← Hx.out, ← Hy.out]; decide)).symm, q0 + nq, by rw [Hw.out, World.drewN_drewN]⟩
      · cases y
        · go_wp2
          go_quiet (fail)
          go_wp2
          go_ret
          exact ⟨ret_boolv (sameB_at k (by rw [← Hx.out, ← Hy.out]; decide)).symm, q0 + nq, by rw [Hw.out, World.drewN_drewN]⟩
        · go_wp2
          go_quiet (fail)
          go_wp2
          go_roundw
          case rel => exact ⟨k + 1, by omega, by go_num, hid (fun j hj => by
            rcases Nat.lt_succ_iff_lt_or_eq.mp hj with h | h
            · exact hsame.out j h
            · rw [h, ← Hx.out, ← Hy.out]), q0 + nq, by rw [Hw.out, World.drewN_drewN]⟩
          case measure => simp [intOf]; omega
    · obtain rfl : n = k := by omega
      go_wp2
      go_ret
      exact ⟨ret_boolv (sameB_ok (by rw [hl1.out, hl2.out]) (fun i hi => hsame.out i (by rw [← hl1.out]; exact hi))).symm, q0, Hw.out⟩
theorem bools_any (a1 a2 : Option Addr) (n m c1 c2 : Nat) (l1 l2 : List Bool) (w : World) (h1 : HeldL BoolC w a1 n c1 l1) (h2 : HeldL BoolC w a2 m c2 l2) :
    Calls Tryz.prog 26 #[.slice a1 n c1, .slice a2 m c2] w fun e w' => e = .returned (.bool (sameB l1 l2)) ∧ ∃ q, w' = w.drewN q := by
  by_cases hnm : n = m
  · subst hnm
    by_cases h0 : n = 0
    · subst h0
      obtain rfl : l1 = [] := List.eq_nil_of_length_eq_zero h1.len
      obtain rfl : l2 = [] := List.eq_nil_of_length_eq_zero h2.len
      exact bools_none a1 a2 c1 c2 w
    · obtain ⟨b1, o1, rfl⟩ := h1.head (by omega)
      obtain ⟨b2, o2, rfl⟩ := h2.head (by omega)
      exact bools_some b1 o1 b2 o2 n c1 c2 l1 l2 w (by have := h1.le; have := h1.max; omega) h1 h2
  · rw [sameB_len (by rw [h1.len, h2.len]; exact hnm)]
    exact bools_other a1 a2 n m c1 c2 w hnm
theorem eqbools_none (a1 a2 : Option Addr) (c1 c2 : Nat) (w : World) :
    Calls Tryz.prog 69 #[.slice a1 0 c1, .slice a2 0 c2] w fun e w' => e = .returned (.bool true) ∧ ∃ q, w' = w.drewN q := by
  go_enter Tryz.func69, Tryz.ntmps69
  go_wp2
  refine wp_loop_rounds 1 ?_
  rw [rounds_succ]
  go_wp2
  go_ret
  exact ⟨rfl, 0, rfl⟩
theorem eqbools_other (a1 a2 : Option Addr) (n m c1 c2 : Nat) (w : World) (h : n ≠ m) :
    Calls Tryz.prog 69 #[.slice a1 n c1, .slice a2 m c2] w fun e w' => e = .returned (.bool false) ∧ ∃ q, w' = w.drewN q := by
  have hz : ((n : Int) == m) = false := by simp; omega
  go_enter Tryz.func69, Tryz.ntmps69
  go_wp2
  go_ret
  exact ⟨rfl, 0, rfl⟩
theorem eqbools_some (b1 o1 b2 o2 : Nat) (n c1 c2 : Nat) (l1 l2 : List Bool) (w : World) (hm : (n : Int) ≤ 9223372036854775807) (h1 : HeldL BoolC w (some ⟨b1, o1, none⟩) n c1 l1) (h2 : HeldL BoolC w (some ⟨b2, o2, none⟩) n c2 l2) :
    Calls Tryz.prog 69 #[.slice (some ⟨b1, o1, none⟩) n c1, .slice (some ⟨b2, o2, none⟩) n c2] w fun e w' => e = .returned (.bool (sameB l1 l2)) ∧ ∃ q, w' = w.drewN q := by
  have hl1 := hid h1.len
  have hl2 := hid h2.len
  go_enter Tryz.func69, Tryz.ntmps69
  go_wp2
  go_loopw [5, 13] (fun _ i wr => ∃ k : Nat, k ≤ n ∧ i = .int .i64 k ∧ Hid (∀ j, j < k → l1.getD j false = l2.getD j false) ∧ ∃ q, wr = w.drewN q) (fun _ i _ => n - (intOf i).toNat)
  case atStart => exact ⟨0, Nat.zero_le _, rfl, hid (fun j hj => by omega), 0, rfl⟩
  case round =>
    obtain ⟨k, hk, rfl, hsame, q0, hw⟩ := hrel
    have hb : Below w.heap.size w wr := by rw [hw]; exact ⟨rfl, rfl, rfl, Nat.le_refl _, fun _ _ => rfl⟩
    replace h1 := h1.below hb (Nat.le_refl _)
    replace h2 := h2.below hb (Nat.le_refl _)
    have Hw := hid hw
    clear hw hb
    by_cases hlt : k < n
    · have x1 := h1.boolAt k hlt
      have x2 := h2.boolAt k hlt
      obtain ⟨x, ex⟩ : ∃ x, x = l1.getD k false := ⟨_, rfl⟩
      obtain ⟨y, ey⟩ : ∃ y, y = l2.getD k false := ⟨_, rfl⟩
      rw [← ex] at x1
      rw [← ey] at x2
      have Hx := hid ex
      have Hy := hid ey
      clear h1 h2 ex ey
      have hk0 : (0 : Int) ≤ k := by omega
      have hkn : (k : Int) < n := by omega
      cases x
      · cases y
        · go_wp2
          go_quiet (fail)
          go_wp2
          go_roundw
          case rel => exact ⟨k + 1, by omega, by go_num, hid (fun j hj => by
            rcases Nat.lt_succ_iff_lt_or_eq.mp hj with h | h
            · exact hsame.out j h
            · rw [h, ← Hx.out, ← Hy.out]), q0 + nq, by rw [Hw.out, World.drewN_drewN]⟩
          case measure => simp [intOf]; omega
        · go_wp2
          go_quiet (fail)
          go_wp2
          go_ret
          exact ⟨ret_boolv (sameB_at k (by rw [← Hx.out, ← Hy.out]; decide)).symm, q0 + nq, by rw [Hw.out, World.drewN_drewN]⟩
      · cases y
        · go_wp2
          go_quiet (fail)
          go_wp2
          go_ret
          exact ⟨ret_boolv (sameB_at k (by rw [← Hx.out, ← Hy.out]; decide)).symm, q0 + nq, by rw [Hw.out, World.drewN_drewN]⟩
        · go_wp2
          go_quiet (fail)
          go_wp2
          go_roundw
          case rel => exact ⟨k + 1, by omega, by go_num, hid (fun j hj => by
            rcases Nat.lt_succ_iff_lt_or_eq.mp hj with h | h
            · exact hsame.out j h
            · rw [h, ← Hx.out, ← Hy.out]), q0 + nq, by rw [Hw.out, World.drewN_drewN]⟩
          case measure => simp [intOf]; omega
    · obtain rfl : n = k := by omega
      go_wp2
      go_ret
      exact ⟨ret_boolv (sameB_ok (by rw [hl1.out, hl2.out]) (fun i hi => hsame.out i (by rw [← hl1.out]; exact hi))).symm, q0, Hw.out⟩
theorem eqbools_any (a1 a2 : Option Addr) (n m c1 c2 : Nat) (l1 l2 : List Bool) (w : World) (h1 : HeldL BoolC w a1 n c1 l1) (h2 : HeldL BoolC w a2 m c2 l2) :
    Calls Tryz.prog 69 #[.slice a1 n c1, .slice a2 m c2] w fun e w' => e = .returned (.bool (sameB l1 l2)) ∧ ∃ q, w' = w.drewN q := by
  by_cases hnm : n = m
  · subst hnm
    by_cases h0 : n = 0
    · subst h0
      obtain rfl : l1 = [] := List.eq_nil_of_length_eq_zero h1.len
      obtain rfl : l2 = [] := List.eq_nil_of_length_eq_zero h2.len
      exact eqbools_none a1 a2 c1 c2 w
    · obtain ⟨b1, o1, rfl⟩ := h1.head (by omega)
      obtain ⟨b2, o2, rfl⟩ := h2.head (by omega)
      exact eqbools_some b1 o1 b2 o2 n c1 c2 l1 l2 w (by have := h1.le; have := h1.max; omega) h1 h2
  · rw [sameB_len (by rw [h1.len, h2.len]; exact hnm)]
    exact eqbools_other a1 a2 n m c1 c2 w hnm
end Go.Proofs.YtahbhhenobehfaaGreatDoor
