/-
  The walks of within and of the searches of slices that it asks.
-/
import Derived.Test.YtahbhhenobehfaaGreatDoorT21
import Derived.Test.YtahbhhenobehfaaGreatDoorT6
namespace Go.Proofs.YtahbhhenobehfaaGreatDoor
open Go.ChangeShapes Go.WideShapes Go.ChangeAt Go.RowKit

theorem allP_bad {α : Type} {l : List α} {f : α → Bool} (k : Nat) (hk : k < l.length) (h : f l[k] = false) : l.all f = false := by
  rw [List.all_eq_false]
  exact ⟨l[k], List.getElem_mem hk, by rw [h]; exact Bool.false_ne_true⟩
theorem allP_to {α : Type} {l : List α} {f : α → Bool} (h : ∀ i (hi : i < l.length), f l[i] = true) : l.all f = true := by
  rw [List.all_eq_true]
  intro c hc
  obtain ⟨i, hi, e⟩ := List.getElem_of_mem hc
  rw [← e]; exact h i hi
/-- What a search answers: a place where one is bad, or none. -/
def Found (r : Int) (good : Bool) : Prop := -1 ≤ r ∧ r ≤ 9223372036854775807 ∧ decide (0 ≤ r) = !good
theorem Found.none {good : Bool} (h : good = true) : Found (-1) good := ⟨by omega, by omega, by rw [h]; rfl⟩
theorem Found.some {good : Bool} (k : Nat) (hk : (k : Int) ≤ 9223372036854775807) (h : good = false) : Found k good := ⟨by omega, by omega, by rw [h]; simp⟩
def withinB (l : List Int) (K : Int) : Bool := l.all fun n => decide (0 ≤ n) && decide (n ≤ K)
theorem getD_int {l : List Int} (k : Nat) (hk : k < l.length) : l.getD k 0 = l[k] := by
  rw [List.getD_eq_getElem?_getD, List.getElem?_eq_getElem hk]; rfl
theorem without_one (x K : Int) (B : Nat) (w : World) (h : w.cell? ⟨B, 0, none⟩ = some (.int .i64 K)) :
    Calls Tryz.prog 94 #[.int .i64 x, .pointer (some ⟨B, 0, none⟩)] w fun e w' => e = .returned (.bool (!(decide (0 ≤ x) && decide (x ≤ K)))) ∧ w' = w := by
  by_cases h1 : x < 0
  · have e1 := hid (decide_eq_false (p := 0 ≤ x) (by omega))
    go_enter Tryz.func94, Tryz.ntmps94
    go_wp2
    go_ret
    exact ⟨ret_boolv (by rw [e1.out]; rfl), rfl⟩
  · have e1 := hid (decide_eq_true (p := 0 ≤ x) (by omega))
    by_cases h2 : K < x
    · have e2 := hid (decide_eq_false (p := x ≤ K) (by omega))
      go_enter Tryz.func94, Tryz.ntmps94
      go_wp2
      go_ret
      exact ⟨ret_boolv (by rw [e2.out]; simp), rfl⟩
    · have e2 := hid (decide_eq_true (p := x ≤ K) (by omega))
      go_enter Tryz.func94, Tryz.ntmps94
      go_wp2
      go_ret
      exact ⟨ret_boolv (by have h1 := e1.out; have h2 := e2.out; simp_all), rfl⟩
set_option maxRecDepth 20000 in
set_option maxHeartbeats 4000000 in
theorem indexInt_any (ad : Option Addr) (n cap : Nat) (l : List Int) (K : Int) (B : Nat) (w : World) (h : HeldL IntC w ad n cap l) (hB : w.cell? ⟨B, 0, none⟩ = some (.int .i64 K)) :
    Calls Tryz.prog 121 #[.slice ad n cap, .func (.func 94) #[] #[.pointer (some ⟨B, 0, none⟩)]] w fun e w' => ∃ r, e = .returned (.int .i64 r) ∧ Found r (withinB l K) ∧ w' = w := by
  have hl := hid h.len
  have hle := h.le
  have hmx := h.max
  go_enter Tryz.func121, Tryz.ntmps121
  go_wp2
  go_loop [8] (fun i => ∃ k : Nat, k ≤ n ∧ i = .int .i64 k ∧ Hid (∀ j (hj : j < l.length), j < k → (decide (0 ≤ l[j]) && decide (l[j] ≤ K)) = true)) (fun i => n - (intOf i).toNat)
  case atStart => exact ⟨0, Nat.zero_le _, rfl, hid (fun j hj h => by omega)⟩
  case round =>
    obtain ⟨k, hk, rfl, hso⟩ := hrel
    by_cases hlt : k < n
    · have hk0 : (0 : Int) ≤ k := by omega
      have hkn : (k : Int) < n := by omega
      have hki := hid (show k < l.length by rw [hl.out]; exact hlt)
      obtain ⟨b, o, rfl⟩ := h.head (by omega)
      have hc := h.int k hlt
      obtain ⟨x, ex⟩ : ∃ x, x = l.getD k 0 := ⟨_, rfl⟩
      rw [← ex] at hc
      have Ex := hid (show l[k]'hki.out = x by rw [ex, getD_int k hki.out])
      clear ex
      go_wp2_with fail
      refine (without_one x K B w hB).mono ?_
      rintro e w1 ⟨rfl, rfl⟩
      obtain ⟨g, eg⟩ : ∃ g, g = (decide (0 ≤ x) && decide (x ≤ K)) := ⟨_, rfl⟩
      rw [← eg]
      have Eg := hid eg
      clear eg
      cases g
      · rw [Bool.not_false]
        go_wp2
        go_ret
        exact ⟨_, rfl, Found.some k (by omega) (allP_bad k hki.out (by rw [Ex.out]; exact Eg.out.symm)), rfl⟩
      · rw [Bool.not_true]
        go_wp2
        go_round
        case rel => exact ⟨k + 1, by omega, by go_num, hid (fun j hj h => by
          rcases Nat.lt_succ_iff_lt_or_eq.mp h with h | h
          · exact hso.out j hj h
          · subst h; rw [Ex.out]; exact Eg.out.symm)⟩
        case measure => simp [intOf]; omega
    · obtain rfl : n = k := by omega
      go_wp2
      go_ret
      exact ⟨_, rfl, Found.none (allP_to fun i hi => hso.out i hi (by rw [← hl.out]; exact hi)), rfl⟩
theorem containsInt_any (ad : Option Addr) (n cap : Nat) (l : List Int) (K : Int) (B : Nat) (w : World) (h : HeldL IntC w ad n cap l) (hB : w.cell? ⟨B, 0, none⟩ = some (.int .i64 K)) :
    Calls Tryz.prog 93 #[.slice ad n cap, .func (.func 94) #[] #[.pointer (some ⟨B, 0, none⟩)]] w fun e w' => e = .returned (.bool (!withinB l K)) ∧ w' = w := by
  go_enter Tryz.func93, Tryz.ntmps93
  go_wp2_with fail
  refine (indexInt_any ad n cap l K B w h hB).mono ?_
  rintro e w1 ⟨r, rfl, hf, rfl⟩
  obtain ⟨h1, h2, h3⟩ := hf
  have H3 := hid h3
  clear h3
  go_wp2
  go_ret
  exact ⟨ret_boolv (by simpa using H3.out), rfl⟩
theorem within_int (ad : Option Addr) (n cap : Nat) (l : List Int) (K : Int) (w : World) (h : HeldL IntC w ad n cap l) :
    Calls Tryz.prog 68 #[.slice ad n cap, .int .i64 K] w fun e w' => e = .returned (.bool (withinB l K)) ∧ Below w.heap.size w w' := by
  have b0 := (Below.refl w.heap.size w).alloc (Nat.le_refl _) (.cells #[.int .i64 K] 3)
  have h2 := h.below b0 (Nat.le_refl _)
  have hc := (Has.new w #[.int .i64 K] 3).cell (j := 0) rfl
  go_enter Tryz.func68, Tryz.ntmps68
  go_wp2_with fail
  refine (containsInt_any ad n cap l K w.heap.size _ h2 hc).mono ?_
  rintro e w1 ⟨rfl, rfl⟩
  obtain ⟨g, eg⟩ : ∃ g, g = withinB l K := ⟨_, rfl⟩
  rw [← eg]
  have Eg := hid eg
  clear eg
  cases g
  · rw [Bool.not_false]
    go_wp2
    go_ret
    exact ⟨ret_boolv Eg.out, b0⟩
  · rw [Bool.not_true]
    go_wp2
    go_ret
    exact ⟨ret_boolv Eg.out, b0⟩
theorem bad_term (n : ByteArray) (ad : Option Addr) (m cap : Nat) (l : List Tm) (w : World) (hn : n.size ≤ maxLen) (h : TmsAt w ad m cap l) :
    Calls Tryz.prog 91 #[.agg #[.string n, .slice ad m cap]] w fun e w' => e = .returned (.bool (!groundB 4 (.mk n l))) ∧ Below w.heap.size w w' := by
  have b0 := (Below.refl w.heap.size w).alloc (Nat.le_refl _) (.cells #[.string n, .slice ad m cap] 76)
  have h2 := h.below b0 (Nat.le_refl _)
  go_enter Tryz.func91, Tryz.ntmps91
  go_wp2_with fail
  refine (tground_any n ad m cap l _ hn h2).mono ?_
  rintro e w1 ⟨rfl, o1⟩
  have b1 := b0.trans (o1.mono b0.size)
  obtain ⟨g, eg⟩ : ∃ g, g = groundB 4 (.mk n l) := ⟨_, rfl⟩
  rw [← eg]
  have Eg := hid eg
  clear eg
  cases g
  · go_wp2
    go_ret
    exact ⟨ret_boolv (by rw [← Eg.out]; rfl), b1⟩
  · go_wp2
    go_ret
    exact ⟨ret_boolv (by rw [← Eg.out]; rfl), b1⟩
set_option maxRecDepth 20000 in
set_option maxHeartbeats 4000000 in
theorem indexTerm_any (ad : Option Addr) (n cap : Nat) (l : List Tm) (w : World) (h : TmsAt w ad n cap l) :
    Calls Tryz.prog 119 #[.slice ad n cap, .func (.func 91) #[] #[]] w fun e w' => ∃ r, e = .returned (.int .i64 r) ∧ Found r (l.all (groundB 4)) ∧ Below w.heap.size w w' := by
  have hl := hid h.len
  have hle := h.le
  have hmx := h.max
  go_enter Tryz.func119, Tryz.ntmps119
  go_wp2
  go_loopw [8] (fun i wr => ∃ k : Nat, k ≤ n ∧ i = .int .i64 k ∧ Hid (∀ j (hj : j < l.length), j < k → groundB 4 l[j] = true) ∧ Below w.heap.size w wr) (fun i _ => n - (intOf i).toNat)
  case atStart => exact ⟨0, Nat.zero_le _, rfl, hid (fun j hj h => by omega), Below.refl _ _⟩
  case round =>
    obtain ⟨k, hk, rfl, hso, hb⟩ := hrel
    by_cases hlt : k < n
    · have hk0 : (0 : Int) ≤ k := by omega
      have hkn : (k : Int) < n := by omega
      have hki := hid (show k < l.length by rw [hl.out]; exact hlt)
      have hr := h.below hb (Nat.le_refl _)
      obtain ⟨b, o, rfl⟩ := hr.head (by omega)
      obtain ⟨m, l2, ad2, n2, cap2, e2, hm, c1, c2, h2⟩ := hr.at' k hki.out
      have E2 := hid e2
      clear e2 hr
      go_wp2_with fail
      refine (bad_term m ad2 n2 cap2 l2 _ hm h2).mono ?_
      rintro e w1 ⟨rfl, o1⟩
      have b1 := hb.trans (o1.mono hb.size)
      obtain ⟨g, eg⟩ : ∃ g, g = groundB 4 (.mk m l2) := ⟨_, rfl⟩
      rw [← eg]
      have Eg := hid eg
      clear eg c1 c2 h2 hb o1
      cases g
      · rw [Bool.not_false]
        go_wp2
        go_ret
        exact ⟨_, rfl, Found.some k (by omega) (allP_bad k hki.out (by rw [E2.out]; exact Eg.out.symm)), b1⟩
      · rw [Bool.not_true]
        go_wp2
        go_roundw
        case rel => exact ⟨k + 1, by omega, by go_num, hid (fun j hj h => by
          rcases Nat.lt_succ_iff_lt_or_eq.mp h with h | h
          · exact hso.out j hj h
          · subst h; rw [E2.out]; exact Eg.out.symm), b1⟩
        case measure => simp [intOf]; omega
    · obtain rfl : n = k := by omega
      go_wp2
      go_ret
      exact ⟨_, rfl, Found.none (allP_to fun i hi => hso.out i hi (by rw [← hl.out]; exact hi)), hb⟩
theorem containsTerm_any (ad : Option Addr) (n cap : Nat) (l : List Tm) (w : World) (h : TmsAt w ad n cap l) :
    Calls Tryz.prog 90 #[.slice ad n cap, .func (.func 91) #[] #[]] w fun e w' => e = .returned (.bool (!l.all (groundB 4))) ∧ Below w.heap.size w w' := by
  go_enter Tryz.func90, Tryz.ntmps90
  go_wp2_with fail
  refine (indexTerm_any ad n cap l w h).mono ?_
  rintro e w1 ⟨r, rfl, hf, b1⟩
  obtain ⟨h1, h2, h3⟩ := hf
  have H3 := hid h3
  clear h3
  go_wp2
  go_ret
  exact ⟨ret_boolv (by simpa using H3.out), b1⟩
end Go.Proofs.YtahbhhenobehfaaGreatDoor
