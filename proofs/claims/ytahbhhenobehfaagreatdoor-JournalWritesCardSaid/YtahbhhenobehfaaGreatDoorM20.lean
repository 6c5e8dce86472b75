/-
  The walks of Constant, within and Ground of the reference of terms.
  The walks of within and of the searches of slices that it asks.
  The walks of roundFormed and of the search for a round that is not.
-/
import Derived.Test.YtahbhhenobehfaaGreatDoorNT4
import Derived.Test.YtahbhhenobehfaaGreatDoorM9
import Derived.Test.YtahbhhenobehfaaGreatDoorM18
namespace Go.Proofs.YtahbhhenobehfaaGreatDoor
open Go.ChangeShapes Go.WideShapes Go.ChangeAt Go.RowKit

theorem constant_leaf (n : ByteArray) (ad : Option Addr) (cap : Nat) (w : World) (hn : n.size ≤ maxLen) :
    Calls Tryz.prog 116 #[.agg #[.string n, .slice ad 0 cap]] w fun e w' => e = .returned (.bool (nameB n.data.toList || numB n.data.toList)) ∧ Below w.heap.size w w' := by
  have b0 : Below w.heap.size w (w.alloc (.cells #[.string n, .slice ad 0 cap] 76)) := (Below.refl _ _).alloc (Nat.le_refl _) _
  go_enter Tryz.func116, Tryz.ntmps116
  go_wp2_with fail
  refine (rname_any n _ hn).mono ?_
  rintro e w1 ⟨rfl, rfl⟩
  obtain ⟨B, eB⟩ : ∃ B, nameB n.data.toList = B := ⟨_, rfl⟩
  rw [eB]
  have hB := hid eB
  clear eB
  cases B
  · go_wp2_with fail
    refine (rnumber_any n _ hn).mono ?_
    rintro e w2 ⟨rfl, rfl⟩
    obtain ⟨C, eC⟩ : ∃ C, numB n.data.toList = C := ⟨_, rfl⟩
    rw [eC]
    have hC := hid eC
    clear eC
    cases C
    all_goals
      go_wp2
      go_ret
      exact ⟨ret_bool (by rw [hB.out, hC.out]; rfl), b0⟩
  · go_wp2
    go_ret
    exact ⟨ret_bool (by rw [hB.out]; rfl), b0⟩
theorem rwithin_zero (n : ByteArray) (ad : Option Addr) (m cap : Nat) (K : Int) (hK : K < 1) (v : Bool) (w : World) :
    Calls Tryz.prog 87 #[.agg #[.string n, .slice ad m cap], .int .i64 K, .bool v] w fun e w' => e = .returned (.bool false) ∧ Below w.heap.size w w' := by
  have b0 : Below w.heap.size w (w.alloc (.cells #[.string n, .slice ad m cap] 76)) := (Below.refl _ _).alloc (Nat.le_refl _) _
  go_enter Tryz.func87, Tryz.ntmps87
  go_wp2
  go_ret
  exact ⟨rfl, b0⟩
theorem rwithin_leaf (n : ByteArray) (ad : Option Addr) (cap : Nat) (K : Int) (hK : 1 ≤ K) (w : World) (hn : n.size ≤ maxLen) :
    Calls Tryz.prog 87 #[.agg #[.string n, .slice ad 0 cap], .int .i64 K, .bool true] w fun e w' => e = .returned (.bool (nameB n.data.toList || numB n.data.toList)) ∧ Below w.heap.size w w' := by
  have b0 : Below w.heap.size w (w.alloc (.cells #[.string n, .slice ad 0 cap] 76)) := (Below.refl _ _).alloc (Nat.le_refl _) _
  go_enter Tryz.func87, Tryz.ntmps87
  go_wp2_with fail
  refine (constant_leaf n ad cap _ hn).mono ?_
  rintro e w1 ⟨rfl, o1⟩
  have b1 := b0.trans (o1.mono b0.size)
  obtain ⟨B, eB⟩ : ∃ B, (nameB n.data.toList || numB n.data.toList) = B := ⟨_, rfl⟩
  rw [eB]
  have hB := hid eB
  clear b0 o1 eB
  cases B
  all_goals
    go_wp2
    go_ret
    exact ⟨ret_bool hB.out.symm, b1⟩
set_option maxRecDepth 20000 in
set_option maxHeartbeats 4000000 in
theorem rwithin_any : ∀ (K : Nat) (n : ByteArray) (ad : Option Addr) (m cap : Nat) (l : List Tm) (w : World), K ≤ 100 → n.size ≤ maxLen → TmsAt w ad m cap l →
    Calls Tryz.prog 87 #[.agg #[.string n, .slice ad m cap], .int .i64 K, .bool true] w fun e w' => e = .returned (.bool (groundB K (.mk n l))) ∧ Below w.heap.size w w'
  | 0, n, ad, m, cap, l, w, _, hn, h => by
    rw [groundB_zero]
    exact rwithin_zero n ad m cap 0 (by omega) true w
  | K + 1, n, ad, m, cap, l, w, hK, hn, h => by
    have ih := hid (rwithin_any K)
    by_cases h0 : m = 0
    · subst h0
      obtain rfl : l = [] := List.eq_nil_of_length_eq_zero h.len
      rw [groundB_leaf]
      exact rwithin_leaf n ad cap ((K + 1 : Nat) : Int) (by omega) w hn
    have hG := hid (groundB_node K n l (by rw [h.len]; omega))
    have hl := hid h.len
    have hle := h.le
    have hmx := h.max
    have hK0 : (0 : Int) ≤ K := by omega
    have hK1 : (K : Int) ≤ 100 := by omega
    rw [show ((K + 1 : Nat) : Int) = (K : Int) + 1 by omega]
    have b0 : Below w.heap.size w (w.alloc (.cells #[.string n, .slice ad m cap] 76)) := (Below.refl _ _).alloc (Nat.le_refl _) _
    have H0 : Has (w.alloc (.cells #[.string n, .slice ad m cap] 76)) w.heap.size #[.string n, .slice ad m cap] 76 := Has.new _ _ _
    have hm0 : (0 : Int) < m := by omega
    have hmz : ((m : Int) == 0) = false := by simp; omega
    go_enter Tryz.func87, Tryz.ntmps87
    go_wp2_with fail
    refine (rname_any n _ hn).mono ?_
    rintro e w1 ⟨rfl, rfl⟩
    obtain ⟨NB, eNB⟩ : ∃ B, nameB n.data.toList = B := ⟨_, rfl⟩
    rw [eNB]
    have hNB := hid eNB
    clear eNB
    cases NB
    · have hr := hid (show groundB (K + 1) (.mk n l) = false by rw [hG.out, hNB.out]; simp)
      clear H0
      go_wp2
      go_ret
      exact ⟨ret_bool hr.out.symm, b0⟩
    by_cases h4 : (4 : Int) < m
    · have hr := hid (show groundB (K + 1) (.mk n l) = false by rw [hG.out, decide_eq_false (by rw [hl.out]; omega)]; rfl)
      clear H0
      go_wp2
      go_ret
      exact ⟨ret_bool hr.out.symm, b0⟩
    have hl4 := hid (show decide (l.length ≤ 4) = true by rw [hl.out]; exact decide_eq_true (by omega))
    go_wp2
    obtain ⟨w0, ew0⟩ : ∃ w0, w0 = w.alloc (.cells #[.string n, .slice ad m cap] 76) := ⟨_, rfl⟩
    rw [← ew0] at b0 H0
    rw [← ew0]
    have hz : w.heap.size < w0.heap.size := H0.lt
    clear ew0
    go_loopw [37] (fun i wr => ∃ k : Nat, k ≤ m ∧ i = .int .i64 k ∧ Hid (∀ j (hj : j < l.length), j < k → groundB K l[j] = true) ∧ Below w0.heap.size w0 wr) (fun i _ => m - (intOf i).toNat)
    case atStart => exact ⟨0, Nat.zero_le _, rfl, hid (fun j _ hj => by omega), Below.refl _ _⟩
    case round =>
      obtain ⟨k, hk, rfl, hA, hb⟩ := hrel
      have hbT := b0.trans (hb.mono b0.size)
      by_cases hlt : k < m
      · have hw := h.below hbT (Nat.le_refl _)
        obtain ⟨b, o, rfl⟩ := hw.head (by omega)
        obtain ⟨n2, l2, ad2, m2, cap2, et, hn2, c0, c1, h2⟩ := hw.at' k (by rw [hl.out]; exact hlt)
        have hk0 : (0 : Int) ≤ k := by omega
        have hkn : (k : Int) < m := by omega
        have bs := hb.size
        have bsT := hbT.size
        have cA : wr.cell? ⟨w.heap.size, 1, none⟩ = some (.slice (some ⟨b, o, none⟩) m cap) := (hb.cell (p := ⟨w.heap.size, 1, none⟩) hz).trans (H0.cell (j := 1) rfl)
        have Et := hid et
        clear et hw
        go_wp2_with fail
        refine (ih.out n2 ad2 m2 cap2 l2 _ (by omega) hn2 h2).mono ?_
        rintro e w3 ⟨rfl, o3⟩
        have hb3 := hb.trans (o3.mono hb.size)
        obtain ⟨B, eB⟩ : ∃ B, groundB K (.mk n2 l2) = B := ⟨_, rfl⟩
        rw [eB]
        have hB := hid eB
        clear eB o3
        cases B
        · have hr := hid (show groundB (K + 1) (.mk n l) = false by rw [hG.out, alltm_bad k (by rw [hl.out]; exact hlt) (by rw [Et.out]; exact hB.out)]; simp)
          have hbF := b0.trans (hb3.mono b0.size)
          go_wp2
          go_ret
          exact ⟨ret_bool hr.out.symm, hbF⟩
        · have hA2 := hid (show ∀ j (hj : j < l.length), j < k + 1 → groundB K l[j] = true from fun j hj h => by
            by_cases e : j < k
            · exact hA.out j hj e
            · have e2 : j = k := by omega
              subst e2
              rw [Et.out]; exact hB.out)
          go_wp2
          go_roundw
          case rel => exact ⟨k + 1, by omega, by go_num, hA2, hb3⟩
          case measure => simp [intOf]; omega
      · obtain rfl : k = m := by omega
        have hall := hid (show l.all (groundB K) = true from alltm_to fun i hi => hA.out i hi (by rw [hl.out] at hi; exact hi))
        have hr := hid (show groundB (K + 1) (.mk n l) = true by rw [hG.out, hl4.out, hall.out, hNB.out]; rfl)
        go_wp2
        go_ret
        exact ⟨ret_bool hr.out.symm, hbT⟩
theorem rground_any (n : ByteArray) (ad : Option Addr) (m cap : Nat) (l : List Tm) (w : World) (hn : n.size ≤ maxLen) (h : TmsAt w ad m cap l) :
    Calls Tryz.prog 58 #[.agg #[.string n, .slice ad m cap]] w fun e w' => e = .returned (.bool (groundB 4 (.mk n l))) ∧ Below w.heap.size w w' := by
  have b0 : Below w.heap.size w (w.alloc (.cells #[.string n, .slice ad m cap] 76)) := (Below.refl _ _).alloc (Nat.le_refl _) _
  have h0 := h.below b0 (Nat.le_refl _)
  go_enter Tryz.func58, Tryz.ntmps58
  go_wp2_with fail
  refine (rwithin_any 4 n ad m cap l _ (by omega) hn h0).mono ?_
  rintro e w1 ⟨rfl, o1⟩
  have b1 := b0.trans (o1.mono b0.size)
  clear b0 o1
  go_wp2
  go_ret
  exact ⟨rfl, b1⟩
end Go.Proofs.YtahbhhenobehfaaGreatDoor
namespace Go.Proofs.YtahbhhenobehfaaGreatDoor
open Go.ChangeShapes Go.WideShapes Go.ChangeAt Go.RowKit

theorem allP_bad {α : Type} {l : List α} {f : α → Bool} (k : Nat) (hk : k < l.length) (h : f l[k] = false) : l.all f = false := by
  rw [List.all_eq_false]
  exact ⟨l[k], List.getElem_mem hk, by rw [h]; exact Bool.false_ne_true⟩
theorem allP_to {α : Type} {l : List α} {f : α → Bool} (h : ∀ i (hi : i < l.length), f l[i] = true) : l.all f = true := by
  rw [List.all_eq_true]
  intro c hc
  obtain ⟨i, hi, e⟩ := List.getElem_of_mem hc
  rw [← e]; exact h i hi
/-- What a search answers: a place where one is bad, or none. -/
def Found (r : Int) (good : Bool) : Prop := -1 ≤ r ∧ r ≤ 9223372036854775807 ∧ decide (0 ≤ r) = !good
theorem Found.none {good : Bool} (h : good = true) : Found (-1) good := ⟨by omega, by omega, by rw [h]; rfl⟩
theorem Found.some {good : Bool} (k : Nat) (hk : (k : Int) ≤ 9223372036854775807) (h : good = false) : Found k good := ⟨by omega, by omega, by rw [h]; simp⟩
def withinB (l : List Int) (K : Int) : Bool := l.all fun n => decide (0 ≤ n) && decide (n ≤ K)
theorem getD_int {l : List Int} (k : Nat) (hk : k < l.length) : l.getD k 0 = l[k] := by
  rw [List.getD_eq_getElem?_getD, List.getElem?_eq_getElem hk]; rfl
theorem without_one (x K : Int) (B : Nat) (w : World) (h : w.cell? ⟨B, 0, none⟩ = some (.int .i64 K)) :
    Calls Tryz.prog 94 #[.int .i64 x, .pointer (some ⟨B, 0, none⟩)] w fun e w' => e = .returned (.bool (!(decide (0 ≤ x) && decide (x ≤ K)))) ∧ w' = w := by
  by_cases h1 : x < 0
  · have e1 := hid (decide_eq_false (p := 0 ≤ x) (by omega))
    go_enter Tryz.func94, Tryz.ntmps94
    go_wp2
    go_ret
    exact ⟨ret_boolv (by rw [e1.out]; rfl), rfl⟩
  · have e1 := hid (decide_eq_true (p := 0 ≤ x) (by omega))
    by_cases h2 : K < x
    · have e2 := hid (decide_eq_false (p := x ≤ K) (by omega))
      go_enter Tryz.func94, Tryz.ntmps94
      go_wp2
      go_ret
      exact ⟨ret_boolv (by rw [e2.out]; simp), rfl⟩
    · have e2 := hid (decide_eq_true (p := x ≤ K) (by omega))
      go_enter Tryz.func94, Tryz.ntmps94
      go_wp2
      go_ret
      exact ⟨ret_boolv (by have h1 := e1.out; have h2 := e2.out; simp_all), rfl⟩
set_option maxRecDepth 20000 in
set_option maxHeartbeats 4000000 in
theorem indexInt_any (ad : Option Addr) (n cap : Nat) (l : List Int) (K : Int) (B : Nat) (w : World) (h : HeldL IntC w ad n cap l) (hB : w.cell? ⟨B, 0, none⟩ = some (.int .i64 K)) :
    Calls Tryz.prog 121 #[.slice ad n cap, .func (.func 94) #[] #[.pointer (some ⟨B, 0, none⟩)]] w fun e w' => ∃ r, e = .returned (.int .i64 r) ∧ Found r (withinB l K) ∧ w' = w := by
  have hl := hid h.len
  have hle := h.le
  have hmx := h.max
  go_enter Tryz.func121, Tryz.ntmps121
  go_wp2
  go_loop [8] (fun i => ∃ k : Nat, k ≤ n ∧ i = .int .i64 k ∧ Hid (∀ j (hj : j < l.length), j < k → (decide (0 ≤ l[j]) && decide (l[j] ≤ K)) = true)) (fun i => n - (intOf i).toNat)
  case atStart => exact ⟨0, Nat.zero_le _, rfl, hid (fun j hj h => by omega)⟩
  case round =>
    obtain ⟨k, hk, rfl, hso⟩ := hrel
    by_cases hlt : k < n
    · have hk0 : (0 : Int) ≤ k := by omega
      have hkn : (k : Int) < n := by omega
      have hki := hid (show k < l.length by rw [hl.out]; exact hlt)
      obtain ⟨b, o, rfl⟩ := h.head (by omega)
      have hc := h.int k hlt
      obtain ⟨x, ex⟩ : ∃ x, x = l.getD k 0 := ⟨_, rfl⟩
      rw [← ex] at hc
      have Ex := hid (show l[k]'hki.out = x by rw [ex, getD_int k hki.out])
      clear ex
      go_wp2_with fail
      refine (without_one x K B w hB).mono ?_
      rintro e w1 ⟨rfl, rfl⟩
      obtain ⟨g, eg⟩ : ∃ g, g = (decide (0 ≤ x) && decide (x ≤ K)) := ⟨_, rfl⟩
      rw [← eg]
      have Eg := hid eg
      clear eg
      cases g
      · rw [Bool.not_false]
        go_wp2
        go_ret
        exact ⟨_, rfl, Found.some k (by omega) (allP_bad k hki.out (by rw [Ex.out]; exact Eg.out.symm)), rfl⟩
      · rw [Bool.not_true]
        go_wp2
        go_round
        case rel => exact ⟨k + 1, by omega, by go_num, hid (fun j hj h => by
          rcases Nat.lt_succ_iff_lt_or_eq.mp h with h | h
          · exact hso.out j hj h
          · subst h; rw [Ex.out]; exact Eg.out.symm)⟩
        case measure => simp [intOf]; omega
    · obtain rfl : n = k := by omega
      go_wp2
      go_ret
      exact ⟨_, rfl, Found.none (allP_to fun i hi => hso.out i hi (by rw [← hl.out]; exact hi)), rfl⟩
theorem containsInt_any (ad : Option Addr) (n cap : Nat) (l : List Int) (K : Int) (B : Nat) (w : World) (h : HeldL IntC w ad n cap l) (hB : w.cell? ⟨B, 0, none⟩ = some (.int .i64 K)) :
    Calls Tryz.prog 93 #[.slice ad n cap, .func (.func 94) #[] #[.pointer (some ⟨B, 0, none⟩)]] w fun e w' => e = .returned (.bool (!withinB l K)) ∧ w' = w := by
  go_enter Tryz.func93, Tryz.ntmps93
  go_wp2_with fail
  refine (indexInt_any ad n cap l K B w h hB).mono ?_
  rintro e w1 ⟨r, rfl, hf, rfl⟩
  obtain ⟨h1, h2, h3⟩ := hf
  have H3 := hid h3
  clear h3
  go_wp2
  go_ret
  exact ⟨ret_boolv (by simpa using H3.out), rfl⟩
theorem within_int (ad : Option Addr) (n cap : Nat) (l : List Int) (K : Int) (w : World) (h : HeldL IntC w ad n cap l) :
    Calls Tryz.prog 68 #[.slice ad n cap, .int .i64 K] w fun e w' => e = .returned (.bool (withinB l K)) ∧ Below w.heap.size w w' := by
  have b0 := (Below.refl w.heap.size w).alloc (Nat.le_refl _) (.cells #[.int .i64 K] 3)
  have h2 := h.below b0 (Nat.le_refl _)
  have hc := (Has.new w #[.int .i64 K] 3).cell (j := 0) rfl
  go_enter Tryz.func68, Tryz.ntmps68
  go_wp2_with fail
  refine (containsInt_any ad n cap l K w.heap.size _ h2 hc).mono ?_
  rintro e w1 ⟨rfl, rfl⟩
  obtain ⟨g, eg⟩ : ∃ g, g = withinB l K := ⟨_, rfl⟩
  rw [← eg]
  have Eg := hid eg
  clear eg
  cases g
  · rw [Bool.not_false]
    go_wp2
    go_ret
    exact ⟨ret_boolv Eg.out, b0⟩
  · rw [Bool.not_true]
    go_wp2
    go_ret
    exact ⟨ret_boolv Eg.out, b0⟩
theorem bad_term (n : ByteArray) (ad : Option Addr) (m cap : Nat) (l : List Tm) (w : World) (hn : n.size ≤ maxLen) (h : TmsAt w ad m cap l) :
    Calls Tryz.prog 91 #[.agg #[.string n, .slice ad m cap]] w fun e w' => e = .returned (.bool (!groundB 4 (.mk n l))) ∧ Below w.heap.size w w' := by
  have b0 := (Below.refl w.heap.size w).alloc (Nat.le_refl _) (.cells #[.string n, .slice ad m cap] 76)
  have h2 := h.below b0 (Nat.le_refl _)
  go_enter Tryz.func91, Tryz.ntmps91
  go_wp2_with fail
  refine (tground_any n ad m cap l _ hn h2).mono ?_
  rintro e w1 ⟨rfl, o1⟩
  have b1 := b0.trans (o1.mono b0.size)
  obtain ⟨g, eg⟩ : ∃ g, g = groundB 4 (.mk n l) := ⟨_, rfl⟩
  rw [← eg]
  have Eg := hid eg
  clear eg
  cases g
  · go_wp2
    go_ret
    exact ⟨ret_boolv (by rw [← Eg.out]; rfl), b1⟩
  · go_wp2
    go_ret
    exact ⟨ret_boolv (by rw [← Eg.out]; rfl), b1⟩
set_option maxRecDepth 20000 in
set_option maxHeartbeats 4000000 in
theorem indexTerm_any (ad : Option Addr) (n cap : Nat) (l : List Tm) (w : World) (h : TmsAt w ad n cap l) :
    Calls Tryz.prog 119 #[.slice ad n cap, .func (.func 91) #[] #[]] w fun e w' => ∃ r, e = .returned (.int .i64 r) ∧ Found r (l.all (groundB 4)) ∧ Below w.heap.size w w' := by
  have hl := hid h.len
  have hle := h.le
  have hmx := h.max
  go_enter Tryz.func119, Tryz.ntmps119
  go_wp2
  go_loopw [8] (fun i wr => ∃ k : Nat, k ≤ n ∧ i = .int .i64 k ∧ Hid (∀ j (hj : j < l.length), j < k → groundB 4 l[j] = true) ∧ Below w.heap.size w wr) (fun i _ => n - (intOf i).toNat)
  case atStart => exact ⟨0, Nat.zero_le _, rfl, hid (fun j hj h => by omega), Below.refl _ _⟩
  case round =>
    obtain ⟨k, hk, rfl, hso, hb⟩ := hrel
    by_cases hlt : k < n
    · have hk0 : (0 : Int) ≤ k := by omega
      have hkn : (k : Int) < n := by omega
      have hki := hid (show k < l.length by rw [hl.out]; exact hlt)
      have hr := h.below hb (Nat.le_refl _)
      obtain ⟨b, o, rfl⟩ := hr.head (by omega)
      obtain ⟨m, l2, ad2, n2, cap2, e2, hm, c1, c2, h2⟩ := hr.at' k hki.out
      have E2 := hid e2
      clear e2 hr
      go_wp2_with fail
      refine (bad_term m ad2 n2 cap2 l2 _ hm h2).mono ?_
      rintro e w1 ⟨rfl, o1⟩
      have b1 := hb.trans (o1.mono hb.size)
      obtain ⟨g, eg⟩ : ∃ g, g = groundB 4 (.mk m l2) := ⟨_, rfl⟩
      rw [← eg]
      have Eg := hid eg
      clear eg c1 c2 h2 hb o1
      cases g
      · rw [Bool.not_false]
        go_wp2
        go_ret
        exact ⟨_, rfl, Found.some k (by omega) (allP_bad k hki.out (by rw [E2.out]; exact Eg.out.symm)), b1⟩
      · rw [Bool.not_true]
        go_wp2
        go_roundw
        case rel => exact ⟨k + 1, by omega, by go_num, hid (fun j hj h => by
          rcases Nat.lt_succ_iff_lt_or_eq.mp h with h | h
          · exact hso.out j hj h
          · subst h; rw [E2.out]; exact Eg.out.symm), b1⟩
        case measure => simp [intOf]; omega
    · obtain rfl : n = k := by omega
      go_wp2
      go_ret
      exact ⟨_, rfl, Found.none (allP_to fun i hi => hso.out i hi (by rw [← hl.out]; exact hi)), hb⟩
theorem containsTerm_any (ad : Option Addr) (n cap : Nat) (l : List Tm) (w : World) (h : TmsAt w ad n cap l) :
    Calls Tryz.prog 90 #[.slice ad n cap, .func (.func 91) #[] #[]] w fun e w' => e = .returned (.bool (!l.all (groundB 4))) ∧ Below w.heap.size w w' := by
  go_enter Tryz.func90, Tryz.ntmps90
  go_wp2_with fail
  refine (indexTerm_any ad n cap l w h).mono ?_
  rintro e w1 ⟨r, rfl, hf, b1⟩
  obtain ⟨h1, h2, h3⟩ := hf
  have H3 := hid h3
  clear h3
  go_wp2
  go_ret
  exact ⟨ret_boolv (by simpa using H3.out), b1⟩
end Go.Proofs.YtahbhhenobehfaaGreatDoor
namespace Go.Proofs.YtahbhhenobehfaaGreatDoor
open Go.ChangeShapes Go.WideShapes Go.ChangeAt Go.RowKit

def roundB (x : Rnd) : Bool := decide (x.joint.length ≤ 4) && (decide (x.faults.length ≤ 4) && (withinB x.faults 3 && x.joint.all (groundB 4)))
theorem roundB_1 {x : Rnd} (h : ¬ x.joint.length ≤ 4) : roundB x = false := by unfold roundB; rw [decide_eq_false h]; rfl
theorem roundB_2 {x : Rnd} (h : ¬ x.faults.length ≤ 4) : roundB x = false := by unfold roundB; rw [decide_eq_false h]; simp
theorem roundB_3 {x : Rnd} (h1 : x.joint.length ≤ 4) (h2 : x.faults.length ≤ 4) : roundB x = (withinB x.faults 3 && x.joint.all (groundB 4)) := by unfold roundB; rw [decide_eq_true h1, decide_eq_true h2]; rfl
set_option maxRecDepth 20000 in
set_option maxHeartbeats 4000000 in
theorem roundFormed_any (x : Rnd) (aj : Option Addr) (nj cj : Nat) (af : Option Addr) (nf cf : Nat) (w : World) (hj : TmsAt w aj nj cj x.joint) (hf : HeldL IntC w af nf cf x.faults) :
    Calls Tryz.prog 67 #[.agg #[.slice aj nj cj, .slice af nf cf]] w fun e w' => e = .returned (.bool (roundB x)) ∧ Below w.heap.size w w' := by
  have b0 := (Below.refl w.heap.size w).alloc (Nat.le_refl _) (.cells #[.slice aj nj cj, .slice af nf cf] 45)
  have H0 := Has.new w #[.slice aj nj cj, .slice af nf cf] 45
  have hl1 := hid hj.len
  have hl2 := hid hf.len
  have hj0 := hj.below b0 (Nat.le_refl _)
  have hf0 := hf.below b0 (Nat.le_refl _)
  clear hj hf
  by_cases h1 : nj ≤ 4
  · have h1i : (nj : Int) ≤ 4 := by omega
    by_cases h2 : nf ≤ 4
    · have h2i : (nf : Int) ≤ 4 := by omega
      have hB := hid (roundB_3 (x := x) (by rw [hl1.out]; exact h1) (by rw [hl2.out]; exact h2))
      go_enter Tryz.func67, Tryz.ntmps67
      go_wp2_with fail
      refine (within_int af nf cf x.faults 3 _ hf0).mono ?_
      rintro e w1 ⟨rfl, o1⟩
      have c0 := (H0.below o1 H0.lt).cell (j := 0) rfl
      have hj1 := hj0.below o1 (Nat.le_refl _)
      have b1 := b0.trans (o1.mono b0.size)
      obtain ⟨g, eg⟩ : ∃ g, g = withinB x.faults 3 := ⟨_, rfl⟩
      rw [← eg]
      have Eg := hid eg
      clear eg H0 hj0 hf0 o1
      cases g
      · go_wp2
        go_ret
        exact ⟨ret_boolv (by rw [hB.out, ← Eg.out]; rfl), b1⟩
      · go_wp2_with fail
        refine (containsTerm_any aj nj cj x.joint _ hj1).mono ?_
        rintro e w2 ⟨rfl, o2⟩
        have b2 := b1.trans (o2.mono b1.size)
        obtain ⟨g2, eg2⟩ : ∃ g2, g2 = x.joint.all (groundB 4) := ⟨_, rfl⟩
        rw [← eg2]
        have Eg2 := hid eg2
        clear eg2 hj1 o2 c0
        cases g2
        · rw [Bool.not_false]
          go_wp2
          go_ret
          exact ⟨ret_boolv (by rw [hB.out, ← Eg.out, ← Eg2.out]; rfl), b2⟩
        · rw [Bool.not_true]
          go_wp2
          go_ret
          exact ⟨ret_boolv (by rw [hB.out, ← Eg.out, ← Eg2.out]; rfl), b2⟩
    · have h2i : ¬ (nf : Int) ≤ 4 := by omega
      have hB := hid (roundB_2 (x := x) (by rw [hl2.out]; exact h2))
      clear H0 hj0 hf0
      go_enter Tryz.func67, Tryz.ntmps67
      go_wp2
      go_ret
      exact ⟨ret_boolv hB.out.symm, b0⟩
  · have h1i : ¬ (nj : Int) ≤ 4 := by omega
    have hB := hid (roundB_1 (x := x) (by rw [hl1.out]; exact h1))
    clear H0 hj0 hf0
    go_enter Tryz.func67, Tryz.ntmps67
    go_wp2
    go_ret
    exact ⟨ret_boolv hB.out.symm, b0⟩
theorem bad_round (x : Rnd) (aj : Option Addr) (nj cj : Nat) (af : Option Addr) (nf cf : Nat) (w : World) (hj : TmsAt w aj nj cj x.joint) (hf : HeldL IntC w af nf cf x.faults) :
    Calls Tryz.prog 66 #[.agg #[.slice aj nj cj, .slice af nf cf]] w fun e w' => e = .returned (.bool (!roundB x)) ∧ Below w.heap.size w w' := by
  have b0 := (Below.refl w.heap.size w).alloc (Nat.le_refl _) (.cells #[.slice aj nj cj, .slice af nf cf] 45)
  have hj0 := hj.below b0 (Nat.le_refl _)
  have hf0 := hf.below b0 (Nat.le_refl _)
  go_enter Tryz.func66, Tryz.ntmps66
  go_wp2_with fail
  refine (roundFormed_any x aj nj cj af nf cf _ hj0 hf0).mono ?_
  rintro e w1 ⟨rfl, o1⟩
  have b1 := b0.trans (o1.mono b0.size)
  obtain ⟨g, eg⟩ : ∃ g, g = roundB x := ⟨_, rfl⟩
  rw [← eg]
  have Eg := hid eg
  clear eg hj0 hf0 hj hf
  cases g
  · go_wp2
    go_ret
    exact ⟨ret_boolv (by rw [← Eg.out]; rfl), b1⟩
  · go_wp2
    go_ret
    exact ⟨ret_boolv (by rw [← Eg.out]; rfl), b1⟩
set_option maxRecDepth 20000 in
set_option maxHeartbeats 4000000 in
theorem indexRound_any (ad : Option Addr) (n cap : Nat) (l : List Rnd) (w : World) (h : RndsAt w ad n cap l) :
    Calls Tryz.prog 89 #[.slice ad n cap, .func (.func 66) #[] #[]] w fun e w' => ∃ r, e = .returned (.int .i64 r) ∧ Found r (l.all roundB) ∧ Below w.heap.size w w' := by
  have hl := hid h.len
  have hle := h.le
  have hmx := h.max
  go_enter Tryz.func89, Tryz.ntmps89
  go_wp2
  go_loopw [8] (fun i wr => ∃ k : Nat, k ≤ n ∧ i = .int .i64 k ∧ Hid (∀ j (hj : j < l.length), j < k → roundB l[j] = true) ∧ Below w.heap.size w wr) (fun i _ => n - (intOf i).toNat)
  case atStart => exact ⟨0, Nat.zero_le _, rfl, hid (fun j hj h => by omega), Below.refl _ _⟩
  case round =>
    obtain ⟨k, hk, rfl, hso, hb⟩ := hrel
    by_cases hlt : k < n
    · have hk0 : (0 : Int) ≤ k := by omega
      have hkn : (k : Int) < n := by omega
      have hki := hid (show k < l.length by rw [hl.out]; exact hlt)
      have hr := h.below hb (Nat.le_refl _)
      obtain ⟨b, o, rfl⟩ := hr.head (by omega)
      obtain ⟨aj, nj, cj, af, nf, cf, c1, c2, hj, hf⟩ := hr.at' k hki.out
      obtain ⟨x, ex⟩ : ∃ x, x = l[k]'hki.out := ⟨_, rfl⟩
      rw [← ex] at hj hf
      have Ex := hid ex
      clear hr ex
      go_wp2_with fail
      refine (bad_round x aj nj cj af nf cf _ hj hf).mono ?_
      rintro e w1 ⟨rfl, o1⟩
      have b1 := hb.trans (o1.mono hb.size)
      obtain ⟨g, eg⟩ : ∃ g, g = roundB x := ⟨_, rfl⟩
      rw [← eg]
      have Eg := hid eg
      clear eg c1 c2 hj hf hb o1
      cases g
      · rw [Bool.not_false]
        go_wp2
        go_ret
        exact ⟨_, rfl, Found.some k (by omega) (allP_bad k hki.out (by rw [← Ex.out]; exact Eg.out.symm)), b1⟩
      · rw [Bool.not_true]
        go_wp2
        go_roundw
        case rel => exact ⟨k + 1, by omega, by go_num, hid (fun j hj h => by
          rcases Nat.lt_succ_iff_lt_or_eq.mp h with h | h
          · exact hso.out j hj h
          · subst h; rw [← Ex.out]; exact Eg.out.symm), b1⟩
        case measure => simp [intOf]; omega
    · obtain rfl : n = k := by omega
      go_wp2
      go_ret
      exact ⟨_, rfl, Found.none (allP_to fun i hi => hso.out i hi (by rw [← hl.out]; exact hi)), hb⟩
theorem containsRound_any (ad : Option Addr) (n cap : Nat) (l : List Rnd) (w : World) (h : RndsAt w ad n cap l) :
    Calls Tryz.prog 65 #[.slice ad n cap, .func (.func 66) #[] #[]] w fun e w' => e = .returned (.bool (!l.all roundB)) ∧ Below w.heap.size w w' := by
  go_enter Tryz.func65, Tryz.ntmps65
  go_wp2_with fail
  refine (indexRound_any ad n cap l w h).mono ?_
  rintro e w1 ⟨r, rfl, hf, b1⟩
  obtain ⟨h1, h2, h3⟩ := hf
  have H3 := hid h3
  clear h3
  go_wp2
  go_ret
  exact ⟨ret_boolv (by simpa using H3.out), b1⟩
theorem thousand_any (x : Int) (w : World) :
    Calls Tryz.prog 63 #[.int .i64 x] w fun e w' => e = .returned (.bool (decide (1 ≤ x) && decide (x ≤ 1000))) ∧ w' = w := by
  by_cases h1 : 1 ≤ x
  · by_cases h2 : x ≤ 1000
    · have e2 := hid (show (decide (1 ≤ x) && decide (x ≤ 1000)) = true by rw [decide_eq_true h1, decide_eq_true h2]; rfl)
      go_enter Tryz.func63, Tryz.ntmps63
      go_wp2
      go_ret
      exact ⟨ret_boolv (by first | exact e2.out.symm | exact (decide_eq_false (by omega)).symm | exact (decide_eq_true (by omega)).symm), rfl⟩
    · have e2 := hid (show (decide (1 ≤ x) && decide (x ≤ 1000)) = false by rw [decide_eq_false h2]; simp)
      go_enter Tryz.func63, Tryz.ntmps63
      go_wp2
      go_ret
      exact ⟨ret_boolv (by first | exact e2.out.symm | exact (decide_eq_false (by omega)).symm | exact (decide_eq_true (by omega)).symm), rfl⟩
  · have e2 := hid (show (decide (1 ≤ x) && decide (x ≤ 1000)) = false by rw [decide_eq_false h1]; simp)
    go_enter Tryz.func63, Tryz.ntmps63
    go_wp2
    go_ret
    exact ⟨ret_boolv (by first | exact e2.out.symm | exact (decide_eq_false (by omega)).symm | exact (decide_eq_true (by omega)).symm), rfl⟩
end Go.Proofs.YtahbhhenobehfaaGreatDoor
