/-
  The walks of Strings, begins and Begins on any two lists of texts.
  The walks of the reference's digits, Words and goals.
-/
import Derived.Test.YtahbhhenobehfaaGreatDoorM40
namespace Go.Proofs.YtahbhhenobehfaaGreatDoor
open Go.ChangeShapes Go.WideShapes Go.ChangeAt Go.RowKit

theorem strings_other (a1 a2 : Option Addr) (n m c1 c2 : Nat) (w : World) (h : n ≠ m) :
    Calls Tryz.prog 15 #[.slice a1 n c1, .slice a2 m c2] w fun e w' => e = .returned (.bool false) ∧ Below w.heap.size w w' := by
  have hz : ((n : Int) != m) = true := by simp; omega
  go_enter Tryz.func15, Tryz.ntmps15
  go_wp2
  go_ret
  exact ⟨rfl, Below.refl _ _⟩
theorem ba_mk {x y : List UInt8} (h : (⟨x.toArray⟩ : ByteArray) = ⟨y.toArray⟩) : x = y := by
  have := congrArg (fun b : ByteArray => b.data.toList) h
  simpa using this
set_option maxHeartbeats 1000000 in
theorem strings_gsome (b1 o1 b2 o2 : Nat) (n c1 c2 : Nat) (l1 l2 : List (List UInt8)) (w : World) (hm : n ≤ 9223372036854775807) (hl1 : Hid (l1.length = n)) (hl2 : Hid (l2.length = n)) (h1 : RowS w (some ⟨b1, o1, none⟩) l1) (h2 : RowS w (some ⟨b2, o2, none⟩) l2) :
    Calls Tryz.prog 15 #[.slice (some ⟨b1, o1, none⟩) n c1, .slice (some ⟨b2, o2, none⟩) n c2] w fun e w' => e = .returned (.bool (decide (l1 = l2))) ∧ Below w.heap.size w w' := by
  go_enter Tryz.func15, Tryz.ntmps15
  go_wp2
  go_loopw [5, 13] (fun _ i wr => ∃ k : Nat, k ≤ n ∧ i = .int .i64 k ∧ Hid (∀ j, j < k → l1.getD j [] = l2.getD j []) ∧ RowS wr (some ⟨b1, o1, none⟩) l1 ∧ RowS wr (some ⟨b2, o2, none⟩) l2 ∧ Below w.heap.size w wr) (fun _ i _ => n - (intOf i).toNat)
  case atStart => exact ⟨0, Nat.zero_le _, rfl, hid (fun j hj => by omega), h1, h2, Below.refl _ _⟩
  case round =>
    clear h1 h2
    obtain ⟨k, hk, rfl, hsame, h1, h2, hb⟩ := hrel
    by_cases hlt : k < n
    · obtain ⟨x, hx, hcx⟩ := h1.at k (by rw [hl1.out]; exact hlt)
      obtain ⟨y, hy, hcy⟩ := h2.at k (by rw [hl2.out]; exact hlt)
      by_cases hxy : x = y
      · subst hxy
        have hs2 := hid (show ∀ j, j < k + 1 → l1.getD j [] = l2.getD j [] from fun j hj => by
          rcases Nat.lt_succ_iff_lt_or_eq.mp hj with h | h
          · exact hsame.out j h
          · rw [h]; exact ba_mk (hx.out.symm.trans hy.out))
        go_wp2
        go_region
        go_wp2
        go_roundw
        case rel => exact ⟨k + 1, by omega, by go_num, hs2, h1.below ((Below.refl _ _).drew) (Nat.le_refl _), h2.below ((Below.refl _ _).drew) (Nat.le_refl _), hb.drew⟩
        case measure => simp [intOf]; omega
      · have hne : (x.toList == y.toList) = false := by
          rw [ByteArray.toList_eq, ByteArray.toList_eq, beq_eq_false_iff_ne]
          intro e
          exact hxy (by cases x; cases y; simpa using e)
        have hdec := hid (show decide (l1 = l2) = false from decide_eq_false fun e => hxy (by rw [hx.out, hy.out, e]))
        have hb' := hid hb.drew
        clear hxy hb h1 h2
        go_wp2
        go_region
        go_wp2
        go_ret
        exact ⟨by rw [hdec.out]; rfl, hb'.out⟩
    · obtain rfl : n = k := by omega
      have hdec := hid (show decide (l1 = l2) = true from decide_eq_true (List.ext_getElem (by rw [hl1.out, hl2.out]) fun i hi hi2 => by
        have := hsame.out i (by rw [← hl1.out]; exact hi)
        rwa [List.getD_eq_getElem?_getD, List.getD_eq_getElem?_getD, List.getElem?_eq_getElem hi, List.getElem?_eq_getElem hi2] at this))
      go_wp2
      go_ret
      exact ⟨by rw [hdec.out]; rfl, hb⟩
theorem strings_gen (a1 a2 : Option Addr) (c1 c2 : Nat) (l1 l2 : List (List UInt8)) (w : World) (hm : l1.length ≤ 9223372036854775807) (h1 : RowS w a1 l1) (h2 : RowS w a2 l2) :
    Calls Tryz.prog 15 #[.slice a1 l1.length c1, .slice a2 l2.length c2] w fun e w' => e = .returned (.bool (decide (l1 = l2))) ∧ Below w.heap.size w w' := by
  by_cases hl : l1.length = l2.length
  · by_cases h0 : l1.length = 0
    · have e1 : l1 = [] := List.eq_nil_of_length_eq_zero h0
      have e2 : l2 = [] := List.eq_nil_of_length_eq_zero (by omega)
      subst e1
      subst e2
      exact strings_none a1 a2 c1 c2 w
    · obtain ⟨b1, o1, rfl⟩ := h1.head (by omega)
      obtain ⟨b2, o2, rfl⟩ := h2.head (by omega)
      rw [← hl]
      exact strings_gsome b1 o1 b2 o2 l1.length c1 c2 l1 l2 w hm (hid rfl) (hid hl.symm) h1 h2
  · rw [decide_eq_false (fun e => hl (by rw [e]))]
    exact strings_other a1 a2 _ _ c1 c2 w hl
/-- Whether l begins with p. -/
def begB (l p : List (List UInt8)) : Bool := decide (p.length ≤ l.length) && decide (l.take p.length = p)
set_option maxHeartbeats 1000000 in
theorem begins_gen (P Q : List (List UInt8)) (b1 o1 c1 : Nat) (a2 : Option Addr) (c2 : Nat) (w : World) (hc : P.length ≤ c1) (_hm : (c1 : Int) ≤ 9223372036854775807) (_hPm : P.length ≤ 1000000) (hQm : Q.length ≤ 1000000) (h1 : RowS w (some ⟨b1, o1, none⟩) P) (h2 : RowS w a2 Q) :
    Calls Tryz.prog 38 #[.slice (some ⟨b1, o1, none⟩) P.length c1, .slice a2 Q.length c2] w fun e w' => e = .returned (.bool (begB P Q)) ∧ Below w.heap.size w w' := by
  by_cases hle : Q.length ≤ P.length
  · have hE := hid (equal_any (some ⟨b1, o1, none⟩) a2 c1 c2 (P.take Q.length) Q w (h1.take _) h2 (by rw [List.length_take]; omega) hQm)
    have hb := hid (show decide (P.take Q.length = Q) = begB P Q by unfold begB; rw [decide_eq_true hle, Bool.true_and])
    have hlt := hid (show (P.take Q.length).length = Q.length by rw [List.length_take]; omega)
    obtain ⟨n, en⟩ : ∃ n, n = P.length := ⟨_, rfl⟩
    obtain ⟨k, ek⟩ : ∃ k, k = Q.length := ⟨_, rfl⟩
    rw [← en, ← ek] at hle
    rw [← en] at hc
    have En := hid en
    have Ek := hid ek
    rw [← en, ← ek]
    clear en ek h1 h2 hQm
    have hki : (k : Int) ≤ n := by omega
    have hkc : (k : Int) ≤ c1 := by omega
    go_enter Tryz.func38, Tryz.ntmps38
    go_wp2_with fail
    have hE' := hE.out
    rw [hlt.out, ← Ek.out] at hE'
    refine hE'.mono ?_
    rintro e w1 ⟨rfl, o1⟩
    rw [Ek.out, hb.out]
    go_wp2
    go_ret
    exact ⟨rfl, o1⟩
  · have hb := hid (show begB P Q = false by unfold begB; rw [decide_eq_false hle, Bool.false_and])
    rw [hb.out]
    have hki : ¬ (Q.length : Int) ≤ P.length := by omega
    go_enter Tryz.func38, Tryz.ntmps38
    go_wp2
    go_ret
    exact ⟨rfl, Below.refl _ _⟩
set_option maxHeartbeats 1000000 in
theorem rbegins_gen (P Q : List (List UInt8)) (b1 o1 c1 : Nat) (a2 : Option Addr) (c2 : Nat) (w : World) (hc : P.length ≤ c1) (_hm : (c1 : Int) ≤ 9223372036854775807) (_hPm : P.length ≤ 1000000) (hQm : Q.length ≤ 1000000) (h1 : RowS w (some ⟨b1, o1, none⟩) P) (h2 : RowS w a2 Q) :
    Calls Tryz.prog 14 #[.slice a2 Q.length c2, .slice (some ⟨b1, o1, none⟩) P.length c1] w fun e w' => e = .returned (.bool (begB P Q)) ∧ Below w.heap.size w w' := by
  by_cases hle : Q.length ≤ P.length
  · have hE := hid (strings_gen a2 (some ⟨b1, o1, none⟩) c2 c1 Q (P.take Q.length) w (by omega) h2 (h1.take _))
    have hb := hid (show decide (Q = P.take Q.length) = begB P Q by
      unfold begB; rw [decide_eq_true hle, Bool.true_and]
      exact decide_eq_decide.2 ⟨fun h => h.symm, fun h => h.symm⟩)
    have hlt := hid (show (P.take Q.length).length = Q.length by rw [List.length_take]; omega)
    obtain ⟨n, en⟩ : ∃ n, n = P.length := ⟨_, rfl⟩
    obtain ⟨k, ek⟩ : ∃ k, k = Q.length := ⟨_, rfl⟩
    rw [← en, ← ek] at hle
    rw [← en] at hc
    have En := hid en
    have Ek := hid ek
    rw [← en, ← ek]
    clear en ek h1 h2 hQm
    have hki : (k : Int) ≤ n := by omega
    have hkc : (k : Int) ≤ c1 := by omega
    go_enter Tryz.func14, Tryz.ntmps14
    go_wp2_with fail
    have hE' := hE.out
    rw [hlt.out, ← Ek.out] at hE'
    refine hE'.mono ?_
    rintro e w1 ⟨rfl, o1⟩
    rw [Ek.out, hb.out]
    go_wp2
    go_ret
    exact ⟨rfl, o1⟩
  · have hb := hid (show begB P Q = false by unfold begB; rw [decide_eq_false hle, Bool.false_and])
    rw [hb.out]
    have hki : ¬ (Q.length : Int) ≤ P.length := by omega
    go_enter Tryz.func14, Tryz.ntmps14
    go_wp2
    go_ret
    exact ⟨rfl, Below.refl _ _⟩
end Go.Proofs.YtahbhhenobehfaaGreatDoor
namespace Go.Proofs.YtahbhhenobehfaaGreatDoor
open Go.ChangeShapes Go.WideShapes Go.ChangeAt Go.RowKit

/-- The number that digits reads, before it goes round. -/
def digZ (l : List UInt8) : Int := l.foldl (fun n c => 10 * n + (c.toNat : Int) - 48) 0
theorem digZ_snoc (l : List UInt8) (c : UInt8) : digZ (l ++ [c]) = 10 * digZ l + (c.toNat : Int) - 48 := by simp [digZ]
theorem digZ_val : ∀ (l : List UInt8) (a : Nat), allDig l → l.foldl (fun (n : Int) c => 10 * n + (c.toNat : Int) - 48) (a : Int) = ((valA a l : Nat) : Int)
  | [], _, _ => rfl
  | c :: r, a, h => by
    have hc := h c (by simp)
    rw [List.foldl_cons, show (10 * (a : Int) + (c.toNat : Int) - 48) = ((a * 10 + (c.toNat - 48) : Nat) : Int) by omega, digZ_val r _ (fun d hd => h d (List.mem_cons_of_mem _ hd))]
    rfl
theorem digZ_numT (n : Int) (h0 : 0 ≤ n) (h : n ≤ 18446744073709551615) : digZ (numT n) = n := by
  obtain ⟨h1, h2⟩ := numT_dig n h
  have := digZ_val (numT n) 0 h1
  unfold digZ
  rw [show (0 : Int) = ((0 : Nat) : Int) from rfl, this, h2]
  omega
theorem take_snoc {l : List UInt8} {p : Nat} (hp : p < l.length) : l.take (p + 1) = l.take p ++ [l[p]] := List.take_succ_eq_append_getElem hp
set_option maxRecDepth 20000 in
set_option maxHeartbeats 4000000 in
theorem digits_any (s : ByteArray) (w : World) (hs : s.size ≤ 1000000) :
    Calls Tryz.prog 51 #[.string s] w fun e w' => e = .returned (.int .u64 (digZ s.data.toList % 18446744073709551616)) ∧ w = w' := by
  have hlen : s.data.toList.length = s.size := Array.length_toList
  go_enter Tryz.func51, Tryz.ntmps51
  go_wp2
  go_loopw [3, 7] (fun u i wr => ∃ (p : Nat) (D : Int), i = .int .i64 p ∧ u = .int .u64 D ∧ p ≤ s.size ∧ Hid (D = digZ (s.data.toList.take p) % 18446744073709551616) ∧ wr = w) (fun _ i _ => s.size - (intOf i).toNat)
  case atStart => exact ⟨0, 0, rfl, rfl, Nat.zero_le _, hid (by rw [List.take_zero]; rfl), rfl⟩
  case round =>
    obtain ⟨p, D, rfl, rfl, hp, hD, rfl⟩ := hrel
    by_cases hps : p < s.size
    · have hpl : p < s.data.toList.length := by omega
      have hk0 : (0 : Int) ≤ p := by omega
      have hkn : (p : Int) < s.size := by omega
      obtain ⟨c, hc⟩ : ∃ c, s[p]'hps = c := ⟨_, rfl⟩
      have hcl : s.data.toList[p] = c := by rw [← hc, Array.getElem_toList]; rfl
      have hcw : IntKind.wrap .u64 ((c.toNat : Nat) : Int) = ((c.toNat : Nat) : Int) := by have := c.toNat_lt; rw [IntKind.wrap_u64]; omega
      obtain ⟨M1, e1⟩ : ∃ M, IntKind.wrap .u64 (10 * D) = M := ⟨_, rfl⟩
      obtain ⟨M2, e2⟩ : ∃ M, IntKind.wrap .u64 (M1 + ((c.toNat : Nat) : Int)) = M := ⟨_, rfl⟩
      obtain ⟨M3, e3⟩ : ∃ M, IntKind.wrap .u64 (M2 - 48) = M := ⟨_, rfl⟩
      have hM := hid (show M3 = digZ (s.data.toList.take (p + 1)) % 18446744073709551616 by
        have hD' := hD.out
        rw [take_snoc hpl, digZ_snoc, hcl, ← e3, ← e2, ← e1]
        simp only [IntKind.wrap_u64]
        omega)
      go_wp2
      go_roundw
      case rel => exact ⟨p + 1, M3, by go_num, rfl, by omega, hM, trivial⟩
      case measure => simp [intOf]; omega
    · obtain rfl : p = s.size := by omega
      have hD2 := hid (show D = digZ s.data.toList % 18446744073709551616 by have := hD.out; rwa [List.take_of_length_le (by omega)] at this)
      clear hD
      go_wp2
      go_ret
      exact ⟨by rw [hD2.out]; rfl, rfl⟩
theorem OwnL.putStr {base : Nat} {E : TypeId} {w : World} {g cap n : Nat} {ws : List (List UInt8)} (h : OwnL StrC base E w (.slice (some ⟨g, 0, none⟩) n cap) ws) (j : Nat) (y : List UInt8) :
    OwnL StrC base E (w.setCell ⟨g, j, none⟩ (.string (str y))) (.slice (some ⟨g, 0, none⟩) n cap) (ws.set j y) := by
  obtain ⟨xs, h1, h2⟩ := h
  have hn : n = ws.length := by
    rcases h1.2 with ⟨hv, _⟩ | ⟨g', cap', cur, hv, _⟩
    · cases hv
    · cases hv; rfl
  subst hn
  refine ⟨xs.set j (.string (str y)), ?_, fun i hi => ?_⟩
  · rw [List.length_set]; exact (h1.stored j _).1
  · rw [List.length_set] at hi
    obtain ⟨u, e, hr⟩ := h2 i hi
    by_cases hij : j = i
    · subst hij
      refine ⟨.string (str y), ?_, ?_⟩
      · rw [List.getElem?_set_self (by rcases List.getElem?_eq_some_iff.1 e with ⟨hlt, _⟩; exact hlt)]
      · rw [List.getElem_set_self]; exact Rests.str _ _ _
    · refine ⟨u, ?_, ?_⟩
      · rw [List.getElem?_set_ne hij]; exact e
      · rw [List.getElem_set_ne hij]; exact fun _ _ => hr.now
theorem OwnL.strAt {base : Nat} {E : TypeId} {w : World} {g cap n : Nat} {ws : List (List UInt8)} (h : OwnL StrC base E w (.slice (some ⟨g, 0, none⟩) n cap) ws) (k : Nat) (hk : k < ws.length) : w.cell? ⟨g, k, none⟩ = some (.string (str (ws.getD k []))) := by
  obtain ⟨xs, h1, h2⟩ := h
  obtain ⟨u, e, hr⟩ := h2 k hk
  have hc := h1.cells (g := g) rfl k u e
  rw [show (⟨g, 0, none⟩ : Addr).add k = ⟨g, k, none⟩ by unfold Addr.add; split <;> simp_all] at hc
  have hu : u = .string (str ws[k]) := hr.now
  rw [hc, hu, List.getD_eq_getElem?_getD, List.getElem?_eq_getElem hk]; rfl
theorem OwnL.frozenAt {α : Type} {C : World → Value → α → Prop} {base : Nat} {E : TypeId} {w : World} {g cap n : Nat} {ws : List α} (h : OwnL C base E w (.slice (some ⟨g, 0, none⟩) n cap) ws) (k : Nat) : w.frozen? ⟨g, k, none⟩ = false := by
  obtain ⟨xs, h1, _⟩ := h
  have hn : n = ws.length := by
    rcases h1.2 with ⟨hv, _⟩ | ⟨g', cap', cur, hv, _⟩
    · cases hv
    · cases hv; rfl
  subst hn
  exact h1.frozenAt k
def WordsOwn (s : ByteArray) (w : World) (e : Ending) (w' : World) : Prop := ∃ v, e = .returned v ∧ OwnL StrC w.heap.size 9 w' v (wordsL 32 s.data.toList) ∧ Below w.heap.size w w'
theorem set_last {α : Type} (xs : List α) (y z : α) : (xs ++ [y]).set xs.length z = xs ++ [z] := by
  rw [List.set_append_right (h := Nat.le_refl _), Nat.sub_self]; rfl
set_option maxRecDepth 20000 in
set_option maxHeartbeats 16000000 in
theorem rwords_any (s : ByteArray) (w : World) (hs : s.size ≤ 100000) :
    Calls Tryz.prog 49 #[.string s] w (WordsOwn s w) := by
  have hlen : s.data.toList.length = s.size := Array.length_toList
  obtain ⟨i0, hi, hz0, hz1, hz2⟩ := info_parts info_string
  have own0 : OwnL StrC w.heap.size 9 (w.alloc (.cells #[.string ⟨#[]⟩] 9)) (.slice (some ⟨w.heap.size, 0, none⟩) 1 1) [[]] :=
    OwnL.lit (Has.new w #[.string ⟨#[]⟩] 9) (Nat.le_refl _) rfl rfl (by decide) (fun i hi => by
      obtain rfl : i = 0 := by simp at hi; omega
      exact ⟨.string ⟨#[]⟩, rfl, Rests.str _ _ _⟩)
  have own0' := hid own0
  have b0 := hid (show Below w.heap.size w (w.alloc (.cells #[.string ⟨#[]⟩] 9)) from (Below.refl _ _).alloc (Nat.le_refl _) _)
  clear own0
  go_enter Tryz.func49, Tryz.ntmps49
  go_wp2
  go_loopw [3, 8] (fun u i wr => ∃ (p : Nat), i = .int .i64 p ∧ p ≤ s.size ∧ OwnL StrC w.heap.size 9 wr u (wordsL 32 (s.data.toList.take p)) ∧ Below w.heap.size w wr) (fun _ i _ => s.size - (intOf i).toNat)
  case atStart => exact ⟨0, rfl, Nat.zero_le _, by rw [List.take_zero]; exact own0'.out, b0.out⟩
  case round =>
    obtain ⟨p, rfl, hp, own, hB⟩ := hrel
    by_cases hps : p < s.size
    · have hpl : p < s.data.toList.length := by omega
      have hk0 : (0 : Int) ≤ p := by omega
      have hkn : (p : Int) < s.size := by omega
      obtain ⟨c, hc⟩ : ∃ c, s[p]'hps = c := ⟨_, rfl⟩
      have hcl : s.data.toList[p] = c := by rw [← hc, Array.getElem_toList]; rfl
      have hBs := hB.size
      have hB' := hid hB
      have hsm := (wordsL_small 32 (s.data.toList.take p)).1
      rw [List.length_take] at hsm
      have hnl : (wordsL 32 (s.data.toList.take p)).length ≤ 100001 := by omega
      by_cases h32 : c = 32
      · have h32' : (((c.toNat : Nat) : Int) == 32) = true := by rw [h32]; rfl
        have hws := hid (show wordsL 32 (s.data.toList.take p) ++ [[]] = wordsL 32 (s.data.toList.take (p + 1)) by rw [take_snoc hpl, hcl, h32, wordsL_snoc_sep])
        have ownA := own.alloc (.cells #[.string ⟨#[]⟩] 9)
        clear hB own h32
        go_wp2_with (at_builtin; go_must (refine wpList_append_run rfl (.tmp 15) (.tmp 16) 32 rfl u3 (.slice (some ⟨wr.heap.size, 0, none⟩) 1 1) (by rfl) (by rfl) (run_append1 _ w.heap.size 32 _ 9 i0 _ 16 Tryz.underlying32 hi hz0 hz1 hz2 rfl _ _ ownA wr.heap.size 1 (.string ⟨#[]⟩) [] ((Has.new wr #[.string ⟨#[]⟩] 9).cell (j := 0) rfl) rfl (fun w' _ => rfl) (by unfold maxLen; omega) (by omega) (by simp; omega)) ?_); rintro v5 w5 ⟨own5, b5, _, _⟩)
        have own5' := hid own5
        have hB5 := hid ((hB'.out.alloc hB'.out.size (.cells #[.string ⟨#[]⟩] 9)).trans (b5.mono (by omega)))
        clear own5 b5 ownA
        go_wp2
        go_roundw
        case rel => exact ⟨p + 1, by go_num, by omega, by have := own5'.out; rwa [hws.out] at this, hB5.out⟩
        case measure => simp [intOf]; omega
      · have h32' : (((c.toNat : Nat) : Int) == 32) = false := by
          rw [beq_eq_false_iff_ne]
          intro e
          exact h32 (UInt8.toNat_inj.1 (by rw [show (32 : UInt8).toNat = 32 from rfl]; omega))
        obtain ⟨xs, y, hw1, hw2⟩ := wordsL_snoc 32 h32 (s.data.toList.take p)
        have hws := hid (show xs ++ [y ++ [c]] = wordsL 32 (s.data.toList.take (p + 1)) by rw [take_snoc hpl, hcl, hw2])
        rw [hw1] at own hnl
        have hy : y.length ≤ 100000 := by
          have := (wordsL_small 32 (s.data.toList.take p)).2 y (by rw [hw1]; simp)
          rw [List.length_take] at this; omega
        obtain ⟨ad, cap, rfl, hH⟩ := own.slice
        obtain ⟨g, rfl⟩ : ∃ g, ad = some ⟨g, 0, none⟩ := by
          obtain ⟨zs, h1, _⟩ := own
          rcases h1.2 with ⟨_, h3⟩ | ⟨g, cap', cur, hv, _⟩
          · simp at h3
          · cases hv; exact ⟨g, rfl⟩
        obtain ⟨m, em⟩ : ∃ m, m = xs.length := ⟨_, rfl⟩
        have hm : (xs ++ [y]).length = m + 1 := by simp [em]
        rw [hm] at own hH hnl
        rw [hm]
        have hcap := hH.le
        have hgm := own.strAt m (by simp [em])
        rw [show (xs ++ [y]).getD m [] = y by rw [em]; simp] at hgm
        have hfz := own.frozenAt m
        have hg := (own.lt g rfl).1
        have own2 := hid (show OwnL StrC w.heap.size 9 (wr.setCell ⟨g, m, none⟩ (.string (str (y ++ [c])))) (.slice (some ⟨g, 0, none⟩) (m + 1 : Nat) cap) (xs ++ [y ++ [c]]) by
          have := own.putStr m (y ++ [c])
          rw [show (xs ++ [y]).set m (y ++ [c]) = xs ++ [y ++ [c]] by rw [em, set_last]] at this
          exact this)
        have hB2 := hid (hB'.out.setCell (p := ⟨g, m, none⟩) hg (.string (str (y ++ [c]))))
        have hn1 : ((m + 1 : Nat) : Int) - 1 = m := by omega
        have hm0 : (0 : Int) ≤ m := by omega
        have hmc : (m : Int) < ((m + 1 : Nat) : Int) := by omega
        have hq : s.extract p (p + 1) = str [c] := by
          rw [extract_one s p hps, hc]
        have hadd := add_str y [c] (by simp; omega)
        have k1 : (0 : Int) ≤ (p : Int) + 1 := by omega
        have q1 : (p : Int) + 1 ≤ s.size := by omega
        have v1 : IntKind.wrap .i64 ((p : Int) + 1) = (p : Int) + 1 := by rw [IntKind.wrap_i64]; omega
        have v2 : IntKind.wrap .i64 (m : Int) = m := by rw [IntKind.wrap_i64]; omega
        have t1 : ((p : Int) + 1).toNat = p + 1 := by omega
        have m1 : (m : Int) < (m : Int) + 1 := by omega
        have p1 : (p : Int) ≤ (p : Int) + 1 := by omega
        have t2 : (p : Int).toNat = p := by omega
        have hsl : ∀ wx, (Instr.slice 9 (.string s) (some (.int .i64 (p : Int))) (some (.int .i64 ((p : Int) + 1))) none).run Tryz.prog wx = .ok (.string (str [c])) wx := fun wx => by
          have := run_slice_string (P := Tryz.prog) wx 9 s .i64 .i64 (p : Int) ((p : Int) + 1) Tryz.underlying9 (by omega) (by omega) (by omega)
          rw [this, t1, t2, hq]
        clear hq
        clear hB own hH h32 hw1 hw2 em hm hg
        go_wp2
        go_region
        all_goals
          go_wp2
          go_roundw
          case rel => exact ⟨p + 1, by go_num, by omega, by have := own2.out.drew; rwa [hws.out] at this, hB2.out.drew⟩
          case measure => simp [intOf]; omega
    · obtain rfl : p = s.size := by omega
      rw [List.take_of_length_le (by omega)] at own
      have own' := hid own
      have hB' := hid hB
      clear own hB
      go_wp2
      exact bodyPost_ret (by simp [results, Tryz.results49, go_sem]) rfl ⟨_, rfl, own'.out, hB'.out⟩
/-- What goals has behind a byte more: the numbers that are closed, and the one that is open. -/
def goS (q : List Int × Int) (c : UInt8) : List Int × Int :=
  if c = 44 then (q.1 ++ [q.2], 0) else if q.2 < 1000 then (q.1, IntKind.wrap .i64 (IntKind.wrap .i64 (IntKind.wrap .i64 (10 * q.2) + (c.toNat : Int)) - 48)) else q
def goF (l : List UInt8) : List Int × Int := l.foldl goS ([], 0)
def goalsP (l : List UInt8) : List Int := if l = [45] then [] else (goF l).1 ++ [(goF l).2]
theorem goF_snoc (l : List UInt8) (c : UInt8) : goF (l ++ [c]) = goS (goF l) c := by simp [goF]
theorem goF_digits : ∀ (l : List UInt8) (o : List Int) (a : Nat), allDig l → valA a l ≤ 999 → l.foldl goS (o, (a : Int)) = (o, ((valA a l : Nat) : Int))
  | [], _, _, _, _ => rfl
  | c :: r, o, a, h, hv => by
    have hc := h c (by simp)
    have hge : a * 10 + (c.toNat - 48) ≤ 999 := Nat.le_trans (valA_ge r (a * 10 + (c.toNat - 48))) hv
    have e : goS (o, (a : Int)) c = (o, ((a * 10 + (c.toNat - 48) : Nat) : Int)) := by
      unfold goS
      rw [if_neg (fun e => by rw [e] at hc; exact absurd hc.1 (by decide)), if_pos (show (a : Int) < 1000 by omega)]
      simp only [IntKind.wrap_i64]
      refine congrArg (Prod.mk o) ?_
      omega
    rw [List.foldl_cons, e, goF_digits r o _ (fun d hd => h d (List.mem_cons_of_mem _ hd)) hv]
    rfl
theorem goF_num (n : Int) (h0 : 0 ≤ n) (h : n ≤ 100) (o : List Int) : (numT n).foldl goS (o, 0) = (o, n) := by
  obtain ⟨h1, h2⟩ := numT_dig n (by omega)
  have := goF_digits (numT n) o 0 h1 (by rw [h2]; omega)
  rw [show (0 : Int) = ((0 : Nat) : Int) from rfl, this, h2]
  refine congrArg (Prod.mk o) ?_
  omega
theorem goF_list : ∀ (g o : List Int) (n : Int), (∀ m ∈ n :: g, 0 ≤ m ∧ m ≤ 100) → (Lib.join ((n :: g).map numT) [44]).foldl goS (o, 0) = (o ++ (n :: g).dropLast, (n :: g).getLastD 0)
  | [], o, n, h => by
    have hn := h n (by simp)
    rw [show Lib.join ([n].map numT) [44] = numT n by simp [Lib.join, List.intercalate], goF_num n hn.1 hn.2]
    simp
  | m :: g, o, n, h => by
    have hn := h n (by simp)
    rw [show Lib.join ((n :: m :: g).map numT) [44] = numT n ++ ([44] ++ Lib.join ((m :: g).map numT) [44]) by simp [Lib.join, List.intercalate], List.foldl_append, List.foldl_append, goF_num n hn.1 hn.2,
      show [(44 : UInt8)].foldl goS (o, n) = (o ++ [n], 0) by simp [goS], goF_list g (o ++ [n]) m (fun x hx => h x (List.mem_cons_of_mem _ hx))]
    simp
theorem goals_list (g : List Int) (h : ∀ m ∈ g, 0 ≤ m ∧ m ≤ 100) : goalsP (listL g [44]) = g := by
  cases g with
  | nil => rfl
  | cons n r =>
    have hne : listL (n :: r) [44] ≠ [45] := fun e => by
      have := listL_dash (sep := [44]) (l := n :: r) (fun x hx => ⟨(h x hx).1, by have := (h x hx).2; omega⟩) e
      cases this
    unfold goalsP
    rw [if_neg hne]
    have e : listL (n :: r) [44] = Lib.join ((n :: r).map numT) [44] := by unfold listL; rfl
    unfold goF
    rw [e, goF_list r [] n h]
    rw [List.nil_append]
    show (n :: r).dropLast ++ [(n :: r).getLastD 0] = n :: r
    rw [List.getLastD_cons, ← List.getLast_eq_getLastD (h := by simp)]
    exact List.dropLast_concat_getLast (by simp)
set_option maxRecDepth 20000 in
set_option maxHeartbeats 16000000 in
theorem goals_any (s : ByteArray) (w : World) (hs : s.size ≤ 100000) :
    Calls Tryz.prog 53 #[.string s] w fun e w' => ∃ v, e = .returned v ∧ OwnL IntC w.heap.size 3 w' v (goalsP s.data.toList) ∧ Below w.heap.size w w' := by
  have hlen : s.data.toList.length = s.size := Array.length_toList
  obtain ⟨i0, hi, hz0, hz1, hz2⟩ := info_parts info_int
  by_cases h1 : s.data.toList = [45]
  · have hb : (s.toList == [45]) = true := by rw [ByteArray.toList_eq, h1]; rfl
    have hg := hid (show goalsP s.data.toList = [] by rw [h1]; rfl)
    clear h1
    go_enter Tryz.func53, Tryz.ntmps53
    go_wp2
    go_ret
    exact ⟨_, rfl, by rw [hg.out]; exact OwnL.nil _ _ _ _, Below.refl _ _⟩
  have hb : (s.toList == [45]) = false := by rw [ByteArray.toList_eq, beq_eq_false_iff_ne]; exact h1
  have hg := hid (show (goF s.data.toList).1 ++ [(goF s.data.toList).2] = goalsP s.data.toList by unfold goalsP; rw [if_neg h1])
  clear h1
  go_enter Tryz.func53, Tryz.ntmps53
  go_wp2
  go_loopw [3, 4, 11] (fun u m i wr => ∃ (p : Nat) (o : List Int) (n : Int), i = .int .i64 p ∧ m = .int .i64 n ∧ p ≤ s.size ∧ OwnL IntC w.heap.size 3 wr u o ∧ o.length ≤ p ∧ Hid (goF (s.data.toList.take p) = (o, n)) ∧ Below w.heap.size w wr) (fun _ _ i _ => s.size - (intOf i).toNat)
  case atStart => exact ⟨0, [], 0, rfl, rfl, Nat.zero_le _, OwnL.nil _ _ _ _, Nat.le_refl _, hid (by rw [List.take_zero]; rfl), Below.refl _ _⟩
  case round =>
    obtain ⟨p, o, n, rfl, rfl, hp, own, ho, hF, hB⟩ := hrel
    have hBs := hB.size
    have hB' := hid hB
    clear hB
    by_cases hps : p < s.size
    · have hpl : p < s.data.toList.length := by omega
      have hk0 : (0 : Int) ≤ p := by omega
      have hkn : (p : Int) < s.size := by omega
      obtain ⟨c, hc⟩ : ∃ c, s[p]'hps = c := ⟨_, rfl⟩
      have hcl : s.data.toList[p] = c := by rw [← hc, Array.getElem_toList]; rfl
      have hF1 := hid (show goF (s.data.toList.take (p + 1)) = goS (o, n) c by rw [take_snoc hpl, goF_snoc, hF.out, hcl])
      by_cases h44 : c = 44
      · have h44' : (((c.toNat : Nat) : Int) == 44) = true := by rw [h44]; rfl
        have hF2 := hid (show goF (s.data.toList.take (p + 1)) = (o ++ [n], 0) by rw [hF1.out]; unfold goS; rw [if_pos h44])
        have ownA := own.alloc (.cells #[.int .i64 n] 3)
        clear own h44 hF1
        go_wp2_with (at_builtin; go_must (refine wpList_append_run rfl (.tmp 18) (.tmp 20) 24 rfl u3 (.slice (some ⟨wr.heap.size, 0, none⟩) 1 1) (by rfl) (by rfl) (run_append1 _ w.heap.size 24 _ 3 i0 _ 8 Tryz.underlying24 hi hz0 hz1 hz2 rfl _ _ ownA wr.heap.size 1 (.int .i64 n) n ((Has.new wr #[.int .i64 n] 3).cell (j := 0) rfl) rfl (fun w' _ => rfl) (by unfold maxLen; omega) (by omega) (by simp; omega)) ?_); rintro v5 w5 ⟨own5, b5, _, _⟩)
        have own5' := hid own5
        have hB5 := hid ((hB'.out.alloc hB'.out.size (.cells #[.int .i64 n] 3)).trans (b5.mono (by omega)))
        clear own5 b5 ownA
        go_wp2
        go_roundw
        case rel => exact ⟨p + 1, o ++ [n], 0, by go_num, rfl, by omega, own5'.out, by simp; omega, hF2, hB5.out⟩
        case measure => simp [intOf]; omega
      · have h44' : (((c.toNat : Nat) : Int) == 44) = false := by
          rw [beq_eq_false_iff_ne]
          intro e
          exact h44 (UInt8.toNat_inj.1 (by rw [show (44 : UInt8).toNat = 44 from rfl]; omega))
        have own' := hid own
        by_cases hn : n < 1000
        · obtain ⟨M1, e1⟩ : ∃ M, IntKind.wrap .i64 (10 * n) = M := ⟨_, rfl⟩
          obtain ⟨M2, e2⟩ : ∃ M, IntKind.wrap .i64 (M1 + ((c.toNat : Nat) : Int)) = M := ⟨_, rfl⟩
          obtain ⟨M3, e3⟩ : ∃ M, IntKind.wrap .i64 (M2 - 48) = M := ⟨_, rfl⟩
          have hcw : IntKind.wrap .i64 ((c.toNat : Nat) : Int) = ((c.toNat : Nat) : Int) := by have := c.toNat_lt; rw [IntKind.wrap_i64]; omega
          have hF2 := hid (show goF (s.data.toList.take (p + 1)) = (o, M3) by rw [hF1.out]; unfold goS; rw [if_neg h44, if_pos hn, ← e3, ← e2, ← e1])
          clear h44 own hF1
          go_wp2
          go_roundw
          case rel => exact ⟨p + 1, o, M3, by go_num, rfl, by omega, own'.out, by omega, hF2, hB'.out⟩
          case measure => simp [intOf]; omega
        · have hF2 := hid (show goF (s.data.toList.take (p + 1)) = (o, n) by rw [hF1.out]; unfold goS; rw [if_neg h44, if_neg hn])
          clear h44 own hF1
          go_wp2
          go_roundw
          case rel => exact ⟨p + 1, o, n, by go_num, rfl, by omega, own'.out, by omega, hF2, hB'.out⟩
          case measure => simp [intOf]; omega
    · obtain rfl : p = s.size := by omega
      have hF2 := hid (show o ++ [n] = goalsP s.data.toList by
        have h := hF.out
        rw [List.take_of_length_le (by omega)] at h
        rw [← hg.out, h])
      have ownA := own.alloc (.cells #[.int .i64 n] 3)
      clear own hF hg
      go_wp2_with (at_builtin; go_must (refine wpList_append_run rfl (.tmp 33) (.tmp 35) 24 rfl u3 (.slice (some ⟨wr.heap.size, 0, none⟩) 1 1) (by rfl) (by rfl) (run_append1 _ w.heap.size 24 _ 3 i0 _ 8 Tryz.underlying24 hi hz0 hz1 hz2 rfl _ _ ownA wr.heap.size 1 (.int .i64 n) n ((Has.new wr #[.int .i64 n] 3).cell (j := 0) rfl) rfl (fun w' _ => rfl) (by unfold maxLen; omega) (by omega) (by simp; omega)) ?_); rintro v5 w5 ⟨own5, b5, _, _⟩)
      have own5' := hid own5
      have hB5 := hid ((hB'.out.alloc hB'.out.size (.cells #[.int .i64 n] 3)).trans (b5.mono (by omega)))
      clear own5 b5 ownA
      go_wp2
      exact bodyPost_ret (by simp [results, Tryz.results53, go_sem]; rfl) rfl ⟨_, rfl, by have := own5'.out; rwa [hF2.out] at this, hB5.out⟩
end Go.Proofs.YtahbhhenobehfaaGreatDoor
