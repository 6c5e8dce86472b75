/-
  The walk of the parser's terms, and what a list of terms' tokens leave.
  The walks of read: a deferred closure that recovers what the parser raises.
-/
import Derived.Test.YtahbhhenobehfaaGreatDoorNU9
import Derived.Recover
import Derived.Defers
import Derived.Laws.Pointers
namespace Go.Proofs.YtahbhhenobehfaaGreatDoor
open Go.ChangeShapes Go.WideShapes Go.ChangeAt Go.RowKit

/-- A list of ground terms, its tokens, the end. -/
structure CanL (l : List Tm) (s : List KT) : Prop where
  ground : ∀ a ∈ l, groundB 4 a = true
  toks : s = toksA l ++ [(0, [])]
/-- Behind some terms of a list. -/
def ListInv (s0 : List KT) (ts : List Tm) (s : List KT) : Prop :=
  ∀ l, CanL l s0 → ts = l.take ts.length ∧ ts.length ≤ l.length ∧ s = (if ts.length < l.length then (4, [44]) :: toksA (l.drop ts.length) else []) ++ [(0, [])]
theorem CanL.zero {l : List Tm} {c : KT} {q : List KT} (h : CanL l (c :: q)) (hc : c.1 = 0) : l = [] ∧ q = [] := by
  obtain ⟨h1, h2⟩ := h
  match l, h1, h2 with
  | [], _, h2 =>
    simp only [toksA, List.nil_append, List.cons.injEq] at h2
    exact ⟨rfl, h2.2⟩
  | t :: r, h1, h2 =>
    exfalso
    have hg := h1 t (by simp)
    have hC : Can 4 t (toksT t ++ []) [] := ⟨hg, rfl, fun c q e => by cases e⟩
    rw [show toksA (t :: r) = toksT t ++ (if r.isEmpty then [] else (4, [44]) :: toksA r) by rw [toksA]] at h2
    match hT : toksT t with
    | [] =>
      rw [hT] at hC
      have := hC.toks
      rw [hT] at this
      have h3 := hC.ground
      match t, hT with
      | .mk s l, hT =>
        by_cases h0 : 0 < l.length
        · rw [toksT_node s l h0] at hT; cases hT
        · obtain rfl : l = [] := List.eq_nil_of_length_eq_zero (by omega)
          rw [toksT_leaf] at hT; cases hT
    | b :: p =>
      rw [hT] at hC h2
      rw [List.cons_append] at hC
      simp only [List.cons_append, List.append_assoc, List.cons.injEq] at h2
      rcases hC.cases with ⟨s, _, e1, _⟩ | ⟨s, l, _, _, _, e1, _⟩
      · rw [← h2.1, hc] at e1
        rcases e1 with e1 | e1 <;> cases e1
      · rw [← h2.1, hc] at e1; cases e1
/-- A term of the list stands ahead. -/
theorem can_at {l : List Tm} (hg : ∀ a ∈ l, groundB 4 a = true) {i : Nat} (hi : i < l.length) {s : List KT} (hs : s = toksA (l.drop i) ++ [(0, [])]) :
    Can 4 l[i] s ((if i + 1 < l.length then (4, [44]) :: toksA (l.drop (i + 1)) else []) ++ [(0, [])]) := by
  refine ⟨hg _ (List.getElem_mem _), by rw [hs, toksA_drop hi, List.append_assoc], fun c q e => ?_⟩
  split at e
  · cases e; rfl
  · cases e; rfl
/-- The first term. -/
theorem ListInv.first {s0 s : List KT} {t : Tm} (ht : ∀ a p, Can 4 a s0 p → t = a ∧ s = p) {c : KT} {q : List KT} (h0 : s0 = c :: q) (hc : c.1 ≠ 0) : ListInv s0 [t] s := fun l hl => by
  have hl0 : 0 < l.length := by
    match l, hl with
    | [], hl =>
      have := hl.toks
      rw [h0] at this
      simp only [toksA, List.nil_append, List.cons.injEq] at this
      exact absurd (by rw [this.1]) hc
    | _ :: _, _ => simp
  obtain ⟨e1, e2⟩ := ht _ _ (can_at hl.ground hl0 (by rw [List.drop_zero]; exact hl.toks))
  refine ⟨?_, by simp; omega, by simpa using e2⟩
  rw [e1]
  match l, hl0 with
  | a :: r, _ => simp
theorem ListInv.none_first {s0 : List KT} (hno : ∀ a p, ¬ Can 4 a s0 p) {c : KT} {q : List KT} (h0 : s0 = c :: q) (hc : c.1 ≠ 0) {l : List Tm} (hl : CanL l s0) : False := by
  have hl0 : 0 < l.length := by
    match l, hl with
    | [], hl =>
      have := hl.toks
      rw [h0] at this
      simp only [toksA, List.nil_append, List.cons.injEq] at this
      exact absurd (by rw [this.1]) hc
    | _ :: _, _ => simp
  exact hno _ _ (can_at hl.ground hl0 (by rw [List.drop_zero]; exact hl.toks))
/-- A comma stands ahead. -/
theorem ListInv.comma {s0 q : List KT} {ts : List Tm} {c : KT} (h : ListInv s0 ts (c :: q)) (hc : isK c [44] = true) {l : List Tm} (hl : CanL l s0) : ∃ hi : ts.length < l.length, Can 4 l[ts.length] q ((if ts.length + 1 < l.length then (4, [44]) :: toksA (l.drop (ts.length + 1)) else []) ++ [(0, [])]) := by
  obtain ⟨h1, h2, h3⟩ := h l hl
  by_cases hi : ts.length < l.length
  · rw [if_pos hi] at h3
    simp only [List.cons_append, List.cons.injEq] at h3
    exact ⟨hi, can_at hl.ground hi h3.2⟩
  · rw [if_neg hi] at h3
    simp only [List.nil_append, List.cons.injEq] at h3
    rw [h3.1] at hc; cases hc
theorem ListInv.next {s0 q s : List KT} {ts : List Tm} {t : Tm} {c : KT} (h : ListInv s0 ts (c :: q)) (hc : isK c [44] = true) (ht : ∀ a p, Can 4 a q p → t = a ∧ s = p) : ListInv s0 (ts ++ [t]) s := fun l hl => by
  obtain ⟨hi, hC⟩ := h.comma hc hl
  obtain ⟨rfl, e2⟩ := ht _ _ hC
  exact ⟨(take_snoc_len hi (h l hl).1).trans (by simp), by simp; omega, by simpa using e2⟩
theorem ListInv.done {s0 q : List KT} {ts : List Tm} {c : KT} (h : ListInv s0 ts (c :: q)) (hc : isK c [44] = false) {l : List Tm} (hl : CanL l s0) : ts = l ∧ c = (0, []) ∧ q = [] := by
  obtain ⟨h1, h2, h3⟩ := h l hl
  by_cases hi : ts.length < l.length
  · rw [if_pos hi] at h3
    simp only [List.cons_append, List.cons.injEq] at h3
    rw [h3.1] at hc; cases hc
  · rw [if_neg hi] at h3
    simp only [List.nil_append, List.cons.injEq] at h3
    refine ⟨?_, h3.1, h3.2⟩
    rw [h1, List.take_of_length_le (by omega)]
/-- How a call that reads a list of terms ends. -/
def TermsSaid (x : Nat) (ad : Option Addr) (cap : Nat) (T : List Tok) (w : World) (e : Ending) (w' : World) : Prop :=
  ((∃ v ts k', e = .returned v ∧ OwnM 2 TmC w.heap.size 76 w' v ts ∧ RdAt w' x ad cap T k' ∧ ∀ l, CanL l (sfx T 0) → ts = l ∧ sfx T k' = [(0, [])]) ∨ (Viol e ∧ ∀ l, ¬ CanL l (sfx T 0))) ∧ Only [x] w w'
set_option maxRecDepth 20000 in
set_option maxHeartbeats 8000000 in
theorem terms_walk (x : Nat) (ad : Option Addr) (cap : Nat) (T : List Tok) (w : World) (h : RdAt w x ad cap T 0) :
    Calls Tryz.prog 111 #[.pointer (some ⟨x, 0, none⟩)] w (TermsSaid x ad cap T w) := by
  have hsz := h.has.lt
  have hlt := h.lt
  have hsh := h.short
  have hgb := hid h.block
  obtain ⟨t, ht⟩ : ∃ t, T[0]? = some t := ⟨_, List.getElem?_eq_getElem h.lt⟩
  have hs0 := hid (sfx_cons ht)
  obtain ⟨K, S, P⟩ := t
  have fd0 := tok_field0 K P S
  go_enter Tryz.func111, Tryz.ntmps111
  go_wp2_with fail
  refine (token_any x ad cap T 0 _ _ h ht).mono ?_
  rintro e w1 ⟨rfl, o1⟩
  have h1 := h.below o1 (Nat.le_refl _)
  clear h
  by_cases hK : K = 0
  · subst hK
    have hcan := hid (show ∀ l, CanL l (sfx T 0) → ([] : List Tm) = l ∧ sfx T 0 = [(0, [])] from fun l hl => by
      have hl2 := hl
      rw [hs0.out] at hl2
      obtain ⟨rfl, _⟩ := hl2.zero rfl
      exact ⟨rfl, by have := hl.toks; simpa [toksA] using this⟩)
    go_wp2
    go_ret
    exact ⟨Or.inl ⟨.slice none 0 0, [], 0, rfl, OwnM.nil _ _ _ _ _, h1, hcan.out⟩, Only.ofBelow o1 (Nat.le_refl _)⟩
  · have hKb : (K == 0) = false := by rw [beq_eq_false_iff_ne]; exact hK
    have HK := hid hK
    clear hK
    have o1s := o1.size
    have oW1 := Only.ofBelow (l := [x]) o1 (Nat.le_refl _)
    go_wp2_with fail
    refine (term_any 4 (Nat.le_refl _) x ad cap T 0 1 _ (by omega) h1).mono ?_
    rintro e w2 ⟨⟨n, v, u, k2, rfl, hR2, h2, hk2, hc2⟩ | ⟨⟨p, er, rfl⟩, hno⟩, o2⟩
    · have o2s := o2.size
      have hu := term_one hR2.now
      have hinv := hid (ListInv.first (s := sfx T k2) hc2 hs0.out HK.out)
      have oW2 := oW1.trans o2 (by simp)
      have hbs2 : w.heap.size ≤ w2.heap.size := oW2.size
      have hR3 := (hR2.weak (S' := fun j => w.heap.size ≤ j ∧ (Value.slice none 0 0).ownBlock ≠ some j) (fun j _ hj => ⟨by have hj' : w1.heap.size ≤ j := hj; omega, by intro e; cases e⟩)).below ((Below.refl w2.heap.size w2).alloc (Nat.le_refl _) (.cells #[.string n, v] 76)) (Nat.le_refl _)
      have h3 := h2.below ((Below.refl w2.heap.size w2).alloc (Nat.le_refl _) (.cells #[.string n, v] 76)) (Nat.le_refl _)
      have oW3 := oW2.alloc (.cells #[.string n, v] 76)
      clear hc2 o2 o1 oW1 h1 hR2
      go_wp2_with (at_builtin; go_must (refine wpList_append_run rfl (.tmp 9) (.tmp 12) 43 rfl (.slice none 0 0) (.slice (some ⟨w2.heap.size, 0, none⟩) 1 1) (by rfl) (by rfl) (term_append (base := w.heap.size) (T := []) (own := OwnM.nil _ _ _ _ _) (Hg := Has.new w2 #[.string n, v] 76) hu hR3 (by simp) (by simp; omega)) ?_); rintro v4 w4 ⟨own4, b4, _, _⟩)
      have h4 := h3.low b4 hsz hgb.out
      have oW4 := oW3.below b4 (Nat.le_refl _)
      rw [List.nil_append] at own4
      have hrel0 : ∃ (ts : List Tm) (k : Nat), Hid (OwnM 2 TmC w.heap.size 76 w4 v4 ts) ∧ RdAt w4 x ad cap T k ∧ Hid (ListInv (sfx T 0) ts (sfx T k)) ∧ ts.length ≤ k ∧ Only [x] w w4 := ⟨[u], k2, hid own4, h4, hinv, by simp; omega, oW4⟩
      have Hrel0 := hid hrel0
      clear hrel0 own4 h4 oW4 b4 oW3 h3 hR3 hu h2 oW2 hbs2 o2s
      go_wp2
      go_loopw [3] (fun v wr => ∃ (ts : List Tm) (k : Nat), Hid (OwnM 2 TmC w.heap.size 76 wr v ts) ∧ RdAt wr x ad cap T k ∧ Hid (ListInv (sfx T 0) ts (sfx T k)) ∧ ts.length ≤ k ∧ Only [x] w wr) (fun _ wr => T.length - (intOf ((wr.cell? ⟨x, 1, none⟩).getD undef)).toNat)
      case atStart => exact Hrel0.out
      case round =>
        clear Hrel0
        obtain ⟨ts, k, own, h5, hinv, hts, oW⟩ := hrel
        have xr : wr.cell? ⟨x, 1, none⟩ = some (.int .i64 k) := h5.has.cell (j := 1) rfl
        obtain ⟨t5, ht5⟩ : ∃ t5, T[k]? = some t5 := ⟨_, List.getElem?_eq_getElem h5.lt⟩
        have hs5 := hid (sfx_cons ht5)
        have h5lt := h5.lt
        go_wp2_with fail
        refine (accept_any ⟨#[44]⟩ x ad cap T k t5 _ h5 ht5).mono ?_
        rintro e w6 ⟨rfl, h6, o6⟩
        rw [show (⟨#[44]⟩ : ByteArray).data.toList = [44] from rfl] at h6 ⊢
        have hB := hid (isB_kt t5 [44])
        obtain ⟨B, eB⟩ : ∃ B, isB t5 [44] = B := ⟨_, rfl⟩
        rw [eB] at h6 hB ⊢
        clear eB
        have own6 := hid (own.out.only o6 (by simp; omega))
        have oW6 := oW.trans o6 (by simp)
        have hbs6 : w.heap.size ≤ w6.heap.size := oW6.size
        clear own oW o6
        cases B
        · have hfin := hid (show ∀ l, CanL l (sfx T 0) → ts = l ∧ sfx T k = [(0, [])] from fun l hl => by
            have h := hinv.out
            rw [hs5.out] at h
            obtain ⟨e1, e2, e3⟩ := h.done hB.out.symm hl
            exact ⟨e1, by rw [hs5.out, e2, e3]⟩)
          go_wp2
          go_ret
          exact ⟨Or.inl ⟨_, ts, k, rfl, own6.out, h6, hfin.out⟩, oW6⟩
        · rw [if_pos rfl] at h6
          have hinvc := hid (show ListInv (sfx T 0) ts (kt t5 :: sfx T (k + 1)) by rw [← hs5.out]; exact hinv.out)
          go_wp2_with fail
          refine (term_any 4 (Nat.le_refl _) x ad cap T (k + 1) 1 _ (by omega) h6).mono ?_
          rintro e w7 ⟨⟨n7, v7, u7, k7, rfl, hR7, h7, hk7, hc7⟩ | ⟨⟨p, er, rfl⟩, hno⟩, o7⟩
          · have hu7 := term_one hR7.now
            have hinv7 := hid (hinvc.out.next hB.out.symm hc7)
            have own7 := (own6.out.only o7 (by simp; omega)).alloc (.cells #[.string n7, v7] 76)
            have oW7 := oW6.trans o7 (by simp)
            have hbs7 : w.heap.size ≤ w7.heap.size := oW7.size
            have o7s := o7.size
            have hR8 := (hR7.weak (S' := fun j => w.heap.size ≤ j ∧ u3.ownBlock ≠ some j) (fun j _ hj => ⟨by have hj' : w6.heap.size ≤ j := hj; omega, fun e => by have := (own6.out.lt _ e).2; have hj' : w6.heap.size ≤ j := hj; omega⟩)).below ((Below.refl w7.heap.size w7).alloc (Nat.le_refl _) (.cells #[.string n7, v7] 76)) (Nat.le_refl _)
            have h8 := h7.below ((Below.refl w7.heap.size w7).alloc (Nat.le_refl _) (.cells #[.string n7, v7] 76)) (Nat.le_refl _)
            have oW8 := oW7.alloc (.cells #[.string n7, v7] 76)
            have h7lt := h7.lt
            clear hc7 hR7 h7 o7 own6 oW6 hinv
            go_wp2_with (at_builtin; go_must (refine wpList_append_run rfl (.tmp 16) (.tmp 19) 43 rfl u3 (.slice (some ⟨w7.heap.size, 0, none⟩) 1 1) (by rfl) (by rfl) (term_append (own := own7) (Hg := Has.new w7 #[.string n7, v7] 76) hu7 hR8 (by omega) (by simp; omega)) ?_); rintro v9 w9 ⟨own9, b9, _, _⟩)
            have h9 := h8.low b9 hsz hgb.out
            have oW9 := oW8.below b9 (Nat.le_refl _)
            have x9 : w9.cell? ⟨x, 1, none⟩ = some (.int .i64 k7) := h9.has.cell (j := 1) rfl
            have Own9 := hid own9
            clear own9 own7 hR8 h8 oW8 oW7 b9 hu7
            go_wp2
            go_roundw
            case rel => exact ⟨ts ++ [u7], k7, Own9, h9, hinv7, by simp; omega, oW9⟩
            case measure => rw [xr, x9]; simp [intOf]; omega
          · have hno2 := hid (show ∀ l, ¬ CanL l (sfx T 0) from fun l hl => by
              obtain ⟨hi, hC⟩ := hinvc.out.comma hB.out.symm hl
              exact hno _ _ hC)
            go_wp2
            exact ⟨rfl, Or.inr ⟨⟨_, _, rfl⟩, hno2.out⟩, oW6.trans o7 (by simp)⟩
    · have hno2 := hid (show ∀ l, ¬ CanL l (sfx T 0) from fun l hl => ListInv.none_first hno hs0.out HK.out hl)
      go_wp2
      exact ⟨rfl, Or.inr ⟨⟨_, _, rfl⟩, hno2.out⟩, oW1.trans o2 (by simp)⟩
end Go.Proofs.YtahbhhenobehfaaGreatDoor
namespace Go.Proofs.YtahbhhenobehfaaGreatDoor
open Go.ChangeShapes Go.WideShapes Go.ChangeAt Go.RowKit

theorem assert_nil (W : World) : (Instr.typeAssert .nilIface 20 166 true).run Tryz.prog W = .ok (.tuple #[.agg #[.int .i64 0, .int .i64 0], .bool false]) W := by kernel_rfl
theorem assert_viol (v : Value) (W : World) : (Instr.typeAssert (.iface 166 v) 20 166 true).run Tryz.prog W = .ok (.tuple #[v, .bool true]) W := by kernel_rfl
theorem tmps17 (p q r : Value) : (#[p, q, r] : Array Value) ++ Array.replicate 14 undef = #[p, q, r, undef, undef, undef, undef, undef, undef, undef, undef, undef, undef, undef, undef, undef, undef] := rfl
set_option maxRecDepth 100000 in
set_option maxHeartbeats 4000000 in
theorem catch_idle (o a e : Nat) (w : World) :
    CallsD Tryz.prog 143 #[.pointer (some ⟨o, 0, none⟩), .pointer (some ⟨a, 0, none⟩), .pointer (some ⟨e, 0, none⟩)] .returning w fun ee u' w' => ee = .returned (.tuple #[]) ∧ u' = .returning ∧ Below w.heap.size w w' := by
  have hA := assert_nil
  refine callsD_of_wpS Tryz.func143 rfl fun c₀ cs hu => ?_
  rw [show Tryz.f143.ntmps = 17 from Tryz.ntmps143]
  have ht := tmps17 (.pointer (some ⟨o, 0, none⟩)) (.pointer (some ⟨a, 0, none⟩)) (.pointer (some ⟨e, 0, none⟩))
  apply wpS_seq
  apply wpS_region
  simp [wpOpsS, go_sem, recoverD, hu, Exit.thenS, hA, ht]
  refine wpS_of_wp ?_
  go_wp2
  exact ⟨rfl, .returning, by cases c₀; simp_all, _, results_none rfl _ _ _, rfl, rfl, (Below.refl _ _).alloc (Nat.le_refl _) _⟩
set_option maxRecDepth 100000 in
set_option maxHeartbeats 4000000 in
theorem catch_viol (o a e : Nat) (p er : Int) (vo va ve : Value) (older : List PanicEntry) (w : World) (HO : Has w o #[vo] 43) (HA : Has w a #[va] 3) (HE : Has w e #[ve] 34) (h1 : o ≠ a) (h2 : o ≠ e) (h3 : a ≠ e) :
    CallsD Tryz.prog 143 #[.pointer (some ⟨o, 0, none⟩), .pointer (some ⟨a, 0, none⟩), .pointer (some ⟨e, 0, none⟩)] (.panicking ({ v := .iface 166 (.agg #[.int .i64 p, .int .i64 er]), recovered := false } :: older)) w fun ee u' w' =>
      ee = .returned (.tuple #[]) ∧ u' = .panicking ({ v := .iface 166 (.agg #[.int .i64 p, .int .i64 er]), recovered := true } :: older) ∧ Has w' o #[.slice none 0 0] 43 ∧ Has w' a #[.int .i64 p] 3 ∧ Has w' e #[.int .i64 er] 34 ∧ Only [o, a, e] w w' := by
  have hA := assert_viol
  have HN := Has.new w #[.int .i64 p, .int .i64 er] 166
  have n0 : (w.alloc (.cells #[.int .i64 p, .int .i64 er] 166)).cell? ⟨w.heap.size, 0, none⟩ = some (.int .i64 p) := HN.cell (j := 0) rfl
  have n1 : (w.alloc (.cells #[.int .i64 p, .int .i64 er] 166)).cell? ⟨w.heap.size, 1, none⟩ = some (.int .i64 er) := HN.cell (j := 1) rfl
  have HO1 := HO.alloc (.cells #[.int .i64 p, .int .i64 er] 166)
  have HA1 := HA.alloc (.cells #[.int .i64 p, .int .i64 er] 166)
  have HE1 := HE.alloc (.cells #[.int .i64 p, .int .i64 er] 166)
  have o0 : (w.alloc (.cells #[.int .i64 p, .int .i64 er] 166)).cell? ⟨o, 0, none⟩ = some vo := HO1.cell (j := 0) rfl
  have a0 : (w.alloc (.cells #[.int .i64 p, .int .i64 er] 166)).cell? ⟨a, 0, none⟩ = some va := HA1.cell (j := 0) rfl
  have e0 : (w.alloc (.cells #[.int .i64 p, .int .i64 er] 166)).cell? ⟨e, 0, none⟩ = some ve := HE1.cell (j := 0) rfl
  have zo := HO1.free 0
  have za := HA1.free 0
  have ze := HE1.free 0
  have bo : w.cell? ⟨o, 0, none⟩ = some vo := HO.cell (j := 0) rfl
  have ba : w.cell? ⟨a, 0, none⟩ = some va := HA.cell (j := 0) rfl
  have be : w.cell? ⟨e, 0, none⟩ = some ve := HE.cell (j := 0) rfl
  have yo := HO.free 0
  have ya := HA.free 0
  have ye := HE.free 0
  have hol := HO.lt
  have hal := HA.lt
  have hel := HE.lt
  have hno : o ≠ w.heap.size := by omega
  have hna : a ≠ w.heap.size := by omega
  have hne : e ≠ w.heap.size := by omega
  refine callsD_of_wpS Tryz.func143 rfl fun c₀ cs hu => ?_
  rw [show Tryz.f143.ntmps = 17 from Tryz.ntmps143]
  have ht := tmps17 (.pointer (some ⟨o, 0, none⟩)) (.pointer (some ⟨a, 0, none⟩)) (.pointer (some ⟨e, 0, none⟩))
  apply wpS_seq
  apply wpS_region
  simp [wpOpsS, go_sem, recoverD, hu, Exit.thenS, hA, ht]
  refine wpS_of_wp ?_
  have HO2 := hid HO
  have HA2 := hid HA
  have HE2 := hid HE
  clear HO HA HE HN HO1 HA1 HE1
  go_wp2
  have hno' := hno.symm
  have hna' := hna.symm
  have hne' := hne.symm
  have h1' := h1.symm
  have h2' := h2.symm
  have h3' := h3.symm
  go_region
  have F1 := HO2.out.set 0 (.slice none 0 0)
  have F2 := (HA2.out.other (a := ⟨o, 0, none⟩) (by simpa using h1') (.slice none 0 0)).set 0 (.int .i64 p)
  have F3 := ((HE2.out.other (a := ⟨o, 0, none⟩) (by simpa using h2') (.slice none 0 0)).other (a := ⟨a, 0, none⟩) (by simpa using h3') (.int .i64 p)).set 0 (.int .i64 er)
  have G1 := ((F1.other (a := ⟨a, 0, none⟩) (by simpa using h1) (.int .i64 p)).other (a := ⟨e, 0, none⟩) (by simpa using h2) (.int .i64 er)).alloc (.cells #[.int .i64 p, .int .i64 er] 166)
  have G2 := (F2.other (a := ⟨e, 0, none⟩) (by simpa using h3) (.int .i64 er)).alloc (.cells #[.int .i64 p, .int .i64 er] 166)
  have G3 := F3.alloc (.cells #[.int .i64 p, .int .i64 er] 166)
  have oo := (((((Only.refl [o, a, e] w).setIn (b := o) (o := 0) (by simp) (.slice none 0 0)).setIn (b := a) (o := 0) (by simp) (.int .i64 p)).setIn (b := e) (o := 0) (by simp) (.int .i64 er)).alloc (.cells #[.int .i64 p, .int .i64 er] 166)).drew
  exact ⟨rfl, _, rfl, _, results_none rfl _ _ _, rfl, rfl, G1, G2, G3, oo⟩
end Go.Proofs.YtahbhhenobehfaaGreatDoor
