/-
  What a text is split into, and what the text of ground terms is split into. No program in sight.
  The walk of skip of the lexer.
  The walk of the closure of Lex that appends a token.
-/
import Derived.Test.YtahbhhenobehfaaGreatDoorNU2
import Derived.Test.YtahbhhenobehfaaGreatDoorM9
import Derived.Deep.RegionHeld3
import Derived.Deep.RegionLaw
namespace Go.Proofs.YtahbhhenobehfaaGreatDoor
open Go.RowKit

abbrev KT := Int × List UInt8
def runB (c : UInt8) : Bool := runI (c.toNat : Int)
def notNl (c : UInt8) : Bool := !((c.toNat : Int) == 10)
def lexS : List UInt8 → Option (List KT × List UInt8)
  | [] => none
  | c :: r => if blankI (c.toNat : Int) = true then some ([], r) else if ((c.toNat : Int) == 35) = true then some ([], (c :: r).dropWhile notNl)
    else if runB c = true then (if kindL ((c :: r).takeWhile runB) = 0 then none else some ([(kindL ((c :: r).takeWhile runB), (c :: r).takeWhile runB)], (c :: r).dropWhile runB))
    else if symI (c.toNat : Int) = true then some ([(4, [c])], r) else none
theorem lexS_cons (c : UInt8) (r : List UInt8) : lexS (c :: r) = if blankI (c.toNat : Int) = true then some ([], r) else if ((c.toNat : Int) == 35) = true then some ([], (c :: r).dropWhile notNl)
    else if runB c = true then (if kindL ((c :: r).takeWhile runB) = 0 then none else some ([(kindL ((c :: r).takeWhile runB), (c :: r).takeWhile runB)], (c :: r).dropWhile runB))
    else if symI (c.toNat : Int) = true then some ([(4, [c])], r) else none := rfl
/-- Lexing l has come to the suffix x and has given T. -/
inductive LexTo (l : List UInt8) : List UInt8 → List KT → Prop
  | start : LexTo l l []
  | step {x y : List UInt8} {T ts : List KT} : LexTo l x T → lexS x = some (ts, y) → LexTo l y (T ++ ts)
/-- All of x is lexed, into R. -/
inductive LexAll : List UInt8 → List KT → Prop
  | nil : LexAll [] []
  | step {x y : List UInt8} {R ts : List KT} : lexS x = some (ts, y) → LexAll y R → LexAll x (ts ++ R)
theorem LexAll.from {l x : List UInt8} {T R : List KT} (h : LexTo l x T) (hR : LexAll l R) : ∃ r, LexAll x r ∧ R = T ++ r := by
  induction h with
  | start => exact ⟨R, hR, rfl⟩
  | step h1 h2 ih =>
    obtain ⟨r, h3, h4⟩ := ih
    cases h3 with
    | nil => simp [lexS] at h2
    | step h5 h6 =>
      rw [h2] at h5
      cases h5
      exact ⟨_, h6, by rw [h4, List.append_assoc]⟩
theorem LexAll.done {l : List UInt8} {T R : List KT} (h : LexTo l [] T) (hR : LexAll l R) : T = R := by
  obtain ⟨r, h1, h2⟩ := LexAll.from h hR
  cases h1 with
  | nil => rw [h2, List.append_nil]
  | step h3 _ => simp [lexS] at h3
theorem LexAll.stuck {l x : List UInt8} {T R : List KT} (h : LexTo l x T) (hx : x ≠ []) (hn : lexS x = none) (hR : LexAll l R) : False := by
  obtain ⟨r, h1, h2⟩ := LexAll.from h hR
  cases h1 with
  | nil => exact hx rfl
  | step h3 _ => rw [hn] at h3; cases h3
theorem LexAll.one {x y : List UInt8} {k : KT} {R : List KT} (h : lexS x = some ([k], y)) (hR : LexAll y R) : LexAll x (k :: R) := LexAll.step h hR
theorem LexAll.none {x y : List UInt8} {R : List KT} (h : lexS x = some ([], y)) (hR : LexAll y R) : LexAll x R := LexAll.step (ts := []) h hR

mutual
def toksT : Tm → List KT
  | .mk s l => if l.isEmpty then [(kindL s.data.toList, s.data.toList)] else (1, s.data.toList) :: (4, [40]) :: (toksA l ++ [(4, [41])])
def toksA : List Tm → List KT
  | [] => []
  | t :: r => toksT t ++ (if r.isEmpty then [] else (4, [44]) :: toksA r)
end
theorem toksT_leaf (s : ByteArray) : toksT (.mk s []) = [(kindL s.data.toList, s.data.toList)] := by simp [toksT]
theorem toksT_node (s : ByteArray) (l : List Tm) (h : 0 < l.length) : toksT (.mk s l) = (1, s.data.toList) :: (4, [40]) :: (toksA l ++ [(4, [41])]) := by
  have e : l.isEmpty = false := by cases l with | nil => simp at h | cons _ _ => rfl
  simp [toksT, e]
theorem toksA_one (t : Tm) : toksA [t] = toksT t := by simp [toksA]
theorem toksA_more (t u : Tm) (r : List Tm) : toksA (t :: u :: r) = toksT t ++ (4, [44]) :: toksA (u :: r) := by
  rw [toksA]; rfl

theorem runI_of_name {x : Int} (h : inB x nameSp = true) : runI x = true := by
  rw [inB_name] at h
  unfold lowI digI at h
  unfold runI
  simp only [Bool.or_eq_true, Bool.and_eq_true, decide_eq_true_eq, beq_iff_eq] at h ⊢
  omega
theorem runI_of_dig {x : Int} (h1 : 48 ≤ x) (h2 : x ≤ 57) : runI x = true := by
  unfold runI
  simp only [Bool.or_eq_true, Bool.and_eq_true, decide_eq_true_eq, beq_iff_eq]
  omega
theorem name_runs {l : List UInt8} (h : nameB l = true) : 0 < l.length ∧ ∀ c ∈ l, runB c = true := by
  unfold nameB spelledB at h
  simp only [Bool.and_eq_true, decide_eq_true_eq, List.all_eq_true] at h
  exact ⟨h.1.1.1.1, fun c hc => runI_of_name (h.1.2 c hc)⟩
theorem num_runs {l : List UInt8} (h : numB l = true) : 0 < l.length ∧ ∀ c ∈ l, runB c = true := by
  unfold numB at h
  simp only [Bool.and_eq_true, decide_eq_true_eq, List.all_eq_true] at h
  refine ⟨h.1.1.1, fun c hc => ?_⟩
  have := h.2 c hc
  unfold digB at this
  simp only [Bool.and_eq_true, decide_eq_true_eq] at this
  exact runI_of_dig this.1 this.2
theorem kind_name {l : List UInt8} (h : nameB l = true) : kindL l = 1 := by
  unfold kindL
  have hw : wordB l = false := by
    unfold nameB at h
    cases e : wordB l
    · rfl
    · rw [e] at h; simp at h
  rw [hw, h]; rfl
theorem bt0_low {l : List UInt8} (h : nameB l = true) : lowI (bt l 0) = true := by
  unfold nameB spelledB at h
  simp only [Bool.and_eq_true] at h
  rw [← inB_low]; exact h.1.1.2
theorem kind_num {l : List UInt8} (h : numB l = true) : kindL l = 2 := by
  have hr := num_runs h
  unfold kindL
  have hd : digB (l[0]'hr.1) = true := by
    unfold numB at h
    simp only [Bool.and_eq_true, List.all_eq_true] at h
    exact h.2 _ (List.getElem_mem _)
  have hb : 48 ≤ bt l 0 ∧ bt l 0 ≤ 57 := by
    rw [bt_get l 0 hr.1]
    unfold digB at hd
    simpa using hd
  have hw : wordB l = false := by
    cases e : wordB l
    · rfl
    · unfold wordB at e
      simp only [Bool.or_eq_true, beq_iff_eq] at e
      rcases e with (e | e) | e <;> subst e <;> simp [bt] at hb
  have hn : nameB l = false := by
    cases e : nameB l
    · rfl
    · have := bt0_low e
      unfold lowI at this
      simp at this
      omega
  rw [hw, hn, h]; rfl
/-- The head of what follows is no byte of a run. -/
def Apart (y : List UInt8) : Prop := ∀ c r, y = c :: r → runB c = false
theorem Apart.nil : Apart [] := fun c r h => by cases h
theorem Apart.cons {c : UInt8} {r : List UInt8} (h : runB c = false) : Apart (c :: r) := fun c' r' e => by cases e; exact h
theorem takeWhile_run {s y : List UInt8} (hs : ∀ c ∈ s, runB c = true) (hy : Apart y) : (s ++ y).takeWhile runB = s ∧ (s ++ y).dropWhile runB = y := by
  induction s with
  | nil =>
    cases y with
    | nil => exact ⟨rfl, rfl⟩
    | cons c r => have := hy c r rfl; simp [this]
  | cons c s ih =>
    have h1 := hs c (by simp)
    have h2 := ih fun d hd => hs d (by simp [hd])
    simp only [List.cons_append, List.takeWhile_cons, List.dropWhile_cons, h1, if_true]
    exact ⟨by rw [h2.1], h2.2⟩
theorem run_plain {c : UInt8} (h : runB c = true) : blankI (c.toNat : Int) = false ∧ ((c.toNat : Int) == 35) = false := by
  unfold runB runI at h
  unfold blankI
  simp only [Bool.or_eq_true, Bool.and_eq_true, decide_eq_true_eq, beq_iff_eq] at h
  simp only [Bool.or_eq_false_iff, beq_eq_false_iff_ne, ne_eq]
  omega
theorem lexS_run {s y : List UInt8} {k : Int} (h0 : 0 < s.length) (hs : ∀ c ∈ s, runB c = true) (hy : Apart y) (hk : kindL s = k) (hz : k ≠ 0) : lexS (s ++ y) = some ([(k, s)], y) := by
  obtain ⟨h1, h2⟩ := takeWhile_run hs hy
  cases s with
  | nil => simp at h0
  | cons c r =>
    have hc := hs c (by simp)
    obtain ⟨g1, g2⟩ := run_plain hc
    rw [List.cons_append] at h1 h2 ⊢
    rw [lexS_cons, g1, g2, hc, h1, h2, hk, if_neg Bool.false_ne_true, if_neg Bool.false_ne_true, if_pos rfl, if_neg hz]
theorem lexS_sym {c : UInt8} {y : List UInt8} (h : c = 40 ∨ c = 41 ∨ c = 44) : lexS (c :: y) = some ([(4, [c])], y) := by
  rcases h with rfl | rfl | rfl <;> simp [lexS, blankI, runB, runI, symI]
theorem apart_sym {c : UInt8} {y : List UInt8} (h : c = 40 ∨ c = 41 ∨ c = 44) : Apart (c :: y) := Apart.cons (by rcases h with rfl | rfl | rfl <;> simp [runB, runI])
theorem lexS_blank (y : List UInt8) : lexS (32 :: y) = some ([], y) := by simp [lexS, blankI]
theorem join_more (sep a b : List UInt8) (r : List (List UInt8)) : Lib.join (a :: b :: r) sep = a ++ sep ++ Lib.join (b :: r) sep := by
  simp [Lib.join, List.intercalate, List.intersperse]
theorem join_single (sep a : List UInt8) : Lib.join [a] sep = a := by simp [Lib.join, List.intercalate]
theorem lex_args {sep : List UInt8} (hsep : ∀ y R, LexAll y R → LexAll (sep ++ y) ((4, [44]) :: R)) (hap : ∀ y, Apart (sep ++ y)) (P : Tm → Prop)
    (ht : ∀ t, P t → ∀ y R, Apart y → LexAll y R → LexAll (textL t ++ y) (toksT t ++ R)) : ∀ (l : List Tm), (∀ t ∈ l, P t) → 0 < l.length → ∀ y R, Apart y → LexAll y R → LexAll (Lib.join (l.map textL) sep ++ y) (toksA l ++ R)
  | [], _, h0, _, _, _, _ => by simp at h0
  | [t], hP, _, y, R, hy, hR => by
    rw [List.map_cons, List.map_nil, join_single, toksA_one]
    exact ht t (hP t (by simp)) y R hy hR
  | t :: u :: r, hP, _, y, R, hy, hR => by
    rw [List.map_cons, List.map_cons, join_more, toksA_more, List.append_assoc, List.append_assoc, List.append_assoc, List.cons_append]
    refine ht t (hP t (by simp)) _ _ (hap _) (hsep _ _ ?_)
    have := lex_args hsep hap P ht (u :: r) (fun x hx => hP x (by simp [hx])) (by simp) y R hy hR
    rwa [List.map_cons] at this
theorem ground_kind {n : ByteArray} (h : (nameB n.data.toList || numB n.data.toList) = true) : (0 < n.data.toList.length ∧ ∀ c ∈ n.data.toList, runB c = true) ∧ kindL n.data.toList ≠ 0 := by
  rw [Bool.or_eq_true] at h
  rcases h with h | h
  · exact ⟨name_runs h, by rw [kind_name h]; decide⟩
  · exact ⟨num_runs h, by rw [kind_num h]; decide⟩
theorem lex_text : ∀ (d : Nat) (t : Tm), groundB d t = true → ∀ y R, Apart y → LexAll y R → LexAll (textL t ++ y) (toksT t ++ R)
  | 0, t, h, _, _, _, _ => by rw [groundB_zero] at h; cases h
  | d + 1, .mk s l, h, y, R, hy, hR => by
    by_cases h0 : 0 < l.length
    · rw [groundB_node d s l h0] at h
      simp only [Bool.and_eq_true, decide_eq_true_eq, List.all_eq_true] at h
      obtain ⟨_, ha, hn⟩ := h
      obtain ⟨g1, g2⟩ := name_runs hn
      rw [textL_node s l h0, toksT_node s l h0, List.append_assoc]
      refine LexAll.one (lexS_run g1 g2 (by rw [List.cons_append]; exact apart_sym (Or.inl rfl)) (kind_name hn) (by decide)) ?_
      rw [List.cons_append, List.append_assoc]
      refine LexAll.one (lexS_sym (Or.inl rfl)) ?_
      show LexAll _ ((toksA l ++ [(4, [41])]) ++ R)
      rw [List.append_assoc]
      refine lex_args (sep := [44]) (fun y R h => LexAll.one (lexS_sym (Or.inr (Or.inr rfl))) h) (fun y => apart_sym (Or.inr (Or.inr rfl))) (fun t => groundB d t = true) (lex_text d) l ha h0 _ _ ?_ ?_
      · exact apart_sym (Or.inr (Or.inl rfl))
      · exact LexAll.one (lexS_sym (Or.inr (Or.inl rfl))) hR
    · obtain rfl : l = [] := List.eq_nil_of_length_eq_zero (by omega)
      rw [groundB_leaf] at h
      obtain ⟨⟨g1, g2⟩, g3⟩ := ground_kind h
      rw [textL_leaf, toksT_leaf]
      exact LexAll.one (lexS_run g1 g2 hy rfl g3) hR
/-- The text of a list of ground terms is split into the terms' tokens. -/
theorem lex_terms {d : Nat} (l : List Tm) (h : ∀ t ∈ l, groundB d t = true) : LexAll (termsL l) (toksA l) := by
  unfold termsL
  by_cases h0 : 0 < l.length
  · have := lex_args (sep := [44, 32]) (fun y R h => LexAll.one (lexS_sym (Or.inr (Or.inr rfl))) (LexAll.none (lexS_blank y) h)) (fun y => apart_sym (Or.inr (Or.inr rfl))) (fun t => groundB d t = true) (lex_text d) l h h0 [] [] Apart.nil LexAll.nil
    rwa [List.append_nil, List.append_nil] at this
  · obtain rfl : l = [] := List.eq_nil_of_length_eq_zero (by omega)
    rw [show toksA [] = [] by simp [toksA]]
    simpa [Lib.join_nil] using LexAll.nil
end Go.Proofs.YtahbhhenobehfaaGreatDoor
namespace Go.Proofs.YtahbhhenobehfaaGreatDoor
open Go.ChangeShapes Go.WideShapes Go.ChangeAt Go.RowKit

theorem notNl_any (x : Int) (w : World) : Calls Tryz.prog 174 #[.int .u8 x] w fun e w' => e = .returned (.bool (!(x == 10))) ∧ w = w' := by
  cases h : (x == 10)
  · have h2 : (x != 10) = true := by rw [bne, h]; rfl
    go_enter Tryz.func174, Tryz.ntmps174
    go_wp2
    go_ret
    exact ⟨rfl, rfl⟩
  · have h2 : (x != 10) = false := by rw [bne, h]; rfl
    go_enter Tryz.func174, Tryz.ntmps174
    go_wp2
    go_ret
    exact ⟨rfl, rfl⟩
/-- The place behind the bytes of l from at on that f likes. -/
def endOf (f : UInt8 → Bool) (l : List UInt8) (at' : Nat) : Nat := at' + ((l.drop at').takeWhile f).length
theorem endOf_le (f : UInt8 → Bool) (l : List UInt8) (a : Nat) (h : a ≤ l.length) : a ≤ endOf f l a ∧ endOf f l a ≤ l.length := by
  have := (List.takeWhile_sublist f (l := l.drop a)).length_le
  rw [List.length_drop] at this
  unfold endOf
  omega
theorem endOf_stop {f : UInt8 → Bool} {l : List UInt8} {a : Nat} (h : ∀ (hk : a < l.length), f l[a] = false) : endOf f l a = a := by
  unfold endOf
  by_cases hk : a < l.length
  · rw [List.drop_eq_getElem_cons hk, List.takeWhile_cons, h hk]; simp
  · rw [List.drop_of_length_le (by omega)]; simp
theorem endOf_go {f : UInt8 → Bool} {l : List UInt8} {a : Nat} (hk : a < l.length) (h : f l[a] = true) : endOf f l a = endOf f l (a + 1) := by
  unfold endOf
  rw [List.drop_eq_getElem_cons hk, List.takeWhile_cons, h]; simp; omega
theorem endOf_take (f : UInt8 → Bool) (l : List UInt8) (a : Nat) : (l.drop a).take (endOf f l a - a) = (l.drop a).takeWhile f ∧ l.drop (endOf f l a) = (l.drop a).dropWhile f := by
  have h := List.takeWhile_append_dropWhile (p := f) (l := l.drop a)
  unfold endOf
  rw [Nat.add_sub_cancel_left]
  constructor
  · have h2 := List.take_left (l₁ := (l.drop a).takeWhile f) (l₂ := (l.drop a).dropWhile f)
    rwa [h] at h2
  · rw [← List.drop_drop]
    have h2 := List.drop_left (l₁ := (l.drop a).takeWhile f) (l₂ := (l.drop a).dropWhile f)
    rwa [h] at h2
set_option maxRecDepth 20000 in
set_option maxHeartbeats 2000000 in
/-- skip, by what is asked of each byte. -/
theorem skip_any (g : FuncId) (f : UInt8 → Bool) (he : ∀ args w, (callFunc g args).run Tryz.prog w = .ok (.enter g args) w) (hf : ∀ (c : UInt8) (w : World), Calls Tryz.prog g #[.int .u8 (c.toNat : Int)] w fun e w' => e = .returned (.bool (f c)) ∧ w = w') (s : ByteArray) (a : Nat) (w : World) (ha : a ≤ s.size) (hs : s.size ≤ 100000000) :
    Calls Tryz.prog 173 #[.string s, .int .i64 a, .func (.func g) #[] #[]] w fun e w' => e = .returned (.int .i64 (endOf f s.data.toList a : Nat)) ∧ w = w' := by
  have hsz := hid (blen s)
  obtain ⟨E, eE⟩ : ∃ E, E = endOf f s.data.toList a := ⟨_, rfl⟩
  have HE := hid eE.symm
  rw [← eE]
  clear eE
  have Hf := hid hf
  clear hf
  go_enter Tryz.func173, Tryz.ntmps173
  go_wp2
  go_loop [1] (fun i => ∃ k : Nat, k ≤ s.size ∧ i = .int .i64 k ∧ Hid (endOf f s.data.toList k = E)) (fun i => s.size - (intOf i).toNat)
  case atStart => exact ⟨a, ha, rfl, HE⟩
  case round =>
    obtain ⟨k, hk, rfl, hE⟩ := hrel
    by_cases hlt : k < s.size
    · have hk0 : (0 : Int) ≤ k := by omega
      have hkn : (k : Int) < s.size := by omega
      go_wp2_with fail
      refine (Hf.out (s[k]) _).mono ?_
      rintro e w1 ⟨rfl, rfl⟩
      obtain ⟨B, eB⟩ : ∃ B, f (s[k]) = B := ⟨_, rfl⟩
      rw [eB]
      have hB := hid (show ∀ (hk : k < s.data.toList.length), f s.data.toList[k] = B from fun _ => eB)
      clear eB
      cases B
      · have hfin := hid ((endOf_stop hB.out).symm.trans hE.out)
        go_wp2
        go_ret
        exact ⟨ret_int (by rw [← hfin.out]), rfl⟩
      · have hgo := hid ((endOf_go (by rw [hsz.out]; exact hlt) (hB.out _)).symm.trans hE.out)
        go_wp2
        go_round
        case rel => exact ⟨k + 1, by omega, by go_num, hgo⟩
        case measure => simp [intOf]; omega
    · have hfin := hid ((endOf_stop (f := f) (l := s.data.toList) (a := k) (fun h => by have := hsz.out; omega)).symm.trans hE.out)
      go_wp2
      go_ret
      exact ⟨ret_int (by rw [← hfin.out]), rfl⟩
end Go.Proofs.YtahbhhenobehfaaGreatDoor
namespace Go.Proofs.YtahbhhenobehfaaGreatDoor
open Go.ChangeShapes Go.WideShapes Go.ChangeAt Go.RowKit

theorem info_token : (Tryz.prog.info? 141).map (fun i => (i.zero, i.size, i.bytes)) = some (some (.agg #[.int .i64 0, .string ⟨#[]⟩, .int .i64 0]), 3, 32) := by kernel_rfl
theorem slice2_run {s : ByteArray} {a c : Nat} (h1 : a ≤ c) (h2 : c ≤ s.size) (W : World) : (Instr.slice 9 (.string s) (some (.int .i64 (a : Int))) (some (.int .i64 (c : Int))) none).run Tryz.prog W = .ok (.string (s.extract a c)) W := by
  rw [run_slice_string (P := Tryz.prog) W 9 s .i64 .i64 (a : Int) (c : Int) Tryz.underlying9 (by omega) (by omega) (by omega)]
  rfl
theorem tok_news {w : World} {g : Nat} {T : TypeId} {k p : Int} {s : ByteArray} (h : Has w g #[.int .i64 k, .string s, .int .i64 p] T) : ∀ j u, ([.int .i64 k, .string s, .int .i64 p] : List Value)[j]? = some u → w.cell? ((⟨g, 0, none⟩ : Addr).add j) = some u := fun j u hu => by
  have e2 : (⟨g, 0, none⟩ : Addr).add j = ⟨g, 0 + j, none⟩ := by unfold Addr.add; split <;> simp_all
  rw [e2, Nat.zero_add]
  exact h.cell (by simpa using hu)
theorem tok_ones {k p : Int} {s : ByteArray} : ∀ u ∈ ([.int .i64 k, .string s, .int .i64 p] : List Value), u.oneCell' = true := by
  intro u hu
  simp only [List.mem_cons, List.mem_nil_iff, or_false] at hu
  rcases hu with rfl | rfl | rfl <;> rfl
theorem tok_append {w : World} {base g : Nat} {v : Value} {T : List Tok} {K p : Int} {s : ByteArray} (own : OwnM 3 TokC base 141 w v T) (Hg : Has w g #[.int .i64 K, .string s, .int .i64 p] 141) (hT : T.length ≤ 100000) (hb : base ≤ w.heap.size) :
    ∃ v' w', (Builtin.append_ #[137, 137] 137 #[v, .slice (some ⟨g, 0, none⟩) 1 1]).run Tryz.prog w = .ok v' w' ∧ OwnM 3 TokC base 141 w' v' (T ++ [⟨K, s, p⟩]) ∧ Below base w w' ∧ Agr (fun k => v.ownBlock ≠ some k) w w' ∧ ∀ g, v'.ownBlock = some g → v.ownBlock = some g ∨ w.heap.size ≤ g := by
  obtain ⟨i0, hi, hz0, hz1, hz2⟩ := info_parts info_token
  exact run_appendM w base 137 137 141 i0 _ 32 Tryz.underlying137 hi hz0 hz1 hz2 rfl (by omega) v T own ⟨g, 0, none⟩ 1 [.int .i64 K, .string s, .int .i64 p] ⟨K, s, p⟩ rfl (tok_news Hg) tok_ones (RestsM.tok _ _ ⟨K, s, p⟩) (by unfold maxLen; omega) (by omega) hb
set_option maxRecDepth 20000 in
set_option maxHeartbeats 2000000 in
theorem lexadd_any (K : Int) (a c : Nat) (b o base : Nat) (s : ByteArray) (v : Value) (T : List Tok) (w : World) (hac : a ≤ c) (hcs : c ≤ s.size) (hT : T.length ≤ 100000)
    (hb : w.cell? ⟨b, 0, none⟩ = some (.string s)) (ho : Has w o #[v] 137) (hob : o < base) (hbw : base ≤ w.heap.size) (own : OwnM 3 TokC base 141 w v T) :
    Calls Tryz.prog 171 #[.int .i64 K, .int .i64 a, .int .i64 c, .pointer (some ⟨o, 0, none⟩), .pointer (some ⟨b, 0, none⟩)] w fun e w' => e = .returned (.tuple #[]) ∧ ∃ v', Has w' o #[v'] 137 ∧ OwnM 3 TokC base 141 w' v' (T ++ [⟨K, s.extract a c, a⟩]) ∧ Below o w w' := by
  have c0 : w.cell? ⟨o, 0, none⟩ = some v := ho.cell (j := 0) rfl
  have f0 := ho.free 0
  have hsl := slice2_run hac hcs
  have hob' : ∀ k, v.ownBlock = some k → base ≤ k := fun k hk => (own.lt k hk).1
  have HO := hid ho
  have HOW := hid own
  have hai : (a : Int) ≤ c := by omega
  have hci : (c : Int) ≤ s.size := by omega
  clear ho own
  go_enter Tryz.func171, Tryz.ntmps171
  go_wp2
  have bA : ∀ O, Below w.heap.size w (w.alloc O).drew := fun O => ((Below.refl _ _).alloc (Nat.le_refl _) O).drew
  have hlo : o < w.heap.size := HO.out.lt
  have cA : ∀ O, (w.alloc O).drew.cell? ⟨o, 0, none⟩ = some v ∧ (w.alloc O).drew.cell? ⟨b, 0, none⟩ = some (.string s) := fun O => ⟨((bA O).cell (p := ⟨o, 0, none⟩) hlo).trans c0, ((bA O).cell (p := ⟨b, 0, none⟩) (lt_of_cell hb)).trans hb⟩
  have cA1 := fun O => (cA O).1
  have cA2 := fun O => (cA O).2
  clear cA bA
  go_region_law (first
    | (refine step_append_run rfl (.tmp 8) (.tmp 16) 137 rfl v (.slice (some ⟨w.heap.size, 0, none⟩) 1 1) (by rfl) (by rfl) (tok_append (own := (HOW.out.alloc (.cells #[.int .i64 K, .string (s.extract a c), .int .i64 (a : Int)] 141)).drew) (Hg := (Has.new w _ _).drew) hT (by simp; omega)) ?_; rintro v5 w5 ⟨own5, b5, hA5, hat5⟩;
         obtain ⟨a5, c5, rfl⟩ := own5.shape;
         have H5 : Has w5 o #[v] 137 := (hA5.block o (by simp; omega) (fun e => by have := hob' o e; omega)).trans (HO.out.alloc _);
         have q5 : w5.cell? ⟨o, 0, none⟩ = some v := H5.cell (j := 0) rfl;
         have f5 := H5.free 0;
         have Hown := hid own5;
         have Hb5 := hid b5;
         have HH5 := hid H5;
         clear own5 b5 hA5 hat5 H5))
  all_goals
    have hown6 := Hown.out
    simp only [List.length_append, List.length_cons, List.length_nil, Nat.zero_add] at hown6
    have bO := ((Below.refl w.heap.size w).alloc (Nat.le_refl _) (.cells #[.int .i64 K, .string (s.extract a c), .int .i64 (a : Int)] 141)).drew
    have b6 := (bO.mono (Nat.le_of_lt hlo)).trans (Hb5.out.mono (Nat.le_of_lt hob))
    go_end0
    exact ⟨rfl, _, HH5.out.set 0 _, hown6.only ((Only.refl [o] w5).setIn (by simp) _) (by simpa using hob), bset b6 (Nat.le_refl _) _⟩
end Go.Proofs.YtahbhhenobehfaaGreatDoor
