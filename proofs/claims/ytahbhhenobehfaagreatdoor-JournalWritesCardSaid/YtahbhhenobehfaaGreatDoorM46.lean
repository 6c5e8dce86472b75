/-
  The reference parser's begin and end.
  The reference's Terms.
-/
import Derived.Test.YtahbhhenobehfaaGreatDoorM45
import Derived.Test.YtahbhhenobehfaaGreatDoorNU12
namespace Go.Proofs.YtahbhhenobehfaaGreatDoor
open Go.ChangeShapes Go.WideShapes Go.ChangeAt Go.RowKit

theorem rr_of_lex {s : ByteArray} {w : World} {ad : Option Addr} {cap : Nat} {T : List Tok} (hT : ToksAt w ad (T.length + 1) cap (T ++ [⟨0, ByteArray.empty, s.size⟩])) (hL : LexTo s.data.toList [] (T.map kt)) (hn : T.length ≤ s.size) (hs : s.size ≤ 100000) :
    RrAt (w.alloc (.cells #[.slice ad (T.length + 1 : Nat) cap, .int .i64 0, .int .i64 0, .int .i64 0] 139)) w.heap.size ad cap (T ++ [⟨0, ByteArray.empty, s.size⟩]) 0 0 0 := by
  have hlen : (T ++ [(⟨0, ByteArray.empty, s.size⟩ : Tok)]).length = T.length + 1 := by simp
  refine ⟨?_, ?_, by simp, fun b o e => ?_, fun j hj hk => ?_, fun t ht => ?_, by simp; omega⟩
  · rw [hlen]; exact Has.new w _ _
  · rw [hlen]; exact hT.below ((Below.refl w.heap.size w).alloc (Nat.le_refl _) _) (Nat.le_refl _)
  · obtain ⟨b', o', us, e', hl, hc, _⟩ := hT.2.2.2 0 (by simp)
    rw [e] at e'
    cases e'
    have hx : us.length = 3 := hl
    have := lt_of_cell (hc 0 (by omega))
    omega
  · rw [hlen] at hj ⊢
    by_cases hjT : j < T.length
    · omega
    · obtain rfl : j = T.length := by omega
      rw [List.getElem_append_right (by omega)] at hk
      simp at hk
  · rcases List.mem_append.1 ht with ht | ht
    · have := hL.small.2 (kt t) (List.mem_map_of_mem ht)
      have h2 : t.text.data.toList.length = t.text.size := Array.length_toList
      have h3 : s.data.toList.length = s.size := Array.length_toList
      have h4 : (kt t).2 = t.text.data.toList := rfl
      rw [h4, h2, h3] at this
      unfold maxLen; omega
    · simp only [List.mem_cons, List.mem_nil_iff, or_false] at ht
      subst ht
      exact Nat.zero_le _
theorem bad_of_lex {s : ByteArray} (hbad : 16384 < s.size ∨ ∃ x T, LexTo s.data.toList x T ∧ x ≠ [] ∧ lexS x = none) (l : List Tm) (hg : ∀ t ∈ l, groundB 4 t = true) (hn : (termsL l).length ≤ 16384) (hl : s.data.toList = termsL l) : False := by
  rcases hbad with hbad | ⟨x, T, h1, h2, h3⟩
  · have h3 : s.data.toList.length = s.size := Array.length_toList
    rw [hl] at h3; omega
  · have hA := lex_terms l hg
    rw [← hl] at hA
    exact LexAll.stuck h1 h2 h3 hA
def Ended (er K e' : Int) : Prop := e' = 0 ↔ er = 0 ∧ K = 0
def Begun (s : ByteArray) (w : World) (e : Ending) (w' : World) : Prop :=
  (∃ b, e = .returned (.pointer (some ⟨b, 0, none⟩)) ∧ w.heap.size ≤ b ∧
    ((∃ ad cap T, RrAt w' b ad cap (T ++ [⟨0, ByteArray.empty, s.size⟩]) 0 0 0 ∧ LexTo s.data.toList [] (T.map kt)) ∨
     (∃ a E : Int, Has w' b #[.slice none 0 0, .int .i64 0, .int .i64 a, .int .i64 E] 139 ∧ E ≠ 0 ∧ (16384 < s.size ∨ ∃ x T, LexTo s.data.toList x T ∧ x ≠ [] ∧ lexS x = none)))) ∧ Below w.heap.size w w'
set_option maxRecDepth 20000 in
set_option maxHeartbeats 4000000 in
theorem rbegin_any (s : ByteArray) (w : World) (hs : s.size ≤ 100000) :
    Calls Tryz.prog 112 #[.string s] w (Begun s w) := by
  go_enter Tryz.func112, Tryz.ntmps112
  go_wp2_with fail
  refine (rlex_any s _ hs).mono ?_
  rintro e w1 ⟨⟨ad, cap, T, rfl, hT, hL, hn⟩ | ⟨a, er, rfl, hne, hbad⟩, o1⟩
  · have h1 := hid (rr_of_lex hT hL hn hs)
    have hL' := hid hL
    have o2 := hid (o1.alloc o1.size (.cells #[.slice ad (T.length + 1 : Nat) cap, .int .i64 0, .int .i64 0, .int .i64 0] 139))
    have hsz := o1.size
    clear hT hL hn o1
    go_wp2
    go_ret
    exact ⟨⟨_, rfl, hsz, Or.inl ⟨ad, cap, T, h1.out, hL'.out⟩⟩, o2.out⟩
  · have h1 := hid (Has.new w1 #[.slice none 0 0, .int .i64 0, .int .i64 a, .int .i64 er] 139)
    have hb := hid hbad
    have hn := hid hne
    have o2 := hid (o1.alloc o1.size (.cells #[.slice none 0 0, .int .i64 0, .int .i64 a, .int .i64 er] 139))
    have hsz := o1.size
    clear hbad hne o1
    go_wp2
    go_ret
    exact ⟨⟨_, rfl, hsz, Or.inr ⟨a, er, h1.out, hn.out, hb.out⟩⟩, o2.out⟩
set_option maxRecDepth 20000 in
set_option maxHeartbeats 4000000 in
theorem rend_any (x : Nat) (ad : Option Addr) (cap : Nat) (T : List Tok) (k : Nat) (a er : Int) (t : Tok) (w : World) (h : RrAt w x ad cap T k a er) (ht : T[k]? = some t) :
    Calls Tryz.prog 115 #[.pointer (some ⟨x, 0, none⟩)] w fun e w' => e = .returned (.tuple #[]) ∧ (∃ a' e', RrAt w' x ad cap T k a' e' ∧ Ended er t.kind e') ∧ Only [x] w w' := by
  have hlt := h.lt
  have hle := h.toks.2.1
  have hmx := h.toks.2.2.1
  have H := hid h
  obtain ⟨g, o, rfl, x0, x1, x2, x3, c0, c1, c2⟩ := h.cells ht
  clear ht h
  obtain ⟨K, S, P⟩ := t
  have hk0 : (0 : Int) ≤ k := by omega
  have hkn : (k : Int) < T.length := by omega
  by_cases he : er = 0
  · subst he
    by_cases hK : K = 0
    · subst hK
      go_enter Tryz.func115, Tryz.ntmps115
      go_wp2
      go_quiet (fail)
      go_wp2
      go_end0
      exact ⟨rfl, ⟨a, 0, H.out.below (below_drew w.heap.size nq) (Nat.le_refl _), ⟨fun _ => ⟨rfl, rfl⟩, fun _ => rfl⟩⟩, Only.ofBelow (below_drew w.heap.size nq) (Nat.le_refl _)⟩
    · have hKb : (K == 0) = false := by rw [beq_eq_false_iff_ne]; exact hK
      have HK := hid hK
      clear hK
      go_enter Tryz.func115, Tryz.ntmps115
      go_wp2
      go_quiet (fail)
      go_wp2_with fail
      refine (rfail_any 1 x (some ⟨g, o, none⟩) cap T k a 0 _ (H.out.below (below_drew w.heap.size nq) (Nat.le_refl _))).mono ?_
      rintro e w2 ⟨rfl, ⟨a2, h2⟩, o2⟩
      rw [if_pos rfl] at h2
      have H2 := hid h2
      have O2 := hid ((Only.ofBelow (l := [x]) (below_drew w.heap.size nq) (Nat.le_refl _)).trans o2 (by simp))
      clear h2 o2
      go_wp2
      go_end0
      exact ⟨rfl, ⟨a2, 1, H2.out, ⟨fun h => absurd h (by decide), fun h => absurd h.2 HK.out⟩⟩, O2.out⟩
  · have heb : (er == 0) = false := by rw [beq_eq_false_iff_ne]; exact he
    have hne := hid he
    clear he
    go_enter Tryz.func115, Tryz.ntmps115
    go_wp2
    go_quiet (fail)
    go_wp2
    go_end0
    exact ⟨rfl, ⟨a, er, H.out.below (below_drew w.heap.size nq) (Nat.le_refl _), ⟨fun h => absurd h hne.out, fun h => absurd h.1 hne.out⟩⟩, Only.ofBelow (below_drew w.heap.size nq) (Nat.le_refl _)⟩
set_option maxRecDepth 20000 in
set_option maxHeartbeats 4000000 in
theorem rend_bad (x : Nat) (a er : Int) (w : World) (h : Has w x #[.slice none 0 0, .int .i64 0, .int .i64 a, .int .i64 er] 139) (hne : er ≠ 0) :
    Calls Tryz.prog 115 #[.pointer (some ⟨x, 0, none⟩)] w fun e w' => e = .returned (.tuple #[]) ∧ Below w.heap.size w w' := by
  have x0 := h.cell (j := 0) rfl
  have x1 := h.cell (j := 1) rfl
  have x3 := h.cell (j := 3) rfl
  have heb : (er == 0) = false := by rw [beq_eq_false_iff_ne]; exact hne
  clear h hne
  go_enter Tryz.func115, Tryz.ntmps115
  go_wp2
  go_quiet (fail)
  go_wp2
  go_end0
  exact ⟨rfl, below_drew w.heap.size nq⟩
end Go.Proofs.YtahbhhenobehfaaGreatDoor
namespace Go.Proofs.YtahbhhenobehfaaGreatDoor
open Go.ChangeShapes Go.WideShapes Go.ChangeAt Go.RowKit

/-- The reader stands before the element behind those read. -/
def MoreL (s0 : List KT) (ts : List Tm) (s : List KT) : Prop :=
  ∀ l, CanL l s0 → ∃ hi : ts.length < l.length, ts = l.take ts.length ∧ Can 4 l[ts.length] s ((if ts.length + 1 < l.length then (4, [44]) :: toksA (l.drop (ts.length + 1)) else []) ++ [(0, [])])
/-- All that can be read is read. -/
def FinL (s0 : List KT) (ts : List Tm) (s : List KT) : Prop := ∀ l, CanL l s0 → ts = l ∧ s = [(0, [])]
theorem MoreL.first {s0 : List KT} {c : KT} {q : List KT} (h0 : s0 = c :: q) (hc : c.1 ≠ 0) : MoreL s0 [] s0 := fun l hl => by
  have hl0 : 0 < l.length := by
    match l, hl with
    | [], hl =>
      have := hl.toks
      rw [h0] at this
      simp only [toksA, List.nil_append, List.cons.injEq] at this
      exact absurd (by rw [this.1]) hc
    | _ :: _, _ => simp
  exact ⟨hl0, rfl, can_at hl.ground hl0 (by have := hl.toks; simpa using this)⟩
theorem MoreL.step {s0 s s' : List KT} {ts : List Tm} {t : Tm} (h : MoreL s0 ts s) (ht : ∀ a p, Can 4 a s p → t = a ∧ s' = p) : ListInv s0 (ts ++ [t]) s' := fun l hl => by
  obtain ⟨hi, e, hC⟩ := h l hl
  obtain ⟨rfl, e2⟩ := ht _ _ hC
  exact ⟨(take_snoc_len hi e).trans (by simp), by simp; omega, by simpa using e2⟩
theorem MoreL.none {s0 s : List KT} {ts : List Tm} (h : MoreL s0 ts s) (hno : ∀ a p, ¬ Can 4 a s p) (l : List Tm) : ¬ CanL l s0 := fun hl => by
  obtain ⟨hi, e, hC⟩ := h l hl
  exact hno _ _ hC
theorem ListInv.more {s0 q : List KT} {ts : List Tm} {c : KT} (h : ListInv s0 ts (c :: q)) (hc : isK c [44] = true) : MoreL s0 ts q := fun l hl => by
  obtain ⟨hi, hC⟩ := h.comma hc hl
  exact ⟨hi, (h l hl).1, hC⟩
theorem ListInv.fin {s0 q : List KT} {ts : List Tm} {c : KT} (h : ListInv s0 ts (c :: q)) (hc : isK c [44] = false) : FinL s0 ts (c :: q) := fun l hl => by
  obtain ⟨e1, e2, e3⟩ := h.done hc hl
  exact ⟨e1, by rw [e2, e3]⟩
theorem FinL.start {s0 q : List KT} {c : KT} (h0 : s0 = c :: q) (hc : c.1 = 0) : FinL s0 [] s0 := fun l hl => by
  have hl2 := hl
  rw [h0] at hl2
  obtain ⟨rfl, _⟩ := hl2.zero hc
  exact ⟨rfl, by have := hl.toks; simpa [toksA] using this⟩
set_option maxRecDepth 20000 in
set_option maxHeartbeats 16000000 in
theorem rpterms_any (s : ByteArray) (w : World) (hs : s.size ≤ 100000) :
    Calls Tryz.prog 85 #[.string s] w (ReadSaid s w) := by
  go_enter Tryz.func85, Tryz.ntmps85
  go_wp2_with fail
  refine (rbegin_any s _ hs).mono ?_
  rintro e w1 ⟨⟨x, rfl, hx, ⟨ad, cap, T, h1, hL⟩ | ⟨a, er, H1, hne, hbad⟩⟩, o1⟩
  · have hcan := hid (show ∀ l, (∀ t ∈ l, groundB 4 t = true) → s.data.toList = termsL l → CanL l (sfx (T ++ [⟨0, ByteArray.empty, s.size⟩]) 0) from fun l hg hl => can_of_lex hL hg hl)
    clear hL
    obtain ⟨TT, eTT⟩ : ∃ TT, TT = T ++ [(⟨0, ByteArray.empty, s.size⟩ : Tok)] := ⟨_, rfl⟩
    rw [← eTT] at h1 hcan
    clear eTT T
    have hmx := h1.short
    have hmx2 := h1.toks.2.2.1
    have hcp := h1.toks.2.1
    have hgc := hid h1.block
    have hxl := h1.has.lt
    have hw1 := o1.size
    obtain ⟨t, ht⟩ : ∃ t, TT[0]? = some t := ⟨_, List.getElem?_eq_getElem h1.lt⟩
    have hlt1 := h1.lt
    have hs0 := hid (sfx_cons ht)
    obtain ⟨g, o, rfl, x0, x1, x2, x3, c0, c1, c2⟩ := h1.cells ht
    obtain ⟨K, S, P⟩ := t
    have hkn : (0 : Int) < TT.length := by omega
    rw [Nat.zero_mul, Nat.add_zero] at c0
    have H1 := hid h1
    have O1 := hid o1
    have hM1 := hid (show K ≠ 0 → MoreL (sfx TT 0) [] (sfx TT 0) from fun hK => MoreL.first hs0.out hK)
    have hM0 := hid (show K = 0 → FinL (sfx TT 0) [] (sfx TT 0) from fun hK => FinL.start hs0.out hK)
    clear h1 o1 ht
    have hrel0 : ∀ (nq : Nat), ∃ (ts : List Tm) (k : Nat) (a ee : Int) (B : Bool), Value.bool (!(K == 0)) = .bool B ∧ Hid (OwnM 2 TmC w1.heap.size 76 (w1.drewN nq) (.slice none 0 0) ts) ∧ RrAt (w1.drewN nq) x (some ⟨g, o, none⟩) cap TT k a ee ∧ Hid (ee = 0 → B = true → MoreL (sfx TT 0) ts (sfx TT k)) ∧ Hid (ee = 0 → B = false → FinL (sfx TT 0) ts (sfx TT k)) ∧ Hid (ee ≠ 0 → ∀ l, ¬ CanL l (sfx TT 0)) ∧ Hid (ee = 0 → ts.length ≤ k) ∧ Below w.heap.size w (w1.drewN nq) ∧ w1.heap.size ≤ (w1.drewN nq).heap.size := fun nq =>
      ⟨[], 0, 0, 0, !(K == 0), rfl, hid (OwnM.nil _ _ _ _ _), H1.out.below (below_drew w1.heap.size nq) (Nat.le_refl _), hid (fun _ h => hM1.out (by simpa using h)), hid (fun _ h => hM0.out (by simpa using h)), hid (fun h => absurd rfl h), hid (fun _ => Nat.le_refl _), O1.out.trans ((below_drew w1.heap.size nq).mono hw1), Nat.le_refl _⟩
    have Hrel0 := hid hrel0
    clear hrel0
    go_wp2
    go_quiet (fail)
    go_wp2
    go_loopw [6, 7] (fun v m wr => ∃ (ts : List Tm) (k : Nat) (a ee : Int) (B : Bool), m = .bool B ∧ Hid (OwnM 2 TmC w1.heap.size 76 wr v ts) ∧ RrAt wr x (some ⟨g, o, none⟩) cap TT k a ee ∧ Hid (ee = 0 → B = true → MoreL (sfx TT 0) ts (sfx TT k)) ∧ Hid (ee = 0 → B = false → FinL (sfx TT 0) ts (sfx TT k)) ∧ Hid (ee ≠ 0 → ∀ l, ¬ CanL l (sfx TT 0)) ∧ Hid (ee = 0 → ts.length ≤ k) ∧ Below w.heap.size w wr ∧ w1.heap.size ≤ wr.heap.size) (fun _ _ wr => (TT.length - (intOf ((wr.cell? ⟨x, 1, none⟩).getD undef)).toNat) + (if intOf ((wr.cell? ⟨x, 3, none⟩).getD undef) = 0 then 1 else 0))
    case atStart => exact Hrel0.out nq
    case round =>
      clear Hrel0 x0 x1 x2 x3 c0 c1 c2
      obtain ⟨ts, k, a, ee, B, rfl, own, h5, hmore, hfinl, hnol, hts, oW, hbw⟩ := hrel
      have xr1 : wr.cell? ⟨x, 1, none⟩ = some (.int .i64 k) := h5.has.cell (j := 1) rfl
      have xr3 : wr.cell? ⟨x, 3, none⟩ = some (.int .i64 ee) := h5.has.cell (j := 3) rfl
      have h5lt := h5.lt
      obtain ⟨t5, ht5⟩ : ∃ t5, TT[k]? = some t5 := ⟨_, List.getElem?_eq_getElem h5.lt⟩
      have hsk := hid (sfx_cons ht5)
      by_cases hee : ee = 0 ∧ B = true
      · obtain ⟨he0, hB0⟩ := hee
        subst he0
        subst hB0
        have hmoreA := hid (hmore.out rfl rfl)
        have htsA := hts.out rfl
        clear hmore hfinl hnol hts
        go_wp2_with fail
        refine (rterm_any 4 (Nat.le_refl _) x (some ⟨g, o, none⟩) cap TT k a 1 _ (by omega) h5).mono ?_
        rintro e w7 ⟨⟨n7, v7, u7, k7, a7, e7, rfl, hR7, h7, hk7, hke7, hc7⟩, o7⟩
        have hu7 := term_one hR7.now
        have own7 := (own.out.only o7 (by simp; omega)).alloc (.cells #[.string n7, v7] 76)
        have oW7 := o7.toBelow oW (by simp; omega) (by omega)
        have o7s := o7.size
        have hR8 := (hR7.weak (S' := fun j => w1.heap.size ≤ j ∧ u6.ownBlock ≠ some j) (fun j _ hj => ⟨by have hj' : wr.heap.size ≤ j := hj; omega, fun e => by have := (own.out.lt _ e).2; have hj' : wr.heap.size ≤ j := hj; omega⟩)).below ((Below.refl w7.heap.size w7).alloc (Nat.le_refl _) (.cells #[.string n7, v7] 76)) (Nat.le_refl _)
        have h8 := h7.below ((Below.refl w7.heap.size w7).alloc (Nat.le_refl _) (.cells #[.string n7, v7] 76)) (Nat.le_refl _)
        have oW8 := oW7.alloc oW7.size (.cells #[.string n7, v7] 76)
        have h7lt := h7.lt
        have hc7' := hid hc7
        have hke7' := hid hke7
        clear hc7 hR7 h7 o7 own oW h5 hke7
        go_wp2_with (at_builtin; go_must (refine wpList_append_run rfl (.tmp 37) (.tmp 40) 43 rfl u6 (.slice (some ⟨w7.heap.size, 0, none⟩) 1 1) (by rfl) (by rfl) (term_append (own := own7) (Hg := Has.new w7 #[.string n7, v7] 76) hu7 hR8 (by omega) (by simp; omega)) ?_); rintro v9 w9 ⟨own9, b9, _, _⟩)
        have h9 := h8.low b9 hxl hgc.out
        have oW9 := hid (oW8.trans (b9.mono hw1))
        have b9s := b9.size
        have own9h := hid own9
        have hal : (w7.alloc (.cells #[.string n7, v7] 76)).heap.size = w7.heap.size + 1 := by simp
        obtain ⟨t8, ht8⟩ : ∃ t8, TT[k7]? = some t8 := ⟨_, List.getElem?_eq_getElem h9.lt⟩
        have hs8 := hid (sfx_cons ht8)
        clear own9 own7 hR8 h8 oW8 oW7 b9 hu7
        go_wp2_with fail
        refine (ris_any ⟨#[44]⟩ x (some ⟨g, o, none⟩) cap TT k7 a7 e7 t8 _ h9 ht8).mono ?_
        rintro e w10 ⟨rfl, o10⟩
        rw [show (⟨#[44]⟩ : ByteArray).data.toList = [44] from rfl]
        have o10s := o10.size
        have h10 := h9.below o10 (Nat.le_refl _)
        have own10 := hid (own9h.out.below o10 (Nat.le_refl _))
        have oW10 := hid (oW9.out.trans (o10.mono oW9.out.size))
        have x10 : w10.cell? ⟨x, 1, none⟩ = some (.int .i64 k7) := h10.has.cell (j := 1) rfl
        have x103 : w10.cell? ⟨x, 3, none⟩ = some (.int .i64 e7) := h10.has.cell (j := 3) rfl
        clear own9h oW9 h9 o10
        by_cases he7 : e7 = 0
        · subst he7
          have hkk7 := hke7'.out rfl
          have hli := hid (hmoreA.out.step (fun a p h => ((hc7'.out a p h)).2))
          rw [show ((0 : Int) == 0) = true from rfl, Bool.true_and]
          obtain ⟨B8, eB8⟩ : ∃ B, isB t8 [44] = B := ⟨_, rfl⟩
          have hB8 := hid ((isB_kt t8 [44]).symm.trans eB8)
          cases B8
          · rw [eB8]
            have hf := hid (show FinL (sfx TT 0) (ts ++ [u7]) (sfx TT k7) by rw [hs8.out]; exact ListInv.fin (by rw [← hs8.out]; exact hli.out) hB8.out)
            clear eB8
            go_wp2
            go_roundw
            case rel => exact ⟨ts ++ [u7], k7, a7, 0, false, rfl, own10, h10, hid (fun _ h => absurd h (by decide)), hid (fun _ _ => hf.out), hid (fun h => absurd rfl h), hid (fun _ => by simp; omega), oW10.out, by omega⟩
            case measure => rw [xr1, xr3, x10, x103]; simp [intOf]; omega
          · rw [eB8]
            have hf := hid (show MoreL (sfx TT 0) (ts ++ [u7]) (sfx TT (k7 + 1)) from ListInv.more (by rw [← hs8.out]; exact hli.out) hB8.out)
            have hk81 := h10.stop k7 h10.lt (fun e0 => by
              rw [List.getElem?_eq_getElem h10.lt] at ht8
              rw [Option.some.inj ht8] at e0
              unfold isB at eB8
              rw [e0] at eB8
              simp at eB8)
            have z10 := h10.has.free 1
            have h11 : RrAt (w10.setCell ⟨x, 1, none⟩ (.int .i64 ((k7 : Int) + 1))) x (some ⟨g, o, none⟩) cap TT (k7 + 1) a7 0 := h10.next hk81
            have own11 := hid (own10.out.only ((Only.refl [x] w10).setIn (b := x) (o := 1) (by simp) (.int .i64 ((k7 : Int) + 1))) (by simp; omega))
            have oW11 := hid (oW10.out.setCell (p := ⟨x, 1, none⟩) hx (.int .i64 ((k7 : Int) + 1)))
            have x11 : (w10.setCell ⟨x, 1, none⟩ (.int .i64 ((k7 : Int) + 1))).cell? ⟨x, 1, none⟩ = some (.int .i64 ((k7 + 1 : Nat) : Int)) := h11.has.cell (j := 1) rfl
            have x113 : (w10.setCell ⟨x, 1, none⟩ (.int .i64 ((k7 : Int) + 1))).cell? ⟨x, 3, none⟩ = some (.int .i64 0) := h11.has.cell (j := 3) rfl
            clear eB8 h10 own10 oW10
            go_wp2
            go_roundw
            case rel => exact ⟨ts ++ [u7], k7 + 1, a7, 0, true, rfl, own11, h11, hid (fun _ _ => hf.out), hid (fun _ h => absurd h (by decide)), hid (fun h => absurd rfl h), hid (fun _ => by simp; omega), oW11.out, by simp [World.setCell]; omega⟩
            case measure => rw [xr1, xr3, x11, x113]; simp [intOf]; omega
        · have he7b : (e7 == 0) = false := by rw [beq_eq_false_iff_ne]; exact he7
          have hno7 := hid (hmoreA.out.none (fun u r h => he7 (hc7'.out u r h).1))
          have hne7 := hid he7
          rw [he7b, Bool.false_and]
          clear hke7'
          go_wp2
          go_roundw
          case rel => exact ⟨ts ++ [u7], k7, a7, e7, false, rfl, own10, h10, hid (fun h => absurd h hne7.out), hid (fun h => absurd h hne7.out), hid (fun _ => hno7.out), hid (fun h => absurd h hne7.out), oW10.out, by omega⟩
          case measure => rw [xr1, xr3, x10, x103]; simp [intOf, he7]; omega
      · have hend := hid (show ∀ e', Ended ee t5.kind e' → ∀ l, CanL l (sfx TT 0) → ts = l ∧ e' = 0 from fun e' he l hl => by
          by_cases he0 : ee = 0
          · have hB0 : B = false := by
              rcases B with _ | _
              · rfl
              · exact absurd ⟨he0, rfl⟩ hee
            obtain ⟨e1, e2⟩ := hfinl.out he0 hB0 l hl
            rw [hsk.out] at e2
            simp only [List.cons.injEq] at e2
            exact ⟨e1, he.2 ⟨he0, by have := e2.1; unfold kt at this; exact congrArg Prod.fst this⟩⟩
          · exact absurd hl (hnol.out he0 l))
        clear hmore hfinl hnol hts
        by_cases he0 : ee = 0
        · subst he0
          have hB0 : B = false := by
            rcases B with _ | _
            · rfl
            · exact absurd ⟨rfl, rfl⟩ hee
          subst hB0
          clear hee
          go_wp2_with fail
          refine (rend_any x (some ⟨g, o, none⟩) cap TT k a 0 t5 _ h5 ht5).mono ?_
          rintro e w11 ⟨rfl, ⟨a11, e11, h11, hE⟩, o11⟩
          have own11 := hid ((own.out.only o11 (by simp; omega)).rebase (base' := w.heap.size) hw1)
          have oW11 := hid (o11.toBelow oW (by simp; omega) oW.size)
          have hend11 := hid (fun l hg hl => hend.out e11 hE l (hcan.out l hg hl))
          have q2 : w11.cell? ⟨x, 2, none⟩ = some (.int .i64 a11) := h11.has.cell (j := 2) rfl
          have q3 : w11.cell? ⟨x, 3, none⟩ = some (.int .i64 e11) := h11.has.cell (j := 3) rfl
          clear own oW h5 h11 o11 hE
          by_cases he11 : e11 = 0
          · subst he11
            go_wp2
            exact bodyPost_ret (v := .tuple #[u6, .int .i64 0, .int .i64 0]) (by simp [results, Tryz.results85, go_sem]) rfl ⟨⟨u6, ts, 0, 0, rfl, own11.out, fun l hg hn hl => ⟨(hend11.out l hg hl).1, rfl⟩⟩, oW11.out⟩
          · have he11b : (e11 == 0) = false := by rw [beq_eq_false_iff_ne]; exact he11
            have hno11 := hid he11
            clear he11
            go_wp2
            go_quiet (fail)
            go_wp2
            exact bodyPost_ret (v := .tuple #[.slice none 0 0, .int .i64 a11, .int .i64 e11]) (by simp [results, Tryz.results85, go_sem]) rfl ⟨⟨_, [], a11, e11, rfl, OwnM.nil _ _ _ _ _, fun l hg hn hl => absurd (hend11.out l hg hl).2 hno11.out⟩, oW11.out.trans ((below_drew w11.heap.size nq).mono oW11.out.size)⟩
        · have he0b : (ee == 0) = false := by rw [beq_eq_false_iff_ne]; exact he0
          clear he0 hee
          go_wp2_with fail
          refine (rend_any x (some ⟨g, o, none⟩) cap TT k a ee t5 _ h5 ht5).mono ?_
          rintro e w11 ⟨rfl, ⟨a11, e11, h11, hE⟩, o11⟩
          have own11 := hid ((own.out.only o11 (by simp; omega)).rebase (base' := w.heap.size) hw1)
          have oW11 := hid (o11.toBelow oW (by simp; omega) oW.size)
          have hend11 := hid (fun l hg hl => hend.out e11 hE l (hcan.out l hg hl))
          have q2 : w11.cell? ⟨x, 2, none⟩ = some (.int .i64 a11) := h11.has.cell (j := 2) rfl
          have q3 : w11.cell? ⟨x, 3, none⟩ = some (.int .i64 e11) := h11.has.cell (j := 3) rfl
          clear own oW h5 h11 o11 hE
          by_cases he11 : e11 = 0
          · subst he11
            go_wp2
            exact bodyPost_ret (v := .tuple #[u6, .int .i64 0, .int .i64 0]) (by simp [results, Tryz.results85, go_sem]) rfl ⟨⟨u6, ts, 0, 0, rfl, own11.out, fun l hg hn hl => ⟨(hend11.out l hg hl).1, rfl⟩⟩, oW11.out⟩
          · have he11b : (e11 == 0) = false := by rw [beq_eq_false_iff_ne]; exact he11
            have hno11 := hid he11
            clear he11
            go_wp2
            go_quiet (fail)
            go_wp2
            exact bodyPost_ret (v := .tuple #[.slice none 0 0, .int .i64 a11, .int .i64 e11]) (by simp [results, Tryz.results85, go_sem]) rfl ⟨⟨_, [], a11, e11, rfl, OwnM.nil _ _ _ _ _, fun l hg hn hl => absurd (hend11.out l hg hl).2 hno11.out⟩, oW11.out.trans ((below_drew w11.heap.size nq).mono oW11.out.size)⟩
  · have hbad' := hid hbad
    have hne' := hid hne
    have heb : (er == 0) = false := by rw [beq_eq_false_iff_ne]; exact hne
    have x0 := H1.cell (j := 0) rfl
    have x1 := H1.cell (j := 1) rfl
    have x3 := H1.cell (j := 3) rfl
    have hrel0 := hid (fun (nq : Nat) => (show Has (w1.drewN nq) x #[.slice none 0 0, .int .i64 0, .int .i64 a, .int .i64 er] 139 ∧ Below w.heap.size w (w1.drewN nq) from ⟨H1.below (below_drew w1.heap.size nq) H1.lt, o1.trans ((below_drew w1.heap.size nq).mono o1.size)⟩))
    clear hbad hne H1 o1
    go_wp2
    go_quiet (fail)
    go_wp2
    go_loopw [6] (fun v wr => v = .slice none 0 0 ∧ Has wr x #[.slice none 0 0, .int .i64 0, .int .i64 a, .int .i64 er] 139 ∧ Below w.heap.size w wr) (fun _ _ => 0)
    case atStart => exact ⟨rfl, hrel0.out nq⟩
    case round =>
      clear hrel0 x0 x1 x3
      obtain ⟨rfl, H2, o2⟩ := hrel
      have x3 := H2.cell (j := 3) rfl
      have o2' := hid o2
      clear o2
      go_wp2_with fail
      refine (rend_bad x a er _ H2 hne'.out).mono ?_
      rintro e w3 ⟨rfl, o3⟩
      have H3 := H2.below o3 H2.lt
      have y2 := H3.cell (j := 2) rfl
      have y3 := H3.cell (j := 3) rfl
      have O3 := hid (o2'.out.trans (o3.mono o2'.out.size))
      clear H2 H3 o3 x3
      go_wp2
      go_quiet (fail)
      go_wp2
      exact bodyPost_ret (v := .tuple #[.slice none 0 0, .int .i64 a, .int .i64 er]) (by simp [results, Tryz.results85, go_sem]) rfl ⟨⟨_, [], a, er, rfl, OwnM.nil _ _ _ _ _, fun l hg hn hl => (bad_of_lex hbad'.out l hg hn hl).elim⟩, O3.out.trans ((below_drew w3.heap.size nq).mono O3.out.size)⟩
end Go.Proofs.YtahbhhenobehfaaGreatDoor
