/-
  The walks of the parser's terms.
-/
import Derived.Test.YtahbhhenobehfaaGreatDoorM31
import Derived.Deep.RegionLaw
namespace Go.Proofs.YtahbhhenobehfaaGreatDoor
open Go.ChangeShapes Go.WideShapes Go.ChangeAt Go.RowKit

theorem info_term : (Tryz.prog.info? 76).map (fun i => (i.zero, i.size, i.bytes)) = some (some (.agg #[.string ⟨#[]⟩, .slice none 0 0]), 2, 40) := by kernel_rfl
/-- A call of a function by its name that may panic, at a step of a region that draws its order. -/
theorem step_call_or {P : Program} {w : World} {ops : Array Oper} {o : Oper} {a : Act} {K : Act → World → Prop} {Q : Exit → Act → World → Prop} {E : Prop} (hgd : o.guard = none) (f : FuncId) (xs : Array Operand) (ts : Array TypeId)
    (ho : o.op = .call { callee := .value (.func f), args := xs, argTypes := ts }) (hcf : ∀ (xv : Array Value) (wx : World), (callFunc f xv).run P wx = .ok (.enter f xv) wx) (args : Array Value) (hx : xs.map a.eval = args) {R : Value → World → Prop} {R' : List PanicEntry → World → Prop}
    (hr : Calls P f args w fun e w' => (∃ v, e = .returned v ∧ R v w') ∨ (∃ c, e = .panicked c ∧ R' c w')) (hp : ∀ c w', R' c w' → Q (.panic c) a w') (h : ∀ v w', R v w' → K (a.put o.dst v) w') :
    if Region.wanted o (yielded ops a.tmps) = true then Oper.wp P o a w K Q else E := by
  have hw : Region.wanted o (yielded ops a.tmps) = true := by simp [Region.wanted, hgd]
  rw [if_pos hw]
  have he : (execOp a.eval o).run P w = .ok (.enter f args) w := by
    unfold execOp
    simp [ho, resolve, invoke, go_sem, Act.eval, hx, hcf]
  unfold Oper.wp
  rw [he, Oper.upon_enter]
  refine hr.mono ?_
  rintro e w' (⟨v, rfl, hR⟩ | ⟨c, rfl, hR⟩)
  · exact h v w' hR
  · exact hp c w' hR
theorem term_append {w : World} {base g : Nat} {v : Value} {T : List Tm} {n : ByteArray} {u : Value} {t : Tm} (own : OwnM 2 TmC base 76 w v T) (Hg : Has w g #[.string n, u] 76) (hu : u.oneCell' = true) (hR : RestsM TmC (fun k => base ≤ k ∧ v.ownBlock ≠ some k) w [.string n, u] t) (hT : T.length ≤ 1000000) (hb : base ≤ w.heap.size) :
    ∃ v' w', (Builtin.append_ #[43, 43] 43 #[v, .slice (some ⟨g, 0, none⟩) 1 1]).run Tryz.prog w = .ok v' w' ∧ OwnM 2 TmC base 76 w' v' (T ++ [t]) ∧ Below base w w' ∧ Agr (fun k => v.ownBlock ≠ some k) w w' ∧ ∀ g, v'.ownBlock = some g → v.ownBlock = some g ∨ w.heap.size ≤ g := by
  obtain ⟨i0, hi, hz0, hz1, hz2⟩ := info_parts info_term
  refine run_appendM w base 43 43 76 i0 _ 40 Tryz.underlying43 hi hz0 hz1 hz2 rfl (by omega) v T own ⟨g, 0, none⟩ 1 [.string n, u] t rfl ?_ ?_ hR (by unfold maxLen; omega) (by omega) hb
  · intro j z hz
    have e2 : (⟨g, 0, none⟩ : Addr).add j = ⟨g, 0 + j, none⟩ := by unfold Addr.add; split <;> simp_all
    rw [e2, Nat.zero_add]
    exact Hg.cell (by simpa using hz)
  · intro z hz
    simp only [List.mem_cons, List.mem_nil_iff, or_false] at hz
    rcases hz with rfl | rfl
    · rfl
    · exact hu
theorem RdAt.other {w : World} {x c : Nat} {ad : Option Addr} {cap : Nat} {T : List Tok} {k o : Nat} (h : RdAt w x ad cap T k) (hc : x ≠ c) (hg : ∀ b o, ad = some ⟨b, o, none⟩ → b ≠ c) (u : Value) : RdAt (w.setCell ⟨c, o, none⟩ u) x ad cap T k :=
  ⟨h.has.other (by simpa using hc) u, h.toks.only ((Only.refl [c] w).setIn (by simp) _) (fun b o e => by simpa using hg b o e), h.lt, h.apart, h.stop, h.fine, h.short⟩
theorem RdAt.low {w w' : World} {x B : Nat} {ad : Option Addr} {cap : Nat} {T : List Tok} {k : Nat} (h : RdAt w x ad cap T k) (hb : Below B w w') (hx : x < B) (hg : ∀ b o, ad = some ⟨b, o, none⟩ → b < B) : RdAt w' x ad cap T k :=
  ⟨h.has.below hb hx, ⟨h.toks.1, h.toks.2.1, h.toks.2.2.1, fun j hj => by
    obtain ⟨b, o, us, e, hl, hc, hv⟩ := h.toks.2.2.2 j hj
    exact ⟨b, o, us, e, hl, fun i hi => (hb.cell (p := ⟨b, o + j * 3 + i, none⟩) (hg b o e)).trans (hc i hi), hv⟩⟩, h.lt, h.apart, h.stop, h.fine, h.short⟩
theorem RdAt.block {w : World} {x : Nat} {ad : Option Addr} {cap : Nat} {T : List Tok} {k : Nat} (h : RdAt w x ad cap T k) : ∀ b o, ad = some ⟨b, o, none⟩ → b < w.heap.size := fun b o e => by
  obtain ⟨g, o', e2, _, _, c0, _⟩ := h.cells
  rw [e] at e2
  cases e2
  exact lt_of_cell c0
/-- How a call that reads a term ends. -/
def TermSaid (d : Nat) (x : Nat) (ad : Option Addr) (cap : Nat) (T : List Tok) (k : Nat) (w : World) (e : Ending) (w' : World) : Prop :=
  ((∃ n v t k', e = .returned (.agg #[.string n, v]) ∧ RestsM TmC (fun j => w.heap.size ≤ j) w' [.string n, v] t ∧ RdAt w' x ad cap T k' ∧ k < k' ∧ ∀ u r, Can d u (sfx T k) r → t = u ∧ sfx T k' = r) ∨ (Viol e ∧ ∀ u r, ¬ Can d u (sfx T k) r)) ∧ Only [x] w w'
theorem term_one {w : World} {n : ByteArray} {a : Value} {t : Tm} (h : TmC w [.string n, a] t) : a.oneCell' = true := by
  obtain ⟨s, a', e, hv⟩ := h
  simp only [List.cons.injEq, and_true] at e
  obtain ⟨_, rfl⟩ := e
  match t, hv with
  | .mk m l, hv =>
    obtain ⟨_, _, ad, cap, rfl, _⟩ := hv
    rfl
/-- A call that reads a term, as a region that draws its order asks for it. -/
theorem TermSaid.parts {d : Nat} {x : Nat} {ad : Option Addr} {cap : Nat} {T : List Tok} {k : Nat} {w : World} {f : FuncId} {args : Array Value} (h : Calls Tryz.prog f args w (TermSaid d x ad cap T k w)) :
    Calls Tryz.prog f args w fun e w' => (∃ v, e = .returned v ∧ ∃ n a t k', v = .agg #[.string n, a] ∧ RestsM TmC (fun j => w.heap.size ≤ j) w' [.string n, a] t ∧ RdAt w' x ad cap T k' ∧ k < k' ∧ (∀ u r, Can d u (sfx T k) r → t = u ∧ sfx T k' = r) ∧ Only [x] w w') ∨
      (∃ c, e = .panicked c ∧ Viol (.panicked c) ∧ (∀ u r, ¬ Can d u (sfx T k) r) ∧ Only [x] w w') := by
  refine h.mono ?_
  rintro e w' ⟨⟨n, a, t, k', rfl, h1, h2, h3, h4⟩ | ⟨⟨p, er, rfl⟩, h2⟩, ho⟩
  · exact Or.inl ⟨_, rfl, n, a, t, k', rfl, h1, h2, h3, h4, ho⟩
  · exact Or.inr ⟨_, rfl, ⟨p, er, rfl⟩, h2, ho⟩
theorem isB_kt (t : Tok) (s : List UInt8) : isB t s = isK (kt t) s := rfl
set_option maxRecDepth 20000 in
set_option maxHeartbeats 8000000 in
theorem compound_step (d : Nat) (hd : d ≤ 3)
    (hterm : ∀ (x : Nat) (ad : Option Addr) (cap : Nat) (T : List Tok) (k : Nat) (L : Int) (w : World), L = 5 - (d : Int) → RdAt w x ad cap T k → Calls Tryz.prog 146 #[.pointer (some ⟨x, 0, none⟩), .int .i64 L] w (TermSaid d x ad cap T k w))
    (x : Nat) (ad : Option Addr) (cap : Nat) (T : List Tok) (k : Nat) (t : Tok) (L1 : Int) (w : World) (hL : L1 = 4 - (d : Int)) (h : RdAt w x ad cap T k) (ht : T[k]? = some t) (hk1 : t.kind = 1) :
    Calls Tryz.prog 177 #[.pointer (some ⟨x, 0, none⟩), .int .i64 L1] w (TermSaid (d + 1) x ad cap T k w) := by
  have hL1 : L1 ≤ 4 := by omega
  have hL0 : 1 ≤ L1 := by omega
  have HL := hid hL
  clear hL
  have hsz := h.has.lt
  have hgw := h.block
  have hnx : k + 1 < T.length := h.stop k h.lt (by rw [List.getElem?_eq_getElem h.lt] at ht; rw [Option.some.inj ht, hk1]; decide)
  have hfin := h.fine
  have hsh := h.short
  obtain ⟨t1, ht1⟩ : ∃ t1, T[k + 1]? = some t1 := ⟨_, List.getElem?_eq_getElem hnx⟩
  have hs0 := hid (sfx_cons ht)
  have hs1 := hid (sfx_cons ht1)
  obtain ⟨K, S, P⟩ := t
  have hSs := hid (show S.size ≤ maxLen from hfin ⟨K, S, P⟩ (List.mem_of_getElem? ht))
  have hK1 := hid (show K = 1 from hk1)
  clear hk1
  have fd1 := tok_field1 K P S
  have b0 : Below w.heap.size w (w.alloc (.cells #[.string ⟨#[]⟩, .slice none 0 0] 76)) := (Below.refl _ _).alloc (Nat.le_refl _) _
  have HC := Has.new w #[.string ⟨#[]⟩, .slice none 0 0] 76
  have h0 := h.below b0 (Nat.le_refl _)
  have Hterm := hid hterm
  clear hterm
  go_enter Tryz.func177, Tryz.ntmps177
  go_wp2_with fail
  refine (token_any x ad cap T k _ _ h0 ht).mono ?_
  rintro e w1 ⟨rfl, o1⟩
  have h1 := h0.below o1 (Nat.le_refl _)
  have HC1 := HC.below o1 HC.lt
  have b1 := b0.trans (o1.mono b0.size)
  have b1s := b1.size
  have hcw : w.heap.size < w1.heap.size := HC1.lt
  clear h h0 HC b0 o1
  obtain ⟨w2, ew2⟩ : ∃ w2, w2 = w1.alloc (.cells #[.string S, .slice none 0 0] 76) := ⟨_, rfl⟩
  have h2 := h1.below ((Below.refl _ _).alloc (Nat.le_refl _) (.cells #[.string S, .slice none 0 0] 76)) (Nat.le_refl _)
  have HY := Has.new w1 #[.string S, .slice none 0 0] 76
  have HC2 := HC1.alloc (.cells #[.string S, .slice none 0 0] 76)
  have b2 := b1.alloc b1s (.cells #[.string S, .slice none 0 0] 76)
  have x1 : (w1.alloc (.cells #[.string S, .slice none 0 0] 76)).cell? ⟨x, 1, none⟩ = some (.int .i64 k) := h2.has.cell (j := 1) rfl
  have z1 := h2.has.free 1
  have hk9 : (k : Int) ≤ 1000000 := by omega
  have h3 := h2.next hnx
  have oX : Only [x] w ((w1.alloc (.cells #[.string S, .slice none 0 0] 76)).setCell ⟨x, 1, none⟩ (.int .i64 ((k : Int) + 1))) := (Only.ofBelow b2 (Nat.le_refl _)).setIn (by simp) _
  go_wp2_with fail
  refine (accept_any ⟨#[40]⟩ x ad cap T (k + 1) t1 _ h3 ht1).mono ?_
  rintro e w3 ⟨rfl, h4, o3⟩
  have hgb := hid h4.block
  have hB := hid (isB_kt t1 [40])
  have HY3 := (HY.other (a := ⟨x, 1, none⟩) (by simp; omega) (.int .i64 ((k : Int) + 1))).only o3 (by simp; omega)
  have HC3 := (HC2.other (a := ⟨x, 1, none⟩) (by simp; omega) (.int .i64 ((k : Int) + 1))).only o3 (by simp; omega)
  have oW := oX.trans o3 (by simp)
  have o3s := o3.size
  have hgc := hid (show ∀ b o, ad = some ⟨b, o, none⟩ → b < w.heap.size from hgw)
  have hys0 : w1.heap.size + 1 ≤ ((w1.alloc (.cells #[.string S, .slice none 0 0] 76)).setCell ⟨x, 1, none⟩ (.int .i64 ((k : Int) + 1))).heap.size := by simp [World.setCell]
  have hys : w1.heap.size + 1 ≤ w3.heap.size := Nat.le_trans hys0 o3s
  clear hys0 ew2 w2
  rw [show (⟨#[40]⟩ : ByteArray).data.toList = [40] from rfl] at h4 ⊢
  obtain ⟨B, eB⟩ : ∃ B, isB t1 [40] = B := ⟨_, rfl⟩
  rw [eB] at h4 hB ⊢
  clear eB h3 h2 h1 HY HC2 HC1 x1 z1 b2 oX o3 b1
  cases B
  · have HY3' := HY3
    have HC3' := HC3
    have y0 : w3.cell? ⟨w1.heap.size, 0, none⟩ = some (.string S) := HY3.cell (j := 0) rfl
    have y1 : w3.cell? ⟨w1.heap.size, 1, none⟩ = some (.slice none 0 0) := HY3.cell (j := 1) rfl
    have q0 := HC3.cell (j := 0) rfl
    have q1 := HC3.cell (j := 1) rfl
    have z0 := HC3.free 0
    have z1 := HC3.free 1
    have HC4 := (HC3.set 0 (.string S)).set 1 (.slice none 0 0)
    have r0 : ((w3.setCell ⟨w.heap.size, 0, none⟩ (.string S)).setCell ⟨w.heap.size, 1, none⟩ (.slice none 0 0)).cell? ⟨w.heap.size, 0, none⟩ = some (.string S) := HC4.cell (j := 0) rfl
    have r1 : ((w3.setCell ⟨w.heap.size, 0, none⟩ (.string S)).setCell ⟨w.heap.size, 1, none⟩ (.slice none 0 0)).cell? ⟨w.heap.size, 1, none⟩ = some (.slice none 0 0) := HC4.cell (j := 1) rfl
    have h5 := (h4.other (c := w.heap.size) (o := 0) (by omega) (fun b o e => by have := hgc.out b o e; omega) (.string S)).other (c := w.heap.size) (o := 1) (by omega) (fun b o e => by have := hgc.out b o e; omega) (.slice none 0 0)
    have oZ := (oW.setNew (b := w.heap.size) (o := 0) (Nat.le_refl _) (.string S)).setNew (b := w.heap.size) (o := 1) (Nat.le_refl _) (.slice none 0 0)
    have hcan := hid (show ∀ u r, Can (d + 1) u (sfx T k) r → Tm.mk S [] = u ∧ sfx T (k + 1) = r from fun u r hu => by
      rw [hs0.out] at hu
      rcases hu.cases with ⟨s, rfl, _, e1, e2, _⟩ | ⟨s, l, rfl, _, _, _, _, _, e3⟩
      · have : s = S := ba_ext e1.symm
        subst this
        exact ⟨rfl, e2⟩
      · rw [hs1.out] at e3
        simp only [List.cons.injEq] at e3
        have := hB.out
        rw [e3.1] at this
        cases this)
    clear HY3 HC3 HC4 h4 oW
    go_wp2
    refine bodyPost_ret (v := .agg #[.string S, .slice none 0 0]) (by simp [results, Tryz.results177, go_sem, r0, r1]) rfl ⟨Or.inl ⟨S, .slice none 0 0, .mk S [], k + 1, rfl, rests_term hSs.out (OwnM.nil _ _ _ 76 _), h5, by omega, hcan.out⟩, oZ⟩
  · rw [if_pos rfl] at h4
    have hlt4 := h4.lt
    have hrel0 : ∃ (ts : List Tm) (v : Value) (kk : Nat), Has w3 w1.heap.size #[.string S, v] 76 ∧ Hid (Has w3 w.heap.size #[.string ⟨#[]⟩, .slice none 0 0] 76) ∧ Hid (OwnM 2 TmC (w1.heap.size + 1) 76 w3 v ts) ∧ RdAt w3 x ad cap T kk ∧ k < kk ∧ Hid (ArgsInv d S (sfx T k) ts (sfx T kk)) ∧ ts.length ≤ kk ∧ Only [x] w w3 ∧ w1.heap.size + 1 ≤ w3.heap.size :=
      ⟨[], .slice none 0 0, k + 1 + 1, HY3, hid HC3, hid (OwnM.nil _ _ _ _ _), h4, by omega, hid (by
        rw [hs0.out, hs1.out]
        exact ArgsInv.start rfl (by rw [← hB.out])), Nat.zero_le _, oW, hys⟩
    have Hrel0 := hid hrel0
    clear hrel0 h4 HY3 HC3 oW hys hlt4
    go_wp2
    go_loopw [] (fun wr => ∃ (ts : List Tm) (v : Value) (kk : Nat), Has wr w1.heap.size #[.string S, v] 76 ∧ Hid (Has wr w.heap.size #[.string ⟨#[]⟩, .slice none 0 0] 76) ∧ Hid (OwnM 2 TmC (w1.heap.size + 1) 76 wr v ts) ∧ RdAt wr x ad cap T kk ∧ k < kk ∧ Hid (ArgsInv d S (sfx T k) ts (sfx T kk)) ∧ ts.length ≤ kk ∧ Only [x] w wr ∧ w1.heap.size + 1 ≤ wr.heap.size) (fun wr => T.length - (intOf ((wr.cell? ⟨x, 1, none⟩).getD undef)).toNat)
    case atStart => exact Hrel0.out
    case round =>
      clear Hrel0
      obtain ⟨ts, v, kk, HY, HC, own, h4, hkk, hinv, hts, oW, hbs⟩ := hrel
      obtain ⟨a5, c5, rfl⟩ := own.out.shape
      have hxq : wr.cell? ⟨x, 1, none⟩ = some (.int .i64 kk) := h4.has.cell (j := 1) rfl
      have y1 : wr.cell? ⟨w1.heap.size, 1, none⟩ = some (.slice a5 ts.length c5) := HY.cell (j := 1) rfl
      have HY := hid HY
      obtain ⟨t5, ht5⟩ : ∃ t5, T[kk]? = some t5 := ⟨_, List.getElem?_eq_getElem h4.lt⟩
      by_cases hl4 : ts.length = 4
      · have e4 : ((ts.length : Int) == 4) = true := by rw [hl4]; rfl
        have HL4 := hid hl4
        clear hl4
        have hC5 := hid (begins_tok x ad cap T kk t5 wr h4 ht5)
        obtain ⟨B5, eB5⟩ : ∃ B, B = beginsB t5 := ⟨_, rfl⟩
        rw [← eB5] at hC5
        clear eB5
        go_wp2_with fail
        refine hC5.out.mono ?_
        rintro e w5 ⟨rfl, o5⟩
        cases B5
        · have HYq := hid (HY.out.below o5 HY.out.lt)
          have HCq := hid (HC.out.below o5 HC.out.lt)
          have ownq := hid (own.out.below o5 (Nat.le_refl _))
          have h4q := h4.below o5 (Nat.le_refl _)
          have oWq := oW.below o5 oW.size
          have hbsq : w1.heap.size + 1 ≤ w5.heap.size := Nat.le_trans hbs o5.size
          have y1 : w5.cell? ⟨w1.heap.size, 1, none⟩ = some (.slice a5 ts.length c5) := HYq.out.cell (j := 1) rfl
          clear HY HC own h4 oW hbs
          have hcf : ∀ (xv : Array Value) (wx : World), (callFunc 146 xv).run Tryz.prog wx = .ok (.enter 146 xv) wx := fun xv wx => by simp [go_sem]
          have hYl := HYq.out.lt
          have hxY : x ≠ w1.heap.size := by omega
          have xwr : wr.cell? ⟨x, 1, none⟩ = some (.int .i64 kk) := hxq
          have hwr : IntKind.i64.wrap (L1 + 1) = L1 + 1 := by rw [IntKind.wrap_i64]; omega
          go_wp2
          go_region_law (first
            | (refine step_call_or rfl 146 _ _ rfl hcf #[.pointer (some ⟨x, 0, none⟩), .int .i64 (L1 + 1)] (by simp [Act.eval, Act.put]) (TermSaid.parts (Hterm.out x ad cap T kk (L1 + 1) _ (by have := HL.out; omega) (h4q.below ((Below.refl w5.heap.size w5).drew) (Nat.le_refl _)))) ?_ ?_
               · rintro c w6 ⟨⟨p, er, hc⟩, hno, o6⟩
                 cases hc
                 exact ⟨rfl, Or.inr ⟨⟨p, er, rfl⟩, fun u r hu => hinv.out.none hno hu⟩, oWq.trans (show Only [x] w5 w6 from ⟨o6.os, o6.tape, o6.output, o6.size, o6.block⟩) (by simp)⟩
               rintro v6 w6 ⟨n6, a6, t6, k6, rfl, hR6, h6, hk6, hc6, o6⟩
               have o6' : Only [x] w5 w6 := ⟨o6.os, o6.tape, o6.output, o6.size, o6.block⟩
               have HY6 := HYq.out.only o6' (by simp; omega)
               have y6 : w6.cell? ⟨w1.heap.size, 1, none⟩ = some (.slice a5 ts.length c5) := HY6.cell (j := 1) rfl
               have y6b : (w6.alloc (.cells #[.string n6, a6] 76)).cell? ⟨w1.heap.size, 1, none⟩ = some (.slice a5 ts.length c5) := (HY6.alloc _).cell (j := 1) rfl
               have hu6 := term_one hR6.now
               have o6s : w5.heap.size ≤ w6.heap.size := o6'.size)
            | (refine step_append_run rfl (.tmp 32) (.tmp 37) 43 rfl (.slice a5 ts.length c5) (.slice (some ⟨w6.heap.size, 0, none⟩) 1 1) (by rfl) (by rfl) (term_append (own := ((ownq.out.only o6' (by simp; omega)).alloc (.cells #[.string n6, a6] 76))) (Hg := Has.new w6 _ _) hu6 (((hR6.weak (S' := fun j => w1.heap.size + 1 ≤ j ∧ (Value.slice a5 ts.length c5).ownBlock ≠ some j) (fun j _ hj => ⟨Nat.le_trans hbsq hj, fun e => by have := (ownq.out.lt _ e).2; have hj' : w5.heap.size ≤ j := hj; omega⟩)).below ((Below.refl w6.heap.size w6).alloc (Nat.le_refl _) _) (Nat.le_refl _))) (by have := h4q.lt; omega) (by simp; omega)) ?_
               rintro v7 w7 ⟨own7, b7, hA7, hat7⟩
               obtain ⟨a7, c7, rfl⟩ := own7.shape
               have H7 : Has w7 w1.heap.size #[.string S, .slice a5 ts.length c5] 76 := (hA7.block _ (by simp; omega) (fun e => by have := (ownq.out.lt _ e).1; omega)).trans (HY6.alloc (.cells #[.string n6, a6] 76))
               have y7 : w7.cell? ⟨w1.heap.size, 1, none⟩ = some (.slice a5 ts.length c5) := H7.cell (j := 1) rfl
               have z7 := H7.free 1))
          all_goals
            have hown7 := own7
            simp only [List.length_append, List.length_cons, List.length_nil, Nat.zero_add] at hown7
            have bA := (Below.refl w6.heap.size w6).alloc (Nat.le_refl _) (.cells #[.string n6, a6] 76)
            have b7s := b7.size
            have hbA0 : (w6.alloc (.cells #[.string n6, a6] 76)).heap.size = w6.heap.size + 1 := by simp
            have hbA : w6.heap.size + 1 ≤ w7.heap.size := by omega
            have HY8 : Has (w7.setCell ⟨w1.heap.size, 1, none⟩ (.slice a7 (ts.length + 1) c7)) w1.heap.size #[.string S, .slice a7 (ts.length + 1) c7] 76 := by
              have := H7.set 1 (.slice a7 (ts.length + 1) c7)
              simpa using this
            have HC8 := hid ((((HCq.out.only o6' (by simp; omega)).alloc (.cells #[.string n6, a6] 76)).below b7 (by omega)).other (a := ⟨w1.heap.size, 1, none⟩) (by simp; omega) (.slice a7 (ts.length + 1) c7))
            have h8 := ((h6.below bA (Nat.le_refl _)).low b7 (by omega) (fun b o e => by have := hgc.out b o e; omega)).other (c := w1.heap.size) (o := 1) hxY (fun b o e => by have := hgc.out b o e; omega) (.slice a7 (ts.length + 1) c7)
            have oW8 := ((((oWq.trans o6' (by simp)).alloc (.cells #[.string n6, a6] 76)).below b7 (by omega)).setNew (b := w1.heap.size) (o := 1) (by omega) (.slice a7 (ts.length + 1) c7))
            have own8 := hid (hown7.only ((Only.refl [w1.heap.size] w7).setIn (b := w1.heap.size) (o := 1) (by simp) (.slice a7 (ts.length + 1) c7)) (by simp))
            have hs8 : w1.heap.size + 1 ≤ (w7.setCell ⟨w1.heap.size, 1, none⟩ (.slice a7 (ts.length + 1) c7)).heap.size := by simp [World.setCell]; omega
            obtain ⟨w8, ew8⟩ : ∃ w8, w8 = w7.setCell ⟨w1.heap.size, 1, none⟩ (.slice a7 (ts.length + 1) c7) := ⟨_, rfl⟩
            rw [← ew8] at HY8 HC8 h8 oW8 own8 hs8 ⊢
            obtain ⟨t8, ht8⟩ : ∃ t8, T[k6]? = some t8 := ⟨_, List.getElem?_eq_getElem h6.lt⟩
            have hs6 := hid (sfx_cons ht8)
            have hc6 := hid hc6
            clear ew8 own7 hown7 bA b7 hA7 hat7 H7 y7 z7 y6 y6b HY6 h6 hR6 hu6 o6 o6' ownq h4q oWq HCq HYq y1
            go_wp2_with fail
            refine (accept_any ⟨#[44]⟩ x ad cap T k6 t8 _ h8 ht8).mono ?_
            rintro e w9 ⟨rfl, h9, o9⟩
            rw [show (⟨#[44]⟩ : ByteArray).data.toList = [44] from rfl] at h9 ⊢
            have hB9 := hid (isB_kt t8 [44])
            obtain ⟨B9, eB9⟩ : ∃ B, isB t8 [44] = B := ⟨_, rfl⟩
            rw [eB9] at h9 hB9 ⊢
            clear eB9
            have HY9 := HY8.only o9 (by simp; omega)
            have HC9 := hid (HC8.out.only o9 (by simp; omega))
            have own9 := hid (own8.out.only o9 (by simp; omega))
            have oW9 := oW8.trans o9 (by simp)
            have o9s := o9.size
            clear HY8 HC8 own8 oW8 h8 o9
            cases B9
            · go_wp2_with fail
              refine (expect_any ⟨#[41]⟩ x ad cap T k6 t8 _ h9 ht8).mono ?_
              rw [show (⟨#[41]⟩ : ByteArray).data.toList = [41] from rfl]
              have hlast := hid (show ∀ u r, Can (d + 1) u (sfx T k) r → u = Tm.mk S (ts ++ [t6]) ∧ isB t8 [41] = true ∧ sfx T (k6 + 1) = r from fun u r hu => hinv.out.last (fun a p ha => by rw [← hs6.out]; exact hc6.out a p ha) hB9.out.symm hu)
              rintro e w10 ⟨⟨hb10, rfl, h10⟩ | ⟨hb10, p, er, rfl⟩, o10⟩
              · have HY10 := HY9.only o10 (by simp; omega)
                have HC10 := HC9.out.only o10 (by simp; omega)
                have own10 := own9.out.only o10 (by simp; omega)
                have oW10 := oW9.trans o10 (by simp)
                have y0 : w10.cell? ⟨w1.heap.size, 0, none⟩ = some (.string S) := HY10.cell (j := 0) rfl
                have y1 : w10.cell? ⟨w1.heap.size, 1, none⟩ = some (.slice a7 (ts.length + 1) c7) := HY10.cell (j := 1) rfl
                have q0 := HC10.cell (j := 0) rfl
                have q1 := HC10.cell (j := 1) rfl
                have z0 := HC10.free 0
                have z1 := HC10.free 1
                have HC11 := (HC10.set 0 (.string S)).set 1 (.slice a7 (ts.length + 1) c7)
                have r0 : ((w10.setCell ⟨w.heap.size, 0, none⟩ (.string S)).setCell ⟨w.heap.size, 1, none⟩ (.slice a7 (ts.length + 1) c7)).cell? ⟨w.heap.size, 0, none⟩ = some (.string S) := HC11.cell (j := 0) rfl
                have r1 : ((w10.setCell ⟨w.heap.size, 0, none⟩ (.string S)).setCell ⟨w.heap.size, 1, none⟩ (.slice a7 (ts.length + 1) c7)).cell? ⟨w.heap.size, 1, none⟩ = some (.slice a7 (ts.length + 1) c7) := HC11.cell (j := 1) rfl
                have h11 := (h10.other (c := w.heap.size) (o := 0) (by omega) (fun b o e => by have := hgc.out b o e; omega) (.string S)).other (c := w.heap.size) (o := 1) (by omega) (fun b o e => by have := hgc.out b o e; omega) (.slice a7 (ts.length + 1) c7)
                have oZ := (oW10.setNew (b := w.heap.size) (o := 0) (Nat.le_refl _) (.string S)).setNew (b := w.heap.size) (o := 1) (Nat.le_refl _) (.slice a7 (ts.length + 1) c7)
                have own11 := (own10.only (((Only.refl [w.heap.size] w10).setIn (b := w.heap.size) (o := 0) (by simp) (.string S)).setIn (b := w.heap.size) (o := 1) (by simp) (.slice a7 (ts.length + 1) c7)) (by simp; omega)).rebase (base' := w.heap.size) (by omega)
                clear HY10 HC10 HC11 h10 oW10 own10 HY9 HC9 own9 oW9 h9 o10
                go_wp2
                refine bodyPost_ret (v := .agg #[.string S, .slice a7 (ts.length + 1 : Nat) c7]) (by simp [results, Tryz.results177, go_sem, r0, r1]) rfl ⟨Or.inl ⟨S, _, .mk S (ts ++ [t6]), k6 + 1, rfl, rests_term hSs.out own11, h11, by omega, fun u r hu => ⟨((hlast.out u r hu).1).symm, (hlast.out u r hu).2.2⟩⟩, oZ⟩
              · go_wp2
                exact ⟨rfl, Or.inr ⟨⟨_, _, rfl⟩, fun u r hu => by have := (hlast.out u r hu).2.1; rw [hb10] at this; cases this⟩, oW9.trans o10 (by simp)⟩
            · rw [if_pos rfl] at h9
              have x9 : w9.cell? ⟨x, 1, none⟩ = some (.int .i64 ((k6 + 1 : Nat) : Int)) := h9.has.cell (j := 1) rfl
              have hinv9 := hid (show ArgsInv d S (sfx T k) (ts ++ [t6]) (sfx T (k6 + 1)) from hinv.out.more (fun a p ha => by rw [← hs6.out]; exact hc6.out a p ha) hB9.out.symm)
              have hlt9 := h9.lt
              go_wp2
              go_roundw
              case rel => exact ⟨ts ++ [t6], _, k6 + 1, HY9, HC9, own9, h9, by omega, hinv9, by simp; omega, oW9, by omega⟩
              case measure => rw [xwr, x9]; simp [intOf]; omega
        · have h5 := h4.below o5 (Nat.le_refl _)
          have o5w := oW.below o5 oW.size
          go_wp2_with fail
          refine (fail_any 5 x ad cap T kk _ h5).mono ?_
          rintro e w6 ⟨⟨p, er, rfl⟩, o6⟩
          go_wp2
          exact ⟨rfl, Or.inr ⟨⟨_, _, rfl⟩, fun u r hu => hinv.out.full HL4.out hu⟩, o5w.below o6 o5w.size⟩
      · have e4 : ((ts.length : Int) == 4) = false := by rw [beq_eq_false_iff_ne]; omega
        have HYq := HY
        have HCq := HC
        have ownq := own
        have h4q := h4
        have oWq := oW
        have hbsq := hbs
        clear HY HC own h4 oW hbs
        have hcf : ∀ (xv : Array Value) (wx : World), (callFunc 146 xv).run Tryz.prog wx = .ok (.enter 146 xv) wx := fun xv wx => by simp [go_sem]
        have hYl := HYq.out.lt
        have hxY : x ≠ w1.heap.size := by omega
        have xwr : wr.cell? ⟨x, 1, none⟩ = some (.int .i64 kk) := hxq
        have hwr : IntKind.i64.wrap (L1 + 1) = L1 + 1 := by rw [IntKind.wrap_i64]; omega
        go_wp2
        go_region_law (first
          | (refine step_call_or rfl 146 _ _ rfl hcf #[.pointer (some ⟨x, 0, none⟩), .int .i64 (L1 + 1)] (by simp [Act.eval, Act.put]) (TermSaid.parts (Hterm.out x ad cap T kk (L1 + 1) _ (by have := HL.out; omega) (h4q.below ((Below.refl wr.heap.size wr).drew) (Nat.le_refl _)))) ?_ ?_
             · rintro c w6 ⟨⟨p, er, hc⟩, hno, o6⟩
               cases hc
               exact ⟨rfl, Or.inr ⟨⟨p, er, rfl⟩, fun u r hu => hinv.out.none hno hu⟩, oWq.trans (show Only [x] wr w6 from ⟨o6.os, o6.tape, o6.output, o6.size, o6.block⟩) (by simp)⟩
             rintro v6 w6 ⟨n6, a6, t6, k6, rfl, hR6, h6, hk6, hc6, o6⟩
             have o6' : Only [x] wr w6 := ⟨o6.os, o6.tape, o6.output, o6.size, o6.block⟩
             have HY6 := HYq.out.only o6' (by simp; omega)
             have y6 : w6.cell? ⟨w1.heap.size, 1, none⟩ = some (.slice a5 ts.length c5) := HY6.cell (j := 1) rfl
             have y6b : (w6.alloc (.cells #[.string n6, a6] 76)).cell? ⟨w1.heap.size, 1, none⟩ = some (.slice a5 ts.length c5) := (HY6.alloc _).cell (j := 1) rfl
             have hu6 := term_one hR6.now
             have o6s : wr.heap.size ≤ w6.heap.size := o6'.size)
          | (refine step_append_run rfl (.tmp 32) (.tmp 37) 43 rfl (.slice a5 ts.length c5) (.slice (some ⟨w6.heap.size, 0, none⟩) 1 1) (by rfl) (by rfl) (term_append (own := ((ownq.out.only o6' (by simp; omega)).alloc (.cells #[.string n6, a6] 76))) (Hg := Has.new w6 _ _) hu6 (((hR6.weak (S' := fun j => w1.heap.size + 1 ≤ j ∧ (Value.slice a5 ts.length c5).ownBlock ≠ some j) (fun j _ hj => ⟨Nat.le_trans hbsq hj, fun e => by have := (ownq.out.lt _ e).2; have hj' : wr.heap.size ≤ j := hj; omega⟩)).below ((Below.refl w6.heap.size w6).alloc (Nat.le_refl _) _) (Nat.le_refl _))) (by have := h4q.lt; omega) (by simp; omega)) ?_
             rintro v7 w7 ⟨own7, b7, hA7, hat7⟩
             obtain ⟨a7, c7, rfl⟩ := own7.shape
             have H7 : Has w7 w1.heap.size #[.string S, .slice a5 ts.length c5] 76 := (hA7.block _ (by simp; omega) (fun e => by have := (ownq.out.lt _ e).1; omega)).trans (HY6.alloc (.cells #[.string n6, a6] 76))
             have y7 : w7.cell? ⟨w1.heap.size, 1, none⟩ = some (.slice a5 ts.length c5) := H7.cell (j := 1) rfl
             have z7 := H7.free 1))
        all_goals
          have hown7 := own7
          simp only [List.length_append, List.length_cons, List.length_nil, Nat.zero_add] at hown7
          have bA := (Below.refl w6.heap.size w6).alloc (Nat.le_refl _) (.cells #[.string n6, a6] 76)
          have b7s := b7.size
          have hbA0 : (w6.alloc (.cells #[.string n6, a6] 76)).heap.size = w6.heap.size + 1 := by simp
          have hbA : w6.heap.size + 1 ≤ w7.heap.size := by omega
          have HY8 : Has (w7.setCell ⟨w1.heap.size, 1, none⟩ (.slice a7 (ts.length + 1) c7)) w1.heap.size #[.string S, .slice a7 (ts.length + 1) c7] 76 := by
            have := H7.set 1 (.slice a7 (ts.length + 1) c7)
            simpa using this
          have HC8 := hid ((((HCq.out.only o6' (by simp; omega)).alloc (.cells #[.string n6, a6] 76)).below b7 (by omega)).other (a := ⟨w1.heap.size, 1, none⟩) (by simp; omega) (.slice a7 (ts.length + 1) c7))
          have h8 := ((h6.below bA (Nat.le_refl _)).low b7 (by omega) (fun b o e => by have := hgc.out b o e; omega)).other (c := w1.heap.size) (o := 1) hxY (fun b o e => by have := hgc.out b o e; omega) (.slice a7 (ts.length + 1) c7)
          have oW8 := ((((oWq.trans o6' (by simp)).alloc (.cells #[.string n6, a6] 76)).below b7 (by omega)).setNew (b := w1.heap.size) (o := 1) (by omega) (.slice a7 (ts.length + 1) c7))
          have own8 := hid (hown7.only ((Only.refl [w1.heap.size] w7).setIn (b := w1.heap.size) (o := 1) (by simp) (.slice a7 (ts.length + 1) c7)) (by simp))
          have hs8 : w1.heap.size + 1 ≤ (w7.setCell ⟨w1.heap.size, 1, none⟩ (.slice a7 (ts.length + 1) c7)).heap.size := by simp [World.setCell]; omega
          obtain ⟨w8, ew8⟩ : ∃ w8, w8 = w7.setCell ⟨w1.heap.size, 1, none⟩ (.slice a7 (ts.length + 1) c7) := ⟨_, rfl⟩
          rw [← ew8] at HY8 HC8 h8 oW8 own8 hs8 ⊢
          obtain ⟨t8, ht8⟩ : ∃ t8, T[k6]? = some t8 := ⟨_, List.getElem?_eq_getElem h6.lt⟩
          have hs6 := hid (sfx_cons ht8)
          have hc6 := hid hc6
          clear ew8 own7 hown7 bA b7 hA7 hat7 H7 y7 z7 y6 y6b HY6 h6 hR6 hu6 o6 o6' ownq h4q oWq HCq HYq y1
          go_wp2_with fail
          refine (accept_any ⟨#[44]⟩ x ad cap T k6 t8 _ h8 ht8).mono ?_
          rintro e w9 ⟨rfl, h9, o9⟩
          rw [show (⟨#[44]⟩ : ByteArray).data.toList = [44] from rfl] at h9 ⊢
          have hB9 := hid (isB_kt t8 [44])
          obtain ⟨B9, eB9⟩ : ∃ B, isB t8 [44] = B := ⟨_, rfl⟩
          rw [eB9] at h9 hB9 ⊢
          clear eB9
          have HY9 := HY8.only o9 (by simp; omega)
          have HC9 := hid (HC8.out.only o9 (by simp; omega))
          have own9 := hid (own8.out.only o9 (by simp; omega))
          have oW9 := oW8.trans o9 (by simp)
          have o9s := o9.size
          clear HY8 HC8 own8 oW8 h8 o9
          cases B9
          · go_wp2_with fail
            refine (expect_any ⟨#[41]⟩ x ad cap T k6 t8 _ h9 ht8).mono ?_
            rw [show (⟨#[41]⟩ : ByteArray).data.toList = [41] from rfl]
            have hlast := hid (show ∀ u r, Can (d + 1) u (sfx T k) r → u = Tm.mk S (ts ++ [t6]) ∧ isB t8 [41] = true ∧ sfx T (k6 + 1) = r from fun u r hu => hinv.out.last (fun a p ha => by rw [← hs6.out]; exact hc6.out a p ha) hB9.out.symm hu)
            rintro e w10 ⟨⟨hb10, rfl, h10⟩ | ⟨hb10, p, er, rfl⟩, o10⟩
            · have HY10 := HY9.only o10 (by simp; omega)
              have HC10 := HC9.out.only o10 (by simp; omega)
              have own10 := own9.out.only o10 (by simp; omega)
              have oW10 := oW9.trans o10 (by simp)
              have y0 : w10.cell? ⟨w1.heap.size, 0, none⟩ = some (.string S) := HY10.cell (j := 0) rfl
              have y1 : w10.cell? ⟨w1.heap.size, 1, none⟩ = some (.slice a7 (ts.length + 1) c7) := HY10.cell (j := 1) rfl
              have q0 := HC10.cell (j := 0) rfl
              have q1 := HC10.cell (j := 1) rfl
              have z0 := HC10.free 0
              have z1 := HC10.free 1
              have HC11 := (HC10.set 0 (.string S)).set 1 (.slice a7 (ts.length + 1) c7)
              have r0 : ((w10.setCell ⟨w.heap.size, 0, none⟩ (.string S)).setCell ⟨w.heap.size, 1, none⟩ (.slice a7 (ts.length + 1) c7)).cell? ⟨w.heap.size, 0, none⟩ = some (.string S) := HC11.cell (j := 0) rfl
              have r1 : ((w10.setCell ⟨w.heap.size, 0, none⟩ (.string S)).setCell ⟨w.heap.size, 1, none⟩ (.slice a7 (ts.length + 1) c7)).cell? ⟨w.heap.size, 1, none⟩ = some (.slice a7 (ts.length + 1) c7) := HC11.cell (j := 1) rfl
              have h11 := (h10.other (c := w.heap.size) (o := 0) (by omega) (fun b o e => by have := hgc.out b o e; omega) (.string S)).other (c := w.heap.size) (o := 1) (by omega) (fun b o e => by have := hgc.out b o e; omega) (.slice a7 (ts.length + 1) c7)
              have oZ := (oW10.setNew (b := w.heap.size) (o := 0) (Nat.le_refl _) (.string S)).setNew (b := w.heap.size) (o := 1) (Nat.le_refl _) (.slice a7 (ts.length + 1) c7)
              have own11 := (own10.only (((Only.refl [w.heap.size] w10).setIn (b := w.heap.size) (o := 0) (by simp) (.string S)).setIn (b := w.heap.size) (o := 1) (by simp) (.slice a7 (ts.length + 1) c7)) (by simp; omega)).rebase (base' := w.heap.size) (by omega)
              clear HY10 HC10 HC11 h10 oW10 own10 HY9 HC9 own9 oW9 h9 o10
              go_wp2
              refine bodyPost_ret (v := .agg #[.string S, .slice a7 (ts.length + 1 : Nat) c7]) (by simp [results, Tryz.results177, go_sem, r0, r1]) rfl ⟨Or.inl ⟨S, _, .mk S (ts ++ [t6]), k6 + 1, rfl, rests_term hSs.out own11, h11, by omega, fun u r hu => ⟨((hlast.out u r hu).1).symm, (hlast.out u r hu).2.2⟩⟩, oZ⟩
            · go_wp2
              exact ⟨rfl, Or.inr ⟨⟨_, _, rfl⟩, fun u r hu => by have := (hlast.out u r hu).2.1; rw [hb10] at this; cases this⟩, oW9.trans o10 (by simp)⟩
          · rw [if_pos rfl] at h9
            have x9 : w9.cell? ⟨x, 1, none⟩ = some (.int .i64 ((k6 + 1 : Nat) : Int)) := h9.has.cell (j := 1) rfl
            have hinv9 := hid (show ArgsInv d S (sfx T k) (ts ++ [t6]) (sfx T (k6 + 1)) from hinv.out.more (fun a p ha => by rw [← hs6.out]; exact hc6.out a p ha) hB9.out.symm)
            have hlt9 := h9.lt
            go_wp2
            go_roundw
            case rel => exact ⟨ts ++ [t6], _, k6 + 1, HY9, HC9, own9, h9, by omega, hinv9, by simp; omega, oW9, by omega⟩
            case measure => rw [xwr, x9]; simp [intOf]; omega
end Go.Proofs.YtahbhhenobehfaaGreatDoor
