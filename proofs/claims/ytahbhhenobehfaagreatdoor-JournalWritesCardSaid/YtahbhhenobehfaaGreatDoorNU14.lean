/-
  The walks of the reference parser's terms.
-/
import Derived.Test.YtahbhhenobehfaaGreatDoorM43
namespace Go.Proofs.YtahbhhenobehfaaGreatDoor
open Go.ChangeShapes Go.WideShapes Go.ChangeAt Go.RowKit

theorem ArgsInv.close {d : Nat} {n : ByteArray} {s0 s q : List KT} {ts : List Tm} {t : Tm} {c : KT} (h : ArgsInv d n s0 ts s) (ht : ∀ a p, Can d a s p → t = a ∧ c :: q = p) (hc : isK c [41] = true) {u : Tm} {r : List KT} (hu : Can (d + 1) u s0 r) :
    u = .mk n (ts ++ [t]) ∧ q = r := by
  have h44 : isK c [44] = false := by
    unfold isK at hc ⊢
    simp only [Bool.and_eq_true, beq_iff_eq] at hc
    rw [hc.2]; simp
  obtain ⟨e1, _, e2⟩ := h.last ht h44 hu
  exact ⟨e1, e2⟩
theorem ArgsInv.stuck {d : Nat} {n : ByteArray} {s0 s q : List KT} {ts : List Tm} {t : Tm} {c : KT} (h : ArgsInv d n s0 ts s) (ht : ∀ a p, Can d a s p → t = a ∧ c :: q = p) (h1 : isK c [41] = false) (h2 : isK c [44] = false) {u : Tm} {r : List KT} (hu : Can (d + 1) u s0 r) : False := by
  obtain ⟨_, e, _⟩ := h.last ht h2 hu
  rw [h1] at e; cases e
/-- How a call of the reference that reads a term ends. -/
def RTermSaid (d : Nat) (x : Nat) (ad : Option Addr) (cap : Nat) (T : List Tok) (k : Nat) (w : World) (e : Ending) (w' : World) : Prop :=
  (∃ n v t k' a' e', e = .returned (.agg #[.string n, v]) ∧ RestsM TmC (fun j => w.heap.size ≤ j) w' [.string n, v] t ∧ RrAt w' x ad cap T k' a' e' ∧ k ≤ k' ∧ (e' = 0 → k < k') ∧ ∀ u r, Can d u (sfx T k) r → e' = 0 ∧ t = u ∧ sfx T k' = r) ∧ Only [x] w w'
/-- .. as a region that draws its order asks for it. -/
theorem RTermSaid.parts {d : Nat} {x : Nat} {ad : Option Addr} {cap : Nat} {T : List Tok} {k : Nat} {w : World} {f : FuncId} {args : Array Value} (h : Calls Tryz.prog f args w (RTermSaid d x ad cap T k w)) :
    Calls Tryz.prog f args w fun e w' => (∃ v, e = .returned v ∧ ∃ n b t k' a' e', v = .agg #[.string n, b] ∧ RestsM TmC (fun j => w.heap.size ≤ j) w' [.string n, b] t ∧ RrAt w' x ad cap T k' a' e' ∧ k ≤ k' ∧ (e' = 0 → k < k') ∧ (∀ u r, Can d u (sfx T k) r → e' = 0 ∧ t = u ∧ sfx T k' = r) ∧ Only [x] w w') ∨
      (∃ c, e = .panicked c ∧ False) := by
  refine h.mono ?_
  rintro e w' ⟨⟨n, b, t, k', a', e', rfl, h1, h2, h3, h4, h5⟩, ho⟩
  exact Or.inl ⟨_, rfl, n, b, t, k', a', e', rfl, h1, h2, h3, h4, h5, ho⟩
set_option maxRecDepth 20000 in
set_option maxHeartbeats 16000000 in
theorem rest_step (d : Nat) (hd : d ≤ 3)
    (hterm : ∀ (x : Nat) (ad : Option Addr) (cap : Nat) (T : List Tok) (k : Nat) (a : Int) (L : Int) (w : World), L = 5 - (d : Int) → RrAt w x ad cap T k a 0 → Calls Tryz.prog 113 #[.pointer (some ⟨x, 0, none⟩), .int .i64 L] w (RTermSaid d x ad cap T k w))
    (x : Nat) (ad : Option Addr) (cap : Nat) (T : List Tok) (k : Nat) (a : Int) (t : Tok) (L1 : Int) (w : World) (hL : L1 = 4 - (d : Int)) (h : RrAt w x ad cap T k a 0) (ht : T[k]? = some t) (hk1 : t.kind ≠ 0) :
    Calls Tryz.prog 151 #[.pointer (some ⟨x, 0, none⟩), .int .i64 L1] w (RTermSaid (d + 1) x ad cap T k w) := by
  have hL1 : L1 ≤ 4 := by omega
  have hL0 : 1 ≤ L1 := by omega
  have HL := hid hL
  clear hL
  have hsz := h.has.lt
  have hgw := h.block
  have hnx : k + 1 < T.length := h.stop k h.lt (by rw [List.getElem?_eq_getElem h.lt] at ht; rw [Option.some.inj ht]; exact hk1)
  have hfin := h.fine
  have hsh := h.short
  have hlt := h.lt
  have hle := h.toks.2.1
  have hmx := h.toks.2.2.1
  obtain ⟨t1, ht1⟩ : ∃ t1, T[k + 1]? = some t1 := ⟨_, List.getElem?_eq_getElem hnx⟩
  have hs0 := hid (sfx_cons ht)
  have hs1 := hid (sfx_cons ht1)
  have b0 : Below w.heap.size w (w.alloc (.cells #[.string ⟨#[]⟩, .slice none 0 0] 76)) := (Below.refl _ _).alloc (Nat.le_refl _) _
  have HC := Has.new w #[.string ⟨#[]⟩, .slice none 0 0] 76
  have h0 := h.below b0 (Nat.le_refl _)
  obtain ⟨K, S, P⟩ := t
  have hSs := hid (show S.size ≤ maxLen from hfin ⟨K, S, P⟩ (List.mem_of_getElem? ht))
  have hk0 : (0 : Int) ≤ k := by omega
  have hkn : (k : Int) < T.length := by omega
  have hk9 : (k : Int) ≤ 1000000 := by omega
  obtain ⟨g, o, e0, x0, x1, x2, x3, c0, c1, c2⟩ := h0.cells ht
  subst e0
  have bB : Below (w.alloc (.cells #[.string ⟨#[]⟩, .slice none 0 0] 76)).heap.size (w.alloc (.cells #[.string ⟨#[]⟩, .slice none 0 0] 76)) ((w.alloc (.cells #[.string ⟨#[]⟩, .slice none 0 0] 76)).alloc (.cells #[.string ⟨#[]⟩, .slice none 0 0] 76)) := (Below.refl _ _).alloc (Nat.le_refl _) _
  have c1B : ((w.alloc (.cells #[.string ⟨#[]⟩, .slice none 0 0] 76)).alloc (.cells #[.string ⟨#[]⟩, .slice none 0 0] 76)).cell? ⟨g, o + k * 3 + 1, none⟩ = some (.string S) := (bB.cell (p := ⟨g, o + k * 3 + 1, none⟩) (lt_of_cell c1)).trans c1
  have HK := hid hk1
  have H0 := hid h0
  have Hterm := hid hterm
  have HHC := hid HC
  clear hterm h h0 hk1 HC
  go_enter Tryz.func151, Tryz.ntmps151
  go_wp2
  go_region
  obtain ⟨w1, ew1⟩ : ∃ w1, w1 = ((w.alloc (.cells #[.string ⟨#[]⟩, .slice none 0 0] 76)).alloc (.cells #[.string S, .slice none 0 0] 76)).drew := ⟨_, rfl⟩
  have bC : Below (w.heap.size + 1) (w.alloc (.cells #[.string ⟨#[]⟩, .slice none 0 0] 76)) w1 := by rw [ew1]; exact ((Below.refl _ _).alloc (by simp) _).drew
  have hY1 : Has w1 (w.heap.size + 1) #[.string S, .slice none 0 0] 76 := by
    rw [ew1]
    exact Has.newAt (by simp)
  have hC1 : Has w1 w.heap.size #[.string ⟨#[]⟩, .slice none 0 0] 76 := HHC.out.below bC (by omega)
  have h1 : RrAt w1 x (some ⟨g, o, none⟩) cap T k a 0 := H0.out.below bC (by simp)
  have b1 : Below w.heap.size w w1 := b0.trans (bC.mono (by omega))
  have hs1w : w1.heap.size = w.heap.size + 2 := by rw [ew1]; simp
  rw [← ew1]
  clear ew1 bC bB c1B x0 x1 x2 x3 c0 c1 c2 b0
  obtain ⟨g', o', e0, x0, x1, x2, x3, c0, c1, c2⟩ := h1.cells ht
  cases e0
  have z1 := h1.has.free 1
  have hxg : g ≠ x := h1.apart g o rfl
  go_wp2
  go_quiet (fail)
  have h2 := (h1.below (below_drew w1.heap.size nq) (Nat.le_refl _)).next hnx
  have hY2 := (hY1.below (below_drew w1.heap.size nq) hY1.lt).other (a := ⟨x, 1, none⟩) (by simp; omega) (.int .i64 ((k : Int) + 1))
  have hC2 := (hC1.below (below_drew w1.heap.size nq) hC1.lt).other (a := ⟨x, 1, none⟩) (by simp; omega) (.int .i64 ((k : Int) + 1))
  have oX : Only [x] w ((w1.drewN nq).setCell ⟨x, 1, none⟩ (.int .i64 ((k : Int) + 1))) := (Only.ofBelow (b1.trans (below_drew _ nq)) (Nat.le_refl _)).setIn (by simp) _
  have x1d : (w1.drewN nq).cell? ⟨x, 1, none⟩ = some (.int .i64 k) := x1
  have z1d : (w1.drewN nq).frozen? ⟨x, 1, none⟩ = false := z1
  have hgc := hid (show ∀ b o', (some ⟨g, o, none⟩ : Option Addr) = some ⟨b, o', none⟩ → b < w.heap.size from hgw)
  by_cases hK1 : K = 1
  · subst hK1
    go_wp2_with fail
    refine (ris_any ⟨#[40]⟩ x (some ⟨g, o, none⟩) cap T (k + 1) a 0 t1 _ h2 ht1).mono ?_
    rintro e w3 ⟨rfl, o3⟩
    have hB := hid (isB_kt t1 [40])
    rw [show (⟨#[40]⟩ : ByteArray).data.toList = [40] from rfl, show ((0 : Int) == 0) = true from rfl, Bool.true_and]
    obtain ⟨B, eB⟩ : ∃ B, isB t1 [40] = B := ⟨_, rfl⟩
    rw [eB] at hB ⊢
    clear eB
    have h3 := h2.below o3 (Nat.le_refl _)
    have hY3 := hY2.below o3 hY2.lt
    have hC3 := hC2.below o3 hC2.lt
    have oW := oX.below o3 oX.size
    have o3s := o3.size
    have hys : w.heap.size + 2 ≤ w3.heap.size := by
      have : ((w1.drewN nq).setCell ⟨x, 1, none⟩ (.int .i64 ((k : Int) + 1))).heap.size = w1.heap.size := by simp [World.setCell]
      omega
    clear h2 hY2 hC2 oX o3 h1 hY1 hC1 b1 x0 x1 x2 x3 c0 c1 c2 z1 x1d z1d H0 HHC hs1w o3s
    cases B
    · have hcan := hid (show ∀ u r, Can (d + 1) u (sfx T k) r → Tm.mk S [] = u ∧ sfx T (k + 1) = r from fun u r hu => by
        rw [hs0.out] at hu
        rcases hu.cases with ⟨s, rfl, _, e1, e2, _⟩ | ⟨s, l, rfl, _, _, _, _, _, e3⟩
        · have : s = S := ba_ext e1.symm
          subst this
          exact ⟨rfl, e2⟩
        · rw [hs1.out] at e3
          simp only [List.cons.injEq] at e3
          have := hB.out
          rw [e3.1] at this
          cases this)
      have y0 : w3.cell? ⟨w.heap.size + 1, 0, none⟩ = some (.string S) := hY3.cell (j := 0) rfl
      have y1 : w3.cell? ⟨w.heap.size + 1, 1, none⟩ = some (.slice none 0 0) := hY3.cell (j := 1) rfl
      have q0 := hC3.cell (j := 0) rfl
      have q1 := hC3.cell (j := 1) rfl
      have zc0 := hC3.free 0
      have zc1 := hC3.free 1
      have HC4 := (hC3.set 0 (.string S)).set 1 (.slice none 0 0)
      have r0 : ((w3.setCell ⟨w.heap.size, 0, none⟩ (.string S)).setCell ⟨w.heap.size, 1, none⟩ (.slice none 0 0)).cell? ⟨w.heap.size, 0, none⟩ = some (.string S) := HC4.cell (j := 0) rfl
      have r1 : ((w3.setCell ⟨w.heap.size, 0, none⟩ (.string S)).setCell ⟨w.heap.size, 1, none⟩ (.slice none 0 0)).cell? ⟨w.heap.size, 1, none⟩ = some (.slice none 0 0) := HC4.cell (j := 1) rfl
      have H4 := hid ((h3.other (c := w.heap.size) (o := 0) (by omega) (fun b o e => by have := hgc.out b o e; omega) (.string S)).other (c := w.heap.size) (o := 1) (by omega) (fun b o e => by have := hgc.out b o e; omega) (.slice none 0 0))
      have OZ := hid ((oW.setNew (b := w.heap.size) (o := 0) (Nat.le_refl _) (.string S)).setNew (b := w.heap.size) (o := 1) (Nat.le_refl _) (.slice none 0 0))
      clear HC4 h3 oW
      go_wp2
      exact bodyPost_ret (v := .agg #[.string S, .slice none 0 0]) (by simp [results, Tryz.results151, go_sem, r0, r1]) rfl ⟨⟨S, .slice none 0 0, .mk S [], k + 1, _, _, rfl, rests_term hSs.out (OwnM.nil _ _ _ 76 _), H4.out, by omega, fun _ => by omega, fun u r hu => ⟨rfl, hcan.out u r hu⟩⟩, OZ.out⟩
    · have hnx2 : k + 1 + 1 < T.length := h3.stop (k + 1) h3.lt (fun e0 => by
        have := hB.out
        rw [← isB_kt] at this
        rw [List.getElem?_eq_getElem h3.lt] at ht1
        rw [Option.some.inj ht1] at e0
        unfold isB at this
        rw [e0] at this
        simp at this)
      have x31 : w3.cell? ⟨x, 1, none⟩ = some (.int .i64 ((k : Int) + 1)) := by have := h3.has.cell (j := 1) rfl; simpa using this
      have z31 := h3.has.free 1
      have h4 : RrAt (w3.setCell ⟨x, 1, none⟩ (.int .i64 ((k : Int) + 1 + 1))) x (some ⟨g, o, none⟩) cap T (k + 1 + 1) a 0 := by have := h3.next hnx2; simpa using this
      have hrel0 : ∃ (ts : List Tm) (v : Value) (kk : Nat) (aa ee : Int), Has (w3.setCell ⟨x, 1, none⟩ (.int .i64 ((k : Int) + 1 + 1))) (w.heap.size + 1) #[.string S, v] 76 ∧ Hid (Has (w3.setCell ⟨x, 1, none⟩ (.int .i64 ((k : Int) + 1 + 1))) w.heap.size #[.string ⟨#[]⟩, .slice none 0 0] 76) ∧ Hid (OwnM 2 TmC (w.heap.size + 2) 76 (w3.setCell ⟨x, 1, none⟩ (.int .i64 ((k : Int) + 1 + 1))) v ts) ∧ RrAt (w3.setCell ⟨x, 1, none⟩ (.int .i64 ((k : Int) + 1 + 1))) x (some ⟨g, o, none⟩) cap T kk aa ee ∧ k < kk ∧ Hid (ee = 0 → ArgsInv d S (sfx T k) ts (sfx T kk)) ∧ Hid (ee ≠ 0 → ∀ u r, ¬ Can (d + 1) u (sfx T k) r) ∧ Hid (ee = 0 → ts.length ≤ kk) ∧ Only [x] w (w3.setCell ⟨x, 1, none⟩ (.int .i64 ((k : Int) + 1 + 1))) ∧ w.heap.size + 2 ≤ (w3.setCell ⟨x, 1, none⟩ (.int .i64 ((k : Int) + 1 + 1))).heap.size :=
        ⟨[], .slice none 0 0, k + 1 + 1, a, 0, hY3.other (by simp; omega) _, hid (hC3.other (by simp; omega) _), hid (OwnM.nil _ _ _ _ _), h4, by omega, hid (fun _ => by
          rw [hs0.out, hs1.out]
          exact ArgsInv.start rfl (by rw [← hB.out])), hid (fun h => absurd rfl h), hid (fun _ => Nat.zero_le _), oW.setIn (by simp) _, by simp [World.setCell]; omega⟩
      have Hrel0 := hid hrel0
      clear hrel0 h4 h3 hY3 hC3 oW
      go_wp2
      go_loopw [] (fun wr => ∃ (ts : List Tm) (v : Value) (kk : Nat) (aa ee : Int), Has wr (w.heap.size + 1) #[.string S, v] 76 ∧ Hid (Has wr w.heap.size #[.string ⟨#[]⟩, .slice none 0 0] 76) ∧ Hid (OwnM 2 TmC (w.heap.size + 2) 76 wr v ts) ∧ RrAt wr x (some ⟨g, o, none⟩) cap T kk aa ee ∧ k < kk ∧ Hid (ee = 0 → ArgsInv d S (sfx T k) ts (sfx T kk)) ∧ Hid (ee ≠ 0 → ∀ u r, ¬ Can (d + 1) u (sfx T k) r) ∧ Hid (ee = 0 → ts.length ≤ kk) ∧ Only [x] w wr ∧ w.heap.size + 2 ≤ wr.heap.size) (fun wr => (T.length - (intOf ((wr.cell? ⟨x, 1, none⟩).getD undef)).toNat) + (if intOf ((wr.cell? ⟨x, 3, none⟩).getD undef) = 0 then 1 else 0))
      case atStart => exact Hrel0.out
      case round =>
        clear Hrel0 x31 z31
        obtain ⟨ts, v, kk, aa, ee, HY, HC, own, h4, hkk, hinv, hno, hts, oW, hbs⟩ := hrel
        obtain ⟨a5, c5, rfl⟩ := own.out.shape
        have xr1 : wr.cell? ⟨x, 1, none⟩ = some (.int .i64 kk) := h4.has.cell (j := 1) rfl
        have xr3 : wr.cell? ⟨x, 3, none⟩ = some (.int .i64 ee) := h4.has.cell (j := 3) rfl
        have y1 : wr.cell? ⟨w.heap.size + 1, 1, none⟩ = some (.slice a5 ts.length c5) := HY.cell (j := 1) rfl
        have HY := hid HY
        have h4lt := h4.lt
        obtain ⟨t5, ht5⟩ : ∃ t5, T[kk]? = some t5 := ⟨_, List.getElem?_eq_getElem h4.lt⟩
        by_cases hee : ee = 0
        · subst hee
          have hinvA := hid (hinv.out rfl)
          have htsA := hts.out rfl
          clear hinv hts
          by_cases hl4 : ts.length = 4
          · have e4 : ((ts.length : Int) == 4) = true := by rw [hl4]; rfl
            have HL4 := hid hl4
            clear hl4
            go_wp2_with fail
            refine (rbegins_tok x (some ⟨g, o, none⟩) cap T kk aa 0 t5 _ h4 ht5).mono ?_
            rintro e w5 ⟨rfl, o5⟩
            obtain ⟨B5, eB5⟩ : ∃ B, B = beginsB t5 := ⟨_, rfl⟩
            rw [← eB5]
            clear eB5
            have HYq := hid (HY.out.below o5 HY.out.lt)
            have HCq := hid (HC.out.below o5 HC.out.lt)
            have ownq := hid (own.out.below o5 (Nat.le_refl _))
            have h4q := h4.below o5 (Nat.le_refl _)
            have oWq := oW.below o5 oW.size
            have hbsq : w.heap.size + 2 ≤ w5.heap.size := Nat.le_trans hbs o5.size
            have y1 : w5.cell? ⟨w.heap.size + 1, 1, none⟩ = some (.slice a5 ts.length c5) := HYq.out.cell (j := 1) rfl
            have hnoA := hid (show ∀ u r, ¬ Can (d + 1) u (sfx T k) r from fun u r hu => hinvA.out.full HL4.out hu)
            clear HY HC own h4 oW hbs o5
            cases B5
            · have hcf : ∀ (xv : Array Value) (wx : World), (callFunc 113 xv).run Tryz.prog wx = .ok (.enter 113 xv) wx := fun xv wx => by simp [go_sem]
              have hYl := HYq.out.lt
              have hxY : x ≠ w.heap.size + 1 := by omega
              have hwr : IntKind.i64.wrap (L1 + 1) = L1 + 1 := by rw [IntKind.wrap_i64]; omega
              go_wp2
              go_region_law (first
                | (refine step_call_or rfl 113 _ _ rfl hcf #[.pointer (some ⟨x, 0, none⟩), .int .i64 (L1 + 1)] (by simp [Act.eval, Act.put]) (RTermSaid.parts (Hterm.out x (some ⟨g, o, none⟩) cap T kk aa (L1 + 1) _ (by have := HL.out; omega) (h4q.below ((Below.refl w5.heap.size w5).drew) (Nat.le_refl _)))) (fun _ _ h => h.elim) ?_
                   rintro v6 w6 ⟨n6, b6, t6, k6, a6, e6, rfl, hR6, h6, hk6, hke6, hc6, o6⟩
                   have o6' : Only [x] w5 w6 := ⟨o6.os, o6.tape, o6.output, o6.size, o6.block⟩
                   have HY6 := HYq.out.only o6' (by simp; omega)
                   have y6 : w6.cell? ⟨w.heap.size + 1, 1, none⟩ = some (.slice a5 ts.length c5) := HY6.cell (j := 1) rfl
                   have y6b : (w6.alloc (.cells #[.string n6, b6] 76)).cell? ⟨w.heap.size + 1, 1, none⟩ = some (.slice a5 ts.length c5) := (HY6.alloc _).cell (j := 1) rfl
                   have hu6 := term_one hR6.now
                   have o6s : w5.heap.size ≤ w6.heap.size := o6'.size)
                | (refine step_append_run rfl (.tmp 71) (.tmp 76) 43 rfl (.slice a5 ts.length c5) (.slice (some ⟨w6.heap.size, 0, none⟩) 1 1) (by rfl) (by rfl) (term_append (own := ((ownq.out.only o6' (by simp; omega)).alloc (.cells #[.string n6, b6] 76))) (Hg := Has.new w6 _ _) hu6 (((hR6.weak (S' := fun j => w.heap.size + 2 ≤ j ∧ (Value.slice a5 ts.length c5).ownBlock ≠ some j) (fun j _ hj => ⟨Nat.le_trans hbsq hj, fun e => by have := (ownq.out.lt _ e).2; have hj' : w5.heap.size ≤ j := hj; omega⟩)).below ((Below.refl w6.heap.size w6).alloc (Nat.le_refl _) _) (Nat.le_refl _))) (by have := h4q.lt; omega) (by simp; omega)) ?_
                   rintro v7 w7 ⟨own7, b7, hA7, hat7⟩
                   obtain ⟨a7, c7, rfl⟩ := own7.shape
                   have H7 : Has w7 (w.heap.size + 1) #[.string S, .slice a5 ts.length c5] 76 := (hA7.block _ (by simp; omega) (fun e => by have := (ownq.out.lt _ e).1; omega)).trans (HY6.alloc (.cells #[.string n6, b6] 76))
                   have y7 : w7.cell? ⟨w.heap.size + 1, 1, none⟩ = some (.slice a5 ts.length c5) := H7.cell (j := 1) rfl
                   have z7 := H7.free 1))
              all_goals
                have hown7 := own7
                simp only [List.length_append, List.length_cons, List.length_nil, Nat.zero_add] at hown7
                have bA := (Below.refl w6.heap.size w6).alloc (Nat.le_refl _) (.cells #[.string n6, b6] 76)
                have b7s := b7.size
                have hbA0 : (w6.alloc (.cells #[.string n6, b6] 76)).heap.size = w6.heap.size + 1 := by simp
                have hbA : w6.heap.size + 1 ≤ w7.heap.size := by omega
                have HY8 : Has (w7.setCell ⟨w.heap.size + 1, 1, none⟩ (.slice a7 (ts.length + 1) c7)) (w.heap.size + 1) #[.string S, .slice a7 (ts.length + 1) c7] 76 := by
                  have := H7.set 1 (.slice a7 (ts.length + 1) c7)
                  simpa using this
                have HC8 := hid ((((HCq.out.only o6' (by simp; omega)).alloc (.cells #[.string n6, b6] 76)).below b7 (by omega)).other (a := ⟨w.heap.size + 1, 1, none⟩) (by simp) (.slice a7 (ts.length + 1) c7))
                have h8 := ((h6.below bA (Nat.le_refl _)).low b7 (by omega) (fun b o e => by have := hgc.out b o e; omega)).other (c := w.heap.size + 1) (o := 1) hxY (fun b o e => by have := hgc.out b o e; omega) (.slice a7 (ts.length + 1) c7)
                have oW8 := ((((oWq.trans o6' (by simp)).alloc (.cells #[.string n6, b6] 76)).below b7 (by omega)).setNew (b := w.heap.size + 1) (o := 1) (by omega) (.slice a7 (ts.length + 1) c7))
                have own8 := hid (hown7.only ((Only.refl [w.heap.size + 1] w7).setIn (b := w.heap.size + 1) (o := 1) (by simp) (.slice a7 (ts.length + 1) c7)) (by simp))
                have hs8 : w.heap.size + 2 ≤ (w7.setCell ⟨w.heap.size + 1, 1, none⟩ (.slice a7 (ts.length + 1) c7)).heap.size := by simp [World.setCell]; omega
                obtain ⟨w8, ew8⟩ : ∃ w8, w8 = w7.setCell ⟨w.heap.size + 1, 1, none⟩ (.slice a7 (ts.length + 1) c7) := ⟨_, rfl⟩
                rw [← ew8] at HY8 HC8 h8 oW8 own8 hs8 ⊢
                obtain ⟨t8, ht8⟩ : ∃ t8, T[k6]? = some t8 := ⟨_, List.getElem?_eq_getElem h6.lt⟩
                have hs6 := hid (sfx_cons ht8)
                have hc6 := hid hc6
                clear ew8 own7 hown7 bA b7 hA7 hat7 H7 y7 z7 y6 y6b HY6 h6 hR6 hu6 o6 o6' ownq h4q oWq HCq HYq y1
                go_wp2_with fail
                refine (ris_any ⟨#[41]⟩ x (some ⟨g, o, none⟩) cap T k6 a6 e6 t8 _ h8 ht8).mono ?_
                rintro e w9 ⟨rfl, o9⟩
                rw [show (⟨#[41]⟩ : ByteArray).data.toList = [41] from rfl]
                have h9 := h8.below o9 (Nat.le_refl _)
                have HY9 := HY8.below o9 HY8.lt
                have HC9 := hid (HC8.out.below o9 HC8.out.lt)
                have own9 := hid (own8.out.below o9 (Nat.le_refl _))
                have oW9 := oW8.below o9 oW8.size
                have o9s := o9.size
                clear HY8 HC8 own8 oW8 h8 o9
                by_cases he6 : e6 = 0
                · subst he6
                  rw [show ((0 : Int) == 0) = true from rfl, Bool.true_and]
                  have hkk6 := hke6 rfl
                  have hB9 := hid (isB_kt t8 [41])
                  obtain ⟨B9, eB9⟩ : ∃ B, isB t8 [41] = B := ⟨_, rfl⟩
                  rw [eB9] at hB9 ⊢
                  cases B9
                  · go_wp2_with fail
                    refine (rskip_any ⟨#[44]⟩ x (some ⟨g, o, none⟩) cap T k6 a6 0 t8 _ h9 ht8).mono ?_
                    rw [show (⟨#[44]⟩ : ByteArray).data.toList = [44] from rfl, show ((0 : Int) == 0) = true from rfl, Bool.true_and]
                    rintro e w10 ⟨rfl, ⟨hb10, h10⟩ | ⟨hb10, a10, e10, h10, hne10⟩, o10⟩
                    · have HY10 := HY9.only o10 (by simp; omega)
                      have HC10 := hid (HC9.out.only o10 (by simp; omega))
                      have own10 := hid (own9.out.only o10 (by simp; omega))
                      have oW10 := oW9.trans o10 (by simp)
                      have o10s := o10.size
                      have x10 : w10.cell? ⟨x, 1, none⟩ = some (.int .i64 ((k6 + 1 : Nat) : Int)) := h10.has.cell (j := 1) rfl
                      have x103 : w10.cell? ⟨x, 3, none⟩ = some (.int .i64 0) := h10.has.cell (j := 3) rfl
                      have hlt10 := h10.lt
                      have hinv10 := hid (show ArgsInv d S (sfx T k) (ts ++ [t6]) (sfx T (k6 + 1)) from hinvA.out.more (fun a p ha => by rw [← hs6.out]; exact (hc6.out a p ha).2) (by rw [← isB_kt]; exact hb10))
                      clear HY9 HC9 own9 oW9 h9 o10
                      go_wp2
                      go_roundw
                      case rel => exact ⟨ts ++ [t6], _, k6 + 1, a6, 0, HY10, HC10, own10, h10, by omega, hid (fun _ => hinv10.out), hid (fun h => absurd rfl h), hid (fun _ => by simp; omega), oW10, by omega⟩
                      case measure => rw [xr1, xr3, x10, x103]; simp [intOf]; omega
                    · have HY10 := HY9.only o10 (by simp; omega)
                      have HC10 := hid (HC9.out.only o10 (by simp; omega))
                      have own10 := hid (own9.out.only o10 (by simp; omega))
                      have oW10 := oW9.trans o10 (by simp)
                      have o10s := o10.size
                      have x10 : w10.cell? ⟨x, 1, none⟩ = some (.int .i64 k6) := h10.has.cell (j := 1) rfl
                      have x103 : w10.cell? ⟨x, 3, none⟩ = some (.int .i64 e10) := h10.has.cell (j := 3) rfl
                      have hno10 := hid (show e10 ≠ 0 → ∀ u r, ¬ Can (d + 1) u (sfx T k) r from fun _ u r hu => hinvA.out.stuck (fun a p ha => by rw [← hs6.out]; exact (hc6.out a p ha).2) hB9.out.symm (by rw [← isB_kt]; exact hb10) hu)
                      have hne10' := hid hne10
                      clear HY9 HC9 own9 oW9 h9 o10
                      go_wp2
                      go_roundw
                      case rel => exact ⟨ts ++ [t6], _, k6, a10, e10, HY10, HC10, own10, h10, by omega, hid (fun h => absurd h hne10'.out), hno10, hid (fun h => absurd h hne10'.out), oW10, by omega⟩
                      case measure => rw [xr1, xr3, x10, x103]; simp [intOf, hne10]; omega
                  · have hcl := hid (show ∀ u r, Can (d + 1) u (sfx T k) r → u = Tm.mk S (ts ++ [t6]) ∧ sfx T (k6 + 1) = r from fun u r hu => hinvA.out.close (fun a p ha => by rw [← hs6.out]; exact (hc6.out a p ha).2) hB9.out.symm hu)
                    go_wp2_with fail
                    refine (rskip_any ⟨#[41]⟩ x (some ⟨g, o, none⟩) cap T k6 a6 0 t8 _ h9 ht8).mono ?_
                    rw [show (⟨#[41]⟩ : ByteArray).data.toList = [41] from rfl, show ((0 : Int) == 0) = true from rfl, Bool.true_and]
                    rintro e w10 ⟨rfl, ⟨hb10, h10⟩ | ⟨hb10, a10, e10, h10, hne10⟩, o10⟩
                    · have HYf := HY9.only o10 (by simp; omega)
                      have HCf := HC9.out.only o10 (by simp; omega)
                      have ownf := own9.out.only o10 (by simp; omega)
                      have oWf := oW9.trans o10 (by simp)
                      have y0 : w10.cell? ⟨w.heap.size + 1, 0, none⟩ = some (.string S) := HYf.cell (j := 0) rfl
                      have y1 : w10.cell? ⟨w.heap.size + 1, 1, none⟩ = some (.slice a7 (ts.length + 1 : Nat) c7) := HYf.cell (j := 1) rfl
                      have q0 := HCf.cell (j := 0) rfl
                      have q1 := HCf.cell (j := 1) rfl
                      have zc0 := HCf.free 0
                      have zc1 := HCf.free 1
                      have HCg := (HCf.set 0 (.string S)).set 1 (.slice a7 (ts.length + 1 : Nat) c7)
                      have r0 : ((w10.setCell ⟨w.heap.size, 0, none⟩ (.string S)).setCell ⟨w.heap.size, 1, none⟩ (.slice a7 (ts.length + 1 : Nat) c7)).cell? ⟨w.heap.size, 0, none⟩ = some (.string S) := HCg.cell (j := 0) rfl
                      have r1 : ((w10.setCell ⟨w.heap.size, 0, none⟩ (.string S)).setCell ⟨w.heap.size, 1, none⟩ (.slice a7 (ts.length + 1 : Nat) c7)).cell? ⟨w.heap.size, 1, none⟩ = some (.slice a7 (ts.length + 1 : Nat) c7) := HCg.cell (j := 1) rfl
                      have hf := hid ((h10.other (c := w.heap.size) (o := 0) (by omega) (fun b o e => by have := hgc.out b o e; omega) (.string S)).other (c := w.heap.size) (o := 1) (by omega) (fun b o e => by have := hgc.out b o e; omega) (.slice a7 (ts.length + 1 : Nat) c7))
                      have OZ := hid ((oWf.setNew (b := w.heap.size) (o := 0) (Nat.le_refl _) (.string S)).setNew (b := w.heap.size) (o := 1) (Nat.le_refl _) (.slice a7 (ts.length + 1 : Nat) c7))
                      have Ownf := hid ((ownf.only (((Only.refl [w.heap.size] w10).setIn (b := w.heap.size) (o := 0) (by simp) (.string S)).setIn (b := w.heap.size) (o := 1) (by simp) (.slice a7 (ts.length + 1 : Nat) c7)) (by simp)).rebase (base' := w.heap.size) (by omega))
                      clear HCg HYf HCf ownf oWf h10 o10
                      go_wp2
                      exact bodyPost_ret (v := .agg #[.string S, .slice a7 (ts.length + 1 : Nat) c7]) (by simp [results, Tryz.results151, go_sem, r0, r1]) rfl ⟨⟨S, _, .mk S (ts ++ [t6]), k6 + 1, _, _, rfl, rests_term hSs.out Ownf.out, hf.out, by omega, fun _ => by omega, fun u r hu => ⟨rfl, ((hcl.out u r hu).1).symm, (hcl.out u r hu).2⟩⟩, OZ.out⟩
                    · rw [eB9] at hb10; cases hb10
                · have he6b : (e6 == 0) = false := by rw [beq_eq_false_iff_ne]; exact he6
                  rw [he6b, Bool.false_and]
                  go_wp2_with fail
                  refine (rskip_any ⟨#[44]⟩ x (some ⟨g, o, none⟩) cap T k6 a6 e6 t8 _ h9 ht8).mono ?_
                  rw [he6b, Bool.false_and]
                  rintro e w10 ⟨rfl, ⟨hb10, h10⟩ | ⟨hb10, a10, e10, h10, hne10⟩, o10⟩
                  · cases hb10
                  · have HY10 := HY9.only o10 (by simp; omega)
                    have HC10 := hid (HC9.out.only o10 (by simp; omega))
                    have own10 := hid (own9.out.only o10 (by simp; omega))
                    have oW10 := oW9.trans o10 (by simp)
                    have o10s := o10.size
                    have x10 : w10.cell? ⟨x, 1, none⟩ = some (.int .i64 k6) := h10.has.cell (j := 1) rfl
                    have x103 : w10.cell? ⟨x, 3, none⟩ = some (.int .i64 e10) := h10.has.cell (j := 3) rfl
                    have hno10 := hid (show e10 ≠ 0 → ∀ u r, ¬ Can (d + 1) u (sfx T k) r from fun _ u r hu => hinvA.out.none (fun a q ha => he6 (hc6.out a q ha).1) hu)
                    have hne10' := hid hne10
                    clear HY9 HC9 own9 oW9 h9 o10
                    go_wp2
                    go_roundw
                    case rel => exact ⟨ts ++ [t6], _, k6, a10, e10, HY10, HC10, own10, h10, by omega, hid (fun h => absurd h hne10'.out), hno10, hid (fun h => absurd h hne10'.out), oW10, by omega⟩
                    case measure => rw [xr1, xr3, x10, x103]; simp [intOf, hne10]; omega
            · go_wp2_with fail
              refine (rfail_any 5 x (some ⟨g, o, none⟩) cap T kk aa 0 _ h4q).mono ?_
              rintro e w6 ⟨rfl, ⟨a6, h6⟩, o6⟩
              rw [if_pos rfl] at h6
              have HY6 := HYq.out.only o6 (by simp; omega)
              have HC6 := hid (HCq.out.only o6 (by simp; omega))
              have own6 := hid (ownq.out.only o6 (by simp; omega))
              have oW6 := oWq.trans o6 (by simp)
              have o6s := o6.size
              clear HYq HCq ownq oWq h4q o6 y1
              go_wp2_with fail
              refine (rskip_any ⟨#[41]⟩ x (some ⟨g, o, none⟩) cap T kk a6 5 t5 _ h6 ht5).mono ?_
              rw [show ((5 : Int) == 0) = false from rfl, Bool.false_and]
              rintro e w10 ⟨rfl, ⟨hb10, h10⟩ | ⟨hb10, a10, e10, h10, hne10⟩, o10⟩
              · cases hb10
              · clear hb10 h6
                have HYf := HY6.only o10 (by simp; omega)
                have HCf := HC6.out.only o10 (by simp; omega)
                have ownf := own6.out.only o10 (by simp; omega)
                have oWf := oW6.trans o10 (by simp)
                have ofs := o10.size
                have y0 : w10.cell? ⟨w.heap.size + 1, 0, none⟩ = some (.string S) := HYf.cell (j := 0) rfl
                have y1 : w10.cell? ⟨w.heap.size + 1, 1, none⟩ = some (.slice a5 ts.length c5) := HYf.cell (j := 1) rfl
                have q0 := HCf.cell (j := 0) rfl
                have q1 := HCf.cell (j := 1) rfl
                have zc0 := HCf.free 0
                have zc1 := HCf.free 1
                have HCg := (HCf.set 0 (.string S)).set 1 (.slice a5 ts.length c5)
                have r0 : ((w10.setCell ⟨w.heap.size, 0, none⟩ (.string S)).setCell ⟨w.heap.size, 1, none⟩ (.slice a5 ts.length c5)).cell? ⟨w.heap.size, 0, none⟩ = some (.string S) := HCg.cell (j := 0) rfl
                have r1 : ((w10.setCell ⟨w.heap.size, 0, none⟩ (.string S)).setCell ⟨w.heap.size, 1, none⟩ (.slice a5 ts.length c5)).cell? ⟨w.heap.size, 1, none⟩ = some (.slice a5 ts.length c5) := HCg.cell (j := 1) rfl
                have hf := hid ((h10.other (c := w.heap.size) (o := 0) (by omega) (fun b o e => by have := hgc.out b o e; omega) (.string S)).other (c := w.heap.size) (o := 1) (by omega) (fun b o e => by have := hgc.out b o e; omega) (.slice a5 ts.length c5))
                have OZ := hid ((oWf.setNew (b := w.heap.size) (o := 0) (Nat.le_refl _) (.string S)).setNew (b := w.heap.size) (o := 1) (Nat.le_refl _) (.slice a5 ts.length c5))
                have Ownf := hid ((ownf.only (((Only.refl [w.heap.size] w10).setIn (b := w.heap.size) (o := 0) (by simp) (.string S)).setIn (b := w.heap.size) (o := 1) (by simp) (.slice a5 ts.length c5)) (by simp)).rebase (base' := w.heap.size) (by omega))
                have hneF := hid hne10
                clear hne10 HCg HYf HCf ownf oWf h10 o10
                go_wp2
                exact bodyPost_ret (v := .agg #[.string S, .slice a5 ts.length c5]) (by simp [results, Tryz.results151, go_sem, r0, r1]) rfl ⟨⟨S, _, .mk S ts, kk, _, _, rfl, rests_term hSs.out Ownf.out, hf.out, by omega, fun h => absurd h hneF.out, fun u r hu => absurd hu (hnoA.out u r)⟩, OZ.out⟩
          · have e4 : ((ts.length : Int) == 4) = false := by rw [beq_eq_false_iff_ne]; omega
            have HYq := HY
            have HCq := HC
            have ownq := own
            have h4q := h4
            have oWq := oW
            have hbsq := hbs
            clear HY HC own h4 oW hbs
            have hcf : ∀ (xv : Array Value) (wx : World), (callFunc 113 xv).run Tryz.prog wx = .ok (.enter 113 xv) wx := fun xv wx => by simp [go_sem]
            have hYl := HYq.out.lt
            have hxY : x ≠ w.heap.size + 1 := by omega
            have hwr : IntKind.i64.wrap (L1 + 1) = L1 + 1 := by rw [IntKind.wrap_i64]; omega
            go_wp2
            go_region_law (first
              | (refine step_call_or rfl 113 _ _ rfl hcf #[.pointer (some ⟨x, 0, none⟩), .int .i64 (L1 + 1)] (by simp [Act.eval, Act.put]) (RTermSaid.parts (Hterm.out x (some ⟨g, o, none⟩) cap T kk aa (L1 + 1) _ (by have := HL.out; omega) (h4q.below ((Below.refl wr.heap.size wr).drew) (Nat.le_refl _)))) (fun _ _ h => h.elim) ?_
                 rintro v6 w6 ⟨n6, b6, t6, k6, a6, e6, rfl, hR6, h6, hk6, hke6, hc6, o6⟩
                 have o6' : Only [x] wr w6 := ⟨o6.os, o6.tape, o6.output, o6.size, o6.block⟩
                 have HY6 := HYq.out.only o6' (by simp; omega)
                 have y6 : w6.cell? ⟨w.heap.size + 1, 1, none⟩ = some (.slice a5 ts.length c5) := HY6.cell (j := 1) rfl
                 have y6b : (w6.alloc (.cells #[.string n6, b6] 76)).cell? ⟨w.heap.size + 1, 1, none⟩ = some (.slice a5 ts.length c5) := (HY6.alloc _).cell (j := 1) rfl
                 have hu6 := term_one hR6.now
                 have o6s : wr.heap.size ≤ w6.heap.size := o6'.size)
              | (refine step_append_run rfl (.tmp 71) (.tmp 76) 43 rfl (.slice a5 ts.length c5) (.slice (some ⟨w6.heap.size, 0, none⟩) 1 1) (by rfl) (by rfl) (term_append (own := ((ownq.out.only o6' (by simp; omega)).alloc (.cells #[.string n6, b6] 76))) (Hg := Has.new w6 _ _) hu6 (((hR6.weak (S' := fun j => w.heap.size + 2 ≤ j ∧ (Value.slice a5 ts.length c5).ownBlock ≠ some j) (fun j _ hj => ⟨Nat.le_trans hbsq hj, fun e => by have := (ownq.out.lt _ e).2; have hj' : wr.heap.size ≤ j := hj; omega⟩)).below ((Below.refl w6.heap.size w6).alloc (Nat.le_refl _) _) (Nat.le_refl _))) (by have := h4q.lt; omega) (by simp; omega)) ?_
                 rintro v7 w7 ⟨own7, b7, hA7, hat7⟩
                 obtain ⟨a7, c7, rfl⟩ := own7.shape
                 have H7 : Has w7 (w.heap.size + 1) #[.string S, .slice a5 ts.length c5] 76 := (hA7.block _ (by simp; omega) (fun e => by have := (ownq.out.lt _ e).1; omega)).trans (HY6.alloc (.cells #[.string n6, b6] 76))
                 have y7 : w7.cell? ⟨w.heap.size + 1, 1, none⟩ = some (.slice a5 ts.length c5) := H7.cell (j := 1) rfl
                 have z7 := H7.free 1))
            all_goals
              have hown7 := own7
              simp only [List.length_append, List.length_cons, List.length_nil, Nat.zero_add] at hown7
              have bA := (Below.refl w6.heap.size w6).alloc (Nat.le_refl _) (.cells #[.string n6, b6] 76)
              have b7s := b7.size
              have hbA0 : (w6.alloc (.cells #[.string n6, b6] 76)).heap.size = w6.heap.size + 1 := by simp
              have hbA : w6.heap.size + 1 ≤ w7.heap.size := by omega
              have HY8 : Has (w7.setCell ⟨w.heap.size + 1, 1, none⟩ (.slice a7 (ts.length + 1) c7)) (w.heap.size + 1) #[.string S, .slice a7 (ts.length + 1) c7] 76 := by
                have := H7.set 1 (.slice a7 (ts.length + 1) c7)
                simpa using this
              have HC8 := hid ((((HCq.out.only o6' (by simp; omega)).alloc (.cells #[.string n6, b6] 76)).below b7 (by omega)).other (a := ⟨w.heap.size + 1, 1, none⟩) (by simp) (.slice a7 (ts.length + 1) c7))
              have h8 := ((h6.below bA (Nat.le_refl _)).low b7 (by omega) (fun b o e => by have := hgc.out b o e; omega)).other (c := w.heap.size + 1) (o := 1) hxY (fun b o e => by have := hgc.out b o e; omega) (.slice a7 (ts.length + 1) c7)
              have oW8 := ((((oWq.trans o6' (by simp)).alloc (.cells #[.string n6, b6] 76)).below b7 (by omega)).setNew (b := w.heap.size + 1) (o := 1) (by omega) (.slice a7 (ts.length + 1) c7))
              have own8 := hid (hown7.only ((Only.refl [w.heap.size + 1] w7).setIn (b := w.heap.size + 1) (o := 1) (by simp) (.slice a7 (ts.length + 1) c7)) (by simp))
              have hs8 : w.heap.size + 2 ≤ (w7.setCell ⟨w.heap.size + 1, 1, none⟩ (.slice a7 (ts.length + 1) c7)).heap.size := by simp [World.setCell]; omega
              obtain ⟨w8, ew8⟩ : ∃ w8, w8 = w7.setCell ⟨w.heap.size + 1, 1, none⟩ (.slice a7 (ts.length + 1) c7) := ⟨_, rfl⟩
              rw [← ew8] at HY8 HC8 h8 oW8 own8 hs8 ⊢
              obtain ⟨t8, ht8⟩ : ∃ t8, T[k6]? = some t8 := ⟨_, List.getElem?_eq_getElem h6.lt⟩
              have hs6 := hid (sfx_cons ht8)
              have hc6 := hid hc6
              clear ew8 own7 hown7 bA b7 hA7 hat7 H7 y7 z7 y6 y6b HY6 h6 hR6 hu6 o6 o6' ownq h4q oWq HCq HYq y1
              go_wp2_with fail
              refine (ris_any ⟨#[41]⟩ x (some ⟨g, o, none⟩) cap T k6 a6 e6 t8 _ h8 ht8).mono ?_
              rintro e w9 ⟨rfl, o9⟩
              rw [show (⟨#[41]⟩ : ByteArray).data.toList = [41] from rfl]
              have h9 := h8.below o9 (Nat.le_refl _)
              have HY9 := HY8.below o9 HY8.lt
              have HC9 := hid (HC8.out.below o9 HC8.out.lt)
              have own9 := hid (own8.out.below o9 (Nat.le_refl _))
              have oW9 := oW8.below o9 oW8.size
              have o9s := o9.size
              clear HY8 HC8 own8 oW8 h8 o9
              by_cases he6 : e6 = 0
              · subst he6
                rw [show ((0 : Int) == 0) = true from rfl, Bool.true_and]
                have hkk6 := hke6 rfl
                have hB9 := hid (isB_kt t8 [41])
                obtain ⟨B9, eB9⟩ : ∃ B, isB t8 [41] = B := ⟨_, rfl⟩
                rw [eB9] at hB9 ⊢
                cases B9
                · go_wp2_with fail
                  refine (rskip_any ⟨#[44]⟩ x (some ⟨g, o, none⟩) cap T k6 a6 0 t8 _ h9 ht8).mono ?_
                  rw [show (⟨#[44]⟩ : ByteArray).data.toList = [44] from rfl, show ((0 : Int) == 0) = true from rfl, Bool.true_and]
                  rintro e w10 ⟨rfl, ⟨hb10, h10⟩ | ⟨hb10, a10, e10, h10, hne10⟩, o10⟩
                  · have HY10 := HY9.only o10 (by simp; omega)
                    have HC10 := hid (HC9.out.only o10 (by simp; omega))
                    have own10 := hid (own9.out.only o10 (by simp; omega))
                    have oW10 := oW9.trans o10 (by simp)
                    have o10s := o10.size
                    have x10 : w10.cell? ⟨x, 1, none⟩ = some (.int .i64 ((k6 + 1 : Nat) : Int)) := h10.has.cell (j := 1) rfl
                    have x103 : w10.cell? ⟨x, 3, none⟩ = some (.int .i64 0) := h10.has.cell (j := 3) rfl
                    have hlt10 := h10.lt
                    have hinv10 := hid (show ArgsInv d S (sfx T k) (ts ++ [t6]) (sfx T (k6 + 1)) from hinvA.out.more (fun a p ha => by rw [← hs6.out]; exact (hc6.out a p ha).2) (by rw [← isB_kt]; exact hb10))
                    clear HY9 HC9 own9 oW9 h9 o10
                    go_wp2
                    go_roundw
                    case rel => exact ⟨ts ++ [t6], _, k6 + 1, a6, 0, HY10, HC10, own10, h10, by omega, hid (fun _ => hinv10.out), hid (fun h => absurd rfl h), hid (fun _ => by simp; omega), oW10, by omega⟩
                    case measure => rw [xr1, xr3, x10, x103]; simp [intOf]; omega
                  · have HY10 := HY9.only o10 (by simp; omega)
                    have HC10 := hid (HC9.out.only o10 (by simp; omega))
                    have own10 := hid (own9.out.only o10 (by simp; omega))
                    have oW10 := oW9.trans o10 (by simp)
                    have o10s := o10.size
                    have x10 : w10.cell? ⟨x, 1, none⟩ = some (.int .i64 k6) := h10.has.cell (j := 1) rfl
                    have x103 : w10.cell? ⟨x, 3, none⟩ = some (.int .i64 e10) := h10.has.cell (j := 3) rfl
                    have hno10 := hid (show e10 ≠ 0 → ∀ u r, ¬ Can (d + 1) u (sfx T k) r from fun _ u r hu => hinvA.out.stuck (fun a p ha => by rw [← hs6.out]; exact (hc6.out a p ha).2) hB9.out.symm (by rw [← isB_kt]; exact hb10) hu)
                    have hne10' := hid hne10
                    clear HY9 HC9 own9 oW9 h9 o10
                    go_wp2
                    go_roundw
                    case rel => exact ⟨ts ++ [t6], _, k6, a10, e10, HY10, HC10, own10, h10, by omega, hid (fun h => absurd h hne10'.out), hno10, hid (fun h => absurd h hne10'.out), oW10, by omega⟩
                    case measure => rw [xr1, xr3, x10, x103]; simp [intOf, hne10]; omega
                · have hcl := hid (show ∀ u r, Can (d + 1) u (sfx T k) r → u = Tm.mk S (ts ++ [t6]) ∧ sfx T (k6 + 1) = r from fun u r hu => hinvA.out.close (fun a p ha => by rw [← hs6.out]; exact (hc6.out a p ha).2) hB9.out.symm hu)
                  go_wp2_with fail
                  refine (rskip_any ⟨#[41]⟩ x (some ⟨g, o, none⟩) cap T k6 a6 0 t8 _ h9 ht8).mono ?_
                  rw [show (⟨#[41]⟩ : ByteArray).data.toList = [41] from rfl, show ((0 : Int) == 0) = true from rfl, Bool.true_and]
                  rintro e w10 ⟨rfl, ⟨hb10, h10⟩ | ⟨hb10, a10, e10, h10, hne10⟩, o10⟩
                  · have HYf := HY9.only o10 (by simp; omega)
                    have HCf := HC9.out.only o10 (by simp; omega)
                    have ownf := own9.out.only o10 (by simp; omega)
                    have oWf := oW9.trans o10 (by simp)
                    have y0 : w10.cell? ⟨w.heap.size + 1, 0, none⟩ = some (.string S) := HYf.cell (j := 0) rfl
                    have y1 : w10.cell? ⟨w.heap.size + 1, 1, none⟩ = some (.slice a7 (ts.length + 1 : Nat) c7) := HYf.cell (j := 1) rfl
                    have q0 := HCf.cell (j := 0) rfl
                    have q1 := HCf.cell (j := 1) rfl
                    have zc0 := HCf.free 0
                    have zc1 := HCf.free 1
                    have HCg := (HCf.set 0 (.string S)).set 1 (.slice a7 (ts.length + 1 : Nat) c7)
                    have r0 : ((w10.setCell ⟨w.heap.size, 0, none⟩ (.string S)).setCell ⟨w.heap.size, 1, none⟩ (.slice a7 (ts.length + 1 : Nat) c7)).cell? ⟨w.heap.size, 0, none⟩ = some (.string S) := HCg.cell (j := 0) rfl
                    have r1 : ((w10.setCell ⟨w.heap.size, 0, none⟩ (.string S)).setCell ⟨w.heap.size, 1, none⟩ (.slice a7 (ts.length + 1 : Nat) c7)).cell? ⟨w.heap.size, 1, none⟩ = some (.slice a7 (ts.length + 1 : Nat) c7) := HCg.cell (j := 1) rfl
                    have hf := hid ((h10.other (c := w.heap.size) (o := 0) (by omega) (fun b o e => by have := hgc.out b o e; omega) (.string S)).other (c := w.heap.size) (o := 1) (by omega) (fun b o e => by have := hgc.out b o e; omega) (.slice a7 (ts.length + 1 : Nat) c7))
                    have OZ := hid ((oWf.setNew (b := w.heap.size) (o := 0) (Nat.le_refl _) (.string S)).setNew (b := w.heap.size) (o := 1) (Nat.le_refl _) (.slice a7 (ts.length + 1 : Nat) c7))
                    have Ownf := hid ((ownf.only (((Only.refl [w.heap.size] w10).setIn (b := w.heap.size) (o := 0) (by simp) (.string S)).setIn (b := w.heap.size) (o := 1) (by simp) (.slice a7 (ts.length + 1 : Nat) c7)) (by simp)).rebase (base' := w.heap.size) (by omega))
                    clear HCg HYf HCf ownf oWf h10 o10
                    go_wp2
                    exact bodyPost_ret (v := .agg #[.string S, .slice a7 (ts.length + 1 : Nat) c7]) (by simp [results, Tryz.results151, go_sem, r0, r1]) rfl ⟨⟨S, _, .mk S (ts ++ [t6]), k6 + 1, _, _, rfl, rests_term hSs.out Ownf.out, hf.out, by omega, fun _ => by omega, fun u r hu => ⟨rfl, ((hcl.out u r hu).1).symm, (hcl.out u r hu).2⟩⟩, OZ.out⟩
                  · rw [eB9] at hb10; cases hb10
              · have he6b : (e6 == 0) = false := by rw [beq_eq_false_iff_ne]; exact he6
                rw [he6b, Bool.false_and]
                go_wp2_with fail
                refine (rskip_any ⟨#[44]⟩ x (some ⟨g, o, none⟩) cap T k6 a6 e6 t8 _ h9 ht8).mono ?_
                rw [he6b, Bool.false_and]
                rintro e w10 ⟨rfl, ⟨hb10, h10⟩ | ⟨hb10, a10, e10, h10, hne10⟩, o10⟩
                · cases hb10
                · have HY10 := HY9.only o10 (by simp; omega)
                  have HC10 := hid (HC9.out.only o10 (by simp; omega))
                  have own10 := hid (own9.out.only o10 (by simp; omega))
                  have oW10 := oW9.trans o10 (by simp)
                  have o10s := o10.size
                  have x10 : w10.cell? ⟨x, 1, none⟩ = some (.int .i64 k6) := h10.has.cell (j := 1) rfl
                  have x103 : w10.cell? ⟨x, 3, none⟩ = some (.int .i64 e10) := h10.has.cell (j := 3) rfl
                  have hno10 := hid (show e10 ≠ 0 → ∀ u r, ¬ Can (d + 1) u (sfx T k) r from fun _ u r hu => hinvA.out.none (fun a q ha => he6 (hc6.out a q ha).1) hu)
                  have hne10' := hid hne10
                  clear HY9 HC9 own9 oW9 h9 o10
                  go_wp2
                  go_roundw
                  case rel => exact ⟨ts ++ [t6], _, k6, a10, e10, HY10, HC10, own10, h10, by omega, hid (fun h => absurd h hne10'.out), hno10, hid (fun h => absurd h hne10'.out), oW10, by omega⟩
                  case measure => rw [xr1, xr3, x10, x103]; simp [intOf, hne10]; omega
        · have heb : (ee == 0) = false := by rw [beq_eq_false_iff_ne]; exact hee
          have hno2 := hid (hno.out hee)
          clear hee
          go_wp2_with fail
          refine (rskip_any ⟨#[41]⟩ x (some ⟨g, o, none⟩) cap T kk aa ee t5 _ h4 ht5).mono ?_
          rw [heb, Bool.false_and]
          rintro e w10 ⟨rfl, ⟨hb10, h10⟩ | ⟨hb10, a10, e10, h10, hne10⟩, o10⟩
          · cases hb10
          · clear hb10 y1
            have HY := HY.out
            have HYf := HY.only o10 (by simp; omega)
            have HCf := HC.out.only o10 (by simp; omega)
            have ownf := own.out.only o10 (by simp; omega)
            have oWf := oW.trans o10 (by simp)
            have ofs := o10.size
            have y0 : w10.cell? ⟨w.heap.size + 1, 0, none⟩ = some (.string S) := HYf.cell (j := 0) rfl
            have y1 : w10.cell? ⟨w.heap.size + 1, 1, none⟩ = some (.slice a5 ts.length c5) := HYf.cell (j := 1) rfl
            have q0 := HCf.cell (j := 0) rfl
            have q1 := HCf.cell (j := 1) rfl
            have zc0 := HCf.free 0
            have zc1 := HCf.free 1
            have HCg := (HCf.set 0 (.string S)).set 1 (.slice a5 ts.length c5)
            have r0 : ((w10.setCell ⟨w.heap.size, 0, none⟩ (.string S)).setCell ⟨w.heap.size, 1, none⟩ (.slice a5 ts.length c5)).cell? ⟨w.heap.size, 0, none⟩ = some (.string S) := HCg.cell (j := 0) rfl
            have r1 : ((w10.setCell ⟨w.heap.size, 0, none⟩ (.string S)).setCell ⟨w.heap.size, 1, none⟩ (.slice a5 ts.length c5)).cell? ⟨w.heap.size, 1, none⟩ = some (.slice a5 ts.length c5) := HCg.cell (j := 1) rfl
            have hf := hid ((h10.other (c := w.heap.size) (o := 0) (by omega) (fun b o e => by have := hgc.out b o e; omega) (.string S)).other (c := w.heap.size) (o := 1) (by omega) (fun b o e => by have := hgc.out b o e; omega) (.slice a5 ts.length c5))
            have OZ := hid ((oWf.setNew (b := w.heap.size) (o := 0) (Nat.le_refl _) (.string S)).setNew (b := w.heap.size) (o := 1) (Nat.le_refl _) (.slice a5 ts.length c5))
            have Ownf := hid ((ownf.only (((Only.refl [w.heap.size] w10).setIn (b := w.heap.size) (o := 0) (by simp) (.string S)).setIn (b := w.heap.size) (o := 1) (by simp) (.slice a5 ts.length c5)) (by simp)).rebase (base' := w.heap.size) (by omega))
            have hneF := hid hne10
            clear hne10 HCg HYf HCf ownf oWf h10 o10
            go_wp2
            exact bodyPost_ret (v := .agg #[.string S, .slice a5 ts.length c5]) (by simp [results, Tryz.results151, go_sem, r0, r1]) rfl ⟨⟨S, _, .mk S ts, kk, _, _, rfl, rests_term hSs.out Ownf.out, hf.out, by omega, fun h => absurd h hneF.out, fun u r hu => absurd hu (hno2.out u r)⟩, OZ.out⟩
  · have hKb : (K == 1) = false := by rw [beq_eq_false_iff_ne]; exact hK1
    have hcan := hid (show ∀ u r, Can (d + 1) u (sfx T k) r → Tm.mk S [] = u ∧ sfx T (k + 1) = r from fun u r hu => by
      rw [hs0.out] at hu
      rcases hu.cases with ⟨s, rfl, _, e1, e2, _⟩ | ⟨s, l, rfl, _, _, e1, _, _, e3⟩
      · have : s = S := ba_ext e1.symm
        subst this
        exact ⟨rfl, e2⟩
      · exact absurd e1 hK1)
    clear hK1
    have y0 : ((w1.drewN nq).setCell ⟨x, 1, none⟩ (.int .i64 ((k : Int) + 1))).cell? ⟨w.heap.size + 1, 0, none⟩ = some (.string S) := hY2.cell (j := 0) rfl
    have y1 : ((w1.drewN nq).setCell ⟨x, 1, none⟩ (.int .i64 ((k : Int) + 1))).cell? ⟨w.heap.size + 1, 1, none⟩ = some (.slice none 0 0) := hY2.cell (j := 1) rfl
    have q0 := hC2.cell (j := 0) rfl
    have q1 := hC2.cell (j := 1) rfl
    have zc0 := hC2.free 0
    have zc1 := hC2.free 1
    have HC4 := (hC2.set 0 (.string S)).set 1 (.slice none 0 0)
    have r0 : ((((w1.drewN nq).setCell ⟨x, 1, none⟩ (.int .i64 ((k : Int) + 1))).setCell ⟨w.heap.size, 0, none⟩ (.string S)).setCell ⟨w.heap.size, 1, none⟩ (.slice none 0 0)).cell? ⟨w.heap.size, 0, none⟩ = some (.string S) := HC4.cell (j := 0) rfl
    have r1 : ((((w1.drewN nq).setCell ⟨x, 1, none⟩ (.int .i64 ((k : Int) + 1))).setCell ⟨w.heap.size, 0, none⟩ (.string S)).setCell ⟨w.heap.size, 1, none⟩ (.slice none 0 0)).cell? ⟨w.heap.size, 1, none⟩ = some (.slice none 0 0) := HC4.cell (j := 1) rfl
    have H4 := hid ((h2.other (c := w.heap.size) (o := 0) (by omega) (fun b o e => by have := hgc.out b o e; omega) (.string S)).other (c := w.heap.size) (o := 1) (by omega) (fun b o e => by have := hgc.out b o e; omega) (.slice none 0 0))
    have OZ := hid ((oX.setNew (b := w.heap.size) (o := 0) (Nat.le_refl _) (.string S)).setNew (b := w.heap.size) (o := 1) (Nat.le_refl _) (.slice none 0 0))
    clear HC4 h2 oX
    go_wp2
    exact bodyPost_ret (v := .agg #[.string S, .slice none 0 0]) (by simp [results, Tryz.results151, go_sem, r0, r1]) rfl ⟨⟨S, .slice none 0 0, .mk S [], k + 1, _, _, rfl, rests_term hSs.out (OwnM.nil _ _ _ 76 _), H4.out, by omega, fun _ => by omega, fun u r hu => ⟨rfl, hcan.out u r hu⟩⟩, OZ.out⟩
end Go.Proofs.YtahbhhenobehfaaGreatDoor
