/-
  The walks of the reference parser's term.
  The walk of Lex of the lexer's reference.
-/
import Derived.Test.YtahbhhenobehfaaGreatDoorNU14
import Derived.Test.YtahbhhenobehfaaGreatDoorNU5
namespace Go.Proofs.YtahbhhenobehfaaGreatDoor
open Go.ChangeShapes Go.WideShapes Go.ChangeAt Go.RowKit

theorem Can.begins {d : Nat} {T : List Tok} {k : Nat} {t : Tok} (ht : T[k]? = some t) (hb : beginsB t = false) (u : Tm) (r : List KT) : ¬ Can d u (sfx T k) r := by
  intro hu
  obtain ⟨K, S, P⟩ := t
  unfold beginsB at hb
  simp only [Bool.or_eq_false_iff, beq_eq_false_iff_ne] at hb
  match d, hu with
  | 0, hu => exact hu.zero
  | d' + 1, hu =>
    rw [sfx_cons ht] at hu
    rcases hu.cases with ⟨s, rfl, e1, _⟩ | ⟨s, l, rfl, _, _, e1, _⟩
    · rcases e1 with e1 | e1
      · exact hb.1.1 e1
      · exact hb.1.2 e1
    · exact hb.1.1 e1
set_option maxRecDepth 20000 in
set_option maxHeartbeats 8000000 in
theorem rterm_walk (d : Nat) (hd : d ≤ 4)
    (hrest : ∀ (d' : Nat), d = d' + 1 → ∀ (x : Nat) (ad : Option Addr) (cap : Nat) (T : List Tok) (k : Nat) (a : Int) (t : Tok) (L : Int) (w : World), L = 4 - (d' : Int) → RrAt w x ad cap T k a 0 → T[k]? = some t → t.kind ≠ 0 → Calls Tryz.prog 151 #[.pointer (some ⟨x, 0, none⟩), .int .i64 L] w (RTermSaid d x ad cap T k w))
    (x : Nat) (ad : Option Addr) (cap : Nat) (T : List Tok) (k : Nat) (a : Int) (L : Int) (w : World) (hL : L = 5 - (d : Int)) (h : RrAt w x ad cap T k a 0) :
    Calls Tryz.prog 113 #[.pointer (some ⟨x, 0, none⟩), .int .i64 L] w (RTermSaid d x ad cap T k w) := by
  have hsz := h.has.lt
  have hgc := hid h.block
  have hlt := h.lt
  obtain ⟨t, ht⟩ : ∃ t, T[k]? = some t := ⟨_, List.getElem?_eq_getElem h.lt⟩
  have b0 : Below w.heap.size w (w.alloc (.cells #[.string ⟨#[]⟩, .slice none 0 0] 76)) := (Below.refl _ _).alloc (Nat.le_refl _) _
  have HC := Has.new w #[.string ⟨#[]⟩, .slice none 0 0] 76
  have h0 := h.below b0 (Nat.le_refl _)
  have Hrest := hid hrest
  have HL := hid hL
  have hempty : (⟨#[]⟩ : ByteArray).size ≤ maxLen := by decide
  clear hrest hL h
  go_enter Tryz.func113, Tryz.ntmps113
  go_wp2_with fail
  refine (rbegins_tok x ad cap T k a 0 t _ h0 ht).mono ?_
  rintro e w1 ⟨rfl, o1⟩
  obtain ⟨B, eB⟩ : ∃ B, B = beginsB t := ⟨_, rfl⟩
  have hB := hid eB
  rw [← eB]
  clear eB
  have h1 := h0.below o1 (Nat.le_refl _)
  have HC1 := HC.below o1 HC.lt
  have b1 := b0.trans (o1.mono b0.size)
  have b1s := b1.size
  have hcw : w.heap.size < w1.heap.size := HC1.lt
  clear h0 HC b0 o1
  cases B
  · go_wp2_with fail
    refine (rfail_any 1 x ad cap T k a 0 _ h1).mono ?_
    rintro e w2 ⟨rfl, ⟨a2, h2⟩, o2⟩
    rw [if_pos rfl] at h2
    have HC2 := HC1.only o2 (by simp; omega)
    have oW := (Only.ofBelow (l := [x]) b1 (Nat.le_refl _)).trans o2 (by simp)
    have q0 := HC2.cell (j := 0) rfl
    have q1 := HC2.cell (j := 1) rfl
    have zz0 := HC2.free 0
    have zz1 := HC2.free 1
    have HC3 := (HC2.set 0 (.string ⟨#[]⟩)).set 1 (.slice none 0 0)
    have r0 : ((w2.setCell ⟨w.heap.size, 0, none⟩ (.string ⟨#[]⟩)).setCell ⟨w.heap.size, 1, none⟩ (.slice none 0 0)).cell? ⟨w.heap.size, 0, none⟩ = some (.string ⟨#[]⟩) := HC3.cell (j := 0) rfl
    have r1 : ((w2.setCell ⟨w.heap.size, 0, none⟩ (.string ⟨#[]⟩)).setCell ⟨w.heap.size, 1, none⟩ (.slice none 0 0)).cell? ⟨w.heap.size, 1, none⟩ = some (.slice none 0 0) := HC3.cell (j := 1) rfl
    have H3 := hid ((h2.other (c := w.heap.size) (o := 0) (by omega) (fun b o e => by have := hgc.out b o e; omega) (.string ⟨#[]⟩)).other (c := w.heap.size) (o := 1) (by omega) (fun b o e => by have := hgc.out b o e; omega) (.slice none 0 0))
    have OZ := hid ((oW.setNew (b := w.heap.size) (o := 0) (Nat.le_refl _) (.string ⟨#[]⟩)).setNew (b := w.heap.size) (o := 1) (Nat.le_refl _) (.slice none 0 0))
    have hno := hid (Can.begins (d := d) ht hB.out.symm)
    clear HC3 HC2 HC1 h2 h1 oW o2 b1 ht hB
    go_wp2
    exact bodyPost_ret (v := .agg #[.string ⟨#[]⟩, .slice none 0 0]) (by simp [results, Tryz.results113, go_sem, r0, r1]) rfl ⟨⟨_, _, .mk ⟨#[]⟩ [], k, _, _, rfl, rests_term hempty (OwnM.nil _ _ _ 76 _), H3.out, Nat.le_refl _, fun h => absurd h (by decide), fun u r hu => absurd hu (hno.out u r)⟩, OZ.out⟩
  · by_cases hL4 : (4 : Int) < L
    · have hd0 := hid (show d = 0 by have := HL.out; omega)
      go_wp2_with fail
      refine (rfail_any 3 x ad cap T k a 0 _ h1).mono ?_
      rintro e w2 ⟨rfl, ⟨a2, h2⟩, o2⟩
      rw [if_pos rfl] at h2
      have HC2 := HC1.only o2 (by simp; omega)
      have oW := (Only.ofBelow (l := [x]) b1 (Nat.le_refl _)).trans o2 (by simp)
      have q0 := HC2.cell (j := 0) rfl
      have q1 := HC2.cell (j := 1) rfl
      have zz0 := HC2.free 0
      have zz1 := HC2.free 1
      have HC3 := (HC2.set 0 (.string ⟨#[]⟩)).set 1 (.slice none 0 0)
      have r0 : ((w2.setCell ⟨w.heap.size, 0, none⟩ (.string ⟨#[]⟩)).setCell ⟨w.heap.size, 1, none⟩ (.slice none 0 0)).cell? ⟨w.heap.size, 0, none⟩ = some (.string ⟨#[]⟩) := HC3.cell (j := 0) rfl
      have r1 : ((w2.setCell ⟨w.heap.size, 0, none⟩ (.string ⟨#[]⟩)).setCell ⟨w.heap.size, 1, none⟩ (.slice none 0 0)).cell? ⟨w.heap.size, 1, none⟩ = some (.slice none 0 0) := HC3.cell (j := 1) rfl
      have H3 := hid ((h2.other (c := w.heap.size) (o := 0) (by omega) (fun b o e => by have := hgc.out b o e; omega) (.string ⟨#[]⟩)).other (c := w.heap.size) (o := 1) (by omega) (fun b o e => by have := hgc.out b o e; omega) (.slice none 0 0))
      have OZ := hid ((oW.setNew (b := w.heap.size) (o := 0) (Nat.le_refl _) (.string ⟨#[]⟩)).setNew (b := w.heap.size) (o := 1) (Nat.le_refl _) (.slice none 0 0))
      clear HC3 HC2 HC1 h2 h1 oW o2 b1 ht hB
      go_wp2
      exact bodyPost_ret (v := .agg #[.string ⟨#[]⟩, .slice none 0 0]) (by simp [results, Tryz.results113, go_sem, r0, r1]) rfl ⟨⟨_, _, .mk ⟨#[]⟩ [], k, _, _, rfl, rests_term hempty (OwnM.nil _ _ _ 76 _), H3.out, Nat.le_refl _, fun h => absurd h (by decide), fun u r hu => by rw [hd0.out] at hu; exact absurd hu (Can.zero)⟩, OZ.out⟩
    · obtain ⟨d', hd'⟩ : ∃ d', d = d' + 1 := ⟨d - 1, by have := HL.out; omega⟩
      have HD := hid hd'
      clear hd'
      have hK := hid (show t.kind ≠ 0 from fun e0 => by
        have := hB.out
        unfold beginsB at this
        rw [e0] at this
        simp at this)
      go_wp2_with fail
      refine (Hrest.out d' HD.out x ad cap T k a t L _ (by have := HL.out; have := HD.out; omega) h1 ht hK.out).mono ?_
      rintro e w3 ⟨⟨n, v, u3, k3, a3, e3, rfl, hR3, h3, hk3, hke3, hc3⟩, o3⟩
      have HC3 := HC1.only o3 (by simp; omega)
      have q0 := HC3.cell (j := 0) rfl
      have q1 := HC3.cell (j := 1) rfl
      have zz0 := HC3.free 0
      have zz1 := HC3.free 1
      obtain ⟨av, nv, cv, rfl⟩ : ∃ av nv cv, v = .slice av nv cv := by
        obtain ⟨s, a', e, hv⟩ := hR3.now
        simp only [List.cons.injEq, and_true] at e
        obtain ⟨_, rfl⟩ := e
        match u3, hv with
        | .mk m l, hv =>
          obtain ⟨_, _, ad, cap, rfl, _⟩ := hv
          exact ⟨_, _, _, rfl⟩
      have HC4 := (HC3.set 0 (.string n)).set 1 (.slice av nv cv)
      have r0 : ((w3.setCell ⟨w.heap.size, 0, none⟩ (.string n)).setCell ⟨w.heap.size, 1, none⟩ (.slice av nv cv)).cell? ⟨w.heap.size, 0, none⟩ = some (.string n) := HC4.cell (j := 0) rfl
      have r1 : ((w3.setCell ⟨w.heap.size, 0, none⟩ (.string n)).setCell ⟨w.heap.size, 1, none⟩ (.slice av nv cv)).cell? ⟨w.heap.size, 1, none⟩ = some (.slice av nv cv) := HC4.cell (j := 1) rfl
      have h4 := (h3.other (c := w.heap.size) (o := 0) (by omega) (fun b o e => by have := hgc.out b o e; omega) (.string n)).other (c := w.heap.size) (o := 1) (by omega) (fun b o e => by have := hgc.out b o e; omega) (.slice av nv cv)
      have oZ := (((Only.ofBelow (l := [x]) b1 (Nat.le_refl _)).trans o3 (by simp)).setNew (b := w.heap.size) (o := 0) (Nat.le_refl _) (.string n)).setNew (b := w.heap.size) (o := 1) (Nat.le_refl _) (.slice av nv cv)
      have oC := ((Only.refl [w.heap.size] w3).setIn (b := w.heap.size) (o := 0) (by simp) (.string n)).setIn (b := w.heap.size) (o := 1) (by simp) (.slice av nv cv)
      have hR4 : RestsM TmC (fun j => w.heap.size ≤ j) ((w3.setCell ⟨w.heap.size, 0, none⟩ (.string n)).setCell ⟨w.heap.size, 1, none⟩ (.slice av nv cv)) [.string n, .slice av nv cv] u3 :=
        (hR3.move ⟨oC.size, fun j hj hs => oC.block j hj (by simp at hs ⊢; omega)⟩ (fun j _ hj => by have hj2 : w1.heap.size ≤ j := hj; omega))
      have HHc := hid hc3
      have HHk := hid hke3
      have HHl := hid hk3
      have H4 := hid h4
      have OZ := hid oZ
      have HR4 := hid hR4
      clear HC3 HC4 h3 HC1 b1 oC o3 hR3 h1 h4 oZ hR4 hc3 hke3 hk3 ht hB
      go_wp2
      exact bodyPost_ret (v := .agg #[.string n, .slice av nv cv]) (by simp [results, Tryz.results113, go_sem, r0, r1]) rfl ⟨⟨n, .slice av nv cv, u3, k3, a3, e3, rfl, HR4.out, H4.out, HHl.out, HHk.out, HHc.out⟩, OZ.out⟩
theorem rterm_any : ∀ (d : Nat), d ≤ 4 → ∀ (x : Nat) (ad : Option Addr) (cap : Nat) (T : List Tok) (k : Nat) (a : Int) (L : Int) (w : World), L = 5 - (d : Int) → RrAt w x ad cap T k a 0 →
    Calls Tryz.prog 113 #[.pointer (some ⟨x, 0, none⟩), .int .i64 L] w (RTermSaid d x ad cap T k w)
  | 0, hd, x, ad, cap, T, k, a, L, w, hL, h => rterm_walk 0 hd (fun d' e => by cases e) x ad cap T k a L w hL h
  | d + 1, hd, x, ad, cap, T, k, a, L, w, hL, h => rterm_walk (d + 1) hd (fun d' e x ad cap T k a t L w hL h ht hk => by
      cases e
      exact rest_step d (by omega) (rterm_any d (by omega)) x ad cap T k a t L w hL h ht hk) x ad cap T k a L w hL h
end Go.Proofs.YtahbhhenobehfaaGreatDoor
namespace Go.Proofs.YtahbhhenobehfaaGreatDoor
open Go.ChangeShapes Go.WideShapes Go.ChangeAt Go.RowKit

theorem sym_norun {c : UInt8} (h : symI (c.toNat : Int) = true) : runB c = false := by
  unfold symI at h
  unfold runB runI
  simp only [Bool.or_eq_true, beq_iff_eq] at h
  simp only [Bool.or_eq_false_iff, Bool.and_eq_false_iff, decide_eq_false_iff_not, beq_eq_false_iff_ne, ne_eq]
  omega
set_option maxRecDepth 20000 in
set_option maxHeartbeats 8000000 in
theorem rlex_any (s : ByteArray) (w : World) (hs : s.size ≤ 100000) :
    Calls Tryz.prog 148 #[.string s] w fun e w' => LexSaid s e w' ∧ Below w.heap.size w w' := by
  have hsz := hid (blen s)
  by_cases h1 : (16384 : Int) < s.size
  · go_enter Tryz.func148, Tryz.ntmps148
    go_wp2
    exact bodyPost_ret (v := .tuple #[.slice none 0 0, .int .i64 0, .int .i64 2]) (by simp [results, Tryz.results148, go_sem]) rfl ⟨Or.inr ⟨0, 2, rfl, by decide, Or.inl (by omega)⟩, Below.refl _ _⟩
  · have hrel0 : ∃ (k : Nat) (T : List Tok), k ≤ s.size ∧ Value.int .i64 0 = .int .i64 k ∧ OwnM 3 TokC w.heap.size 141 w (.slice none 0 0) T ∧ Hid (LexTo s.data.toList (s.data.toList.drop k) (T.map kt)) ∧ T.length ≤ k ∧ Below w.heap.size w w :=
      ⟨0, [], Nat.zero_le _, rfl, OwnM.nil _ _ _ _ _, hid LexTo.start, Nat.zero_le _, Below.refl _ _⟩
    have Hrel0 := hid hrel0
    clear hrel0
    go_enter Tryz.func148, Tryz.ntmps148
    go_wp2
    go_loopw [5, 6] (fun v i wr => ∃ (k : Nat) (T : List Tok), k ≤ s.size ∧ i = .int .i64 k ∧ OwnM 3 TokC w.heap.size 141 wr v T ∧ Hid (LexTo s.data.toList (s.data.toList.drop k) (T.map kt)) ∧ T.length ≤ k ∧ Below w.heap.size w wr) (fun _ i _ => s.size - (intOf i).toNat)
    case atStart => exact Hrel0.out
    case round =>
      clear Hrel0
      obtain ⟨k, T, hk, rfl, own, hto, hTk, hb⟩ := hrel
      have hbs := hb.size
      have Hown := hid own
      clear own
      by_cases hlt : k < s.size
      · have hk0 : (0 : Int) ≤ k := by omega
        have hkn : (k : Int) < s.size := by omega
        have hkl := hid (show k < s.data.toList.length by rw [hsz.out]; exact hlt)
        have hsle := hid (show s.size ≤ 100000 from hs)
        have HTk := hid hTk
        clear hTk
        have hbb : ∀ (f : UInt8 → Bool) (B : Bool), f s[k] = B → Hid (f (s.data.toList[k]'hkl.out) = B) := fun f B h => hid h
        have HB := hid hbb
        clear hbb
        go_wp2_with fail
        refine (rblank_any _ _).mono ?_
        rintro e w1 ⟨rfl, rfl⟩
        generalize eB1 : blankI _ = B1
        have h1 := HB.out (fun c => blankI (c.toNat : Int)) _ eB1
        clear eB1
        cases B1
        · obtain ⟨B2, eB2⟩ : ∃ B, ((s[k].toNat : Int) == 35) = B := ⟨_, rfl⟩
          have h2 := HB.out (fun c => ((c.toNat : Int) == 35)) _ eB2
          cases B2
          · go_wp2_with fail
            refine (rsymbol_any _ _).mono ?_
            rintro e w2 ⟨rfl, rfl⟩
            generalize eB4 : symI _ = B4
            have h4 := HB.out (fun c => symI (c.toNat : Int)) _ eB4
            clear eB4
            cases B4
            · go_wp2_with fail
              refine (rpart_any _ _).mono ?_
              rintro e w3 ⟨rfl, rfl⟩
              generalize eB3 : runI _ = B3
              have h3 := HB.out runB _ eB3
              clear eB3
              cases B3
              · have hfin := hid (Or.inr (a := 16384 < s.size) ⟨_, _, hto.out, drop_ne hkl.out, lex_nosym hkl.out h1.out h2.out h3.out h4.out⟩ : 16384 < s.size ∨ ∃ x T, LexTo s.data.toList x T ∧ x ≠ [] ∧ lexS x = none)
                go_wp2
                exact bodyPost_ret (v := .tuple #[.slice none 0 0, .int .i64 k, .int .i64 1]) (by simp [results, Tryz.results148, go_sem]) rfl ⟨Or.inr ⟨k, 1, rfl, by decide, hfin.out⟩, hb⟩
              · obtain ⟨F, eF⟩ : ∃ F, F = endOf runB s.data.toList k := ⟨_, rfl⟩
                have hF1 := hid (show endOf runB s.data.toList (k + 1) = F by rw [eF, ← endOf_go hkl.out h3.out])
                have HF := hid eF
                clear eF
                go_wp2
                go_loop [8] (fun i => ∃ E : Nat, k < E ∧ E ≤ s.size ∧ i = .int .i64 E ∧ Hid (endOf runB s.data.toList E = F)) (fun i => s.size - (intOf i).toNat)
                case atStart => exact ⟨k + 1, by omega, by omega, by go_num, hF1⟩
                case round =>
                  clear hF1
                  obtain ⟨E, hkE, hEs, rfl, hE⟩ := hrel
                  by_cases hElt : E < s.size
                  · have hE0 : (0 : Int) ≤ E := by omega
                    have hEn : (E : Int) < s.size := by omega
                    have hEl := hid (show E < s.data.toList.length by rw [hsz.out]; exact hElt)
                    have hbE : ∀ (B : Bool), runB s[E] = B → Hid (runB (s.data.toList[E]'hEl.out) = B) := fun B h => hid h
                    have HBE := hid hbE
                    clear hbE
                    go_wp2_with fail
                    refine (rpart_any _ _).mono ?_
                    rintro e w4 ⟨rfl, rfl⟩
                    generalize eB5 : runI _ = B5
                    have h5 := HBE.out _ eB5
                    clear eB5
                    cases B5
                    · have hst := hid (endOf_stop (f := runB) (l := s.data.toList) (a := E) (fun _ => h5.out))
                      have hEF := hid (show E = F by rw [← hE.out, hst.out])
                      clear HBE
                      have hX := hid (show (s.extract k E).data.toList = (s.data.toList.drop k).take (endOf runB s.data.toList k - k) by rw [extract_list, ← HF.out, ← hEF.out])
                      have hXs : (s.extract k E).size ≤ maxLen := by rw [ByteArray.size_extract]; unfold maxLen; have := hsle.out; omega
                      have hsl := slice2_run (Nat.le_of_lt hkE) hEs
                      have hkEi : (k : Int) ≤ E := by omega
                      have hEsi : (E : Int) ≤ s.size := by omega
                      obtain ⟨X, eX⟩ : ∃ X, X = s.extract k E := ⟨_, rfl⟩
                      rw [← eX] at hX hXs hsl
                      have EX := hid eX
                      clear eX
                      go_wp2_with fail
                      refine (rkind_any X _ hXs).mono ?_
                      rintro e w5 ⟨rfl, rfl⟩
                      rw [hX.out]
                      obtain ⟨K, eK⟩ : ∃ K, K = kindL ((s.data.toList.drop k).take (endOf runB s.data.toList k - k)) := ⟨_, rfl⟩
                      rw [← eK]
                      have HK := hid eK
                      clear eK
                      by_cases hK : K = 0
                      · subst hK
                        have hfin := hid (Or.inr (a := 16384 < s.size) ⟨_, _, hto.out, drop_ne hkl.out, lex_norun hkl.out h1.out h2.out h3.out HK.out.symm⟩ : 16384 < s.size ∨ ∃ x T, LexTo s.data.toList x T ∧ x ≠ [] ∧ lexS x = none)
                        go_wp2
                        exact bodyPost_ret (v := .tuple #[.slice none 0 0, .int .i64 k, .int .i64 4]) (by simp [results, Tryz.results148, go_sem]) rfl ⟨Or.inr ⟨k, 4, rfl, by decide, hfin.out⟩, hb⟩
                      · have hKb : (K == 0) = false := by rw [beq_eq_false_iff_ne]; exact hK
                        have hst := hid (LexTo.step hto.out (lex_run hkl.out h1.out h2.out h3.out (by rw [← HK.out]; exact hK)))
                        clear hK
                        have hst5 := hid (show LexTo s.data.toList (s.data.toList.drop E) ((T ++ [(⟨K, X, k⟩ : Tok)]).map kt) by
                          rw [List.map_append, List.map_cons, List.map_nil]
                          have e : kt ⟨K, X, k⟩ = (kindL ((s.data.toList.drop k).take (endOf runB s.data.toList k - k)), (s.data.toList.drop k).take (endOf runB s.data.toList k - k)) := by
                            unfold kt
                            rw [hX.out, ← HK.out]
                          rw [e, hEF.out, HF.out]; exact hst.out)
                        clear hto hst
                        go_wp2_with (at_builtin; go_must (refine wpList_append_run rfl (.tmp 76) (.tmp 84) 137 rfl u5 (.slice (some ⟨wr.heap.size, 0, none⟩) 1 1) (by rfl) (by rfl) (tok_append (own := Hown.out.alloc (.cells #[.int .i64 K, .string X, .int .i64 (k : Int)] 141)) (Hg := Has.new wr _ _) (by have := HTk.out; have := hsle.out; omega) (by simp; omega)) ?_); rintro v6 w6 ⟨own6, b6, _, _⟩)
                        have Hown6 := hid own6
                        have hb6 := (hb.alloc hbs (.cells #[.int .i64 K, .string X, .int .i64 (k : Int)] 141)).trans b6
                        clear own6 b6 hb Hown
                        go_wp2
                        go_roundw
                        case rel => exact ⟨E, _, hEs, rfl, Hown6.out, hst5, by have := HTk.out; simp; omega, hb6⟩
                        case measure => simp [intOf]; omega
                    · have hgo := hid ((endOf_go hEl.out h5.out).symm.trans hE.out)
                      go_wp2
                      go_round
                      case rel => exact ⟨E + 1, by omega, by omega, by go_num, hgo⟩
                      case measure => simp [intOf]; omega
                  · have hst := hid (endOf_stop (f := runB) (l := s.data.toList) (a := E) (fun h => by have := hsz.out; omega))
                    have hEF := hid (show E = F by rw [← hE.out, hst.out])
                    have hX := hid (show (s.extract k E).data.toList = (s.data.toList.drop k).take (endOf runB s.data.toList k - k) by rw [extract_list, ← HF.out, ← hEF.out])
                    have hXs : (s.extract k E).size ≤ maxLen := by rw [ByteArray.size_extract]; unfold maxLen; have := hsle.out; omega
                    have hsl := slice2_run (Nat.le_of_lt hkE) hEs
                    have hkEi : (k : Int) ≤ E := by omega
                    have hEsi : (E : Int) ≤ s.size := by omega
                    obtain ⟨X, eX⟩ : ∃ X, X = s.extract k E := ⟨_, rfl⟩
                    rw [← eX] at hX hXs hsl
                    have EX := hid eX
                    clear eX
                    go_wp2_with fail
                    refine (rkind_any X _ hXs).mono ?_
                    rintro e w5 ⟨rfl, rfl⟩
                    rw [hX.out]
                    obtain ⟨K, eK⟩ : ∃ K, K = kindL ((s.data.toList.drop k).take (endOf runB s.data.toList k - k)) := ⟨_, rfl⟩
                    rw [← eK]
                    have HK := hid eK
                    clear eK
                    by_cases hK : K = 0
                    · subst hK
                      have hfin := hid (Or.inr (a := 16384 < s.size) ⟨_, _, hto.out, drop_ne hkl.out, lex_norun hkl.out h1.out h2.out h3.out HK.out.symm⟩ : 16384 < s.size ∨ ∃ x T, LexTo s.data.toList x T ∧ x ≠ [] ∧ lexS x = none)
                      go_wp2
                      exact bodyPost_ret (v := .tuple #[.slice none 0 0, .int .i64 k, .int .i64 4]) (by simp [results, Tryz.results148, go_sem]) rfl ⟨Or.inr ⟨k, 4, rfl, by decide, hfin.out⟩, hb⟩
                    · have hKb : (K == 0) = false := by rw [beq_eq_false_iff_ne]; exact hK
                      have hst := hid (LexTo.step hto.out (lex_run hkl.out h1.out h2.out h3.out (by rw [← HK.out]; exact hK)))
                      clear hK
                      have hst5 := hid (show LexTo s.data.toList (s.data.toList.drop E) ((T ++ [(⟨K, X, k⟩ : Tok)]).map kt) by
                        rw [List.map_append, List.map_cons, List.map_nil]
                        have e : kt ⟨K, X, k⟩ = (kindL ((s.data.toList.drop k).take (endOf runB s.data.toList k - k)), (s.data.toList.drop k).take (endOf runB s.data.toList k - k)) := by
                          unfold kt
                          rw [hX.out, ← HK.out]
                        rw [e, hEF.out, HF.out]; exact hst.out)
                      clear hto hst
                      go_wp2_with (at_builtin; go_must (refine wpList_append_run rfl (.tmp 76) (.tmp 84) 137 rfl u5 (.slice (some ⟨wr.heap.size, 0, none⟩) 1 1) (by rfl) (by rfl) (tok_append (own := Hown.out.alloc (.cells #[.int .i64 K, .string X, .int .i64 (k : Int)] 141)) (Hg := Has.new wr _ _) (by have := HTk.out; have := hsle.out; omega) (by simp; omega)) ?_); rintro v6 w6 ⟨own6, b6, _, _⟩)
                      have Hown6 := hid own6
                      have hb6 := (hb.alloc hbs (.cells #[.int .i64 K, .string X, .int .i64 (k : Int)] 141)).trans b6
                      clear own6 b6 hb Hown
                      go_wp2
                      go_roundw
                      case rel => exact ⟨E, _, hEs, rfl, Hown6.out, hst5, by have := HTk.out; simp; omega, hb6⟩
                      case measure => simp [intOf]; omega
            · have hst := hid (LexTo.step hto.out (lex_sym hkl.out h1.out h2.out (sym_norun h4.out) h4.out))
              have hst4 := hid (show LexTo s.data.toList (s.data.toList.drop (k + 1)) ((T ++ [(⟨4, s.extract k (k + 1), k⟩ : Tok)]).map kt) by
                rw [List.map_append, List.map_cons, List.map_nil]
                have e : kt ⟨4, s.extract k (k + 1), k⟩ = (4, [s.data.toList[k]'hkl.out]) := by
                  unfold kt
                  rw [extract_byte s k hkl.out]
                rw [e]; exact hst.out)
              obtain ⟨X, eX⟩ : ∃ X, X = s.extract k (k + 1) := ⟨_, rfl⟩
              rw [← eX] at hst4
              have hsl := slice_run s k (k + 1) k (k + 1) rfl (by omega) (by omega) (by omega) X eX
              have hk1 : (k : Int) ≤ k + 1 := by omega
              have hk2 : (k : Int) + 1 ≤ s.size := by omega
              clear hto hst eX
              go_wp2_with (at_builtin; go_must (refine wpList_append_run rfl (.tmp 44) (.tmp 51) 137 rfl u5 (.slice (some ⟨wr.heap.size, 0, none⟩) 1 1) (by rfl) (by rfl) (tok_append (own := Hown.out.alloc (.cells #[.int .i64 4, .string X, .int .i64 (k : Int)] 141)) (Hg := Has.new wr _ _) (by have := HTk.out; have := hsle.out; omega) (by simp; omega)) ?_); rintro v6 w6 ⟨own6, b6, _, _⟩)
              have Hown6 := hid own6
              have hb6 := (hb.alloc hbs (.cells #[.int .i64 4, .string X, .int .i64 (k : Int)] 141)).trans b6
              clear own6 b6 hb Hown
              go_wp2
              go_roundw
              case rel => exact ⟨k + 1, _, by omega, by go_num, Hown6.out, hst4, by have := HTk.out; simp; omega, hb6⟩
              case measure => simp [intOf]; omega
          · have hnn := hid (show notNl (s.data.toList[k]'hkl.out) = true by
              have := h2.out
              unfold notNl
              simp only [beq_iff_eq] at this
              rw [this]; rfl)
            obtain ⟨F, eF⟩ : ∃ F, F = endOf notNl s.data.toList k := ⟨_, rfl⟩
            have hF1 := hid (show endOf notNl s.data.toList (k + 1) = F by rw [eF, ← endOf_go hkl.out hnn.out])
            have HF := hid eF
            clear eF
            have hst2 := hid (LexTo.step hto.out (lex_note hkl.out h1.out h2.out))
            go_wp2
            go_loop [8] (fun i => ∃ E : Nat, k < E ∧ E ≤ s.size ∧ i = .int .i64 E ∧ Hid (endOf notNl s.data.toList E = F)) (fun i => s.size - (intOf i).toNat)
            case atStart => exact ⟨k + 1, by omega, by omega, by go_num, hF1⟩
            case round =>
              clear hF1
              obtain ⟨E, hkE, hEs, rfl, hE⟩ := hrel
              by_cases hElt : E < s.size
              · have hE0 : (0 : Int) ≤ E := by omega
                have hEn : (E : Int) < s.size := by omega
                have hEl := hid (show E < s.data.toList.length by rw [hsz.out]; exact hElt)
                obtain ⟨B5, eB5⟩ : ∃ B, ((s[E].toNat : Int) == 10) = B := ⟨_, rfl⟩
                have hne : ((s[E].toNat : Int) != 10) = !B5 := by rw [bne, eB5]
                have h5 := hid (show notNl (s.data.toList[E]'hEl.out) = !B5 by unfold notNl; rw [← eB5]; rfl)
                clear eB5
                cases B5
                · have hgo := hid ((endOf_go hEl.out h5.out).symm.trans hE.out)
                  rw [Bool.not_false] at hne
                  go_wp2
                  go_round
                  case rel => exact ⟨E + 1, by omega, by omega, by go_num, hgo⟩
                  case measure => simp [intOf]; omega
                · have hst := hid (endOf_stop (f := notNl) (l := s.data.toList) (a := E) (fun _ => h5.out))
                  have hEF := hid (show E = F by rw [← hE.out, hst.out])
                  rw [Bool.not_true] at hne
                  have hst3 := hid (show LexTo s.data.toList (s.data.toList.drop E) (T.map kt) by
                    have := hst2.out
                    rwa [List.append_nil, ← HF.out, ← hEF.out] at this)
                  clear hto hst2
                  go_wp2
                  go_roundw
                  case rel => exact ⟨E, T, hEs, rfl, Hown.out, hst3, by have := HTk.out; omega, hb⟩
                  case measure => simp [intOf]; omega
              · have hst := hid (endOf_stop (f := notNl) (l := s.data.toList) (a := E) (fun h => by have := hsz.out; omega))
                have hEF := hid (show E = F by rw [← hE.out, hst.out])
                have hst3 := hid (show LexTo s.data.toList (s.data.toList.drop E) (T.map kt) by
                  have := hst2.out
                  rwa [List.append_nil, ← HF.out, ← hEF.out] at this)
                clear hto hst2
                go_wp2
                go_roundw
                case rel => exact ⟨E, T, hEs, rfl, Hown.out, hst3, by have := HTk.out; omega, hb⟩
                case measure => simp [intOf]; omega
        · have hst := hid (LexTo.step hto.out (lex_blank hkl.out h1.out))
          rw [List.append_nil] at hst
          go_wp2
          go_roundw
          case rel => exact ⟨k + 1, T, by omega, by go_num, Hown.out, hst, by have := HTk.out; omega, hb⟩
          case measure => simp [intOf]; omega
      · have hke : k = s.size := by omega
        have hto2 := hid (show LexTo s.data.toList [] (T.map kt) by
          have := hto.out
          rwa [List.drop_of_length_le (by have := hsz.out; omega)] at this)
        have HTk := hid (show T.length ≤ s.size by omega)
        clear hto hTk
        go_wp2_with (at_builtin; go_must (refine wpList_append_run rfl (.tmp 87) (.tmp 91) 137 rfl u5 (.slice (some ⟨wr.heap.size, 0, none⟩) 1 1) (by rfl) (by rfl) (tok_append (own := Hown.out.alloc (.cells #[.int .i64 0, .string ⟨#[]⟩, .int .i64 (s.size : Int)] 141)) (Hg := Has.new wr _ _) (by have := HTk.out; omega) (by simp; omega)) ?_); rintro v6 w6 ⟨own6, b6, _, _⟩)
        have hb6 := (hb.alloc hbs (.cells #[.int .i64 0, .string ⟨#[]⟩, .int .i64 (s.size : Int)] 141)).trans b6
        rw [show (⟨#[]⟩ : ByteArray) = ByteArray.empty from rfl] at own6
        obtain ⟨a6, c6, rfl⟩ := own6.shape
        have hlen6 : (T ++ [(⟨0, ByteArray.empty, s.size⟩ : Tok)]).length = T.length + 1 := by simp
        rw [hlen6] at own6 ⊢
        have hfin := hid (own6.reads w6 (Agr.refl _ _))
        clear own6 b6 Hown hb
        go_wp2
        exact bodyPost_ret (v := .tuple #[.slice a6 (T.length + 1 : Nat) c6, .int .i64 0, .int .i64 0]) (by simp [results, Tryz.results148, go_sem]) rfl ⟨Or.inl ⟨a6, c6, T, rfl, hfin.out, hto2.out, HTk.out⟩, hb6⟩
end Go.Proofs.YtahbhhenobehfaaGreatDoor
