/-
  The walk of Lex of the lexer.
-/
import Derived.Test.YtahbhhenobehfaaGreatDoorM29
import Derived.Test.YtahbhhenobehfaaGreatDoorShelf
import Derived.Test.YtahbhhenobehfaaGreatDoorM1
namespace Go.Proofs.YtahbhhenobehfaaGreatDoor
open Go.ChangeShapes Go.WideShapes Go.ChangeAt Go.RowKit

def kt (t : Tok) : KT := (t.kind, t.text.data.toList)
/-- What a lexer answers: tokens behind which the end stands, or an error that no text of terms gives. -/
def LexSaid (s : ByteArray) (e : Ending) (w' : World) : Prop :=
  (∃ (ad : Option Addr) (cap : Nat) (T : List Tok), e = .returned (.tuple #[.slice ad (T.length + 1) cap, .int .i64 0, .int .i64 0]) ∧ ToksAt w' ad (T.length + 1) cap (T ++ [⟨0, ByteArray.empty, s.size⟩]) ∧ LexTo s.data.toList [] (T.map kt) ∧ T.length ≤ s.size) ∨
  (∃ a E : Int, e = .returned (.tuple #[.slice none 0 0, .int .i64 a, .int .i64 E]) ∧ E ≠ 0 ∧ (16384 < s.size ∨ ∃ x T, LexTo s.data.toList x T ∧ x ≠ [] ∧ lexS x = none))
section
variable {l : List UInt8} {k : Nat} (hk : k < l.length)
include hk
theorem drop_cons : l.drop k = l[k] :: l.drop (k + 1) := List.drop_eq_getElem_cons hk
theorem drop_ne : l.drop k ≠ [] := by rw [drop_cons hk]; exact List.cons_ne_nil _ _
theorem lex_blank (h : blankI (l[k].toNat : Int) = true) : lexS (l.drop k) = some ([], l.drop (k + 1)) := by
  rw [drop_cons hk, lexS_cons, h, if_pos rfl]
theorem lex_note (h : blankI (l[k].toNat : Int) = false) (h2 : ((l[k].toNat : Int) == 35) = true) : lexS (l.drop k) = some ([], l.drop (endOf notNl l k)) := by
  rw [(endOf_take notNl l k).2, drop_cons hk, lexS_cons, h, h2, if_neg Bool.false_ne_true, if_pos rfl]
theorem lex_run (h : blankI (l[k].toNat : Int) = false) (h2 : ((l[k].toNat : Int) == 35) = false) (h3 : runB l[k] = true) (hK : kindL ((l.drop k).take (endOf runB l k - k)) ≠ 0) :
    lexS (l.drop k) = some ([(kindL ((l.drop k).take (endOf runB l k - k)), (l.drop k).take (endOf runB l k - k))], l.drop (endOf runB l k)) := by
  rw [(endOf_take runB l k).1] at hK ⊢
  rw [(endOf_take runB l k).2]
  rw [drop_cons hk] at hK ⊢
  rw [lexS_cons, h, h2, h3, if_neg Bool.false_ne_true, if_neg Bool.false_ne_true, if_pos rfl, if_neg hK]
theorem lex_norun (h : blankI (l[k].toNat : Int) = false) (h2 : ((l[k].toNat : Int) == 35) = false) (h3 : runB l[k] = true) (hK : kindL ((l.drop k).take (endOf runB l k - k)) = 0) : lexS (l.drop k) = none := by
  rw [(endOf_take runB l k).1] at hK
  rw [drop_cons hk] at hK ⊢
  rw [lexS_cons, h, h2, h3, if_neg Bool.false_ne_true, if_neg Bool.false_ne_true, if_pos rfl, if_pos hK]
theorem lex_sym (h : blankI (l[k].toNat : Int) = false) (h2 : ((l[k].toNat : Int) == 35) = false) (h3 : runB l[k] = false) (h4 : symI (l[k].toNat : Int) = true) : lexS (l.drop k) = some ([(4, [l[k]])], l.drop (k + 1)) := by
  rw [drop_cons hk, lexS_cons, h, h2, h3, h4, if_neg Bool.false_ne_true, if_neg Bool.false_ne_true, if_neg Bool.false_ne_true, if_pos rfl]
theorem lex_nosym (h : blankI (l[k].toNat : Int) = false) (h2 : ((l[k].toNat : Int) == 35) = false) (h3 : runB l[k] = false) (h4 : symI (l[k].toNat : Int) = false) : lexS (l.drop k) = none := by
  rw [drop_cons hk, lexS_cons, h, h2, h3, h4, if_neg Bool.false_ne_true, if_neg Bool.false_ne_true, if_neg Bool.false_ne_true, if_neg Bool.false_ne_true]
end
def symT (n : Nat) : Bool := (symI ((UInt8.ofNat n).toNat : Int) == decide (0 ≤ Lib.indexByte [40, 41, 44, 46] (UInt8.ofNat n)))
theorem sym_index (x : UInt8) : (symI (x.toNat : Int) = true → 0 ≤ Lib.indexByte [40, 41, 44, 46] x) ∧ (symI (x.toNat : Int) = false → Lib.indexByte [40, 41, 44, 46] x < 0) := by
  have hx : ∀ n : Fin 256, symT n.val = true := by decide +kernel
  have h := hx ⟨x.toNat, UInt8.toNat_lt x⟩
  unfold symT at h
  simp only [UInt8.ofNat_toNat, beq_iff_eq] at h
  rw [h]
  simp only [decide_eq_true_eq, decide_eq_false_iff_not]
  exact ⟨id, fun h => by omega⟩
theorem extract_byte (s : ByteArray) (k : Nat) (hk : k < s.data.toList.length) : (s.extract k (k + 1)).data.toList = [s.data.toList[k]] := by
  rw [extract_list, Nat.add_sub_cancel_left, drop_cons hk, List.take_succ_cons, List.take_zero]
theorem byte_back (x : UInt8) : ((x.toNat : Int).toNat).toUInt8 = x := by simp
set_option maxRecDepth 20000 in
set_option maxHeartbeats 8000000 in
theorem lex_any (s : ByteArray) (w : World) (hs : s.size ≤ 100000) (hW : Words w) :
    Calls Tryz.prog 142 #[.string s] w fun e w' => LexSaid s e w' ∧ Below w.heap.size w w' := by
  have hsz := hid (blen s)
  have b0 : Below w.heap.size w (w.alloc (.cells #[.string s] 9)) := (Below.refl _ _).alloc (Nat.le_refl _) _
  have H0 := Has.new w #[.string s] 9
  go_enter Tryz.func142, Tryz.ntmps142
  by_cases h1 : (16384 : Int) < s.size
  · have c0 : (w.alloc (.cells #[.string s] 9)).cell? ⟨w.heap.size, 0, none⟩ = some (.string s) := H0.cell (j := 0) rfl
    go_wp2
    exact bodyPost_ret (v := .tuple #[.slice none 0 0, .int .i64 0, .int .i64 2]) (by simp [results, Tryz.results142, go_sem]) rfl ⟨Or.inr ⟨0, 2, rfl, by decide, Or.inl (by omega)⟩, b0⟩
  · have c0 : (w.alloc (.cells #[.string s] 9)).cell? ⟨w.heap.size, 0, none⟩ = some (.string s) := H0.cell (j := 0) rfl
    have hrel0 : ∃ (k : Nat) (T : List Tok) (v : Value), k ≤ s.size ∧ Value.int .i64 0 = .int .i64 k ∧ ((w.alloc (.cells #[.string s] 9)).alloc (.cells #[.slice none 0 0] 137)).cell? ⟨w.heap.size, 0, none⟩ = some (.string s) ∧ Has ((w.alloc (.cells #[.string s] 9)).alloc (.cells #[.slice none 0 0] 137)) (w.heap.size + 1) #[v] 137 ∧ Hid (OwnM 3 TokC (w.heap.size + 2) 141 ((w.alloc (.cells #[.string s] 9)).alloc (.cells #[.slice none 0 0] 137)) v T) ∧ Hid (LexTo s.data.toList (s.data.toList.drop k) (T.map kt)) ∧ T.length ≤ k ∧ Below w.heap.size w ((w.alloc (.cells #[.string s] 9)).alloc (.cells #[.slice none 0 0] 137)) ∧ w.heap.size + 2 ≤ ((w.alloc (.cells #[.string s] 9)).alloc (.cells #[.slice none 0 0] 137)).heap.size :=
      ⟨0, [], .slice none 0 0, Nat.zero_le _, rfl, (H0.alloc _).cell (j := 0) rfl, Has.newAt (by simp), hid (OwnM.nil _ _ _ _ _), hid LexTo.start, Nat.zero_le _, b0.alloc b0.size _, by simp⟩
    have Hrel0 := hid hrel0
    clear hrel0 H0 b0
    go_wp2
    go_loopw [7] (fun i wr => ∃ (k : Nat) (T : List Tok) (v : Value), k ≤ s.size ∧ i = .int .i64 k ∧ wr.cell? ⟨w.heap.size, 0, none⟩ = some (.string s) ∧ Has wr (w.heap.size + 1) #[v] 137 ∧ Hid (OwnM 3 TokC (w.heap.size + 2) 141 wr v T) ∧ Hid (LexTo s.data.toList (s.data.toList.drop k) (T.map kt)) ∧ T.length ≤ k ∧ Below w.heap.size w wr ∧ w.heap.size + 2 ≤ wr.heap.size) (fun i _ => s.size - (intOf i).toNat)
    case atStart => exact Hrel0.out
    case round =>
      clear Hrel0
      obtain ⟨k, T, v, hk, rfl, hc, hH, hown, hto, hTk, hb, hbs⟩ := hrel
      by_cases hlt : k < s.size
      · have hk0 : (0 : Int) ≤ k := by omega
        have hkn : (k : Int) < s.size := by omega
        have hkl := hid (show k < s.data.toList.length by rw [hsz.out]; exact hlt)
        have hsle := hid (show s.size ≤ 100000 from hs)
        have HTk := hid hTk
        clear hTk
        have hbb : ∀ (f : UInt8 → Bool) (B : Bool), f s[k] = B → Hid (f (s.data.toList[k]'hkl.out) = B) := fun f B h => hid h
        have HB := hid hbb
        clear hbb
        go_wp2_with fail
        refine (lblank_any _ _).mono ?_
        rintro e w1 ⟨rfl, rfl⟩
        generalize eB1 : blankI _ = B1
        have h1 := HB.out (fun c => blankI (c.toNat : Int)) _ eB1
        clear eB1
        cases B1
        · obtain ⟨B2, eB2⟩ : ∃ B, ((s[k].toNat : Int) == 35) = B := ⟨_, rfl⟩
          have h2 := HB.out (fun c => ((c.toNat : Int) == 35)) _ eB2
          cases B2
          · go_wp2_with fail
            refine (lrun_any _ _).mono ?_
            rintro e w2 ⟨rfl, rfl⟩
            generalize eB3 : runI _ = B3
            have h3 := HB.out runB _ eB3
            clear eB3
            cases B3
            · go_wp2_with fail
              refine (Tryz.strings_IndexByte ⟨#[40, 41, 44, 46]⟩ _ _).mono ?_
              rintro e w3 ⟨rfl, rfl⟩
              generalize eIX : Lib.indexByte _ _ = IX
              have hix : (symI (s[k].toNat : Int) = true → 0 ≤ IX) ∧ (symI (s[k].toNat : Int) = false → IX < 0) := by
                have h := sym_index s[k]
                have e : Lib.indexByte [40, 41, 44, 46] s[k] = IX := (congrArg (Lib.indexByte [40, 41, 44, 46]) (byte_back s[k]).symm).trans eIX
                exact ⟨fun hh => Int.le_trans (h.1 hh) (Int.le_of_eq e), fun hh => Int.lt_of_le_of_lt (Int.le_of_eq e.symm) (h.2 hh)⟩
              clear eIX
              obtain ⟨B4, eB4, hix⟩ : ∃ B, symI (s[k].toNat : Int) = B ∧ (B = true → 0 ≤ IX) ∧ (B = false → IX < 0) := ⟨_, rfl, hix⟩
              have h4 := HB.out (fun c => symI (c.toNat : Int)) _ eB4
              clear eB4
              cases B4
              · have hneg : ¬ (0 : Int) ≤ IX := by have := hix.2 rfl; omega
                have hfin := hid (Or.inr (a := 16384 < s.size) ⟨_, _, hto.out, drop_ne hkl.out, lex_nosym hkl.out h1.out h2.out h3.out h4.out⟩ : 16384 < s.size ∨ ∃ x T, LexTo s.data.toList x T ∧ x ≠ [] ∧ lexS x = none)
                clear hix
                go_wp2
                exact bodyPost_ret (v := .tuple #[.slice none 0 0, .int .i64 k, .int .i64 1]) (by simp [results, Tryz.results142, go_sem]) rfl ⟨Or.inr ⟨k, 1, rfl, by decide, hfin.out⟩, hb⟩
              · have hpos : (0 : Int) ≤ IX := hix.1 rfl
                have hst := hid (LexTo.step hto.out (lex_sym hkl.out h1.out h2.out h3.out h4.out))
                clear hix
                go_wp2_with fail
                refine (lexadd_any 4 k (k + 1) w.heap.size (w.heap.size + 1) (w.heap.size + 2) s v T _ (by omega) (by omega) (by have := HTk.out; have := hsle.out; omega) hc hH (by omega) hbs hown.out).mono ?_
                rintro e w4 ⟨rfl, v4, hH4, own4, o4⟩
                have hc4 := (o4.cell (p := ⟨w.heap.size, 0, none⟩) (by simp)).trans hc
                have b4 := hb.trans (o4.mono (by omega))
                have o4s := o4.size
                have Hown4 := hid own4
                have hst4 := hid (show LexTo s.data.toList (s.data.toList.drop (k + 1)) ((T ++ [(⟨4, s.extract k (k + 1), k⟩ : Tok)]).map kt) by
                  rw [List.map_append, List.map_cons, List.map_nil]
                  have e : kt ⟨4, s.extract k (k + 1), k⟩ = (4, [s.data.toList[k]'hkl.out]) := by
                    unfold kt
                    rw [extract_byte s k hkl.out]
                  rw [e]; exact hst.out)
                clear own4 hown hto hst o4 hc hH hb
                go_wp2
                go_roundw
                case rel => exact ⟨k + 1, _, v4, by omega, by go_num, hc4, hH4, Hown4, hst4, by have := HTk.out; simp; omega, b4, by omega⟩
                case measure => simp [intOf]; omega
            · obtain ⟨E, eE⟩ : ∃ E, E = endOf runB s.data.toList k := ⟨_, rfl⟩
              have hE1 : k < E := by rw [eE, endOf_go hkl.out h3.out]; have := endOf_le runB s.data.toList (k + 1) (by have := hkl.out; omega); omega
              have hE2 : E ≤ s.size := by rw [eE, ← hsz.out]; exact (endOf_le runB s.data.toList k (by have := hkl.out; omega)).2
              have HE := hid eE
              clear eE
              have hkE : (k : Int) ≤ E := by omega
              have hEs : (E : Int) ≤ s.size := by omega
              have hsl := slice2_run (Nat.le_of_lt hE1) hE2
              go_wp2_with fail
              refine (skip_any 175 runB (enters_of Tryz.func175 (by kernel_rfl) rfl) (fun c w => lrun_any (c.toNat : Int) w) s k _ hk (by have := hsle.out; omega)).mono ?_
              rintro e w3 ⟨rfl, rfl⟩
              rw [← HE.out]
              have hX := hid (show (s.extract k E).data.toList = (s.data.toList.drop k).take (endOf runB s.data.toList k - k) by rw [extract_list, ← HE.out])
              have hXs : (s.extract k E).size ≤ maxLen := by rw [ByteArray.size_extract]; unfold maxLen; have := hsle.out; omega
              obtain ⟨X, eX⟩ : ∃ X, X = s.extract k E := ⟨_, rfl⟩
              rw [← eX] at hX hXs hsl
              have EX := hid eX
              clear eX
              go_wp2_with fail
              refine (lkind_any X _ hXs (hW.below hb (Nat.le_refl _))).mono ?_
              rintro e w4 ⟨rfl, o4⟩
              rw [hX.out]
              obtain ⟨K, eK⟩ : ∃ K, K = kindL ((s.data.toList.drop k).take (endOf runB s.data.toList k - k)) := ⟨_, rfl⟩
              rw [← eK]
              have HK := hid eK
              clear eK
              have hc4 := (o4.cell (p := ⟨w.heap.size, 0, none⟩) (lt_of_cell hc)).trans hc
              have hH4 := hH.below o4 hH.lt
              have hown4 := hid (hown.out.below o4 (Nat.le_refl _))
              have hb4 := hb.trans (o4.mono hb.size)
              have o4s := o4.size
              clear hc hH hown hb o4
              by_cases hK : K = 0
              · subst hK
                have hfin := hid (Or.inr (a := 16384 < s.size) ⟨_, _, hto.out, drop_ne hkl.out, lex_norun hkl.out h1.out h2.out h3.out HK.out.symm⟩ : 16384 < s.size ∨ ∃ x T, LexTo s.data.toList x T ∧ x ≠ [] ∧ lexS x = none)
                go_wp2
                exact bodyPost_ret (v := .tuple #[.slice none 0 0, .int .i64 k, .int .i64 4]) (by simp [results, Tryz.results142, go_sem]) rfl ⟨Or.inr ⟨k, 4, rfl, by decide, hfin.out⟩, hb4⟩
              · have hKb : (K == 0) = false := by rw [beq_eq_false_iff_ne]; exact hK
                have hst := hid (LexTo.step hto.out (lex_run hkl.out h1.out h2.out h3.out (by rw [← HK.out]; exact hK)))
                clear hK
                go_wp2_with fail
                refine (lexadd_any K k E w.heap.size (w.heap.size + 1) (w.heap.size + 2) s v T _ (by omega) hE2 (by have := HTk.out; have := hsle.out; omega) hc4 hH4 (by omega) (by omega) hown4.out).mono ?_
                rintro e w5 ⟨rfl, v5, hH5, own5, o5⟩
                have hc5 := (o5.cell (p := ⟨w.heap.size, 0, none⟩) (by simp)).trans hc4
                have b5 := hb4.trans (o5.mono (by omega))
                have o5s := o5.size
                have Hown5 := hid own5
                have hst5 := hid (show LexTo s.data.toList (s.data.toList.drop E) ((T ++ [(⟨K, s.extract k E, k⟩ : Tok)]).map kt) by
                  rw [List.map_append, List.map_cons, List.map_nil]
                  have e : kt ⟨K, s.extract k E, k⟩ = (kindL ((s.data.toList.drop k).take (endOf runB s.data.toList k - k)), (s.data.toList.drop k).take (endOf runB s.data.toList k - k)) := by
                    unfold kt
                    rw [← EX.out, hX.out, ← HK.out]
                  rw [e, HE.out]; exact hst.out)
                clear own5 hown4 hto hst o5 hc4 hH4 hb4
                go_wp2
                go_roundw
                case rel => exact ⟨E, _, v5, hE2, rfl, hc5, hH5, Hown5, hst5, by have := HTk.out; simp; omega, b5, by omega⟩
                case measure => simp [intOf]; omega
          · obtain ⟨E, eE⟩ : ∃ E, E = endOf notNl s.data.toList k := ⟨_, rfl⟩
            have hnn := hid (show notNl (s.data.toList[k]'hkl.out) = true by
              have := h2.out
              unfold notNl
              simp only [beq_iff_eq] at this
              rw [this]; rfl)
            have hE1 : k < E := by rw [eE, endOf_go hkl.out hnn.out]; have := endOf_le notNl s.data.toList (k + 1) (by have := hkl.out; omega); omega
            have hE2 : E ≤ s.size := by rw [eE, ← hsz.out]; exact (endOf_le notNl s.data.toList k (by have := hkl.out; omega)).2
            have HE := hid eE
            clear eE
            have hst := hid (LexTo.step hto.out (lex_note hkl.out h1.out h2.out))
            go_wp2_with fail
            refine (skip_any 174 notNl (enters_of Tryz.func174 (by kernel_rfl) rfl) (fun c w => notNl_any (c.toNat : Int) w) s k _ hk (by have := hsle.out; omega)).mono ?_
            rintro e w3 ⟨rfl, rfl⟩
            rw [← HE.out]
            rw [List.append_nil, ← HE.out] at hst
            go_wp2
            go_roundw
            case rel => exact ⟨E, T, v, hE2, rfl, hc, hH, hown, hst, by have := HTk.out; omega, hb, hbs⟩
            case measure => simp [intOf]; omega
        · have hst := hid (LexTo.step hto.out (lex_blank hkl.out h1.out))
          rw [List.append_nil] at hst
          go_wp2
          go_roundw
          case rel => exact ⟨k + 1, T, v, by omega, by go_num, hc, hH, hown, hst, by have := HTk.out; omega, hb, hbs⟩
          case measure => simp [intOf]; omega
      · have hke : k = s.size := by omega
        have hto2 := hid (show LexTo s.data.toList [] (T.map kt) by
          have := hto.out
          rwa [List.drop_of_length_le (by have := hsz.out; omega)] at this)
        have HTk := hid (show T.length ≤ s.size by omega)
        clear hto hTk
        go_wp2_with fail
        refine (lexadd_any 0 s.size s.size w.heap.size (w.heap.size + 1) (w.heap.size + 2) s v T _ (Nat.le_refl _) (Nat.le_refl _) (by have := HTk.out; omega) hc hH (by omega) hbs hown.out).mono ?_
        rintro e w4 ⟨rfl, v4, hH4, own4, o4⟩
        have b4 := hb.trans (o4.mono (by omega))
        rw [show s.extract s.size s.size = ByteArray.empty from ByteArray.extract_same] at own4
        obtain ⟨a4, c4, rfl⟩ := own4.shape
        have hlen4 : (T ++ [(⟨0, ByteArray.empty, s.size⟩ : Tok)]).length = T.length + 1 := by simp
        rw [hlen4] at own4 hH4
        have hq4 := hH4.cell (j := 0) rfl
        have hfin := hid (own4.reads w4 (Agr.refl _ _))
        clear own4 o4 hown
        go_wp2
        exact bodyPost_ret (v := .tuple #[.slice a4 (T.length + 1 : Nat) c4, .int .i64 0, .int .i64 0]) (by simp [results, Tryz.results142, go_sem]) rfl ⟨Or.inl ⟨a4, c4, T, rfl, hfin.out, hto2.out, HTk.out⟩, b4⟩
end Go.Proofs.YtahbhhenobehfaaGreatDoor
