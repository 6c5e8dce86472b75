/-
  The walk of read and of Terms of the parser.
-/
import Derived.Test.YtahbhhenobehfaaGreatDoorM35
namespace Go.Proofs.YtahbhhenobehfaaGreatDoor
open Go.ChangeShapes Go.WideShapes Go.ChangeAt Go.RowKit

theorem lexS_small {x y : List UInt8} {ts : List KT} (h : lexS x = some (ts, y)) : (∀ p ∈ ts, p.2.length ≤ x.length) ∧ y.length ≤ x.length := by
  match x, h with
  | c :: r, h =>
    rw [lexS_cons] at h
    have hd : ∀ f : UInt8 → Bool, ((c :: r).dropWhile f).length ≤ (c :: r).length := fun f => (List.dropWhile_sublist f).length_le
    have ht : ∀ f : UInt8 → Bool, ((c :: r).takeWhile f).length ≤ (c :: r).length := fun f => (List.takeWhile_sublist f).length_le
    split at h
    · cases h; exact ⟨by simp, by simp⟩
    · split at h
      · cases h; exact ⟨by simp, hd _⟩
      · split at h
        · split at h
          · cases h
          · cases h; exact ⟨by simpa using ht runB, hd _⟩
        · split at h
          · cases h; exact ⟨by simp, by simp⟩
          · cases h
theorem LexTo.small {l x : List UInt8} {T : List KT} (h : LexTo l x T) : x.length ≤ l.length ∧ ∀ p ∈ T, p.2.length ≤ l.length := by
  induction h with
  | start => exact ⟨Nat.le_refl _, by simp⟩
  | step h1 h2 ih =>
    obtain ⟨h3, h4⟩ := lexS_small h2
    refine ⟨Nat.le_trans h4 ih.1, fun p hp => ?_⟩
    rcases List.mem_append.1 hp with hp | hp
    · exact ih.2 p hp
    · exact Nat.le_trans (h3 p hp) ih.1
/-- What a reader of a list of terms answers. -/
def ReadSaid (s : ByteArray) (w : World) (e : Ending) (w' : World) : Prop :=
  (∃ v ts a er, e = .returned (.tuple #[v, .int .i64 a, .int .i64 er]) ∧ OwnM 2 TmC w.heap.size 76 w' v ts ∧ ∀ l, (∀ t ∈ l, groundB 4 t = true) → (termsL l).length ≤ 16384 → s.data.toList = termsL l → ts = l ∧ er = 0) ∧ Below w.heap.size w w'
/-- The tokens of a text and the end behind them, as the parser reads them. -/
theorem rd_of_lex {s : ByteArray} {w : World} {ad : Option Addr} {cap : Nat} {T : List Tok} (hT : ToksAt w ad (T.length + 1) cap (T ++ [⟨0, ByteArray.empty, s.size⟩])) (hL : LexTo s.data.toList [] (T.map kt)) (hn : T.length ≤ s.size) (hs : s.size ≤ 100000) :
    RdAt (w.alloc (.cells #[.slice ad (T.length + 1 : Nat) cap, .int .i64 0] 169)) w.heap.size ad cap (T ++ [⟨0, ByteArray.empty, s.size⟩]) 0 := by
  have hlen : (T ++ [(⟨0, ByteArray.empty, s.size⟩ : Tok)]).length = T.length + 1 := by simp
  refine ⟨?_, ?_, by simp, fun b o e => ?_, fun j hj hk => ?_, fun t ht => ?_, by simp; omega⟩
  · rw [hlen]; exact Has.new w _ _
  · rw [hlen]; exact hT.below ((Below.refl w.heap.size w).alloc (Nat.le_refl _) _) (Nat.le_refl _)
  · obtain ⟨b', o', us, e', hl, hc, _⟩ := hT.2.2.2 0 (by simp)
    rw [e] at e'
    cases e'
    have hx : us.length = 3 := hl
    have := lt_of_cell (hc 0 (by omega))
    omega
  · rw [hlen] at hj ⊢
    by_cases hjT : j < T.length
    · omega
    · obtain rfl : j = T.length := by omega
      rw [List.getElem_append_right (by omega)] at hk
      simp at hk
  · rcases List.mem_append.1 ht with ht | ht
    · have := hL.small.2 (kt t) (List.mem_map_of_mem ht)
      have h2 : t.text.data.toList.length = t.text.size := Array.length_toList
      have h3 : s.data.toList.length = s.size := Array.length_toList
      have h4 : (kt t).2 = t.text.data.toList := rfl
      rw [h4, h2, h3] at this
      unfold maxLen; omega
    · simp only [List.mem_cons, List.mem_nil_iff, or_false] at ht
      subst ht
      exact Nat.zero_le _
theorem tok_ne {w : World} {ad : Option Addr} {n cap g : Nat} {T : List Tok} {v : Value} {Y : TypeId} (h : ToksAt w ad n cap T) (h0 : 0 < T.length) (H : Has w g #[v] Y) : ∀ b o, ad = some ⟨b, o, none⟩ → b ≠ g := fun b o e hb => by
  subst hb
  obtain ⟨b', o', us, e', hl, hc, _⟩ := h.2.2.2 0 h0
  rw [e] at e'
  cases e'
  have hx : us.length = 3 := hl
  have := hc 1 (by omega)
  unfold Has at H
  simp [World.cell?, H] at this
theorem can_of_lex {s : ByteArray} {T : List Tok} {l : List Tm} (hL : LexTo s.data.toList [] (T.map kt)) (hg : ∀ t ∈ l, groundB 4 t = true) (hs : s.data.toList = termsL l) : CanL l (sfx (T ++ [⟨0, ByteArray.empty, s.size⟩]) 0) := by
  refine ⟨hg, ?_⟩
  have hA := lex_terms l hg
  rw [← hs] at hA
  have := LexAll.done hL hA
  unfold sfx
  rw [List.drop_zero, List.map_append, this]
  rfl
set_option maxRecDepth 100000 in
set_option maxHeartbeats 8000000 in
theorem read_any (s : ByteArray) (w : World) (hs : s.size ≤ 100000) (hW : Words w) :
    Calls Tryz.prog 110 #[.string s, .func (.func 111) #[] #[]] w (ReadSaid s w) := by
  have hmf : ∀ (fn : Fn) (first cap : Array Value) (w : World), (Instr.makeFunc fn first cap).run Tryz.prog w = .ok (.func fn first cap) w := fun _ _ _ _ => rfl
  have b0 : Below w.heap.size w (((w.alloc (.cells #[.slice none 0 0] 43)).alloc (.cells #[.int .i64 0] 3)).alloc (.cells #[.int .i64 0] 34)) := (((Below.refl _ _).alloc (Nat.le_refl _) _).alloc (by simp) _).alloc (by simp; omega) _
  have HO : Has (((w.alloc (.cells #[.slice none 0 0] 43)).alloc (.cells #[.int .i64 0] 3)).alloc (.cells #[.int .i64 0] 34)) w.heap.size #[.slice none 0 0] 43 := ((Has.new w _ _).alloc _).alloc _
  have HA : Has (((w.alloc (.cells #[.slice none 0 0] 43)).alloc (.cells #[.int .i64 0] 3)).alloc (.cells #[.int .i64 0] 34)) (w.heap.size + 1) #[.int .i64 0] 3 := (Has.newAt (by simp)).alloc _
  have HE : Has (((w.alloc (.cells #[.slice none 0 0] 43)).alloc (.cells #[.int .i64 0] 3)).alloc (.cells #[.int .i64 0] 34)) (w.heap.size + 1 + 1) #[.int .i64 0] 34 := Has.newAt (by simp)
  have hW0 := hW.below b0 (Nat.le_refl _)
  go_enter_defers Tryz.func110, Tryz.ntmps110
  go_wp2_with fail
  refine (lex_any s _ hs hW0).mono ?_
  rintro e w1 ⟨⟨ad, cap, T, rfl, hT, hL, hn⟩ | ⟨a, er, rfl, hne, hbad⟩, o1⟩
  · have hb1 := b0.trans (o1.mono b0.size)
    have HO1 := HO.below o1 HO.lt
    have HA1 := HA.below o1 HA.lt
    have HE1 := HE.below o1 HE.lt
    have q0 : w1.cell? ⟨w.heap.size, 0, none⟩ = some (.slice none 0 0) := HO1.cell (j := 0) rfl
    have qa : w1.cell? ⟨w.heap.size + 1, 0, none⟩ = some (.int .i64 0) := HA1.cell (j := 0) rfl
    have qe : w1.cell? ⟨w.heap.size + 1 + 1, 0, none⟩ = some (.int .i64 0) := HE1.cell (j := 0) rfl
    have z0 := HO1.free 0
    have za := HA1.free 0
    have ze := HE1.free 0
    have hb1s := hb1.size
    have hTn : 0 < (T ++ [(⟨0, ByteArray.empty, s.size⟩ : Tok)]).length := by simp
    have hT2 := hT.only (((Only.refl [w.heap.size + 1, w.heap.size + 1 + 1] w1).setIn (b := w.heap.size + 1) (o := 0) (by simp) (.int .i64 0)).setIn (b := w.heap.size + 1 + 1) (o := 0) (by simp) (.int .i64 0)) (fun b o e => by
      have h1 := tok_ne hT hTn HA1 b o e
      have h2 := tok_ne hT hTn HE1 b o e
      simp only [List.mem_cons, List.mem_nil_iff, or_false, not_or]
      exact ⟨h1, h2⟩)
    have hgo := hid (tok_ne hT hTn HO1)
    have hgA := hid (tok_ne hT hTn HA1)
    have hgE := hid (tok_ne hT hTn HE1)
    have HO2 := (HO1.other (a := ⟨w.heap.size + 1, 0, none⟩) (by simp) (.int .i64 0)).other (a := ⟨w.heap.size + 1 + 1, 0, none⟩) (by simp; omega) (.int .i64 0)
    have HA2 := (HA1.set 0 (.int .i64 0)).other (a := ⟨w.heap.size + 1 + 1, 0, none⟩) (by simp) (.int .i64 0)
    have HE2 := (HE1.other (a := ⟨w.heap.size + 1, 0, none⟩) (by simp) (.int .i64 0)).set 0 (.int .i64 0)
    have hb2 := (hb1.setCell (p := ⟨w.heap.size + 1, 0, none⟩) (by simp) (.int .i64 0)).setCell (p := ⟨w.heap.size + 1 + 1, 0, none⟩) (by simp; omega) (.int .i64 0)
    have hsz2 : ((w1.setCell ⟨w.heap.size + 1, 0, none⟩ (.int .i64 0)).setCell ⟨w.heap.size + 1 + 1, 0, none⟩ (.int .i64 0)).heap.size = w1.heap.size := by simp [World.setCell]
    have hR := rd_of_lex hT2 hL hn hs
    rw [hsz2] at hR
    have HO3 := HO2.alloc (.cells #[.slice ad (T.length + 1 : Nat) cap, .int .i64 0] 169)
    have HA3 := HA2.alloc (.cells #[.slice ad (T.length + 1 : Nat) cap, .int .i64 0] 169)
    have HE3 := HE2.alloc (.cells #[.slice ad (T.length + 1 : Nat) cap, .int .i64 0] 169)
    have hb3 := hb2.alloc hb2.size (.cells #[.slice ad (T.length + 1 : Nat) cap, .int .i64 0] 169)
    have hcan := hid (show ∀ l, (∀ t ∈ l, groundB 4 t = true) → s.data.toList = termsL l → CanL l (sfx (T ++ [⟨0, ByteArray.empty, s.size⟩]) 0) from fun l hg hl => can_of_lex hL hg hl)
    have hHEl := HE1.lt
    obtain ⟨w3, ew3⟩ : ∃ w3, w3 = ((w1.setCell ⟨w.heap.size + 1, 0, none⟩ (.int .i64 0)).setCell ⟨w.heap.size + 1 + 1, 0, none⟩ (.int .i64 0)).alloc (.cells #[.slice ad (T.length + 1 : Nat) cap, .int .i64 0] 169) := ⟨_, rfl⟩
    have hsz3 : w3.heap.size = w1.heap.size + 1 := by rw [ew3]; simp [World.setCell]
    have HR := hid hR
    have HHO := hid HO3
    have HHA := hid HA3
    have HHE := hid HE3
    have Hb3 := hid hb3
    rw [← ew3] at HR HHO HHA HHE Hb3
    clear HO HA HE HO1 HA1 HE1 HO2 HA2 HE2 HO3 HA3 HE3 hT hT2 hR hb1 hb2 hb3 b0 o1
    obtain ⟨TT, eTT⟩ : ∃ TT, TT = T ++ [(⟨0, ByteArray.empty, s.size⟩ : Tok)] := ⟨_, rfl⟩
    rw [← eTT] at HR hcan
    clear eTT hTn
    go_wp2_with fail
    rw [← ew3]
    refine (terms_walk w1.heap.size ad cap TT w3 HR.out).mono ?_
    clear ew3
    rintro e w4 ⟨⟨v, ts, k', rfl, own, hR4, hc⟩ | ⟨⟨p, er, rfl⟩, hno⟩, o4⟩
    · have HO4 := HHO.out.only o4 (by simp; omega)
      have HA4 := HHA.out.only o4 (by simp; omega)
      have HE4 := HHE.out.only o4 (by simp; omega)
      obtain ⟨av, cv, rfl⟩ := own.shape
      have q0 : w4.cell? ⟨w.heap.size, 0, none⟩ = some (.slice none 0 0) := HO4.cell (j := 0) rfl
      have z0 := HO4.free 0
      have HO5 := HO4.set 0 (.slice av ts.length cv)
      have HA5 := HA4.other (a := ⟨w.heap.size, 0, none⟩) (by simp) (.slice av ts.length cv)
      have HE5 := HE4.other (a := ⟨w.heap.size, 0, none⟩) (by simp; omega) (.slice av ts.length cv)
      have hR5 := hR4.other (c := w.heap.size) (o := 0) (by omega) hgo.out (.slice av ts.length cv)
      have own5 := own.only ((Only.refl [w.heap.size] w4).setIn (b := w.heap.size) (o := 0) (by simp) (.slice av ts.length cv)) (by simp; omega)
      have b4 : Below w.heap.size w w4 := o4.toBelow Hb3.out (by simp; omega) Hb3.out.size
      have b5 := b4.setCell (p := ⟨w.heap.size, 0, none⟩) (by simp) (.slice av ts.length cv)
      obtain ⟨t6, ht6⟩ : ∃ t6, TT[k']? = some t6 := ⟨_, List.getElem?_eq_getElem hR5.lt⟩
      have hs6 := hid (sfx_cons ht6)
      obtain ⟨K, S, P⟩ := t6
      have fd0 := tok_field0 K P S
      have Hc := hid hc
      clear hc HO4 HA4 HE4 hR4 own
      go_wp2_with fail
      refine (token_any w1.heap.size ad cap TT k' _ _ hR5 ht6).mono ?_
      rintro e w6 ⟨rfl, o6⟩
      have HO6 := HO5.below o6 HO5.lt
      have HA6 := HA5.below o6 HA5.lt
      have HE6 := HE5.below o6 HE5.lt
      have own6 := own5.below o6 (Nat.le_refl _)
      have hR6 := hR5.below o6 (Nat.le_refl _)
      have b6 := b5.trans (o6.mono b5.size)
      clear HO5 HA5 HE5 own5 hR5 o6 q0 z0
      by_cases hK : K = 0
      · subst hK
        have q0 : w6.cell? ⟨w.heap.size, 0, none⟩ = some (.slice av ts.length cv) := HO6.cell (j := 0) rfl
        have qa : w6.cell? ⟨w.heap.size + 1, 0, none⟩ = some (.int .i64 0) := HA6.cell (j := 0) rfl
        have qe : w6.cell? ⟨w.heap.size + 1 + 1, 0, none⟩ = some (.int .i64 0) := HE6.cell (j := 0) rfl
        have z0 := HO6.free 0
        have za := HA6.free 0
        have ze := HE6.free 0
        have HO7 := ((HO6.set 0 (.slice av ts.length cv)).other (a := ⟨w.heap.size + 1, 0, none⟩) (by simp) (.int .i64 0)).other (a := ⟨w.heap.size + 1 + 1, 0, none⟩) (by simp; omega) (.int .i64 0)
        have HA7 := ((HA6.other (a := ⟨w.heap.size, 0, none⟩) (by simp) (.slice av ts.length cv)).set 0 (.int .i64 0)).other (a := ⟨w.heap.size + 1 + 1, 0, none⟩) (by simp) (.int .i64 0)
        have HE7 := ((HE6.other (a := ⟨w.heap.size, 0, none⟩) (by simp; omega) (.slice av ts.length cv)).other (a := ⟨w.heap.size + 1, 0, none⟩) (by simp) (.int .i64 0)).set 0 (.int .i64 0)
        have oS := (((Only.refl [w.heap.size, w.heap.size + 1, w.heap.size + 1 + 1] w6).setIn (b := w.heap.size) (o := 0) (by simp) (.slice av ts.length cv)).setIn (b := w.heap.size + 1) (o := 0) (by simp) (.int .i64 0)).setIn (b := w.heap.size + 1 + 1) (o := 0) (by simp) (.int .i64 0)
        have own7 := own6.only oS (by simp; omega)
        have b7 := oS.toBelow b6 (by simp; omega) b6.size
        have HHO7 := hid HO7
        have HHA7 := hid HA7
        have HHE7 := hid HE7
        have Own7 := hid own7
        have B7 := hid b7
        clear HO7 HA7 HE7 own7 b7 oS HO6 HA6 HE6 own6 hR6 b6
        go_wp2
        refine leaves_cons (f := 143) (args := #[.pointer (some ⟨w.heap.size, 0, none⟩), .pointer (some ⟨w.heap.size + 1, 0, none⟩), .pointer (some ⟨w.heap.size + 1 + 1, 0, none⟩)]) (by simp) (by simp [go_sem]) ?_
        refine (catch_idle w.heap.size (w.heap.size + 1) (w.heap.size + 1 + 1) _).mono ?_
        rintro e u' w8 ⟨rfl, rfl, o8⟩
        have HO8 := HHO7.out.below o8 HHO7.out.lt
        have HA8 := HHA7.out.below o8 HHA7.out.lt
        have HE8 := HHE7.out.below o8 HHE7.out.lt
        have r0 := HO8.cell (j := 0) rfl
        have ra := HA8.cell (j := 0) rfl
        have re := HE8.cell (j := 0) rfl
        refine ⟨.tuple #[.slice av ts.length cv, .int .i64 0, .int .i64 0], ?_, ⟨.slice av ts.length cv, ts, 0, 0, rfl, (Own7.out.below o8 (Nat.le_refl _)).rebase (by omega), fun l hg _ hl => ⟨(Hc.out l (hcan.out l hg hl)).1, rfl⟩⟩, B7.out.trans (o8.mono B7.out.size)⟩
        simp [results, Tryz.results110, go_sem, r0, ra, re]
      · have hKb : (K != 0) = true := by simpa using hK
        have HK := hid hK
        clear hK
        go_wp2_with fail
        refine (fail_any 1 w1.heap.size ad cap TT k' _ hR6).mono ?_
        rintro e w7 ⟨⟨p, er, rfl⟩, o7⟩
        have HO7 := HO6.below o7 HO6.lt
        have HA7 := HA6.below o7 HA6.lt
        have HE7 := HE6.below o7 HE6.lt
        have b7 := b6.trans (o7.mono b6.size)
        clear HO6 HA6 HE6 hR6 own6 o7 b6
        go_wp2
        refine leaves_cons (f := 143) (args := #[.pointer (some ⟨w.heap.size, 0, none⟩), .pointer (some ⟨w.heap.size + 1, 0, none⟩), .pointer (some ⟨w.heap.size + 1 + 1, 0, none⟩)]) (by simp) (by simp [go_sem]) ?_
        refine (catch_viol w.heap.size (w.heap.size + 1) (w.heap.size + 1 + 1) p er _ _ _ [] _ HO7 HA7 HE7 (by omega) (by omega) (by omega)).mono ?_
        rintro e u' w8 ⟨rfl, rfl, HO8, HA8, HE8, o8⟩
        have r0 := HO8.cell (j := 0) rfl
        have ra := HA8.cell (j := 0) rfl
        have re := HE8.cell (j := 0) rfl
        refine ⟨.tuple #[.slice none 0 0, .int .i64 p, .int .i64 er], ?_, ⟨.slice none 0 0, [], p, er, rfl, OwnM.nil _ _ _ _ _, fun l hg _ hl => ?_⟩, ?_⟩
        · simp [results, Tryz.results110, go_sem, r0, ra, re]
        · exfalso
          have h := (Hc.out l (hcan.out l hg hl)).2
          rw [hs6.out] at h
          simp only [List.cons.injEq] at h
          have h2 : K = 0 := congrArg Prod.fst h.1
          exact HK.out h2
        · exact o8.toBelow b7 (by simp; omega) b7.size
    · have HO4 := HHO.out.only o4 (by simp; omega)
      have HA4 := HHA.out.only o4 (by simp; omega)
      have HE4 := HHE.out.only o4 (by simp; omega)
      go_wp2
      refine leaves_cons (f := 143) (args := #[.pointer (some ⟨w.heap.size, 0, none⟩), .pointer (some ⟨w.heap.size + 1, 0, none⟩), .pointer (some ⟨w.heap.size + 1 + 1, 0, none⟩)]) (by simp) (by simp [go_sem]) ?_
      refine (catch_viol w.heap.size (w.heap.size + 1) (w.heap.size + 1 + 1) p er _ _ _ [] _ HO4 HA4 HE4 (by omega) (by omega) (by omega)).mono ?_
      rintro e u' w5 ⟨rfl, rfl, HO5, HA5, HE5, o5⟩
      have r0 := HO5.cell (j := 0) rfl
      have ra := HA5.cell (j := 0) rfl
      have re := HE5.cell (j := 0) rfl
      refine ⟨.tuple #[.slice none 0 0, .int .i64 p, .int .i64 er], ?_, ⟨.slice none 0 0, [], p, er, rfl, OwnM.nil _ _ _ _ _, fun l hg _ hl => absurd (hcan.out l hg hl) (hno l)⟩, ?_⟩
      · simp [results, Tryz.results110, go_sem, r0, ra, re]
      · exact o5.toBelow (o4.toBelow Hb3.out (by simp; omega) Hb3.out.size) (by simp; omega) (by have := Hb3.out.size; have := o4.size; omega)
  · have hb1 := b0.trans (o1.mono b0.size)
    have HO1 := HO.below o1 HO.lt
    have HA1 := HA.below o1 HA.lt
    have HE1 := HE.below o1 HE.lt
    have q0 : w1.cell? ⟨w.heap.size, 0, none⟩ = some (.slice none 0 0) := HO1.cell (j := 0) rfl
    have qa : w1.cell? ⟨w.heap.size + 1, 0, none⟩ = some (.int .i64 0) := HA1.cell (j := 0) rfl
    have qe : w1.cell? ⟨w.heap.size + 1 + 1, 0, none⟩ = some (.int .i64 0) := HE1.cell (j := 0) rfl
    have z0 := HO1.free 0
    have za := HA1.free 0
    have ze := HE1.free 0
    have hne1 : (er != 0) = true := by simpa using hne
    have hb1s := hb1.size
    have hcan := hid (show ∀ l, (∀ t ∈ l, groundB 4 t = true) → (termsL l).length ≤ 16384 → s.data.toList = termsL l → ([] : List Tm) = l ∧ er = 0 from fun l hg hlen hl => by
      exfalso
      rcases hbad with hbad | ⟨x, T, h1, h2, h3⟩
      · have h3 : s.data.toList.length = s.size := Array.length_toList
        rw [hl] at h3; omega
      · have hA := lex_terms l hg
        rw [← hl] at hA
        exact LexAll.stuck h1 h2 h3 hA)
    have HO2 := hid HO1
    have HA2 := hid HA1
    have HE2 := hid HE1
    clear HO HA HE HO1 HA1 HE1 hbad
    go_wp2
    go_region
    all_goals
      go_wp2
      have G0 := ((((HO2.out.other (a := ⟨w.heap.size + 1, 0, none⟩) (by simp) (.int .i64 a)).other (a := ⟨w.heap.size + 1 + 1, 0, none⟩) (by simp; omega) (.int .i64 er)).set 0 (.slice none 0 0)).other (a := ⟨w.heap.size + 1, 0, none⟩) (by simp) (.int .i64 a)).other (a := ⟨w.heap.size + 1 + 1, 0, none⟩) (by simp; omega) (.int .i64 er)
      have GA := ((((HA2.out.set 0 (.int .i64 a)).other (a := ⟨w.heap.size + 1 + 1, 0, none⟩) (by simp) (.int .i64 er)).other (a := ⟨w.heap.size, 0, none⟩) (by simp) (.slice none 0 0)).set 0 (.int .i64 a)).other (a := ⟨w.heap.size + 1 + 1, 0, none⟩) (by simp) (.int .i64 er)
      have GE := ((((HE2.out.other (a := ⟨w.heap.size + 1, 0, none⟩) (by simp) (.int .i64 a)).set 0 (.int .i64 er)).other (a := ⟨w.heap.size, 0, none⟩) (by simp; omega) (.slice none 0 0)).other (a := ⟨w.heap.size + 1, 0, none⟩) (by simp) (.int .i64 a)).set 0 (.int .i64 er)
      have r0 := G0.cell (j := 0) rfl
      have ra := GA.cell (j := 0) rfl
      have re := GE.cell (j := 0) rfl
      have bF := (((((hb1.setCell (p := ⟨w.heap.size + 1, 0, none⟩) (by simp) (.int .i64 a)).setCell (p := ⟨w.heap.size + 1 + 1, 0, none⟩) (by simp; omega) (.int .i64 er)).setCell (p := ⟨w.heap.size, 0, none⟩) (by simp) (.slice none 0 0)).setCell (p := ⟨w.heap.size + 1, 0, none⟩) (by simp) (.int .i64 a)).setCell (p := ⟨w.heap.size + 1 + 1, 0, none⟩) (by simp; omega) (.int .i64 er)).drew
      refine ⟨.tuple #[.slice none 0 0, .int .i64 a, .int .i64 er], ?_, ⟨.slice none 0 0, [], a, er, rfl, OwnM.nil _ _ _ _ _, hcan.out⟩, bF⟩
      simp [results, Tryz.results110, go_sem, r0, ra, re]
theorem pterms_any (s : ByteArray) (w : World) (hs : s.size ≤ 100000) (hW : Words w) :
    Calls Tryz.prog 83 #[.string s] w (ReadSaid s w) := by
  go_enter Tryz.func83, Tryz.ntmps83
  go_wp2_with fail
  refine (read_any s _ hs hW).mono ?_
  rintro e w1 ⟨⟨v, ts, a, er, rfl, h1, h2⟩, h3⟩
  go_wp2
  exact bodyPost_ret (v := .tuple #[v, .int .i64 a, .int .i64 er]) (by simp [results, Tryz.results83, go_sem]) rfl ⟨⟨v, ts, a, er, rfl, h1, h2⟩, h3⟩
end Go.Proofs.YtahbhhenobehfaaGreatDoor
