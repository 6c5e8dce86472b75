/-
  The walk of the journal's reader: the first payload.
-/
import Derived.Test.YtahbhhenobehfaaGreatDoorM26
import Derived.Test.YtahbhhenobehfaaGreatDoorNU8
import Derived.Test.YtahbhhenobehfaaGreatDoorM15
import Derived.BigRegion
namespace Go.Proofs.YtahbhhenobehfaaGreatDoor
open Go.ChangeShapes Go.WideShapes Go.ChangeAt Go.RowKit

/-- The words of a first payload. -/
def HeadOf (ws : List (List UInt8)) (r : Rec) : Prop :=
  ws = [[109, 97, 116, 99, 104], r.name.data.toList, numT r.seed, numT r.start, numT r.clock, escL r.text.data.toList] ∧ (0 ≤ r.seed ∧ r.seed ≤ 18446744073709551615) ∧ (0 ≤ r.start ∧ r.start ≤ 1000) ∧ (0 ≤ r.clock ∧ r.clock ≤ 1000)
theorem parseM_le (M : Nat) : ∀ (l : List UInt8) (a v : Nat), a ≤ M → Lib.parseUintM M a l = .ok v → v ≤ M
  | [], a, v, ha, h => by
    unfold Lib.parseUintM at h
    cases h; exact ha
  | c :: r, a, v, ha, h => by
    rw [Lib.parseUintM] at h
    split at h
    · split at h
      · cases h
      · split at h
        · cases h
        · exact parseM_le M r _ v (by omega) h
    · cases h
theorem parseuint_any (s : ByteArray) (w : World) (hs : s.size ≤ 1000000) (hT : Tabs w) :
    Calls Tryz.prog 79 #[.string s, .int .i64 10, .int .i64 64] w fun e w' => (∃ v u, e = .returned (.tuple #[.int .u64 v, u]) ∧ (0 ≤ v ∧ v ≤ 18446744073709551615) ∧ ((u = .nilIface ∧ ∀ n : Int, 0 ≤ n → n ≤ 18446744073709551615 → s.data.toList = numT n → v = n) ∨ (∃ N, u = .iface 157 (.pointer (some ⟨N, 0, none⟩)) ∧ ∀ n : Int, 0 ≤ n → n ≤ 18446744073709551615 → s.data.toList ≠ numT n))) ∧ Below w.heap.size w w' := by
  rcases hA : Lib.parseUintB 64 s.data.toList with v | _ | _
  · skip
    refine (Tryz.strconv_ParseUint_10_at64_ok s (by omega) v hA w).mono ?_
    rintro e w' ⟨rfl, h⟩
    have hv : (v : Int) ≤ 18446744073709551615 := by
      unfold Lib.parseUintB at hA
      split at hA
      · cases hA
      · have := parseM_le (2 ^ 64 - 1) _ _ _ (Nat.zero_le _) hA
        omega
    refine ⟨⟨v, _, rfl, ⟨by omega, hv⟩, Or.inl ⟨rfl, fun n h0 h1 h2 => ?_⟩⟩, ?_⟩
    · rw [h2, parse_numT n h0 h1] at hA
      cases hA
      omega
    · rcases h with rfl | rfl
      · exact Below.refl _ _
      · exact Lib.bytesWorld_below _ _ _
  · skip
    obtain ⟨ev, h1, h2⟩ := hT.syn
    refine (Any.strconv_ParseUint_10_at64_syntax Tryz.laysPu14 s (by omega) hA ev w h1 h2).mono ?_
    rintro e w' ⟨N, rfl, _, _, hb⟩
    exact ⟨⟨0, _, rfl, ⟨by decide, by decide⟩, Or.inr ⟨N, rfl, fun n h0 h1 h2 => by rw [h2, parse_numT n h0 h1] at hA; cases hA⟩⟩, hb⟩
  · skip
    obtain ⟨ev, h1, h2⟩ := hT.rng
    refine (Tryz.strconv_ParseUint_10_at64_range s (by omega) hA ev w h1 h2).mono ?_
    rintro e w' ⟨N, rfl, _, _, hb⟩
    exact ⟨⟨_, _, rfl, ⟨by decide, by decide⟩, Or.inr ⟨N, rfl, fun n h0 h1 h2 => by rw [h2, parse_numT n h0 h1] at hA; cases hA⟩⟩, hb⟩
theorem nums_parts {s : ByteArray} {Q : List ByteArray → Prop} {w : World} {f : FuncId} {args : Array Value} (h : Calls Tryz.prog f args w (NumsSaid s Q w)) :
    Calls Tryz.prog f args w fun e w' => (∃ v, e = .returned v ∧ ∃ l, OwnL IntC w.heap.size 3 w' v l ∧ l.length ≤ s.size + 1 ∧ (s.data.toList = [45] → l = []) ∧ (s.data.toList ≠ [45] → ∃ ws, Q ws ∧ l = ws.map (fun x => atoiV x.data.toList)) ∧ Below w.heap.size w w') ∨ (∃ c, e = .panicked c ∧ False) := by
  refine h.mono ?_
  rintro e w' ⟨⟨v, l, rfl, h1, h2, h3, h4⟩, ho⟩
  exact Or.inl ⟨_, rfl, l, h1, h2, h3, h4, ho⟩
theorem sixL {α : Type} {l : List α} (h : l.length = 6) : ∃ a b c d e f, l = [a, b, c, d, e, f] := by
  match l, h with
  | [a, b, c, d, e, f], _ => exact ⟨a, b, c, d, e, f, rfl⟩
def HeadSays (ws : List ByteArray) (a1 o : ByteArray) (sd st ck : Int) (ok : Bool) : Prop := ∀ r, HeadOf (ws.map (·.data.toList)) r → ok = true ∧ a1 = r.name ∧ o = r.text ∧ sd = r.seed ∧ st = r.start ∧ ck = r.clock
def BegunR (ws : List ByteArray) (x : Nat) (w : World) (e : Ending) (w' : World) : Prop :=
  e = .returned (.tuple #[]) ∧ (∃ (nm tx : ByteArray) (sd st ck : Int) (ok : Bool), Has w' x #[.string nm, .string tx, .int .u64 sd, .int .i64 st, .int .i64 ck, .slice none 0 0, .bool false, .slice none 0 0, .slice none 0 0, .bool ok] 81 ∧ nm.size ≤ 100000 ∧ tx.size ≤ 100000 ∧ (0 ≤ sd ∧ sd ≤ 18446744073709551615) ∧ HeadSays ws nm tx sd st ck ok) ∧ Only [x] w w'
theorem has_drew {w : World} {b : Nat} {vs : Array Value} {T : TypeId} (h : Has w b vs T) : Has w.drew b vs T := h
theorem begunR_of {ws : List ByteArray} {x : Nat} {w w7 : World} {a1 o : ByteArray} {sd st ck : Int} {ok : Bool} (h1 : a1.size ≤ 100000) (h2 : o.size ≤ 100000) (H : Has w7 x #[.string ⟨#[]⟩, .string ⟨#[]⟩, .int .u64 0, .int .i64 0, .int .i64 0, .slice none 0 0, .bool false, .slice none 0 0, .slice none 0 0, .bool ok] 81) (O : Only [x] w w7) (hsd : 0 ≤ sd ∧ sd ≤ 18446744073709551615)
    (hc : HeadSays ws a1 o sd st ck ok) :
    BegunR ws x w (.returned (.tuple #[])) (((((w7.setCell ⟨x, 0, none⟩ (.string a1)).setCell ⟨x, 2, none⟩ (.int .u64 sd)).setCell ⟨x, 3, none⟩ (.int .i64 st)).setCell ⟨x, 4, none⟩ (.int .i64 ck)).setCell ⟨x, 1, none⟩ (.string o)).drew := by
  have A1 : Has _ x #[.string a1, .string ⟨#[]⟩, .int .u64 0, .int .i64 0, .int .i64 0, .slice none 0 0, .bool false, .slice none 0 0, .slice none 0 0, .bool ok] 81 := H.set 0 (.string a1)
  have A2 : Has _ x #[.string a1, .string ⟨#[]⟩, .int .u64 sd, .int .i64 0, .int .i64 0, .slice none 0 0, .bool false, .slice none 0 0, .slice none 0 0, .bool ok] 81 := A1.set 2 (.int .u64 sd)
  have A3 : Has _ x #[.string a1, .string ⟨#[]⟩, .int .u64 sd, .int .i64 st, .int .i64 0, .slice none 0 0, .bool false, .slice none 0 0, .slice none 0 0, .bool ok] 81 := A2.set 3 (.int .i64 st)
  have A4 : Has _ x #[.string a1, .string ⟨#[]⟩, .int .u64 sd, .int .i64 st, .int .i64 ck, .slice none 0 0, .bool false, .slice none 0 0, .slice none 0 0, .bool ok] 81 := A3.set 4 (.int .i64 ck)
  have H2 : Has _ x #[.string a1, .string o, .int .u64 sd, .int .i64 st, .int .i64 ck, .slice none 0 0, .bool false, .slice none 0 0, .slice none 0 0, .bool ok] 81 := A4.set 1 (.string o)
  exact ⟨rfl, ⟨a1, o, sd, st, ck, ok, has_drew H2, h1, h2, hsd, hc⟩, (((((O.setIn (b := x) (o := 0) (by simp) (.string a1)).setIn (b := x) (o := 2) (by simp) (.int .u64 sd)).setIn (b := x) (o := 3) (by simp) (.int .i64 st)).setIn (b := x) (o := 4) (by simp) (.int .i64 ck)).setIn (b := x) (o := 1) (by simp) (.string o)).drew⟩
set_option maxRecDepth 20000 in
set_option maxHeartbeats 16000000 in
theorem begin_any (x b : Nat) (ws : List ByteArray) (w : World) (H : Has w x #[.string ⟨#[]⟩, .string ⟨#[]⟩, .int .u64 0, .int .i64 0, .int .i64 0, .slice none 0 0, .bool false, .slice none 0 0, .slice none 0 0, .bool true] 81)
    (HW : Has w b (strsV ws) 9) (hne : b ≠ x) (hsm : ∀ s ∈ ws, s.size ≤ 100000) (hn : ws.length ≤ 1000000) (hT : Tabs w) :
    Calls Tryz.prog 44 #[.pointer (some ⟨x, 0, none⟩), .slice (some ⟨b, 0, none⟩) ws.length ws.length] w (BegunR ws x w) := by
  have c9 := H.cell (j := 9) rfl
  have z9 := H.free 9
  by_cases h6 : ws.length = 6
  · obtain ⟨a0, a1, a2, a3, a4, a5, rfl⟩ := sixL h6
    clear h6
    have d0 : w.cell? ⟨b, 0, none⟩ = some (.string a0) := HW.cell (strsV_get _ 0 (by simp))
    by_cases hm : a0.data.toList = [109, 97, 116, 99, 104]
    · have hmb : (a0.toList == [109, 97, 116, 99, 104]) = true := by rw [ByteArray.toList_eq, hm]; rfl
      have q2 := hsm a2 (by simp)
      have q3 := hsm a3 (by simp)
      have q4 := hsm a4 (by simp)
      have q5 := hsm a5 (by simp)
      have q1 := hsm a1 (by simp)
      have HH := hid H
      have hHlt := H.lt
      have d2 : w.cell? ⟨b, 2, none⟩ = some (.string a2) := HW.cell (strsV_get _ 2 (by simp))
      clear hm hsm hn c9 z9 H
      go_enter Tryz.func44, Tryz.ntmps44
      go_wp2_with fail
      refine (parseuint_any a2 _ (by omega) hT).mono ?_
      rintro e w1 ⟨⟨sd, u, rfl, hsd, hu⟩, o1⟩
      have HW1 := HW.below o1 HW.lt
      have H1 := hid (HH.out.below o1 HH.out.lt)
      have hT1 := hT.below o1
      have d5 : w1.cell? ⟨b, 5, none⟩ = some (.string a5) := HW1.cell (strsV_get _ 5 (by simp))
      have hu := hid hu
      have o1' := hid o1
      clear d0 d2 HW HH hT o1
      go_wp2_with fail
      refine (unescape_any a5 _ (by omega)).mono ?_
      rintro e w2 ⟨⟨o, er, rfl, ho, hun⟩, o2⟩
      have HW2 := HW1.below o2 HW1.lt
      have H2 := hid (H1.out.below o2 H1.out.lt)
      have hT2 := hT1.below o2
      have O2 := hid (o1'.out.trans (o2.mono o1'.out.size))
      have hun := hid hun
      have d3 : w2.cell? ⟨b, 3, none⟩ = some (.string a3) := HW2.cell (strsV_get _ 3 (by simp))
      have d4 : w2.cell? ⟨b, 4, none⟩ = some (.string a4) := HW2.cell (strsV_get _ 4 (by simp))
      have l3 : a3.data.toList.length = a3.size := Array.length_toList
      have l4 : a4.data.toList.length = a4.size := Array.length_toList
      have e3 : str a3.data.toList = a3 := str_eta a3
      have e4 : str a4.data.toList = a4 := str_eta a4
      have ad1 := add_str_lit a3.data.toList ⟨#[32]⟩ [32] rfl (by simp; omega)
      have ad2 := add_str (a3.data.toList ++ [32]) a4.data.toList (by simp; omega)
      rw [e3] at ad1
      rw [e4] at ad2
      obtain ⟨m, hm⟩ := hT2.max
      obtain ⟨S, eS⟩ : ∃ S, S = str (a3.data.toList ++ [32] ++ a4.data.toList) := ⟨_, rfl⟩
      have hSl : S.data.toList = a3.data.toList ++ [32] ++ a4.data.toList := by rw [eS]; simp [str]
      have hSs : S.size ≤ 200001 := by rw [eS, str_size]; simp; omega
      rw [← eS] at ad2
      obtain ⟨S1, eS1⟩ : ∃ S1, S1 = str (a3.data.toList ++ [32]) := ⟨_, rfl⟩
      rw [← eS1] at ad1 ad2
      clear eS eS1 d5 H1 HW1 hT1 o1' o2 e3 e4
      have hcf : ∀ (xv : Array Value) (wx : World), (callFunc 81 xv).run Tryz.prog wx = .ok (.enter 81 xv) wx := fun xv wx => by simp [go_sem]
      go_wp2
      go_region_law (first
        | (refine step_call_or rfl 81 _ _ rfl hcf #[.string S, .string ⟨#[32]⟩] (by simp [Act.eval, Act.put]) (nums_parts (numbers_any S ⟨#[32]⟩ _ _ (by omega) (hT2.below ((Below.refl w2.heap.size w2).drew)) (split_byte 32 S _ m (by omega) hm))) (fun _ _ h => h.elim) ?_
           rintro v6 w6 ⟨l6, own6, hl6, hd6, hQ6, o6⟩))
      all_goals
        have hge : 2 ≤ l6.length := by
          obtain ⟨ws', hq1, hq2⟩ := hQ6 (fun e => by
            have := congrArg (fun l => (32 : UInt8) ∈ l) (hSl.symm.trans e)
            simp at this)
          have h1 := congrArg List.length hq1
          rw [hq2, List.length_map, ← List.length_map (f := fun y : ByteArray => y.data.toList), hq1, hSl, List.append_assoc]
          exact wordsL_two 32 _ _
        have hnum := hid (show ∀ r, HeadOf ([a0, a1, a2, a3, a4, a5].map (·.data.toList)) r → l6.getD 0 0 = r.start ∧ l6.getD 1 0 = r.clock from fun r hr => by
          obtain ⟨h1, _, h3, h4⟩ := hr
          simp only [List.map_cons, List.map_nil, List.cons.injEq, and_true] at h1
          obtain ⟨_, _, _, e3, e4, _⟩ := h1
          obtain ⟨ws', hq1, hq2⟩ := hQ6 (fun e => by
            have := congrArg (fun l => (32 : UInt8) ∈ l) (hSl.symm.trans e)
            simp at this)
          have n3 : (32 : UInt8) ∉ numT r.start := fun hc => by have := (numT_dig r.start (by omega)).1 _ hc; exact absurd this.1 (by decide)
          have n4 : (32 : UInt8) ∉ numT r.clock := fun hc => by have := (numT_dig r.clock (by omega)).1 _ hc; exact absurd this.1 (by decide)
          rw [hSl, e3, e4, List.append_assoc, List.singleton_append, wordsL_cons 32 _ _ n3, wordsL_free 32 _ n4] at hq1
          rw [hq2, show (ws'.map fun y => atoiV y.data.toList) = (ws'.map (·.data.toList)).map atoiV by rw [List.map_map]; rfl, hq1]
          simp only [List.map_cons, List.map_nil, List.getD_cons_zero, List.getD_cons_succ]
          unfold atoiV
          rw [atoi_numT _ h3.1 (by omega), atoi_numT _ h4.1 (by omega)]
          exact ⟨rfl, rfl⟩)
        obtain ⟨ad6, cap6, rfl, hH6⟩ := own6.slice
        obtain ⟨g, og, rfl⟩ := hH6.head (by omega)
        have g0 := hH6.int 0 (by omega)
        have g1 := hH6.int 1 (by omega)
        obtain ⟨st, est⟩ : ∃ st, st = l6.getD 0 0 := ⟨_, rfl⟩
        obtain ⟨ck, eck⟩ : ∃ ck, ck = l6.getD 1 0 := ⟨_, rfl⟩
        rw [← est] at g0 hnum
        rw [← eck] at g1 hnum
        clear est eck
        have hgb := (own6.lt g rfl).1
        have hw2s := O2.out.size
        have hxl : x < w.heap.size := hHlt
        have hgx : g ≠ x := by have : w2.heap.size ≤ g := hgb; omega
        have hxg : x ≠ g := fun e => hgx e.symm
        have hnx : x ≠ b := fun e => hne e.symm
        have H6 : Has w6 x #[.string ⟨#[]⟩, .string ⟨#[]⟩, .int .u64 0, .int .i64 0, .int .i64 0, .slice none 0 0, .bool false, .slice none 0 0, .slice none 0 0, .bool true] 81 := Has.below (w := w2.drew) H2.out o6 H2.out.lt
        have HW6 : Has w6 b (strsV [a0, a1, a2, a3, a4, a5]) 9 := Has.below (w := w2.drew) HW2 o6 HW2.lt
        have c9 := H6.cell (j := 9) rfl
        have z9 := H6.free 9
        have O6 : Only [x] w w6 := Only.ofBelow (O2.out.drew.trans (o6.mono hw2s)) (Nat.le_refl _)
        clear hQ6 hd6 own6 hH6 o6 H2 HW2 O2 hT2 d3 d4 ad1 ad2 hm hSl
        rcases hu.out with ⟨rfl, hv⟩ | ⟨N, rfl, hv⟩
        · by_cases her : er = 0
          · subst her
            clear hu
            have OKv := hid (show HeadSays [a0, a1, a2, a3, a4, a5] a1 o sd st ck true from fun r hr => by
              have h1 := hr.1
              simp only [List.map_cons, List.map_nil, List.cons.injEq, and_true] at h1
              exact ⟨rfl, ba_ext h1.2.1, ba_ext (hun.out _ h1.2.2.2.2.2).1, hv _ hr.2.1.1 hr.2.1.2 h1.2.2.1, (hnum.out r hr).1, (hnum.out r hr).2⟩)
            go_wp2
            have H7 : Has (w6.setCell ⟨x, 9, none⟩ (.bool true)) x #[.string ⟨#[]⟩, .string ⟨#[]⟩, .int .u64 0, .int .i64 0, .int .i64 0, .slice none 0 0, .bool false, .slice none 0 0, .slice none 0 0, .bool true] 81 := H6.set 9 (.bool true)
            have d1' := (HW6.other (a := ⟨x, 9, none⟩) hne (.bool true)).cell (strsV_get _ 1 (by simp))
            have g0' := (World.cell?_setCell_other w6 ⟨x, 9, none⟩ ⟨g, og + 0, none⟩ (.bool true) (fun e => hxg (congrArg Addr.block e))).trans g0
            have g1' := (World.cell?_setCell_other w6 ⟨x, 9, none⟩ ⟨g, og + 1, none⟩ (.bool true) (fun e => hxg (congrArg Addr.block e))).trans g1
            rw [Nat.add_zero] at g0'
            have O7 := O6.setIn (b := x) (o := 9) (by simp) (.bool true)
            obtain ⟨w7, ew7⟩ : ∃ w7, w7 = w6.setCell ⟨x, 9, none⟩ (.bool true) := ⟨_, rfl⟩
            rw [← ew7] at H7 d1' g0' g1' O7 ⊢
            have y0 := H7.cell (j := 0) rfl
            have y1 := H7.cell (j := 1) rfl
            have y2 := H7.cell (j := 2) rfl
            have y3 := H7.cell (j := 3) rfl
            have y4 := H7.cell (j := 4) rfl
            have t0 := H7.free 0
            have t1 := H7.free 1
            have t2 := H7.free 2
            have t3 := H7.free 3
            have t4 := H7.free 4
            have H7' := hid H7
            have O7' := hid O7
            clear H7 O7 O6 H6 HW6 g0 g1 ew7 c9 z9
            go_region
            all_goals
              go_wp2
              go_end0
              exact begunR_of (by omega) (by omega) H7'.out O7'.out hsd OKv.out
          · have herb : (er == 0) = false := by rw [beq_eq_false_iff_ne]; exact her
            have her' := hid her
            clear hu her
            have OKv := hid (show HeadSays [a0, a1, a2, a3, a4, a5] a1 o sd st ck false from fun r hr => by
              have h1 := hr.1
              simp only [List.map_cons, List.map_nil, List.cons.injEq, and_true] at h1
              exact absurd (hun.out _ h1.2.2.2.2.2).2 her'.out)
            go_wp2
            have H7 : Has (w6.setCell ⟨x, 9, none⟩ (.bool false)) x #[.string ⟨#[]⟩, .string ⟨#[]⟩, .int .u64 0, .int .i64 0, .int .i64 0, .slice none 0 0, .bool false, .slice none 0 0, .slice none 0 0, .bool false] 81 := H6.set 9 (.bool false)
            have d1' := (HW6.other (a := ⟨x, 9, none⟩) hne (.bool false)).cell (strsV_get _ 1 (by simp))
            have g0' := (World.cell?_setCell_other w6 ⟨x, 9, none⟩ ⟨g, og + 0, none⟩ (.bool false) (fun e => hxg (congrArg Addr.block e))).trans g0
            have g1' := (World.cell?_setCell_other w6 ⟨x, 9, none⟩ ⟨g, og + 1, none⟩ (.bool false) (fun e => hxg (congrArg Addr.block e))).trans g1
            rw [Nat.add_zero] at g0'
            have O7 := O6.setIn (b := x) (o := 9) (by simp) (.bool false)
            obtain ⟨w7, ew7⟩ : ∃ w7, w7 = w6.setCell ⟨x, 9, none⟩ (.bool false) := ⟨_, rfl⟩
            rw [← ew7] at H7 d1' g0' g1' O7 ⊢
            have y0 := H7.cell (j := 0) rfl
            have y1 := H7.cell (j := 1) rfl
            have y2 := H7.cell (j := 2) rfl
            have y3 := H7.cell (j := 3) rfl
            have y4 := H7.cell (j := 4) rfl
            have t0 := H7.free 0
            have t1 := H7.free 1
            have t2 := H7.free 2
            have t3 := H7.free 3
            have t4 := H7.free 4
            have H7' := hid H7
            have O7' := hid O7
            clear H7 O7 O6 H6 HW6 g0 g1 ew7 c9 z9
            go_region
            all_goals
              go_wp2
              go_end0
              exact begunR_of (by omega) (by omega) H7'.out O7'.out hsd OKv.out
        · clear hu
          have OKv := hid (show HeadSays [a0, a1, a2, a3, a4, a5] a1 o sd st ck false from fun r hr => by
            have h1 := hr.1
            simp only [List.map_cons, List.map_nil, List.cons.injEq, and_true] at h1
            exact absurd h1.2.2.1 (hv _ hr.2.1.1 hr.2.1.2))
          go_wp2
          have H7 : Has (w6.setCell ⟨x, 9, none⟩ (.bool false)) x #[.string ⟨#[]⟩, .string ⟨#[]⟩, .int .u64 0, .int .i64 0, .int .i64 0, .slice none 0 0, .bool false, .slice none 0 0, .slice none 0 0, .bool false] 81 := H6.set 9 (.bool false)
          have d1' := (HW6.other (a := ⟨x, 9, none⟩) hne (.bool false)).cell (strsV_get _ 1 (by simp))
          have g0' := (World.cell?_setCell_other w6 ⟨x, 9, none⟩ ⟨g, og + 0, none⟩ (.bool false) (fun e => hxg (congrArg Addr.block e))).trans g0
          have g1' := (World.cell?_setCell_other w6 ⟨x, 9, none⟩ ⟨g, og + 1, none⟩ (.bool false) (fun e => hxg (congrArg Addr.block e))).trans g1
          rw [Nat.add_zero] at g0'
          have O7 := O6.setIn (b := x) (o := 9) (by simp) (.bool false)
          obtain ⟨w7, ew7⟩ : ∃ w7, w7 = w6.setCell ⟨x, 9, none⟩ (.bool false) := ⟨_, rfl⟩
          rw [← ew7] at H7 d1' g0' g1' O7 ⊢
          have y0 := H7.cell (j := 0) rfl
          have y1 := H7.cell (j := 1) rfl
          have y2 := H7.cell (j := 2) rfl
          have y3 := H7.cell (j := 3) rfl
          have y4 := H7.cell (j := 4) rfl
          have t0 := H7.free 0
          have t1 := H7.free 1
          have t2 := H7.free 2
          have t3 := H7.free 3
          have t4 := H7.free 4
          have H7' := hid H7
          have O7' := hid O7
          clear H7 O7 O6 H6 HW6 g0 g1 ew7 c9 z9
          go_region
          all_goals
            go_wp2
            go_end0
            exact begunR_of (by omega) (by omega) H7'.out O7'.out hsd OKv.out
    · have hmb : (a0.toList == [109, 97, 116, 99, 104]) = false := by rw [ByteArray.toList_eq, beq_eq_false_iff_ne]; exact hm
      have H9 := hid (show Has (w.setCell ⟨x, 9, none⟩ (.bool false)) x #[.string ⟨#[]⟩, .string ⟨#[]⟩, .int .u64 0, .int .i64 0, .int .i64 0, .slice none 0 0, .bool false, .slice none 0 0, .slice none 0 0, .bool false] 81 from H.set 9 (.bool false))
      have hno := hid (show ∀ r, ¬ HeadOf ([a0, a1, a2, a3, a4, a5].map (·.data.toList)) r from fun r h => hm (by have := h.1; simp only [List.map_cons, List.cons.injEq] at this; exact this.1))
      clear hm
      go_enter Tryz.func44, Tryz.ntmps44
      go_wp2
      refine bodyPost_ret (results_none rfl _ _ _) rfl ?_
      exact ⟨rfl, ⟨_, _, 0, 0, 0, false, H9.out, by decide, by decide, by decide, fun r h => absurd h (hno.out r)⟩, (Only.refl [x] w).setIn (b := x) (o := 9) (by simp) (.bool false)⟩
  · have hno := hid (show ∀ r, ¬ HeadOf (ws.map (·.data.toList)) r from fun r h => h6 (by have := congrArg List.length h.1; simpa using this))
    have h6b : ((ws.length : Int) != 6) = true := by rw [bne_iff_ne]; omega
    have H9 := hid (show Has (w.setCell ⟨x, 9, none⟩ (.bool false)) x #[.string ⟨#[]⟩, .string ⟨#[]⟩, .int .u64 0, .int .i64 0, .int .i64 0, .slice none 0 0, .bool false, .slice none 0 0, .slice none 0 0, .bool false] 81 from H.set 9 (.bool false))
    clear h6
    go_enter Tryz.func44, Tryz.ntmps44
    go_wp2
    refine bodyPost_ret (results_none rfl _ _ _) rfl ?_
    exact ⟨rfl, ⟨_, _, 0, 0, 0, false, H9.out, by decide, by decide, by decide, fun r h => absurd h (hno.out r)⟩, (Only.refl [x] w).setIn (b := x) (o := 9) (by simp) (.bool false)⟩
end Go.Proofs.YtahbhhenobehfaaGreatDoor
