/-
  The walk of the journal's reader: a further payload.
-/
import Derived.Test.YtahbhhenobehfaaGreatDoorM26
import Derived.Test.YtahbhhenobehfaaGreatDoorNU22
import Derived.Test.YtahbhhenobehfaaGreatDoorNU12
import Derived.BigRegion
namespace Go.Proofs.YtahbhhenobehfaaGreatDoor
open Go.ChangeShapes Go.WideShapes Go.ChangeAt Go.RowKit

theorem threeL {α : Type} {l : List α} (h : l.length = 3) : ∃ a b c, l = [a, b, c] := by
  match l, h with
  | [a, b, c], _ => exact ⟨a, b, c, rfl⟩
theorem info_round : (Tryz.prog.info? 45).map (fun i => (i.zero, i.size, i.bytes)) = some (some (.agg #[.slice none 0 0, .slice none 0 0]), 2, 48) := by kernel_rfl
theorem rests_round {base : Nat} {E E' : TypeId} {w : World} {u v : Value} {j : List Tm} {f : List Int} (h : OwnM 2 TmC base E w u j) (k : OwnL IntC base E' w v f) : RestsM RndC (fun i => base ≤ i) w [u, v] ⟨j, f⟩ := fun w' a => by
  obtain ⟨aj, cj, rfl⟩ := h.shape
  obtain ⟨af, cf, rfl, _⟩ := k.slice
  exact ⟨aj, j.length, cj, af, f.length, cf, rfl, TmsAt.ofLst (h.reads w' a), (k.rests.move (S' := fun i => base ≤ i) a (fun _ _ h => h)).held⟩
theorem round_append {w : World} {base g : Nat} {v : Value} {T : List Rnd} {u1 u2 : Value} {t : Rnd} (own : OwnM 2 RndC base 45 w v T) (Hg : Has w g #[u1, u2] 45) (hu1 : u1.oneCell' = true) (hu2 : u2.oneCell' = true) (hR : RestsM RndC (fun k => base ≤ k ∧ v.ownBlock ≠ some k) w [u1, u2] t) (hT : T.length ≤ 1000000) (hb : base ≤ w.heap.size) :
    ∃ v' w', (Builtin.append_ #[23, 23] 23 #[v, .slice (some ⟨g, 0, none⟩) 1 1]).run Tryz.prog w = .ok v' w' ∧ OwnM 2 RndC base 45 w' v' (T ++ [t]) ∧ Below base w w' ∧ Agr (fun k => v.ownBlock ≠ some k) w w' ∧ ∀ g, v'.ownBlock = some g → v.ownBlock = some g ∨ w.heap.size ≤ g := by
  obtain ⟨i0, hi, hz0, hz1, hz2⟩ := info_parts info_round
  refine run_appendM w base 23 23 45 i0 _ 48 Tryz.underlying23 hi hz0 hz1 hz2 rfl (by omega) v T own ⟨g, 0, none⟩ 1 [u1, u2] t rfl ?_ ?_ hR (by unfold maxLen; omega) (by omega) hb
  · intro j z hz
    have e2 : (⟨g, 0, none⟩ : Addr).add j = ⟨g, 0 + j, none⟩ := by unfold Addr.add; split <;> simp_all
    rw [e2, Nat.zero_add]
    exact Hg.cell (by simpa using hz)
  · intro z hz
    simp only [List.mem_cons, List.mem_nil_iff, or_false] at hz
    rcases hz with rfl | rfl
    · exact hu1
    · exact hu2
/-- The journal's reader in block x, and what it has read. -/
structure RdrAt (B x : Nat) (w : World) (r : Rec) (vr vg : Value) (ok : Bool) : Prop where
  has : Has w x #[.string r.name, .string r.text, .int .u64 r.seed, .int .i64 r.start, .int .i64 r.clock, vr, .bool r.ended, vg, .slice none 0 0, .bool ok] 81
  rounds : OwnM 2 RndC B 45 w vr r.rounds
  goals : OwnL IntC B 3 w vg r.goals
  excl : r.excl = []
  low : x < B
  base : B ≤ w.heap.size
  faults : ∀ y ∈ r.rounds, y.faults.length ≤ 100001
  quiet : r.ended = false → vg = .slice none 0 0 ∧ r.goals = []
theorem RdrAt.below {B x : Nat} {w w' : World} {r : Rec} {vr vg : Value} {ok : Bool} (h : RdrAt B x w r vr vg ok) (hb : Below w.heap.size w w') : RdrAt B x w' r vr vg ok :=
  ⟨h.has.below hb h.has.lt, h.rounds.below hb (Nat.le_refl _), h.goals.below hb (Nat.le_refl _), h.excl, h.low, Nat.le_trans h.base hb.size, h.faults, h.quiet⟩
/-- What a further payload's words do to a record that is read. -/
def NextSays (ws : List (List UInt8)) (r : Rec) (ok : Bool) (r' : Rec) (ok' : Bool) : Prop :=
  r'.rounds.length ≤ r.rounds.length + 1 ∧ (r.ended = false → ∀ x, RoundOf ws x → ok' = ok ∧ r' = { r with rounds := r.rounds ++ [x] }) ∧ (r.ended = false → ∀ g, OverOf ws g → ok' = ok ∧ r' = { r with ended := true, goals := g }) ∧ r'.name = r.name ∧ r'.text = r.text ∧ r'.seed = r.seed ∧ ∀ y ∈ r'.rounds, y ∈ r.rounds ∨ ∃ s ∈ ws, y.faults.length ≤ s.length + 1
def NextR (B : Nat) (ws : List ByteArray) (x : Nat) (r : Rec) (ok : Bool) (w : World) (e : Ending) (w' : World) : Prop :=
  e = .returned (.tuple #[]) ∧ (∃ r' vr vg ok', RdrAt B x w' r' vr vg ok' ∧ NextSays (ws.map (·.data.toList)) r ok r' ok') ∧ Below x w w'
theorem has_drew' {w : World} {b : Nat} {vs : Array Value} {T : TypeId} (h : Has w b vs T) : Has w.drew b vs T := h
theorem RdrAt.okset {B x : Nat} {w : World} {r : Rec} {vr vg : Value} {ok : Bool} (h : RdrAt B x w r vr vg ok) (OK : Bool) : RdrAt B x (w.setCell ⟨x, 9, none⟩ (.bool OK)) r vr vg OK :=
  ⟨h.has.set 9 (.bool OK), h.rounds.only ((Only.refl [x] w).setIn (b := x) (o := 9) (by simp) (.bool OK)) (by simpa using h.low), h.goals.agr ⟨by simp [World.setCell], fun k hk hs => Below.heap_setCell _ _ _ _ (by have hs' : B ≤ k := hs; have := h.low; simp; omega)⟩ (fun g e => Below.heap_setCell _ _ _ _ (by have := (h.goals.lt g e).1; have := h.low; simp; omega)), h.excl, h.low, by simp [World.setCell]; exact h.base, h.faults, h.quiet⟩
theorem nextR_bad {B x : Nat} {ws : List ByteArray} {w : World} {r : Rec} {vr vg : Value} {ok : Bool} (h : RdrAt B x w r vr vg ok) (hr : r.ended = false → ∀ x, ¬ RoundOf (ws.map (·.data.toList)) x) (hg : r.ended = false → ∀ g, ¬ OverOf (ws.map (·.data.toList)) g) :
    NextR B ws x r ok w (.returned (.tuple #[])) (w.setCell ⟨x, 9, none⟩ (.bool false)) :=
  ⟨rfl, ⟨r, vr, vg, false, h.okset false, Nat.le_succ _, fun e x hx => absurd hx (hr e x), fun e g hx => absurd hx (hg e g), rfl, rfl, rfl, fun _ hy => Or.inl hy⟩, (Below.refl x w).setCell (p := ⟨x, 9, none⟩) (Nat.le_refl _) (.bool false)⟩
theorem nextR_over {B x : Nat} {ws : List ByteArray} {w w6 : World} {r : Rec} {vr vg v6 : Value} {ok : Bool} {l : List Int} (h : RdrAt B x w r vr vg ok) (o6 : Below w.heap.size w w6) (own6 : OwnL IntC w.heap.size 3 w6 v6 l)
    (hc : ∀ g, OverOf (ws.map (·.data.toList)) g → l = g) (h2 : ws.length = 2) :
    NextR B ws x r ok w (.returned (.tuple #[])) ((w6.setCell ⟨x, 6, none⟩ (.bool true)).setCell ⟨x, 7, none⟩ v6) := by
  have hlow := h.low
  have hbase := h.base
  have o6s := o6.size
  have H6 := h.has.below o6 h.has.lt
  have H7 : Has _ x #[.string r.name, .string r.text, .int .u64 r.seed, .int .i64 r.start, .int .i64 r.clock, vr, .bool true, vg, .slice none 0 0, .bool ok] 81 := H6.set 6 (.bool true)
  have H8 : Has _ x #[.string r.name, .string r.text, .int .u64 r.seed, .int .i64 r.start, .int .i64 r.clock, vr, .bool true, v6, .slice none 0 0, .bool ok] 81 := H7.set 7 v6
  have hO := ((Only.refl [x] w6).setIn (b := x) (o := 6) (by simp) (.bool true)).setIn (b := x) (o := 7) (by simp) v6
  have own7 := own6.rebase (base' := B) hbase
  refine ⟨rfl, ⟨{ r with ended := true, goals := l }, vr, v6, ok, ⟨H8, (h.rounds.below o6 (Nat.le_refl _)).only hO (by simpa using hlow), own7.agr ⟨hO.size, fun k hk hs => hO.block k hk (by have hs' : B ≤ k := hs; simp; omega)⟩ (fun g e => hO.block g (own7.lt g e).2 (by have := (own7.lt g e).1; simp; omega)), h.excl, hlow, by have := hO.size; omega, h.faults, fun e => by cases e⟩, Nat.le_succ _, fun _ z hz => ?_, fun _ g hg => ⟨rfl, by rw [hc g hg]⟩, rfl, rfl, rfl, fun _ hy => Or.inl hy⟩, ?_⟩
  · exfalso
    have := congrArg List.length hz.1
    simp at this
    omega
  · exact hO.toBelow (o6.mono (Nat.le_of_lt (Nat.lt_of_lt_of_le hlow hbase))) (by simp) (by omega)
theorem twoL {α : Type} {l : List α} (h : l.length = 2) : ∃ a b, l = [a, b] := by
  match l, h with
  | [a, b], _ => exact ⟨a, b, rfl⟩
theorem nextR_round {B x : Nat} {ws : List ByteArray} {w wA w6 w7 : World} {r : Rec} {vr vg v7 : Value} {ok OK : Bool} {c : Obj} {y : Rnd} (hA : RdrAt B x wA r vr vg OK) (hen : r.ended = false) (hb : Below x w wA) (o6 : Below wA.drew.heap.size wA.drew w6) (own7 : OwnM 2 RndC B 45 w7 v7 (r.rounds ++ [y])) (b7 : Below B (w6.alloc c) w7) (hl : y.faults.length ≤ 100001)
    (hc : ∀ z, RoundOf (ws.map (·.data.toList)) z → OK = ok ∧ y = z) (h3 : ws.length = 3) (hsz : ∃ s ∈ ws.map (·.data.toList), y.faults.length ≤ s.length + 1) :
    NextR B ws x r ok w (.returned (.tuple #[])) (w7.setCell ⟨x, 5, none⟩ v7) := by
  have o6' : Below wA.heap.size wA w6 := ((Below.refl wA.heap.size wA).drew).trans o6
  have hlow := hA.low
  have hbase := hA.base
  have o6s := o6'.size
  have b7s := b7.size
  have hal : (w6.alloc c).heap.size = w6.heap.size + 1 := by simp
  have H7 := ((hA.has.below o6' hA.has.lt).alloc c).below b7 hlow
  obtain ⟨hg1, hg2⟩ := hA.quiet hen
  have H8 : Has (w7.setCell ⟨x, 5, none⟩ v7) x #[.string r.name, .string r.text, .int .u64 r.seed, .int .i64 r.start, .int .i64 r.clock, v7, .bool r.ended, vg, .slice none 0 0, .bool OK] 81 := H7.set 5 v7
  refine ⟨rfl, ⟨{ r with rounds := r.rounds ++ [y] }, v7, vg, OK, ⟨H8, own7.only ((Only.refl [x] w7).setIn (b := x) (o := 5) (by simp) v7) (by simpa using hlow), ?_, hA.excl, hlow, ?_, fun z hz => ?_, hA.quiet⟩, by simp, fun _ z hz => ?_, fun _ g hg => ?_, rfl, rfl, rfl, fun z hz => ?_⟩, ?_⟩
  · rw [hg1, hg2]; exact OwnL.nil _ _ _ _
  · simp [World.setCell]; omega
  · rcases List.mem_append.1 hz with hz | hz
    · exact hA.faults z hz
    · simp only [List.mem_singleton] at hz
      subst hz; exact hl
  · obtain ⟨e1, rfl⟩ := hc z hz
    exact ⟨e1, rfl⟩
  · exfalso
    have := congrArg List.length hg.1
    simp at this
    omega
  · rcases List.mem_append.1 hz with hz | hz
    · exact Or.inl hz
    · simp only [List.mem_singleton] at hz
      subst hz; exact Or.inr hsz
  · exact ((hb.trans ((o6'.mono (by omega)).alloc (by omega) c)).trans (b7.mono (by omega))).setCell (p := ⟨x, 5, none⟩) (Nat.le_refl _) v7
set_option maxRecDepth 20000 in
set_option maxHeartbeats 16000000 in
theorem next_any (B x b : Nat) (ws : List ByteArray) (r : Rec) (vr vg : Value) (ok : Bool) (w : World) (h : RdrAt B x w r vr vg ok) (hrl : r.rounds.length ≤ 100000)
    (HW : Has w b (strsV ws) 9) (hsm : ∀ s ∈ ws, s.size ≤ 100000) (hn : ws.length ≤ 1000000) (hT : ∀ w', Below x w w' → Tabs w') (hWd : ∀ w', Below x w w' → Words w') :
    Calls Tryz.prog 46 #[.pointer (some ⟨x, 0, none⟩), .slice (some ⟨b, 0, none⟩) ws.length ws.length] w (NextR B ws x r ok w) := by
  have c9 := h.has.cell (j := 9) rfl
  have z9 := h.has.free 9
  by_cases hen : r.ended = true
  · have c6 : w.cell? ⟨x, 6, none⟩ = some (.bool true) := by rw [← hen]; exact h.has.cell (j := 6) rfl
    have hpost := hid (nextR_bad (ws := ws) h (fun e => by rw [hen] at e; cases e) (fun e => by rw [hen] at e; cases e))
    clear h hen
    go_enter Tryz.func46, Tryz.ntmps46
    go_wp2
    go_end0
    exact hpost.out
  · have hen' : r.ended = false := by simpa using hen
    have c6 : w.cell? ⟨x, 6, none⟩ = some (.bool false) := by rw [← hen']; exact h.has.cell (j := 6) rfl
    clear hen
    by_cases h3 : ws.length = 3
    · obtain ⟨a0, a1, a2, rfl⟩ := threeL h3
      clear h3
      have d0 : w.cell? ⟨b, 0, none⟩ = some (.string a0) := HW.cell (strsV_get _ 0 (by simp))
      by_cases hm : a0.data.toList = [114, 111, 117, 110, 100]
      · have hmb : (a0.toList == [114, 111, 117, 110, 100]) = true := by rw [ByteArray.toList_eq, hm]; rfl
        have q1 := hsm a1 (by simp)
        have q2 := hsm a2 (by simp)
        have d1 : w.cell? ⟨b, 1, none⟩ = some (.string a1) := HW.cell (strsV_get _ 1 (by simp))
        have hlow := h.low
        have hbase := h.base
        have hh := hid h
        have hbl := HW.lt
        have hbx : b ≠ x := fun e => by
          subst e
          have e1 := HW
          unfold Has at e1
          have e2 := h.has
          unfold Has at e2
          rw [e1] at e2
          simp [strsV] at e2
        clear hm hsm hn c9 z9 h
        go_enter Tryz.func46, Tryz.ntmps46
        go_wp2_with fail
        refine (unescape_any a1 _ (by omega)).mono ?_
        rintro e w4 ⟨⟨o, er, rfl, ho, hun⟩, o4⟩
        have hW4 := HW.below o4 HW.lt
        have hB4 : Below x w w4 := o4.mono (by omega)
        have hD4 := hWd w4 hB4
        have hh4 := hid (hh.out.below o4)
        have o4' := hid o4
        have o4s := o4.size
        have hun := hid hun
        clear hh HW hWd o4 d0 d1 c6
        go_wp2_with fail
        refine (pterms_any o _ (by omega) hD4).mono ?_
        rintro e w5 ⟨⟨vj, ts, at5, er2, rfl, hj5, hts⟩, o5⟩
        obtain ⟨aj, cj, rfl⟩ := hj5.shape
        obtain ⟨nj, enj⟩ : ∃ nj, nj = ts.length := ⟨_, rfl⟩
        rw [← enj] at hj5
        rw [← enj]
        clear enj
        have hW5 := hW4.below o5 hW4.lt
        have h5 := hh4.out.below o5
        have hB5 : Below x w w5 := hB4.trans (o5.mono (by omega))
        have o5s := o5.size
        obtain ⟨bj, ebj⟩ : ∃ bj, bj = w4.heap.size := ⟨_, rfl⟩
        rw [← ebj] at hj5
        have hts := hid hts
        obtain ⟨ar, cr, rfl⟩ := h5.rounds.shape
        have hown : ∀ k, (Value.slice ar r.rounds.length cr).ownBlock = some k → k < bj := fun k e => by rw [ebj]; exact (hh4.out.rounds.lt k e).2
        have c9 := h5.has.cell (j := 9) rfl
        have z9 := h5.has.free 9
        have hcan := hid (show ∀ z, RoundOf ([a0, a1, a2].map (·.data.toList)) z → er = 0 ∧ er2 = 0 ∧ ts = z.joint from fun z hz => by
          have h1 := hz.1
          simp only [List.map_cons, List.map_nil, List.cons.injEq, and_true] at h1
          obtain ⟨e1, e2⟩ := hun.out _ h1.2.1
          obtain ⟨e3, e4⟩ := hts.out z.joint hz.2.1 hz.2.2.1 e1
          exact ⟨e2, e4, e3⟩)
        have hcan2 := hid (show ∀ z, RoundOf ([a0, a1, a2].map (·.data.toList)) z → a2.data.toList = listL z.faults [] ∧ ∀ n ∈ z.faults, 0 ≤ n ∧ n ≤ 9 from fun z hz => by
          have h1 := hz.1
          simp only [List.map_cons, List.map_nil, List.cons.injEq, and_true] at h1
          exact ⟨h1.2.2, hz.2.2.2⟩)
        have hcf : ∀ (xv : Array Value) (wx : World), (callFunc 81 xv).run Tryz.prog wx = .ok (.enter 81 xv) wx := fun xv wx => by simp [go_sem]
        have HT := hid hT
        clear hh4 o4' o5 hW4 hD4 hts hun hT hB4
        cases ok
        · have hAx := hid (h5.okset false)
          go_wp2
          obtain ⟨wA, ewA⟩ : ∃ wA, wA = w5.setCell ⟨x, 9, none⟩ (.bool false) := ⟨_, rfl⟩
          rw [← ewA] at hAx
          rw [← ewA]
          have hA := hAx.out
          have hsA : wA.heap.size = w5.heap.size := by rw [ewA]; simp [World.setCell]
          have hWA : Has wA b (strsV [a0, a1, a2]) 9 := by rw [ewA]; exact hW5.other (a := ⟨x, 9, none⟩) hbx (.bool false)
          have hjA : OwnM 2 TmC bj 76 wA (.slice aj nj cj) ts := by rw [ewA]; exact hj5.only ((Only.refl [x] w5).setIn (b := x) (o := 9) (by simp) (.bool false)) (by simp; omega)
          have hBA := hid (show Below x w wA by rw [ewA]; exact hB5.setCell (p := ⟨x, 9, none⟩) (Nat.le_refl _) (.bool false))
          have hTA : Tabs wA := HT.out _ hBA.out
          have f2 : wA.cell? ⟨b, 2, none⟩ = some (.string a2) := hWA.cell (strsV_get _ 2 (by simp))
          have f5 : wA.cell? ⟨x, 5, none⟩ = some (.slice ar r.rounds.length cr) := hA.has.cell (j := 5) rfl
          have hAh := hid hA
          have hlowA := hA.low
          clear hAx h5 hW5 hj5 hB5 ewA
          go_region_law (first
            | (refine step_call_or rfl 81 _ _ rfl hcf #[.string a2, .string ⟨#[]⟩] (by simp [Act.eval]) (nums_parts (numbers_any a2 ⟨#[]⟩ _ _ (by omega) (hTA.below ((Below.refl wA.heap.size wA).drew)) (split_none a2 _ (by omega) (hTA.below ((Below.refl wA.heap.size wA).drew)).utf))) (fun _ _ h => h.elim) ?_
               rintro v6 w6 ⟨l6, own6, hl6, hd6, hQ6, o6⟩
               obtain ⟨a6, c6', rfl, _⟩ := own6.slice
               have o6' : Below wA.heap.size wA w6 := ((Below.refl wA.heap.size wA).drew).trans o6
               have hA6 := hAh.out.has.below o6' hAh.out.has.lt
               have g5 : w6.cell? ⟨x, 5, none⟩ = some (.slice ar r.rounds.length cr) := hA6.cell (j := 5) rfl
               have o6s : wA.heap.size ≤ w6.heap.size := o6'.size
               have ownR := (hAh.out.rounds.below o6' (Nat.le_refl _)).alloc (.cells #[.slice aj nj cj, .slice a6 l6.length c6'] 45)
               have hR6 := ((rests_round (hjA.below o6' (Nat.le_refl _)) (own6.rebase (base' := bj) (by show bj ≤ wA.heap.size; omega))).weak (S' := fun k => B ≤ k ∧ (Value.slice ar r.rounds.length cr).ownBlock ≠ some k) (fun k _ hk => ⟨by have hk' : bj ≤ k := hk; omega, fun e => by have := hown k e; have hk' : bj ≤ k := hk; omega⟩)).below ((Below.refl w6.heap.size w6).alloc (Nat.le_refl _) (.cells #[.slice aj nj cj, .slice a6 l6.length c6'] 45)) (Nat.le_refl _)
               have g5b : (w6.alloc (.cells #[.slice aj nj cj, .slice a6 l6.length c6'] 45)).cell? ⟨x, 5, none⟩ = some (.slice ar r.rounds.length cr) := (hA6.alloc _).cell (j := 5) rfl)
            | (refine step_append_run rfl (.tmp 64) (.tmp 71) 23 rfl (.slice ar r.rounds.length cr) (.slice (some ⟨w6.heap.size, 0, none⟩) 1 1) (by rfl) (by rfl) (round_append (own := ownR) (Hg := Has.new w6 _ _) rfl rfl hR6 (by omega) (by simp; omega)) ?_
               rintro v7 w7 ⟨own7, b7, hA7, hat7⟩
               obtain ⟨a7, c7, rfl⟩ := own7.shape
               have H7 : Has w7 x _ _ := (hA6.alloc (.cells #[.slice aj nj cj, .slice a6 l6.length c6'] 45)).below b7 hlowA
               have g7 : w7.cell? ⟨x, 5, none⟩ = some (.slice ar r.rounds.length cr) := H7.cell (j := 5) rfl
               have z7 := H7.free 5))
          all_goals
            have hown7 := own7
            simp only [List.length_append, List.length_cons, List.length_nil, Nat.zero_add] at hown7
            have hfin := hid (nextR_round (ws := [a0, a1, a2]) (ok := false) hAh.out hen' hBA.out o6 hown7 b7 (by show l6.length ≤ 100001; omega) (fun z hz => by
              obtain ⟨_, _, e3⟩ := hcan.out z hz
              obtain ⟨e4, e5⟩ := hcan2.out z hz
              have e6 := nums_chars e5 e4 hd6 hQ6
              exact ⟨rfl, by obtain ⟨zj, zf⟩ := z; simp only at e3 e6; rw [e3, e6]⟩) rfl ⟨a2.data.toList, by simp, by rw [show a2.data.toList.length = a2.size from Array.length_toList]; exact hl6⟩)
            clear own7 hown7 b7 hA7 hat7 own6 o6 hA6 hA hAh ownR hR6 hd6 hQ6 hl6
            go_wp2
            go_end0
            exact hfin.out
        · by_cases her : er = 0
          · subst her
            by_cases her2 : er2 = 0
            · subst her2
              have hAx := hid (h5.okset true)
              go_wp2
              obtain ⟨wA, ewA⟩ : ∃ wA, wA = w5.setCell ⟨x, 9, none⟩ (.bool true) := ⟨_, rfl⟩
              rw [← ewA] at hAx
              rw [← ewA]
              have hA := hAx.out
              have hsA : wA.heap.size = w5.heap.size := by rw [ewA]; simp [World.setCell]
              have hWA : Has wA b (strsV [a0, a1, a2]) 9 := by rw [ewA]; exact hW5.other (a := ⟨x, 9, none⟩) hbx (.bool true)
              have hjA : OwnM 2 TmC bj 76 wA (.slice aj nj cj) ts := by rw [ewA]; exact hj5.only ((Only.refl [x] w5).setIn (b := x) (o := 9) (by simp) (.bool true)) (by simp; omega)
              have hBA := hid (show Below x w wA by rw [ewA]; exact hB5.setCell (p := ⟨x, 9, none⟩) (Nat.le_refl _) (.bool true))
              have hTA : Tabs wA := HT.out _ hBA.out
              have f2 : wA.cell? ⟨b, 2, none⟩ = some (.string a2) := hWA.cell (strsV_get _ 2 (by simp))
              have f5 : wA.cell? ⟨x, 5, none⟩ = some (.slice ar r.rounds.length cr) := hA.has.cell (j := 5) rfl
              have hAh := hid hA
              have hlowA := hA.low
              clear hAx h5 hW5 hj5 hB5 ewA
              go_region_law (first
                | (refine step_call_or rfl 81 _ _ rfl hcf #[.string a2, .string ⟨#[]⟩] (by simp [Act.eval]) (nums_parts (numbers_any a2 ⟨#[]⟩ _ _ (by omega) (hTA.below ((Below.refl wA.heap.size wA).drew)) (split_none a2 _ (by omega) (hTA.below ((Below.refl wA.heap.size wA).drew)).utf))) (fun _ _ h => h.elim) ?_
                   rintro v6 w6 ⟨l6, own6, hl6, hd6, hQ6, o6⟩
                   obtain ⟨a6, c6', rfl, _⟩ := own6.slice
                   have o6' : Below wA.heap.size wA w6 := ((Below.refl wA.heap.size wA).drew).trans o6
                   have hA6 := hAh.out.has.below o6' hAh.out.has.lt
                   have g5 : w6.cell? ⟨x, 5, none⟩ = some (.slice ar r.rounds.length cr) := hA6.cell (j := 5) rfl
                   have o6s : wA.heap.size ≤ w6.heap.size := o6'.size
                   have ownR := (hAh.out.rounds.below o6' (Nat.le_refl _)).alloc (.cells #[.slice aj nj cj, .slice a6 l6.length c6'] 45)
                   have hR6 := ((rests_round (hjA.below o6' (Nat.le_refl _)) (own6.rebase (base' := bj) (by show bj ≤ wA.heap.size; omega))).weak (S' := fun k => B ≤ k ∧ (Value.slice ar r.rounds.length cr).ownBlock ≠ some k) (fun k _ hk => ⟨by have hk' : bj ≤ k := hk; omega, fun e => by have := hown k e; have hk' : bj ≤ k := hk; omega⟩)).below ((Below.refl w6.heap.size w6).alloc (Nat.le_refl _) (.cells #[.slice aj nj cj, .slice a6 l6.length c6'] 45)) (Nat.le_refl _)
                   have g5b : (w6.alloc (.cells #[.slice aj nj cj, .slice a6 l6.length c6'] 45)).cell? ⟨x, 5, none⟩ = some (.slice ar r.rounds.length cr) := (hA6.alloc _).cell (j := 5) rfl)
                | (refine step_append_run rfl (.tmp 64) (.tmp 71) 23 rfl (.slice ar r.rounds.length cr) (.slice (some ⟨w6.heap.size, 0, none⟩) 1 1) (by rfl) (by rfl) (round_append (own := ownR) (Hg := Has.new w6 _ _) rfl rfl hR6 (by omega) (by simp; omega)) ?_
                   rintro v7 w7 ⟨own7, b7, hA7, hat7⟩
                   obtain ⟨a7, c7, rfl⟩ := own7.shape
                   have H7 : Has w7 x _ _ := (hA6.alloc (.cells #[.slice aj nj cj, .slice a6 l6.length c6'] 45)).below b7 hlowA
                   have g7 : w7.cell? ⟨x, 5, none⟩ = some (.slice ar r.rounds.length cr) := H7.cell (j := 5) rfl
                   have z7 := H7.free 5))
              all_goals
                have hown7 := own7
                simp only [List.length_append, List.length_cons, List.length_nil, Nat.zero_add] at hown7
                have hfin := hid (nextR_round (ws := [a0, a1, a2]) (ok := true) hAh.out hen' hBA.out o6 hown7 b7 (by show l6.length ≤ 100001; omega) (fun z hz => by
                  obtain ⟨_, _, e3⟩ := hcan.out z hz
                  obtain ⟨e4, e5⟩ := hcan2.out z hz
                  have e6 := nums_chars e5 e4 hd6 hQ6
                  exact ⟨rfl, by obtain ⟨zj, zf⟩ := z; simp only at e3 e6; rw [e3, e6]⟩) rfl ⟨a2.data.toList, by simp, by rw [show a2.data.toList.length = a2.size from Array.length_toList]; exact hl6⟩)
                clear own7 hown7 b7 hA7 hat7 own6 o6 hA6 hA hAh ownR hR6 hd6 hQ6 hl6
                go_wp2
                go_end0
                exact hfin.out
            · have herb : (er2 == 0) = false := by rw [beq_eq_false_iff_ne]; exact her2
              have hne := hid her2
              clear her2
              have hAx := hid (h5.okset false)
              go_wp2
              obtain ⟨wA, ewA⟩ : ∃ wA, wA = w5.setCell ⟨x, 9, none⟩ (.bool false) := ⟨_, rfl⟩
              rw [← ewA] at hAx
              rw [← ewA]
              have hA := hAx.out
              have hsA : wA.heap.size = w5.heap.size := by rw [ewA]; simp [World.setCell]
              have hWA : Has wA b (strsV [a0, a1, a2]) 9 := by rw [ewA]; exact hW5.other (a := ⟨x, 9, none⟩) hbx (.bool false)
              have hjA : OwnM 2 TmC bj 76 wA (.slice aj nj cj) ts := by rw [ewA]; exact hj5.only ((Only.refl [x] w5).setIn (b := x) (o := 9) (by simp) (.bool false)) (by simp; omega)
              have hBA := hid (show Below x w wA by rw [ewA]; exact hB5.setCell (p := ⟨x, 9, none⟩) (Nat.le_refl _) (.bool false))
              have hTA : Tabs wA := HT.out _ hBA.out
              have f2 : wA.cell? ⟨b, 2, none⟩ = some (.string a2) := hWA.cell (strsV_get _ 2 (by simp))
              have f5 : wA.cell? ⟨x, 5, none⟩ = some (.slice ar r.rounds.length cr) := hA.has.cell (j := 5) rfl
              have hAh := hid hA
              have hlowA := hA.low
              clear hAx h5 hW5 hj5 hB5 ewA
              go_region_law (first
                | (refine step_call_or rfl 81 _ _ rfl hcf #[.string a2, .string ⟨#[]⟩] (by simp [Act.eval]) (nums_parts (numbers_any a2 ⟨#[]⟩ _ _ (by omega) (hTA.below ((Below.refl wA.heap.size wA).drew)) (split_none a2 _ (by omega) (hTA.below ((Below.refl wA.heap.size wA).drew)).utf))) (fun _ _ h => h.elim) ?_
                   rintro v6 w6 ⟨l6, own6, hl6, hd6, hQ6, o6⟩
                   obtain ⟨a6, c6', rfl, _⟩ := own6.slice
                   have o6' : Below wA.heap.size wA w6 := ((Below.refl wA.heap.size wA).drew).trans o6
                   have hA6 := hAh.out.has.below o6' hAh.out.has.lt
                   have g5 : w6.cell? ⟨x, 5, none⟩ = some (.slice ar r.rounds.length cr) := hA6.cell (j := 5) rfl
                   have o6s : wA.heap.size ≤ w6.heap.size := o6'.size
                   have ownR := (hAh.out.rounds.below o6' (Nat.le_refl _)).alloc (.cells #[.slice aj nj cj, .slice a6 l6.length c6'] 45)
                   have hR6 := ((rests_round (hjA.below o6' (Nat.le_refl _)) (own6.rebase (base' := bj) (by show bj ≤ wA.heap.size; omega))).weak (S' := fun k => B ≤ k ∧ (Value.slice ar r.rounds.length cr).ownBlock ≠ some k) (fun k _ hk => ⟨by have hk' : bj ≤ k := hk; omega, fun e => by have := hown k e; have hk' : bj ≤ k := hk; omega⟩)).below ((Below.refl w6.heap.size w6).alloc (Nat.le_refl _) (.cells #[.slice aj nj cj, .slice a6 l6.length c6'] 45)) (Nat.le_refl _)
                   have g5b : (w6.alloc (.cells #[.slice aj nj cj, .slice a6 l6.length c6'] 45)).cell? ⟨x, 5, none⟩ = some (.slice ar r.rounds.length cr) := (hA6.alloc _).cell (j := 5) rfl)
                | (refine step_append_run rfl (.tmp 64) (.tmp 71) 23 rfl (.slice ar r.rounds.length cr) (.slice (some ⟨w6.heap.size, 0, none⟩) 1 1) (by rfl) (by rfl) (round_append (own := ownR) (Hg := Has.new w6 _ _) rfl rfl hR6 (by omega) (by simp; omega)) ?_
                   rintro v7 w7 ⟨own7, b7, hA7, hat7⟩
                   obtain ⟨a7, c7, rfl⟩ := own7.shape
                   have H7 : Has w7 x _ _ := (hA6.alloc (.cells #[.slice aj nj cj, .slice a6 l6.length c6'] 45)).below b7 hlowA
                   have g7 : w7.cell? ⟨x, 5, none⟩ = some (.slice ar r.rounds.length cr) := H7.cell (j := 5) rfl
                   have z7 := H7.free 5))
              all_goals
                have hown7 := own7
                simp only [List.length_append, List.length_cons, List.length_nil, Nat.zero_add] at hown7
                have hfin := hid (nextR_round (ws := [a0, a1, a2]) (ok := true) hAh.out hen' hBA.out o6 hown7 b7 (by show l6.length ≤ 100001; omega) (fun z hz => by
                  exact absurd (hcan.out z hz).2.1 hne.out) rfl ⟨a2.data.toList, by simp, by rw [show a2.data.toList.length = a2.size from Array.length_toList]; exact hl6⟩)
                clear own7 hown7 b7 hA7 hat7 own6 o6 hA6 hA hAh ownR hR6 hd6 hQ6 hl6
                go_wp2
                go_end0
                exact hfin.out
          · have herb : (er == 0) = false := by rw [beq_eq_false_iff_ne]; exact her
            have hne := hid her
            clear her
            have hAx := hid (h5.okset false)
            go_wp2
            obtain ⟨wA, ewA⟩ : ∃ wA, wA = w5.setCell ⟨x, 9, none⟩ (.bool false) := ⟨_, rfl⟩
            rw [← ewA] at hAx
            rw [← ewA]
            have hA := hAx.out
            have hsA : wA.heap.size = w5.heap.size := by rw [ewA]; simp [World.setCell]
            have hWA : Has wA b (strsV [a0, a1, a2]) 9 := by rw [ewA]; exact hW5.other (a := ⟨x, 9, none⟩) hbx (.bool false)
            have hjA : OwnM 2 TmC bj 76 wA (.slice aj nj cj) ts := by rw [ewA]; exact hj5.only ((Only.refl [x] w5).setIn (b := x) (o := 9) (by simp) (.bool false)) (by simp; omega)
            have hBA := hid (show Below x w wA by rw [ewA]; exact hB5.setCell (p := ⟨x, 9, none⟩) (Nat.le_refl _) (.bool false))
            have hTA : Tabs wA := HT.out _ hBA.out
            have f2 : wA.cell? ⟨b, 2, none⟩ = some (.string a2) := hWA.cell (strsV_get _ 2 (by simp))
            have f5 : wA.cell? ⟨x, 5, none⟩ = some (.slice ar r.rounds.length cr) := hA.has.cell (j := 5) rfl
            have hAh := hid hA
            have hlowA := hA.low
            clear hAx h5 hW5 hj5 hB5 ewA
            go_region_law (first
              | (refine step_call_or rfl 81 _ _ rfl hcf #[.string a2, .string ⟨#[]⟩] (by simp [Act.eval]) (nums_parts (numbers_any a2 ⟨#[]⟩ _ _ (by omega) (hTA.below ((Below.refl wA.heap.size wA).drew)) (split_none a2 _ (by omega) (hTA.below ((Below.refl wA.heap.size wA).drew)).utf))) (fun _ _ h => h.elim) ?_
                 rintro v6 w6 ⟨l6, own6, hl6, hd6, hQ6, o6⟩
                 obtain ⟨a6, c6', rfl, _⟩ := own6.slice
                 have o6' : Below wA.heap.size wA w6 := ((Below.refl wA.heap.size wA).drew).trans o6
                 have hA6 := hAh.out.has.below o6' hAh.out.has.lt
                 have g5 : w6.cell? ⟨x, 5, none⟩ = some (.slice ar r.rounds.length cr) := hA6.cell (j := 5) rfl
                 have o6s : wA.heap.size ≤ w6.heap.size := o6'.size
                 have ownR := (hAh.out.rounds.below o6' (Nat.le_refl _)).alloc (.cells #[.slice aj nj cj, .slice a6 l6.length c6'] 45)
                 have hR6 := ((rests_round (hjA.below o6' (Nat.le_refl _)) (own6.rebase (base' := bj) (by show bj ≤ wA.heap.size; omega))).weak (S' := fun k => B ≤ k ∧ (Value.slice ar r.rounds.length cr).ownBlock ≠ some k) (fun k _ hk => ⟨by have hk' : bj ≤ k := hk; omega, fun e => by have := hown k e; have hk' : bj ≤ k := hk; omega⟩)).below ((Below.refl w6.heap.size w6).alloc (Nat.le_refl _) (.cells #[.slice aj nj cj, .slice a6 l6.length c6'] 45)) (Nat.le_refl _)
                 have g5b : (w6.alloc (.cells #[.slice aj nj cj, .slice a6 l6.length c6'] 45)).cell? ⟨x, 5, none⟩ = some (.slice ar r.rounds.length cr) := (hA6.alloc _).cell (j := 5) rfl)
              | (refine step_append_run rfl (.tmp 64) (.tmp 71) 23 rfl (.slice ar r.rounds.length cr) (.slice (some ⟨w6.heap.size, 0, none⟩) 1 1) (by rfl) (by rfl) (round_append (own := ownR) (Hg := Has.new w6 _ _) rfl rfl hR6 (by omega) (by simp; omega)) ?_
                 rintro v7 w7 ⟨own7, b7, hA7, hat7⟩
                 obtain ⟨a7, c7, rfl⟩ := own7.shape
                 have H7 : Has w7 x _ _ := (hA6.alloc (.cells #[.slice aj nj cj, .slice a6 l6.length c6'] 45)).below b7 hlowA
                 have g7 : w7.cell? ⟨x, 5, none⟩ = some (.slice ar r.rounds.length cr) := H7.cell (j := 5) rfl
                 have z7 := H7.free 5))
            all_goals
              have hown7 := own7
              simp only [List.length_append, List.length_cons, List.length_nil, Nat.zero_add] at hown7
              have hfin := hid (nextR_round (ws := [a0, a1, a2]) (ok := true) hAh.out hen' hBA.out o6 hown7 b7 (by show l6.length ≤ 100001; omega) (fun z hz => by
                exact absurd (hcan.out z hz).1 hne.out) rfl ⟨a2.data.toList, by simp, by rw [show a2.data.toList.length = a2.size from Array.length_toList]; exact hl6⟩)
              clear own7 hown7 b7 hA7 hat7 own6 o6 hA6 hA hAh ownR hR6 hd6 hQ6 hl6
              go_wp2
              go_end0
              exact hfin.out
      · have hmb : (a0.toList == [114, 111, 117, 110, 100]) = false := by rw [ByteArray.toList_eq, beq_eq_false_iff_ne]; exact hm
        have hpost := hid (nextR_bad (ws := [a0, a1, a2]) h (fun _ y hy => hm (by have := hy.1; simp only [List.map_cons, List.cons.injEq] at this; exact this.1)) (fun _ g hg => by have := congrArg List.length hg.1; simp at this))
        clear h hm
        go_enter Tryz.func46, Tryz.ntmps46
        go_wp2
        go_end0
        exact hpost.out
    · by_cases h2 : ws.length = 2
      · obtain ⟨a0, a1, rfl⟩ := twoL h2
        clear h2 h3
        have d0 : w.cell? ⟨b, 0, none⟩ = some (.string a0) := HW.cell (strsV_get _ 0 (by simp))
        by_cases hm : a0.data.toList = [111, 118, 101, 114]
        · have hmb : (a0.toList == [111, 118, 101, 114]) = true := by rw [ByteArray.toList_eq, hm]; rfl
          have q1 := hsm a1 (by simp)
          have d1 : w.cell? ⟨b, 1, none⟩ = some (.string a1) := HW.cell (strsV_get _ 1 (by simp))
          have hh := hid h
          have hT0 := hT w (Below.refl _ _)
          obtain ⟨m, hmx⟩ := hT0.max
          clear hm hsm hn c9 z9 h hWd hT
          go_enter Tryz.func46, Tryz.ntmps46
          go_wp2_with fail
          refine (numbers_any a1 ⟨#[44]⟩ _ _ (by omega) hT0 (split_byte 44 a1 _ m (by omega) hmx)).mono ?_
          rintro e w6 ⟨⟨v6, l6, rfl, own6, hl6, hd6, hQ6⟩, o6⟩
          obtain ⟨a6, c6', rfl, _⟩ := own6.slice
          have H6 := hh.out.has.below o6 hh.out.has.lt
          have y6 : w6.cell? ⟨x, 6, none⟩ = some (.bool r.ended) := H6.cell (j := 6) rfl
          have y7 : w6.cell? ⟨x, 7, none⟩ = some vg := H6.cell (j := 7) rfl
          have z6 := H6.free 6
          have z7 := H6.free 7
          have hfin := hid (nextR_over (ws := [a0, a1]) hh.out o6 own6 (fun g hg => by
            have h1 := hg.1
            simp only [List.map_cons, List.map_nil, List.cons.injEq, and_true] at h1
            exact nums_commas (fun n hn => ⟨(hg.2 n hn).1, by have := (hg.2 n hn).2; omega⟩) h1.2 hd6 hQ6) rfl)
          clear own6 hQ6 hd6 hl6 H6 o6 hh
          go_wp2
          go_end0
          exact hfin.out
        · have hmb : (a0.toList == [111, 118, 101, 114]) = false := by rw [ByteArray.toList_eq, beq_eq_false_iff_ne]; exact hm
          have hpost := hid (nextR_bad (ws := [a0, a1]) h (fun _ y hy => by have := congrArg List.length hy.1; simp at this) (fun _ g hg => hm (by have := hg.1; simp only [List.map_cons, List.cons.injEq] at this; exact this.1)))
          clear h hm
          go_enter Tryz.func46, Tryz.ntmps46
          go_wp2
          go_end0
          exact hpost.out
      · have h3b : ((ws.length : Int) == 3) = false := by rw [beq_eq_false_iff_ne]; omega
        have h2b : ((ws.length : Int) == 2) = false := by rw [beq_eq_false_iff_ne]; omega
        have hpost := hid (nextR_bad (ws := ws) h (fun _ y hy => h3 (by have := congrArg List.length hy.1; simpa using this)) (fun _ g hg => h2 (by have := congrArg List.length hg.1; simpa using this)))
        clear h h3 h2
        go_enter Tryz.func46, Tryz.ntmps46
        go_wp2
        go_end0
        exact hpost.out
end Go.Proofs.YtahbhhenobehfaaGreatDoor
