/-
  The walk of the reference's Recover.
-/
import Derived.Test.YtahbhhenobehfaaGreatDoorNU25
import Derived.Test.YtahbhhenobehfaaGreatDoorM42
import Derived.Test.YtahbhhenobehfaaGreatDoorNU28
import Derived.Test.YtahbhhenobehfaaGreatDoorNT18
import Derived.BigRegion
import Derived.Deep.DrawnRows
namespace Go.Proofs.YtahbhhenobehfaaGreatDoor
attribute [local go_sem ↓] Go.wp_at_zero Go.wp_at_succ
open Go.ChangeShapes Go.WideShapes Go.ChangeAt Go.RowKit

/-- The reference's record in block x, and what it has read. -/
structure RcAt (B x : Nat) (w : World) (r : Rec) (vr vg : Value) : Prop where
  has : Has w x #[.string r.name, .string r.text, .int .u64 r.seed, .int .i64 r.start, .int .i64 r.clock, vr, .bool r.ended, vg, .slice none 0 0] 27
  rounds : OwnM 2 RndC B 45 w vr r.rounds
  goals : OwnL IntC B 3 w vg r.goals
  excl : r.excl = []
  low : x < B
  base : B ≤ w.heap.size
  apart : ∀ k, vr.ownBlock = some k → vg.ownBlock ≠ some k
theorem RcAt.below {B x : Nat} {w w' : World} {r : Rec} {vr vg : Value} (h : RcAt B x w r vr vg) (hb : Below w.heap.size w w') : RcAt B x w' r vr vg :=
  ⟨h.has.below hb h.has.lt, h.rounds.below hb (Nat.le_refl _), h.goals.below hb (Nat.le_refl _), h.excl, h.low, Nat.le_trans h.base hb.size, h.apart⟩
theorem OwnL.moveInt {base : Nat} {E : TypeId} {w w' : World} {v : Value} {l : List Int} (h : OwnL IntC base E w v l) (hos : ∀ g, v.ownBlock = some g → w'.heap[g]? = w.heap[g]?) : OwnL IntC base E w' v l := by
  obtain ⟨xs, h1, h2⟩ := h
  refine ⟨xs, ?_, fun i hi => ?_⟩
  · refine ⟨h1.1, ?_⟩
    rcases h1.2 with h3 | ⟨g, cap, cur, rfl, hg, hh, r⟩
    · exact .inl h3
    · exact .inr ⟨g, cap, cur, rfl, hg, (hos g rfl).trans hh, r⟩
  · obtain ⟨u, e, hr⟩ := h2 i hi
    exact ⟨u, e, fun _ _ => hr.now⟩
/-- What the loop of the reference's Recover keeps. -/
def RefInv (l : List (List UInt8)) (B x : Nat) (wx : World) (q : Nat) (wr : World) (rr : Rec) (vr vg : Value) : Prop :=
  RcAt B x wr rr vr vg ∧ (q = 0 → rr = zeroR ∧ vr = .slice none 0 0 ∧ vg = .slice none 0 0) ∧ (0 < q → ReadInv l (q - 1) rr true) ∧ rr.rounds.length ≤ q ∧ (∀ y ∈ rr.rounds, ∃ p ∈ l, y.faults.length ≤ p.length + 1) ∧ Below x wx wr ∧ rr.name.size ≤ 100000 ∧ rr.text.size ≤ 100000 ∧ 0 ≤ rr.seed ∧ rr.seed ≤ 18446744073709551615
theorem refInv_start {l : List (List UInt8)} {x : Nat} {w : World} (h : Has w x #[.string ⟨#[]⟩, .string ⟨#[]⟩, .int .u64 0, .int .i64 0, .int .i64 0, .slice none 0 0, .bool false, .slice none 0 0, .slice none 0 0] 27) (hs : x + 1 ≤ w.heap.size) : RefInv l (x + 1) x w 0 w zeroR (.slice none 0 0) (.slice none 0 0) :=
  ⟨⟨h, OwnM.nil _ _ _ _ _, OwnL.nil _ _ _ _, rfl, by omega, hs, fun k e => by cases e⟩, fun _ => ⟨rfl, rfl, rfl⟩, fun h => absurd h (by omega), Nat.zero_le _, (fun _ hy => nomatch hy), Below.refl _ _, by decide, by decide, by decide, by decide⟩
theorem RefInv.step {l : List (List UInt8)} {B x q : Nat} {wx wr w' : World} {rr rr' : Rec} {vr vg vr' vg' : Value} {ws : List (List UInt8)} {p : List UInt8} (h : RefInv l B x wx q wr rr vr vg) (hq : 0 < q) (hp : l[q]? = some p) (hw : ws = wordsL 32 p) (hz : ∀ s ∈ ws, s.length ≤ p.length)
    (hn : NextSays ws rr true rr' true) (hR : RcAt B x w' rr' vr' vg') (hb : Below x wx w') : RefInv l B x wx (q + 1) w' rr' vr' vg' := by
  obtain ⟨_, _, i3, i4, i5, _, i7, i8, i9, i10⟩ := h
  have hn' := hn
  obtain ⟨n1, _, _, n4, n5, n6, n7⟩ := hn
  refine ⟨hR, fun e => by omega, fun _ => ?_, by omega, fun y hy => ?_, hb, by rw [n4]; exact i7, by rw [n5]; exact i8, by rw [n6]; exact i9, by rw [n6]; exact i10⟩
  · have h1 := (i3 hq).next (p := p) (by rw [Nat.sub_add_cancel hq]; exact hp) hw hn'
    rw [Nat.sub_add_cancel hq] at h1
    rw [Nat.add_sub_cancel]; exact h1
  · rcases n7 y hy with hy | ⟨z, hz', hyz⟩
    · exact i5 y hy
    · refine ⟨p, List.mem_of_getElem? hp, ?_⟩
      have := hz z hz'
      omega
theorem RefInv.head {l : List (List UInt8)} {B x : Nat} {wx w' : World} {nm tx : ByteArray} {sd st ck : Int} {vr vg : Value} {ws : List (List UInt8)} {p : List UInt8} (hp : l[0]? = some p) (hw : ws = wordsL 32 p)
    (hh : ∀ r, HeadOf ws r → nm = r.name ∧ tx = r.text ∧ sd = r.seed ∧ st = r.start ∧ ck = r.clock) (hnm : nm.size ≤ 100000) (htx : tx.size ≤ 100000) (hsd : 0 ≤ sd ∧ sd ≤ 18446744073709551615)
    (hR : RcAt B x w' ⟨nm, tx, sd, st, ck, [], false, [], []⟩ vr vg) (hb : Below x wx w') : RefInv l B x wx 1 w' ⟨nm, tx, sd, st, ck, [], false, [], []⟩ vr vg := by
  have e : (ws.map fun y => (⟨y.toArray⟩ : ByteArray)).map (·.data.toList) = ws := by
    rw [List.map_map]
    exact (List.map_congr_left fun y _ => by simp).trans (List.map_id _)
  exact ⟨hR, fun e => by omega, fun _ => ReadInv.first (ws := ws.map fun y => (⟨y.toArray⟩ : ByteArray)) hp (by rw [e]; exact hw) (fun r hr => ⟨rfl, hh r (by rw [e] at hr; exact hr)⟩), Nat.zero_le _, (fun _ hy => nomatch hy), hb, hnm, htx, hsd.1, hsd.2⟩
theorem next_none {ws : List (List UInt8)} {r : Rec} (h2 : ws.length ≠ 2) (h3 : ws.length ≠ 3) : NextSays ws r true r true :=
  ⟨Nat.le_succ _, fun _ y hy => absurd (congrArg List.length hy.1) (by simpa using h3), fun _ g hg => absurd (congrArg List.length hg.1) (by simpa using h2), rfl, rfl, rfl, fun _ hy => Or.inl hy⟩
theorem rcAt_round {B x : Nat} {w6 w7 w8 : World} {c : Obj} {rr : Rec} {vr vg v8 : Value} {y : Rnd} (h : RcAt B x w6 rr vr vg) (o7 : Below w6.heap.size w6 w7) (own8 : OwnM 2 RndC B 45 w8 v8 (rr.rounds ++ [y])) (b8 : Below B (w7.alloc c) w8)
    (hA : Agr (fun k => vr.ownBlock ≠ some k) (w7.alloc c) w8) (hat : ∀ g, v8.ownBlock = some g → vr.ownBlock = some g ∨ (w7.alloc c).heap.size ≤ g) :
    RcAt B x (w8.setCell ⟨x, 5, none⟩ v8) { rr with rounds := rr.rounds ++ [y] } v8 vg := by
  have o7s := o7.size
  have b8s := b8.size
  have hal : (w7.alloc c).heap.size = w7.heap.size + 1 := by simp
  have hlow := h.low
  have hbase := h.base
  have hS := (Only.refl [x] w8).setIn (b := x) (o := 5) (by simp) v8
  refine ⟨(((h.has.below o7 h.has.lt).alloc c).below b8 hlow).set 5 v8, own8.only hS (by simpa using hlow), ?_, h.excl, hlow, by simp [World.setCell]; omega, fun k e e2 => ?_⟩
  · have g1 := (h.goals.below o7 (Nat.le_refl _)).alloc c
    exact (g1.moveInt (w' := w8) (fun g e => hA.block g (g1.lt g e).2 (fun e3 => h.apart g e3 e))).only hS (by simpa using hlow)
  · rcases hat k e with h1 | h1
    · exact h.apart k h1 e2
    · have := (h.goals.lt k e2).2
      omega
theorem rcAt_over {B x : Nat} {w6 w7 : World} {rr : Rec} {vr vg v7 : Value} {gs : List Int} (h : RcAt B x w6 rr vr vg) (o7 : Below (w6.setCell ⟨x, 6, none⟩ (.bool true)).heap.size (w6.setCell ⟨x, 6, none⟩ (.bool true)) w7) (own7 : OwnL IntC (w6.setCell ⟨x, 6, none⟩ (.bool true)).heap.size 3 w7 v7 gs) :
    RcAt B x (w7.setCell ⟨x, 7, none⟩ v7) { rr with ended := true, goals := gs } vr v7 := by
  have hlow := h.low
  have hbase := h.base
  have o7s := o7.size
  have hsz : (w6.setCell ⟨x, 6, none⟩ (.bool true)).heap.size = w6.heap.size := by simp [World.setCell]
  have hS6 := (Only.refl [x] w6).setIn (b := x) (o := 6) (by simp) (.bool true)
  have hS := (Only.refl [x] w7).setIn (b := x) (o := 7) (by simp) v7
  have H6 : Has (w6.setCell ⟨x, 6, none⟩ (.bool true)) x #[.string rr.name, .string rr.text, .int .u64 rr.seed, .int .i64 rr.start, .int .i64 rr.clock, vr, .bool true, vg, .slice none 0 0] 27 := h.has.set 6 (.bool true)
  refine ⟨(H6.below o7 (by rw [hsz]; exact h.has.lt)).set 7 v7, ((h.rounds.only hS6 (by simpa using hlow)).below o7 (Nat.le_refl _)).only hS (by simpa using hlow), (own7.rebase (by rw [hsz]; exact hbase)).only hS (by simpa using hlow), h.excl, hlow, by simp [World.setCell]; omega, fun k e e2 => ?_⟩
  have h1 := (h.rounds.lt k e).2
  have h2 := (own7.lt k e2).1
  omega
theorem rcAt_nine {B x : Nat} {w6 : World} {rr : Rec} {nm tx : ByteArray} {sd st ck : Int} (h : RcAt B x w6 rr (.slice none 0 0) (.slice none 0 0)) : RcAt B x (nine w6 x (.string nm) (.string tx) (.int .u64 sd) (.int .i64 st) (.int .i64 ck) (.slice none 0 0) (.bool false) (.slice none 0 0) (.slice none 0 0)) ⟨nm, tx, sd, st, ck, [], false, [], []⟩ (.slice none 0 0) (.slice none 0 0) :=
  ⟨Has.nine h.has _ _ _ _ _ _ _ _ _, OwnM.nil _ _ _ _ _, OwnL.nil _ _ _ _, rfl, h.low, Nat.le_trans h.base (nine_only w6 x _ _ _ _ _ _ _ _ _).size, fun k e => by cases e⟩
theorem rround_parts {ws : List (List UInt8)} {w : World} {f : FuncId} {args : Array Value} (h : Calls Tryz.prog f args w (RRoundSaid ws w)) :
    Calls Tryz.prog f args w fun e w' => (∃ v, e = .returned v ∧ ∃ aj nj cj af nf cf y, v = .agg #[.slice aj nj cj, .slice af nf cf] ∧ OwnM 2 TmC w.heap.size 76 w' (.slice aj nj cj) y.joint ∧ OwnL IntC w.heap.size 3 w' (.slice af nf cf) y.faults ∧ (∀ x, RoundOf ws x → y = x) ∧ y.faults.length ≤ (ws.getD 2 []).length ∧ Below w.heap.size w w') ∨ (∃ c, e = .panicked c ∧ False) := by
  refine h.mono ?_
  rintro e w' ⟨vj, vf, y, rfl, h1, h2, h3⟩
  obtain ⟨aj, cj, rfl⟩ := h1.shape
  obtain ⟨af, cf, rfl, _⟩ := h2.slice
  exact Or.inl ⟨_, rfl, _, _, _, _, _, _, y, rfl, h1, h2, h3⟩
theorem digitsD (s : ByteArray) (D : Int) (w : World) (hs : s.size ≤ 1000000) (hD : Hid (digZ s.data.toList % 18446744073709551616 = D)) : Calls Tryz.prog 51 #[.string s] w fun e w' => e = .returned (.int .u64 D) ∧ w = w' := by
  refine (digits_any s w hs).mono ?_
  rintro e w' ⟨rfl, rfl⟩
  exact ⟨by rw [hD.out], rfl⟩
set_option maxRecDepth 20000 in
set_option maxHeartbeats 16000000 in
theorem rrecover_any (k : Nat) (Bs : List UInt8) (F : Int) (l : List (List UInt8)) (w : World) (hK : KAt w k Bs F) (hB : Bs.length ≤ 4000000) (hl : (scanL Bs).1 = l) (hs : ShortL l) :
    Calls Tryz.prog 22 #[.pointer (some ⟨k, 0, none⟩)] w (RecovSaid l w) := by
  have HB := hid hB
  have HS := hid hs
  have b0 : Below w.heap.size w (w.alloc (.cells #[.string ⟨#[]⟩, .string ⟨#[]⟩, .int .u64 0, .int .i64 0, .int .i64 0, .slice none 0 0, .bool false, .slice none 0 0, .slice none 0 0] 27)) := (Below.refl _ _).alloc (Nat.le_refl _) _
  have HC := Has.new w #[.string ⟨#[]⟩, .string ⟨#[]⟩, .int .u64 0, .int .i64 0, .int .i64 0, .slice none 0 0, .bool false, .slice none 0 0, .slice none 0 0] 27
  have hK0 := Has.alloc hK (.cells #[.string ⟨#[]⟩, .string ⟨#[]⟩, .int .u64 0, .int .i64 0, .int .i64 0, .slice none 0 0, .bool false, .slice none 0 0, .slice none 0 0] 27)
  have kc := hK0.cell (j := 0) rfl
  have hcf : ∀ (xv : Array Value) (wx : World), (callFunc 52 xv).run Tryz.prog wx = .ok (.enter 52 xv) wx := fun xv wx => by simp [go_sem]
  have hcd : ∀ (xv : Array Value) (wx : World), (callFunc 51 xv).run Tryz.prog wx = .ok (.enter 51 xv) wx := fun xv wx => by simp [go_sem]
  clear hB hs hK
  go_enter Tryz.func22, Tryz.ntmps22
  go_wp2_with fail
  refine (rScan_any ⟨Bs.toArray⟩ _ HB.out).mono ?_
  rintro e w1 ⟨v, rfl, own1, o1⟩
  have HC1 := HC.below o1 HC.lt
  have b1 := b0.trans (o1.mono b0.size)
  have hcw : w.heap.size < w1.heap.size := HC1.lt
  rw [show (⟨Bs.toArray⟩ : ByteArray).data.toList = Bs by simp, hl] at own1
  obtain ⟨a1, c1, rfl, r1⟩ := RowS.ofOwn own1
  have hlt1 := hid own1
  clear HC b0 o1 hK0 kc own1
  by_cases h0 : l.length = 0
  · have hl0 : l = [] := List.eq_nil_of_length_eq_zero h0
    have hre := hid (recovR_bad (l := l) (g := 21) (by rw [hl0]; rfl) (fun r hr e => payL_ne r (e.trans hl0)))
    have h0b : (((l.length : Nat) : Int) == 0) = true := by rw [h0]; rfl
    clear hl0 h0
    have k0 := HC1.cell (j := 0) rfl
    have f0 := HC1.free 0
    have k1 := HC1.cell (j := 1) rfl
    have f1 := HC1.free 1
    have k2 := HC1.cell (j := 2) rfl
    have f2 := HC1.free 2
    have k3 := HC1.cell (j := 3) rfl
    have f3 := HC1.free 3
    have k4 := HC1.cell (j := 4) rfl
    have f4 := HC1.free 4
    have k5 := HC1.cell (j := 5) rfl
    have f5 := HC1.free 5
    have k6 := HC1.cell (j := 6) rfl
    have f6 := HC1.free 6
    have k7 := HC1.cell (j := 7) rfl
    have f7 := HC1.free 7
    have k8 := HC1.cell (j := 8) rfl
    have f8 := HC1.free 8
    have HF := Has.nine HC1 (.string ⟨#[]⟩) (.string ⟨#[]⟩) (.int .u64 0) (.int .i64 0) (.int .i64 0) (.slice none 0 0) (.bool false) (.slice none 0 0) (.slice none 0 0)
    have hO := nine_below w1 w.heap.size (.string ⟨#[]⟩) (.string ⟨#[]⟩) (.int .u64 0) (.int .i64 0) (.int .i64 0) (.slice none 0 0) (.bool false) (.slice none 0 0) (.slice none 0 0)
    have hOn := nine_only w1 w.heap.size (.string ⟨#[]⟩) (.string ⟨#[]⟩) (.int .u64 0) (.int .i64 0) (.int .i64 0) (.slice none 0 0) (.bool false) (.slice none 0 0) (.slice none 0 0)
    have hbb := hid (b1)
    go_wp2_with fail
    obtain ⟨wF, eF⟩ : ∃ wF, wF = nine w1 w.heap.size (.string ⟨#[]⟩) (.string ⟨#[]⟩) (.int .u64 0) (.int .i64 0) (.int .i64 0) (.slice none 0 0) (.bool false) (.slice none 0 0) (.slice none 0 0) := ⟨_, rfl⟩
    rw [← eF] at hO hOn
    unfold nine at eF
    rw [← eF] at HF ⊢
    clear eF
    have r0 := HF.cell (j := 0) rfl
    have r1 := HF.cell (j := 1) rfl
    have r2 := HF.cell (j := 2) rfl
    have r3 := HF.cell (j := 3) rfl
    have r4 := HF.cell (j := 4) rfl
    have r5 := HF.cell (j := 5) rfl
    have r6 := HF.cell (j := 6) rfl
    have r7 := HF.cell (j := 7) rfl
    have r8 := HF.cell (j := 8) rfl
    exact bodyPost_ret (v := .tuple #[.agg #[.string ⟨#[]⟩, .string ⟨#[]⟩, .int .u64 0, .int .i64 0, .int .i64 0, .slice none 0 0, .bool false, .slice none 0 0, .slice none 0 0], .int .i64 21]) (by simp [results, Tryz.results22, go_sem, r0, r1, r2, r3, r4, r5, r6, r7, r8]) rfl (zero_said (hbb.out.trans hO) hre.out)
  · have h0b : (((l.length : Nat) : Int) == 0) = false := by rw [beq_eq_false_iff_ne]; omega
    have hll := HS.out.1
    have hps := hid HS.out.2.1
    obtain ⟨b, o, rfl⟩ := r1.head (by omega)
    have hbl : b < w1.heap.size := by
      obtain ⟨b', o', e, hc⟩ := r1 0 (by omega)
      cases e
      exact lt_of_cell hc
    have hcap : l.length ≤ c1 := (ownsRow_cap hlt1.out).1
    have HX := Has.new w1 #[.string ⟨#[]⟩, .string ⟨#[]⟩, .int .u64 0, .int .i64 0, .int .i64 0, .slice none 0 0, .bool false, .slice none 0 0, .slice none 0 0] 27
    have b2 := b1.alloc b1.size (.cells #[.string ⟨#[]⟩, .string ⟨#[]⟩, .int .u64 0, .int .i64 0, .int .i64 0, .slice none 0 0, .bool false, .slice none 0 0, .slice none 0 0] 27)
    have HC2 := HC1.alloc (.cells #[.string ⟨#[]⟩, .string ⟨#[]⟩, .int .u64 0, .int .i64 0, .int .i64 0, .slice none 0 0, .bool false, .slice none 0 0, .slice none 0 0] 27)
    have r2 := r1.below ((Below.refl w1.heap.size w1).alloc (Nat.le_refl _) (.cells #[.string ⟨#[]⟩, .string ⟨#[]⟩, .int .u64 0, .int .i64 0, .int .i64 0, .slice none 0 0, .bool false, .slice none 0 0, .slice none 0 0] 27)) (Nat.le_refl _)
    obtain ⟨w2, ew2⟩ : ∃ w2, w2 = w1.alloc (.cells #[.string ⟨#[]⟩, .string ⟨#[]⟩, .int .u64 0, .int .i64 0, .int .i64 0, .slice none 0 0, .bool false, .slice none 0 0, .slice none 0 0] 27) := ⟨_, rfl⟩
    have hs2 : w2.heap.size = w1.heap.size + 1 := by rw [ew2]; simp
    rw [← ew2] at HX b2 HC2 r2
    obtain ⟨x, ex⟩ : ∃ x, x = w1.heap.size := ⟨_, rfl⟩
    rw [← ex] at HX hs2 hbl hcw
    have HI := hid (refInv_start (l := l) HX (by omega))
    have HC2' := hid HC2
    have r2' := hid r2
    have B2 := hid b2
    clear HX HC2 r1 r2 b2 b1 HC1 hlt1
    have hew := hid ew2
    have hex := hid ex
    clear ew2 ex
    obtain ⟨n, en⟩ : ∃ n, n = l.length := ⟨_, rfl⟩
    have hnl := hid en
    rw [← en] at h0 h0b hll hcap
    rw [← en]
    have hn1 : 1 ≤ n := by omega
    clear en
    have hat := hid (show ∀ (wx : World), Below x w2 wx → ∀ q, q < n → wx.cell? ⟨b, o + q, none⟩ = some (.string ⟨(l.getD q []).toArray⟩) from fun wx hb q hq => by
      obtain ⟨b', o2, e, hc⟩ := r2'.out q (by rw [← hnl.out]; omega)
      cases e
      exact (hb.cell (p := ⟨b, o + q, none⟩) hbl).trans hc)
    go_wp2_with fail
    rw [← hew.out, ← hex.out]
    go_loopw [25] (fun i wr => ∃ q : Nat, q ≤ n ∧ i = .int .i64 q ∧ ∃ rr vr vg, Hid (RefInv l (x + 1) x w2 q wr rr vr vg)) (fun i _ => n - (intOf i).toNat)
    case atStart => exact ⟨0, Nat.zero_le _, rfl, _, _, _, HI⟩
    case round =>
      clear HI
      obtain ⟨q, hq, rfl, rr, vr, vg, hI⟩ := hrel
      by_cases hqn : q < n
      · have hq0 : (0 : Int) ≤ q := by omega
        have hqi : (q : Int) < n := by omega
        have hx1 := hid hI.out.2.2.2.2.2.1
        have hat1 := hat.out wr hx1.out q hqn
        have hlq := hid (show q < l.length by rw [← hnl.out]; omega)
        have hpq := hid (show l[q]? = some (l.getD q []) by rw [List.getD_eq_getElem?_getD, List.getElem?_eq_getElem hlq.out]; rfl)
        have hpz : (l.getD q []).length ≤ 60000 := hps.out _ (by
          rw [List.getD_eq_getElem?_getD, List.getElem?_eq_getElem hlq.out]
          exact List.getElem_mem _)
        obtain ⟨s, es⟩ : ∃ s : ByteArray, s = ⟨(l.getD q []).toArray⟩ := ⟨_, rfl⟩
        rw [← es] at hat1
        have hss : s.size ≤ 60000 := by rw [es, bsize]; exact hpz
        have hsl := hid (show s.data.toList = l.getD q [] by rw [es])
        clear es hpz
        go_wp2_with fail
        refine (rwords_any s wr (by omega)).mono ?_
        rintro e w6 ⟨v6, rfl, own6, o6⟩
        have o6s := o6.size
        rw [hsl.out] at own6
        obtain ⟨ws, ews⟩ : ∃ ws, ws = wordsL 32 (l.getD q []) := ⟨_, rfl⟩
        have hws := hid ews
        rw [← ews] at own6
        have hwne := hid (show ws ≠ [] by rw [ews]; exact wordsL_ne _ _)
        have hwz := hid (show ∀ y ∈ ws, y.length ≤ 60000 ∧ y.length ≤ (l.getD q []).length by
          intro y hy
          rw [ews] at hy
          have h1 := (wordsL_small 32 (l.getD q [])).2 y hy
          have h2 : s.data.toList.length = s.size := Array.length_toList
          rw [hsl.out] at h2
          omega)
        clear ews
        obtain ⟨ga, cw, rfl, hw6⟩ := own6.slice
        obtain ⟨g, rfl⟩ : ∃ g, ga = some ⟨g, 0, none⟩ := by
          obtain ⟨zs, h1, _⟩ := own6
          rcases h1.2 with ⟨_, h3⟩ | ⟨g, cap', cur, hv, _⟩
          · exact absurd (List.eq_nil_of_length_eq_zero h3) hwne.out
          · cases hv; exact ⟨g, rfl⟩
        have hcw6 := hw6.le
        have hgl := (own6.lt g rfl)
        have hI6 := hid (hI.out.1.below o6)
        have hx6 := hid (hx1.out.trans (o6.mono (by have := hI.out.1.base; omega)))
        have own6' := hid own6
        have hxb := hI.out.1.base
        clear own6 o6 hat1 hw6
        by_cases hq0' : q = 0
        · subst hq0'
          have hqb : (((0 : Nat) : Int) == 0) = true := rfl
          have hp0 := hid hpq.out
          by_cases h6 : ws.length = 6
          · have h6b : (((ws.length : Nat) : Int) == 6) = true := by rw [h6]; rfl
            obtain ⟨a0, a1, a2, a3, a4, a5, rfl⟩ := sixL h6
            have d1 := own6'.out.strAt 1 (by simp)
            have d2 := own6'.out.strAt 2 (by simp)
            have d3 := own6'.out.strAt 3 (by simp)
            have d4 := own6'.out.strAt 4 (by simp)
            have d5 := own6'.out.strAt 5 (by simp)
            simp only [List.getD_cons_succ, List.getD_cons_zero] at d1 d2 d3 d4 d5
            have ha1 := (hwz.out a1 (by simp)).1
            have ha2 := (hwz.out a2 (by simp)).1
            have ha3 := (hwz.out a3 (by simp)).1
            have ha4 := (hwz.out a4 (by simp)).1
            have ha5 := (hwz.out a5 (by simp)).1
            have hz0 := hI.out.2.1 rfl
            have hz := hid hz0.1
            have hgl2 := hgl.2
            obtain ⟨_, rfl, rfl⟩ := hz0
            clear hwne h6
            go_wp2_with fail
            refine (runescape_any (str a5) w6 (by rw [str_size]; omega)).mono ?_
            rintro e w7 ⟨⟨ob, er, rfl, ho, hun⟩, o7⟩
            rw [str_size] at ho
            rw [str_list] at hun
            have hun' := hid hun
            have R7 := hI6.out.below o7
            have x7 := hid (hx6.out.trans (o7.mono (by omega)))
            have c1 := (o7.cell (p := ⟨g, 1, none⟩) hgl2).trans d1
            have c2 := (o7.cell (p := ⟨g, 2, none⟩) hgl2).trans d2
            have c3 := (o7.cell (p := ⟨g, 3, none⟩) hgl2).trans d3
            have c4 := (o7.cell (p := ⟨g, 4, none⟩) hgl2).trans d4
            clear d1 d2 d3 d4 d5 o7 hun
            have k0 := R7.has.cell (j := 0) rfl
            have f0 := R7.has.free 0
            have k1 := R7.has.cell (j := 1) rfl
            have f1 := R7.has.free 1
            have k2 := R7.has.cell (j := 2) rfl
            have f2 := R7.has.free 2
            have k3 := R7.has.cell (j := 3) rfl
            have f3 := R7.has.free 3
            have k4 := R7.has.cell (j := 4) rfl
            have f4 := R7.has.free 4
            have k5 := R7.has.cell (j := 5) rfl
            have f5 := R7.has.free 5
            have k6 := R7.has.cell (j := 6) rfl
            have f6 := R7.has.free 6
            have k7 := R7.has.cell (j := 7) rfl
            have f7 := R7.has.free 7
            have k8 := R7.has.cell (j := 8) rfl
            have f8 := R7.has.free 8
            have R7' := hid R7
            obtain ⟨D2, e2⟩ : ∃ D, digZ a2 % 18446744073709551616 = D := ⟨_, rfl⟩
            obtain ⟨D3, e3⟩ : ∃ D, digZ a3 % 18446744073709551616 = D := ⟨_, rfl⟩
            obtain ⟨D4, e4⟩ : ∃ D, digZ a4 % 18446744073709551616 = D := ⟨_, rfl⟩
            have n2 : 0 ≤ D2 ∧ D2 ≤ 18446744073709551615 := by omega
            have n3 : 0 ≤ D3 ∧ D3 ≤ 18446744073709551615 := by omega
            have n4 : 0 ≤ D4 ∧ D4 ≤ 18446744073709551615 := by omega
            obtain ⟨M3, em3⟩ : ∃ M, D3.tmod 10000 = M := ⟨_, rfl⟩
            obtain ⟨M4, em4⟩ : ∃ M, D4.tmod 10000 = M := ⟨_, rfl⟩
            have m3 : 0 ≤ M3 ∧ M3 ≤ 9999 ∧ M3 = D3 % 10000 := by rw [Int.tmod_eq_emod_of_nonneg n3.1] at em3; omega
            have m4 : 0 ≤ M4 ∧ M4 ≤ 9999 ∧ M4 = D4 % 10000 := by rw [Int.tmod_eq_emod_of_nonneg n4.1] at em4; omega
            have u3 : IntKind.wrap .u64 M3 = M3 := by rw [IntKind.wrap_u64]; omega
            have u4 : IntKind.wrap .u64 M4 = M4 := by rw [IntKind.wrap_u64]; omega
            have i3 : IntKind.wrap .i64 M3 = M3 := by rw [IntKind.wrap_i64]; omega
            have i4 : IntKind.wrap .i64 M4 = M4 := by rw [IntKind.wrap_i64]; omega
            have E2 := hid e2
            have E3 := hid e3
            have E4 := hid e4
            have G3 := hid m3.2.2
            have G4 := hid m4.2.2
            have N2 := hid n2
            clear e2 e3 e4 m3 m4 n2 n3 n4 R7
            have hd2 : (str a2).size ≤ 1000000 := by rw [str_size]; omega
            have hd3 : (str a3).size ≤ 1000000 := by rw [str_size]; omega
            have hd4 : (str a4).size ≤ 1000000 := by rw [str_size]; omega
            have J2 := hid (show digZ (str a2).data.toList % 18446744073709551616 = D2 by rw [str_list]; exact E2.out)
            have J3 := hid (show digZ (str a3).data.toList % 18446744073709551616 = D3 by rw [str_list]; exact E3.out)
            have J4 := hid (show digZ (str a4).data.toList % 18446744073709551616 = D4 by rw [str_list]; exact E4.out)
            have hS := hid (And.intro c1 (And.intro c2 (And.intro c3 c4)))
            have hT : (10000 : Int) ≠ 0 := by decide
            have hSd := hid (show w7.drew.cell? ⟨g, 1, none⟩ = some (.string (str a1)) ∧ w7.drew.cell? ⟨g, 2, none⟩ = some (.string (str a2)) ∧ w7.drew.cell? ⟨g, 3, none⟩ = some (.string (str a3)) ∧ w7.drew.cell? ⟨g, 4, none⟩ = some (.string (str a4)) from hS.out)
            have hgx : g ≠ x := by omega
            have hgl7 := lt_of_cell c1
            have hN := nine_only w7 x (.string (str a1)) (.string ob) (.int .u64 D2) (.int .i64 M3) (.int .i64 M4) (.slice none 0 0) (.bool false) (.slice none 0 0) (.slice none 0 0)
            have hS9 := hid (show (nine w7 x (.string (str a1)) (.string ob) (.int .u64 D2) (.int .i64 M3) (.int .i64 M4) (.slice none 0 0) (.bool false) (.slice none 0 0) (.slice none 0 0)).drew.cell? ⟨g, 1, none⟩ = some (.string (str a1)) ∧ (nine w7 x (.string (str a1)) (.string ob) (.int .u64 D2) (.int .i64 M3) (.int .i64 M4) (.slice none 0 0) (.bool false) (.slice none 0 0) (.slice none 0 0)).drew.cell? ⟨g, 2, none⟩ = some (.string (str a2)) ∧ (nine w7 x (.string (str a1)) (.string ob) (.int .u64 D2) (.int .i64 M3) (.int .i64 M4) (.slice none 0 0) (.bool false) (.slice none 0 0) (.slice none 0 0)).drew.cell? ⟨g, 3, none⟩ = some (.string (str a3)) ∧ (nine w7 x (.string (str a1)) (.string ob) (.int .u64 D2) (.int .i64 M3) (.int .i64 M4) (.slice none 0 0) (.bool false) (.slice none 0 0) (.slice none 0 0)).drew.cell? ⟨g, 4, none⟩ = some (.string (str a4)) by
              rw [World.cell?_drew, World.cell?_drew, World.cell?_drew, World.cell?_drew]
              exact ⟨(hN.cell hgl7 (by simpa using hgx)).trans c1, (hN.cell hgl7 (by simpa using hgx)).trans c2, (hN.cell hgl7 (by simpa using hgx)).trans c3, (hN.cell hgl7 (by simpa using hgx)).trans c4⟩)
            unfold nine at hS9
            clear hN
            go_wp2
            go_region_held3 (fun wx => wx.cell? ⟨g, 1, none⟩ = some (.string (str a1)) ∧ wx.cell? ⟨g, 2, none⟩ = some (.string (str a2)) ∧ wx.cell? ⟨g, 3, none⟩ = some (.string (str a3)) ∧ wx.cell? ⟨g, 4, none⟩ = some (.string (str a4)))
              (first | (with_reducible exact hS.out) | (with_reducible exact hSd.out) | (with_reducible exact hS9.out))
              (first
                | (go_at_call 51; ((with_reducible refine (digitsD (str a2) D2 _ hd2 J2).mono ?_); rintro e w8 ⟨rfl, rfl⟩))
                | (go_at_call 51; ((with_reducible refine (digitsD (str a3) D3 _ hd3 J3).mono ?_); rintro e w8 ⟨rfl, rfl⟩))
                | (go_at_call 51; ((with_reducible refine (digitsD (str a4) D4 _ hd4 J4).mono ?_); rintro e w8 ⟨rfl, rfl⟩)))
            have hRN := hid (rcAt_nine (nm := str a1) (tx := ob) (sd := D2) (st := M3) (ck := M4) R7'.out)
            have hBN := hid ((x7.out.trans (nine_below w7 x (.string (str a1)) (.string ob) (.int .u64 D2) (.int .i64 M3) (.int .i64 M4) (.slice none 0 0) (.bool false) (.slice none 0 0) (.slice none 0 0))).drew)
            have hI9 := hid (show RefInv l (x + 1) x w2 1 (nine w7 x (.string (str a1)) (.string ob) (.int .u64 D2) (.int .i64 M3) (.int .i64 M4) (.slice none 0 0) (.bool false) (.slice none 0 0) (.slice none 0 0)).drew ⟨str a1, ob, D2, M3, M4, [], false, [], []⟩ (.slice none 0 0) (.slice none 0 0) from
              RefInv.head hp0.out hws.out (fun r hr => by
                have h1 := hr.1
                simp only [List.cons.injEq, and_true] at h1
                obtain ⟨_, g1, g2, g3, g4, g5⟩ := h1
                obtain ⟨_, hsd, hst, hck⟩ := hr
                have q2 := E2.out
                have q3 := E3.out
                have q4 := E4.out
                rw [g2, digZ_numT _ hsd.1 hsd.2] at q2
                rw [g3, digZ_numT _ hst.1 (by omega)] at q3
                rw [g4, digZ_numT _ hck.1 (by omega)] at q4
                have p3 := G3.out
                have p4 := G4.out
                exact ⟨by rw [g1]; exact str_eta r.name, ba_ext (hun'.out _ g5).1, by omega, by omega, by omega⟩)
                (by rw [str_size]; omega) (by omega) N2.out
                (hRN.out.below ((Below.refl _ _).drew)) hBN.out)
            clear hS hSd hS9 hI hI6 R7' hRN hBN
            obtain ⟨wN, ewN⟩ : ∃ wN, wN = (nine w7 x (.string (str a1)) (.string ob) (.int .u64 D2) (.int .i64 M3) (.int .i64 M4) (.slice none 0 0) (.bool false) (.slice none 0 0) (.slice none 0 0)).drew := ⟨_, rfl⟩
            rw [← ewN] at hI9
            unfold nine at ewN
            rw [← ewN]
            clear ewN
            go_wp2
            go_roundw
            case rel => exact ⟨1, by omega, by go_num, _, _, _, hI9⟩
            case measure => simp [intOf]; omega
          · have h6b : (((ws.length : Nat) : Int) == 6) = false := by rw [beq_eq_false_iff_ne]; omega
            have hI7 := hid (show RefInv l (x + 1) x w2 1 w6 rr vr vg by
              obtain ⟨h1, h2, h3⟩ := hI.out.2.1 rfl
              subst h1
              exact RefInv.head hp0.out hws.out (fun r hr => absurd (congrArg List.length hr.1) (by simpa using h6)) (by decide) (by decide) (by decide) hI6.out hx6.out)
            clear hI6 hI hwne
            go_wp2
            go_roundw
            case rel => exact ⟨1, by omega, by go_num, _, _, _, hI7⟩
            case measure => simp [intOf]; omega
        · have hqb : ((q : Int) == 0) = false := by rw [beq_eq_false_iff_ne]; omega
          have hqg : (0 : Int) < (q : Int) := by omega
          by_cases h3 : ws.length = 3
          · have h3b : (((ws.length : Nat) : Int) == 3) = true := by rw [h3]; rfl
            obtain ⟨a0, a1, a2, rfl⟩ := threeL h3
            have d1 := own6'.out.strAt 1 (by simp)
            have d2 := own6'.out.strAt 2 (by simp)
            simp only [List.getD_cons_succ, List.getD_cons_zero] at d1 d2
            have ha1 := (hwz.out a1 (by simp)).1
            have ha2 := (hwz.out a2 (by simp)).1
            obtain ⟨ar, cr, rfl⟩ := hI6.out.rounds.shape
            have f5 := hI6.out.has.cell (j := 5) rfl
            have hrl : rr.rounds.length ≤ 1000 := by have := hI.out.2.2.2.1; omega
            have hc3 : 3 ≤ cw := by simpa using hcw6
            have hlow := hI6.out.low
            have hown : ∀ k, (Value.slice ar rr.rounds.length cr).ownBlock = some k → k < w6.heap.size := fun k e => (hI6.out.rounds.lt k e).2
            have hR := rround_parts (rround_any g cw a0 (str a1) (str a2) w6.drew hc3 d1 d2 (by rw [str_size]; omega) (by rw [str_size]; omega))
            rw [str_list, str_list] at hR
            have hR' := hid hR
            clear hR hwne h3
            go_wp2
            go_region_law (first
              | (refine step_call_or rfl 52 _ _ rfl hcf #[.slice (some ⟨g, 0, none⟩) 3 cw] (by simp [Act.eval, Act.put]) hR'.out (fun _ _ h => h.elim) ?_
                 rintro v7 w7 ⟨aj, nj, cj, af, nf, cf, y, rfl, hj7, hf7, hy7, hyl, o7⟩
                 have o7' : Below w6.heap.size w6 w7 := ((Below.refl w6.heap.size w6).drew).trans o7
                 have hA7 := hI6.out.has.below o7' hI6.out.has.lt
                 have g5 : w7.cell? ⟨x, 5, none⟩ = some (.slice ar rr.rounds.length cr) := hA7.cell (j := 5) rfl
                 have o7s : w6.heap.size ≤ w7.heap.size := o7'.size
                 have ownR := (hI6.out.rounds.below o7' (Nat.le_refl _)).alloc (.cells #[.slice aj nj cj, .slice af nf cf] 45)
                 have hR7 := ((rests_round hj7 hf7).weak (S' := fun k => x + 1 ≤ k ∧ (Value.slice ar rr.rounds.length cr).ownBlock ≠ some k) (fun k _ hk => ⟨by have hk' : w6.heap.size ≤ k := hk; omega, fun e => by have := hown k e; have hk' : w6.heap.size ≤ k := hk; omega⟩)).below ((Below.refl w7.heap.size w7).alloc (Nat.le_refl _) (.cells #[.slice aj nj cj, .slice af nf cf] 45)) (Nat.le_refl _)
                 have g5b : (w7.alloc (.cells #[.slice aj nj cj, .slice af nf cf] 45)).cell? ⟨x, 5, none⟩ = some (.slice ar rr.rounds.length cr) := (hA7.alloc _).cell (j := 5) rfl)
              | (refine step_append_run rfl (.tmp 76) (.tmp 79) 23 rfl (.slice ar rr.rounds.length cr) (.slice (some ⟨w7.heap.size, 0, none⟩) 1 1) (by rfl) (by rfl) (round_append (own := ownR) (Hg := Has.new w7 _ _) rfl rfl hR7 (by omega) (by simp; omega)) ?_
                 rintro v8 w8 ⟨own8, b8, hA8, hat8⟩
                 obtain ⟨a8, c8, rfl⟩ := own8.shape
                 have H8 : Has w8 x _ _ := (hA7.alloc (.cells #[.slice aj nj cj, .slice af nf cf] 45)).below b8 hlow
                 have g8 : w8.cell? ⟨x, 5, none⟩ = some (.slice ar rr.rounds.length cr) := H8.cell (j := 5) rfl
                 have z8 := H8.free 5))
            all_goals
              simp only [List.length_append, List.length_cons, List.length_nil, Nat.zero_add] at own8 hat8
              have hI8 := hid (show RefInv l (x + 1) x w2 (q + 1) (w8.setCell ⟨x, 5, none⟩ (.slice a8 (rr.rounds.length + 1) c8)) { rr with rounds := rr.rounds ++ [y] } (.slice a8 (rr.rounds.length + 1) c8) vg from
                hI.out.step (by omega) hpq.out hws.out (fun y hy => (hwz.out y hy).2)
                  ⟨by simp, fun _ z hz => ⟨rfl, by rw [hy7 z hz]⟩, fun _ gs hg => absurd (congrArg List.length hg.1) (by simp), rfl, rfl, rfl, fun z hz => by
                    rcases List.mem_append.1 hz with hz | hz
                    · exact Or.inl hz
                    · simp only [List.mem_singleton] at hz
                      subst hz
                      exact Or.inr ⟨a2, by simp, by simp only [List.getD_cons_succ, List.getD_cons_zero] at hyl; omega⟩⟩
                  (rcAt_round hI6.out o7' own8 b8 hA8 hat8) ((((hx6.out.trans (o7'.mono (by omega))).alloc (by omega) _).trans (b8.mono (by omega))).setCell (p := ⟨x, 5, none⟩) (Nat.le_refl _) _))
              clear own8 b8 hA8 hat8 H8 hj7 hf7 hA7 ownR hR7 o7 hI6 hI hR'
              go_wp2
              go_roundw
              case rel => exact ⟨q + 1, by omega, by go_num, _, _, _, hI8⟩
              case measure => simp [intOf]; omega
          · have h3b : (((ws.length : Nat) : Int) == 3) = false := by rw [beq_eq_false_iff_ne]; omega
            by_cases h2 : ws.length = 2
            · have h2b : (((ws.length : Nat) : Int) == 2) = true := by rw [h2]; rfl
              obtain ⟨a0, a1, rfl⟩ := twoL h2
              have d1 := own6'.out.strAt 1 (by simp)
              simp only [List.getD_cons_succ, List.getD_cons_zero] at d1
              have ha1 := (hwz.out a1 (by simp)).1
              obtain ⟨ar, cr, rfl⟩ := hI6.out.rounds.shape
              obtain ⟨ag, cg, rfl, _⟩ := hI6.out.goals.slice
              have y6 := hI6.out.has.cell (j := 6) rfl
              have z6 := hI6.out.has.free 6
              have hgx : g ≠ x := by omega
              have d1' : (w6.setCell ⟨x, 6, none⟩ (.bool true)).cell? ⟨g, 1, none⟩ = some (.string (str a1)) := (World.cell?_setCell_other w6 ⟨x, 6, none⟩ ⟨g, 1, none⟩ (.bool true) (fun e => hgx (congrArg Addr.block e).symm)).trans d1
              have hsz : (w6.setCell ⟨x, 6, none⟩ (.bool true)).heap.size = w6.heap.size := by simp [World.setCell]
              have bA := hid (hx6.out.setCell (p := ⟨x, 6, none⟩) (Nat.le_refl _) (.bool true))
              clear hwne h3 h2
              go_wp2_with fail
              obtain ⟨wA, ewA⟩ : ∃ wA, wA = w6.setCell ⟨x, 6, none⟩ (.bool true) := ⟨_, rfl⟩
              have hA6 : Has wA x #[.string rr.name, .string rr.text, .int .u64 rr.seed, .int .i64 rr.start, .int .i64 rr.clock, .slice ar rr.rounds.length cr, .bool true, .slice ag rr.goals.length cg, .slice none 0 0] 27 := by rw [ewA]; exact hI6.out.has.set 6 (.bool true)
              have hov := hid (fun (w7 : World) (v7 : Value) (gs : List Int) => rcAt_over (w7 := w7) (v7 := v7) (gs := gs) hI6.out)
              rw [← ewA] at d1' bA hsz hov ⊢
              clear ewA
              refine (goals_any (str a1) wA (by rw [str_size]; omega)).mono ?_
              rintro e w7 ⟨v7, rfl, own7, o7⟩
              rw [str_list] at own7
              obtain ⟨a7, c7, rfl, _⟩ := own7.slice
              have H7 := hA6.below o7 hA6.lt
              have y7 := H7.cell (j := 7) rfl
              have z7 := H7.free 7
              have hI7 := hid (show RefInv l (x + 1) x w2 (q + 1) (w7.setCell ⟨x, 7, none⟩ (.slice a7 (goalsP a1).length c7)) { rr with ended := true, goals := goalsP a1 } (.slice ar rr.rounds.length cr) (.slice a7 (goalsP a1).length c7) from
                hI.out.step (by omega) hpq.out hws.out (fun y hy => (hwz.out y hy).2)
                  ⟨Nat.le_succ _, fun _ y hy => absurd (congrArg List.length hy.1) (by simp), fun _ gs hg => ⟨rfl, by
                    have h1 := hg.1
                    simp only [List.cons.injEq, and_true] at h1
                    rw [h1.2, goals_list gs hg.2]⟩, rfl, rfl, rfl, fun _ hy => Or.inl hy⟩
                  (hov.out _ _ _ o7 own7) ((bA.out.trans (o7.mono (by omega))).setCell (p := ⟨x, 7, none⟩) (Nat.le_refl _) _))
              clear own7 o7 H7 hI6 hI hov hA6
              go_wp2
              go_roundw
              case rel => exact ⟨q + 1, by omega, by go_num, _, _, _, hI7⟩
              case measure => simp [intOf]; omega
            · have h2b : (((ws.length : Nat) : Int) == 2) = false := by rw [beq_eq_false_iff_ne]; omega
              have hI7 := hid (show RefInv l (x + 1) x w2 (q + 1) w6 rr vr vg from hI.out.step (by omega) hpq.out hws.out (fun y hy => (hwz.out y hy).2) (next_none h2 h3) hI6.out hx6.out)
              clear hI6 hI hwne
              go_wp2
              go_roundw
              case rel => exact ⟨q + 1, by omega, by go_num, _, _, _, hI7⟩
              case measure => simp [intOf]; omega
      · skip
        obtain rfl : q = n := by omega
        obtain ⟨i1, _, i2, i3, i4, i5, i6, i7, i8, i9⟩ := hI.out
        have i2 := i2 (by omega)
        have hqi : ¬ (q : Int) < (q : Int) := by omega
        have B7 := hid (B2.out.trans (i5.mono (by omega)))
        have HC7 := HC2'.out.below i5 (by omega)
        have R7 := r2'.out.belowB i5 (fun b' o' e => by cases e; exact hbl)
        have i2' := hid (show ReadInv l (l.length - 1) rr true by rw [← hnl.out]; exact i2)
        obtain ⟨ar, cr, rfl⟩ := i1.rounds.shape
        obtain ⟨ag, cg, rfl, _⟩ := i1.goals.slice
        have hRd : RndsAt wr ar rr.rounds.length cr rr.rounds := RndsAt.ofLst (i1.rounds.reads wr (.refl _ _))
        have hseat : seatsL rr.rounds ≤ 1000 := by
          have hm : ∀ y ∈ rr.rounds, y.faults.length ≤ 1000 := fun y hy => by
            rcases HS.out.2.2 with h | ⟨r, hr, er⟩
            · obtain ⟨p, hp, hy⟩ := i4 y hy
              have := h p hp; omega
            · have h1 := (i2'.out r hr er).2
              rw [h1] at hy
              have h2 := hr.parts.2.2.2.2.2.1 y (List.mem_of_mem_take hy)
              unfold roundB at h2
              simp only [Bool.and_eq_true, decide_eq_true_eq] at h2
              omega
          cases hrr : rr.rounds with
          | nil => exact Nat.zero_le _
          | cons y _ => exact hm y (by rw [hrr]; simp)
        have i1' := hid i1
        have c5 := i1.has.cell (j := 5) rfl
        have i8' := hid i8
        have i9' := hid i9
        have i6' := hid i6
        have i7' := hid i7
        have hwr := i1.base
        have hrl : rr.rounds.length ≤ 1000 := by omega
        have hwx4 := i5.size
        clear i1 i2 i3 i4 i6 i7 i8 i9 hI
        go_wp2_with fail
        refine (rexcl_any ar rr.rounds.length cr rr.rounds _ hRd hrl hseat).mono ?_
        rintro e w8 ⟨v8, rfl, own8, o8⟩
        obtain ⟨a8, c8, rfl, _⟩ := own8.slice
        have H8 := i1'.out.has.below o8 i1'.out.has.lt
        have y8 := H8.cell (j := 8) rfl
        have z8 := H8.free 8
        have o8s := o8.size
        have H9 : Has (w8.setCell ⟨x, 8, none⟩ (.slice a8 (exclL rr.rounds).length c8)) x #[.string rr.name, .string rr.text, .int .u64 rr.seed, .int .i64 rr.start, .int .i64 rr.clock, .slice ar rr.rounds.length cr, .bool rr.ended, .slice ag rr.goals.length cg, .slice a8 (exclL rr.rounds).length c8] 27 := H8.set 8 (.slice a8 (exclL rr.rounds).length c8)
        have hS9 := (Only.refl [x] w8).setIn (b := x) (o := 8) (by simp) (.slice a8 (exclL rr.rounds).length c8)
        have hO9 : OwnR (x + 1) (w8.setCell ⟨x, 8, none⟩ (.slice a8 (exclL rr.rounds).length c8)) { rr with excl := exclL rr.rounds } (.slice ar rr.rounds.length cr) (.slice ag rr.goals.length cg) (.slice a8 (exclL rr.rounds).length c8) :=
          ⟨(i1'.out.rounds.below o8 (Nat.le_refl _)).only hS9 (by simp), (i1'.out.goals.below o8 (Nat.le_refl _)).only hS9 (by simp), (own8.rebase hwr).only hS9 (by simp), i6'.out, i7'.out⟩
        have b9 : Below x wr (w8.setCell ⟨x, 8, none⟩ (.slice a8 (exclL rr.rounds).length c8)) := (o8.mono (show x ≤ wr.heap.size by have h5 : x + 1 ≤ wr.heap.size := hwr; omega)).setCell (p := ⟨x, 8, none⟩) (Nat.le_refl _) _
        have B9 := hid (B7.out.trans (b9.mono (by omega)))
        have HC9 := HC7.below b9 (by omega)
        have R9 := R7.belowB b9 (fun b' o' e => by cases e; exact hbl)
        have H9' := hid H9
        have hO9' := hid hO9
        have q0 := H9.cell (j := 0) rfl
        have q1 := H9.cell (j := 1) rfl
        have q2 := H9.cell (j := 2) rfl
        have q3 := H9.cell (j := 3) rfl
        have q4 := H9.cell (j := 4) rfl
        have q5 := H9.cell (j := 5) rfl
        have q6 := H9.cell (j := 6) rfl
        have q7 := H9.cell (j := 7) rfl
        have q8 := H9.cell (j := 8) rfl
        clear H8 own8 o8 H9 hO9 hS9 HC7 R7 hRd c5 i5
        go_wp2_with fail
        obtain ⟨w9, ew9⟩ : ∃ w9, w9 = w8.setCell ⟨x, 8, none⟩ (.slice a8 (exclL rr.rounds).length c8) := ⟨_, rfl⟩
        rw [← ew9] at H9' hO9' B9 HC9 R9 b9 ⊢
        clear ew9 y8 z8 q0 q1 q2 q3 q4 q5 q6 q7 q8
        have hRec9 := hO9'.out.at
        refine (wellFormed_any { rr with excl := exclL rr.rounds } ar rr.rounds.length cr ag rr.goals.length cg a8 (exclL rr.rounds).length c8 w9 hRec9).mono ?_
        rintro e w10 ⟨rfl, o10⟩
        have H10 := hid (H9'.out.below o10 H9'.out.lt)
        have hO10 := hid (hO9'.out.below o10)
        have B10 := hid (B9.out.trans (o10.mono B9.out.size))
        have HC10 := HC9.below o10 HC9.lt
        have R10 := R9.below o10 (Nat.le_refl _)
        clear HC9 R9 H9' hO9' hRec9
        by_cases hwf : wfB { rr with excl := exclL rr.rounds } = true
        · rw [hwf]
          have hwf' := hid hwf
          clear hwf
          have q0 := H10.out.cell (j := 0) rfl
          have q1 := H10.out.cell (j := 1) rfl
          have q2 := H10.out.cell (j := 2) rfl
          have q3 := H10.out.cell (j := 3) rfl
          have q4 := H10.out.cell (j := 4) rfl
          have q5 := H10.out.cell (j := 5) rfl
          have q6 := H10.out.cell (j := 6) rfl
          have q7 := H10.out.cell (j := 7) rfl
          have q8 := H10.out.cell (j := 8) rfl
          go_wp2_with fail
          refine (rpay_any { rr with excl := exclL rr.rounds } ar rr.rounds.length cr ag rr.goals.length cg a8 (exclL rr.rounds).length c8 w10 hO10.out.at (fine_of hwf'.out ⟨i8'.out, i9'.out⟩)).mono ?_
          rintro e w11 ⟨v11, rfl, own11, o11⟩
          obtain ⟨a11, c11, rfl, h11⟩ := own11.slice
          have H11 := hid (H10.out.below o11 H10.out.lt)
          have hO11 := hid (hO10.out.below o11)
          have B11 := hid (B10.out.trans (o11.mono B10.out.size))
          have HC11 := HC10.below o11 HC10.lt
          have R11 := R10.below o11 (Nat.le_refl _)
          have hE := strings_gen a11 (some ⟨b, o, none⟩) c11 c1 (payL { rr with excl := exclL rr.rounds }) l w11 (by have := payL_len2 { rr with excl := exclL rr.rounds }; simp only at this; omega) (RowS.ofHeld h11) R11
          rw [← hnl.out] at hE
          have hE' := hid hE
          clear hE own11 h11 HC10 q0 q1 q2 q3 q4 q5 q6 q7 q8
          go_wp2_with fail
          refine hE'.out.mono ?_
          rintro e w12 ⟨rfl, o12⟩
          have H12 := hid (H11.out.below o12 H11.out.lt)
          have hO12 := hid (hO11.out.below o12)
          have B12 := hid (B11.out.trans (o12.mono B11.out.size))
          have HC12 := HC11.below o12 HC11.lt
          have s12 := B12.out.size
          clear hE' HC11
          by_cases heq : payL { rr with excl := exclL rr.rounds } = l
          · rw [decide_eq_true heq]
            have hre := hid (show RecovR l { rr with excl := exclL rr.rounds } 0 from ⟨fun r hr e => ⟨rfl, (i2'.out.last hr e).2⟩, Or.inl ⟨rfl, ⟨hwf'.out, i8'.out, i9'.out⟩, heq⟩⟩)
            clear heq
            have q0 := H12.out.cell (j := 0) rfl
            have q1 := H12.out.cell (j := 1) rfl
            have q2 := H12.out.cell (j := 2) rfl
            have q3 := H12.out.cell (j := 3) rfl
            have q4 := H12.out.cell (j := 4) rfl
            have q5 := H12.out.cell (j := 5) rfl
            have q6 := H12.out.cell (j := 6) rfl
            have q7 := H12.out.cell (j := 7) rfl
            have q8 := H12.out.cell (j := 8) rfl
            have k0 := HC12.cell (j := 0) rfl
            have f0 := HC12.free 0
            have k1 := HC12.cell (j := 1) rfl
            have f1 := HC12.free 1
            have k2 := HC12.cell (j := 2) rfl
            have f2 := HC12.free 2
            have k3 := HC12.cell (j := 3) rfl
            have f3 := HC12.free 3
            have k4 := HC12.cell (j := 4) rfl
            have f4 := HC12.free 4
            have k5 := HC12.cell (j := 5) rfl
            have f5 := HC12.free 5
            have k6 := HC12.cell (j := 6) rfl
            have f6 := HC12.free 6
            have k7 := HC12.cell (j := 7) rfl
            have f7 := HC12.free 7
            have k8 := HC12.cell (j := 8) rfl
            have f8 := HC12.free 8
            have HF := Has.nine HC12 (.string rr.name) (.string rr.text) (.int .u64 rr.seed) (.int .i64 rr.start) (.int .i64 rr.clock) (.slice ar rr.rounds.length cr) (.bool rr.ended) (.slice ag rr.goals.length cg) (.slice a8 (exclL rr.rounds).length c8)
            have hO := nine_below w12 w.heap.size (.string rr.name) (.string rr.text) (.int .u64 rr.seed) (.int .i64 rr.start) (.int .i64 rr.clock) (.slice ar rr.rounds.length cr) (.bool rr.ended) (.slice ag rr.goals.length cg) (.slice a8 (exclL rr.rounds).length c8)
            have hOn := nine_only w12 w.heap.size (.string rr.name) (.string rr.text) (.int .u64 rr.seed) (.int .i64 rr.start) (.int .i64 rr.clock) (.slice ar rr.rounds.length cr) (.bool rr.ended) (.slice ag rr.goals.length cg) (.slice a8 (exclL rr.rounds).length c8)
            have hbb := hid (B12.out)
            go_wp2_with fail
            obtain ⟨wF, eF⟩ : ∃ wF, wF = nine w12 w.heap.size (.string rr.name) (.string rr.text) (.int .u64 rr.seed) (.int .i64 rr.start) (.int .i64 rr.clock) (.slice ar rr.rounds.length cr) (.bool rr.ended) (.slice ag rr.goals.length cg) (.slice a8 (exclL rr.rounds).length c8) := ⟨_, rfl⟩
            rw [← eF] at hO hOn
            unfold nine at eF
            rw [← eF] at HF ⊢
            clear eF
            have r0 := HF.cell (j := 0) rfl
            have r1 := HF.cell (j := 1) rfl
            have r2 := HF.cell (j := 2) rfl
            have r3 := HF.cell (j := 3) rfl
            have r4 := HF.cell (j := 4) rfl
            have r5 := HF.cell (j := 5) rfl
            have r6 := HF.cell (j := 6) rfl
            have r7 := HF.cell (j := 7) rfl
            have r8 := HF.cell (j := 8) rfl
            exact bodyPost_ret (v := .tuple #[.agg #[.string rr.name, .string rr.text, .int .u64 rr.seed, .int .i64 rr.start, .int .i64 rr.clock, .slice ar rr.rounds.length cr, .bool rr.ended, .slice ag rr.goals.length cg, .slice a8 (exclL rr.rounds).length c8], .int .i64 0]) (by simp [results, Tryz.results22, go_sem, r0, r1, r2, r3, r4, r5, r6, r7, r8]) rfl (⟨⟨{ rr with excl := exclL rr.rounds }, ar, rr.rounds.length, cr, ag, rr.goals.length, cg, a8, (exclL rr.rounds).length, c8, 0, rfl, (hO12.out.only hOn (by simp; omega)).at, hre.out⟩, hbb.out.trans hO⟩)
          · rw [decide_eq_false heq]
            have hre := hid (show RecovR l zeroR 1 from recovR_bad (by
              have hle : l.isEmpty = false := by cases l with | nil => simp at hnl; have := hnl.out; omega | cons _ _ => rfl
              rw [hle]; rfl) (fun r hr e => heq (by rw [(i2'.out.last hr e).2]; exact e)))
            clear heq
            have k0 := HC12.cell (j := 0) rfl
            have f0 := HC12.free 0
            have k1 := HC12.cell (j := 1) rfl
            have f1 := HC12.free 1
            have k2 := HC12.cell (j := 2) rfl
            have f2 := HC12.free 2
            have k3 := HC12.cell (j := 3) rfl
            have f3 := HC12.free 3
            have k4 := HC12.cell (j := 4) rfl
            have f4 := HC12.free 4
            have k5 := HC12.cell (j := 5) rfl
            have f5 := HC12.free 5
            have k6 := HC12.cell (j := 6) rfl
            have f6 := HC12.free 6
            have k7 := HC12.cell (j := 7) rfl
            have f7 := HC12.free 7
            have k8 := HC12.cell (j := 8) rfl
            have f8 := HC12.free 8
            have HF := Has.nine HC12 (.string ⟨#[]⟩) (.string ⟨#[]⟩) (.int .u64 0) (.int .i64 0) (.int .i64 0) (.slice none 0 0) (.bool false) (.slice none 0 0) (.slice none 0 0)
            have hO := nine_below w12 w.heap.size (.string ⟨#[]⟩) (.string ⟨#[]⟩) (.int .u64 0) (.int .i64 0) (.int .i64 0) (.slice none 0 0) (.bool false) (.slice none 0 0) (.slice none 0 0)
            have hOn := nine_only w12 w.heap.size (.string ⟨#[]⟩) (.string ⟨#[]⟩) (.int .u64 0) (.int .i64 0) (.int .i64 0) (.slice none 0 0) (.bool false) (.slice none 0 0) (.slice none 0 0)
            have hbb := hid (B12.out)
            go_wp2_with fail
            obtain ⟨wF, eF⟩ : ∃ wF, wF = nine w12 w.heap.size (.string ⟨#[]⟩) (.string ⟨#[]⟩) (.int .u64 0) (.int .i64 0) (.int .i64 0) (.slice none 0 0) (.bool false) (.slice none 0 0) (.slice none 0 0) := ⟨_, rfl⟩
            rw [← eF] at hO hOn
            unfold nine at eF
            rw [← eF] at HF ⊢
            clear eF
            have r0 := HF.cell (j := 0) rfl
            have r1 := HF.cell (j := 1) rfl
            have r2 := HF.cell (j := 2) rfl
            have r3 := HF.cell (j := 3) rfl
            have r4 := HF.cell (j := 4) rfl
            have r5 := HF.cell (j := 5) rfl
            have r6 := HF.cell (j := 6) rfl
            have r7 := HF.cell (j := 7) rfl
            have r8 := HF.cell (j := 8) rfl
            exact bodyPost_ret (v := .tuple #[.agg #[.string ⟨#[]⟩, .string ⟨#[]⟩, .int .u64 0, .int .i64 0, .int .i64 0, .slice none 0 0, .bool false, .slice none 0 0, .slice none 0 0], .int .i64 1]) (by simp [results, Tryz.results22, go_sem, r0, r1, r2, r3, r4, r5, r6, r7, r8]) rfl (zero_said (hbb.out.trans hO) hre.out)
        · have hwb : wfB { rr with excl := exclL rr.rounds } = false := by simpa using hwf
          rw [hwb]
          have hre := hid (show RecovR l zeroR 1 from recovR_bad (by
            have hle : l.isEmpty = false := by cases l with | nil => simp at hnl; have := hnl.out; omega | cons _ _ => rfl
            rw [hle]; rfl) (fun r hr e => hwf (by rw [(i2'.out.last hr e).2]; exact hr.1)))
          clear hwf hwb
          have k0 := HC10.cell (j := 0) rfl
          have f0 := HC10.free 0
          have k1 := HC10.cell (j := 1) rfl
          have f1 := HC10.free 1
          have k2 := HC10.cell (j := 2) rfl
          have f2 := HC10.free 2
          have k3 := HC10.cell (j := 3) rfl
          have f3 := HC10.free 3
          have k4 := HC10.cell (j := 4) rfl
          have f4 := HC10.free 4
          have k5 := HC10.cell (j := 5) rfl
          have f5 := HC10.free 5
          have k6 := HC10.cell (j := 6) rfl
          have f6 := HC10.free 6
          have k7 := HC10.cell (j := 7) rfl
          have f7 := HC10.free 7
          have k8 := HC10.cell (j := 8) rfl
          have f8 := HC10.free 8
          have HF := Has.nine HC10 (.string ⟨#[]⟩) (.string ⟨#[]⟩) (.int .u64 0) (.int .i64 0) (.int .i64 0) (.slice none 0 0) (.bool false) (.slice none 0 0) (.slice none 0 0)
          have hO := nine_below w10 w.heap.size (.string ⟨#[]⟩) (.string ⟨#[]⟩) (.int .u64 0) (.int .i64 0) (.int .i64 0) (.slice none 0 0) (.bool false) (.slice none 0 0) (.slice none 0 0)
          have hOn := nine_only w10 w.heap.size (.string ⟨#[]⟩) (.string ⟨#[]⟩) (.int .u64 0) (.int .i64 0) (.int .i64 0) (.slice none 0 0) (.bool false) (.slice none 0 0) (.slice none 0 0)
          have hbb := hid (B10.out)
          go_wp2_with fail
          obtain ⟨wF, eF⟩ : ∃ wF, wF = nine w10 w.heap.size (.string ⟨#[]⟩) (.string ⟨#[]⟩) (.int .u64 0) (.int .i64 0) (.int .i64 0) (.slice none 0 0) (.bool false) (.slice none 0 0) (.slice none 0 0) := ⟨_, rfl⟩
          rw [← eF] at hO hOn
          unfold nine at eF
          rw [← eF] at HF ⊢
          clear eF
          have r0 := HF.cell (j := 0) rfl
          have r1 := HF.cell (j := 1) rfl
          have r2 := HF.cell (j := 2) rfl
          have r3 := HF.cell (j := 3) rfl
          have r4 := HF.cell (j := 4) rfl
          have r5 := HF.cell (j := 5) rfl
          have r6 := HF.cell (j := 6) rfl
          have r7 := HF.cell (j := 7) rfl
          have r8 := HF.cell (j := 8) rfl
          exact bodyPost_ret (v := .tuple #[.agg #[.string ⟨#[]⟩, .string ⟨#[]⟩, .int .u64 0, .int .i64 0, .int .i64 0, .slice none 0 0, .bool false, .slice none 0 0, .slice none 0 0], .int .i64 1]) (by simp [results, Tryz.results22, go_sem, r0, r1, r2, r3, r4, r5, r6, r7, r8]) rfl (zero_said (hbb.out.trans hO) hre.out)
end Go.Proofs.YtahbhhenobehfaaGreatDoor
