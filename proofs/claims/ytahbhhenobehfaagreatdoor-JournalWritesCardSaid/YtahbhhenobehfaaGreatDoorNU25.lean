/-
  The walk of Recover of package journal.
-/
import Derived.Test.YtahbhhenobehfaaGreatDoorM40
namespace Go.Proofs.YtahbhhenobehfaaGreatDoor
open Go.ChangeShapes Go.WideShapes Go.ChangeAt Go.RowKit

/-- What keeps Recover's lists short. -/
def ShortL (l : List (List UInt8)) : Prop := l.length ≤ 900 ∧ (∀ p ∈ l, p.length ≤ 60000) ∧ ((∀ p ∈ l, p.length ≤ 900) ∨ ∃ r, FineR r ∧ payL r = l)
theorem payL_ne (r : Rec) : payL r ≠ [] := by unfold payL; simp
theorem recovR_bad {l : List (List UInt8)} {g : Int} (hg : g = if l.isEmpty = true then 21 else 1) (h : ∀ r, FineR r → payL r ≠ l) : RecovR l zeroR g :=
  ⟨fun r hr e => absurd e (h r hr), Or.inr ⟨by rw [hg]; split <;> decide, hg, rfl⟩⟩
theorem zero_said {l : List (List UInt8)} {w w' : World} {g : Int} (hb : Below w.heap.size w w') (h : RecovR l zeroR g) :
    RecovSaid l w (.returned (.tuple #[.agg #[.string ⟨#[]⟩, .string ⟨#[]⟩, .int .u64 0, .int .i64 0, .int .i64 0, .slice none 0 0, .bool false, .slice none 0 0, .slice none 0 0], .int .i64 g])) w' :=
  ⟨⟨zeroR, none, 0, 0, none, 0, 0, none, 0, 0, g, rfl, zero_at w', h⟩, hb⟩
def zeroV : Array Value := #[.string ⟨#[]⟩, .string ⟨#[]⟩, .int .u64 0, .int .i64 0, .int .i64 0, .slice none 0 0, .bool false, .slice none 0 0, .slice none 0 0]
/-- What the loop of Recover keeps. -/
def RecInv (l : List (List UInt8)) (B x : Nat) (wx : World) (i : Nat) (wr : World) (rr : Rec) (vr vg : Value) (ok : Bool) : Prop :=
  RdrAt B x wr rr vr vg ok ∧ ReadInv l i rr ok ∧ rr.rounds.length ≤ i ∧ (∀ y ∈ rr.rounds, ∃ p ∈ l, y.faults.length ≤ p.length + 1) ∧ Below x wx wr ∧ rr.name.size ≤ 100000 ∧ rr.text.size ≤ 100000 ∧ 0 ≤ rr.seed ∧ rr.seed ≤ 18446744073709551615
theorem ownsRow_cap {w : World} {B n : Nat} {e : TypeId} {a : Option Addr} {m c : Nat} {xs : List Value} (h : w.ownsRow B e 1 (.slice a m c) n xs) : m ≤ c ∧ (c : Int) ≤ 9223372036854775807 := by
  rcases h.2 with ⟨hv, _⟩ | ⟨g, cap, cur, hv, _, _, h1, h2, _, _⟩
  · cases hv; exact ⟨Nat.le_refl _, by decide⟩
  · cases hv; exact ⟨h1, by unfold maxLen at h2; omega⟩
theorem RowS.only {w w' : World} {ad : Option Addr} {l : List (List UInt8)} {L : List Nat} (h : RowS w ad l) (ho : Only L w w') (hn : ∀ b o, ad = some ⟨b, o, none⟩ → b ∉ L) : RowS w' ad l := fun i hi => by
  obtain ⟨b, o, e, hc⟩ := h i hi
  exact ⟨b, o, e, (World.cell?_of_block (w := w) (w' := w') (a := ⟨b, o + i, none⟩) (ho.block b (lt_of_cell hc) (hn b o e))).trans hc⟩
theorem RowS.belowB {w w' : World} {ad : Option Addr} {l : List (List UInt8)} {B : Nat} (h : RowS w ad l) (hb : Below B w w') (hn : ∀ b o, ad = some ⟨b, o, none⟩ → b < B) : RowS w' ad l := fun i hi => by
  obtain ⟨b, o, e, hc⟩ := h i hi
  exact ⟨b, o, e, (hb.cell (p := ⟨b, o + i, none⟩) (hn b o e)).trans hc⟩
theorem slice_l (P : Program) (wx : World) (t : TypeId) (a : Option Addr) (n c : Nat) (ht : P.underlying t = some (.slice (P.elem t))) (h1 : 1 ≤ n) :
    (Instr.slice t (.slice a n c) (some (.int .i64 1)) none none).run P wx = ((sizeOf (P.elem t)).run P wx).andThen fun s w => .ok (sliced a 1 n c s) w := by
  rw [run_slice_l (h0 := by decide) (h1 := by omega) (ht := ht)]
  rfl
def nine (w : World) (g : Nat) (b0 b1 b2 b3 b4 b5 b6 b7 b8 : Value) : World := ((((((((w.setCell ⟨g, 0, none⟩ b0).setCell ⟨g, 1, none⟩ b1).setCell ⟨g, 2, none⟩ b2).setCell ⟨g, 3, none⟩ b3).setCell ⟨g, 4, none⟩ b4).setCell ⟨g, 5, none⟩ b5).setCell ⟨g, 6, none⟩ b6).setCell ⟨g, 7, none⟩ b7).setCell ⟨g, 8, none⟩ b8
theorem nine_only (w : World) (g : Nat) (b0 b1 b2 b3 b4 b5 b6 b7 b8 : Value) : Only [g] w (nine w g b0 b1 b2 b3 b4 b5 b6 b7 b8) :=
  (((((((((Only.refl [g] w).setIn (b := g) (o := 0) (by simp) b0).setIn (b := g) (o := 1) (by simp) b1).setIn (b := g) (o := 2) (by simp) b2).setIn (b := g) (o := 3) (by simp) b3).setIn (b := g) (o := 4) (by simp) b4).setIn (b := g) (o := 5) (by simp) b5).setIn (b := g) (o := 6) (by simp) b6).setIn (b := g) (o := 7) (by simp) b7).setIn (b := g) (o := 8) (by simp) b8
theorem nine_below (w : World) (g : Nat) (b0 b1 b2 b3 b4 b5 b6 b7 b8 : Value) : Below g w (nine w g b0 b1 b2 b3 b4 b5 b6 b7 b8) :=
  (((((((((Below.refl g w).setCell (p := ⟨g, 0, none⟩) (Nat.le_refl _) b0).setCell (p := ⟨g, 1, none⟩) (Nat.le_refl _) b1).setCell (p := ⟨g, 2, none⟩) (Nat.le_refl _) b2).setCell (p := ⟨g, 3, none⟩) (Nat.le_refl _) b3).setCell (p := ⟨g, 4, none⟩) (Nat.le_refl _) b4).setCell (p := ⟨g, 5, none⟩) (Nat.le_refl _) b5).setCell (p := ⟨g, 6, none⟩) (Nat.le_refl _) b6).setCell (p := ⟨g, 7, none⟩) (Nat.le_refl _) b7).setCell (p := ⟨g, 8, none⟩) (Nat.le_refl _) b8
set_option maxRecDepth 20000 in
set_option maxHeartbeats 16000000 in
theorem recover_any (j : Nat) (Bs : List UInt8) (F : Int) (l : List (List UInt8)) (w : World) (hJ : JAt w j Bs F) (hB : Bs.length ≤ 4000000) (hl : (scanL Bs).1 = l) (hs : ShortL l) (hT : Tabs w) (hW : Words w) (hp : Tab w) :
    Calls Tryz.prog 21 #[.pointer (some ⟨j, 0, none⟩)] w (RecovSaid l w) := by
  have HB := hid hB
  have HS := hid hs
  have b0 : Below w.heap.size w (w.alloc (.cells #[.string ⟨#[]⟩, .string ⟨#[]⟩, .int .u64 0, .int .i64 0, .int .i64 0, .slice none 0 0, .bool false, .slice none 0 0, .slice none 0 0] 27)) := (Below.refl _ _).alloc (Nat.le_refl _) _
  have HC := Has.new w #[.string ⟨#[]⟩, .string ⟨#[]⟩, .int .u64 0, .int .i64 0, .int .i64 0, .slice none 0 0, .bool false, .slice none 0 0, .slice none 0 0] 27
  have hJ0 := hJ.below b0 (Nat.le_refl _)
  have hTw := hid (fun (w' : World) (hb : Below w.heap.size w w') => hT.below hb)
  have hWw := hid (fun (w' : World) (hb : Below w.heap.size w w') => hW.below hb (Nat.le_refl _))
  have hpw := hid (fun (w' : World) (hb : Below w.heap.size w w') => tab_below hp hb (Nat.le_refl _))
  clear hB hs hT hW hp
  go_enter Tryz.func21, Tryz.ntmps21
  go_wp2_with fail
  refine (right_any j Bs F _ hJ0).mono ?_
  rintro e w1 ⟨rfl, rfl⟩
  go_wp2_with fail
  refine (payloads_any j Bs F _ hJ0 HB.out).mono ?_
  rintro e w1 ⟨v, rfl, own1, o1⟩
  rw [hl] at own1
  obtain ⟨a1, c1, rfl, r1⟩ := RowS.ofOwn own1
  have hlt1 := hid own1
  have HC1 := HC.below o1 HC.lt
  have b1 := b0.trans (o1.mono b0.size)
  have hcw : w.heap.size < w1.heap.size := HC1.lt
  clear HC b0 o1 hJ0 hJ own1
  by_cases h0 : l.length = 0
  · have hl0 : l = [] := List.eq_nil_of_length_eq_zero h0
    have hre := hid (recovR_bad (l := l) (g := 21) (by rw [hl0]; rfl) (fun r hr e => payL_ne r (e.trans hl0)))
    have h0b : (((l.length : Nat) : Int) == 0) = true := by rw [h0]; rfl
    clear hl0 h0
    have k0 := HC1.cell (j := 0) rfl
    have k1 := HC1.cell (j := 1) rfl
    have k2 := HC1.cell (j := 2) rfl
    have k3 := HC1.cell (j := 3) rfl
    have k4 := HC1.cell (j := 4) rfl
    have k5 := HC1.cell (j := 5) rfl
    have k6 := HC1.cell (j := 6) rfl
    have k7 := HC1.cell (j := 7) rfl
    have k8 := HC1.cell (j := 8) rfl
    have f0 := HC1.free 0
    have f1 := HC1.free 1
    have f2 := HC1.free 2
    have f3 := HC1.free 3
    have f4 := HC1.free 4
    have f5 := HC1.free 5
    have f6 := HC1.free 6
    have f7 := HC1.free 7
    have f8 := HC1.free 8
    have HF := Has.nine HC1 (.string ⟨#[]⟩) (.string ⟨#[]⟩) (.int .u64 0) (.int .i64 0) (.int .i64 0) (.slice none 0 0) (.bool false) (.slice none 0 0) (.slice none 0 0)
    have hO := nine_below w1 w.heap.size (.string ⟨#[]⟩) (.string ⟨#[]⟩) (.int .u64 0) (.int .i64 0) (.int .i64 0) (.slice none 0 0) (.bool false) (.slice none 0 0) (.slice none 0 0)
    have hbb := hid (b1)
    go_wp2_with fail
    obtain ⟨wF, eF⟩ : ∃ wF, wF = nine w1 w.heap.size (.string ⟨#[]⟩) (.string ⟨#[]⟩) (.int .u64 0) (.int .i64 0) (.int .i64 0) (.slice none 0 0) (.bool false) (.slice none 0 0) (.slice none 0 0) := ⟨_, rfl⟩
    rw [← eF] at hO
    unfold nine at eF
    rw [← eF] at HF ⊢
    clear eF
    have r0 := HF.cell (j := 0) rfl
    have r1 := HF.cell (j := 1) rfl
    have r2 := HF.cell (j := 2) rfl
    have r3 := HF.cell (j := 3) rfl
    have r4 := HF.cell (j := 4) rfl
    have r5 := HF.cell (j := 5) rfl
    have r6 := HF.cell (j := 6) rfl
    have r7 := HF.cell (j := 7) rfl
    have r8 := HF.cell (j := 8) rfl
    exact bodyPost_ret (v := .tuple #[.agg #[.string ⟨#[]⟩, .string ⟨#[]⟩, .int .u64 0, .int .i64 0, .int .i64 0, .slice none 0 0, .bool false, .slice none 0 0, .slice none 0 0], .int .i64 21]) (by simp [results, Tryz.results21, go_sem, r0, r1, r2, r3, r4, r5, r6, r7, r8]) rfl (zero_said (hbb.out.trans hO) hre.out)
  · have h0b : (((l.length : Nat) : Int) == 0) = false := by rw [beq_eq_false_iff_ne]; omega
    have hll := HS.out.1
    have hps := hid HS.out.2.1
    obtain ⟨b, o, rfl⟩ := r1.head (by omega)
    have hbl : b < w1.heap.size := by
      obtain ⟨b', o', e, hc⟩ := r1 0 (by omega)
      cases e
      exact lt_of_cell hc
    have hcap : l.length ≤ c1 := (ownsRow_cap hlt1.out).1
    have hcmx : (c1 : Int) ≤ 9223372036854775807 := (ownsRow_cap hlt1.out).2
    have HX := Has.new w1 #[.string ⟨#[]⟩, .string ⟨#[]⟩, .int .u64 0, .int .i64 0, .int .i64 0, .slice none 0 0, .bool false, .slice none 0 0, .slice none 0 0, .bool true] 81
    have b2 := b1.alloc b1.size (.cells #[.string ⟨#[]⟩, .string ⟨#[]⟩, .int .u64 0, .int .i64 0, .int .i64 0, .slice none 0 0, .bool false, .slice none 0 0, .slice none 0 0, .bool true] 81)
    have HC2 := HC1.alloc (.cells #[.string ⟨#[]⟩, .string ⟨#[]⟩, .int .u64 0, .int .i64 0, .int .i64 0, .slice none 0 0, .bool false, .slice none 0 0, .slice none 0 0, .bool true] 81)
    have r2 := r1.below ((Below.refl w1.heap.size w1).alloc (Nat.le_refl _) (.cells #[.string ⟨#[]⟩, .string ⟨#[]⟩, .int .u64 0, .int .i64 0, .int .i64 0, .slice none 0 0, .bool false, .slice none 0 0, .slice none 0 0, .bool true] 81)) (Nat.le_refl _)
    obtain ⟨w2, ew2⟩ : ∃ w2, w2 = w1.alloc (.cells #[.string ⟨#[]⟩, .string ⟨#[]⟩, .int .u64 0, .int .i64 0, .int .i64 0, .slice none 0 0, .bool false, .slice none 0 0, .slice none 0 0, .bool true] 81) := ⟨_, rfl⟩
    have hs2 : w2.heap.size = w1.heap.size + 1 := by rw [ew2]; simp
    rw [← ew2] at HX b2 HC2 r2
    obtain ⟨x, ex⟩ : ∃ x, x = w1.heap.size := ⟨_, rfl⟩
    rw [← ex] at HX hs2 hbl
    have d0 : w2.cell? ⟨b, o + 0, none⟩ = some (.string ⟨(l.getD 0 []).toArray⟩) := by
      obtain ⟨b', o', e, hc⟩ := r2 0 (by omega)
      cases e
      exact hc
    rw [Nat.add_zero] at d0
    have hp0 : (⟨(l.getD 0 []).toArray⟩ : ByteArray).size ≤ 60000 := by
      rw [bsize, List.getD_eq_getElem?_getD, List.getElem?_eq_getElem (show 0 < l.length by omega)]
      exact hps.out _ (List.getElem_mem _)
    obtain ⟨m, hm⟩ := (hTw.out w2 b2).max
    have HX' := hid HX
    have HC' := hid HC2
    have r2' := hid r2
    have B2 := hid b2
    have hR1 := hid hlt1
    clear HX HC2 r1 r2 b2 b1 HC1 hlt1
    have hew := hid ew2
    have hex := hid ex
    have d0' : (w1.alloc (.cells #[.string ⟨#[]⟩, .string ⟨#[]⟩, .int .u64 0, .int .i64 0, .int .i64 0, .slice none 0 0, .bool false, .slice none 0 0, .slice none 0 0, .bool true] 81)).cell? ⟨b, o, none⟩ = some (.string ⟨(l.getD 0 []).toArray⟩) := by rw [← hew.out]; exact d0
    clear ew2 ex
    go_wp2_with fail
    rw [← hew.out]
    refine (split_byte 32 ⟨(l.getD 0 []).toArray⟩ w2 m (by omega) hm).mono ?_
    rintro e w3 ⟨⟨v3, ws, rfl, ⟨bw, rfl, hbw, HW3, hsm⟩, hwn, hwq⟩, o3⟩
    have HX3 := HX'.out.below o3 HX'.out.lt
    have HC3 := hid (HC'.out.below o3 HC'.out.lt)
    have r3 := hid (r2'.out.below o3 (Nat.le_refl _))
    have B3 := hid (B2.out.trans (o3.mono B2.out.size))
    have o3s := o3.size
    have hwq := hid hwq
    clear d0 d0' hm HX' HC' r2' o3
    have q1 : ∀ s ∈ ws, s.size ≤ 100000 := fun s hs => by have := hsm s hs; omega
    have hxl : x < w2.heap.size := by omega
    have T3 := hTw.out w3 B3.out
    have hwx : w.heap.size < x := by rw [hex.out]; exact hcw
    go_wp2_with fail
    rw [← hex.out]
    refine (begin_any x bw ws w3 HX3 HW3 (by omega) q1 (by omega) T3).mono ?_
    rintro e w4 ⟨rfl, ⟨nm, tx, sd, st, ck, ok, HX4, hnm, htx, hsd, hhs⟩, O4⟩
    have HC4 := hid (HC3.out.only O4 (by simp; omega))
    have r4 := hid (r3.out.only O4 (fun b' o' e => by cases e; simp; omega))
    have B4 := hid (O4.toBelow B3.out (by simp; omega) B3.out.size)
    have o4s := O4.size
    have hI4 : RecInv l (x + 1) x w4 0 w4 ⟨nm, tx, sd, st, ck, [], false, [], []⟩ (.slice none 0 0) (.slice none 0 0) ok :=
      ⟨⟨HX4, OwnM.nil _ _ _ _ _, OwnL.nil _ _ _ _, rfl, by omega, by omega, (fun _ hy => nomatch hy), fun _ => ⟨rfl, rfl⟩⟩, ReadInv.first (p := l.getD 0 []) (by rw [List.getD_eq_getElem?_getD, List.getElem?_eq_getElem (show 0 < l.length by omega)]; rfl) (by have := hwq.out; simpa using this) hhs, Nat.zero_le _, (fun _ hy => nomatch hy), Below.refl _ _, hnm, htx, hsd.1, hsd.2⟩
    have hI4' := hid hI4
    clear hI4 HX3 HC3 r3 B3 HW3 hsm q1 HX4 hhs O4 T3 hwq hnm htx hsd
    obtain ⟨n, en⟩ : ∃ n, n = l.length := ⟨_, rfl⟩
    have hnl := hid en
    rw [← en] at h0b hll hcap
    rw [← en]
    have hn1 : 1 ≤ n := by omega
    clear en
    obtain ⟨o', ho'⟩ : ∃ o', o' = if c1 = 1 then o else o + 1 := ⟨_, rfl⟩
    have hSl : ∀ wx, (Instr.slice 32 (.slice (some ⟨b, o, none⟩) n c1) (some (.int .i64 1)) none none).run Tryz.prog wx = .ok (.slice (some ⟨b, o', none⟩) (n - 1) (c1 - 1)) wx := fun wx => by
      rw [slice_l Tryz.prog wx 32 _ n c1 Tryz.underlying32 hn1]
      rw [ho']
      by_cases hc1 : c1 = 1
      · simp [hc1, go_sem]
      · simp [hc1, go_sem]
    have hat := hid (show ∀ (wx : World), Below x w4 wx → ∀ q, q < n - 1 → wx.cell? ⟨b, o' + q, none⟩ = some (.string ⟨(l.getD (q + 1) []).toArray⟩) from fun wx hb q hq => by
      obtain ⟨b', o2, e, hc⟩ := r4.out (q + 1) (by rw [← hnl.out]; omega)
      cases e
      have hc2 := (hb.cell (p := ⟨b, o + (q + 1), none⟩) hbl).trans hc
      rw [ho', if_neg (show ¬ c1 = 1 by omega), show o + 1 + q = o + (q + 1) by omega]
      exact hc2)
    clear ho'
    go_wp2_with fail
    go_loopw [29] (fun i wr => ∃ q : Nat, q ≤ n - 1 ∧ i = .int .i64 q ∧ ∃ rr vr vg ok, Hid (RecInv l (x + 1) x w4 q wr rr vr vg ok)) (fun i _ => (n - 1) - (intOf i).toNat)
    case atStart => exact ⟨0, Nat.zero_le _, rfl, _, _, _, _, hI4'⟩
    case round =>
      clear hI4'
      obtain ⟨q, hq, rfl, rr, vr, vg, ok, hI⟩ := hrel
      by_cases hqn : q < n - 1
      · have hq0 : (0 : Int) ≤ q := by omega
        have hqi : (q : Int) < ((n - 1 : Nat) : Int) := by omega
        have hx1 := hid hI.out.2.2.2.2.1
        have hat1 := hat.out wr hx1.out q hqn
        have hlq := hid (show q + 1 < l.length by rw [← hnl.out]; omega)
        have hpq := hid (show l[q + 1]? = some (l.getD (q + 1) []) by rw [List.getD_eq_getElem?_getD, List.getElem?_eq_getElem hlq.out]; rfl)
        have hpz : (l.getD (q + 1) []).length ≤ 60000 := hps.out _ (by
          rw [List.getD_eq_getElem?_getD, List.getElem?_eq_getElem hlq.out]
          exact List.getElem_mem _)
        obtain ⟨s, es⟩ : ∃ s : ByteArray, s = ⟨(l.getD (q + 1) []).toArray⟩ := ⟨_, rfl⟩
        rw [← es] at hat1
        have hss : s.size ≤ 60000 := by rw [es, bsize]; exact hpz
        have hsl := hid (show s.data.toList = l.getD (q + 1) [] by rw [es])
        have B5 := hid (B4.out.trans (hx1.out.mono (by omega)))
        obtain ⟨m2, hm2⟩ := (hTw.out wr B5.out).max
        clear es hpz
        go_wp2_with fail
        refine (split_byte 32 s wr m2 (by omega) hm2).mono ?_
        rintro e w6 ⟨⟨v6, ws6, rfl, ⟨b6, rfl, hb6, HW6, hsm6⟩, hwn6, hwq6⟩, o6⟩
        have hR6 := hI.out.1.below o6
        have hx6 := hx1.out.trans (o6.mono (by have := hI.out.1.base; omega))
        have hwq6' := hid hwq6
        have hsm6' := hid hsm6
        have hrl : rr.rounds.length ≤ 100000 := by have := hI.out.2.2.1; omega
        have hT6 : ∀ w', Below x w6 w' → Tabs w' := fun w' hb => hTw.out w' ((B4.out.trans (hx6.mono (by omega))).trans (hb.mono (by omega)))
        have hW6 : ∀ w', Below x w6 w' → Words w' := fun w' hb => hWw.out w' ((B4.out.trans (hx6.mono (by omega))).trans (hb.mono (by omega)))
        have hx6' := hid hx6
        have hq6 : ∀ s' ∈ ws6, s'.size ≤ 100000 := fun s' hs' => by have := hsm6 s' hs'; omega
        have hN6 := next_any (x + 1) x b6 ws6 rr vr vg ok w6 hR6 hrl HW6 hq6 (by omega) hT6 hW6
        clear hat1 hm2 hwq6 hsm6 HW6 hT6 hW6 hq6 hx6 o6 hR6
        have hN6' := hid hN6
        clear hN6
        go_wp2_with fail
        refine hN6'.out.mono ?_
        rintro e w7 ⟨rfl, ⟨rr7, vr7, vg7, ok7, hR7, hsays⟩, o7⟩
        have hI7 := hid (show RecInv l (x + 1) x w4 (q + 1) w7 rr7 vr7 vg7 ok7 from by
          obtain ⟨_, i2, i3, i4, i5, i6, i7, i8, i9⟩ := hI.out
          have hnx := hsays
          obtain ⟨n1, _, _, n4, n5, n6, n7⟩ := hsays
          refine ⟨hR7, i2.next hpq.out (by rw [hwq6'.out, hsl.out]) hnx, by omega, fun y hy => ?_, hx6'.out.trans o7, by rw [n4]; exact i6, by rw [n5]; exact i7, by rw [n6]; exact i8, by rw [n6]; exact i9⟩
          rcases n7 y hy with hy | ⟨z, hz, hyz⟩
          · exact i4 y hy
          · obtain ⟨z', hz', rfl⟩ := List.mem_map.1 hz
            have h1 := hsm6'.out z' hz'
            refine ⟨l.getD (q + 1) [], by rw [List.getD_eq_getElem?_getD, List.getElem?_eq_getElem hlq.out]; exact List.getElem_mem _, ?_⟩
            have h2 : z'.data.toList.length = z'.size := Array.length_toList
            have h3 : s.data.toList.length = s.size := Array.length_toList
            rw [hsl.out] at h3
            omega)
        clear hN6' hR7 hsays o7
        go_wp2
        go_roundw
        case rel => exact ⟨q + 1, by omega, by go_num, _, _, _, _, hI7⟩
        case measure => simp [intOf]; omega
      · obtain rfl : q = n - 1 := by omega
        obtain ⟨i1, i2, i3, i4, i5, i6, i7, i8, i9⟩ := hI.out
        have hqi : ¬ ((n - 1 : Nat) : Int) < ((n - 1 : Nat) : Int) := by omega
        have B7 := hid (B4.out.trans (i5.mono (by omega)))
        have HC7 := HC4.out.below i5 (by omega)
        have R7 := r4.out.belowB i5 (fun b' o' e => by cases e; exact hbl)
        have c9 := i1.has.cell (j := 9) rfl
        rw [hnl.out] at i2
        have i2' := hid i2
        cases ok
        · have hre := hid (show RecovR l zeroR 1 from recovR_bad (by
            have hle : l.isEmpty = false := by cases l with | nil => simp at hnl; have := hnl.out; omega | cons _ _ => rfl
            rw [hle]; rfl) (fun r hr e => by obtain ⟨h, _⟩ := i2'.out r hr e; cases h))
          clear i2 hI i3 i4 i6 i7 i8 i9
          have k0 := HC7.cell (j := 0) rfl
          have f0 := HC7.free 0
          have k1 := HC7.cell (j := 1) rfl
          have f1 := HC7.free 1
          have k2 := HC7.cell (j := 2) rfl
          have f2 := HC7.free 2
          have k3 := HC7.cell (j := 3) rfl
          have f3 := HC7.free 3
          have k4 := HC7.cell (j := 4) rfl
          have f4 := HC7.free 4
          have k5 := HC7.cell (j := 5) rfl
          have f5 := HC7.free 5
          have k6 := HC7.cell (j := 6) rfl
          have f6 := HC7.free 6
          have k7 := HC7.cell (j := 7) rfl
          have f7 := HC7.free 7
          have k8 := HC7.cell (j := 8) rfl
          have f8 := HC7.free 8
          have HF := Has.nine HC7 (.string ⟨#[]⟩) (.string ⟨#[]⟩) (.int .u64 0) (.int .i64 0) (.int .i64 0) (.slice none 0 0) (.bool false) (.slice none 0 0) (.slice none 0 0)
          have hO := nine_below wr w.heap.size (.string ⟨#[]⟩) (.string ⟨#[]⟩) (.int .u64 0) (.int .i64 0) (.int .i64 0) (.slice none 0 0) (.bool false) (.slice none 0 0) (.slice none 0 0)
          have hOn := nine_only wr w.heap.size (.string ⟨#[]⟩) (.string ⟨#[]⟩) (.int .u64 0) (.int .i64 0) (.int .i64 0) (.slice none 0 0) (.bool false) (.slice none 0 0) (.slice none 0 0)
          have hbb := hid (B7.out)
          go_wp2_with fail
          obtain ⟨wF, eF⟩ : ∃ wF, wF = nine wr w.heap.size (.string ⟨#[]⟩) (.string ⟨#[]⟩) (.int .u64 0) (.int .i64 0) (.int .i64 0) (.slice none 0 0) (.bool false) (.slice none 0 0) (.slice none 0 0) := ⟨_, rfl⟩
          rw [← eF] at hO hOn
          unfold nine at eF
          rw [← eF] at HF ⊢
          clear eF
          have r0 := HF.cell (j := 0) rfl
          have r1 := HF.cell (j := 1) rfl
          have r2 := HF.cell (j := 2) rfl
          have r3 := HF.cell (j := 3) rfl
          have r4 := HF.cell (j := 4) rfl
          have r5 := HF.cell (j := 5) rfl
          have r6 := HF.cell (j := 6) rfl
          have r7 := HF.cell (j := 7) rfl
          have r8 := HF.cell (j := 8) rfl
          exact bodyPost_ret (v := .tuple #[.agg #[.string ⟨#[]⟩, .string ⟨#[]⟩, .int .u64 0, .int .i64 0, .int .i64 0, .slice none 0 0, .bool false, .slice none 0 0, .slice none 0 0], .int .i64 1]) (by simp [results, Tryz.results21, go_sem, r0, r1, r2, r3, r4, r5, r6, r7, r8]) rfl (zero_said (hbb.out.trans hO) hre.out)
        · skip
          obtain ⟨ar, cr, rfl⟩ := i1.rounds.shape
          obtain ⟨ag, cg, rfl, _⟩ := i1.goals.slice
          have hRd : RndsAt wr ar rr.rounds.length cr rr.rounds := RndsAt.ofLst (i1.rounds.reads wr (.refl _ _))
          have hseat : seatsL rr.rounds ≤ 1000 := by
            have hm : ∀ y ∈ rr.rounds, y.faults.length ≤ 1000 := fun y hy => by
              rcases HS.out.2.2 with h | ⟨r, hr, er⟩
              · obtain ⟨p, hp, hy⟩ := i4 y hy
                have := h p hp; omega
              · have h1 := (i2'.out r hr er).2
                rw [h1] at hy
                have h2 := hr.parts.2.2.2.2.2.1 y (List.mem_of_mem_take hy)
                unfold roundB at h2
                simp only [Bool.and_eq_true, decide_eq_true_eq] at h2
                omega
            cases hrr : rr.rounds with
            | nil => exact Nat.zero_le _
            | cons y _ => exact hm y (by rw [hrr]; simp)
          have i1' := hid i1
          have c5 := i1.has.cell (j := 5) rfl
          have i8' := hid i8
          have i9' := hid i9
          have i6' := hid i6
          have i7' := hid i7
          have hwr := i1.base
          have hrl : rr.rounds.length ≤ 1000 := by omega
          have hwx4 := i5.size
          clear i1 i2 i3 i4 i6 i7 i8 i9 hI
          go_wp2_with fail
          refine (jexcl_any ar rr.rounds.length cr rr.rounds _ hRd hrl hseat).mono ?_
          rintro e w8 ⟨v8, rfl, own8, o8⟩
          obtain ⟨a8, c8, rfl, _⟩ := own8.slice
          have H8 := i1'.out.has.below o8 i1'.out.has.lt
          have y8 := H8.cell (j := 8) rfl
          have z8 := H8.free 8
          have o8s := o8.size
          have H9 : Has (w8.setCell ⟨x, 8, none⟩ (.slice a8 (exclL rr.rounds).length c8)) x #[.string rr.name, .string rr.text, .int .u64 rr.seed, .int .i64 rr.start, .int .i64 rr.clock, .slice ar rr.rounds.length cr, .bool rr.ended, .slice ag rr.goals.length cg, .slice a8 (exclL rr.rounds).length c8, .bool true] 81 := H8.set 8 (.slice a8 (exclL rr.rounds).length c8)
          have hS9 := (Only.refl [x] w8).setIn (b := x) (o := 8) (by simp) (.slice a8 (exclL rr.rounds).length c8)
          have hO9 : OwnR (x + 1) (w8.setCell ⟨x, 8, none⟩ (.slice a8 (exclL rr.rounds).length c8)) { rr with excl := exclL rr.rounds } (.slice ar rr.rounds.length cr) (.slice ag rr.goals.length cg) (.slice a8 (exclL rr.rounds).length c8) :=
            ⟨(i1'.out.rounds.below o8 (Nat.le_refl _)).only hS9 (by simp), (i1'.out.goals.below o8 (Nat.le_refl _)).only hS9 (by simp), (own8.rebase hwr).only hS9 (by simp), i6'.out, i7'.out⟩
          have b9 : Below x wr (w8.setCell ⟨x, 8, none⟩ (.slice a8 (exclL rr.rounds).length c8)) := (o8.mono (show x ≤ wr.heap.size by have h5 : x + 1 ≤ wr.heap.size := hwr; omega)).setCell (p := ⟨x, 8, none⟩) (Nat.le_refl _) _
          have B9 := hid (B7.out.trans (b9.mono (by omega)))
          have HC9 := HC7.below b9 (by omega)
          have R9 := R7.belowB b9 (fun b' o' e => by cases e; exact hbl)
          have H9' := hid H9
          have hO9' := hid hO9
          have q0 := H9.cell (j := 0) rfl
          have q1 := H9.cell (j := 1) rfl
          have q2 := H9.cell (j := 2) rfl
          have q3 := H9.cell (j := 3) rfl
          have q4 := H9.cell (j := 4) rfl
          have q5 := H9.cell (j := 5) rfl
          have q6 := H9.cell (j := 6) rfl
          have q7 := H9.cell (j := 7) rfl
          have q8 := H9.cell (j := 8) rfl
          clear H8 own8 o8 H9 hO9 hS9 HC7 R7 hRd c5 i5
          go_wp2_with fail
          obtain ⟨w9, ew9⟩ : ∃ w9, w9 = w8.setCell ⟨x, 8, none⟩ (.slice a8 (exclL rr.rounds).length c8) := ⟨_, rfl⟩
          rw [← ew9] at H9' hO9' B9 HC9 R9 b9 ⊢
          clear ew9 y8 z8 q0 q1 q2 q3 q4 q5 q6 q7 q8
          have hRec9 := hO9'.out.at
          refine (formed_any { rr with excl := exclL rr.rounds } ar rr.rounds.length cr ag rr.goals.length cg a8 (exclL rr.rounds).length c8 w9 hRec9).mono ?_
          rintro e w10 ⟨rfl, o10⟩
          have H10 := hid (H9'.out.below o10 H9'.out.lt)
          have hO10 := hid (hO9'.out.below o10)
          have B10 := hid (B9.out.trans (o10.mono B9.out.size))
          have HC10 := HC9.below o10 HC9.lt
          have R10 := R9.below o10 (Nat.le_refl _)
          clear HC9 R9 H9' hO9' hRec9
          by_cases hwf : wfB { rr with excl := exclL rr.rounds } = true
          · rw [hwf]
            have hwf' := hid hwf
            clear hwf
            have q0 := H10.out.cell (j := 0) rfl
            have q1 := H10.out.cell (j := 1) rfl
            have q2 := H10.out.cell (j := 2) rfl
            have q3 := H10.out.cell (j := 3) rfl
            have q4 := H10.out.cell (j := 4) rfl
            have q5 := H10.out.cell (j := 5) rfl
            have q6 := H10.out.cell (j := 6) rfl
            have q7 := H10.out.cell (j := 7) rfl
            have q8 := H10.out.cell (j := 8) rfl
            go_wp2_with fail
            refine (jpay_any { rr with excl := exclL rr.rounds } ar rr.rounds.length cr ag rr.goals.length cg a8 (exclL rr.rounds).length c8 w10 hO10.out.at (fine_of hwf'.out ⟨i8'.out, i9'.out⟩) (hpw.out w10 B10.out)).mono ?_
            rintro e w11 ⟨v11, rfl, own11, o11⟩
            obtain ⟨a11, c11, rfl, h11⟩ := own11.slice
            have H11 := hid (H10.out.below o11 H10.out.lt)
            have hO11 := hid (hO10.out.below o11)
            have B11 := hid (B10.out.trans (o11.mono B10.out.size))
            have HC11 := HC10.below o11 HC10.lt
            have R11 := R10.below o11 (Nat.le_refl _)
            have hE := equal_any a11 (some ⟨b, o, none⟩) c11 c1 (payL { rr with excl := exclL rr.rounds }) l w11 (RowS.ofHeld h11) R11 (by have := payL_len2 { rr with excl := exclL rr.rounds }; simp only at this; omega) (by rw [← hnl.out]; omega)
            rw [← hnl.out] at hE
            have hE' := hid hE
            clear hE own11 h11 HC10 q0 q1 q2 q3 q4 q5 q6 q7 q8
            go_wp2_with fail
            refine hE'.out.mono ?_
            rintro e w12 ⟨rfl, o12⟩
            have H12 := hid (H11.out.below o12 H11.out.lt)
            have hO12 := hid (hO11.out.below o12)
            have B12 := hid (B11.out.trans (o12.mono B11.out.size))
            have HC12 := HC11.below o12 HC11.lt
            have s12 := B12.out.size
            clear hE' HC11
            by_cases heq : payL { rr with excl := exclL rr.rounds } = l
            · rw [decide_eq_true heq]
              have hre := hid (show RecovR l { rr with excl := exclL rr.rounds } 0 from ⟨fun r hr e => ⟨rfl, (i2'.out.last hr e).2⟩, Or.inl ⟨rfl, ⟨hwf'.out, i8'.out, i9'.out⟩, heq⟩⟩)
              clear heq
              have q0 := H12.out.cell (j := 0) rfl
              have q1 := H12.out.cell (j := 1) rfl
              have q2 := H12.out.cell (j := 2) rfl
              have q3 := H12.out.cell (j := 3) rfl
              have q4 := H12.out.cell (j := 4) rfl
              have q5 := H12.out.cell (j := 5) rfl
              have q6 := H12.out.cell (j := 6) rfl
              have q7 := H12.out.cell (j := 7) rfl
              have q8 := H12.out.cell (j := 8) rfl
              have k0 := HC12.cell (j := 0) rfl
              have f0 := HC12.free 0
              have k1 := HC12.cell (j := 1) rfl
              have f1 := HC12.free 1
              have k2 := HC12.cell (j := 2) rfl
              have f2 := HC12.free 2
              have k3 := HC12.cell (j := 3) rfl
              have f3 := HC12.free 3
              have k4 := HC12.cell (j := 4) rfl
              have f4 := HC12.free 4
              have k5 := HC12.cell (j := 5) rfl
              have f5 := HC12.free 5
              have k6 := HC12.cell (j := 6) rfl
              have f6 := HC12.free 6
              have k7 := HC12.cell (j := 7) rfl
              have f7 := HC12.free 7
              have k8 := HC12.cell (j := 8) rfl
              have f8 := HC12.free 8
              have HF := Has.nine HC12 (.string rr.name) (.string rr.text) (.int .u64 rr.seed) (.int .i64 rr.start) (.int .i64 rr.clock) (.slice ar rr.rounds.length cr) (.bool rr.ended) (.slice ag rr.goals.length cg) (.slice a8 (exclL rr.rounds).length c8)
              have hO := nine_below w12 w.heap.size (.string rr.name) (.string rr.text) (.int .u64 rr.seed) (.int .i64 rr.start) (.int .i64 rr.clock) (.slice ar rr.rounds.length cr) (.bool rr.ended) (.slice ag rr.goals.length cg) (.slice a8 (exclL rr.rounds).length c8)
              have hOn := nine_only w12 w.heap.size (.string rr.name) (.string rr.text) (.int .u64 rr.seed) (.int .i64 rr.start) (.int .i64 rr.clock) (.slice ar rr.rounds.length cr) (.bool rr.ended) (.slice ag rr.goals.length cg) (.slice a8 (exclL rr.rounds).length c8)
              have hbb := hid (B12.out)
              go_wp2_with fail
              obtain ⟨wF, eF⟩ : ∃ wF, wF = nine w12 w.heap.size (.string rr.name) (.string rr.text) (.int .u64 rr.seed) (.int .i64 rr.start) (.int .i64 rr.clock) (.slice ar rr.rounds.length cr) (.bool rr.ended) (.slice ag rr.goals.length cg) (.slice a8 (exclL rr.rounds).length c8) := ⟨_, rfl⟩
              rw [← eF] at hO hOn
              unfold nine at eF
              rw [← eF] at HF ⊢
              clear eF
              have r0 := HF.cell (j := 0) rfl
              have r1 := HF.cell (j := 1) rfl
              have r2 := HF.cell (j := 2) rfl
              have r3 := HF.cell (j := 3) rfl
              have r4 := HF.cell (j := 4) rfl
              have r5 := HF.cell (j := 5) rfl
              have r6 := HF.cell (j := 6) rfl
              have r7 := HF.cell (j := 7) rfl
              have r8 := HF.cell (j := 8) rfl
              exact bodyPost_ret (v := .tuple #[.agg #[.string rr.name, .string rr.text, .int .u64 rr.seed, .int .i64 rr.start, .int .i64 rr.clock, .slice ar rr.rounds.length cr, .bool rr.ended, .slice ag rr.goals.length cg, .slice a8 (exclL rr.rounds).length c8], .int .i64 0]) (by simp [results, Tryz.results21, go_sem, r0, r1, r2, r3, r4, r5, r6, r7, r8]) rfl (⟨⟨{ rr with excl := exclL rr.rounds }, ar, rr.rounds.length, cr, ag, rr.goals.length, cg, a8, (exclL rr.rounds).length, c8, 0, rfl, (hO12.out.only hOn (by simp; omega)).at, hre.out⟩, hbb.out.trans hO⟩)
            · rw [decide_eq_false heq]
              have hre := hid (show RecovR l zeroR 1 from recovR_bad (by
                have hle : l.isEmpty = false := by cases l with | nil => simp at hnl; have := hnl.out; omega | cons _ _ => rfl
                rw [hle]; rfl) (fun r hr e => heq (by rw [(i2'.out.last hr e).2]; exact e)))
              clear heq
              have k0 := HC12.cell (j := 0) rfl
              have f0 := HC12.free 0
              have k1 := HC12.cell (j := 1) rfl
              have f1 := HC12.free 1
              have k2 := HC12.cell (j := 2) rfl
              have f2 := HC12.free 2
              have k3 := HC12.cell (j := 3) rfl
              have f3 := HC12.free 3
              have k4 := HC12.cell (j := 4) rfl
              have f4 := HC12.free 4
              have k5 := HC12.cell (j := 5) rfl
              have f5 := HC12.free 5
              have k6 := HC12.cell (j := 6) rfl
              have f6 := HC12.free 6
              have k7 := HC12.cell (j := 7) rfl
              have f7 := HC12.free 7
              have k8 := HC12.cell (j := 8) rfl
              have f8 := HC12.free 8
              have HF := Has.nine HC12 (.string ⟨#[]⟩) (.string ⟨#[]⟩) (.int .u64 0) (.int .i64 0) (.int .i64 0) (.slice none 0 0) (.bool false) (.slice none 0 0) (.slice none 0 0)
              have hO := nine_below w12 w.heap.size (.string ⟨#[]⟩) (.string ⟨#[]⟩) (.int .u64 0) (.int .i64 0) (.int .i64 0) (.slice none 0 0) (.bool false) (.slice none 0 0) (.slice none 0 0)
              have hOn := nine_only w12 w.heap.size (.string ⟨#[]⟩) (.string ⟨#[]⟩) (.int .u64 0) (.int .i64 0) (.int .i64 0) (.slice none 0 0) (.bool false) (.slice none 0 0) (.slice none 0 0)
              have hbb := hid (B12.out)
              go_wp2_with fail
              obtain ⟨wF, eF⟩ : ∃ wF, wF = nine w12 w.heap.size (.string ⟨#[]⟩) (.string ⟨#[]⟩) (.int .u64 0) (.int .i64 0) (.int .i64 0) (.slice none 0 0) (.bool false) (.slice none 0 0) (.slice none 0 0) := ⟨_, rfl⟩
              rw [← eF] at hO hOn
              unfold nine at eF
              rw [← eF] at HF ⊢
              clear eF
              have r0 := HF.cell (j := 0) rfl
              have r1 := HF.cell (j := 1) rfl
              have r2 := HF.cell (j := 2) rfl
              have r3 := HF.cell (j := 3) rfl
              have r4 := HF.cell (j := 4) rfl
              have r5 := HF.cell (j := 5) rfl
              have r6 := HF.cell (j := 6) rfl
              have r7 := HF.cell (j := 7) rfl
              have r8 := HF.cell (j := 8) rfl
              exact bodyPost_ret (v := .tuple #[.agg #[.string ⟨#[]⟩, .string ⟨#[]⟩, .int .u64 0, .int .i64 0, .int .i64 0, .slice none 0 0, .bool false, .slice none 0 0, .slice none 0 0], .int .i64 1]) (by simp [results, Tryz.results21, go_sem, r0, r1, r2, r3, r4, r5, r6, r7, r8]) rfl (zero_said (hbb.out.trans hO) hre.out)
          · have hwb : wfB { rr with excl := exclL rr.rounds } = false := by simpa using hwf
            rw [hwb]
            have hre := hid (show RecovR l zeroR 1 from recovR_bad (by
              have hle : l.isEmpty = false := by cases l with | nil => simp at hnl; have := hnl.out; omega | cons _ _ => rfl
              rw [hle]; rfl) (fun r hr e => hwf (by rw [(i2'.out.last hr e).2]; exact hr.1)))
            clear hwf hwb
            have k0 := HC10.cell (j := 0) rfl
            have f0 := HC10.free 0
            have k1 := HC10.cell (j := 1) rfl
            have f1 := HC10.free 1
            have k2 := HC10.cell (j := 2) rfl
            have f2 := HC10.free 2
            have k3 := HC10.cell (j := 3) rfl
            have f3 := HC10.free 3
            have k4 := HC10.cell (j := 4) rfl
            have f4 := HC10.free 4
            have k5 := HC10.cell (j := 5) rfl
            have f5 := HC10.free 5
            have k6 := HC10.cell (j := 6) rfl
            have f6 := HC10.free 6
            have k7 := HC10.cell (j := 7) rfl
            have f7 := HC10.free 7
            have k8 := HC10.cell (j := 8) rfl
            have f8 := HC10.free 8
            have HF := Has.nine HC10 (.string ⟨#[]⟩) (.string ⟨#[]⟩) (.int .u64 0) (.int .i64 0) (.int .i64 0) (.slice none 0 0) (.bool false) (.slice none 0 0) (.slice none 0 0)
            have hO := nine_below w10 w.heap.size (.string ⟨#[]⟩) (.string ⟨#[]⟩) (.int .u64 0) (.int .i64 0) (.int .i64 0) (.slice none 0 0) (.bool false) (.slice none 0 0) (.slice none 0 0)
            have hOn := nine_only w10 w.heap.size (.string ⟨#[]⟩) (.string ⟨#[]⟩) (.int .u64 0) (.int .i64 0) (.int .i64 0) (.slice none 0 0) (.bool false) (.slice none 0 0) (.slice none 0 0)
            have hbb := hid (B10.out)
            go_wp2_with fail
            obtain ⟨wF, eF⟩ : ∃ wF, wF = nine w10 w.heap.size (.string ⟨#[]⟩) (.string ⟨#[]⟩) (.int .u64 0) (.int .i64 0) (.int .i64 0) (.slice none 0 0) (.bool false) (.slice none 0 0) (.slice none 0 0) := ⟨_, rfl⟩
            rw [← eF] at hO hOn
            unfold nine at eF
            rw [← eF] at HF ⊢
            clear eF
            have r0 := HF.cell (j := 0) rfl
            have r1 := HF.cell (j := 1) rfl
            have r2 := HF.cell (j := 2) rfl
            have r3 := HF.cell (j := 3) rfl
            have r4 := HF.cell (j := 4) rfl
            have r5 := HF.cell (j := 5) rfl
            have r6 := HF.cell (j := 6) rfl
            have r7 := HF.cell (j := 7) rfl
            have r8 := HF.cell (j := 8) rfl
            exact bodyPost_ret (v := .tuple #[.agg #[.string ⟨#[]⟩, .string ⟨#[]⟩, .int .u64 0, .int .i64 0, .int .i64 0, .slice none 0 0, .bool false, .slice none 0 0, .slice none 0 0], .int .i64 1]) (by simp [results, Tryz.results21, go_sem, r0, r1, r2, r3, r4, r5, r6, r7, r8]) rfl (zero_said (hbb.out.trans hO) hre.out)
end Go.Proofs.YtahbhhenobehfaaGreatDoor
