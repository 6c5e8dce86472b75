/-
  The walks of Append of the reference's journal and of Write of both, on any journal and any record.
-/
import Derived.Test.YtahbhhenobehfaaGreatDoorM40
import Derived.Test.YtahbhhenobehfaaGreatDoorNT18
import Derived.Test.YtahbhhenobehfaaGreatDoorM42
namespace Go.Proofs.YtahbhhenobehfaaGreatDoor
open Go.ChangeShapes Go.WideShapes Go.ChangeAt Go.RowKit

theorem cut_run (B : List UInt8) (k : Nat) (A : Int) (hA : A = (k : Int)) (hk : k ≤ B.length) (wx : World) :
    (Instr.slice 9 (.string ⟨B.toArray⟩) none (some (.int .i64 A)) none).run Tryz.prog wx = .ok (.string ⟨(B.take k).toArray⟩) wx := by
  subst hA
  have h := run_slice_string_h (P := Tryz.prog) (w := wx) (t := 9) (s := ⟨B.toArray⟩) Tryz.underlying9 .i64 (k : Int) (by omega) (by rw [bsize]; omega)
  rw [h]
  have e : (ByteArray.mk B.toArray).extract 0 ((k : Int)).toNat = ⟨(B.take k).toArray⟩ := by
    apply ByteArray.ext
    apply Array.toList_inj.1
    rw [extract_list]
    simp
  rw [e]
theorem add_runB (a b : List UInt8) (h : a.length + b.length ≤ 100000000) (wx : World) : (Op.stringOp .add ⟨a.toArray⟩ ⟨b.toArray⟩).run Tryz.prog wx = .ok (.string ⟨(a ++ b).toArray⟩) wx := by
  rw [run_string_add_sum wx _ _ (by rw [bsize, bsize]; omega)]
  congr 2
set_option maxRecDepth 20000 in
set_option maxHeartbeats 4000000 in
theorem kappend_any (k : Nat) (B : List UInt8) (f : Int) (s : ByteArray) (w : World) (h : KAt w k B f) (hn : B.length ≤ 4000000) (hs : s.size ≤ 60000) :
    Calls Tryz.prog 18 #[.pointer (some ⟨k, 0, none⟩), .string s] w fun e w' => e = .returned (.int .i64 0) ∧ KAt w' k (actB B s.data.toList) (actF B f) ∧ Only [k] w w' := by
  have hkn := kept_le B
  have hsl : Hid (s.data.toList.length = s.size) := hid (by simp)
  go_enter Tryz.func18, Tryz.ntmps18
  go_wp2_with fail
  refine (rframe_short s _ s.size rfl (by omega)).mono ?_
  rintro e w1 ⟨rfl, hb1⟩
  have k1 := Has.below h hb1 (Has.lt h)
  have c0 : w1.cell? ⟨k, 0, none⟩ = some (.string ⟨B.toArray⟩) := k1.cell (j := 0) rfl
  go_wp2_with fail
  refine (rScan_any ⟨B.toArray⟩ _ (by rw [bsize]; exact hn)).mono ?_
  rintro e w2 ⟨v, rfl, hown, hb2⟩
  rw [show (ByteArray.mk B.toArray).data.toList = B from rfl, kept_eq B]
  have hb3 : Below w.heap.size w w2 := hb1.trans (hb2.mono hb1.size)
  have k2 := Has.below h hb3 (Has.lt h)
  have d0 : w2.cell? ⟨k, 0, none⟩ = some (.string ⟨B.toArray⟩) := k2.cell (j := 0) rfl
  have d1 : w2.cell? ⟨k, 1, none⟩ = some (.int .i64 f) := k2.cell (j := 1) rfl
  have g0 := k2.free 0
  have g1 := k2.free 1
  obtain ⟨n, en⟩ : ∃ n, n = kept B := ⟨_, rfl⟩
  rw [← en]
  rw [← en] at hkn
  have En := hid en
  clear en hb1 hb2 k1 c0 hown
  have hc := cut_run B n (n : Int) rfl hkn
  have ha := add_runB (B.take n) (frameL s.data.toList) (by have := hsl.out; simp only [List.length_take, frameL_length]; omega)
  by_cases hfn : f ≤ (n : Int)
  · have hF : Hid (actF B f = f) := hid (by unfold actF; rw [← En.out, if_pos hfn])
    have hmin : min f (n : Int) = f := by omega
    go_wp2
    go_ret
    refine ⟨rfl, ?_, ((Only.ofBelow hb3 (Nat.le_refl _)).setIn (by simp) _).setIn (by simp) _⟩
    unfold KAt actB
    rw [hF.out, ← En.out]
    exact (k2.set 1 (.int .i64 (f))).set 0 (.string ⟨(B.take n ++ frameL s.data.toList).toArray⟩)
  · have hF : Hid (actF B f = (n : Int)) := hid (by unfold actF; rw [← En.out, if_neg hfn])
    have hmin : min f (n : Int) = n := by omega
    go_wp2
    go_ret
    refine ⟨rfl, ?_, ((Only.ofBelow hb3 (Nat.le_refl _)).setIn (by simp) _).setIn (by simp) _⟩
    unfold KAt actB
    rw [hF.out, ← En.out]
    exact (k2.set 1 (.int .i64 ((n : Int)))).set 0 (.string ⟨(B.take n ++ frameL s.data.toList).toArray⟩)
/-- What a Write of r answers, and the bytes behind it. -/
def WrSaid (B : List UInt8) (r : Rec) (g : Int) (B' : List UInt8) : Prop :=
  (wfB r = false ∧ g = 13 ∧ B' = B) ∨ (wfB r = true ∧ begB (payL r) (scanL B).1 = false ∧ g = 27 ∧ B' = B) ∨
  (wfB r = true ∧ begB (payL r) (scanL B).1 = true ∧ g = 0 ∧ (scanL B').1 = payL r ∧ B' = (if (payL r).length = (scanL B).1.length then B else allL (payL r)) ∧ B'.length ≤ 4000000)
theorem WrSaid.same {B : List UInt8} {r : Rec} {g g2 : Int} {B1 B2 : List UInt8} (h : WrSaid B r g B1) (k : WrSaid B r g2 B2) : g = g2 ∧ B1 = B2 := by
  rcases h with ⟨a1, a3, a4⟩ | ⟨a1, a2, a3, a4⟩ | ⟨a1, a2, a3, _, a4, _⟩ <;> rcases k with ⟨b1, b3, b4⟩ | ⟨b1, b2, b3, b4⟩ | ⟨b1, b2, b3, _, b4, _⟩ <;> first
    | exact ⟨a3.trans b3.symm, a4.trans b4.symm⟩
    | exact absurd (a1.symm.trans b1) (by decide)
    | exact absurd (a2.symm.trans b2) (by decide)
theorem wrSaid_of {B : List UInt8} {F : Int} {r : Rec} {k : Nat} {B' : List UInt8} {F' : Int} (hw : wfB r = true) (hb : begB (payL r) (scanL B).1 = true) (hk : k = (scanL B).1.length) (hB : B.length ≤ 4000000) (hP : (allL (payL r)).length ≤ 4000000)
    (h : JInv B F (payL r) k ((payL r).length - k) B' F') : WrSaid B r 0 B' := by
  have hl := h.len hB hP
  obtain ⟨h1, h2, h3, _⟩ := h
  have hle : k ≤ (payL r).length := by
    unfold begB at hb
    simp only [Bool.and_eq_true, decide_eq_true_eq] at hb
    omega
  have e : k + ((payL r).length - k) = (payL r).length := by omega
  rw [e, List.take_length] at h1 h3
  refine Or.inr (Or.inr ⟨hw, hb, rfl, h1, ?_, hl⟩)
  by_cases hn : (payL r).length = (scanL B).1.length
  · rw [if_pos hn]; exact h2 (by omega)
  · rw [if_neg hn]; exact h3 (by omega)
theorem beg_take {l p : List (List UInt8)} (h : begB l p = true) : p.length ≤ l.length ∧ p = l.take p.length := by
  unfold begB at h
  simp only [Bool.and_eq_true, decide_eq_true_eq] at h
  exact ⟨h.1, h.2.symm⟩
/-- What both Writes need of the journal and the record. -/
structure WrFit (B : List UInt8) (r : Rec) : Prop where
  len : B.length ≤ 4000000
  few : (scanL B).1.length ≤ 1000000
  seed : 0 ≤ r.seed ∧ r.seed ≤ 18446744073709551615
  pays : wfB r = true → ∀ p ∈ payL r, p.length ≤ 60000
  all : wfB r = true → (allL (payL r)).length ≤ 4000000
set_option maxRecDepth 20000 in
set_option maxHeartbeats 4000000 in
theorem jwrite_gen (j : Nat) (B : List UInt8) (F : Int) (r : Rec) (ar : Option Addr) (nr cr : Nat) (ag : Option Addr) (ng cg : Nat) (ae : Option Addr) (ne ce : Nat) (w : World)
    (hJ : JAt w j B F) (h : RecAt w r ar nr cr ag ng cg ae ne ce) (hF : WrFit B r) (ht : Tab w) :
    Calls Tryz.prog 9 #[.pointer (some ⟨j, 0, none⟩), .agg #[.string r.name, .string r.text, .int .u64 r.seed, .int .i64 r.start, .int .i64 r.clock, .slice ar nr cr, .bool r.ended, .slice ag ng cg, .slice ae ne ce]] w fun e w' => ∃ g B' F', e = .returned (.int .i64 g) ∧ JAt w' j B' F' ∧ WrSaid B r g B' ∧ Only [j] w w' := by
  by_cases hgood : wfB r = true ∧ begB (payL r) (scanL B).1 = true
  · obtain ⟨hw, hb⟩ := hgood
    obtain ⟨h1, h2⟩ := beg_take hb
    refine (jwrite_any j B F (scanL B).1.length r ar nr cr ag ng cg ae ne ce w hJ h hw (fine_of hw hF.seed) ht h1 h2 hF.len (hF.pays hw) (hF.all hw)).mono ?_
    rintro e w' ⟨rfl, ⟨B', F', hJ', hI⟩, hO⟩
    exact ⟨0, B', F', rfl, hJ', wrSaid_of hw hb rfl hF.len (hF.all hw) hI, hO⟩
  have Hg := hid hgood
  have hjl := hJ.lt
  clear hgood
  have b0 : Below w.heap.size w (w.alloc (.cells #[.string r.name, .string r.text, .int .u64 r.seed, .int .i64 r.start, .int .i64 r.clock, .slice ar nr cr, .bool r.ended, .slice ag ng cg, .slice ae ne ce] 27)) := (Below.refl _ _).alloc (Nat.le_refl _) _
  have H0 := Has.new w #[.string r.name, .string r.text, .int .u64 r.seed, .int .i64 r.start, .int .i64 r.clock, .slice ar nr cr, .bool r.ended, .slice ag ng cg, .slice ae ne ce] 27
  have HF := hid hF
  clear hF
  go_enter Tryz.func9, Tryz.ntmps9
  go_wp2_with fail
  obtain ⟨w0, ew0⟩ : ∃ w0, w0 = w.alloc (.cells #[.string r.name, .string r.text, .int .u64 r.seed, .int .i64 r.start, .int .i64 r.clock, .slice ar nr cr, .bool r.ended, .slice ag ng cg, .slice ae ne ce] 27) := ⟨_, rfl⟩
  rw [← ew0] at b0 H0
  rw [← ew0]
  clear ew0
  have hz : w.heap.size < w0.heap.size := H0.lt
  have hR0 := h.below b0 (Nat.le_refl _)
  have hJ0 := hJ.below b0 (Nat.le_refl _)
  refine (right_any j B F _ hJ0).mono ?_
  rintro e w1 ⟨rfl, rfl⟩
  have c0 := H0.cell (j := 0) rfl
  have c1 := H0.cell (j := 1) rfl
  have c2 := H0.cell (j := 2) rfl
  have c3 := H0.cell (j := 3) rfl
  have c4 := H0.cell (j := 4) rfl
  have c5 := H0.cell (j := 5) rfl
  have c6 := H0.cell (j := 6) rfl
  have c7 := H0.cell (j := 7) rfl
  have c8 := H0.cell (j := 8) rfl
  go_wp2_with fail
  refine (formed_any r ar nr cr ag ng cg ae ne ce _ hR0).mono ?_
  rintro e w2 ⟨rfl, o2⟩
  have H2 := H0.below o2 H0.lt
  have hR2 := hR0.below o2 (Nat.le_refl _)
  have b2 := b0.trans (o2.mono b0.size)
  clear c0 c1 c2 c3 c4 c5 c6 c7 c8
  by_cases hwf : wfB r = true
  · rw [hwf]
    have hwf' := hid hwf
    have hbf := hid (show begB (payL r) (scanL B).1 = false by
      cases hb : begB (payL r) (scanL B).1
      · rfl
      · exact absurd ⟨hwf, hb⟩ Hg.out)
    have T2 := tab_below ht b2 (Nat.le_refl _)
    clear hwf
    have c0 := H2.cell (j := 0) rfl
    have c1 := H2.cell (j := 1) rfl
    have c2 := H2.cell (j := 2) rfl
    have c3 := H2.cell (j := 3) rfl
    have c4 := H2.cell (j := 4) rfl
    have c5 := H2.cell (j := 5) rfl
    have c6 := H2.cell (j := 6) rfl
    have c7 := H2.cell (j := 7) rfl
    have c8 := H2.cell (j := 8) rfl
    go_wp2_with fail
    refine (jpay_any r ar nr cr ag ng cg ae ne ce _ hR2 (fine_of hwf'.out HF.out.seed) T2).mono ?_
    rintro e w3 ⟨v3, rfl, own3, o3⟩
    have b3 := b2.trans (o3.mono b2.size)
    have hJ3 := hJ.below b3 (Nat.le_refl _)
    clear c0 c1 c2 c3 c4 c5 c6 c7 c8
    go_wp2_with fail
    refine (payloads_any j B F _ hJ3 HF.out.len).mono ?_
    rintro e w4 ⟨v4, rfl, hown4, o4⟩
    obtain ⟨a4, c4, rfl, hr4⟩ := RowS.ofOwn hown4
    have own4 := own3.below o4 (Nat.le_refl _)
    have b4 := b3.trans (o4.mono b3.size)
    clear hown4 own3
    obtain ⟨a3, c3, rfl, hx3⟩ := own4.slice
    obtain ⟨b1, o1, rfl⟩ := hx3.head (by have := payL_len r; omega)
    have hle3 := hx3.le
    have hmx3 := hx3.max
    have hG := hid (begins_gen (payL r) (scanL B).1 b1 o1 c3 a4 c4 w4 hle3 hmx3 (by have := payL_len2 r; have := (fine_of hwf'.out HF.out.seed).rounds; omega) HF.out.few (RowS.ofHeld hx3) hr4)
    clear own4 hx3 hr4 hR2 H2 hJ3 T2
    go_wp2_with fail
    refine hG.out.mono ?_
    rintro e w5 ⟨rfl, o5⟩
    rw [hbf.out]
    have b5 := hid (b4.trans (o5.mono b4.size))
    have hJ5 := hid (hJ.below b5.out (Nat.le_refl _))
    clear o5 hJ hG
    go_wp2
    go_ret
    exact ⟨27, B, F, rfl, hJ5.out, Or.inr (Or.inl ⟨hwf'.out, hbf.out, rfl, rfl⟩), Only.ofBelow b5.out (Nat.le_refl _)⟩
  · have hwb : wfB r = false := by simpa using hwf
    rw [hwb]
    have hwb' := hid hwb
    have b2' := hid b2
    have hJ5 := hid (hJ.below b2 (Nat.le_refl _))
    clear hwf hwb o2 hJ b2 hR2 H2 hJ0 hR0 H0
    go_wp2
    go_ret
    exact ⟨13, B, F, rfl, hJ5.out, Or.inl ⟨hwb'.out, rfl, rfl⟩, Only.ofBelow b2'.out (Nat.le_refl _)⟩
set_option maxRecDepth 20000 in
set_option maxHeartbeats 4000000 in
theorem kwrite_gen (j : Nat) (B : List UInt8) (F : Int) (r : Rec) (ar : Option Addr) (nr cr : Nat) (ag : Option Addr) (ng cg : Nat) (ae : Option Addr) (ne ce : Nat) (w : World)
    (hK : KAt w j B F) (h : RecAt w r ar nr cr ag ng cg ae ne ce) (hF : WrFit B r) :
    Calls Tryz.prog 19 #[.pointer (some ⟨j, 0, none⟩), .agg #[.string r.name, .string r.text, .int .u64 r.seed, .int .i64 r.start, .int .i64 r.clock, .slice ar nr cr, .bool r.ended, .slice ag ng cg, .slice ae ne ce]] w fun e w' => ∃ g B' F', e = .returned (.int .i64 g) ∧ KAt w' j B' F' ∧ WrSaid B r g B' ∧ Only [j] w w' := by
  have hjl := Has.lt hK
  have b0 : Below w.heap.size w (w.alloc (.cells #[.string r.name, .string r.text, .int .u64 r.seed, .int .i64 r.start, .int .i64 r.clock, .slice ar nr cr, .bool r.ended, .slice ag ng cg, .slice ae ne ce] 27)) := (Below.refl _ _).alloc (Nat.le_refl _) _
  have H0 := Has.new w #[.string r.name, .string r.text, .int .u64 r.seed, .int .i64 r.start, .int .i64 r.clock, .slice ar nr cr, .bool r.ended, .slice ag ng cg, .slice ae ne ce] 27
  have HF := hid hF
  clear hF
  go_enter Tryz.func19, Tryz.ntmps19
  have c0 := H0.cell (j := 0) rfl
  have c1 := H0.cell (j := 1) rfl
  have c2 := H0.cell (j := 2) rfl
  have c3 := H0.cell (j := 3) rfl
  have c4 := H0.cell (j := 4) rfl
  have c5 := H0.cell (j := 5) rfl
  have c6 := H0.cell (j := 6) rfl
  have c7 := H0.cell (j := 7) rfl
  have c8 := H0.cell (j := 8) rfl
  go_wp2_with fail
  obtain ⟨w0, ew0⟩ : ∃ w0, w0 = w.alloc (.cells #[.string r.name, .string r.text, .int .u64 r.seed, .int .i64 r.start, .int .i64 r.clock, .slice ar nr cr, .bool r.ended, .slice ag ng cg, .slice ae ne ce] 27) := ⟨_, rfl⟩
  rw [← ew0] at b0 H0
  rw [← ew0]
  clear ew0
  have hz : w.heap.size < w0.heap.size := H0.lt
  have hR0 := h.below b0 (Nat.le_refl _)
  refine (wellFormed_any r ar nr cr ag ng cg ae ne ce _ hR0).mono ?_
  rintro e w2 ⟨rfl, o2⟩
  have H2 := H0.below o2 H0.lt
  have hR2 := hR0.below o2 (Nat.le_refl _)
  have b2 := b0.trans (o2.mono b0.size)
  clear c0 c1 c2 c3 c4 c5 c6 c7 c8
  by_cases hwf : wfB r = true
  · rw [hwf]
    have hwf' := hid hwf
    clear hwf
    have c0 := H2.cell (j := 0) rfl
    have c1 := H2.cell (j := 1) rfl
    have c2 := H2.cell (j := 2) rfl
    have c3 := H2.cell (j := 3) rfl
    have c4 := H2.cell (j := 4) rfl
    have c5 := H2.cell (j := 5) rfl
    have c6 := H2.cell (j := 6) rfl
    have c7 := H2.cell (j := 7) rfl
    have c8 := H2.cell (j := 8) rfl
    go_wp2_with fail
    refine (rpay_any r ar nr cr ag ng cg ae ne ce _ hR2 (fine_of hwf'.out HF.out.seed)).mono ?_
    rintro e w3 ⟨v3, rfl, own3, o3⟩
    have b3 := b2.trans (o3.mono b2.size)
    have K3 := Has.below hK b3 (Has.lt hK)
    have kc := K3.cell (j := 0) rfl
    clear c0 c1 c2 c3 c4 c5 c6 c7 c8
    go_wp2_with fail
    refine (rScan_any ⟨B.toArray⟩ _ HF.out.len).mono ?_
    rintro e w4 ⟨v4, rfl, hown4, o4⟩
    rw [show (⟨B.toArray⟩ : ByteArray).data.toList = B by simp] at hown4
    obtain ⟨a4, c4, rfl, hr4⟩ := RowS.ofOwn hown4
    have own4 := own3.below o4 (Nat.le_refl _)
    have b4 := b3.trans (o4.mono b3.size)
    clear hown4 own3 kc
    obtain ⟨a3, c3, rfl, hx3⟩ := own4.slice
    obtain ⟨b1, o1, rfl⟩ := hx3.head (by have := payL_len r; omega)
    have hr3 := RowS.ofHeld hx3
    have hle3 := hx3.le
    have hmx3 := hx3.max
    have hPn := hid (show (payL r).length ≤ 1000000 by have := payL_len2 r; have := (fine_of hwf'.out HF.out.seed).rounds; omega)
    have hb1 : w.heap.size ≤ b1 := by have := (own4.lt b1 rfl).1; have := b2.size; omega
    have hG := hid (rbegins_gen (payL r) (scanL B).1 b1 o1 c3 a4 c4 w4 hle3 hmx3 hPn.out HF.out.few hr3 hr4)
    clear own4 hx3 hr4 hR2 H2 K3
    go_wp2_with fail
    refine hG.out.mono ?_
    rintro e w5 ⟨rfl, o5⟩
    have b5 := hid (b4.trans (o5.mono b4.size))
    have hr5 := hid (hr3.below o5 (Nat.le_refl _))
    clear hr3
    have K5 := hid (show KAt w5 j B F from Has.below hK b5.out (Has.lt hK))
    clear o5 hK hG
    by_cases hbt : begB (payL r) (scanL B).1 = true
    · rw [hbt]
      have hbt' := hid hbt
      obtain ⟨q1, q2⟩ := beg_take hbt
      clear hbt
      obtain ⟨P, eP⟩ : ∃ P, P = payL r := ⟨_, rfl⟩
      have HP := hid eP
      rw [← eP] at q1 q2 hr5 hPn hle3
      rw [← eP]
      clear eP
      obtain ⟨n, en⟩ : ∃ n, n = P.length := ⟨_, rfl⟩
      have En := hid en
      obtain ⟨k, ek⟩ : ∃ k, k = (scanL B).1.length := ⟨_, rfl⟩
      have Ek := hid ek
      rw [← en] at q1 hle3
      rw [← ek] at q1 q2
      rw [← en, ← ek]
      have hsc := hid q2
      have hn2 : n ≤ 1000000 := by rw [en]; exact hPn.out
      clear en ek q2
      go_wp2
      go_loopw [8] (fun i wr => ∃ q : Nat, k ≤ q ∧ q ≤ n ∧ i = .int .i64 q ∧ (∃ Bi Fi, KAt wr j Bi Fi ∧ Hid (JInv B F P k (q - k) Bi Fi)) ∧ Only [j] w5 wr) (fun i _ => n - (intOf i).toNat)
      case atStart => exact ⟨k, Nat.le_refl _, q1, rfl, ⟨B, F, K5.out, hid (by rw [Nat.sub_self]; exact JInv.start hsc.out)⟩, Only.refl _ _⟩
      case round =>
        obtain ⟨q, hkq, hqn, rfl, ⟨Bi, Fi, hKi, hInv⟩, hO⟩ := hrel
        by_cases hlt : q < n
        · have hq0 : (0 : Int) ≤ q := by omega
          have hqi : (q : Int) < n := by omega
          have hqP := hid (show q < P.length by rw [← En.out]; omega)
          obtain ⟨s, es, hc5⟩ := hr5.out.at q hqP.out
          have hcr := (World.cell?_of_block (w := w5) (w' := wr) (a := ⟨b1, o1 + q, none⟩) (hO.block b1 (lt_of_cell hc5) (by simp; omega))).trans hc5
          have hsl := hid (show s.data.toList = P[q]'hqP.out by rw [es.out, List.getD_eq_getElem?_getD, List.getElem?_eq_getElem hqP.out]; simp)
          have HPs := hid (show ∀ p ∈ P, p.length ≤ 60000 by rw [HP.out]; exact HF.out.pays hwf'.out)
          have hss := hid (show s.size ≤ 60000 by
            have h1 := HPs.out _ (List.getElem_mem hqP.out)
            rw [← hsl.out, blen] at h1; exact h1)
          have hBi := hid (hInv.out.len HF.out.len (by rw [HP.out]; exact HF.out.all hwf'.out))
          have hA := hid (kappend_any j Bi Fi s wr hKi hBi.out hss.out)
          have hI6 := hid (show JInv B F P k (q + 1 - k) (actB Bi s.data.toList) (actF Bi Fi) by
            have h1 := hInv.out.step HPs.out (show k + (q - k) < P.length by rw [← En.out]; omega)
            rw [show q + 1 - k = q - k + 1 by omega, hsl.out]
            have e1 : P[k + (q - k)]'(by rw [← En.out]; omega) = P[q]'hqP.out := by congr 1; omega
            rwa [e1] at h1)
          clear hc5 es hKi hInv
          go_wp2_with fail
          refine hA.out.mono ?_
          rintro e w6 ⟨rfl, hK6, hO6⟩
          have hO7 := hid (hO.trans hO6 (fun x hx => Or.inl hx))
          have hK6' := hid hK6
          clear hcr hO hO6 hA hK6
          go_wp2
          go_roundw
          case rel => exact ⟨q + 1, by omega, by omega, by go_num, ⟨_, _, hK6'.out, hI6⟩, hO7.out⟩
          case measure => simp [intOf]; omega
        · obtain rfl : q = n := by omega
          have hfin := hid (show WrSaid B r 0 Bi from wrSaid_of (F := F) (F' := Fi) hwf'.out hbt'.out Ek.out HF.out.len (HF.out.all hwf'.out) (by rw [← HP.out, ← En.out]; exact hInv.out))
          have hO' := hid hO
          have hK' := hid hKi
          clear hO hKi hInv
          go_wp2
          go_ret
          exact ⟨0, Bi, Fi, rfl, hK'.out, hfin.out, (Only.ofBelow b5.out (Nat.le_refl _)).trans hO'.out (fun x hx => Or.inl hx)⟩
    · have hbf : begB (payL r) (scanL B).1 = false := by simpa using hbt
      rw [hbf]
      have hbf' := hid hbf
      clear hbt hbf
      go_wp2
      go_ret
      exact ⟨27, B, F, rfl, K5.out, Or.inr (Or.inl ⟨hwf'.out, hbf'.out, rfl, rfl⟩), Only.ofBelow b5.out (Nat.le_refl _)⟩
  · have hwb : wfB r = false := by simpa using hwf
    rw [hwb]
    have hwb' := hid hwb
    have b2' := hid b2
    have hK5 := hid (show KAt w2 j B F from Has.below hK b2 (Has.lt hK))
    clear hwf hwb o2 hK b2 hR2 H2 hR0 H0
    go_wp2
    go_ret
    exact ⟨13, B, F, rfl, hK5.out, Or.inl ⟨hwb'.out, rfl, rfl⟩, Only.ofBelow b2'.out (Nat.le_refl _)⟩
end Go.Proofs.YtahbhhenobehfaaGreatDoor
