/-
  The walks of begins of package journal and Begins of the reference, and of part.
  The walk of Write of package journal.
-/
import Derived.Test.YtahbhhenobehfaaGreatDoorTPart
import Derived.Test.YtahbhhenobehfaaGreatDoorJ8
import Derived.Test.YtahbhhenobehfaaGreatDoorShelf
import Derived.Test.YtahbhhenobehfaaGreatDoorT26
import Derived.Test.YtahbhhenobehfaaGreatDoorJ9
namespace Go.Proofs.YtahbhhenobehfaaGreatDoor
open Go.ChangeShapes Go.WideShapes Go.ChangeAt Go.RowKit

theorem RowS.ofHeld {w : World} {ad : Option Addr} {n cap : Nat} {l : List (List UInt8)} (h : HeldL StrC w ad n cap l) : RowS w ad l := fun i hi => by
  obtain ⟨_, _, _, hx⟩ := h.lst
  obtain ⟨b, o, u, e, hc, hu⟩ := hx i hi
  refine ⟨b, o, e, ?_⟩
  rw [hc, hu, List.getD_eq_getElem?_getD, List.getElem?_eq_getElem hi]; rfl
theorem RowS.take {w : World} {ad : Option Addr} {l : List (List UInt8)} (h : RowS w ad l) (k : Nat) : RowS w ad (l.take k) := fun i hi => by
  rw [List.length_take] at hi
  obtain ⟨b, o, e, hc⟩ := h i (by omega)
  refine ⟨b, o, e, ?_⟩
  rw [hc]
  simp [List.getD, show i < k from by omega]
def baL (l : List (List UInt8)) : List ByteArray := l.map fun x => ByteArray.mk x.toArray
theorem baL_at {w : World} {b o : Nat} {l : List (List UInt8)} (h : RowS w (some ⟨b, o, none⟩) l) : ∀ j, j < (baL l).length → w.cell? ⟨b, o + j, none⟩ = some (.string ((baL l).getD j ByteArray.empty)) := fun j hj => by
  rw [baL, List.length_map] at hj
  obtain ⟨b', o', e, hc⟩ := h j hj
  cases e
  rw [hc]
  unfold baL
  rw [List.getD_eq_getElem?_getD, List.getD_eq_getElem?_getD, List.getElem?_map, List.getElem?_eq_getElem hj]
  rfl
set_option maxHeartbeats 1000000 in
theorem begins_any (P : List (List UInt8)) (b1 o1 n1 c1 : Nat) (a2 : Option Addr) (k c2 : Nat) (w : World) (hP : P.length = n1) (hk : k ≤ n1) (hc : n1 ≤ c1) (hm : (c1 : Int) ≤ 9223372036854775807) (h1 : RowS w (some ⟨b1, o1, none⟩) P) (h2 : RowS w a2 (P.take k)) :
    Calls Tryz.prog 38 #[.slice (some ⟨b1, o1, none⟩) n1 c1, .slice a2 k c2] w fun e w' => e = .returned (.bool true) ∧ Below w.heap.size w w' := by
  have hki : (k : Int) ≤ n1 := by omega
  have hkc : (k : Int) ≤ c1 := by omega
  have HP := hid hP
  by_cases h0 : k = 0
  · subst h0
    have hE := hid (Tryz.slices_Equal_string_empty (some ⟨b1, o1, none⟩) a2 c1 0 c2 w (by omega))
    clear h1 h2
    go_enter Tryz.func38, Tryz.ntmps38
    go_wp2_with fail
    refine hE.out.mono ?_
    rintro e w1 ⟨rfl, rfl⟩
    go_wp2
    go_ret
    exact ⟨rfl, Below.refl _ _⟩
  · obtain ⟨b2, o2, rfl⟩ := h2.head (by rw [List.length_take]; omega)
    have hE := hid (Tryz.slices_Equal_string b1 o1 k c1 b2 o2 k c2 (baL P) (baL (P.take k)) w (by unfold baL; rw [List.length_map]; omega) (by unfold baL; rw [List.length_map, List.length_take]; omega) (by omega) (by omega) (baL_at h1) (baL_at h2))
    have hD := hid (show decide ((baL P).take k = (baL (P.take k)).take k) = true from decide_eq_true (by unfold baL; rw [← List.map_take, ← List.map_take, List.take_take, Nat.min_self]))
    clear h1 h2
    go_enter Tryz.func38, Tryz.ntmps38
    go_wp2_with fail
    refine hE.out.mono ?_
    rintro e w1 ⟨rfl, q, rfl⟩
    rw [hD.out]
    go_wp2
    go_ret
    exact ⟨rfl, Below.drewN w q⟩
set_option maxHeartbeats 1000000 in
theorem rbegins_any (P : List (List UInt8)) (b1 o1 n1 c1 : Nat) (a2 : Option Addr) (k c2 : Nat) (w : World) (hP : P.length = n1) (hk : k ≤ n1) (hc : n1 ≤ c1) (hm : (c1 : Int) ≤ 9223372036854775807) (h1 : RowS w (some ⟨b1, o1, none⟩) P) (h2 : RowS w a2 (P.take k)) :
    Calls Tryz.prog 14 #[.slice a2 k c2, .slice (some ⟨b1, o1, none⟩) n1 c1] w fun e w' => e = .returned (.bool true) ∧ Below w.heap.size w w' := by
  have hki : (k : Int) ≤ n1 := by omega
  have hkc : (k : Int) ≤ c1 := by omega
  have hE := hid (strings_any a2 (some ⟨b1, o1, none⟩) k c2 c1 (P.take k) w (by omega) (by rw [List.length_take]; omega) h2 (h1.take k))
  clear h1 h2
  go_enter Tryz.func14, Tryz.ntmps14
  go_wp2_with fail
  refine hE.out.mono ?_
  rintro e w1 ⟨rfl, o1⟩
  go_wp2
  go_ret
  exact ⟨rfl, o1⟩
end Go.Proofs.YtahbhhenobehfaaGreatDoor
namespace Go.Proofs.YtahbhhenobehfaaGreatDoor
open Go.ChangeShapes Go.WideShapes Go.ChangeAt Go.RowKit

/-- A journal behind i appends of the payloads P from the k-th on. -/
def JInv (B : List UInt8) (F : Int) (P : List (List UInt8)) (k i : Nat) (Bi : List UInt8) (Fi : Int) : Prop :=
  (scanL Bi).1 = P.take (k + i) ∧ (i = 0 → Bi = B) ∧ (0 < i → Bi = allL (P.take (k + i))) ∧ (F ≤ kept B → Fi = F ∧ F ≤ kept Bi)
theorem JInv.start {B : List UInt8} {F : Int} {P : List (List UInt8)} {k : Nat} (h : (scanL B).1 = P.take k) : JInv B F P k 0 B F :=
  ⟨h, fun _ => rfl, fun h => absurd h (Nat.lt_irrefl _), fun h => ⟨rfl, h⟩⟩
theorem JInv.step {B : List UInt8} {F : Int} {P : List (List UInt8)} {k i : Nat} {Bi : List UInt8} {Fi : Int} (h : JInv B F P k i Bi Fi) (hP : ∀ p ∈ P, p.length ≤ 60000) (hi : k + i < P.length) :
    JInv B F P k (i + 1) (actB Bi (P[k + i])) (actF Bi Fi) := by
  obtain ⟨h1, h2, h3, h4⟩ := h
  have e : actB Bi (P[k + i]) = allL (P.take (k + (i + 1))) := by
    rw [actB_eq, h1, show k + (i + 1) = (k + i) + 1 by omega, List.take_succ_eq_append_getElem hi]
  have hs : ∀ p ∈ P.take (k + (i + 1)), p.length ≤ 60000 := fun p hp => hP p (List.mem_of_mem_take hp)
  refine ⟨by rw [e, scan_all _ hs], fun h => by omega, fun _ => e, fun hF => ?_⟩
  obtain ⟨q1, q2⟩ := h4 hF
  have hk : kept Bi ≤ kept (actB Bi (P[k + i])) := by
    rw [e, kept_all _ hs, kept_len, h1]
    exact allL_mono P _ _ (by omega)
  refine ⟨?_, by omega⟩
  unfold actF
  rw [q1, if_pos q2]
theorem JInv.len {B : List UInt8} {F : Int} {P : List (List UInt8)} {k i : Nat} {Bi : List UInt8} {Fi : Int} (h : JInv B F P k i Bi Fi) (hB : B.length ≤ 4000000) (hP : (allL P).length ≤ 4000000) : Bi.length ≤ 4000000 := by
  obtain ⟨h1, h2, h3, h4⟩ := h
  by_cases hi : i = 0
  · rw [h2 hi]; exact hB
  · rw [h3 (by omega)]
    have := allL_mono P (k + i) (k + i + P.length) (by omega)
    rw [List.take_of_length_le (l := P) (i := k + i + P.length) (by omega)] at this
    omega
set_option maxRecDepth 20000 in
set_option maxHeartbeats 4000000 in
theorem jwrite_any (j : Nat) (B : List UInt8) (F : Int) (k : Nat) (r : Rec) (ar : Option Addr) (nr cr : Nat) (ag : Option Addr) (ng cg : Nat) (ae : Option Addr) (ne ce : Nat) (w : World)
    (hJ : JAt w j B F) (h : RecAt w r ar nr cr ag ng cg ae ne ce) (hw : wfB r = true) (hf : RecFine r) (ht : Tab w) (hk : k ≤ (payL r).length) (hsc : (scanL B).1 = (payL r).take k) (hB : B.length ≤ 4000000) (hPs : ∀ p ∈ payL r, p.length ≤ 60000) (hPl : (allL (payL r)).length ≤ 4000000) :
    Calls Tryz.prog 9 #[.pointer (some ⟨j, 0, none⟩), .agg #[.string r.name, .string r.text, .int .u64 r.seed, .int .i64 r.start, .int .i64 r.clock, .slice ar nr cr, .bool r.ended, .slice ag ng cg, .slice ae ne ce]] w fun e w' => e = .returned (.int .i64 0) ∧ (∃ B' F', JAt w' j B' F' ∧ JInv B F (payL r) k ((payL r).length - k) B' F') ∧ Only [j] w w' := by
  obtain ⟨P, eP⟩ : ∃ P, P = payL r := ⟨_, rfl⟩
  rw [← eP] at hk hsc hPs hPl ⊢
  have b0 : Below w.heap.size w (w.alloc (.cells #[.string r.name, .string r.text, .int .u64 r.seed, .int .i64 r.start, .int .i64 r.clock, .slice ar nr cr, .bool r.ended, .slice ag ng cg, .slice ae ne ce] 27)) := (Below.refl _ _).alloc (Nat.le_refl _) _
  have H0 := Has.new w #[.string r.name, .string r.text, .int .u64 r.seed, .int .i64 r.start, .int .i64 r.clock, .slice ar nr cr, .bool r.ended, .slice ag ng cg, .slice ae ne ce] 27
  have HP := hid eP
  have hPn := hid (show P.length ≤ 1002 by rw [eP]; have h1 := payL_len2 r; have h2 := hf.rounds; omega)
  have Hk := hid hk
  have Hsc := hid hsc
  have HB := hid hB
  have HPs := hid hPs
  have HPl := hid hPl
  have Hw := hid hw
  have Hf := hid hf
  clear eP hk hsc hB hPs hPl hw hf
  go_enter Tryz.func9, Tryz.ntmps9
  go_wp2_with fail
  obtain ⟨w0, ew0⟩ : ∃ w0, w0 = w.alloc (.cells #[.string r.name, .string r.text, .int .u64 r.seed, .int .i64 r.start, .int .i64 r.clock, .slice ar nr cr, .bool r.ended, .slice ag ng cg, .slice ae ne ce] 27) := ⟨_, rfl⟩
  rw [← ew0] at b0 H0
  rw [← ew0]
  clear ew0
  have hz : w.heap.size < w0.heap.size := H0.lt
  have hJ0 := hJ.below b0 (Nat.le_refl _)
  have hR0 := h.below b0 (Nat.le_refl _)
  have hjl := hJ.lt
  refine (right_any j B F _ hJ0).mono ?_
  rintro e w1 ⟨rfl, rfl⟩
  have c0 := H0.cell (j := 0) rfl
  have c1 := H0.cell (j := 1) rfl
  have c2 := H0.cell (j := 2) rfl
  have c3 := H0.cell (j := 3) rfl
  have c4 := H0.cell (j := 4) rfl
  have c5 := H0.cell (j := 5) rfl
  have c6 := H0.cell (j := 6) rfl
  have c7 := H0.cell (j := 7) rfl
  have c8 := H0.cell (j := 8) rfl
  go_wp2_with fail
  refine (formed_any r ar nr cr ag ng cg ae ne ce _ hR0).mono ?_
  rintro e w2 ⟨rfl, o2⟩
  rw [Hw.out]
  have H2 := H0.below o2 H0.lt
  have hR2 := hR0.below o2 (Nat.le_refl _)
  have b2 := b0.trans (o2.mono b0.size)
  have T2 := tab_below ht b2 (Nat.le_refl _)
  clear c0 c1 c2 c3 c4 c5 c6 c7 c8
  have c0 := H2.cell (j := 0) rfl
  have c1 := H2.cell (j := 1) rfl
  have c2 := H2.cell (j := 2) rfl
  have c3 := H2.cell (j := 3) rfl
  have c4 := H2.cell (j := 4) rfl
  have c5 := H2.cell (j := 5) rfl
  have c6 := H2.cell (j := 6) rfl
  have c7 := H2.cell (j := 7) rfl
  have c8 := H2.cell (j := 8) rfl
  go_wp2_with fail
  refine (jpay_any r ar nr cr ag ng cg ae ne ce _ hR2 Hf.out T2).mono ?_
  rintro e w3 ⟨v3, rfl, own3, o3⟩
  rw [← HP.out] at own3
  have b3 := b2.trans (o3.mono b2.size)
  have hJ3 := hJ.below b3 (Nat.le_refl _)
  clear c0 c1 c2 c3 c4 c5 c6 c7 c8
  go_wp2_with fail
  refine (payloads_any j B F _ hJ3 HB.out).mono ?_
  rintro e w4 ⟨v4, rfl, hown4, o4⟩
  obtain ⟨a4, c4, rfl, hr4⟩ := RowS.ofOwn hown4
  rw [Hsc.out] at hr4
  have hlk := hid (show (scanL B).1.length = k by rw [Hsc.out, List.length_take]; have := Hk.out; omega)
  rw [hlk.out]
  have own4 := own3.below o4 (Nat.le_refl _)
  have b4 := b3.trans (o4.mono b3.size)
  clear hown4 own3
  obtain ⟨a3, c3, rfl, hx3⟩ := own4.slice
  have hP0 : 0 < P.length := by rw [HP.out]; have := payL_len r; omega
  obtain ⟨b1, o1, rfl⟩ := hx3.head hP0
  have hr3 := RowS.ofHeld hx3
  have hle3 := hx3.le
  have hmx3 := hx3.max
  go_wp2_with fail
  refine (begins_any P b1 o1 P.length c3 a4 k c4 _ rfl Hk.out hle3 hmx3 hr3 hr4).mono ?_
  rintro e w5 ⟨rfl, o5⟩
  obtain ⟨n, en⟩ : ∃ n, n = P.length := ⟨_, rfl⟩
  have En := hid en
  have hki : (k : Int) ≤ n := by have := Hk.out; omega
  have hkc : (k : Int) ≤ c3 := by omega
  have hnc : (n : Int) ≤ c3 := by omega
  have hn2 : n ≤ 1002 := by rw [en]; exact hPn.out
  rw [← en]
  have hr5 := hr3.below o5 (Nat.le_refl _)
  have own5 := own4.below o5 (Nat.le_refl _)
  have b5 := b4.trans (o5.mono b4.size)
  have hJ5 := hJ.below b5 (Nat.le_refl _)
  have hb1 : w.heap.size ≤ b1 := by have := (own5.lt b1 rfl).1; have := b2.size; omega
  clear en hr3 own4 own5 hx3 hr4 hR2 hR0 T2 H2 H0 hJ0 hJ3
  have hOw : Only [j] w w5 := Only.ofBelow b5 (Nat.le_refl _)
  by_cases hck : c3 = k
  · obtain rfl : n = k := by omega
    subst hck
    have hfin := hid (show JInv B F P c3 (P.length - c3) B F by rw [← En.out, Nat.sub_self]; exact JInv.start Hsc.out)
    clear hki hkc hnc hr5
    go_wp2
    refine wp_loop_rounds 1 ?_
    rw [rounds_succ]
    go_wp2
    go_ret
    exact ⟨rfl, ⟨B, F, hJ5, hfin.out⟩, hOw⟩
  · have hkc2 : (k : Int) < c3 := by omega
    have hck2 : ¬ k = c3 := fun e => hck e.symm
    go_wp2
    go_loopw [31] (fun i wr => ∃ q : Nat, q ≤ n - k ∧ i = .int .i64 q ∧ (∃ Bi Fi, JAt wr j Bi Fi ∧ Hid (JInv B F P k q Bi Fi)) ∧ Only [j] w5 wr) (fun i _ => (n - k) - (intOf i).toNat)
    case atStart => exact ⟨0, Nat.zero_le _, rfl, ⟨B, F, hJ5, hid (JInv.start Hsc.out)⟩, Only.refl _ _⟩
    case round =>
      obtain ⟨q, hq, rfl, ⟨Bi, Fi, hJi, hInv⟩, hO⟩ := hrel
      by_cases hlt : q < n - k
      · have hq0 : (0 : Int) ≤ q := by omega
        have hqi : (q : Int) < ((n - k : Nat) : Int) := by omega
        have hkq := hid (show k + q < P.length by rw [← En.out]; omega)
        obtain ⟨s, es, hc5⟩ := hr5.at (k + q) hkq.out
        have hcr := (World.cell?_of_block (w := w5) (w' := wr) (a := ⟨b1, o1 + (k + q), none⟩) (hO.block b1 (lt_of_cell hc5) (by simp; omega))).trans hc5
        rw [← Nat.add_assoc] at hcr
        have hsl := hid (show s.data.toList = P[k + q]'hkq.out by rw [es.out, List.getD_eq_getElem?_getD, List.getElem?_eq_getElem hkq.out]; simp)
        have hss := hid (show s.size ≤ 60000 by
          have h1 := HPs.out _ (List.getElem_mem hkq.out)
          rw [← hsl.out, blen] at h1; exact h1)
        have hBi := hid (hInv.out.len HB.out HPl.out)
        clear hc5 es
        go_wp2_with fail
        refine (append_any j Bi Fi s _ hJi hBi.out hss.out).mono ?_
        rintro e w6 ⟨rfl, hJ6, hO6⟩
        have hI6 := hid (hInv.out.step HPs.out hkq.out)
        rw [← hsl.out] at hI6
        have hO7 := hO.trans hO6 (fun x hx => Or.inl hx)
        clear hJi hcr hO hO6 hInv
        go_wp2
        go_roundw
        case rel => exact ⟨q + 1, by omega, by go_num, ⟨_, _, hJ6, hI6⟩, hO7⟩
        case measure => simp [intOf]; omega
      · obtain rfl : q = n - k := by omega
        have hInv2 := hid (show JInv B F P k (P.length - k) Bi Fi by rw [← En.out]; exact hInv.out)
        go_wp2
        go_ret
        exact ⟨rfl, ⟨Bi, Fi, hJi, hInv2.out⟩, hOw.trans hO (fun x hx => Or.inl hx)⟩
end Go.Proofs.YtahbhhenobehfaaGreatDoor
