/-
  The walk of the law JournalTorn.
-/
import Derived.Test.YtpekfdpdjeoeaaaRows
import Derived.Test.YtpekfdpdjeoeaaaJPlain
import Derived.Test.YtpekfdpdjeoeaaaHeap
import Derived.Test.YtpekfdpdjeoeaaaJTorn
import Derived.Test.YtpekfdpdjeoeaaaJ1
import Derived.Test.YtpekfdpdjeoeaaaJ6
import Derived.Test.YtpekfdpdjeoeaaaJ7
import Derived.Test.YtpekfdpdjeoeaaaJ8
import Derived.Test.YtpekfdpdjeoeaaaJ9
import Derived.Test.YtpekfdpdjeoeaaaJ11a
import Derived.WalkKit
import Derived.ProofKit
import Derived.OpenShut
import Derived.BigRegion
import Derived.Deep.QuietTactic
import Derived.Deep.RegionWith
import Derived.Deep.RegionHeld3
import Derived.Deep.DeepCutAuto
import Derived.Deep.DrawnRows
import Derived.Laws.Concat
import Derived.BigQuiet
import Derived.Outline
namespace Go.Proofs.Ytpekfdpdjeoeaaa
open Go.ChangeShapes Go.WideShapes Go.ChangeAt Go.RowKit

attribute [local go_sem ↓] Go.wp_at_zero Go.wp_at_succ
theorem RowS.take {w : World} {ad : Option Addr} {l : List (List UInt8)} (h : RowS w ad l) (k : Nat) : RowS w ad (l.take k) := fun i hi => by
  simp only [List.length_take] at hi
  obtain ⟨b, o, e, hc⟩ := h i (by omega)
  refine ⟨b, o, e, hc.trans ?_⟩
  simp [List.getD, show i < k from by omega]
theorem RowB.inArr {w : World} {b i lo hi : Nat} {C : Array Value} {T : TypeId} {l : List UInt8} (h : w.heap[b]? = some (.cells C T (lo, hi))) (r : RowB w (some ⟨b, 0, none⟩) l) (hi : i < l.length) : C[i]? = some (.int .u8 (bt l i)) := by
  have hc := r.at i hi
  simpa [World.cell?, h] using hc
theorem free_of {w : World} {b i lo hi : Nat} {C : Array Value} {T : TypeId} (h : w.heap[b]? = some (.cells C T (lo, hi))) (hl : i < lo) : w.frozen? ⟨b, i, none⟩ = false := by
  simp [World.frozen?, h]; omega
theorem RowB.store {w : World} {b i lo hi : Nat} {C : Array Value} {T : TypeId} {l : List UInt8} {v : UInt8} (h : w.heap[b]? = some (.cells C T (lo, hi))) (r : RowB w (some ⟨b, 0, none⟩) l) :
    RowB (w.setCell ⟨b, i, none⟩ (.int .u8 v.toNat)) (some ⟨b, 0, none⟩) (l.set i v) := fun j hj => by
  have hj' : j < l.length := by simpa using hj
  refine ⟨b, 0, rfl, ?_⟩
  have hC := RowB.inArr h r hj'
  have hlt : b < w.heap.size := lt_of_block h
  have h' : w.heap[b] = .cells C T (lo, hi) := by simpa [Array.getElem?_eq_getElem hlt] using h
  have hn : (w.setCell ⟨b, i, none⟩ (.int .u8 v.toNat)).heap[b]? = some (.cells (C.setIfInBounds i (.int .u8 v.toNat)) T (lo, hi)) := by
    show (w.heap.modify b _)[b]? = _
    rw [Array.getElem?_eq_getElem (by simpa using hlt), Array.getElem_modify_self, h']
    rfl
  have hjC : j < C.size := (Array.getElem?_eq_some_iff.1 hC).1
  have key : (C.setIfInBounds i (.int .u8 v.toNat))[j]? = some (.int .u8 (bt (l.set i v) j)) := by
    by_cases e : i = j
    · subst e
      rw [Array.getElem?_setIfInBounds_self, if_pos hjC]
      unfold bt
      rw [List.getD_eq_getElem?_getD, List.getElem?_set_self hj']
      rfl
    · rw [Array.getElem?_setIfInBounds_ne e, hC]
      unfold bt
      rw [List.getD_eq_getElem?_getD, List.getD_eq_getElem?_getD, List.getElem?_set_ne e]
  simp [World.cell?, hn, key]
theorem torn_many (a : Option Addr) (n : Nat) (cap : Nat) (cut at' ch : Int) (w : World) (hn : 30 < n) (hm : n ≤ 9223372036854775807) : Calls Try.prog 4 #[.slice a n cap, .int .i64 cut, .int .i64 at', .int .u8 ch] w fun e w' => e = .returned (.bool true) ∧ Below w.heap.size w w' := by
  go_enter Try.func4, Try.ntmps4
  go_wp2_with fail
  refine (awake_any _).mono ?_
  rintro e w1 ⟨rfl, b1⟩
  go_wp2
  go_ret
  exact ⟨rfl, b1⟩
/-- What the loop knows of the whole frames so far. -/
def WholeAt (ls : List (List UInt8)) (cut : Int) (k m : Nat) : Prop := m ≤ k ∧ (0 ≤ cut → ((allL (ls.take m)).length : Int) ≤ cut) ∧ (m < k → cut < ((allL (ls.take (m + 1))).length : Int)) ∧ (∀ i, i < k → (ls.getD i []).length ≤ 100) ∧ (allL (ls.take k)).length ≤ k * 106
theorem WholeAt.zero (ls : List (List UInt8)) (cut : Int) : WholeAt ls cut 0 0 := ⟨Nat.le_refl _, fun h => by simpa [allL] using h, fun h => by omega, fun i h => by omega, by simp [allL]⟩
theorem WholeAt.step {ls : List (List UInt8)} {cut : Int} {k m : Nat} (h : WholeAt ls cut k m) (hk : k < ls.length) (hs : (ls.getD k []).length ≤ 100) :
    (((allL (ls.take (k + 1))).length : Int) ≤ cut → WholeAt ls cut (k + 1) (m + 1)) ∧ (cut < ((allL (ls.take (k + 1))).length : Int) → WholeAt ls cut (k + 1) m) := by
  obtain ⟨h1, h2, h3, h4, h5⟩ := h
  have hall : ∀ i, i < k + 1 → (ls.getD i []).length ≤ 100 := fun i hi => by
    by_cases e : i = k
    · rw [e]; exact hs
    · exact h4 i (by omega)
  have hl : (allL (ls.take (k + 1))).length ≤ (k + 1) * 106 := by rw [allL_snoc ls k hk, List.length_append, frameL_length]; omega
  refine ⟨fun hc => ⟨by omega, fun _ => ?_, fun hlt => ?_, hall, hl⟩, fun hc => ⟨by omega, h2, fun hlt => ?_, hall, hl⟩⟩
  · have := allL_mono ls (m + 1) (k + 1) (by omega); omega
  · have := h3 (by omega)
    have := allL_mono ls (m + 1) (k + 1) (by omega)
    omega
  · by_cases e : m = k
    · rw [e]; exact hc
    · exact h3 (by omega)
set_option maxHeartbeats 4000000 in
theorem torn_some (b o n : Nat) (ls : List (List UInt8)) (cap : Nat) (cut at' ch : Int) (w : World) (h0 : 0 < n) (hch2 : 0 ≤ ch ∧ ch ≤ 255) (hn : n ≤ 30) (hcap : n ≤ cap) (hcm : (cap : Int) ≤ 9223372036854775807) (hlen : Hid (ls.length = n)) (hr : RowS w (some ⟨b, o, none⟩) ls) : Calls Try.prog 4 #[.slice (some ⟨b, o, none⟩) n cap, .int .i64 cut, .int .i64 at', .int .u8 ch] w fun e w' => e = .returned (.bool true) ∧ Below w.heap.size w w' := by
  go_enter Try.func4, Try.ntmps4
  go_wp2
  go_loopw [9, 10, 11, 12, 13, 25] (fun all whole _ _ _ i wr => ∃ k m : Nat, k ≤ n ∧ i = .int .i64 k ∧ all = .string ⟨(allL (ls.take k)).toArray⟩ ∧ whole = .int .i64 m ∧ Hid (WholeAt ls cut k m) ∧ Below w.heap.size w wr) (fun _ _ _ _ _ i _ => n - (intOf i).toNat)
  case atStart => exact ⟨0, 0, Nat.zero_le _, rfl, rfl, rfl, hid (WholeAt.zero ls cut), Below.refl _ _⟩
  case round =>
    obtain ⟨k, m, hk, rfl, rfl, rfl, hw, hb⟩ := hrel
    have hmk : m ≤ k := hw.out.1
    by_cases hlt : k < n
    · obtain ⟨s, hs, hc⟩ := hr.at k (by rw [hlen.out]; exact hlt)
      have hk0 : (0 : Int) ≤ k := by omega
      have hkn : (k : Int) < n := by omega
      have hcr := (hb.cell (lt_of_cell hc)).trans hc
      have Hss : Hid (s.size = (ls.getD k []).length) := hid (by rw [hs.out, bsize])
      by_cases hsz : 100 < s.size
      · clear hc hr Hss hs
        go_wp2_with fail
        refine (awake_any _).mono ?_
        rintro e wz ⟨rfl, bz⟩
        have bz : Below w.heap.size w wz := hb.trans (bz.mono hb.size)
        clear hcr hb
        go_wp2
        go_ret
        exact ⟨rfl, bz⟩
      · go_wp2_with fail
        refine (frame_short s _ s.size rfl (by omega)).mono ?_
        rintro e w1 ⟨rfl, o1⟩
        have hss := Hss.out
        have c1 := (o1.cell (lt_of_cell hcr)).trans hcr
        have b1 := hb.trans (o1.mono hb.size)
        rw [show s.data.toList = ls.getD k [] from by rw [hs.out]]
        obtain ⟨A, eA⟩ : ∃ A, A = allL (ls.take k) := ⟨_, rfl⟩
        obtain ⟨Fl, eF⟩ : ∃ Fl, Fl = frameL (ls.getD k []) := ⟨_, rfl⟩
        have hFl : Fl.length = s.size + 6 := by rw [eF, frameL_length, hss]
        have hAl : A.length ≤ k * 106 := by rw [eA]; exact hw.out.2.2.2.2
        have hst := hw.out.step (by rw [hlen.out]; exact hlt) (by rw [← hss]; omega)
        rw [allL_snoc ls k (by rw [hlen.out]; exact hlt), ← eA, ← eF] at hst
        have hsn : Hid (allL (ls.take (k + 1)) = A ++ Fl) := hid (by rw [allL_snoc ls k (by rw [hlen.out]; exact hlt), eA, eF])
        rw [← eA, ← eF]
        clear eA eF hw hss Hss hs hc hcr hb o1 hr
        have had := add_run A Fl (by omega)
        have hzF : (ByteArray.mk Fl.toArray).size = s.size + 6 := by rw [bsize, hFl]
        obtain ⟨La, eLa⟩ : ∃ La : Nat, La = A.length + (s.size + 6) := ⟨_, rfl⟩
        have hzA : (ByteArray.mk (A ++ Fl).toArray).size = La := by rw [bsize, List.length_append, hFl, eLa]
        have hLa : (A ++ Fl).length = La := by rw [List.length_append, hFl, eLa]
        rw [hLa] at hst
        have hLb : La ≤ 4000 := by omega
        have Hst := hid hst
        clear hst eLa hLa hAl hFl
        by_cases hle : (La : Int) ≤ cut
        · set_option maxRecDepth 20000 in go_wp2
          go_roundw
          case rel => exact ⟨k + 1, m + 1, by omega, by go_num, by rw [hsn.out], by go_num, hid (Hst.out.1 hle), b1⟩
          case measure => simp [intOf]; omega
        · set_option maxRecDepth 20000 in go_wp2
          go_roundw
          case rel => exact ⟨k + 1, m, by omega, by go_num, by rw [hsn.out], rfl, hid (Hst.out.2 (by omega)), b1⟩
          case measure => simp [intOf]; omega
    · obtain rfl : k = n := by omega
      have h5 := hw.out.2.2.2.2
      rw [List.take_of_length_le (by rw [hlen.out]; exact Nat.le_refl _)] at h5 ⊢
      obtain ⟨A, eA⟩ : ∃ A, A = allL ls := ⟨_, rfl⟩
      rw [← eA]
      rw [← eA] at h5
      obtain ⟨La, eLa⟩ : ∃ La : Nat, La = A.length := ⟨_, rfl⟩
      have hLb : La ≤ 4000 := by rw [eLa]; omega
      have hzA : (ByteArray.mk A.toArray).size = La := by rw [bsize, eLa]
      have EA := hid eA
      have ELa := hid eLa
      clear eA eLa h5
      by_cases hc0 : cut < 0
      · clear hr
        go_wp2_with fail
        refine (awake_any _).mono ?_
        rintro e wz ⟨rfl, bz⟩
        have bz : Below w.heap.size w wz := hb.trans (bz.mono hb.size)
        clear hb
        go_wp2
        go_ret
        exact ⟨rfl, bz⟩
      · by_cases hc1 : (La : Int) < cut
        · clear hr
          go_wp2_with fail
          refine (awake_any _).mono ?_
          rintro e wz ⟨rfl, bz⟩
          have bz : Below w.heap.size w wz := hb.trans (bz.mono hb.size)
          clear hb
          go_wp2
          go_ret
          exact ⟨rfl, bz⟩
        · have hrr := hr.below hb (Nat.le_refl _)
          have hcr := cut_run A cut.toNat cut (by omega) (by rw [← ELa.out]; omega)
          have hscan : Hid ((scanL (A.take cut.toNat)).1 = ls.take m) := hid (by
            obtain ⟨g1, g2, g3, g4, _⟩ := hw.out
            have hlo := hlen.out
            rw [EA.out]
            refine torn ls cut.toNat m (fun p hp => ?_) (by omega) (by have := g2 (by omega); omega) (fun hlt => by have := g3 (by omega); omega) (by rw [← EA.out, ← ELa.out]; omega)
            obtain ⟨i, hi, rfl⟩ := List.getElem_of_mem hp
            have := g4 i (by omega)
            rwa [List.getD_eq_getElem?_getD, List.getElem?_eq_getElem hi] at this)
          set_option maxRecDepth 20000 in go_wp2_with fail
          refine (Scan_any ⟨(A.take cut.toNat).toArray⟩ _ (by rw [bsize, List.length_take]; omega)).mono ?_
          rintro e w1 ⟨v, rfl, own1, o1⟩
          rw [show (ByteArray.mk (A.take cut.toNat).toArray).data.toList = A.take cut.toNat from rfl] at own1 ⊢
          rw [hscan.out] at own1
          have b1 := hb.trans (o1.mono hb.size)
          obtain ⟨ad1, cap1, rfl, r1⟩ := RowS.ofOwn own1
          rw [show (ls.take m).length = m from by rw [List.length_take, hlen.out]; omega]
          have r0 := (hrr.below o1 (Nat.le_refl _)).take m
          have hr1 := hrr.below o1 (Nat.le_refl _)
          obtain ⟨z, ez⟩ : ∃ z : Int, z = ((A.take cut.toNat).length : Int) - (scanL (A.take cut.toNat)).2.length := ⟨_, rfl⟩
          have hz : z ≤ cut := by rw [ez, List.length_take]; omega
          rw [← ez]
          have hlm : Hid ((ls.take m).length = m) := hid (by rw [List.length_take, hlen.out]; omega)
          clear own1 o1 hb hrr hcr ez
          set_option maxRecDepth 20000 in go_wp2_with fail
          refine (strings_any ad1 (some ⟨b, o, none⟩) m cap1 cap (ls.take m) _ (by omega) hlm.out r1 r0).mono ?_
          rintro e w2 ⟨rfl, o2⟩
          have b2 := b1.trans (o2.mono b1.size)
          have hr2 := hr1.below o2 (Nat.le_refl _)
          clear r1 r0 b1 o2 hr1
          by_cases hch : ch = 0
          · subst hch
            clear hr2
            go_wp2_with fail
            refine (awake_any _).mono ?_
            rintro e wz ⟨rfl, bz⟩
            have bz : Below w.heap.size w wz := b2.trans (bz.mono b2.size)
            clear b2
            go_wp2
            go_ret
            exact ⟨rfl, bz⟩
          · obtain ⟨s0, hs0, d0⟩ := hr2.at 0 (by rw [hlen.out]; exact h0)
            rw [Nat.add_zero] at d0
            have hs0z : s0.size ≤ 100 := by rw [hs0.out, bsize]; exact hw.out.2.2.2.1 0 h0
            have hch' : (ch == 0) = false := by simpa using hch
            have hch0 : Hid (ch ≠ 0) := hid hch
            clear hch
            by_cases hat : at' < 0
            · clear hr2 hs0
              go_wp2_with fail
              refine (awake_any _).mono ?_
              rintro e wz ⟨rfl, bz⟩
              have bz : Below w.heap.size w wz := b2.trans (bz.mono b2.size)
              clear b2
              go_wp2
              go_ret
              exact ⟨rfl, bz⟩
            · by_cases hat2 : (s0.size : Int) + 6 ≤ at'
              · clear hr2 hs0
                go_wp2_with fail
                refine (awake_any _).mono ?_
                rintro e wz ⟨rfl, bz⟩
                have bz : Below w.heap.size w wz := b2.trans (bz.mono b2.size)
                clear b2
                go_wp2
                go_ret
                exact ⟨rfl, bz⟩
              · obtain ⟨a, rfl⟩ : ∃ a : Nat, at' = a := ⟨at'.toNat, by omega⟩
                have hls : Hid (∃ p r, ls = p :: r ∧ p = s0.data.toList) := hid (by
                  have h1 := hlen.out
                  have h2 := hs0.out
                  cases ls with
                  | nil => simp at h1; omega
                  | cons p r => exact ⟨p, r, rfl, by rw [h2]; rfl⟩)
                have haL : (a : Int) < La := by
                  obtain ⟨p, r, e1, e2⟩ := hls.out
                  rw [ELa.out, EA.out, e1]
                  simp only [allL, List.length_append, frameL_length]
                  rw [e2]
                  simp only [Array.length_toList]
                  change (a : Int) < (((s0.size + 6 : Nat) + (allL r).length : Nat) : Int)
                  omega
                have ha0 : (0 : Int) ≤ a := by omega
                have kc := fun (wx : World) => run_bytes_of_string (P := Try.prog) wx 9 33 5 ⟨A.toArray⟩ Try.underlying9 Try.underlying33 Try.underlying5
                rw [hzA] at kc
                have hcap2 := grownCap_ge w2 La 0 5
                have hcm2 : ((grownCap w2 La 0 5 : Nat) : Int) ≤ 9223372036854775807 := by have := grownCap_le_maxLen w2 La 0 5 (by unfold maxLen; omega); unfold maxLen at this; omega
                have hkz : ((k : Int) == 0) = false := by simp; omega
                go_upto_region 24 with fail
                obtain ⟨C, eC⟩ : ∃ C, C = bytesRow ⟨A.toArray⟩ (grownCap w2 La 0 5) := ⟨_, rfl⟩
                have r3 : RowB (w2.alloc (.cells (bytesRow ⟨A.toArray⟩ (grownCap w2 La 0 5)) 5 ((bytesRow ⟨A.toArray⟩ (grownCap w2 La 0 5)).size, (bytesRow ⟨A.toArray⟩ (grownCap w2 La 0 5)).size + 1))).drew (some ⟨w2.heap.size, 0, none⟩) A := RowB.ofString w2 ⟨A.toArray⟩ (grownCap w2 La 0 5) 5 _
                obtain ⟨cp2, ecp⟩ : ∃ cp2, cp2 = grownCap w2 La 0 5 := ⟨_, rfl⟩
                rw [← ecp] at eC
                rw [← ecp, ← eC] at r3 ⊢
                obtain ⟨w3, e3⟩ : ∃ w3, w3 = (w2.alloc (.cells C 5 (C.size, C.size + 1))).drew := ⟨_, rfl⟩
                rw [← e3] at r3 ⊢
                have h3 : w3.heap[w2.heap.size]? = some (.cells C 5 (C.size, C.size + 1)) := by rw [e3]; show (w2.heap.push _)[w2.heap.size]? = _; simp
                have b3 : Below w2.heap.size w2 w3 := by rw [e3]; exact ((Below.refl w2.heap.size w2).alloc (Nat.le_refl _) _).drew
                have hr3 := hr2.below b3 (Nat.le_refl _)
                have b3' := b2.trans (b3.mono b2.size)
                have d0' := d0
                have hbs2 := b2.size
                have d3 := (b3.cell (lt_of_cell d0)).trans d0
                have cb := r3.at a (by rw [← ELa.out]; omega)
                rw [Nat.zero_add] at cb
                have fb := free_of h3 (i := a) (Array.getElem?_eq_some_iff.1 (RowB.inArr h3 r3 (i := a) (by rw [← ELa.out]; omega))).1
                have bd := bt_bd A a
                have hxr := xor_u8 (bt A a) ch bd hch2 hch0.out
                obtain ⟨v, hv⟩ : ∃ v : UInt8, bits .xor .u8 (bt A a) ch = (v.toNat : Int) := ⟨byte (bits .xor .u8 (bt A a) ch), by rw [byte_toNat]; omega⟩
                have hvne : Hid ((v.toNat : Int) ≠ bt A a) := hid (by rw [← hv]; exact hxr.2.2)
                have hlt3 := lt_of_block h3
                have H3 := hid h3
                clear h3
                rw [← ecp] at hcap2 hcm2
                clear hxr hr2 d0 kc e3 eC ecp b2 b3
                go_upto_region 25 with fail
                have r4 := RowB.store H3.out r3 (i := a) (v := v)
                have b4 : Below w.heap.size w (w3.setCell ⟨w2.heap.size, a, none⟩ (.int .u8 v.toNat)) := bset b3' hbs2 _
                have b34 : Below w2.heap.size w3 (w3.setCell ⟨w2.heap.size, a, none⟩ (.int .u8 v.toNat)) := bset (Below.refl _ _) (Nat.le_refl _) _
                have hr4 := hr3.at 0 (by rw [hlen.out]; exact h0)
                obtain ⟨s1, hs1, hcc⟩ := hr4
                have d4 := (b34.cell (lt_of_cell d0')).trans d3
                obtain ⟨w4, e4⟩ : ∃ w4, w4 = w3.setCell ⟨w2.heap.size, a, none⟩ (.int .u8 v.toNat) := ⟨_, rfl⟩
                rw [← e4] at r4 b4 d4 ⊢
                obtain ⟨X, eX⟩ : ∃ X, X = A.set a v := ⟨_, rfl⟩
                rw [← eX] at r4
                have hXl : X.length = La := by rw [eX, List.length_set, ELa.out]
                have kb := r4.convert (cap := cp2)
                rw [hXl] at kb
                have hsp : Hid ((scanL X).1 = [] ∨ ∃ q t, (scanL X).1 = q :: t ∧ q ≠ s0.data.toList) := hid (by
                  obtain ⟨p, r, e1, e2⟩ := hls.out
                  rw [eX, EA.out, e1, ← e2]
                  refine spoilt p r a v ?_ ?_
                  · rw [e2]; simp only [Array.length_toList]; change a < s0.size + 6; omega
                  · rw [← e1, ← EA.out]; exact hvne.out)
                clear cb fb r3 hr3 b3' d3 e4 eX b34 hs1 hcc r4
                set_option maxRecDepth 20000 in go_wp2_with fail
                refine (Scan_any ⟨X.toArray⟩ _ (by rw [bsize, hXl]; omega)).mono ?_
                rintro e w5 ⟨y, rfl, own5, o5⟩
                rw [show (ByteArray.mk X.toArray).data.toList = X from rfl] at own5 ⊢
                have b5 := b4.trans (o5.mono b4.size)
                have d5 := (o5.cell (lt_of_cell d4)).trans d4
                clear b4 d4 o5 kb
                obtain ⟨z2, ez2⟩ : ∃ z2 : Int, z2 = (X.length : Int) - (scanL X).2.length := ⟨_, rfl⟩
                rw [← ez2]
                clear ez2 hXl
                rcases hsp.out with hn0 | ⟨q, t, hn1, hqs⟩
                · rw [hn0] at own5
                  obtain ⟨ady, capy, rfl, _⟩ := RowS.ofOwn own5
                  clear own5 hn0
                  rw [show ([] : List (List UInt8)).length = 0 from rfl]
                  go_wp2
                  refine region26_wp (by rfl) _ w5 _ ady capy rfl rfl ?_
                  intro FR' w6 s8 hsz hD o6
                  have b6 := b5.trans (o6.mono b5.size)
                  have hD : FR'.defers = [] := hD
                  refine ‹∀ (a : Act) (w : World), Code.wp Try.prog Code.ret _ a w → _› _ _ ?_
                  refine wp_ret ?_
                  refine bodyPost_ret (results_tmp rfl _ _ _) hD ?_
                  rw [show FR'.tmps.getD 8 undef = .bool true from s8.eval]
                  exact ⟨rfl, b6⟩
                · rw [hn1] at own5
                  obtain ⟨ady, capy, rfl, ry⟩ := RowS.ofOwn own5
                  obtain ⟨by', oy, rfl⟩ := ry.head (by simp)
                  obtain ⟨sq, hsq, cq⟩ := ry.at 0 (by simp)
                  rw [Nat.add_zero] at cq
                  have hqb : (sq.toList == s0.toList) = false := by rw [hsq.out, ByteArray.toList_eq, ByteArray.toList_eq]; simpa using hqs
                  obtain ⟨ny, eny⟩ : ∃ ny, ny = (q :: t).length := ⟨_, rfl⟩
                  rw [← eny]
                  have hny : 0 < ny := by rw [eny]; simp
                  have hny1 : (0 : Int) < ny := by omega
                  have hnyz : ((ny : Int) == 0) = false := by simp; omega
                  clear own5 hn1 ry eny hqs
                  go_wp2
                  go_region_held3 (fun wx => wx.cell? ⟨b, o, none⟩ = some (.string s0) ∧ wx.cell? ⟨by', oy, none⟩ = some (.string sq)) (first | exact ⟨d5, cq⟩ | exact ⟨d6, cq6⟩) (first | (go_at_call 6; refine (awake_any _).mono ?_; rintro e w6 ⟨rfl, o6⟩; have o6 : Below w5.heap.size w5 w6 := ⟨o6.os, o6.tape, o6.output, o6.size, o6.block⟩; have d6 := (o6.cell (lt_of_cell d5)).trans d5; have cq6 := (o6.cell (lt_of_cell cq)).trans cq; have b6 := b5.trans (o6.mono b5.size)))
                  clear d5 d6 o6 cq cq6
                  go_wp2
                  go_ret
                  exact ⟨rfl, b6⟩
end Go.Proofs.Ytpekfdpdjeoeaaa
