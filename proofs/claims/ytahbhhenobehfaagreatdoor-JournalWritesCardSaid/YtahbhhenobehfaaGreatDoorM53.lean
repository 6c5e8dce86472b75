/-
  The walk of the law JournalWrites.
  What the variables that the row of JournalWrites lists hold, as the walk asks it; lists of texts that came in.
-/
import Derived.Test.YtahbhhenobehfaaGreatDoorM51
import Derived.Test.YtahbhhenobehfaaGreatDoorNU31
import Derived.Deep.RegionHeld3
import Derived.BigQuiet
import Derived.Outline
import Derived.Test.YtahbhhenobehfaaGreatDoorRows
import Derived.Test.YtahbhhenobehfaaGreatDoorM12
import Derived.Lib.LaidU8T
import Derived.PinnedBridge
import Derived.LaidLaws
import Derived.Stop.LaidErr
import Derived.Lib.LaidTab
import Derived.Shelf.Vars
import Derived.SizedLaws
import Derived.Handed
import Derived.LaidByTextLater
namespace Go.Proofs.YtahbhhenobehfaaGreatDoor
open Go.ChangeShapes Go.WideShapes Go.ChangeAt Go.RowKit

def nineC (w' : World) (g : Nat) (vs : Array Value) : Prop := ∀ i, (h : i < 9) → (hs : i < vs.size) → w'.cell? ⟨g, i, none⟩ = some vs[i]
set_option maxRecDepth 20000 in
set_option maxHeartbeats 16000000 in
theorem writes_any (aw : Option Addr) (nw cw : Nat) (was : List (List UInt8)) (r : Rec) (ar : Option Addr) (nr cr : Nat) (ag : Option Addr) (ng cg : Nat) (ae : Option Addr) (ne ce : Nat) (w : World)
    (hw : HeldL StrC w aw nw cw was) (h : RecAt w r ar nr cr ag ng cg ae ne ce) (hs : 0 ≤ r.seed ∧ r.seed ≤ 18446744073709551615) (ht : Tab w) (hT : Tabs w) (hW : Words w) :
    Calls Tryz.prog 4 #[.slice aw nw cw, .agg #[.string r.name, .string r.text, .int .u64 r.seed, .int .i64 r.start, .int .i64 r.clock, .slice ar nr cr, .bool r.ended, .slice ag ng cg, .slice ae ne ce]] w fun e w' => e = .returned (.bool true) ∧ Below w.heap.size w w' := by
  have b0 : Below w.heap.size w (w.alloc (.cells #[.string r.name, .string r.text, .int .u64 r.seed, .int .i64 r.start, .int .i64 r.clock, .slice ar nr cr, .bool r.ended, .slice ag ng cg, .slice ae ne ce] 27)) := (Below.refl _ _).alloc (Nat.le_refl _) _
  have H0 := Has.new w #[.string r.name, .string r.text, .int .u64 r.seed, .int .i64 r.start, .int .i64 r.clock, .slice ar nr cr, .bool r.ended, .slice ag ng cg, .slice ae ne ce] 27
  have hwl := hid hw.len
  have hwle := hw.le
  have hwmx := hw.max
  have hrl := hid h.rounds.len
  have hrle := h.rounds.le
  have hrmx := h.rounds.max
  have Hs := hid hs
  have Ht := hid ht
  have HT := hid hT
  have HW := hid hW
  clear hs ht hT hW
  go_enter Tryz.func4, Tryz.ntmps4
  have hz : w.heap.size < (w.alloc (.cells #[.string r.name, .string r.text, .int .u64 r.seed, .int .i64 r.start, .int .i64 r.clock, .slice ar nr cr, .bool r.ended, .slice ag ng cg, .slice ae ne ce] 27)).heap.size := H0.lt
  have c1 := H0.cell (j := 1) rfl
  have c5 := H0.cell (j := 5) rfl
  by_cases hn30 : (30 : Int) < nw
  · clear h hw
    go_wp2_with fail
    refine (awake_any _).mono ?_
    rintro e wz ⟨rfl, oz⟩
    have bz := hid (b0.trans (oz.mono b0.size))
    clear oz
    go_wp2
    go_ret
    exact ⟨rfl, bz.out⟩
  by_cases ht5 : (500 : Int) < r.text.size
  · clear h hw
    go_wp2_with fail
    refine (awake_any _).mono ?_
    rintro e wz ⟨rfl, oz⟩
    have bz := hid (b0.trans (oz.mono b0.size))
    clear oz
    go_wp2
    go_ret
    exact ⟨rfl, bz.out⟩
  by_cases hr70 : (70 : Int) < nr
  · clear h hw
    go_wp2_with fail
    refine (awake_any _).mono ?_
    rintro e wz ⟨rfl, oz⟩
    have bz := hid (b0.trans (oz.mono b0.size))
    clear oz
    go_wp2
    go_ret
    exact ⟨rfl, bz.out⟩
  go_wp2
  obtain ⟨w0, ew0⟩ : ∃ w0, w0 = w.alloc (.cells #[.string r.name, .string r.text, .int .u64 r.seed, .int .i64 r.start, .int .i64 r.clock, .slice ar nr cr, .bool r.ended, .slice ag ng cg, .slice ae ne ce] 27) := ⟨_, rfl⟩
  rw [← ew0] at b0 H0 hz c1 c5
  rw [← ew0]
  clear ew0
  have KS := hid (show ∀ w', Below w0.heap.size w0 w' → Has w' w.heap.size #[.string r.name, .string r.text, .int .u64 r.seed, .int .i64 r.start, .int .i64 r.clock, .slice ar nr cr, .bool r.ended, .slice ag ng cg, .slice ae ne ce] 27 from fun w' hb => H0.below hb H0.lt)
  have b0' := hid b0
  clear H0 c1 c5
  go_loopw [34] (fun i wr => ∃ k : Nat, k ≤ nr ∧ i = .int .i64 k ∧ Below w0.heap.size w0 wr) (fun i _ => nr - (intOf i).toNat)
  case atStart => exact ⟨0, Nat.zero_le _, rfl, Below.refl _ _⟩
  case round =>
    obtain ⟨k, hk, rfl, hb⟩ := hrel
    by_cases hlt : k < nr
    · have hkl : k < r.rounds.length := by rw [hrl.out]; exact hlt
      have hbT := b0'.out.trans (hb.mono b0'.out.size)
      have g1 := h.rounds.below hbT (Nat.le_refl _)
      obtain ⟨x1, o1, rfl⟩ := g1.head (by omega)
      obtain ⟨aj, nj, cj, af, nf, cf, p0, p1, pt, pf⟩ := g1.at' k hkl
      have hk0 : (0 : Int) ≤ k := by omega
      have hkn : (k : Int) < nr := by omega
      have z5 := (KS.out wr hb).cell (j := 5) rfl
      have hb' := hid hb
      have hS := hid (smallterms_any aj nj cj _ wr pt)
      have hkeep := hid (show ∀ w', Below wr.heap.size wr w' → w'.cell? ⟨x1, o1 + k * 2 + 1, none⟩ = some (.slice af nf cf) from fun w' hb => (hb.cell (p := ⟨x1, o1 + k * 2 + 1, none⟩) (lt_of_cell p1)).trans p1)
      clear p1 pt pf g1 hbT hb
      go_wp2_with fail
      refine hS.out.mono ?_
      rintro e w2 ⟨⟨B, rfl⟩, o2⟩
      have hb2 := hid (hb'.out.trans (o2.mono hb'.out.size))
      have z5b := (KS.out w2 hb2.out).cell (j := 5) rfl
      have p1 := hkeep.out w2 o2
      have hbT2 := hid (b0'.out.trans (hb2.out.mono b0'.out.size))
      clear o2 hS p0 z5
      cases B
      · clear h hw p1 z5b
        go_wp2_with fail
        refine (awake_any _).mono ?_
        rintro e wz ⟨rfl, oz⟩
        have bz := hid (hbT2.out.trans (oz.mono hbT2.out.size))
        clear oz
        go_wp2
        go_ret
        exact ⟨rfl, bz.out⟩
      · by_cases hf : (30 : Int) < nf
        · clear h hw
          go_wp2_with fail
          refine (awake_any _).mono ?_
          rintro e wz ⟨rfl, oz⟩
          have bz := hid (hbT2.out.trans (oz.mono hbT2.out.size))
          clear oz
          go_wp2
          go_ret
          exact ⟨rfl, bz.out⟩
        · go_wp2
          go_roundw
          case rel => exact ⟨k + 1, by omega, by go_num, hb2.out⟩
          case measure => simp [intOf]; omega
    · obtain rfl : k = nr := by omega
      have hb' := hid hb
      have hbT := hid (b0'.out.trans (hb.mono b0'.out.size))
      clear hb
      go_wp2_with fail
      refine (new_any wr).mono ?_
      rintro e w1 ⟨rfl, hJ1, o1⟩
      have o1s := hJ1.lt
      obtain ⟨jb, ejb⟩ : ∃ jb, jb = wr.heap.size := ⟨_, rfl⟩
      obtain ⟨kb, ekb⟩ : ∃ kb, kb = w1.heap.size := ⟨_, rfl⟩
      have hjb : w0.heap.size ≤ jb := by rw [ejb]; exact hb'.out.size
      have hkb : jb < kb := by omega
      rw [← ejb] at hJ1
      have hK2 : KAt (w1.alloc (.cells #[.string ⟨#[]⟩, .int .i64 0] 48)) kb [] 0 := Has.newAt ekb
      have hJ2 : JAt (w1.alloc (.cells #[.string ⟨#[]⟩, .int .i64 0] 48)) jb [] 0 := hJ1.below ((Below.refl _ _).alloc (Nat.le_refl _) _) (Nat.le_refl _)
      have b1' := hb'.out.trans (o1.mono hb'.out.size)
      have b2' := hid (b1'.alloc b1'.size (.cells #[.string ⟨#[]⟩, .int .i64 0] 48))
      have EJ := hid ejb
      have EK := hid ekb
      clear ejb ekb hJ1 o1 b1' hbT
      go_wp2
      rw [← EJ.out, ← EK.out]
      obtain ⟨w2, ew2⟩ : ∃ w2, w2 = w1.alloc (.cells #[.string ⟨#[]⟩, .int .i64 0] 48) := ⟨_, rfl⟩
      rw [← ew2] at hK2 hJ2 b2'
      rw [← ew2]
      clear ew2
      go_loopw [64] (fun i wq => ∃ (q : Nat) (B : List UInt8) (F : Int), q ≤ nw ∧ i = .int .i64 q ∧ JAt wq jb B F ∧ KAt wq kb B F ∧ Hid (WasInv was q B) ∧ Below w0.heap.size w0 wq) (fun i _ => nw - (intOf i).toNat)
      case atStart => exact ⟨0, [], 0, Nat.zero_le _, rfl, hJ2, hK2, hid (WasInv.zero was), b2'.out⟩
      case round =>

        clear hJ2 hK2 b2'
        obtain ⟨q, B, F, hq, rfl, hJ, hK, hWI, hb⟩ := hrel
        have hJs := hJ.lt
        have hKs := Has.lt hK
        have hq30 : q ≤ 30 := by omega
        have hBl : B.length ≤ 4000000 := by have := hWI.out.len hq30; omega
        by_cases hlt : q < nw
        · have hbT := b0'.out.trans (hb.mono b0'.out.size)
          have hwr := hw.below hbT (Nat.le_refl _)
          obtain ⟨b, o, rfl⟩ := hwr.head (by omega)
          have hrow := RowS.ofHeld hwr
          have hql := hid (show q < was.length by rw [hwl.out]; exact hlt)
          obtain ⟨s, es, hc⟩ := hrow.at q hql.out
          have hbw : b < w.heap.size := by
            obtain ⟨b', o', e', hc'⟩ := (RowS.ofHeld hw) q hql.out
            cases e'
            exact lt_of_cell hc'
          have hsl := hid (show s.data.toList = was[q]'hql.out by rw [es.out, List.getD_eq_getElem?_getD, List.getElem?_eq_getElem hql.out]; simp)
          have hq0 : (0 : Int) ≤ q := by omega
          have hqi : (q : Int) < nw := by omega
          have hbTh := hid hbT
          have hbh := hid hb
          clear es hwr hrow hbT hb
          by_cases hs3 : (300 : Int) < s.size
          · clear h hw hJ hK
            go_wp2_with fail
            refine (awake_any _).mono ?_
            rintro e wz ⟨rfl, oz⟩
            have bz := hid (hbTh.out.trans (oz.mono hbTh.out.size))
            clear oz
            go_wp2
            go_ret
            exact ⟨rfl, bz.out⟩
          · have hss : s.size ≤ 60000 := by omega
            have hA := hid (append_any jb B F s wr hJ hBl hss)
            have hK0 := hid hK
            clear hJ hK
            go_wp2_with fail
            refine hA.out.mono ?_
            rintro e w3 ⟨rfl, hJ3, hO3⟩
            have hK3 : KAt w3 kb B F := Has.only hK0.out hO3 (by simp; omega)
            have hc3 := (hO3.cell (b := b) (o := o + q) (by omega) (by simp; omega)).trans hc
            have hb3 := hid (hO3.toBelow hbh.out (by simp; omega) (Nat.le_trans hbh.out.size (Nat.le_refl _)))
            have hA2 := hid (kappend_any kb B F s w3 hK3 hBl hss)
            have hJ3' := hid hJ3
            have hK3' := hid hK3
            clear hO3 hc hA hJ3 hK3
            go_wp2_with fail
            refine hA2.out.mono ?_
            rintro e w4 ⟨rfl, hK4, hO4⟩
            have hJ4 := hid (hJ3'.out.onlyK hK3'.out hO4)
            have hb4 := hid (hO4.toBelow hb3.out (by simp; omega) hb3.out.size)
            have hK4' := hid hK4
            have hWI2 := hid (show WasInv was (q + 1) (actB B s.data.toList) by
              rw [hsl.out]
              exact hWI.out.step hql.out (by rw [← hsl.out, blen]; omega))
            clear hO4 hK4 hc3 hA2
            go_wp2
            go_roundw
            case rel => exact ⟨q + 1, _, _, by omega, by go_num, hJ4.out, hK4'.out, hWI2, hb4.out⟩
            case measure => simp [intOf]; omega
        · obtain rfl : q = nw := by omega
          have ht5' : r.text.size ≤ 500 := by omega
          have hFit := hid (wrFit hWI.out hq30 Hs.out ht5')
          have KS9 := hid (show ∀ w', Below w0.heap.size w0 w' → w'.cell? ⟨w.heap.size, 0, none⟩ = some (.string r.name) ∧ w'.cell? ⟨w.heap.size, 1, none⟩ = some (.string r.text) ∧ w'.cell? ⟨w.heap.size, 2, none⟩ = some (.int .u64 r.seed) ∧ w'.cell? ⟨w.heap.size, 3, none⟩ = some (.int .i64 r.start) ∧ w'.cell? ⟨w.heap.size, 4, none⟩ = some (.int .i64 r.clock) ∧ w'.cell? ⟨w.heap.size, 5, none⟩ = some (.slice ar k cr) ∧ w'.cell? ⟨w.heap.size, 6, none⟩ = some (.bool r.ended) ∧ w'.cell? ⟨w.heap.size, 7, none⟩ = some (.slice ag ng cg) ∧ w'.cell? ⟨w.heap.size, 8, none⟩ = some (.slice ae ne ce) from fun w' hb => by
            have H' := KS.out w' hb
            exact ⟨H'.cell (j := 0) rfl, H'.cell (j := 1) rfl, H'.cell (j := 2) rfl, H'.cell (j := 3) rfl, H'.cell (j := 4) rfl, H'.cell (j := 5) rfl, H'.cell (j := 6) rfl, H'.cell (j := 7) rfl, H'.cell (j := 8) rfl⟩)
          have hd : Below wr.heap.size wr wr.drew := (Below.refl wr.heap.size wr).drew
          have hbd := hb.trans (hd.mono hb.size)
          have hbTd := b0'.out.trans (hbd.mono b0'.out.size)
          have C1 := hid (jwrite_gen jb B F r ar k cr ag ng cg ae ne ce wr.drew (hJ.below hd (Nat.le_refl _)) (h.below hbTd (Nat.le_refl _)) hFit.out (tab_below Ht.out hbTd (Nat.le_refl _)))
          have m0 := KS9.out wr hb
          have md := KS9.out wr.drew hbd
          have hK0 := hid (show KAt wr.drew kb B F from has_drew hK)
          have hbh := hid hbd
          have hdz : wr.drew.heap.size = wr.heap.size := rfl
          clear hJ hK hd hbTd hb hbd hw
          go_wp2
          go_region_held3 (fun wx => wx.cell? ⟨w.heap.size, 0, none⟩ = some (.string r.name) ∧ wx.cell? ⟨w.heap.size, 1, none⟩ = some (.string r.text) ∧ wx.cell? ⟨w.heap.size, 2, none⟩ = some (.int .u64 r.seed) ∧ wx.cell? ⟨w.heap.size, 3, none⟩ = some (.int .i64 r.start) ∧ wx.cell? ⟨w.heap.size, 4, none⟩ = some (.int .i64 r.clock) ∧ wx.cell? ⟨w.heap.size, 5, none⟩ = some (.slice ar k cr) ∧ wx.cell? ⟨w.heap.size, 6, none⟩ = some (.bool r.ended) ∧ wx.cell? ⟨w.heap.size, 7, none⟩ = some (.slice ag ng cg) ∧ wx.cell? ⟨w.heap.size, 8, none⟩ = some (.slice ae ne ce))
            (first | (with_reducible exact m0) | (with_reducible exact md) | (with_reducible exact m1) | (with_reducible exact m2))
            (first
              | (go_at_call 9; ((with_reducible refine C1.out.mono ?_); rintro e w6 ⟨g, B1, F1, rfl, hJ6, hW6, hO6⟩; have hK6 : KAt w6 kb B F := Has.only hK0.out hO6 (by simp; omega); have hb6 := hO6.toBelow hbh.out (by simp; omega) hbh.out.size; have m1 := KS9.out w6 hb6; have hR6 := h.below (b0'.out.trans (hb6.mono b0'.out.size)) (Nat.le_refl _)))
              | (go_at_call 19; ((with_reducible refine (kwrite_gen kb B F r ar k cr ag ng cg ae ne ce _ hK6 hR6 hFit.out).mono ?_); rintro e w7 ⟨g2, B2, F2, rfl, hK7, hW7, hO7⟩; have hb7 := hO7.toBelow hb6 (by simp; omega) hb6.size; have m2 := KS9.out w7 hb7)))
          obtain ⟨rfl, rfl⟩ := hW6.same hW7
          have hJ7 := hid (hJ6.onlyK hK6 hO7)
          have hK7' := hid hK7
          have hb7' := hid hb7
          have hW7' := hid hW7
          clear m0 md m1 m2 hK0 hJ6 hK6 hO6 hO7 hb6 hR6 hW6 hW7 hK7 hb7 C1
          go_wp2
          have hJ7d := (hJ7.out).below ((Below.refl w7.heap.size w7).drew) (Nat.le_refl _)
          have y0 : w7.cell? ⟨kb, 0, none⟩ = some (.string ⟨B1.toArray⟩) := Has.cell hK7'.out (j := 0) rfl
          have y0d : w7.drew.cell? ⟨kb, 0, none⟩ = some (.string ⟨B1.toArray⟩) := y0
          go_region_held3 (fun wx => wx.cell? ⟨kb, 0, none⟩ = some (.string ⟨B1.toArray⟩)) (first | (with_reducible exact y0) | (with_reducible exact y0d))
            (first
              | (go_at_call 20; ((with_reducible refine (bytes_any jb B1 F1 _ hJ7d).mono ?_); rintro e w8 ⟨rfl, rfl⟩)))
          obtain ⟨w8, ew8⟩ : ∃ w8, w8 = w7.drew := ⟨_, rfl⟩
          have hJ8 : JAt w8 jb B1 F1 := by rw [ew8]; exact hJ7d
          have hK8 : KAt w8 kb B1 F2 := by rw [ew8]; exact has_drew hK7'.out
          have hb8 : Below w0.heap.size w0 w8 := by rw [ew8]; exact hb7'.out.drew
          rw [← ew8]
          obtain ⟨hsh, hl4, hok⟩ := wr_short hWI.out hq30 Hs.out ht5' hW7'.out
          have hbT8 := b0'.out.trans (hb8.mono b0'.out.size)
          have R1 := hid (recover_any jb B1 F1 _ w8 hJ8 hl4 rfl hsh (HT.out.below hbT8) (HW.out.below hbT8 (Nat.le_refl _)) (tab_below Ht.out hbT8 (Nat.le_refl _)))
          have hK8' := hid hK8
          have hb8' := hid hb8
          have hsh' := hid hsh
          have hok' := hid hok
          have hl4' := hid hl4
          clear hJ7d y0 y0d ew8 hJ8 hK8 hb8 hbT8 hsh hl4 hok hJ7 hK7' hb7'
          go_wp2_with fail
          refine R1.out.mono ?_
          rintro e w9 ⟨⟨x, xa, xn, xc, xg, xh, xi, xe, xm, xo, gx, rfl, hx9, hrx⟩, o9⟩
          unfold recV
          have hK9 := hid (show KAt w9 kb B1 F2 from Has.below hK8'.out o9 (Has.lt hK8'.out))
          have hb9 := hid (hb8'.out.trans (o9.mono hb8'.out.size))
          have hrx' := hid hrx
          have hx9' := hid hx9
          clear R1 o9 hrx hx9 hK8'
          have HX := Has.newAt (w := w9) (n := w9.heap.size) (vs := #[.string x.name, .string x.text, .int .u64 x.seed, .int .i64 x.start, .int .i64 x.clock, .slice xa xn xc, .bool x.ended, .slice xg xh xi, .slice xe xm xo]) (T := 27) rfl
          have b10 := hid (hb9.out.alloc hb9.out.size (.cells #[.string x.name, .string x.text, .int .u64 x.seed, .int .i64 x.start, .int .i64 x.clock, .slice xa xn xc, .bool x.ended, .slice xg xh xi, .slice xe xm xo] 27))
          have hK10 := hid (show KAt (w9.alloc (.cells #[.string x.name, .string x.text, .int .u64 x.seed, .int .i64 x.start, .int .i64 x.clock, .slice xa xn xc, .bool x.ended, .slice xg xh xi, .slice xe xm xo] 27)) kb B1 F2 from Has.alloc hK9.out _)
          have hx10 := hid (hx9'.out.below ((Below.refl w9.heap.size w9).alloc (Nat.le_refl _) (.cells #[.string x.name, .string x.text, .int .u64 x.seed, .int .i64 x.start, .int .i64 x.clock, .slice xa xn xc, .bool x.ended, .slice xg xh xi, .slice xe xm xo] 27)) (Nat.le_refl _))
          obtain ⟨xb, exb⟩ : ∃ xb, xb = w9.heap.size := ⟨_, rfl⟩
          have hxw : w0.heap.size ≤ xb := by rw [exb]; exact hb9.out.size
          rw [← exb] at HX
          have HX' := hid HX
          have Exb := hid exb
          clear HX exb hK9 hx9' hb9
          go_wp2_with fail
          rw [← Exb.out]
          obtain ⟨w10, ew10⟩ : ∃ w10, w10 = w9.alloc (.cells #[.string x.name, .string x.text, .int .u64 x.seed, .int .i64 x.start, .int .i64 x.clock, .slice xa xn xc, .bool x.ended, .slice xg xh xi, .slice xe xm xo] 27) := ⟨_, rfl⟩
          rw [← ew10] at HX' b10 hK10 hx10 ⊢
          clear ew10
          refine (rrecover_any kb B1 F2 _ w10 hK10.out hl4'.out rfl hsh'.out).mono ?_
          rintro e w11 ⟨⟨y, ya, yn, yc, yg, yh, yi, ye, ym, yo, gy, rfl, hy11, hry⟩, o11⟩
          unfold recV
          obtain ⟨rfl, rfl⟩ := RecovR.same hrx'.out hry
          have hgr := hid (RecovR.ground hry)
          have b11 := hid (b10.out.trans (o11.mono b10.out.size))
          have hx11 := hid (hx10.out.below o11 (Nat.le_refl _))
          have HX11 := hid (HX'.out.below o11 HX'.out.lt)
          have b12 := hid (b11.out.alloc b11.out.size (.cells #[.string x.name, .string x.text, .int .u64 x.seed, .int .i64 x.start, .int .i64 x.clock, .slice ya yn yc, .bool x.ended, .slice yg yh yi, .slice ye ym yo] 27))
          have HY := hid (Has.newAt (w := w11) (n := w11.heap.size) (vs := #[.string x.name, .string x.text, .int .u64 x.seed, .int .i64 x.start, .int .i64 x.clock, .slice ya yn yc, .bool x.ended, .slice yg yh yi, .slice ye ym yo]) (T := 27) rfl)
          have HX12 := hid (HX11.out.alloc (.cells #[.string x.name, .string x.text, .int .u64 x.seed, .int .i64 x.start, .int .i64 x.clock, .slice ya yn yc, .bool x.ended, .slice yg yh yi, .slice ye ym yo] 27))
          have hx12 := hid (hx11.out.below ((Below.refl w11.heap.size w11).alloc (Nat.le_refl _) (.cells #[.string x.name, .string x.text, .int .u64 x.seed, .int .i64 x.start, .int .i64 x.clock, .slice ya yn yc, .bool x.ended, .slice yg yh yi, .slice ye ym yo] 27)) (Nat.le_refl _))
          have hy12 := hid (hy11.below ((Below.refl w11.heap.size w11).alloc (Nat.le_refl _) (.cells #[.string x.name, .string x.text, .int .u64 x.seed, .int .i64 x.start, .int .i64 x.clock, .slice ya yn yc, .bool x.ended, .slice yg yh yi, .slice ye ym yo] 27)) (Nat.le_refl _))
          obtain ⟨yb, eyb⟩ : ∃ yb, yb = w11.heap.size := ⟨_, rfl⟩
          rw [← eyb] at HY
          have Eyb := hid eyb
          clear eyb o11 hry hy11 hx11 HX11 hx10 HX' hK10
          have q0 := HX12.out.cell (j := 0) rfl
          have q1 := HX12.out.cell (j := 1) rfl
          have q2 := HX12.out.cell (j := 2) rfl
          have q3 := HX12.out.cell (j := 3) rfl
          have q4 := HX12.out.cell (j := 4) rfl
          have q5 := HX12.out.cell (j := 5) rfl
          have q6 := HX12.out.cell (j := 6) rfl
          have q7 := HX12.out.cell (j := 7) rfl
          have q8 := HX12.out.cell (j := 8) rfl
          have s0 := HY.out.cell (j := 0) rfl
          have s1 := HY.out.cell (j := 1) rfl
          have s2 := HY.out.cell (j := 2) rfl
          have s3 := HY.out.cell (j := 3) rfl
          have s4 := HY.out.cell (j := 4) rfl
          have s5 := HY.out.cell (j := 5) rfl
          have s6 := HY.out.cell (j := 6) rfl
          have s7 := HY.out.cell (j := 7) rfl
          have s8 := HY.out.cell (j := 8) rfl
          go_wp2_with fail
          rw [← Eyb.out]
          obtain ⟨w12, ew12⟩ : ∃ w12, w12 = w11.alloc (.cells #[.string x.name, .string x.text, .int .u64 x.seed, .int .i64 x.start, .int .i64 x.clock, .slice ya yn yc, .bool x.ended, .slice yg yh yi, .slice ye ym yo] 27) := ⟨_, rfl⟩
          rw [← ew12] at b12 HY HX12 hx12 hy12 ⊢
          clear ew12 q0 s0 q1 s1 q2 s2 q3 s3 q4 s4 q5 s5 q6 s6 q7 s7 q8 s8
          refine (same_any x xa ya xg yg xe ye xn yn xc yc xh yh xi yi xm ym xo yo w12 hx12.out hy12.out hgr.out).mono ?_
          rintro e w13 ⟨rfl, o13⟩
          have b13 := hid (b12.out.trans (o13.mono b12.out.size))
          have HX13 := hid (HX12.out.below o13 HX12.out.lt)
          have hx13 := hid (hx12.out.below o13 (Nat.le_refl _))
          have hbT13 := hid (b0'.out.trans (b13.out.mono b0'.out.size))
          clear o13 HY HX12 hx12 hy12 b12
          by_cases hg0 : g = 0
          · subst hg0
            obtain ⟨hfr, hpr⟩ := hok'.out rfl
            obtain ⟨rfl, rfl⟩ := hrx'.out.1 r hfr hpr.symm
            have q0 := HX13.out.cell (j := 0) rfl
            have q1 := HX13.out.cell (j := 1) rfl
            have q2 := HX13.out.cell (j := 2) rfl
            have q3 := HX13.out.cell (j := 3) rfl
            have q4 := HX13.out.cell (j := 4) rfl
            have q5 := HX13.out.cell (j := 5) rfl
            have q6 := HX13.out.cell (j := 6) rfl
            have q7 := HX13.out.cell (j := 7) rfl
            have q8 := HX13.out.cell (j := 8) rfl
            have HR13 := KS.out w13 b13.out
            have s0 := HR13.cell (j := 0) rfl
            have s1 := HR13.cell (j := 1) rfl
            have s2 := HR13.cell (j := 2) rfl
            have s3 := HR13.cell (j := 3) rfl
            have s4 := HR13.cell (j := 4) rfl
            have s5 := HR13.cell (j := 5) rfl
            have s6 := HR13.cell (j := 6) rfl
            have s7 := HR13.cell (j := 7) rfl
            have s8 := HR13.cell (j := 8) rfl
            have hr13 := hid (h.below hbT13.out (Nat.le_refl _))
            have hSm := hid (same_any x xa ar xg ag xe ae xn k xc cr xh ng xi cg xm ne xo ce w13 hx13.out hr13.out hfr.ground)
            clear HR13 hpr
            go_wp2_with fail
            refine hSm.out.mono ?_
            rintro e w14 ⟨rfl, o14⟩
            have bT14 := hid (hbT13.out.trans (o14.mono hbT13.out.size))
            clear o14 q0 s0 q1 s1 q2 s2 q3 s3 q4 s4 q5 s5 q6 s6 q7 s7 q8 s8
            go_wp2_with fail
            refine (awake_any _).mono ?_
            rintro e wz ⟨rfl, oz⟩
            have bz := hid (bT14.out.trans (oz.mono bT14.out.size))
            clear oz
            go_wp2
            go_ret
            exact ⟨rfl, bz.out⟩
          · have hgb : (g != 0) = true := by rw [bne_iff_ne]; exact hg0
            go_wp2_with fail
            refine (awake_any _).mono ?_
            rintro e wz ⟨rfl, oz⟩
            have bz := hid (hbT13.out.trans (oz.mono hbT13.out.size))
            clear oz
            go_wp2
            go_ret
            exact ⟨rfl, bz.out⟩
end Go.Proofs.YtahbhhenobehfaaGreatDoor
namespace Go.Proofs.YtahbhhenobehfaaGreatDoor
open Go.ChangeShapes Go.WideShapes Go.ChangeAt Go.RowKit Go.Deep

def laid8 : List (String × DataW Unit) := [("math/bits.deBruijn32tab", Rows.laid_math_bits_deBruijn32tab), ("math/bits.deBruijn64tab", Rows.laid_math_bits_deBruijn64tab), ("internal/strconv.uint64pow10", Rows.laid_internal_strconv_uint64pow10), ("unicode/utf8.acceptRanges", Rows.laid_unicode_utf8_acceptRanges), ("strconv.ErrRange", Rows.laid_strconv_ErrRange), ("strconv.ErrSyntax", Rows.laid_strconv_ErrSyntax), ("gameplayer/lexer.words", Rows.laid_gameplayer_lexer_words), ("unicode/utf8.first", Rows.laid_unicode_utf8_first)]
set_option maxRecDepth 100000 in
theorem plain8 {W : World} (h : laidMetH Tryz.prog laid8 W) : laidMet Tryz.prog laid8 W := by
  rwa [MakeChecks.laidMetH_plain _ _ _ (by kernel_rfl)] at h
set_option maxRecDepth 100000 in
theorem tab8 {W : World} (h : laidMet Tryz.prog laid8 W) : Tab W := by
  have h3 := laidMet.tail (laidMet.tail h)
  have e : (Rows.laid_internal_strconv_uint64pow10 : DataW Unit) = Lib.tabData .u64 Lib.pow10Tab := by kernel_rfl
  rw [e] at h3
  exact Lib.tabIs_of_head (g := 0) (t := 177) (e := 22) (n := 20) (by kernel_rfl) (by kernel_rfl) Tryz.underlying177 Tryz.underlying22 (by kernel_rfl) (by kernel_rfl) h3
set_option maxRecDepth 100000 in
theorem err_of {W : World} {n : String} {g : Nat} {nm : String} {d : DataW Unit} (h : Lib.VarReads Tryz.prog W n (.iface nm d)) (hg : Tryz.prog.globalNamed n = some g) (ht : (Tryz.prog.globals[g]?).map (·.type) = some 104) :
    ∃ ev, W.cell? ⟨g, 0, none⟩ = some ev ∧ (ev = .nilIface ∨ ∃ te pe, ev = .iface te pe) := by
  obtain ⟨g', t', cs, fuel, p, hg', ht', hv, hd⟩ := h
  obtain rfl := Option.some.inj (hg.symm.trans hg')
  obtain rfl := Option.some.inj (ht.symm.trans ht')
  obtain ⟨_, u, v, e, _, _⟩ := iface_of_trod Tryz.underlying104 hd
  refine ⟨.iface u v, ?_, Or.inr ⟨u, v, rfl⟩⟩
  rw [World.var?_cell hg hv 0, ← Array.getElem?_toList, e]
  rfl
set_option maxRecDepth 100000 in
theorem words_of {W : World} (h : Lib.VarReads Tryz.prog W "gameplayer/lexer.words" Rows.laid_gameplayer_lexer_words) : Words W := by
  obtain ⟨g, t, cs, fuel, p, hg, ht, hv, hd⟩ := h
  obtain rfl : 8 = g := Option.some.inj ((show Tryz.prog.globalNamed "gameplayer/lexer.words" = some 8 by kernel_rfl).symm.trans hg)
  obtain rfl : 203 = t := Option.some.inj ((show (Tryz.prog.globals[8]?).map (·.type) = some 203 by kernel_rfl).symm.trans ht)
  intro j hj
  obtain ⟨fuel', d, q, hdi, he⟩ := Lib.array_elem Tryz.underlying203 hd j hj
  rw [show Tryz.prog.cellsOf 9 = 1 by kernel_rfl] at he
  obtain ⟨s, hs, hx, _⟩ := DataW.trod_string Tryz.underlying9 he
  have hc : cs[j]? = some (.string s) := by
    have := congrArg (·[0]?) hs
    simpa [List.getElem?_take, List.getElem?_drop] using this
  rw [World.var?_cell hg hv (0 + j), Nat.zero_add, hc]
  have hds : d = .lit (.string s.data.toList) := congrArg Prod.fst hx
  subst hds
  have fin : ∀ l : List UInt8, s.data.toList = l → s = ⟨l.toArray⟩ := fun l e => by
    subst e; cases s; simp
  match j, hj, hdi with
  | 0, _, hdi => rw [fin [105, 102] (by simpa using hdi.symm)]; rfl
  | 1, _, hdi => rw [fin [97, 110, 100] (by simpa using hdi.symm)]; rfl
  | 2, _, hdi => rw [fin [110, 111, 116] (by simpa using hdi.symm)]; rfl
set_option maxRecDepth 100000 in
theorem tabs8 {W : World} (h : laidMet Tryz.prog laid8 W) (hsh : W.ShapedOpen Tryz.prog) : Tabs W := by
  refine ⟨?_, ?_, ?_, ?_⟩
  · refine utf8Tabs_of_readsT (U8Types.of260 Tryz.lays260) ⟨by kernel_rfl, by kernel_rfl, by kernel_rfl, by kernel_rfl, by kernel_rfl, by kernel_rfl, by kernel_rfl⟩ ?_ ?_
    · have := Lib.laidMet.reads h (n := "unicode/utf8.first") (d := Rows.laid_unicode_utf8_first) (.tail _ (.tail _ (.tail _ (.tail _ (.tail _ (.tail _ (.tail _ (.head _))))))))
      rwa [show Rows.laid_unicode_utf8_first = Lib.firstData from Pinned.utf8First_eq] at this
    · have := Lib.laidMet.reads h (n := "unicode/utf8.acceptRanges") (d := Rows.laid_unicode_utf8_acceptRanges) (.tail _ (.tail _ (.tail _ (.head _))))
      rwa [show (Rows.laid_unicode_utf8_acceptRanges : DataW Unit) = Lib.acceptData by kernel_rfl] at this
  · exact Go.Proofs.cell_of_shapedOpen_int (zero := #[.int .i64 0]) (t := 3) hsh (of_decide_eq_true (by kernel_rfl)) (by kernel_rfl) rfl (by kernel_rfl) (by kernel_rfl) Tryz.underlying3
  · exact err_of (Lib.laidMet.reads h (n := "strconv.ErrSyntax") (d := Rows.laid_strconv_ErrSyntax) (.tail _ (.tail _ (.tail _ (.tail _ (.tail _ (.head _))))))) (by kernel_rfl) (by kernel_rfl)
  · exact err_of (Lib.laidMet.reads h (n := "strconv.ErrRange") (d := Rows.laid_strconv_ErrRange) (.tail _ (.tail _ (.tail _ (.tail _ (.head _)))))) (by kernel_rfl) (by kernel_rfl)
theorem words8 {W : World} (h : laidMet Tryz.prog laid8 W) : Words W :=
  words_of (Lib.laidMet.reads h (.tail _ (.tail _ (.tail _ (.tail _ (.tail _ (.tail _ (.head _))))))))
section
variable {H : Type} {enc : TypeId × Value → H} {W : World} {spare : Nat → Bool} {held : Bool}
theorem strs_of {fuel : Nat} {a : Option Addr} {n cap : Nat} {x : DataW H × List MemPlace} (h : DataW.trod enc Tryz.prog W 0 spare held fuel 32 [.slice a n cap] = some x) : ∃ l : List (List UInt8), HeldL StrC W a n cap l := by
  obtain ⟨a', n', c', l, e, hl⟩ := slice_of (C := StrC) [] Tryz.underlying32 cellsOf_str (fun fuel u x hx => by
    obtain ⟨s, e, _, _⟩ := DataW.trod_string Tryz.underlying9 hx
    cases e
    refine ⟨s.data.toList, fun w' _ => ?_⟩
    show Value.string s = .string (str s.data.toList)
    rw [str_eta]) h
  cases e
  exact ⟨l, hl⟩
end
/-- The wrap of a row that lists variables, the world's shape kept. -/
theorem handed_laid_shaped {H : Type} {enc : TypeId × Value → H} {a : Assume} {C : Checked} {os : Os} {f : FuncId} {fn : Func} {s : ChangeSpec} {conds : List PathCond} {apart fresh handsOn again : Bool} {X : World → Array Value → Prop}
    (hX : ∀ (w w' : World) (args : Array Value), w.heap = w'.heap → X w args → X w' args)
    (own : ownKnob C.prog.godebug = none) (started : os.Started) (noInit : C.prog.inits.idxOf? f = none) (hfn : C.prog.funcs[f]? = some fn)
    (witness : ∃ (w : World) (tape : Tape) (i : Input), w.os = os ∧ (w.forCall tape i).Shaped C.prog ∧ i.vars = [] ∧ Input.okWide C.prog (w.forCall tape i) .any w.heap.size f i ∧
      ((s.pre enc C.prog fn conds apart (w.forCall tape i).memory i.args ∧ X (w.forCall tape i).memory i.args) ∧ sizedMet enc C.prog fn (OpenSpec.ofChange s) apart (w.forCall tape i).memory i.args) ∧ a.holds C.prog (lone (Frame.enter C.prog f i.args .normal) [] (w.forCall tape i)))
    (contract : ∀ (W : World) (base : Nat) (args : Array Value) (ds gs : List (DataW H)) (before : List MemPlace),
      (∀ (j : Nat) t v, fn.params[j]? = some t → args[j]? = some v → Value.okWide C.prog W .any base t v) →
      DataW.Whole enc C.prog fn.params.toList s.vars apart W args.toList ds gs before → X W args → W.ShapedOpen C.prog →
      Calls C.prog f args W fun e W' => ∃ v, e = .returned v ∧ s.post enc C.prog fn apart fresh handsOn again W args v W') :
    ReturnsInHanded a C os f .any (fun w args => (s.pre enc C.prog fn conds apart w args ∧ X w args) ∧ sizedMet enc C.prog fn (OpenSpec.ofChange s) apart w args) (s.post enc C.prog fn apart fresh handsOn again) := by
  refine returnsInHanded_of_calls own started noInit witness ?_
  intro w tape i _ hsh _ hok hpre _
  obtain ⟨_, _, _, fn', hfn', _, _, _, _, hval⟩ := hok
  have e : fn' = fn := Option.some.inj (hfn'.symm.trans hfn)
  subst e
  obtain ⟨⟨⟨ds, gs, before, hw, _⟩, hx⟩, _⟩ := hpre
  have hw' := DataW.Whole.of_heap (w' := w.forCall tape i) (by rfl) hw
  refine (contract (w.forCall tape i) w.heap.size i.args ds gs before hval hw' (hX _ _ _ (by rfl) hx) hsh).mono fun e W' ⟨v, he, hp⟩ => ?_
  subst he
  exact ChangeSpec.post_blind hp
end Go.Proofs.YtahbhhenobehfaaGreatDoor
