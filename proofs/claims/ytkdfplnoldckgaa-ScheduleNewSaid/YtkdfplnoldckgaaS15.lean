/-
  The walk of the closure find of paired, which calls itself and remembers the sets that cannot be paired.
-/
import Derived.Test.YtkdfplnoldckgaaRows
import Derived.Test.YtkdfplnoldckgaaSMem
import Derived.Test.YtkdfplnoldckgaaSPlain7
import Derived.Test.YtkdfplnoldckgaaS3
import Derived.Test.YtkdfplnoldckgaaS10
import Derived.Test.YtkdfplnoldckgaaS11
import Derived.WalkKit
import Derived.ProofKit
import Derived.OpenShut
import Derived.Maps.OwnOps
import Derived.Maps.OwnSet
import Derived.Deep.QuietTactic
import Derived.Deep.RegionHeld3
import Derived.Deep.DrawnRows
import Derived.BigQuiet
import Derived.Deep.DeepMust
import Derived.Outline
namespace Go.Proofs.Ytkdfplnoldckgaa
open Go.ChangeShapes Go.WideShapes Go.ChangeAt Go.RowKit
attribute [local go_sem ↓] Go.wp_at_zero Go.wp_at_succ
theorem zero_bool (w : World) : (zeroValue 4).run Try.prog w = .ok (.bool false) w := by kernel_rfl
theorem key_int (m : Nat) (h : m < 2 ^ 16) : keyOf Try.prog 3 (.int .i64 m) = some (.int .i64 m) := by
  have hw : (Lit.int IntKind.i64 (m : Int)).wf = true := by
    have := wf_wrap .i64 (m : Int)
    rwa [IntWalk.i64_in _ (by omega)] at this
  simp [keyOf, mapKey, Try.underlying3, hw]
theorem or_pow (m p : Nat) (hm : m < 2 ^ 16) (hp : p < 16) : bits .or .i64 (m : Int) (wrap64 (2 ^ p)) = ((m ||| 2 ^ p : Nat) : Int) := by
  have h2 : 2 ^ p < 2 ^ 16 := Nat.pow_lt_pow_right (by omega) hp
  have e : wrap64 ((2 : Int) ^ p) = ((2 ^ p : Nat) : Int) := by
    rw [show ((2 : Int) ^ p) = ((2 ^ p : Nat) : Int) by push_cast; rfl]
    obtain ⟨X, eX⟩ : ∃ X, X = 2 ^ p := ⟨_, rfl⟩
    rw [← eX] at h2 ⊢
    exact IntWalk.wrap64_in _ (by omega)
  rw [e]
  exact or_i64 m (2 ^ p) hm h2
/-- The memory of the search: block Bm is a map that reads as F. -/
def MapAt (w : World) (Bm nm : Nat) (F : Nat → Bool) : Prop :=
  ∃ D : DataW Unit, w.ownsMap Try.prog 3 (plainElem Try.prog 4) Bm nm D ∧ ∀ m : Nat, D.atKey (.int .i64 m) (.lit (.bool false)) = .lit (.bool (F m))
theorem MapAt.look {w : World} {Bm nm : Nat} {F : Nat → Bool} (h : MapAt w Bm nm F) (m : Nat) (hm : m < 2 ^ 16) : (Instr.lookup 70 (.map (some Bm)) (.int .i64 m) false).run Try.prog w = .ok (.bool (F m)) w := by
  obtain ⟨D, h1, h2⟩ := h
  obtain ⟨v, ps, hr, hv⟩ := h1.lookup (Go.Maps.int_keyed Try.underlying3) Try.underlying70 (zero_bool w) (plainElem_bool Try.underlying4 false) (key_int m hm)
  rw [h2 m] at hv
  rw [hr]
  congr 1
  unfold plainElem at hv
  rw [Try.underlying4] at hv
  cases v <;> simp_all
theorem MapAt.below {w w' : World} {Bm nm : Nat} {F : Nat → Bool} (h : MapAt w Bm nm F) {B : Nat} (hb : Below B w w') (hB : w.heap.size ≤ B) : MapAt w' Bm nm F := by
  obtain ⟨D, h1, h2⟩ := h
  exact ⟨D, h1.kept (row := none) ⟨hb.os, hb.tape, hb.output, hb.size, fun i hi _ => hb.block i (Nat.lt_of_lt_of_le hi hB)⟩ (by simp), h2⟩
theorem MapAt.agr {w w' : World} {Bm nm : Nat} {F : Nat → Bool} {v : Value} (h : MapAt w Bm nm F) (k : Agr (fun k => v.ownBlock ≠ some k) w w') (hv : v.ownBlock ≠ some Bm) : MapAt w' Bm nm F := by
  obtain ⟨D, ⟨es, clock, h1, h2⟩, h3⟩ := h
  exact ⟨D, ⟨es, clock, (k.block Bm (lt_of_block h1) hv).trans h1, h2⟩, h3⟩
theorem MapAt.mono {w : World} {Bm nm n' : Nat} {F : Nat → Bool} (h : MapAt w Bm nm F) (hn : nm ≤ n') : MapAt w Bm n' F := by
  obtain ⟨D, h1, h2⟩ := h
  exact ⟨D, h1.mono hn, h2⟩
def findV (Bf Bp Bv : Nat) : Value := .func (.func 48) #[] #[.pointer (some ⟨Bf, 0, none⟩), .pointer (some ⟨Bp, 0, none⟩), .pointer (some ⟨Bv, 0, none⟩)]
/-- The variables of paired. -/
structure FEnv (Bm Bf Bp Bv : Nat) (ap : Option Addr) (np cp : Nat) (PL0 : List (List Int)) (w : World) : Prop where
  cf : w.cell? ⟨Bf, 0, none⟩ = some (.map (some Bm))
  cpl : w.cell? ⟨Bp, 0, none⟩ = some (.slice ap np cp)
  cv : w.cell? ⟨Bv, 0, none⟩ = some (findV Bf Bp Bv)
  pl : Rests (SliceOf IntsC) (fun k => k ≠ Bm) w (.slice ap np cp) PL0
  ne : Bf ≠ Bm ∧ Bp ≠ Bm ∧ Bv ≠ Bm
theorem Only.agr1 {Bm : Nat} {w w' : World} (h : Only [Bm] w w') : Agr (fun k => k ≠ Bm) w w' := ⟨h.size, fun k hk hs => h.block k hk (by simpa using hs)⟩
theorem FEnv.only {Bm Bf Bp Bv np cp : Nat} {ap : Option Addr} {PL0 : List (List Int)} {w w' : World} (h : FEnv Bm Bf Bp Bv ap np cp PL0 w) (k : Only [Bm] w w') : FEnv Bm Bf Bp Bv ap np cp PL0 w' :=
  ⟨k.agr1.cell h.cf h.ne.1, k.agr1.cell h.cpl h.ne.2.1, k.agr1.cell h.cv h.ne.2.2, h.pl.move k.agr1 (fun _ _ h => h), h.ne⟩
/-- What is remembered is true. -/
def MemOk (M : Int → Int → Bool) (players : List Int) (F : Nat → Bool) : Prop := ∀ m, F m = true → ∀ l, l.Sublist players → maskN l = m → PL M l = none
/-- What find does. -/
def FindSaid (Bm Bf Bp Bv : Nat) (ap : Option Addr) (np cp : Nat) (PL0 : List (List Int)) (players : List Int) (f : Nat) : Prop :=
  ∀ (left : List Int) (ad : Option Addr) (n cap nm : Nat) (F : Nat → Bool) (w : World), left.length ≤ f → left.Sublist players → Rests (SliceOf IntC) (fun k => k ≠ Bm) w (.slice ad n cap) left → FEnv Bm Bf Bp Bv ap np cp PL0 w → MapAt w Bm nm F → MemOk (metB PL0) players F → nm + memU f ≤ 1000000000000000 →
    Calls Try.prog 48 #[.slice ad n cap, .pointer (some ⟨Bf, 0, none⟩), .pointer (some ⟨Bp, 0, none⟩), .pointer (some ⟨Bv, 0, none⟩)] w fun e w' =>
      ∃ v, e = .returned (.tuple #[v, .bool (PL (metB PL0) left).isSome]) ∧ OwnL IntsC w.heap.size 38 w' v ((PL (metB PL0) left).getD []) ∧ Only [Bm] w w' ∧ ∃ n' F', MapAt w' Bm n' F' ∧ MemOk (metB PL0) players F' ∧ n' ≤ nm + memU f
theorem find_nil (Bm Bf Bp Bv : Nat) (PL0 : List (List Int)) (players : List Int) (f : Nat) (ad : Option Addr) (cap nm : Nat) (F : Nat → Bool) (w : World) (hM : MapAt w Bm nm F) (hF : MemOk (metB PL0) players F) :
    Calls Try.prog 48 #[.slice ad 0 cap, .pointer (some ⟨Bf, 0, none⟩), .pointer (some ⟨Bp, 0, none⟩), .pointer (some ⟨Bv, 0, none⟩)] w fun e w' =>
      ∃ v, e = .returned (.tuple #[v, .bool (PL (metB PL0) []).isSome]) ∧ OwnL IntsC w.heap.size 38 w' v ((PL (metB PL0) []).getD []) ∧ Only [Bm] w w' ∧ ∃ n' F', MapAt w' Bm n' F' ∧ MemOk (metB PL0) players F' ∧ n' ≤ nm + memU f := by
  rw [PL_nil]
  go_enter Try.func48, Try.ntmps48
  go_wp2
  go_ret2
  exact ⟨.slice none 0 0, rfl, OwnL.nil _ _ _ _, Only.refl _ _, nm, F, hM, hF, by omega⟩
/-- append of the elements of another slice of the call's own (nil let in), as it stood in an earlier world w0. -/
theorem run_append_owns {P : Program} (w0 w : World) (base base' : Nat) (t ty E : TypeId) (i : TypeInfo) (z : Value) (bytes : Nat) (ht : P.underlying t = some (.slice E)) (hi : P.info? E = some i) (hz : i.zero = some z)
    (hsize : i.size = 1) (hby : i.bytes = bytes) (hzs : z.cells.size = 1) (v : Value) (l : List (List Int)) (hown : OwnL IntsC base E w v l)
    (ad : Option Addr) (m c : Nat) (ys : List (List Int)) (h : OwnL IntsC base' E w0 (.slice ad m c) ys) (hb : Below w0.heap.size w0 w) (hS : ∀ k, k < w0.heap.size → base' ≤ k → base ≤ k ∧ v.ownBlock ≠ some k) (h63 : l.length + m ≤ maxLen) (hbytes : (l.length + m) * bytes ≤ 140737488355328) (hbase : base ≤ w.heap.size) :
    ∃ v' w', (Builtin.append_ #[t, t] ty #[v, .slice ad m c]).run P w = .ok v' w' ∧ OwnL IntsC base E w' v' (l ++ ys) ∧ Below base w w' ∧ Agr (fun k => v.ownBlock ≠ some k) w w' ∧ ∀ g, v'.ownBlock = some g → v.ownBlock = some g ∨ w.heap.size ≤ g := by
  obtain ⟨ad', cap', e, hh⟩ := h.slice
  have hm : ys.length = m := by injection e with e1 e2 e3; exact e2.symm
  cases ad with
  | none =>
    injection e with e1 e2 e3
    subst e1
    have h0 : ys = [] := by
      rcases Nat.eq_zero_or_pos ys.length with h0 | h0
      · exact List.eq_nil_of_length_eq_zero h0
      · obtain ⟨b, o, e⟩ := hh.head h0; cases e
    subst h0
    have hown' := hown
    obtain ⟨xs, h1, _⟩ := hown
    subst hm
    exact ⟨v, w, run_append_of_none w base t ty E i ht hi v l.length xs h1 c, by rw [List.append_nil]; exact hown', Below.refl _ _, Agr.refl _ _, fun g e => Or.inl e⟩
  | some a =>
    subst hm
    obtain ⟨us, hl, hus⟩ := news_own h one_ints (S := fun k => base' ≤ k ∧ k < w0.heap.size) (fun k hk hb _ => ⟨hb, hk⟩)
    refine run_appendL w base t ty E i z bytes ht hi hz hsize hby hzs v l hown a c us ys hl (fun j hj => ?_) h63 hbytes hbase
    obtain ⟨u, e1, e2, e3, e4⟩ := hus j hj
    exact ⟨u, e1, (hb.cell (World.block_lt_of_cell? w0 _ e2)).trans e2, e3, e4.move ⟨hb.size, fun k hk hs => hb.block k hs.2⟩ (fun k hk hs => hS k hs.2 hs.1)⟩
set_option maxRecDepth 20000 in
set_option maxHeartbeats 8000000 in
theorem find_succ (Bm Bf Bp Bv : Nat) (ap : Option Addr) (np cp : Nat) (PL0 : List (List Int)) (players : List Int) (f : Nat) (hP : players.Nodup) (hr : ∀ p ∈ players, 0 ≤ p ∧ p < 16) (hpl : players.length ≤ 16) (ih : Hid (FindSaid Bm Bf Bp Bv ap np cp PL0 players f)) :
    FindSaid Bm Bf Bp Bv ap np cp PL0 players (f + 1) := by
  intro left ad n cap nm F w hlf hsub hl hE hM hF hU
  obtain ⟨i0, hi, hz0, hz1, hz2⟩ := info_parts info_pairing
  cases left with
  | nil =>
    obtain ⟨_, _, _, e, h1, _⟩ := hl.now
    cases e
    obtain rfl : n = 0 := h1.symm
    exact find_nil Bm Bf Bp Bv PL0 players (f + 1) ad cap nm F w hM hF
  | cons x r =>
    have hlh : HeldL IntC w ad n cap (x :: r) := hl.held
    have hlen := hlh.len
    have hn16 : n ≤ 16 := by rw [← hlen]; exact Nat.le_trans hsub.length_le hpl
    obtain ⟨left, el⟩ : ∃ left, left = x :: r := ⟨_, rfl⟩
    rw [← el] at hl hlh hlen hlf hsub ⊢
    have hin := hid (fun k (hk : k < left.length) => hr _ (hsub.subset (getD_mem (d := (0 : Int)) hk)))
    have hn0 : 0 < n := by rw [← hlen, el]; simp
    have hnr := hid (show n = r.length + 1 by rw [← hlen, el]; rfl)
    have Hel := hid el
    have Hlen := hid hlen
    have Hlf := hid hlf
    have Hsub := hid hsub
    have hnz : ((n : Int) == 0) = false := by simp; omega
    have hrr := hid hr
    clear el hlen hlf hsub hr
    obtain ⟨b, o, rfl⟩ := hlh.head hn0
    have cf := hE.cf
    go_enter Try.func48, Try.ntmps48
    go_wp2
    go_loop [7, 18] (fun s i => ∃ k : Nat, k ≤ n ∧ i = .int .i64 k ∧ s = .int .i64 (maskN (left.take k))) (fun _ i => n - (intOf i).toNat)
    case atStart => exact ⟨0, Nat.zero_le _, rfl, rfl⟩
    case round =>
      obtain ⟨k, hk, rfl, rfl⟩ := hrel
      by_cases hlt : k < n
      · have hkl : k < left.length := by rw [Hlen.out]; exact hlt
        have hc := hlh.int k hlt
        have hp := hin.out k hkl
        have hk0 : (0 : Int) ≤ k := by omega
        have hkn : (k : Int) < n := by omega
        have hst := hid (show maskN (left.take (k + 1)) = maskN (left.take k) ||| 2 ^ (left.getD k 0).toNat by rw [take_getD' left k hkl, maskN_snoc])
        have hmb : maskN (left.take k) < 2 ^ 16 := maskN_lt _ (fun p hp => by
          obtain ⟨i, hi, e⟩ := List.getElem_of_mem (List.mem_of_mem_take hp)
          have := hin.out i hi
          rw [List.getD_eq_getElem?_getD, List.getElem?_eq_getElem hi] at this
          rw [← e]; exact this)
        obtain ⟨p, ep⟩ : ∃ p, p = left.getD k 0 := ⟨_, rfl⟩
        rw [← ep] at hc hp hst
        obtain ⟨p, rfl⟩ := Int.eq_ofNat_of_zero_le hp.1
        rw [Int.toNat_natCast] at hst
        obtain ⟨m, em⟩ : ∃ m, m = maskN (left.take k) := ⟨_, rfl⟩
        rw [← em] at hst hmb ⊢
        have hp0 : (0 : Int) ≤ p := by omega
        have hp16 : (p : Int) < 16 := by omega
        have Hmb := hid hmb
        clear ep em hkl hmb
        go_wp2
        rw [or_pow m p Hmb.out (by omega)]
        go_round
        case rel => exact ⟨k + 1, by omega, by go_num, by rw [hst.out]⟩
        case measure => simp [intOf]; omega
      · obtain rfl : n = k := by omega
        rw [List.take_of_length_le (by rw [Hlen.out]; exact Nat.le_refl _)]
        have hmb : maskN left < 2 ^ 16 := maskN_lt _ (fun p hp => by
          obtain ⟨i, hi, e⟩ := List.getElem_of_mem hp
          have := hin.out i hi
          rw [List.getD_eq_getElem?_getD, List.getElem?_eq_getElem hi] at this
          rw [← e]; exact this)
        obtain ⟨m, em⟩ : ∃ m, m = maskN left := ⟨_, rfl⟩
        rw [← em] at hmb ⊢
        have hlook := hM.look m hmb
        have Hem := hid em
        have Hmb := hid hmb
        clear em hmb
        cases hFm : F m
        · rw [hFm] at hlook
          have HU := hid (show ∀ q, q < r.length → nm + q * memU f + memU f ≤ 1000000000000000 from fun q hq => by
            have h1 : r.length ≤ f := by have := Hlf.out; rw [Hlen.out, hnr.out] at this; omega
            have h2 : q * memU f + memU f ≤ f * memU f := by rw [← Nat.add_one_mul]; exact Nat.mul_le_mul_right _ (by omega)
            have h3 : memU (f + 1) = 1 + f * memU f := rfl
            omega)
          have HU2 := hid (show nm + r.length * memU f + 1 ≤ nm + memU (f + 1) by
            have h1 : r.length ≤ f := by have := Hlf.out; rw [Hlen.out, hnr.out] at this; omega
            have h2 : r.length * memU f ≤ f * memU f := Nat.mul_le_mul_right _ h1
            have h3 : memU (f + 1) = 1 + f * memU f := rfl
            omega)
          have HUt := hid hU
          have HF := hid hF
          clear hU hF hFm
          have hbm : Bm < w.heap.size := by obtain ⟨D, h1, _⟩ := hM; exact h1.lt
          go_wp2
          clear hlook
          go_loopw [10] (fun i wr => ∃ (q nm1 : Nat) (F1 : Nat → Bool), 1 ≤ q ∧ q ≤ n ∧ i = .int .i64 q ∧ Hid (noneTo (metB PL0) x r (q - 1)) ∧ Only [Bm] w wr ∧ MapAt wr Bm nm1 F1 ∧ Hid (MemOk (metB PL0) players F1) ∧ Hid (nm1 ≤ nm + (q - 1) * memU f)) (fun i _ => n - (intOf i).toNat)
          case atStart => exact ⟨1, nm, F, Nat.le_refl _, hn0, rfl, hid (noneTo_zero _ _ _), Only.refl _ _, hM, HF, hid (by omega)⟩
          case round =>
            obtain ⟨q, nm1, F1, hq1, hq, rfl, hN, hO, hM1, hF1, hB1⟩ := hrel
            by_cases hql : q < n
            · have hlr := hl.move hO.agr1 (S' := fun k => k ≠ Bm) (fun _ _ h => h)
              have hlw : HeldL IntC wr (some ⟨b, o, none⟩) n cap left := hlr.held
              have hEr := hE.only hO
              have cpl := hEr.cpl
              have cv := hEr.cv
              unfold findV at cv
              have hplh : HeldL IntsC wr ap np cp PL0 := hEr.pl.held
              have cx := hlw.int 0 hn0
              rw [Nat.add_zero, Hel.out, show (x :: r).getD 0 0 = x from rfl] at cx
              have cy := hlw.int q hql
              obtain ⟨d, ed⟩ : ∃ d, d = q - 1 := ⟨_, rfl⟩
              rw [show left.getD q 0 = r.getD d 0 by rw [Hel.out, show q = d + 1 by omega]; rfl] at cy
              have hdr : d < r.length := by have := hnr.out; omega
              have hdq : q = d + 1 := by omega
              rw [← ed] at hN hB1
              obtain ⟨y, ey⟩ : ∃ y, y = r.getD d 0 := ⟨_, rfl⟩
              rw [← ey] at cy
              have Hey := hid ey
              have hq0 : (0 : Int) ≤ q := by omega
              have hq1' : (1 : Int) ≤ q := by omega
              have hqn : (q : Int) < n := by omega
              have hn0' : (0 : Int) < n := by omega
              have hdq' : (q : Int) - 1 = d := by omega
              have Hdq := hid hdq
              have hwd : IntKind.i64.wrap (d : Int) = d := IntWalk.i64_in _ (by omega)
              have hcapn := hlw.le
              have hcap1 : ¬ cap = 1 := by omega
              have hcapi : (1 : Int) ≤ cap := by omega
              have hn1i : (1 : Int) ≤ n := by omega
              have hnci : (n : Int) ≤ cap := by omega
              clear ed ey hdq
              have lBp := lt_of_cell cpl
              have lb := lt_of_cell cx
              have lBv := lt_of_cell cv
              have hpd : HeldL IntsC wr.drew ap np cp PL0 := hplh.below ((Below.refl wr.heap.size wr).drew) (Nat.le_refl _)
              go_wp2
              go_region_held3 (fun wx => wx.cell? ⟨Bp, 0, none⟩ = some (.slice ap np cp) ∧ wx.cell? ⟨b, o, none⟩ = some (.int .i64 x) ∧ wx.cell? ⟨b, o + q, none⟩ = some (.int .i64 y)) (first | exact ⟨cpl, cx, cy⟩ | exact ⟨cpl1, cx1, cy1⟩)
                ((go_at_call 44; refine (met_any ap np cp PL0 x y _ hpd).mono ?_; rintro e w1 ⟨rfl, b1⟩; have b1 : Below wr.heap.size wr w1 := ⟨b1.os, b1.tape, b1.output, b1.size, b1.block⟩; have cpl1 := (b1.cell (p := ⟨Bp, 0, none⟩) lBp).trans cpl; have cx1 := (b1.cell (p := ⟨b, o, none⟩) lb).trans cx; have cy1 := (b1.cell (p := ⟨b, o + q, none⟩) lb).trans cy))
              have hO1 : Only [Bm] w w1 := hO.below b1 hO.size
              have hM2 := hM1.below b1 (Nat.le_refl _)
              have cv1 := (b1.cell (p := ⟨Bv, 0, none⟩) lBv).trans cv
              cases hmet : metB PL0 x y
              · have b1s := b1.size
                have hbm1 : Bm < w1.heap.size := by have := hO.size; omega
                have hlenf : (r.eraseIdx d).length ≤ f := by have h1 := Hlf.out; have h2 := List.length_eraseIdx_of_lt hdr; rw [Hlen.out, hnr.out] at h1; omega
                have hbound := HU.out d hdr
                have hbd2 : nm1 + memU f ≤ 1000000000000000 := by have := hB1.out; omega
                have Hbd2 := hid hbd2
                have hsubl : (r.eraseIdx d).Sublist players := sub_tail (Hel.out ▸ Hsub.out) d
                have hl1 : HeldL IntC w1 (some ⟨b, o, none⟩) n cap left := hlw.below b1 (Nat.le_refl _)
                have hd1 := hl1.drop 1 (by omega)
                rw [Hel.out, show (x :: r).drop 1 = r from rfl] at hd1
                have hdd : HeldL IntC w1.drew (some ⟨b, o + 1, none⟩) (n - 1) (cap - 1) r := hd1.below ((Below.refl w1.heap.size w1).drew) (Nat.le_refl _)
                have hdn : d < n - 1 := by omega
                have hn1 : n - 1 ≤ 1000 := by omega
                clear hplh hpd cpl cx cy cv cpl1 cx1 cy1 hlw hlr hEr hO hM1 b1 hbound hbd2 hl1 hd1
                go_wp2
                go_region_held3 (fun wx => wx.cell? ⟨Bv, 0, none⟩ = some (.func (.func 48) #[] #[.pointer (some ⟨Bf, 0, none⟩), .pointer (some ⟨Bp, 0, none⟩), .pointer (some ⟨Bv, 0, none⟩)])) (first | exact cv1 | exact cv2 | exact cv3)
                  (first
                    | (go_at_call 38; refine (without_any (some ⟨b, o + 1, none⟩) (n - 1) (cap - 1) d r _ hn1 hdn hdd).mono ?_; rintro e w2 ⟨v2, rfl, own2, b2⟩; have b2 : Below w1.heap.size w1 w2 := ⟨b2.os, b2.tape, b2.output, b2.size, b2.block⟩; obtain ⟨a2, c2, rfl, z2⟩ := own2.slice; clear z2; have hR2 := own2.rests; clear own2; obtain ⟨l2, el2⟩ : ∃ l2, l2 = (r.eraseIdx d).length := ⟨_, rfl⟩; rw [← el2] at hR2 ⊢; clear el2; have hO2 : Only [Bm] w w2 := hO1.below b2 hO1.size; have hE2 := hE.only hO2; have hM3 := hM2.below b2 (Nat.le_refl _); have cv2 := hE2.cv; unfold findV at cv2; have b2s := b2.size; have hR3 : Rests (SliceOf IntC) (fun k => k ≠ Bm) w2 (.slice a2 l2 c2) (r.eraseIdx d) := hR2.weak (fun k _ hs => by simp at hs; omega))
                    | (go_at_call 48; refine (ih.out (r.eraseIdx d) a2 l2 c2 nm1 F1 w2 hlenf hsubl hR3 hE2 hM3 hF1.out Hbd2.out).mono ?_; rintro e w3 ⟨v3, rfl, own3, hO3, n3, F3, hM4, hF3, hn3⟩; have hE3 := hE2.only hO3; have cv3 := hE3.cv; unfold findV at cv3))
                have hO4 : Only [Bm] w w3 := hO2.trans hO3 (fun k hk => Or.inl hk)
                have HF3 := hid hF3
                have Hn3 := hid hn3
                clear hdd hR2 hR3 hE2 hM3 hM2 hF3 hn3 cv1 cv2 cv3
                cases hPL : PL (metB PL0) (r.eraseIdx d)
                · clear own3 hO1 hO2 hO3 hE3
                  go_wp2
                  go_roundw
                  case rel => exact ⟨q + 1, n3, F3, by omega, by omega, by go_num, hid (by rw [show q + 1 - 1 = d + 1 by have := Hdq.out; omega]; exact noneTo_succ hN.out (tryP_none hPL)), hO4, hM4, HF3, hid (by have h1 := hB1.out; have h2 := Hdq.out; have h3 := Hn3.out; rw [show q + 1 - 1 = d + 1 by omega, Nat.add_one_mul]; omega)⟩
                  case measure => simp [intOf]; omega
                · rename_i l3
                  rw [hPL] at own3
                  replace own3 : OwnL IntsC w2.heap.size 38 w3 v3 l3 := own3
                  obtain ⟨a3, c3, rfl, z3⟩ := own3.slice
                  have hl3 : l3.length ≤ 16 := by have h1 := PL_length hPL; have h2 := List.length_eraseIdx_of_lt hdr; have h3 := hnr.out; omega
                  have hfin := hid (show PL (metB PL0) left = some ([x, y] :: l3) by rw [Hel.out, Hey.out]; exact noneTo_found hdr hN.out (tryP_some (by rw [← Hey.out]; exact hmet) hPL))
                  have hrw3 : HeldL IntC w3 (some ⟨b, o, none⟩) n cap left := (hl.move hO4.agr1 (S' := fun k => k ≠ Bm) (fun _ _ h => h)).held
                  have cx3 := hrw3.int 0 hn0
                  rw [Nat.add_zero, Hel.out, show (x :: r).getD 0 0 = x from rfl] at cx3
                  have cy3 := hrw3.int q hql
                  rw [show left.getD q 0 = y by rw [Hel.out, Hey.out, show q = d + 1 by have := Hdq.out; omega]; rfl] at cy3
                  have lb3 := lt_of_cell cx3
                  have w3s : w.heap.size ≤ w3.heap.size := hO4.size
                  have w23 := hO3.size
                  have w12 := hO2.size
                  have B4 : Below w3.heap.size w3 (w3.alloc (.cells #[.int .i64 x, .int .i64 y] 3)).drew := ((Below.refl _ _).alloc (Nat.le_refl _) _).drew
                  have B5 : Below w3.heap.size w3 ((w3.alloc (.cells #[.int .i64 x, .int .i64 y] 3)).alloc (.cells #[.slice (some ⟨w3.heap.size, 0, none⟩) 2 2] 38)).drew := (((Below.refl _ _).alloc (Nat.le_refl _) _).alloc (by simp) _).drew
                  have cx4 := (B4.cell (p := ⟨b, o, none⟩) lb3).trans cx3
                  have cy4 := (B4.cell (p := ⟨b, o + q, none⟩) lb3).trans cy3
                  have cx5 := (B5.cell (p := ⟨b, o, none⟩) lb3).trans cx3
                  have cy5 := (B5.cell (p := ⟨b, o + q, none⟩) lb3).trans cy3
                  have own5 : OwnL IntsC w.heap.size 38 ((w3.alloc (.cells #[.int .i64 x, .int .i64 y] 3)).alloc (.cells #[.slice (some ⟨w3.heap.size, 0, none⟩) 2 2] 38)).drew (.slice (some ⟨w3.heap.size + 1, 0, none⟩) 1 1) [[x, y]] :=
                    OwnL.lit (l := [[x, y]]) ((Has.newAt (w := w3.alloc (.cells #[.int .i64 x, .int .i64 y] 3)) (vs := #[.slice (some ⟨w3.heap.size, 0, none⟩) 2 2]) (by simp)).drew) (by omega) rfl rfl (by rw [maxLen_eq]; omega) (fun i hi => by
                      simp at hi
                      subst hi
                      exact ⟨_, rfl, rests_ints (l := [x, y]) (((Has.new w3 (ints [x, y]) 3).alloc _).drew) ⟨w3s, by omega⟩ rfl (by omega)⟩)
                  have B5s := B5.size
                  have hO5 := hO4.below B5 w3s
                  have hM5 := hM4.below B5 (Nat.le_refl _)
                  have hnn := hid (show n3 ≤ nm + memU (f + 1) by have h1 := hB1.out; have h3 := Hn3.out; have h4 := HU2.out; have h5 : (d + 1) * memU f ≤ r.length * memU f := Nat.mul_le_mul_right _ hdr; rw [Nat.add_one_mul] at h5; omega)
                  clear hrw3 hO1 hO2 hO3 hE3 z3
                  go_wp2
                  go_region_held3 (fun wx => wx.cell? ⟨b, o, none⟩ = some (.int .i64 x) ∧ wx.cell? ⟨b, o + q, none⟩ = some (.int .i64 y)) (first | exact ⟨cx3, cy3⟩ | exact ⟨cx4, cy4⟩ | exact ⟨cx5, cy5⟩ | exact ⟨cx6, cy6⟩)
                    ((refine step_append_run rfl (.tmp 65) (.tmp 66) 30 rfl (.slice (some ⟨w3.heap.size + 1, 0, none⟩) 1 1) (.slice a3 l3.length c3) (by rfl) (by rfl) (run_append_owns w3 _ w.heap.size w2.heap.size 30 _ 38 i0 _ 24 Try.underlying30 hi hz0 hz1 hz2 rfl _ [[x, y]] own5 a3 l3.length c3 l3 own3 B5 (fun k hk hs => ⟨by omega, fun e => by have e2 : w3.heap.size + 1 = k := Option.some.inj e; omega⟩) (by rw [maxLen_eq]; simp; omega) (by simp; omega) (by omega)) ?_; rintro v6 w6 ⟨own6, b6, hA6, _⟩; have cx6 := hA6.cell cx5 (fun e => by have e2 : w3.heap.size + 1 = b := Option.some.inj e; omega); have cy6 := hA6.cell cy5 (fun e => by have e2 : w3.heap.size + 1 = b := Option.some.inj e; omega)))
                  have hO6 : Only [Bm] w w6 := hO5.below b6 (Nat.le_refl _)
                  have hM6 : MapAt w6 Bm n3 F3 := hM5.agr hA6 (fun e => by have e2 : w3.heap.size + 1 = Bm := Option.some.inj e; omega)
                  go_wp2
                  go_ret2
                  exact ⟨v6, by rw [hfin.out]; rfl, by rw [hfin.out]; exact own6, hO6, n3, F3, hM6, HF3.out, hnn.out⟩
              · clear hplh hpd cpl cx cy cv cpl1 cx1 cy1 cv1 hlw hlr hEr hO hM1 b1
                go_wp2
                go_roundw
                case rel => exact ⟨q + 1, nm1, F1, by omega, by omega, by go_num, hid (by rw [show q + 1 - 1 = d + 1 by have := Hdq.out; omega]; exact noneTo_succ hN.out (tryP_met (by rw [← Hey.out]; exact hmet))), hO1, hM2, hF1, hid (by have h1 := hB1.out; have h2 := Hdq.out; rw [show q + 1 - 1 = d + 1 by omega, Nat.add_one_mul]; omega)⟩
                case measure => simp [intOf]; omega
            · obtain rfl : n = q := by omega
              have hnone := hid (show PL (metB PL0) left = none by rw [Hel.out]; exact noneTo_end (by have h1 := hN.out; rwa [show n - 1 = r.length by have := hnr.out; omega] at h1))
              have hF2 : MemOk (metB PL0) players (fun k => k == m || F1 k) := fun k hk l hl1 hl2 => by
                rcases Bool.or_eq_true _ _ ▸ hk with h | h
                · have hkm : k = m := by simpa using h
                  subst hkm
                  rw [mask_inj hP (fun p hp => hrr.out p hp) hl1 Hsub.out (hl2.trans Hem.out)]
                  exact hnone.out
                · exact hF1.out k h l hl1 hl2
              have hcf := (hE.only hO).cf
              have hbn := hid (show nm1 + 1 ≤ nm + memU (f + 1) by have h1 := hB1.out; have h2 := HU2.out; rw [show n - 1 = r.length by have := hnr.out; omega] at h1; omega)
              have hn1m : Hid (nm1 < maxLen) := hid (by have h1 := hbn.out; have h2 := HUt.out; rw [maxLen_eq]; omega)
              obtain ⟨D, hD1, hD2⟩ := hM1
              have HD2 := hid hD2
              clear hD2
              go_wp2_with (at_mapUpdate; refine wpList_mapUpdate_own _ rfl _ _ _ 70 rfl 3 4 (Go.Maps.int_keyed Try.underlying3) Try.underlying70 _ Bm nm1 D rfl hD1 hn1m.out _ _ (.int .i64 m) rfl rfl (key_int m Hmb.out) (.lit (.bool true)) [] (plainElem_bool Try.underlying4 true) ?_; intro w5 hown5 hgrow5)
              have hO5 : Only [Bm] w w5 := hO.trans (l' := [Bm]) ⟨hgrow5.os, hgrow5.tape, hgrow5.output, hgrow5.size, fun k hk hs => hgrow5.block k hk (by simpa using hs)⟩ (fun k hk => Or.inl hk)
              have hM5 : MapAt w5 Bm (nm1 + 1) (fun k => k == m || F1 k) := ⟨_, hown5, fun k => by
                by_cases e : k = m
                · subst e
                  rw [Go.Maps.atKey_put_same hD1.isMap (by simp [Go.WideAt.IsKeyLit])]
                  simp
                · rw [Go.Maps.atKey_put_other (by simp; omega), HD2.out]
                  simp [e]⟩
              go_wp2
              go_ret2
              exact ⟨.slice none 0 0, by rw [hnone.out]; rfl, by rw [hnone.out]; exact OwnL.nil _ _ _ _, hO5, nm1 + 1, _, hM5, hF2, hbn.out⟩
        · rw [hFm] at hlook
          have hnone := hid (hF m hFm left Hsub.out Hem.out.symm)
          go_wp2
          go_ret2
          exact ⟨.slice none 0 0, by rw [hnone.out]; rfl, by rw [hnone.out]; exact OwnL.nil _ _ _ _, Only.refl _ _, nm, F, hM, hF, by omega⟩
end Go.Proofs.Ytkdfplnoldckgaa
