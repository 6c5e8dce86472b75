/-
  The walk of the reference's round.
-/
import Derived.Test.YtahbhhenobehfaaGreatDoorM42
import Derived.Test.YtahbhhenobehfaaGreatDoorM43
import Derived.Test.YtahbhhenobehfaaGreatDoorM46
namespace Go.Proofs.YtahbhhenobehfaaGreatDoor
open Go.ChangeShapes Go.WideShapes Go.ChangeAt Go.RowKit

def faultsP (l : List UInt8) (p : Nat) : List Int := if l = [45] then [] else (l.take p).map fun c => (c.toNat : Int) - 48
theorem faults_list (f : List Int) (h : ∀ n ∈ f, 0 ≤ n ∧ n ≤ 9) (l : List UInt8) (hs : l = listL f []) : faultsP l l.length = f := by
  unfold faultsP
  cases f with
  | nil => rw [if_pos (by rw [hs]; rfl)]
  | cons n r =>
    rw [if_neg (fun e => by
      have := listL_dash (sep := []) (l := n :: r) (fun x hx => ⟨(h x hx).1, by have := (h x hx).2; omega⟩) (hs.symm.trans e)
      cases this), List.take_of_length_le (Nat.le_refl _), hs]
    have hj := join_digits (n :: r) h
    have e : listL (n :: r) [] = Lib.join ((n :: r).map numT) [] := by unfold listL; rfl
    rw [e]
    have e2 : (n :: r).map numT = ((n :: r).map fun m => UInt8.ofNat (48 + m.toNat)).map fun b => [b] := by
      rw [List.map_map]
      exact List.map_congr_left fun m hm => numT_digit m (h m hm).1 (h m hm).2
    rw [e2] at hj
    have e3 := (List.map_inj_right (f := fun b : UInt8 => [b]) (fun x y hxy => by simpa using hxy)).1 hj
    rw [e2, e3, List.map_map]
    refine (List.map_congr_left fun m hm => ?_).trans (List.map_id _)
    have := h m hm
    show ((UInt8.ofNat (48 + m.toNat)).toNat : Int) - 48 = m
    rw [UInt8.toNat_ofNat']
    omega
theorem faultsP_len (l : List UInt8) (p : Nat) : (faultsP l p).length ≤ p := by
  unfold faultsP
  split
  · simp
  · simp; omega
theorem Only.cell {l : List Nat} {w w' : World} (h : Only l w w') {b o : Nat} (hb : b < w.heap.size) (hn : b ∉ l) : w'.cell? ⟨b, o, none⟩ = w.cell? ⟨b, o, none⟩ := World.cell?_of_block (w := w) (w' := w') (a := ⟨b, o, none⟩) (h.block b hb hn)
def RRoundSaid (ws : List (List UInt8)) (w : World) (e : Ending) (w' : World) : Prop :=
  ∃ vj vf y, e = .returned (.agg #[vj, vf]) ∧ OwnM 2 TmC w.heap.size 76 w' vj y.joint ∧ OwnL IntC w.heap.size 3 w' vf y.faults ∧ (∀ x, RoundOf ws x → y = x) ∧ y.faults.length ≤ (ws.getD 2 []).length ∧ Below w.heap.size w w'
set_option maxRecDepth 20000 in
set_option maxHeartbeats 16000000 in
theorem rround_any (b cap : Nat) (a0 : List UInt8) (a1 a2 : ByteArray) (w : World) (_hc : 3 ≤ cap) (d1 : w.cell? ⟨b, 1, none⟩ = some (.string a1)) (d2 : w.cell? ⟨b, 2, none⟩ = some (.string a2)) (h1 : a1.size ≤ 100000) (h2 : a2.size ≤ 100000) :
    Calls Tryz.prog 52 #[.slice (some ⟨b, 0, none⟩) 3 cap] w (RRoundSaid [a0, a1.data.toList, a2.data.toList] w) := by
  obtain ⟨i0, hi, hz0, hz1, hz2⟩ := info_parts info_int
  have hbl := lt_of_cell d1
  have HA0 := Has.new w #[.slice none 0 0, .slice none 0 0] 45
  have HA := HA0.alloc (.cells #[.slice none 0 0, .slice none 0 0] 45)
  have HB := Has.newAt (w := w.alloc (.cells #[.slice none 0 0, .slice none 0 0] 45)) (n := w.heap.size + 1) (vs := #[.slice none 0 0, .slice none 0 0]) (T := 45) (by simp)
  have b0 : Below w.heap.size w ((w.alloc (.cells #[.slice none 0 0, .slice none 0 0] 45)).alloc (.cells #[.slice none 0 0, .slice none 0 0] 45)) := ((Below.refl _ _).alloc (Nat.le_refl _) _).alloc (by simp) _
  obtain ⟨w2, ew2⟩ : ∃ w2, w2 = (w.alloc (.cells #[.slice none 0 0, .slice none 0 0] 45)).alloc (.cells #[.slice none 0 0, .slice none 0 0] 45) := ⟨_, rfl⟩
  have hs2 : w2.heap.size = w.heap.size + 2 := by rw [ew2]; simp
  rw [← ew2] at HA HB b0
  have hew := hid ew2
  clear ew2 HA0
  have d1' : ((w.alloc (.cells #[.slice none 0 0, .slice none 0 0] 45)).alloc (.cells #[.slice none 0 0, .slice none 0 0] 45)).cell? ⟨b, 1, none⟩ = some (.string a1) := by
    rw [← hew.out]; exact (b0.cell (p := ⟨b, 1, none⟩) hbl).trans d1
  have HA' := hid HA
  have HB' := hid HB
  have b0' := hid b0
  clear HA HB b0
  go_enter Tryz.func52, Tryz.ntmps52
  go_wp2_with fail
  rw [← hew.out]
  refine (runescape_any a1 _ h1).mono ?_
  rintro e w3 ⟨⟨o, er, rfl, ho, hun⟩, o3⟩
  have o3s := o3.size
  have HA3 := hid (HA'.out.below o3 HA'.out.lt)
  have HB3 := hid (HB'.out.below o3 HB'.out.lt)
  have b3 := hid (b0'.out.trans (o3.mono (by omega)))
  have hun' := hid hun
  clear hun o3 d1' HA' HB' b0'
  go_wp2_with fail
  refine (rpterms_any o _ (by omega)).mono ?_
  rintro e w4 ⟨⟨vj, ts, at4, er4, rfl, hj, hts⟩, o4⟩
  obtain ⟨aj, cj, rfl⟩ := hj.shape
  obtain ⟨nj, enj⟩ : ∃ nj, nj = ts.length := ⟨_, rfl⟩
  rw [← enj] at hj
  rw [← enj]
  clear enj
  have o4s := o4.size
  have HA4 := hid (HA3.out.below o4 HA3.out.lt)
  have HB4 := HB3.out.below o4 HB3.out.lt
  have b4 := hid (b3.out.trans (o4.mono (by omega)))
  have hj' := hid (hj.rebase (base' := w.heap.size + 2) (by omega))
  have hts' := hid (show ∀ x, RoundOf [a0, a1.data.toList, a2.data.toList] x → ts = x.joint from fun x hx => by
    have h1 := hx.1
    simp only [List.cons.injEq, and_true] at h1
    obtain ⟨e1, e2⟩ := hun'.out (termsL x.joint) h1.2.1
    exact (hts x.joint hx.2.1 hx.2.2.1 e1).1)
  clear hj hts o4 hun' HA3 HB3 b3
  have c0 := HB4.cell (j := 0) rfl
  have z0 := HB4.free 0
  have HB5 := hid (show Has (w4.setCell ⟨w.heap.size + 1, 0, none⟩ (.slice aj nj cj)) (w.heap.size + 1) #[.slice aj nj cj, .slice none 0 0] 45 from HB4.set 0 (.slice aj nj cj))
  have O5 := hid ((Only.refl [w.heap.size + 1] w4).setIn (b := w.heap.size + 1) (o := 0) (by simp) (.slice aj nj cj))
  have d24 := hid ((b4.out.cell (p := ⟨b, 2, none⟩) hbl).trans d2)
  have hbn : b ≠ w.heap.size + 1 := by omega
  obtain ⟨n1, en1⟩ : ∃ n1, n1 = w.heap.size + 1 := ⟨_, rfl⟩
  have hn1 := hid en1
  have d25 : (w4.setCell ⟨w.heap.size + 1, 0, none⟩ (.slice aj nj cj)).cell? ⟨b, 2, none⟩ = some (.string a2) := (O5.out.cell (by omega) (by simp; omega)).trans d24.out
  clear en1
  go_wp2
  have L5 := hid (show OwnL IntC w4.heap.size 3 (w4.setCell ⟨w.heap.size + 1, 0, none⟩ (.slice aj nj cj)) (.slice none 0 0) [] from OwnL.nil _ _ _ _)
  have hlen : a2.data.toList.length = a2.size := Array.length_toList
  clear HB4 c0 z0 d25
  go_loopw [29] (fun i wr => ∃ (p : Nat) (f : List Int) (vf : Value), i = .int .i64 p ∧ p ≤ a2.size ∧ Has wr (w.heap.size + 1) #[.slice aj nj cj, vf] 45 ∧ OwnL IntC w4.heap.size 3 wr vf f ∧ Hid (f = faultsP a2.data.toList p) ∧ Only [w.heap.size + 1] w4 wr) (fun i _ => a2.size - (intOf i).toNat)
  case atStart => exact ⟨0, [], .slice none 0 0, rfl, Nat.zero_le _, HB5.out, L5.out, hid (by unfold faultsP; simp), O5.out⟩
  case round =>
    clear L5 HB5 O5
    obtain ⟨p, f, vf, rfl, hp, HB, own, hf, hO⟩ := hrel
    obtain ⟨af, cf, rfl, _⟩ := own.slice
    have hOs := hO.size
    have d26 : wr.cell? ⟨b, 2, none⟩ = some (.string a2) := (hO.cell (by omega) (by simp; omega)).trans d24.out
    have HB' := hid HB
    have hO' := hid hO
    have c0 := HB.cell (j := 0) rfl
    have c1 := HB.cell (j := 1) rfl
    have z1 := HB.free 1
    have hfl := hid (show f.length ≤ p by rw [hf.out]; exact faultsP_len _ _)
    clear HB hO
    by_cases hps : p < a2.size
    · have hpl : p < a2.data.toList.length := by omega
      have hk0 : (0 : Int) ≤ p := by omega
      have hkn : (p : Int) < a2.size := by omega
      obtain ⟨c, hc⟩ : ∃ c, a2[p]'hps = c := ⟨_, rfl⟩
      have hcl : a2.data.toList[p] = c := by rw [← hc, Array.getElem_toList]; rfl
      by_cases h45 : a2.data.toList = [45]
      · have hb : (a2.toList == [45]) = true := by rw [ByteArray.toList_eq, h45]; rfl
        have hf2 := hid (show f = faultsP a2.data.toList (p + 1) by rw [hf.out]; unfold faultsP; rw [if_pos h45, if_pos h45])
        have own' := hid own
        clear own h45 hcl
        go_wp2
        go_roundw
        case rel => exact ⟨p + 1, f, _, by go_num, by omega, HB'.out, own'.out, hf2, hO'.out⟩
        case measure => simp [intOf]; omega
      · have hb : (a2.toList == [45]) = false := by rw [ByteArray.toList_eq, beq_eq_false_iff_ne]; exact h45
        have hf2 := hid (show f ++ [(c.toNat : Int) - 48] = faultsP a2.data.toList (p + 1) by
          rw [hf.out]; unfold faultsP
          rw [if_neg h45, if_neg h45, take_snoc hpl, List.map_append, hcl]; rfl)
        have own' := hid own
        have hcb := c.toNat_lt
        have hfl2 := hfl.out
        have v1 : IntKind.wrap .i64 ((c.toNat : Nat) : Int) = ((c.toNat : Nat) : Int) := by rw [IntKind.wrap_i64]; omega
        have v2 : IntKind.wrap .i64 (((c.toNat : Nat) : Int) - 48) = ((c.toNat : Nat) : Int) - 48 := by rw [IntKind.wrap_i64]; omega
        clear own h45 hcl
        have ownA := own'.out.drew.alloc (.cells #[.int .i64 (((c.toNat : Nat) : Int) - 48)] 3)
        have c1A : (wr.alloc (.cells #[.int .i64 (((c.toNat : Nat) : Int) - 48)] 3)).cell? ⟨w.heap.size + 1, 1, none⟩ = some (.slice af f.length cf) := (HB'.out.alloc _).cell (j := 1) rfl
        go_wp2
        go_region_law (first
          | (refine step_append_run rfl (.tmp 37) (.tmp 45) 24 rfl (.slice af f.length cf) (.slice (some ⟨wr.heap.size, 0, none⟩) 1 1) (by rfl) (by rfl) (run_append1 _ w4.heap.size 24 _ 3 i0 _ 8 Tryz.underlying24 hi hz0 hz1 hz2 rfl _ f ownA wr.heap.size 1 (.int .i64 (((c.toNat : Nat) : Int) - 48)) (((c.toNat : Nat) : Int) - 48) ((Has.new wr.drew #[.int .i64 (((c.toNat : Nat) : Int) - 48)] 3).cell (j := 0) rfl) rfl (fun w' _ => rfl) (by unfold maxLen; omega) (by omega) (by simp; omega)) ?_
             rintro v7 w7 ⟨own7, b7, _, _⟩
             obtain ⟨a7, c7, rfl, _⟩ := own7.slice
             have H7 : Has w7 (w.heap.size + 1) #[.slice aj nj cj, .slice af f.length cf] 45 := ((has_drew HB'.out).alloc (.cells #[.int .i64 (((c.toNat : Nat) : Int) - 48)] 3)).below b7 (by omega)
             have g7 : w7.cell? ⟨w.heap.size + 1, 1, none⟩ = some (.slice af f.length cf) := H7.cell (j := 1) rfl
             have z7 := H7.free 1))
        all_goals
          simp only [List.length_append, List.length_cons, List.length_nil, Nat.zero_add] at own7
          have HB8 := hid (show Has (w7.setCell ⟨w.heap.size + 1, 1, none⟩ (.slice a7 (f.length + 1) c7)) (w.heap.size + 1) #[.slice aj nj cj, .slice a7 (f.length + 1) c7] 45 from H7.set 1 _)
          have own8 := hid (show OwnL IntC w4.heap.size 3 (w7.setCell ⟨w.heap.size + 1, 1, none⟩ (.slice a7 (f.length + 1) c7)) (.slice a7 (f.length + 1) c7) (f ++ [((c.toNat : Nat) : Int) - 48]) from own7.only ((Only.refl [w.heap.size + 1] w7).setIn (b := w.heap.size + 1) (o := 1) (by simp) _) (by simp; omega))
          have hO8 := hid ((((hO'.out.drew).alloc (.cells #[.int .i64 (((c.toNat : Nat) : Int) - 48)] 3)).below b7 (Nat.le_refl _)).setIn (b := w.heap.size + 1) (o := 1) (by simp) (.slice a7 (f.length + 1) c7))
          clear own7 b7 H7 ownA c1A
          go_wp2
          go_roundw
          case rel => exact ⟨p + 1, _, _, by go_num, by omega, HB8.out, own8.out, hf2, hO8.out⟩
          case measure => simp [intOf]; omega
    · obtain rfl : p = a2.size := by omega
      have HR := hid (hO'.out)
      have HA5 := HA4.out.only hO'.out (by simp)
      have x0 := HA5.cell (j := 0) rfl
      have x1 := HA5.cell (j := 1) rfl
      have y0 := HA5.free 0
      have y1 := HA5.free 1
      have own' := hid own
      clear own
      go_wp2
      have hO9 := ((Only.refl [w.heap.size] wr).setIn (b := w.heap.size) (o := 0) (by simp) (.slice aj nj cj)).setIn (b := w.heap.size) (o := 1) (by simp) (.slice af f.length cf)
      have HF : Has _ w.heap.size #[.slice aj nj cj, .slice af f.length cf] 45 := (HA5.set 0 (.slice aj nj cj)).set 1 (.slice af f.length cf)
      obtain ⟨wF, ewF⟩ : ∃ wF, wF = (wr.setCell ⟨w.heap.size, 0, none⟩ (.slice aj nj cj)).setCell ⟨w.heap.size, 1, none⟩ (.slice af f.length cf) := ⟨_, rfl⟩
      rw [← ewF] at hO9 HF ⊢
      have r0 := HF.cell (j := 0) rfl
      have r1 := HF.cell (j := 1) rfl
      have hjF : OwnM 2 TmC (w.heap.size + 2) 76 wF (.slice aj nj cj) ts := (hj'.out.only hO'.out (by simp)).only hO9 (by simp)
      have hoF : OwnL IntC w4.heap.size 3 wF (.slice af f.length cf) f := own'.out.only hO9 (by simp; omega)
      have hbF : Below w.heap.size w wF := hO9.toBelow (hO'.out.toBelow b4.out (by simp) (by omega)) (by simp) (by omega)
      have hff := hf.out
      rw [← hlen] at hff
      exact bodyPost_ret (v := .agg #[.slice aj nj cj, .slice af f.length cf]) (by simp [results, Tryz.results52, go_sem, r0, r1]) rfl
        ⟨_, _, ⟨ts, f⟩, rfl, hjF.rebase (by omega), hoF.rebase (by omega), fun x hx => by
          have e1 := hts'.out x hx
          have h1 := hx.1
          simp only [List.cons.injEq, and_true] at h1
          have e2 := faults_list x.faults hx.2.2.2 a2.data.toList h1.2.2
          rw [hff, e1, e2], by show f.length ≤ a2.data.toList.length; rw [hlen]; exact hfl.out, hbF⟩
end Go.Proofs.YtahbhhenobehfaaGreatDoor
