/-
  The walks of decimal, Dec and number of the references.
  The walks of FormatUint and Itoa, at base 10.
  The walks of list of package journal and of its reference.
-/
import Derived.Test.YtahbhhenobehfaaGreatDoorM16
import Derived.Lib.ItoaNum
import Derived.Test.YtahbhhenobehfaaGreatDoorShelf
import Derived.Lib.AppendIntMem
import Derived.Test.YtahbhhenobehfaaGreatDoorM9
import Derived.Test.YtahbhhenobehfaaGreatDoorNT10
namespace Go.Proofs.YtahbhhenobehfaaGreatDoor
open Go.ChangeShapes Go.WideShapes Go.ChangeAt Go.RowKit

theorem dec_len : ∀ (k u : Nat), u < 10 ^ (k + 1) → (Lib.decDigits u).length ≤ k + 1
  | 0, u, h => by rw [Lib.decDigits_one (by omega)]; simp
  | k + 1, u, h => by
    rw [Lib.decDigits]
    split
    · simp
    · rw [List.length_append]
      have := dec_len k (u / 10) (by rw [Nat.pow_succ] at h; omega)
      simp; omega
def digS : ByteArray := ⟨#[48, 49, 50, 51, 52, 53, 54, 55, 56, 57]⟩
theorem dig_at (i : Nat) (h : i < 10) : digS.extract i (i + 1) = str [UInt8.ofNat (48 + i)] := by
  rw [extract_one digS i (by show i < 10; exact h)]
  congr 1
  congr 1
  match i, h with
  | 0, _ => rfl
  | 1, _ => rfl
  | 2, _ => rfl
  | 3, _ => rfl
  | 4, _ => rfl
  | 5, _ => rfl
  | 6, _ => rfl
  | 7, _ => rfl
  | 8, _ => rfl
  | 9, _ => rfl
  | n + 10, h => exact absurd h (by omega)
theorem slice_run64 (s : ByteArray) (a b : Nat) (A B : Int) (hA : A = (a : Int)) (hB : B = (b : Int)) (h1 : a ≤ b) (h2 : b ≤ s.size) (q : ByteArray) (hq : q = s.extract a b) (wx : World) :
    (Instr.slice 9 (.string s) (some (.int .u64 A)) (some (.int .u64 B)) none).run Tryz.prog wx = .ok (.string q) wx := by
  subst hA hB hq
  have := run_slice_string (P := Tryz.prog) wx 9 s .u64 .u64 (a : Int) (b : Int) Tryz.underlying9 (by omega) (by omega) (by omega)
  simpa using this
theorem dec_step (M : Int) (h : 9 < M) : Lib.decDigits M.toNat = Lib.decDigits (M / 10).toNat ++ [UInt8.ofNat (48 + (M % 10).toNat)] := by
  rw [Lib.decDigits, dif_neg (by omega)]
  rw [show M.toNat / 10 = (M / 10).toNat by omega, show M.toNat % 10 = (M % 10).toNat by omega]
set_option maxHeartbeats 1000000 in
theorem decimal_any (N : Int) (w : World) (h0 : 0 ≤ N) (h1 : N ≤ 18446744073709551615) :
    Calls Tryz.prog 59 #[.int .u64 N] w fun e w' => e = .returned (.string (str (Lib.decDigits N.toNat))) ∧ w = w' := by
  have hlen := hid (dec_len 19 N.toNat (by omega))
  go_enter Tryz.func59, Tryz.ntmps59
  go_wp2
  go_loop [0, 4] (fun n v => ∃ (M : Int) (T : List UInt8), n = .int .u64 M ∧ v = .string (str T) ∧ 0 ≤ M ∧ M ≤ 18446744073709551615 ∧ Hid (Lib.decDigits N.toNat = Lib.decDigits M.toNat ++ T)) (fun n _ => (intOf n).toNat)
  case atStart => exact ⟨N, [], rfl, rfl, h0, h1, hid (by rw [List.append_nil])⟩
  case round =>
    obtain ⟨M, T, rfl, rfl, hM0, hM1, hT⟩ := hrel
    have hTl := hid (show T.length ≤ 20 by
      have h1 := congrArg List.length hT.out
      have h2 := hlen.out
      rw [List.length_append] at h1; omega)
    by_cases hgt : 9 < M
    · have hst := hid (dec_step M hgt)
      have hm0 : 0 ≤ M % 10 := by omega
      have hm1 : M % 10 < 10 := by omega
      have hs := slice_run64 digS (M % 10).toNat ((M % 10).toNat + 1) (M % 10) (M % 10 + 1) (by omega) (by omega) (by omega) (by show _ ≤ 10; omega) (str [UInt8.ofNat (48 + (M % 10).toNat)]) (dig_at _ (by omega)).symm
      have ha := add_str [UInt8.ofNat (48 + (M % 10).toNat)] T (by have := hTl.out; simp only [List.length_cons, List.length_nil]; omega)
      unfold digS at hs
      obtain ⟨q, eq⟩ : ∃ q, q = UInt8.ofNat (48 + (M % 10).toNat) := ⟨_, rfl⟩
      rw [← eq] at hs ha hst
      clear eq
      have hT2 := hid (show Lib.decDigits N.toNat = Lib.decDigits (M / 10).toNat ++ ([q] ++ T) by rw [hT.out, hst.out, List.append_assoc])
      go_wp2
      go_round
      case rel => exact ⟨M / 10, [q] ++ T, rfl, rfl, by omega, by omega, hT2⟩
      case measure => simp [intOf]; omega
    · have hs := slice_run64 digS M.toNat (M.toNat + 1) M (M + 1) (by omega) (by omega) (by omega) (by show _ ≤ 10; omega) (str [UInt8.ofNat (48 + M.toNat)]) (dig_at _ (by omega)).symm
      have ha := add_str [UInt8.ofNat (48 + M.toNat)] T (by have := hTl.out; simp only [List.length_cons, List.length_nil]; omega)
      have hfin := hid (show str ([UInt8.ofNat (48 + M.toNat)] ++ T) = str (Lib.decDigits N.toNat) by rw [hT.out, Lib.decDigits_one (i := M.toNat) (by omega)])
      unfold digS at hs
      obtain ⟨q, eq⟩ : ∃ q, q = UInt8.ofNat (48 + M.toNat) := ⟨_, rfl⟩
      rw [← eq] at hs ha hfin
      clear eq
      go_wp2
      go_ret
      exact ⟨ret_str hfin.out, rfl⟩
theorem size_any (N : Int) (w : World) (h0 : 0 ≤ N) (h1 : N ≤ 9223372036854775807) :
    Calls Tryz.prog 60 #[.int .i64 N] w fun e w' => e = .returned (.int .u64 N) ∧ w = w' := by
  have hn : ¬ N < 0 := by omega
  go_enter Tryz.func60, Tryz.ntmps60
  go_wp2
  go_ret
  exact ⟨rfl, rfl⟩
theorem dec_any (N : Int) (w : World) (h0 : 0 ≤ N) (h1 : N ≤ 9223372036854775807) :
    Calls Tryz.prog 31 #[.int .i64 N] w fun e w' => e = .returned (.string (str (Lib.decDigits N.toNat))) ∧ w = w' := by
  have hn : ¬ N < 0 := by omega
  go_enter Tryz.func31, Tryz.ntmps31
  go_wp2_with fail
  refine (size_any N _ h0 h1).mono ?_
  rintro e w1 ⟨rfl, rfl⟩
  go_wp2_with fail
  refine (decimal_any N _ h0 (by omega)).mono ?_
  rintro e w2 ⟨rfl, rfl⟩
  go_wp2
  go_ret
  exact ⟨rfl, rfl⟩
theorem number_low (N : Int) (w : World) (h0 : 0 ≤ N) (h1 : N ≤ 4611686018427387904) :
    Calls Tryz.prog 30 #[.int .u64 N] w fun e w' => e = .returned (.string (str (Lib.decDigits N.toNat))) ∧ w = w' := by
  go_enter Tryz.func30, Tryz.ntmps30
  go_wp2_with fail
  refine (dec_any N _ h0 (by omega)).mono ?_
  rintro e w1 ⟨rfl, rfl⟩
  go_wp2
  go_ret
  exact ⟨rfl, rfl⟩
theorem number_any (N : Int) (w : World) (h0 : 0 ≤ N) (h1 : N ≤ 18446744073709551615) :
    Calls Tryz.prog 30 #[.int .u64 N] w fun e w' => e = .returned (.string (str (Lib.decDigits N.toNat))) ∧ w = w' := by
  by_cases hlo : N ≤ 4611686018427387904
  · exact number_low N w h0 hlo
  have hgt : (4611686018427387904 : Int) < N := by omega
  have hst := hid (dec_step N (by omega))
  have ha := add_str (Lib.decDigits (N / 10).toNat) (Lib.decDigits (N % 10).toNat) (by
    have h2 := dec_len 19 (N / 10).toNat (by omega)
    have h3 := dec_len 19 (N % 10).toNat (by omega)
    omega)
  have hfin := hid (show str (Lib.decDigits (N / 10).toNat ++ Lib.decDigits (N % 10).toNat) = str (Lib.decDigits N.toNat) by
    rw [hst.out, Lib.decDigits_one (i := (N % 10).toNat) (by omega)])
  clear hlo
  go_enter Tryz.func30, Tryz.ntmps30
  go_wp2_with fail
  refine (number_low (N / 10) _ (by omega) (by omega)).mono ?_
  rintro e w1 ⟨rfl, rfl⟩
  go_wp2_with fail
  refine (dec_any (N % 10) _ (by omega) (by omega)).mono ?_
  rintro e w2 ⟨rfl, rfl⟩
  go_wp2
  go_ret
  exact ⟨ret_str hfin.out, rfl⟩
end Go.Proofs.YtahbhhenobehfaaGreatDoor
namespace Go.Proofs.YtahbhhenobehfaaGreatDoor
open Go.ChangeShapes Go.WideShapes Go.ChangeAt Go.RowKit Go.Sort Go.Proofs

abbrev Tab (w : World) : Prop := Lib.TabIs Tryz.prog w "internal/strconv.uint64pow10" .u64 Lib.pow10Tab
theorem tab_below {w w' : World} {B : Nat} (h : Tab w) (hb : Below B w w') (hB : w.heap.size ≤ B) : Tab w' := by
  unfold Tab Lib.TabIs World.var? at h ⊢
  cases hg : Tryz.prog.globalNamed "internal/strconv.uint64pow10" with
  | none => rw [hg] at h; cases h
  | some g =>
    rw [hg] at h
    simp only [Option.bind_some] at h ⊢
    have hlt : g < w.heap.size := by
      rcases Nat.lt_or_ge g w.heap.size with h' | h'
      · exact h'
      · rw [Array.getElem?_eq_none h'] at h; cases h
    rw [hb.block g (by omega)]
    exact h
theorem itoa_any (N : Int) (w : World) (h0 : 0 ≤ N) (h1 : N ≤ 9223372036854775807) (ht : Tab w) :
    Calls Tryz.prog 72 #[.int .i64 N] w fun e w' => e = .returned (.string (str (Lib.decDigits N.toNat))) ∧ Below w.heap.size w w' :=
  (Tryz.strconv_Itoa N (by omega) h1 w ht).mono fun e w' ⟨he, k, os, hw⟩ => ⟨by rw [he]; unfold Lib.itoa; rw [if_neg (by omega)]; rfl, by rw [hw]; exact Lib.below_grow _ w (Nat.le_refl _) k os⟩
theorem under_arr24 : Tryz.prog.underlying 148 = some (.array 24 5) := Tryz.underlying148
set_option maxRecDepth 100000 in
set_option maxHeartbeats 6400000 in
theorem iformat_any (u : Nat) (hu : u < 18446744073709551616) (w : World) (ht : Tab w) :
    Calls Tryz.prog 98 #[.int .u64 u, .int .i64 10] w fun e w' => e = .returned (.string (str (Lib.decDigits u))) ∧ Below w.heap.size w w' := by
  by_cases hs : u < 100
  · have hs1 : (u : Int) < 100 := by omega
    go_enter Tryz.func98, Tryz.ntmps98
    go_wp2_with fail
    refine (Tryz.internal_strconv_small u hs _).mono ?_
    rintro e w1 ⟨rfl, rfl⟩
    go_wp2
    go_ret
    exact ⟨rfl, Below.refl _ _⟩
  · have hu1 : 1 ≤ u := by omega
    have hs1 : ¬ (u : Int) < 100 := by omega
    have hnd20 : Lib.nDigits u ≤ 20 := by have := Lib.numDigits_eq u hu1 hu; split at this <;> omega
    have hal : Tryz.prog.arrayLen 148 = 24 := by simp [Program.arrayLen]
    have hsl : ∀ W, (Instr.sliceAt 148 (.pointer (some ⟨w.heap.size, 0, none⟩)) none (some (.int .i64 (Lib.nDigits u : Int))) none).run Tryz.prog W = .ok (.slice (some ⟨w.heap.size, 0, none⟩) (Lib.nDigits u) 24) W := fun W => by
      rw [run_sliceAt_array_h W 148 ⟨w.heap.size, 0, none⟩ (by simp [Program.arrayLen, Program.elem]) .i64 (Lib.nDigits u : Int) (by omega) (by rw [hal]; omega)]
      go_simp
    have hH0 := Lib.holds_zero0 w 148 (Lib.nDigits u) (by omega)
    have hfmt := Tryz.internal_strconv_formatBase10 w.heap.size 0 24 u (Array.replicate (Lib.nDigits u) 0) (w.alloc (.cells Lib.zeros24 148)) hH0 (by rw [Array.size_replicate]; exact Lib.lt_pow_nDigits u) hu (by rw [Array.size_replicate]; omega)
    rw [Array.size_replicate] at hfmt
    have HH0 := hid hH0
    have Hu := hid hu
    have ht1 := tab_below ht ((Below.refl w.heap.size w).alloc (Nat.le_refl _) (.cells Lib.zeros24 148)) (Nat.le_refl _)
    have hnd := Tryz.internal_strconv_numDigits u hu1 hu _ ht1
    clear hH0 hal hu hs
    go_enter Tryz.func98, Tryz.ntmps98
    go_wp2_with fail
    refine hnd.mono ?_
    rintro e w1 ⟨rfl, rfl⟩
    go_wp2_with fail
    refine hfmt.mono ?_
    rintro e w' ⟨rfl, k, v', dk, rfl, hF⟩
    have hcv : (convert 65 9 (.slice (some ⟨w.heap.size, 0, none⟩) (Lib.nDigits u) 24)).run Tryz.prog ((putRow (fun (b : UInt8) => Value.int .u8 (b.toNat : Int)) (w.alloc (.cells Lib.zeros24 148)) w.heap.size 0 dk).drewN k) = .ok (.string ⟨(Lib.decDigits u).toArray⟩) ((putRow (fun (b : UInt8) => Value.int .u8 (b.toNat : Int)) (w.alloc (.cells Lib.zeros24 148)) w.heap.size 0 dk).drewN k) := by
      have h := run_convert_bytes_back (P := Tryz.prog) ((putRow (fun (b : UInt8) => Value.int .u8 (b.toNat : Int)) (w.alloc (.cells Lib.zeros24 148)) w.heap.size 0 dk).drewN k) 65 9 5 ⟨w.heap.size, 0, none⟩ 24 (Lib.decDigits u) Tryz.underlying65 Tryz.underlying5 Tryz.underlying9 (fun j hj => by
        rw [Lib.row_is_numeral hF j hj, Lib.add_plain, World.cell?_drewN]
        exact cell?_putRow (fun (b : UInt8) => Value.int .u8 (b.toNat : Int)) _ w.heap.size 0 _ dk HH0.out (by rw [hF.size, Array.size_replicate]) j (by rw [hF.size]; rw [Lib.decDigits_length] at hj; exact hj))
      rw [Lib.decDigits_length] at h
      exact h
    go_wp2
    go_ret
    obtain ⟨os, eo⟩ := Lib.fin_at w (.cells Lib.zeros24 148) dk k 0
    exact ⟨rfl, by rw [eo]; exact Lib.below_grow _ w (Nat.le_refl _) k os⟩
theorem format_any (u : Nat) (hu : u < 18446744073709551616) (w : World) (ht : Tab w) :
    Calls Tryz.prog 71 #[.int .u64 u, .int .i64 10] w fun e w' => e = .returned (.string (str (Lib.decDigits u))) ∧ Below w.heap.size w w' := by
  go_enter Tryz.func71, Tryz.ntmps71
  go_wp2_with fail
  refine (iformat_any u hu _ ht).mono ?_
  rintro e w1 ⟨rfl, o1⟩
  go_wp2
  go_ret
  exact ⟨rfl, o1⟩
end Go.Proofs.YtahbhhenobehfaaGreatDoor
namespace Go.Proofs.YtahbhhenobehfaaGreatDoor
open Go.ChangeShapes Go.WideShapes Go.ChangeAt Go.RowKit

theorem listL_nil (sep : List UInt8) : listL [] sep = [45] := rfl
theorem listL_some {l : List Int} (sep : List UInt8) (h : 0 < l.length) : listL l sep = Lib.join (l.map numT) sep := by
  unfold listL
  have : l.isEmpty = false := by cases l with | nil => simp at h | cons _ _ => rfl
  rw [this]; rfl
theorem numT_len (n : Int) (h0 : 0 ≤ n) (h1 : n ≤ 9223372036854775807) : (numT n).length ≤ 20 := dec_len 19 n.toNat (by omega)
theorem map_getD {l : List Int} (k : Nat) (hk : k < l.length) : (l.map numT).getD k [] = numT (l.getD k 0) := by
  rw [List.getD_eq_getElem?_getD, List.getElem?_map, List.getElem?_eq_getElem hk, List.getD_eq_getElem?_getD, List.getElem?_eq_getElem hk]; rfl
set_option maxRecDepth 20000 in
set_option maxHeartbeats 4000000 in
theorem jlist_any (ad : Option Addr) (m cap : Nat) (l : List Int) (sep : List UInt8) (w : World) (h : HeldL IntC w ad m cap l) (hm : m ≤ 100000) (hr : ∀ i, i < m → 0 ≤ l.getD i 0 ∧ l.getD i 0 ≤ 9223372036854775807) (hlen : (listL l sep).length ≤ 100000000) (ht : Tab w) :
    Calls Tryz.prog 75 #[.slice ad m cap, .string (str sep)] w fun e w' => e = .returned (.string (str (listL l sep))) ∧ Below w.heap.size w w' := by
  obtain ⟨i0, hi, hz0, hz1, hz2⟩ := info_parts info_string
  have hl := hid h.len
  have hle := h.le
  have hmx := h.max
  by_cases h0 : m = 0
  · subst h0
    obtain rfl : l = [] := List.eq_nil_of_length_eq_zero hl.out
    go_enter Tryz.func75, Tryz.ntmps75
    go_wp2
    go_ret
    exact ⟨rfl, Below.refl _ _⟩
  have hm0 : (0 : Int) < m := by omega
  have hmz : ((m : Int) == 0) = false := by simp; omega
  obtain ⟨J, eJ⟩ : ∃ J, J = l.map numT := ⟨_, rfl⟩
  have hJl := hid (show J.length = m by rw [eJ, List.length_map]; exact hl.out)
  have hJk := hid (show ∀ k (hk : k < l.length), J.getD k [] = numT (l.getD k 0) from fun k hk => by rw [eJ]; exact map_getD k hk)
  have hT := hid (show listL l sep = Lib.join J sep by rw [eJ]; exact listL_some sep (by rw [hl.out]; omega))
  have Hlen := hid hlen
  have Hm := hid hm
  have HR := hid hr
  clear eJ hlen hm hr
  go_enter Tryz.func75, Tryz.ntmps75
  go_wp2
  go_loopw [5, 13] (fun v i wr => ∃ k : Nat, k ≤ m ∧ i = .int .i64 k ∧ OwnL StrC w.heap.size 9 wr v (J.take k) ∧ Below w.heap.size w wr) (fun _ i _ => m - (intOf i).toNat)
  case atStart => exact ⟨0, Nat.zero_le _, rfl, OwnL.nil _ _ _ _, Below.refl _ _⟩
  case round =>
    obtain ⟨k, hk, rfl, own, hb⟩ := hrel
    by_cases hlt : k < m
    · have hw := h.below hb (Nat.le_refl _)
      obtain ⟨b', o', rfl⟩ := hw.head (by omega)
      have hc := hw.int k hlt
      have hk0 : (0 : Int) ≤ k := by omega
      have hkn : (k : Int) < m := by omega
      have hJ2 := hid (hJk.out k (by rw [hl.out]; exact hlt))
      have hrk := HR.out k hlt
      obtain ⟨x, ex⟩ : ∃ x, x = l.getD k 0 := ⟨_, rfl⟩
      rw [← ex] at hc hJ2 hrk
      obtain ⟨Y, eY⟩ : ∃ Y, Y = numT x := ⟨_, rfl⟩
      have EY := hid eY
      have hst := hid (show J.take (k + 1) = J.take k ++ [Y] by
        rw [List.take_succ_eq_append_getElem (by rw [hJl.out]; exact hlt), eY, ← hJ2.out, List.getD_eq_getElem?_getD, List.getElem?_eq_getElem (by rw [hJl.out]; exact hlt)]; rfl)
      have hln := hid (show (J.take k).length ≤ 100000 by rw [List.length_take]; have := Hm.out; omega)
      obtain ⟨D, eD⟩ : ∃ D, D = J.take k := ⟨_, rfl⟩
      rw [← eD] at own hst hln
      have htw := tab_below ht hb (Nat.le_refl _)
      clear ex hw eY eD
      have bs := hb.size
      go_wp2_with fail
      refine (itoa_any x _ hrk.1 hrk.2 htw).mono ?_
      rintro e w3 ⟨rfl, o3⟩
      rw [show Lib.decDigits x.toNat = Y from EY.out.symm]
      have hb3 := hb.trans (o3.mono bs)
      have own3 := own.below o3 (Nat.le_refl _)
      have bs3 := hb3.size
      have own4 := own3.alloc (.cells #[.string (str Y)] 9)
      have hb4 := hb3.alloc bs3 (.cells #[.string (str Y)] 9)
      clear own3 own o3 hb3 hb hc htw
      go_wp2_with (at_builtin; go_must (refine wpList_append_run rfl (.tmp 17) (.tmp 20) 32 rfl u5 (.slice (some ⟨w3.heap.size, 0, none⟩) 1 1) (by rfl) (by rfl) (run_append1 _ w.heap.size 32 _ 9 i0 _ 16 Tryz.underlying32 hi hz0 hz1 hz2 rfl _ D own4 w3.heap.size 1 (.string (str Y)) Y (by simp) rfl (Rests.str _ _ _) (by have := hln.out; rw [maxLen_eq]; omega) (by have := hln.out; omega) (by simp; omega)) ?_); rintro v5 w5 ⟨own5, b5, _, _⟩)
      have hb5 := hb4.trans b5
      clear own4 hb4 b5
      go_wp2
      go_roundw
      case rel => exact ⟨k + 1, by omega, by go_num, by rw [hst.out]; exact own5, hb5⟩
      case measure => simp [intOf]; omega
    · obtain rfl : k = m := by omega
      rw [List.take_of_length_le (by rw [hJl.out]; exact Nat.le_refl _)] at own
      obtain ⟨a1, c1, rfl, hs⟩ := own.slice
      have hjT := hid (show (Lib.join J sep).length ≤ 140737488355328 by rw [← hT.out]; have := Hlen.out; omega)
      have hfin := hid (show str (Lib.join J sep) = str (listL l sep) by rw [hT.out])
      have hJm := hid (show J.length ≤ 140737488355328 by rw [hJl.out]; have := Hm.out; omega)
      obtain ⟨b2, o2, rfl⟩ := hs.head (by rw [hJl.out]; omega)
      have hle2 := hs.le
      have hcell := hid (show ∀ j (hj : j < J.length), wr.cell? ⟨b2, o2 + j, none⟩ = some (.string (str J[j])) from fun j hj => by
        obtain ⟨b', o', u, e, hc, hx⟩ := hs.lst.2.2.2 j hj
        cases e
        rw [hc, show u = _ from hx])
      have hbk := hid (lt_of_cell (hcell.out 0 (by rw [hJl.out]; omega)))
      clear own hs
      go_wp2_with fail
      refine (join_str b2 o2 c1 J sep _ hcell.out hbk.out hJm.out hle2 hjT.out).mono ?_
      rintro e w3 ⟨rfl, o3⟩
      rw [hfin.out]
      have hb3 := hb.trans (o3.mono hb.size)
      go_wp2
      go_ret
      exact ⟨rfl, hb3⟩
set_option maxRecDepth 20000 in
set_option maxHeartbeats 4000000 in
theorem rlist_any (ad : Option Addr) (m cap : Nat) (l : List Int) (sep : List UInt8) (w : World) (h : HeldL IntC w ad m cap l) (hr : ∀ i, i < m → 0 ≤ l.getD i 0 ∧ l.getD i 0 ≤ 9223372036854775807) (hlen : (listL l sep).length ≤ 100000000) (hsep : sep.length ≤ 100000000) :
    Calls Tryz.prog 34 #[.slice ad m cap, .string (str sep)] w fun e w' => e = .returned (.string (str (listL l sep))) ∧ w = w' := by
  have hl := hid h.len
  have hle := h.le
  have hmx := h.max
  by_cases h0 : m = 0
  · subst h0
    obtain rfl : l = [] := List.eq_nil_of_length_eq_zero hl.out
    go_enter Tryz.func34, Tryz.ntmps34
    go_wp2
    go_ret
    exact ⟨rfl, rfl⟩
  have hm0 : (0 : Int) < m := by omega
  have hmz : ((m : Int) == 0) = false := by simp; omega
  obtain ⟨J, eJ⟩ : ∃ J, J = l.map numT := ⟨_, rfl⟩
  have hJl := hid (show J.length = m by rw [eJ, List.length_map]; exact hl.out)
  have hJk := hid (show ∀ k (hk : k < l.length), J.getD k [] = numT (l.getD k 0) from fun k hk => by rw [eJ]; exact map_getD k hk)
  have hT := hid (show listL l sep = Lib.join J sep by rw [eJ]; exact listL_some sep (by rw [hl.out]; omega))
  have Hlen := hid hlen
  have Hsep := hid hsep
  have HR := hid hr
  clear eJ hlen hsep hr
  obtain ⟨b', o', rfl⟩ := h.head (by omega)
  go_enter Tryz.func34, Tryz.ntmps34
  go_wp2
  go_loop [5, 12] (fun v i => ∃ k : Nat, k ≤ m ∧ i = .int .i64 k ∧ v = .string (str (Lib.join (J.take k) sep))) (fun _ i => m - (intOf i).toNat)
  case atStart => exact ⟨0, Nat.zero_le _, rfl, rfl⟩
  case round =>
    obtain ⟨k, hk, rfl, rfl⟩ := hrel
    by_cases hlt : k < m
    · have hc := h.int k hlt
      have hk0 : (0 : Int) ≤ k := by omega
      have hkn : (k : Int) < m := by omega
      have hJ2 := hid (hJk.out k (by rw [hl.out]; exact hlt))
      have hrk := HR.out k hlt
      obtain ⟨x, ex⟩ : ∃ x, x = l.getD k 0 := ⟨_, rfl⟩
      rw [← ex] at hc hJ2 hrk
      obtain ⟨Y, eY⟩ : ∃ Y, Y = numT x := ⟨_, rfl⟩
      have EY := hid eY
      have hY20 := hid (show Y.length ≤ 20 by rw [eY]; exact numT_len x hrk.1 hrk.2)
      have hjle := hid (join_take_le sep J (k + 1))
      have hjT := hid (show (Lib.join J sep).length ≤ 100000000 by rw [← hT.out]; exact Hlen.out)
      clear ex eY
      obtain ⟨X, eX⟩ : ∃ X, X = Lib.join (J.take k) sep := ⟨_, rfl⟩
      rw [← eX]
      have EX := hid eX
      clear eX
      by_cases hk1 : k = 0
      · have hjs := hid (show Lib.join (J.take (k + 1)) sep = X ++ Y by
          rw [EX.out]
          subst hk1
          rw [List.take_zero, Lib.join_nil, List.nil_append, join_take_zero sep J (by rw [hJl.out]; omega), EY.out, ← hJ2.out, List.getD_eq_getElem?_getD, List.getElem?_eq_getElem (by rw [hJl.out]; omega)]; rfl)
        have hkg : ¬ (0 : Int) < k := by omega
        have hlenW := hid (show X.length + Y.length ≤ 100000000 by
          have h2 := hjle.out
          have h3 := congrArg List.length hjs.out
          have h4 := hjT.out
          rw [List.length_append] at h3
          omega)
        have hadd := add_str X Y (by have := hlenW.out; omega)
        clear hk1
        go_wp2_with fail
        refine (dec_any x _ hrk.1 hrk.2).mono ?_
        rintro e w3 ⟨rfl, rfl⟩
        rw [show Lib.decDigits x.toNat = Y from EY.out.symm]
        have hfin := hid (show str (X ++ Y) = str (Lib.join (J.take (k + 1)) sep) by rw [hjs.out])
        go_wp2
        go_round
        case rel => exact ⟨k + 1, by omega, by go_num, by rw [hfin.out]⟩
        case measure => simp [intOf]; omega
      · have hjs := hid (show Lib.join (J.take (k + 1)) sep = (X ++ sep) ++ Y by
          rw [EX.out, join_take_succ sep J k (by rw [hJl.out]; omega) (by omega), EY.out, ← hJ2.out, List.getD_eq_getElem?_getD, List.getElem?_eq_getElem (by rw [hJl.out]; omega)]; rfl)
        have hkg : (0 : Int) < k := by omega
        have hlenW := hid (show X.length + sep.length + Y.length ≤ 100000000 by
          have h2 := hjle.out
          have h3 := congrArg List.length hjs.out
          have h4 := hjT.out
          simp only [List.length_append] at h3
          omega)
        have hadd1 := add_str X sep (by have := hlenW.out; omega)
        obtain ⟨X2, eX2⟩ : ∃ X2, X2 = X ++ sep := ⟨_, rfl⟩
        rw [← eX2] at hadd1
        have EX2 := hid eX2
        have hadd2 := add_str X2 Y (by have := hlenW.out; rw [eX2]; simp only [List.length_append]; omega)
        clear hk1 eX2
        go_wp2_with fail
        refine (dec_any x _ hrk.1 hrk.2).mono ?_
        rintro e w3 ⟨rfl, rfl⟩
        rw [show Lib.decDigits x.toNat = Y from EY.out.symm]
        have hfin := hid (show str (X2 ++ Y) = str (Lib.join (J.take (k + 1)) sep) by rw [hjs.out, EX2.out])
        go_wp2
        go_round
        case rel => exact ⟨k + 1, by omega, by go_num, by rw [hfin.out]⟩
        case measure => simp [intOf]; omega
    · obtain rfl : k = m := by omega
      rw [List.take_of_length_le (by rw [hJl.out]; exact Nat.le_refl _)]
      have hfin := hid (show str (Lib.join J sep) = str (listL l sep) by rw [hT.out])
      obtain ⟨X, eX⟩ : ∃ X, X = Lib.join J sep := ⟨_, rfl⟩
      rw [← eX]
      rw [← eX] at hfin
      clear eX
      go_wp2
      go_ret
      exact ⟨ret_str hfin.out, rfl⟩
end Go.Proofs.YtahbhhenobehfaaGreatDoor
