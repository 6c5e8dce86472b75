/-
  The walks of the reference's hexadecimal digit and Unescape.
  The walks of the reference parser's reader: what looks at a token, what notes an error.
-/
import Derived.Test.YtahbhhenobehfaaGreatDoorM26
import Derived.Test.YtahbhhenobehfaaGreatDoorNU8
import Derived.Test.YtahbhhenobehfaaGreatDoorM35
import Derived.Deep.QuietTactic
import Derived.BigQuiet
namespace Go.Proofs.YtahbhhenobehfaaGreatDoor
open Go.ChangeShapes Go.WideShapes Go.ChangeAt Go.RowKit

theorem rdigit_any (x : Int) (w : World) (h0 : 0 ≤ x) (h1 : x < 256) : Calls Tryz.prog 84 #[.int .u8 x] w fun e w' => e = .returned (.int .i64 (hexI x)) ∧ w = w' := by
  unfold hexI
  by_cases a1 : 48 ≤ x
  · by_cases a2 : x ≤ 57
    · have hw : IntKind.wrap .u8 (x - 48) = x - 48 := wrap_u8 _ (by omega) (by omega)
      rw [if_pos ⟨a1, a2⟩]
      go_enter Tryz.func84, Tryz.ntmps84
      go_wp2
      go_ret
      simp
    · rw [if_neg (by omega)]
      by_cases a3 : 97 ≤ x
      · by_cases a4 : x ≤ 102
        · have hw : IntKind.wrap .u8 (x - 97) = x - 97 := wrap_u8 _ (by omega) (by omega)
          rw [if_pos ⟨a3, a4⟩]
          go_enter Tryz.func84, Tryz.ntmps84
          go_wp2
          go_ret
          simp
          omega
        · rw [if_neg (by omega)]
          go_enter Tryz.func84, Tryz.ntmps84
          go_wp2
          go_ret
          simp
      · rw [if_neg (by omega)]
        go_enter Tryz.func84, Tryz.ntmps84
        go_wp2
        go_ret
        simp
  · rw [if_neg (by omega), if_neg (by omega)]
    have a3 : ¬ 97 ≤ x := by omega
    go_enter Tryz.func84, Tryz.ntmps84
    go_wp2
    go_ret
    simp
theorem rdigit_parts (x : Int) (D : Int) (w : World) (h0 : 0 ≤ x) (h1 : x < 256) (hD : hexI x = D) : Calls Tryz.prog 84 #[.int .u8 x] w fun e w' => (∃ v, e = .returned v ∧ v = .int .i64 D ∧ w = w') ∨ (∃ c, e = .panicked c ∧ False) := by
  refine (rdigit_any x w h0 h1).mono ?_
  rintro e w' ⟨rfl, rfl⟩
  exact Or.inl ⟨_, rfl, by rw [hD], rfl⟩
set_option maxRecDepth 20000 in
set_option maxHeartbeats 16000000 in
theorem runescape_any (s : ByteArray) (w : World) (hs : s.size ≤ 100000) :
    Calls Tryz.prog 50 #[.string s] w (UnSaid s w) := by
  have hlen : s.data.toList.length = s.size := Array.length_toList
  obtain ⟨i0, hi, hz0, hz1, hz2⟩ := info_parts info_byte
  by_cases h1 : s.data.toList = [37]
  · have hb : (s.toList == [37]) = true := by rw [ByteArray.toList_eq, h1]; rfl
    have hh := hid (show ∀ t, s.data.toList = escL t → ([] : List UInt8) = t from fun t ht => by rw [h1] at ht; exact (escL_mark ht).symm)
    clear h1
    go_enter Tryz.func50, Tryz.ntmps50
    go_wp2
    exact bodyPost_ret (v := .tuple #[.string ⟨#[]⟩, .int .i64 0]) (by simp [results, Tryz.results50, go_sem]) rfl ⟨⟨⟨#[]⟩, 0, rfl, Nat.zero_le _, fun t ht => ⟨hh.out t ht, rfl⟩⟩, Below.refl _ _⟩
  have hb : (s.toList == [37]) = false := by rw [ByteArray.toList_eq, beq_eq_false_iff_ne]; exact h1
  have Hne := hid (fun t ht => escL_one (l := s.data.toList) (t := t) ht h1)
  clear h1
  have hcf : ∀ (xv : Array Value) (wx : World), (callFunc 84 xv).run Tryz.prog wx = .ok (.enter 84 xv) wx := fun xv wx => by simp [go_sem]
  go_enter Tryz.func50, Tryz.ntmps50
  go_wp2
  go_loopw [4, 5] (fun u i wr => ∃ (o : List UInt8) (p : Nat), i = .int .i64 p ∧ OwnL ByteC w.heap.size 5 wr u o ∧ p ≤ s.size ∧ o.length ≤ p ∧ Hid (EscAt s.data.toList o p) ∧ Below w.heap.size w wr) (fun _ i _ => s.size - (intOf i).toNat)
  case atStart => exact ⟨[], 0, rfl, OwnL.nil _ _ _ _, Nat.zero_le _, Nat.le_refl _, hid (EscAt.start _), Below.refl _ _⟩
  case round =>
    obtain ⟨o, p, rfl, own, hp, ho, hE, hB⟩ := hrel
    by_cases hps : p < s.size
    · have hpl : p < s.data.toList.length := by omega
      have hk0 : (0 : Int) ≤ p := by omega
      have hkn : (p : Int) < s.size := by omega
      obtain ⟨c, hc⟩ : ∃ c, s[p]'hps = c := ⟨_, rfl⟩
      have hcl : s.data.toList[p] = c := by rw [← hc, Array.getElem_toList]; rfl
      have hBs := hB.size
      by_cases h37 : c = 37
      · have h37' : (((c.toNat : Nat) : Int) == 37) = true := by rw [h37]; rfl
        by_cases hp2 : s.size ≤ p + 2
        · have hno := hid (show ∀ t, s.data.toList ≠ escT t from fun t ht => by
            obtain ⟨h2, _⟩ := hE.out.mark hpl (by rw [hcl]; exact h37) ht
            omega)
          have hB' := hid hB
          clear hB own
          go_wp2
          exact bodyPost_ret (v := .tuple #[.string ⟨#[]⟩, .int .i64 1]) (by simp [results, Tryz.results50, go_sem]) rfl ⟨⟨⟨#[]⟩, 1, rfl, Nat.zero_le _, fun t ht => absurd (Hne.out t ht) (hno.out t)⟩, hB'.out⟩
        · have hp1 : p + 1 < s.size := by omega
          have hp2' : p + 2 < s.size := by omega
          obtain ⟨c1, hc1⟩ : ∃ c1, s[p + 1]'hp1 = c1 := ⟨_, rfl⟩
          obtain ⟨c2, hc2⟩ : ∃ c2, s[p + 2]'hp2' = c2 := ⟨_, rfl⟩
          have e1 : s.data.toList[p + 1] = c1 := by rw [← hc1, Array.getElem_toList]; rfl
          have e2 : s.data.toList[p + 2] = c2 := by rw [← hc2, Array.getElem_toList]; rfl
          have q1 : (p : Int) + 1 < s.size := by omega
          have q2 : (p : Int) + 2 < s.size := by omega
          have b1 : ((c1.toNat : Nat) : Int) < 256 := by have := c1.toNat_lt; omega
          have b2 : ((c2.toNat : Nat) : Int) < 256 := by have := c2.toNat_lt; omega
          obtain ⟨D1, eD1⟩ : ∃ D, hexI ((c1.toNat : Nat) : Int) = D := ⟨_, rfl⟩
          obtain ⟨D2, eD2⟩ : ∃ D, hexI ((c2.toNat : Nat) : Int) = D := ⟨_, rfl⟩
          have HD1 := hid eD1
          have HD2 := hid eD2
          have m1 : D1 ≤ 15 := by rw [← eD1]; exact hexI_le _
          have m2 : D2 ≤ 15 := by rw [← eD2]; exact hexI_le _
          have hmark := hid (show ∀ t, s.data.toList = escT t → 0 ≤ D1 ∧ 0 ≤ D2 from fun t ht => by
            obtain ⟨h2, d1, d2⟩ := hE.out.mark hpl (by rw [hcl]; exact h37) ht
            rw [e1, eD1] at d1
            rw [e2, eD2] at d2
            exact ⟨d1, d2⟩)
          clear eD1 eD2
          go_wp2_with fail
          refine (rdigit_any _ _ (by omega) b1).mono ?_
          rintro e w1 ⟨rfl, rfl⟩
          rw [HD1.out]
          by_cases n1 : D1 < 0
          · have hno := hid (show ∀ t, s.data.toList ≠ escT t from fun t ht => by
              obtain ⟨d1, _⟩ := hmark.out t ht
              omega)
            have hB' := hid hB
            clear hB own hmark
            go_wp2
            exact bodyPost_ret (v := .tuple #[.string ⟨#[]⟩, .int .i64 1]) (by simp [results, Tryz.results50, go_sem]) rfl ⟨⟨⟨#[]⟩, 1, rfl, Nat.zero_le _, fun t ht => absurd (Hne.out t ht) (hno.out t)⟩, hB'.out⟩
          · go_wp2_with fail
            refine (rdigit_any _ _ (by omega) b2).mono ?_
            rintro e w1 ⟨rfl, rfl⟩
            rw [HD2.out]
            by_cases n2 : D2 < 0
            · have hno := hid (show ∀ t, s.data.toList ≠ escT t from fun t ht => by
                obtain ⟨_, d2⟩ := hmark.out t ht
                omega)
              have hB' := hid hB
              clear hB own hmark
              go_wp2
              exact bodyPost_ret (v := .tuple #[.string ⟨#[]⟩, .int .i64 1]) (by simp [results, Tryz.results50, go_sem]) rfl ⟨⟨⟨#[]⟩, 1, rfl, Nat.zero_le _, fun t ht => absurd (Hne.out t ht) (hno.out t)⟩, hB'.out⟩
            · obtain ⟨x, hx⟩ : ∃ x : UInt8, (x.toNat : Int) = 16 * D1 + D2 := ⟨UInt8.ofNat (16 * D1 + D2).toNat, by rw [UInt8.toNat_ofNat']; omega⟩
              have hE3 := hid (show EscAt s.data.toList (o ++ [x]) (p + 3) from hE.out.hex (by omega) (by rw [hcl]; exact h37) (by rw [e1, e2, HD1.out, HD2.out, hx]; omega))
              have hw8 : IntKind.wrap .u8 (16 * D1 + D2) = (16 * D1 + D2) := wrap_u8 _ (by omega) (by omega)
              have hbv := hid (show ∀ w, ByteC w (.int .u8 (16 * D1 + D2)) x from fun _ => by show Value.int .u8 _ = _; rw [hx])
              have ownA := own.drew.alloc (.cells #[.int .u8 (16 * D1 + D2)] 5)
              have hm16 : IntKind.wrap .i64 (16 * D1) = 16 * D1 := by rw [IntKind.wrap_i64]; omega
              have hm17 : IntKind.wrap .i64 (16 * D1 + D2) = 16 * D1 + D2 := by rw [IntKind.wrap_i64]; omega
              have hB' := hid hB
              have k1 : (0 : Int) ≤ (p : Int) + 1 := by omega
              have k2 : (0 : Int) ≤ (p : Int) + 2 := by omega
              have v1 : IntKind.wrap .i64 ((p : Int) + 1) = (p : Int) + 1 := by rw [IntKind.wrap_i64]; omega
              have v2 : IntKind.wrap .i64 ((p : Int) + 2) = (p : Int) + 2 := by rw [IntKind.wrap_i64]; omega
              have t1 : ((p : Int) + 1).toNat = p + 1 := by omega
              have t2 : ((p : Int) + 2).toNat = p + 2 := by omega
              clear hmark hx
              go_wp2
              go_region_law (first
                | (refine step_call_or rfl 84 #[.tmp 49] _ rfl hcf #[.int .u8 ((c1.toNat : Nat) : Int)] (by simp [Act.eval, Act.put]) (rdigit_parts _ D1 _ (by omega) b1 HD1.out) (fun _ _ h => h.elim) ?_
                   rintro v6 w6 ⟨rfl, rfl⟩)
                | (refine step_call_or rfl 84 #[.tmp 55] _ rfl hcf #[.int .u8 ((c2.toNat : Nat) : Int)] (by simp [Act.eval, Act.put]) (rdigit_parts _ D2 _ (by omega) b2 HD2.out) (fun _ _ h => h.elim) ?_
                   rintro v6 w6 ⟨rfl, rfl⟩)
                | (refine step_append_run rfl (.tmp 45) (.tmp 59) 65 rfl u4 (.slice (some ⟨wr.heap.size, 0, none⟩) 1 1) (by rfl) (by rfl) (run_append1 _ w.heap.size 65 _ 5 i0 _ 1 Tryz.underlying65 hi hz0 hz1 hz2 rfl _ o ownA wr.heap.size 1 (.int .u8 (16 * D1 + D2)) x ((Has.new wr.drew #[.int .u8 (16 * D1 + D2)] 5).cell (j := 0) rfl) rfl (fun w' _ => hbv.out w') (by unfold maxLen; omega) (by omega) (by simp; omega)) ?_
                   rintro v5 w5 ⟨own5, b5, _, _⟩))
              all_goals
                have own5' := hid own5
                have hB5 := hid ((hB'.out.drew.alloc hB'.out.size (.cells #[.int .u8 (16 * D1 + D2)] 5)).trans (b5.mono (by omega)))
                clear own5 b5 ownA own hB
                go_wp2
                go_roundw
                case rel => exact ⟨o ++ [x], p + 3, rfl, own5'.out, by omega, by simp; omega, hE3, hB5.out⟩
                case measure => simp [intOf]; omega
      · have h37' : (((c.toNat : Nat) : Int) == 37) = false := by
          rw [beq_eq_false_iff_ne]
          intro e
          exact h37 (UInt8.toNat_inj.1 (by rw [show (37 : UInt8).toNat = 37 from rfl]; omega))
        have hE1 := hid (show EscAt s.data.toList (o ++ [c]) (p + 1) from by have := hE.out.plain hpl (by rw [hcl]; exact h37); rwa [hcl] at this)
        have ownA := own.alloc (.cells #[.int .u8 ((c.toNat : Nat) : Int)] 5)
        go_wp2_with (at_builtin; go_must (refine wpList_append_run rfl (.tmp 16) (.tmp 20) 65 rfl u4 (.slice (some ⟨wr.heap.size, 0, none⟩) 1 1) (by rfl) (by rfl) (run_append1 _ w.heap.size 65 _ 5 i0 _ 1 Tryz.underlying65 hi hz0 hz1 hz2 rfl _ o ownA wr.heap.size 1 (.int .u8 ((c.toNat : Nat) : Int)) c ((Has.new wr #[.int .u8 ((c.toNat : Nat) : Int)] 5).cell (j := 0) rfl) rfl (fun w' _ => rfl) (by unfold maxLen; omega) (by omega) (by simp; omega)) ?_); rintro v5 w5 ⟨own5, b5, _, _⟩)
        have own5' := hid own5
        have hB5 := hid ((hB.alloc hB.size (.cells #[.int .u8 ((c.toNat : Nat) : Int)] 5)).trans (b5.mono (by omega)))
        clear own5 b5 ownA own hB
        go_wp2
        go_roundw
        case rel => exact ⟨o ++ [c], p + 1, rfl, own5'.out, by omega, by simp; omega, hE1, hB5.out⟩
        case measure => simp [intOf]; omega
    · obtain rfl : p = s.size := by omega
      obtain ⟨ad, cap, rfl, hrow⟩ := own.bytes
      have hconv := hrow.convert (cap := cap)
      have hB' := hid hB
      clear own hB
      go_wp2_with fail
      refine (rescape_any ⟨o.toArray⟩ _ (by rw [bsize]; omega)).mono ?_
      rintro e w3 ⟨rfl, o3⟩
      have hB3 := hid (hB'.out.trans (o3.mono hB'.out.size))
      have hconv3 := (hrow.below o3 (Nat.le_refl _)).convert (cap := cap)
      rw [show (⟨o.toArray⟩ : ByteArray).data.toList = o from by simp]
      by_cases heq : escL o = s.data.toList
      · have hb2 : ((str (escL o)).toList == s.toList) = true := by
          rw [ByteArray.toList_eq, ByteArray.toList_eq, heq]; simp [str]
        have hfin := hid (show ∀ t, s.data.toList = escL t → o = t from fun t ht => EscAt.done (l := s.data.toList) (by rw [hlen]; exact hE.out) (Hne.out t ht))
        have hos : (⟨o.toArray⟩ : ByteArray).size ≤ s.size := by rw [bsize]; omega
        clear hconv heq o3 hrow
        go_wp2
        exact bodyPost_ret (v := .tuple #[.string ⟨o.toArray⟩, .int .i64 0]) (by simp [results, Tryz.results50, go_sem]) rfl ⟨⟨⟨o.toArray⟩, 0, rfl, hos, fun t ht => ⟨(show (⟨o.toArray⟩ : ByteArray).data.toList = o from by simp).trans (hfin.out t ht), rfl⟩⟩, hB3.out⟩
      · have hb2 : ((str (escL o)).toList == s.toList) = false := by
          rw [ByteArray.toList_eq, ByteArray.toList_eq, beq_eq_false_iff_ne]
          intro h
          exact heq (by simpa [str] using h)
        have hfin := hid (show ∀ t, s.data.toList = escL t → False from fun t ht => by
          have e1 := EscAt.done (l := s.data.toList) (by rw [hlen]; exact hE.out) (Hne.out t ht)
          exact heq (by rw [e1]; exact ht.symm))
        clear hconv heq o3 hrow
        go_wp2
        exact bodyPost_ret (v := .tuple #[.string ⟨#[]⟩, .int .i64 1]) (by simp [results, Tryz.results50, go_sem]) rfl ⟨⟨⟨#[]⟩, 1, rfl, Nat.zero_le _, fun t ht => (hfin.out t ht).elim⟩, hB3.out⟩
end Go.Proofs.YtahbhhenobehfaaGreatDoor
namespace Go.Proofs.YtahbhhenobehfaaGreatDoor
open Go.ChangeShapes Go.WideShapes Go.ChangeAt Go.RowKit

/-- The reference's reader in block x: its tokens at ad, its place k, an error er noted at a. -/
structure RrAt (w : World) (x : Nat) (ad : Option Addr) (cap : Nat) (T : List Tok) (k : Nat) (a er : Int) : Prop where
  has : Has w x #[.slice ad T.length cap, .int .i64 k, .int .i64 a, .int .i64 er] 139
  toks : ToksAt w ad T.length cap T
  lt : k < T.length
  apart : ∀ b o, ad = some ⟨b, o, none⟩ → b ≠ x
  stop : ∀ j (h : j < T.length), T[j].kind ≠ 0 → j + 1 < T.length
  fine : ∀ t ∈ T, t.text.size ≤ maxLen
  short : T.length ≤ 1000000
namespace RrAt
variable {w w' : World} {x : Nat} {ad : Option Addr} {cap : Nat} {T : List Tok} {k : Nat} {a er : Int}
theorem below {B : Nat} (h : RrAt w x ad cap T k a er) (hb : Below B w w') (hB : w.heap.size ≤ B) : RrAt w' x ad cap T k a er :=
  ⟨h.has.below hb (Nat.lt_of_lt_of_le h.has.lt hB), h.toks.below hb hB, h.lt, h.apart, h.stop, h.fine, h.short⟩
theorem setX {o : Nat} {u : Value} (h : RrAt w x ad cap T k a er) : ToksAt (w.setCell ⟨x, o, none⟩ u) ad T.length cap T :=
  h.toks.only ((Only.refl [x] w).setIn (by simp) _) (fun b o e => by simpa using h.apart b o e)
theorem next (h : RrAt w x ad cap T k a er) (hk : k + 1 < T.length) : RrAt (w.setCell ⟨x, 1, none⟩ (.int .i64 ((k : Int) + 1))) x ad cap T (k + 1) a er :=
  ⟨by have := h.has.set 1 (.int .i64 ((k : Int) + 1)); simpa using this, h.setX, hk, h.apart, h.stop, h.fine, h.short⟩
theorem note (h : RrAt w x ad cap T k a er) (a' er' : Int) : RrAt ((w.setCell ⟨x, 2, none⟩ (.int .i64 a')).setCell ⟨x, 3, none⟩ (.int .i64 er')) x ad cap T k a' er' :=
  ⟨by have := (h.has.set 2 (.int .i64 a')).set 3 (.int .i64 er'); simpa using this, h.toks.only (((Only.refl [x] w).setIn (b := x) (by simp) _).setIn (b := x) (by simp) _) (fun b o e => by simpa using h.apart b o e), h.lt, h.apart, h.stop, h.fine, h.short⟩
theorem cells {t : Tok} (h : RrAt w x ad cap T k a er) (ht : T[k]? = some t) : ∃ g o, ad = some ⟨g, o, none⟩ ∧ w.cell? ⟨x, 0, none⟩ = some (.slice (some ⟨g, o, none⟩) T.length cap) ∧ w.cell? ⟨x, 1, none⟩ = some (.int .i64 k) ∧ w.cell? ⟨x, 2, none⟩ = some (.int .i64 a) ∧ w.cell? ⟨x, 3, none⟩ = some (.int .i64 er) ∧
    w.cell? ⟨g, o + k * 3, none⟩ = some (.int .i64 t.kind) ∧ w.cell? ⟨g, o + k * 3 + 1, none⟩ = some (.string t.text) ∧ w.cell? ⟨g, o + k * 3 + 2, none⟩ = some (.int .i64 t.pos) := by
  obtain ⟨g, o, rfl⟩ := h.toks.head (Nat.lt_of_le_of_lt (Nat.zero_le _) h.lt)
  obtain ⟨c0, c1, c2⟩ := h.toks.at k h.lt
  obtain rfl : T[k]'h.lt = t := by rw [List.getElem?_eq_getElem h.lt] at ht; exact Option.some.inj ht
  exact ⟨g, o, rfl, h.has.cell (j := 0) rfl, h.has.cell (j := 1) rfl, h.has.cell (j := 2) rfl, h.has.cell (j := 3) rfl, c0, c1, c2⟩
theorem other {c o : Nat} (h : RrAt w x ad cap T k a er) (hc : x ≠ c) (hg : ∀ b o, ad = some ⟨b, o, none⟩ → b ≠ c) (u : Value) : RrAt (w.setCell ⟨c, o, none⟩ u) x ad cap T k a er :=
  ⟨h.has.other (by simpa using hc) u, h.toks.only ((Only.refl [c] w).setIn (by simp) _) (fun b o e => by simpa using hg b o e), h.lt, h.apart, h.stop, h.fine, h.short⟩
theorem low {B : Nat} (h : RrAt w x ad cap T k a er) (hb : Below B w w') (hx : x < B) (hg : ∀ b o, ad = some ⟨b, o, none⟩ → b < B) : RrAt w' x ad cap T k a er :=
  ⟨h.has.below hb hx, ⟨h.toks.1, h.toks.2.1, h.toks.2.2.1, fun j hj => by
    obtain ⟨b, o, us, e, hl, hc, hv⟩ := h.toks.2.2.2 j hj
    exact ⟨b, o, us, e, hl, fun i hi => (hb.cell (p := ⟨b, o + j * 3 + i, none⟩) (hg b o e)).trans (hc i hi), hv⟩⟩, h.lt, h.apart, h.stop, h.fine, h.short⟩
theorem block (h : RrAt w x ad cap T k a er) : ∀ b o, ad = some ⟨b, o, none⟩ → b < w.heap.size := fun b o e => by
  obtain ⟨g, o', e2, _, _, _, _, c0, _⟩ := h.cells (List.getElem?_eq_getElem h.lt)
  rw [e] at e2
  cases e2
  exact lt_of_cell c0
end RrAt
set_option maxRecDepth 20000 in
set_option maxHeartbeats 2000000 in
theorem rbegins_tok (x : Nat) (ad : Option Addr) (cap : Nat) (T : List Tok) (k : Nat) (a er : Int) (t : Tok) (w : World) (h : RrAt w x ad cap T k a er) (ht : T[k]? = some t) :
    Calls Tryz.prog 149 #[.pointer (some ⟨x, 0, none⟩)] w fun e w' => e = .returned (.bool (beginsB t)) ∧ Below w.heap.size w w' := by
  have hlt := h.lt
  have hle := h.toks.2.1
  have hmx := h.toks.2.2.1
  obtain ⟨g, o, rfl, x0, x1, x2, x3, c0, c1, c2⟩ := h.cells ht
  clear ht h
  obtain ⟨K, S, P⟩ := t
  have hI := hid (show beginsB ⟨K, S, P⟩ = (K == 1 || K == 2 || K == 3) from rfl)
  obtain ⟨R, eR⟩ : ∃ R, R = beginsB ⟨K, S, P⟩ := ⟨_, rfl⟩
  rw [← eR] at hI ⊢
  clear eR
  obtain ⟨B1, eB1⟩ : ∃ B, (K == 1) = B := ⟨_, rfl⟩
  obtain ⟨B2, eB2⟩ : ∃ B, (K == 2) = B := ⟨_, rfl⟩
  obtain ⟨B3, eB3⟩ : ∃ B, (K == 3) = B := ⟨_, rfl⟩
  rw [eB1, eB2, eB3] at hI
  have hk0 : (0 : Int) ≤ k := by omega
  have hkn : (k : Int) < T.length := by omega
  go_enter Tryz.func149, Tryz.ntmps149
  go_wp2
  go_quiet (fail)
  cases B1 <;> cases B2 <;> cases B3
  all_goals
    go_wp2
    go_ret
    exact ⟨ret_bool hI.out.symm, below_drew _ _⟩
set_option maxRecDepth 20000 in
set_option maxHeartbeats 4000000 in
theorem ris_any (s : ByteArray) (x : Nat) (ad : Option Addr) (cap : Nat) (T : List Tok) (k : Nat) (a er : Int) (t : Tok) (w : World) (h : RrAt w x ad cap T k a er) (ht : T[k]? = some t) :
    Calls Tryz.prog 114 #[.pointer (some ⟨x, 0, none⟩), .string s] w fun e w' => e = .returned (.bool (er == 0 && isB t s.data.toList)) ∧ Below w.heap.size w w' := by
  have hlt := h.lt
  have hle := h.toks.2.1
  have hmx := h.toks.2.2.1
  obtain ⟨g, o, rfl, x0, x1, x2, x3, c0, c1, c2⟩ := h.cells ht
  clear ht h
  obtain ⟨K, S, P⟩ := t
  have hI := hid (show (er == 0 && isB ⟨K, S, P⟩ s.data.toList) = (er == 0 && ((K == 4 || K == 5) && S.data.toList == s.data.toList)) from rfl)
  obtain ⟨R, eR⟩ : ∃ R, R = (er == 0 && isB ⟨K, S, P⟩ s.data.toList) := ⟨_, rfl⟩
  rw [← eR] at hI ⊢
  clear eR
  obtain ⟨B3, eB3⟩ : ∃ B, (S.data.toList == s.data.toList) = B := ⟨_, rfl⟩
  have f3 : (S.toList == s.toList) = B3 := by rw [str_ne]; exact eB3
  rw [eB3] at hI
  clear eB3
  obtain ⟨B1, eB1⟩ : ∃ B, (K == 4) = B := ⟨_, rfl⟩
  obtain ⟨B2, eB2⟩ : ∃ B, (K == 5) = B := ⟨_, rfl⟩
  obtain ⟨B0, eB0⟩ : ∃ B, (er == 0) = B := ⟨_, rfl⟩
  rw [eB0, eB1, eB2] at hI
  have hk0 : (0 : Int) ≤ k := by omega
  have hkn : (k : Int) < T.length := by omega
  have hxl := lt_of_cell x0
  have hgl := lt_of_cell c0
  have bA : ∀ O, Below w.heap.size w (w.alloc O).drew := fun O => ((Below.refl _ _).alloc (Nat.le_refl _) O).drew
  have y3 : ∀ O, (w.alloc O).drew.cell? ⟨x, 3, none⟩ = some (.int .i64 er) := fun O => ((bA O).cell (p := ⟨x, 3, none⟩) hxl).trans x3
  go_enter Tryz.func114, Tryz.ntmps114
  go_wp2
  go_region
  have HN := Has.new w #[.int .i64 K, .string S, .int .i64 P] 141
  have q0 : (w.alloc (.cells #[.int .i64 K, .string S, .int .i64 P] 141)).drew.cell? ⟨w.heap.size, 0, none⟩ = some (.int .i64 K) := HN.cell (j := 0) rfl
  have q1 : (w.alloc (.cells #[.int .i64 K, .string S, .int .i64 P] 141)).drew.cell? ⟨w.heap.size, 1, none⟩ = some (.string S) := HN.cell (j := 1) rfl
  have bZ := hid (bA (.cells #[.int .i64 K, .string S, .int .i64 P] 141))
  clear HN bA
  cases B0 <;> cases B1 <;> cases B2 <;> cases B3
  all_goals
    go_wp2
    go_ret
    exact ⟨ret_bool hI.out.symm, bZ.out⟩
set_option maxRecDepth 20000 in
set_option maxHeartbeats 4000000 in
theorem rfail_any (er0 : Int) (x : Nat) (ad : Option Addr) (cap : Nat) (T : List Tok) (k : Nat) (a er : Int) (w : World) (h : RrAt w x ad cap T k a er) :
    Calls Tryz.prog 150 #[.pointer (some ⟨x, 0, none⟩), .int .i64 er0] w fun e w' => e = .returned (.tuple #[]) ∧ (∃ a', RrAt w' x ad cap T k a' (if er = 0 then er0 else er)) ∧ Only [x] w w' := by
  obtain ⟨t, ht⟩ : ∃ t, T[k]? = some t := ⟨_, List.getElem?_eq_getElem h.lt⟩
  have hlt := h.lt
  have hle := h.toks.2.1
  have hmx := h.toks.2.2.1
  have hap := h.apart
  have H := hid h
  obtain ⟨g, o, rfl, x0, x1, x2, x3, c0, c1, c2⟩ := h.cells ht
  have z2 := h.has.free 2
  have z3 := h.has.free 3
  clear ht h
  obtain ⟨K, S, P⟩ := t
  have hk0 : (0 : Int) ≤ k := by omega
  have hkn : (k : Int) < T.length := by omega
  have hxg : x ≠ g := fun e => hap g o rfl e.symm
  have hgx : g ≠ x := fun e => hap g o rfl e
  obtain ⟨E, eE⟩ : ∃ E, E = (if er = 0 then er0 else er) := ⟨_, rfl⟩
  rw [← eE]
  by_cases he : er = 0
  · subst he
    rw [if_pos rfl] at eE
    subst eE
    have H2 := hid (H.out.note P E)
    have x3' : (w.setCell ⟨x, 2, none⟩ (.int .i64 P)).cell? ⟨x, 3, none⟩ = some (.int .i64 0) := (H.out.has.set 2 (.int .i64 P)).cell (j := 3) rfl
    have z3' := (H.out.has.set 2 (.int .i64 P)).free 3
    go_enter Tryz.func150, Tryz.ntmps150
    go_wp2
    go_region
    go_wp2
    go_end0
    refine ⟨rfl, ⟨P, H2.out.below ((Below.refl _ _).drew) (Nat.le_refl _)⟩, (((Only.refl [x] w).setIn (b := x) (o := 2) (by simp) (.int .i64 P)).setIn (b := x) (o := 3) (by simp) (.int .i64 E)).drew⟩
  · have heb : (er == 0) = false := by rw [beq_eq_false_iff_ne]; exact he
    rw [if_neg he] at eE
    subst eE
    have H2 := H
    clear he
    go_enter Tryz.func150, Tryz.ntmps150
    go_wp2
    go_end0
    exact ⟨rfl, ⟨a, H2.out⟩, Only.refl _ _⟩
set_option maxRecDepth 20000 in
set_option maxHeartbeats 4000000 in
theorem rskip_any (s : ByteArray) (x : Nat) (ad : Option Addr) (cap : Nat) (T : List Tok) (k : Nat) (a er : Int) (t : Tok) (w : World) (h : RrAt w x ad cap T k a er) (ht : T[k]? = some t) :
    Calls Tryz.prog 183 #[.pointer (some ⟨x, 0, none⟩), .string s] w fun e w' => e = .returned (.tuple #[]) ∧
      (((er == 0 && isB t s.data.toList) = true ∧ RrAt w' x ad cap T (k + 1) a er) ∨ ((er == 0 && isB t s.data.toList) = false ∧ ∃ a' e', RrAt w' x ad cap T k a' e' ∧ e' ≠ 0)) ∧ Only [x] w w' := by
  have hC := hid (ris_any s x ad cap T k a er t w h ht)
  have hn0 : (er == 0 && isB t s.data.toList) = true → k + 1 < T.length := fun e => h.stop k h.lt (fun e0 => by
    rw [List.getElem?_eq_getElem h.lt] at ht
    rw [Option.some.inj ht] at e0
    unfold isB at e
    rw [e0] at e
    simp at e)
  obtain ⟨R, eR⟩ : ∃ R, R = (er == 0 && isB t s.data.toList) := ⟨_, rfl⟩
  have hn := hn0
  rw [← eR] at hC hn ⊢
  clear eR hn0
  have hx : (k : Int) ≤ 1000000 := by have := h.lt; have := h.short; omega
  have hn := hid hn
  go_enter Tryz.func183, Tryz.ntmps183
  go_wp2_with fail
  refine hC.out.mono ?_
  rintro e w1 ⟨rfl, o1⟩
  have h1 := h.below o1 (Nat.le_refl _)
  have x1 : w1.cell? ⟨x, 1, none⟩ = some (.int .i64 k) := h1.has.cell (j := 1) rfl
  have z1 := h1.has.free 1
  have oo := Only.ofBelow (l := [x]) o1 (Nat.le_refl _)
  cases R
  · go_wp2_with fail
    refine (rfail_any 1 x ad cap T k a er _ h1).mono ?_
    rintro e w2 ⟨rfl, ⟨a', h2⟩, o2⟩
    go_wp2
    refine bodyPost_ret (results_none rfl _ _ _) rfl ?_
    exact ⟨rfl, ⟨a', _, h2, by split <;> omega⟩, oo.trans o2 (by simp)⟩
  · have h2 := hid (h1.next (hn.out rfl))
    clear h1
    go_wp2
    go_end0
    exact ⟨rfl, h2.out, oo.setIn (by simp) _⟩
end Go.Proofs.YtahbhhenobehfaaGreatDoor
