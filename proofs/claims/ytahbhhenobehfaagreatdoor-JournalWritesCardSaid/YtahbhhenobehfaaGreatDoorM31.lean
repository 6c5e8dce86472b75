/-
  The walks of the parser's reader that look at a token.
  What a parser finds in the tokens of ground terms. No program in sight.
-/
import Derived.Test.YtahbhhenobehfaaGreatDoorNU5
import Derived.Deep.RegionHeld3
import Derived.Test.YtahbhhenobehfaaGreatDoorM29
namespace Go.Proofs.YtahbhhenobehfaaGreatDoor
open Go.ChangeShapes Go.WideShapes Go.ChangeAt Go.RowKit

/-- The parser's reader in block x: its tokens lie at ad, it stands at place k. -/
structure RdAt (w : World) (x : Nat) (ad : Option Addr) (cap : Nat) (T : List Tok) (k : Nat) : Prop where
  has : Has w x #[.slice ad T.length cap, .int .i64 k] 169
  toks : ToksAt w ad T.length cap T
  lt : k < T.length
  apart : ∀ b o, ad = some ⟨b, o, none⟩ → b ≠ x
  stop : ∀ j (h : j < T.length), T[j].kind ≠ 0 → j + 1 < T.length
  fine : ∀ t ∈ T, t.text.size ≤ maxLen
  short : T.length ≤ 1000000
def Viol (e : Ending) : Prop := ∃ p er : Int, e = .panicked [{ v := .iface 166 (.agg #[.int .i64 p, .int .i64 er]), recovered := false }]
namespace RdAt
variable {w w' : World} {x : Nat} {ad : Option Addr} {cap : Nat} {T : List Tok} {k : Nat}
theorem below {B : Nat} (h : RdAt w x ad cap T k) (hb : Below B w w') (hB : w.heap.size ≤ B) : RdAt w' x ad cap T k :=
  ⟨h.has.below hb (Nat.lt_of_lt_of_le h.has.lt hB), h.toks.below hb hB, h.lt, h.apart, h.stop, h.fine, h.short⟩
theorem next (h : RdAt w x ad cap T k) (hk : k + 1 < T.length) : RdAt (w.setCell ⟨x, 1, none⟩ (.int .i64 ((k : Int) + 1))) x ad cap T (k + 1) :=
  ⟨by have := h.has.set 1 (.int .i64 ((k : Int) + 1)); simpa using this, h.toks.only ((Only.refl [x] w).setIn (by simp) _) (fun b o e => by simpa using h.apart b o e), hk, h.apart, h.stop, h.fine, h.short⟩
theorem cells (h : RdAt w x ad cap T k) : ∃ g o, ad = some ⟨g, o, none⟩ ∧ w.cell? ⟨x, 0, none⟩ = some (.slice (some ⟨g, o, none⟩) T.length cap) ∧ w.cell? ⟨x, 1, none⟩ = some (.int .i64 k) ∧
    w.cell? ⟨g, o + k * 3, none⟩ = some (.int .i64 (T[k]'h.lt).kind) ∧ w.cell? ⟨g, o + k * 3 + 1, none⟩ = some (.string (T[k]'h.lt).text) ∧ w.cell? ⟨g, o + k * 3 + 2, none⟩ = some (.int .i64 (T[k]'h.lt).pos) := by
  obtain ⟨g, o, rfl⟩ := h.toks.head (Nat.lt_of_le_of_lt (Nat.zero_le _) h.lt)
  obtain ⟨c0, c1, c2⟩ := h.toks.at k h.lt
  exact ⟨g, o, rfl, h.has.cell (j := 0) rfl, h.has.cell (j := 1) rfl, c0, c1, c2⟩
end RdAt
set_option maxRecDepth 20000 in
set_option maxHeartbeats 2000000 in
theorem token_any (x : Nat) (ad : Option Addr) (cap : Nat) (T : List Tok) (k : Nat) (t : Tok) (w : World) (h : RdAt w x ad cap T k) (ht : T[k]? = some t) :
    Calls Tryz.prog 144 #[.pointer (some ⟨x, 0, none⟩)] w fun e w' => e = .returned (.agg #[.int .i64 t.kind, .string t.text, .int .i64 t.pos]) ∧ Below w.heap.size w w' := by
  have hlt := h.lt
  have hle := h.toks.2.1
  have hmx := h.toks.2.2.1
  obtain ⟨g, o, rfl, x0, x1, c0, c1, c2⟩ := h.cells
  obtain rfl : T[k]'hlt = t := by rw [List.getElem?_eq_getElem hlt] at ht; exact Option.some.inj ht
  clear ht
  generalize T[k].kind = K at *
  generalize T[k].text = S at *
  generalize T[k].pos = P at *
  have hk0 : (0 : Int) ≤ k := by omega
  have hkn : (k : Int) < T.length := by omega
  have hxl := lt_of_cell x0
  have hgl := lt_of_cell c0
  clear h
  have bA : Below w.heap.size w (w.alloc (.cells #[.int .i64 0, .string ⟨#[]⟩, .int .i64 0] 141)) := (Below.refl _ _).alloc (Nat.le_refl _) _
  have HA := Has.new w #[.int .i64 0, .string ⟨#[]⟩, .int .i64 0] 141
  have m0 : (w.alloc (.cells #[.int .i64 0, .string ⟨#[]⟩, .int .i64 0] 141)).cell? ⟨x, 0, none⟩ = some (.slice (some ⟨g, o, none⟩) T.length cap) := (bA.cell (p := ⟨x, 0, none⟩) hxl).trans x0
  have m1 : (w.alloc (.cells #[.int .i64 0, .string ⟨#[]⟩, .int .i64 0] 141)).cell? ⟨x, 1, none⟩ = some (.int .i64 k) := (bA.cell (p := ⟨x, 1, none⟩) hxl).trans x1
  have d0 : (w.alloc (.cells #[.int .i64 0, .string ⟨#[]⟩, .int .i64 0] 141)).cell? ⟨g, o + k * 3, none⟩ = some (.int .i64 K) := (bA.cell (p := ⟨g, o + k * 3, none⟩) hgl).trans c0
  have d1 : (w.alloc (.cells #[.int .i64 0, .string ⟨#[]⟩, .int .i64 0] 141)).cell? ⟨g, o + k * 3 + 1, none⟩ = some (.string S) := (bA.cell (p := ⟨g, o + k * 3 + 1, none⟩) hgl).trans c1
  have d2 : (w.alloc (.cells #[.int .i64 0, .string ⟨#[]⟩, .int .i64 0] 141)).cell? ⟨g, o + k * 3 + 2, none⟩ = some (.int .i64 P) := (bA.cell (p := ⟨g, o + k * 3 + 2, none⟩) hgl).trans c2
  have n0 : (w.alloc (.cells #[.int .i64 0, .string ⟨#[]⟩, .int .i64 0] 141)).cell? ⟨w.heap.size, 0, none⟩ = some (.int .i64 0) := HA.cell (j := 0) rfl
  have n1 : (w.alloc (.cells #[.int .i64 0, .string ⟨#[]⟩, .int .i64 0] 141)).cell? ⟨w.heap.size, 1, none⟩ = some (.string ⟨#[]⟩) := HA.cell (j := 1) rfl
  have n2 : (w.alloc (.cells #[.int .i64 0, .string ⟨#[]⟩, .int .i64 0] 141)).cell? ⟨w.heap.size, 2, none⟩ = some (.int .i64 0) := HA.cell (j := 2) rfl
  have fz := HA.free
  have fz0 := fz 0
  have fz1 := fz 1
  have fz2 := fz 2
  clear x0 x1 c0 c1 c2 bA HA fz
  go_enter Tryz.func144, Tryz.ntmps144
  go_wp2
  go_region
  go_wp2
  have HN := Has.new w #[.int .i64 K, .string S, .int .i64 P] 141
  have q0 := HN.cell (j := 0) rfl
  have q1 := HN.cell (j := 1) rfl
  have q2 := HN.cell (j := 2) rfl
  refine bodyPost_ret (v := .agg #[.int .i64 K, .string S, .int .i64 P]) (by simp [results, Tryz.results144, go_sem, q0, q1, q2]) rfl ⟨rfl, ?_⟩
  exact ((Below.refl _ _).alloc (Nat.le_refl _) _).drew
def isB (t : Tok) (s : List UInt8) : Bool := (t.kind == 4 || t.kind == 5) && t.text.data.toList == s
def beginsB (t : Tok) : Bool := t.kind == 1 || t.kind == 2 || t.kind == 3
theorem tok_field0 (K P : Int) (S : ByteArray) (w : World) : (Instr.field 141 (.agg #[.int .i64 K, .string S, .int .i64 P]) 0).run Tryz.prog w = .ok (.int .i64 K) w := by kernel_rfl
theorem tok_field1 (K P : Int) (S : ByteArray) (w : World) : (Instr.field 141 (.agg #[.int .i64 K, .string S, .int .i64 P]) 1).run Tryz.prog w = .ok (.string S) w := by kernel_rfl
theorem tok_field2 (K P : Int) (S : ByteArray) (w : World) : (Instr.field 141 (.agg #[.int .i64 K, .string S, .int .i64 P]) 2).run Tryz.prog w = .ok (.int .i64 P) w := by kernel_rfl
set_option maxRecDepth 20000 in
theorem fail_any (er : Int) (x : Nat) (ad : Option Addr) (cap : Nat) (T : List Tok) (k : Nat) (w : World) (h : RdAt w x ad cap T k) :
    Calls Tryz.prog 145 #[.pointer (some ⟨x, 0, none⟩), .int .i64 er] w fun e w' => Viol e ∧ Below w.heap.size w w' := by
  obtain ⟨t, ht⟩ : ∃ t, T[k]? = some t := ⟨_, List.getElem?_eq_getElem h.lt⟩
  have hC := hid (token_any x ad cap T k t w h ht)
  obtain ⟨K, S, P⟩ := t
  have fd0 := tok_field0 K P S
  have fd2 := tok_field2 K P S
  go_enter Tryz.func145, Tryz.ntmps145
  go_wp2_with fail
  refine hC.out.mono ?_
  rintro e w1 ⟨rfl, o1⟩
  go_wp2
  exact ⟨rfl, ⟨_, _, rfl⟩, o1⟩
set_option maxRecDepth 20000 in
set_option maxHeartbeats 2000000 in
theorem is_any (s : ByteArray) (x : Nat) (ad : Option Addr) (cap : Nat) (T : List Tok) (k : Nat) (t : Tok) (w : World) (h : RdAt w x ad cap T k) (ht : T[k]? = some t) :
    Calls Tryz.prog 178 #[.pointer (some ⟨x, 0, none⟩), .string s] w fun e w' => e = .returned (.bool (isB t s.data.toList)) ∧ Below w.heap.size w w' := by
  have hC := hid (token_any x ad cap T k t w h ht)
  obtain ⟨K, S, P⟩ := t
  have fd0 := tok_field0 K P S
  have fd2 := tok_field2 K P S
  have hI := hid (show isB ⟨K, S, P⟩ s.data.toList = ((K == 4 || K == 5) && S.data.toList == s.data.toList) from rfl)
  obtain ⟨B3, eB3⟩ : ∃ B, (S.data.toList == s.data.toList) = B := ⟨_, rfl⟩
  have f3 : (S.toList == s.toList) = B3 := by rw [str_ne]; exact eB3
  rw [eB3] at hI
  clear eB3
  obtain ⟨B1, eB1⟩ : ∃ B, (K == 4) = B := ⟨_, rfl⟩
  obtain ⟨B2, eB2⟩ : ∃ B, (K == 5) = B := ⟨_, rfl⟩
  rw [eB1, eB2] at hI
  go_enter Tryz.func178, Tryz.ntmps178
  go_wp2_with fail
  refine hC.out.mono ?_
  rintro e w1 ⟨rfl, o1⟩
  have HN := Has.new w1 #[.int .i64 K, .string S, .int .i64 P] 141
  have q0 : (w1.alloc (.cells #[.int .i64 K, .string S, .int .i64 P] 141)).cell? ⟨w1.heap.size, 0, none⟩ = some (.int .i64 K) := HN.cell (j := 0) rfl
  have q1 : (w1.alloc (.cells #[.int .i64 K, .string S, .int .i64 P] 141)).cell? ⟨w1.heap.size, 1, none⟩ = some (.string S) := HN.cell (j := 1) rfl
  have b1 := o1.alloc o1.size (.cells #[.int .i64 K, .string S, .int .i64 P] 141)
  clear HN
  cases B1 <;> cases B2 <;> cases B3
  all_goals
    go_wp2
    go_ret
    exact ⟨ret_bool hI.out.symm, b1⟩
set_option maxRecDepth 20000 in
set_option maxHeartbeats 2000000 in
theorem begins_tok (x : Nat) (ad : Option Addr) (cap : Nat) (T : List Tok) (k : Nat) (t : Tok) (w : World) (h : RdAt w x ad cap T k) (ht : T[k]? = some t) :
    Calls Tryz.prog 191 #[.pointer (some ⟨x, 0, none⟩)] w fun e w' => e = .returned (.bool (beginsB t)) ∧ Below w.heap.size w w' := by
  have hC := hid (token_any x ad cap T k t w h ht)
  obtain ⟨K, S, P⟩ := t
  have fd0 := tok_field0 K P S
  have fd2 := tok_field2 K P S
  have hI := hid (show beginsB ⟨K, S, P⟩ = (K == 1 || K == 2 || K == 3) from rfl)
  obtain ⟨B1, eB1⟩ : ∃ B, (K == 1) = B := ⟨_, rfl⟩
  obtain ⟨B2, eB2⟩ : ∃ B, (K == 2) = B := ⟨_, rfl⟩
  obtain ⟨B3, eB3⟩ : ∃ B, (K == 3) = B := ⟨_, rfl⟩
  rw [eB1, eB2, eB3] at hI
  go_enter Tryz.func191, Tryz.ntmps191
  go_wp2_with fail
  refine hC.out.mono ?_
  rintro e w1 ⟨rfl, o1⟩
  cases B1 <;> cases B2 <;> cases B3
  all_goals
    go_wp2
    go_ret
    exact ⟨ret_bool hI.out.symm, o1⟩
set_option maxRecDepth 20000 in
set_option maxHeartbeats 2000000 in
theorem accept_any (s : ByteArray) (x : Nat) (ad : Option Addr) (cap : Nat) (T : List Tok) (k : Nat) (t : Tok) (w : World) (h : RdAt w x ad cap T k) (ht : T[k]? = some t) :
    Calls Tryz.prog 147 #[.pointer (some ⟨x, 0, none⟩), .string s] w fun e w' => e = .returned (.bool (isB t s.data.toList)) ∧ RdAt w' x ad cap T (if isB t s.data.toList then k + 1 else k) ∧ Only [x] w w' := by
  have hC := hid (is_any s x ad cap T k t w h ht)
  have hn0 := hid (show isB t s.data.toList = true → k + 1 < T.length from fun e => h.stop k h.lt (fun e0 => by
    rw [List.getElem?_eq_getElem h.lt] at ht
    rw [Option.some.inj ht] at e0
    unfold isB at e
    rw [e0] at e
    simp at e))
  obtain ⟨R, eR⟩ : ∃ R, R = isB t s.data.toList := ⟨_, rfl⟩
  have hn := hn0
  rw [← eR] at hC hn ⊢
  clear eR hn0
  have hx : (k : Int) ≤ 1000000 := by have := h.lt; have := h.short; omega
  go_enter Tryz.func147, Tryz.ntmps147
  go_wp2_with fail
  refine hC.out.mono ?_
  rintro e w1 ⟨rfl, o1⟩
  have h1 := h.below o1 (Nat.le_refl _)
  have x0 : w1.cell? ⟨x, 0, none⟩ = some (.slice ad T.length cap) := h1.has.cell (j := 0) rfl
  have x1 : w1.cell? ⟨x, 1, none⟩ = some (.int .i64 k) := h1.has.cell (j := 1) rfl
  have z1 := h1.has.free 1
  have H1 := hid h1
  have oo := Only.ofBelow (l := [x]) o1 (Nat.le_refl _)
  clear h1
  cases R
  · go_wp2
    go_ret
    exact ⟨rfl, H1.out, oo⟩
  · have h2 := hid (H1.out.next (hn.out rfl))
    go_wp2
    go_ret
    exact ⟨rfl, h2.out, oo.setIn (by simp) _⟩
set_option maxRecDepth 20000 in
set_option maxHeartbeats 2000000 in
theorem expect_any (s : ByteArray) (x : Nat) (ad : Option Addr) (cap : Nat) (T : List Tok) (k : Nat) (t : Tok) (w : World) (h : RdAt w x ad cap T k) (ht : T[k]? = some t) :
    Calls Tryz.prog 192 #[.pointer (some ⟨x, 0, none⟩), .string s] w fun e w' => ((isB t s.data.toList = true ∧ e = .returned (.tuple #[]) ∧ RdAt w' x ad cap T (k + 1)) ∨ (isB t s.data.toList = false ∧ Viol e)) ∧ Only [x] w w' := by
  have hC := hid (accept_any s x ad cap T k t w h ht)
  obtain ⟨R, eR⟩ : ∃ R, R = isB t s.data.toList := ⟨_, rfl⟩
  rw [← eR] at hC ⊢
  clear eR
  go_enter Tryz.func192, Tryz.ntmps192
  go_wp2_with fail
  refine hC.out.mono ?_
  rintro e w1 ⟨rfl, h1, o1⟩
  cases R
  · go_wp2_with fail
    refine (fail_any 1 x ad cap T k _ h1).mono ?_
    rintro e w2 ⟨⟨p, er, rfl⟩, o2⟩
    go_wp2
    exact ⟨rfl, ⟨_, _, rfl⟩, o1.below o2 o1.size⟩
  · go_wp2
    go_end0
    exact ⟨⟨rfl, h1⟩, o1⟩
end Go.Proofs.YtahbhhenobehfaaGreatDoor
namespace Go.Proofs.YtahbhhenobehfaaGreatDoor
open Go.RowKit

def isK (c : KT) (s : List UInt8) : Bool := (c.1 == 4 || c.1 == 5) && c.2 == s
def noP (r : List KT) : Prop := ∀ c q, r = c :: q → isK c [40] = false
/-- The suffix s begins with the tokens of the ground term u, of depth at most d; r is left. -/
structure Can (d : Nat) (u : Tm) (s r : List KT) : Prop where
  ground : groundB d u = true
  toks : s = toksT u ++ r
  nop : noP r
def sfx (T : List Tok) (k : Nat) : List KT := (T.drop k).map kt
theorem sfx_cons {T : List Tok} {k : Nat} {t : Tok} (h : T[k]? = some t) : sfx T k = kt t :: sfx T (k + 1) := by
  obtain ⟨hk, e⟩ := List.getElem?_eq_some_iff.1 h
  unfold sfx
  rw [List.drop_eq_getElem_cons hk, List.map_cons, e]
theorem ba_ext {a b : ByteArray} (h : a.data.toList = b.data.toList) : a = b := by
  apply ByteArray.ext; apply Array.toList_inj.1; exact h
theorem Can.zero {u : Tm} {s r : List KT} (h : Can 0 u s r) : False := by
  have := h.ground
  rw [groundB_zero] at this; cases this
/-- What the first token of a ground term says of it. -/
theorem Can.cases {d : Nat} {u : Tm} {c : KT} {q r : List KT} (h : Can (d + 1) u (c :: q) r) :
    (∃ s : ByteArray, u = .mk s [] ∧ (c.1 = 1 ∨ c.1 = 2) ∧ c.2 = s.data.toList ∧ q = r ∧ noP q) ∨
    (∃ (s : ByteArray) (l : List Tm), u = .mk s l ∧ 0 < l.length ∧ l.length ≤ 4 ∧ c.1 = 1 ∧ c.2 = s.data.toList ∧ (∀ a ∈ l, groundB d a = true) ∧ q = (4, [40]) :: (toksA l ++ (4, [41]) :: r)) := by
  obtain ⟨h1, h2, h3⟩ := h
  match u, h1, h2 with
  | .mk s l, h1, h2 =>
    by_cases h0 : 0 < l.length
    · rw [groundB_node d s l h0] at h1
      simp only [Bool.and_eq_true, decide_eq_true_eq, List.all_eq_true] at h1
      rw [toksT_node s l h0] at h2
      simp only [List.cons_append, List.append_assoc, List.cons.injEq, List.nil_append] at h2
      obtain ⟨rfl, rfl⟩ := h2
      exact Or.inr ⟨s, l, rfl, h0, h1.1, rfl, rfl, h1.2.1, rfl⟩
    · obtain rfl : l = [] := List.eq_nil_of_length_eq_zero (by omega)
      rw [groundB_leaf] at h1
      rw [toksT_leaf] at h2
      simp only [List.cons_append, List.nil_append, List.cons.injEq] at h2
      obtain ⟨rfl, rfl⟩ := h2
      refine Or.inl ⟨s, rfl, ?_, rfl, rfl, h3⟩
      rw [Bool.or_eq_true] at h1
      rcases h1 with h1 | h1
      · exact Or.inl (kind_name h1)
      · exact Or.inr (kind_num h1)
/-- Behind i arguments: what is left of a term's tokens. -/
def ArgsInv (d : Nat) (n : ByteArray) (s0 : List KT) (ts : List Tm) (s : List KT) : Prop :=
  ∀ u r, Can (d + 1) u s0 r → ∃ l : List Tm, u = .mk n l ∧ l.length ≤ 4 ∧ (∀ a ∈ l, groundB d a = true) ∧ ts = l.take ts.length ∧ ts.length < l.length ∧ s = toksA (l.drop ts.length) ++ (4, [41]) :: r
theorem ArgsInv.start {d : Nat} {n : ByteArray} {c b : KT} {q : List KT} (hc : c.2 = n.data.toList) (hb : isK b [40] = true) : ArgsInv d n (c :: b :: q) [] q := fun u r h => by
  rcases h.cases with ⟨s, rfl, _, h2, h3, h4⟩ | ⟨s, l, rfl, h0, h4, _, h2, h3, h5⟩
  · rw [h4 b q rfl] at hb; cases hb
  · have e : s = n := ba_ext (h2.symm.trans hc)
    subst e
    simp only [List.cons.injEq] at h5
    exact ⟨l, rfl, h4, h3, rfl, h0, h5.2⟩
theorem toksA_drop {l : List Tm} {i : Nat} (hi : i < l.length) : toksA (l.drop i) = toksT l[i] ++ (if i + 1 < l.length then (4, [44]) :: toksA (l.drop (i + 1)) else []) := by
  rw [List.drop_eq_getElem_cons hi]
  by_cases h : i + 1 < l.length
  · rw [List.drop_eq_getElem_cons h, toksA_more, if_pos h]
  · rw [if_neg h, List.drop_of_length_le (by omega), toksA_one, List.append_nil]
/-- The next argument. -/
theorem ArgsInv.arg {d : Nat} {n : ByteArray} {s0 s : List KT} {ts : List Tm} (h : ArgsInv d n s0 ts s) {u : Tm} {r : List KT} (hu : Can (d + 1) u s0 r) :
    ∃ (l : List Tm) (hi : ts.length < l.length), u = .mk n l ∧ l.length ≤ 4 ∧ ts = l.take ts.length ∧ (∀ a ∈ l, groundB d a = true) ∧
      Can d l[ts.length] s ((if ts.length + 1 < l.length then (4, [44]) :: toksA (l.drop (ts.length + 1)) else []) ++ (4, [41]) :: r) := by
  obtain ⟨l, h1, h2, h3, h4, h5, h6⟩ := h u r hu
  refine ⟨l, h5, h1, h2, h4, h3, h3 _ (List.getElem_mem _), ?_, ?_⟩
  · rw [h6, toksA_drop h5, List.append_assoc]
  · intro c q e
    split at e
    · cases e; rfl
    · cases e; rfl
theorem ArgsInv.full {d : Nat} {n : ByteArray} {s0 s : List KT} {ts : List Tm} (h : ArgsInv d n s0 ts s) (h4 : ts.length = 4) {u : Tm} {r : List KT} (hu : Can (d + 1) u s0 r) : False := by
  obtain ⟨l, _, h2, _, _, h5, _⟩ := h u r hu
  omega
theorem ArgsInv.none {d : Nat} {n : ByteArray} {s0 s : List KT} {ts : List Tm} (h : ArgsInv d n s0 ts s) (hno : ∀ a q, ¬ Can d a s q) {u : Tm} {r : List KT} (hu : Can (d + 1) u s0 r) : False := by
  obtain ⟨l, hi, _, _, _, _, h6⟩ := h.arg hu
  exact hno _ _ h6
theorem take_snoc_len {α : Type} {l ts : List α} (hi : ts.length < l.length) (h : ts = l.take ts.length) : ts ++ [l[ts.length]] = l.take (ts.length + 1) := by
  rw [List.take_succ_eq_append_getElem hi, ← h]
/-- Behind a comma. -/
theorem ArgsInv.more {d : Nat} {n : ByteArray} {s0 s q : List KT} {ts : List Tm} {t : Tm} {c : KT} (h : ArgsInv d n s0 ts s) (ht : ∀ a p, Can d a s p → t = a ∧ c :: q = p) (hc : isK c [44] = true) : ArgsInv d n s0 (ts ++ [t]) q := fun u r hu => by
  obtain ⟨l, hi, h1, h2, h4, h3, h6⟩ := h.arg hu
  obtain ⟨rfl, e⟩ := ht _ _ h6
  by_cases hl : ts.length + 1 < l.length
  · rw [if_pos hl] at e
    simp only [List.cons_append, List.cons.injEq] at e
    exact ⟨l, h1, h2, h3, (take_snoc_len hi h4).trans (by simp), by simpa using hl, by simpa using e.2⟩
  · rw [if_neg hl] at e
    simp only [List.nil_append, List.cons.injEq] at e
    rw [e.1] at hc; cases hc
/-- Behind the last argument. -/
theorem ArgsInv.last {d : Nat} {n : ByteArray} {s0 s q : List KT} {ts : List Tm} {t : Tm} {c : KT} (h : ArgsInv d n s0 ts s) (ht : ∀ a p, Can d a s p → t = a ∧ c :: q = p) (hc : isK c [44] = false) {u : Tm} {r : List KT} (hu : Can (d + 1) u s0 r) :
    u = .mk n (ts ++ [t]) ∧ isK c [41] = true ∧ q = r := by
  obtain ⟨l, hi, h1, h2, h4, h3, h6⟩ := h.arg hu
  obtain ⟨rfl, e⟩ := ht _ _ h6
  by_cases hl : ts.length + 1 < l.length
  · rw [if_pos hl] at e
    simp only [List.cons_append, List.cons.injEq] at e
    rw [e.1] at hc; cases hc
  · rw [if_neg hl] at e
    simp only [List.nil_append, List.cons.injEq] at e
    refine ⟨?_, by rw [e.1]; rfl, e.2⟩
    rw [h1, take_snoc_len hi h4, List.take_of_length_le (by omega)]
end Go.Proofs.YtahbhhenobehfaaGreatDoor
