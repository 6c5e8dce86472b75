/-
  No cell of these rows narrows 'for every input' (looked for: loops, veiled, ifaces, maps, wideKeys, modest, calm, conditions, laid).
  DERIVED. THE GIVEN ROWS OF THIS SEAT. 7 by the template 'for every input the law returns true; each argument reads behind the call as it read before'; 0 by the template 'total and deterministic' (their statements: YtkdfplnoldckgaaTotals.lean).
  GIVEN WITH THE SEED: the statements are not yours to turn. If you find one false, say at which input.
  Laid BY PROGRAM, IN A SANDBOX (cutbox-rows.mjs): the forced cells as the released guide's own fill.sh prints them over the translation 5be136afba68d492… (all of the seat's roots in one cut). By AI agents, Wed Nov 11 2026. No macro, syntax, notation, axiom, sorry.
-/
import Derived.Test.YtkdfplnoldckgaaChecked
import GoSem.Claim
import GoSem.ClaimJoined
import GoSem.ClaimMapViews
import Derived.JoinedTies
import Derived.KernelRfl
namespace Go.Proofs.Ytkdfplnoldckgaa
/- THE CELL 'sum', in the pinned program and in every row, IS THE sha256 OF THE DUMP (.gsa) THAT YtkdfplnoldckgaaProg.lean LOADS. Nothing in Lean hashes anything: it is a label: what it is worth is what the hold of that sum in a sandbox is worth. -/
noncomputable def Try.pinned : Pinned := { name := "ytkdfplnoldckgaa", sum := "5be136afba68d49288684e0c0a628a192d394e3b0dc8435345119916f10b8dd2", checked := Try.checked }
namespace Rows
def none {H : Type} : Left H := { results := [], args := [] }

/-- 'gameplayerlaw49.ScheduleRobins': WHATEVER THE INPUT: true; the input reads as it did. -/
def scheduleRobinsSpec : ChangeSpec := { name := "scheduleRobins", fn := fun _ => fun
  | [d1, d2] => { results := [.lit (.bool true)], args := [d1, d2] }
  | _ => none }
def scheduleRobinsRow : OpenClaim := { program := "ytkdfplnoldckgaa", sum := "5be136afba68d49288684e0c0a628a192d394e3b0dc8435345119916f10b8dd2", func := "gameplayer/gameplayerlaw49.ScheduleRobins", spec := "scheduleRobins", unfollowed := true, recurses := true, apart := false }
def ScheduleRobinsSaid : Prop := scheduleRobinsRow.holds Try.pinned (OpenSpec.ofChange scheduleRobinsSpec)

/-- ITS FALSE NEIGHBOUR: 'it returns false'. Refute it at one input. -/
def scheduleRobinsWrong : ChangeSpec := { name := "scheduleRobins", fn := fun _ => fun
  | [d1, d2] => { results := [.lit (.bool false)], args := [d1, d2] }
  | _ => none }
def ScheduleRobinsWrongFalsely : Prop := scheduleRobinsRow.holds Try.pinned (OpenSpec.ofChange scheduleRobinsWrong)

/-- 'gameplayerlaw49.ScheduleSwisses': WHATEVER THE INPUT: true; the input reads as it did. -/
def scheduleSwissesSpec : ChangeSpec := { name := "scheduleSwisses", fn := fun _ => fun
  | [d1, d2, d3] => { results := [.lit (.bool true)], args := [d1, d2, d3] }
  | _ => none }
def scheduleSwissesRow : OpenClaim := { program := "ytkdfplnoldckgaa", sum := "5be136afba68d49288684e0c0a628a192d394e3b0dc8435345119916f10b8dd2", func := "gameplayer/gameplayerlaw49.ScheduleSwisses", spec := "scheduleSwisses", unfollowed := true, recurses := true, apart := false }
def ScheduleSwissesSaid : Prop := scheduleSwissesRow.holds Try.pinned (OpenSpec.ofChange scheduleSwissesSpec)

/-- ITS FALSE NEIGHBOUR: 'it returns false'. Refute it at one input. -/
def scheduleSwissesWrong : ChangeSpec := { name := "scheduleSwisses", fn := fun _ => fun
  | [d1, d2, d3] => { results := [.lit (.bool false)], args := [d1, d2, d3] }
  | _ => none }
def ScheduleSwissesWrongFalsely : Prop := scheduleSwissesRow.holds Try.pinned (OpenSpec.ofChange scheduleSwissesWrong)

/-- 'gameplayerlaw49.ScheduleNew': WHATEVER THE INPUT: true; the input reads as it did. -/
def scheduleNewSpec : ChangeSpec := { name := "scheduleNew", fn := fun _ => fun
  | [d1, d2] => { results := [.lit (.bool true)], args := [d1, d2] }
  | _ => none }
def scheduleNewRow : OpenClaim := { program := "ytkdfplnoldckgaa", sum := "5be136afba68d49288684e0c0a628a192d394e3b0dc8435345119916f10b8dd2", func := "gameplayer/gameplayerlaw49.ScheduleNew", spec := "scheduleNew", unfollowed := true, recurses := true, apart := false }
def ScheduleNewSaid : Prop := scheduleNewRow.holds Try.pinned (OpenSpec.ofChange scheduleNewSpec)

/-- ITS FALSE NEIGHBOUR: 'it returns false'. Refute it at one input. -/
def scheduleNewWrong : ChangeSpec := { name := "scheduleNew", fn := fun _ => fun
  | [d1, d2] => { results := [.lit (.bool false)], args := [d1, d2] }
  | _ => none }
def ScheduleNewWrongFalsely : Prop := scheduleNewRow.holds Try.pinned (OpenSpec.ofChange scheduleNewWrong)

/-- 'gameplayerlaw49.ScheduleDoubles': WHATEVER THE INPUT: true; the input reads as it did. -/
def scheduleDoublesSpec : ChangeSpec := { name := "scheduleDoubles", fn := fun _ => fun
  | [d] => { results := [.lit (.bool true)], args := [d] }
  | _ => none }
def scheduleDoublesRow : OpenClaim := { program := "ytkdfplnoldckgaa", sum := "5be136afba68d49288684e0c0a628a192d394e3b0dc8435345119916f10b8dd2", func := "gameplayer/gameplayerlaw49.ScheduleDoubles", spec := "scheduleDoubles", unfollowed := true, recurses := true, apart := false }
def ScheduleDoublesSaid : Prop := scheduleDoublesRow.holds Try.pinned (OpenSpec.ofChange scheduleDoublesSpec)

/-- ITS FALSE NEIGHBOUR: 'it returns false'. Refute it at one input. -/
def scheduleDoublesWrong : ChangeSpec := { name := "scheduleDoubles", fn := fun _ => fun
  | [d] => { results := [.lit (.bool false)], args := [d] }
  | _ => none }
def ScheduleDoublesWrongFalsely : Prop := scheduleDoublesRow.holds Try.pinned (OpenSpec.ofChange scheduleDoublesWrong)

/-- 'gameplayerlaw49.ScheduleOnce': WHATEVER THE INPUT: true; the input reads as it did. -/
def scheduleOnceSpec : ChangeSpec := { name := "scheduleOnce", fn := fun _ => fun
  | [d1, d2] => { results := [.lit (.bool true)], args := [d1, d2] }
  | _ => none }
def scheduleOnceRow : OpenClaim := { program := "ytkdfplnoldckgaa", sum := "5be136afba68d49288684e0c0a628a192d394e3b0dc8435345119916f10b8dd2", func := "gameplayer/gameplayerlaw49.ScheduleOnce", spec := "scheduleOnce", unfollowed := true, recurses := true, apart := false }
def ScheduleOnceSaid : Prop := scheduleOnceRow.holds Try.pinned (OpenSpec.ofChange scheduleOnceSpec)

/-- ITS FALSE NEIGHBOUR: 'it returns false'. Refute it at one input. -/
def scheduleOnceWrong : ChangeSpec := { name := "scheduleOnce", fn := fun _ => fun
  | [d1, d2] => { results := [.lit (.bool false)], args := [d1, d2] }
  | _ => none }
def ScheduleOnceWrongFalsely : Prop := scheduleOnceRow.holds Try.pinned (OpenSpec.ofChange scheduleOnceWrong)

/-- 'gameplayerlaw49.ScheduleChecks': WHATEVER THE INPUT: true; the input reads as it did. -/
def scheduleChecksSpec : ChangeSpec := { name := "scheduleChecks", fn := fun _ => fun
  | [d1, d2, d3] => { results := [.lit (.bool true)], args := [d1, d2, d3] }
  | _ => none }
def scheduleChecksRow : OpenClaim := { program := "ytkdfplnoldckgaa", sum := "5be136afba68d49288684e0c0a628a192d394e3b0dc8435345119916f10b8dd2", func := "gameplayer/gameplayerlaw49.ScheduleChecks", spec := "scheduleChecks", unfollowed := true, recurses := true, apart := false }
def ScheduleChecksSaid : Prop := scheduleChecksRow.holds Try.pinned (OpenSpec.ofChange scheduleChecksSpec)

/-- ITS FALSE NEIGHBOUR: 'it returns false'. Refute it at one input. -/
def scheduleChecksWrong : ChangeSpec := { name := "scheduleChecks", fn := fun _ => fun
  | [d1, d2, d3] => { results := [.lit (.bool false)], args := [d1, d2, d3] }
  | _ => none }
def ScheduleChecksWrongFalsely : Prop := scheduleChecksRow.holds Try.pinned (OpenSpec.ofChange scheduleChecksWrong)

/-- 'gameplayerlaw49.ScheduleSeats': WHATEVER THE INPUT: true; the input reads as it did. -/
def scheduleSeatsSpec : ChangeSpec := { name := "scheduleSeats", fn := fun _ => fun
  | [d] => { results := [.lit (.bool true)], args := [d] }
  | _ => none }
def scheduleSeatsRow : OpenClaim := { program := "ytkdfplnoldckgaa", sum := "5be136afba68d49288684e0c0a628a192d394e3b0dc8435345119916f10b8dd2", func := "gameplayer/gameplayerlaw49.ScheduleSeats", spec := "scheduleSeats", unfollowed := true, recurses := true, apart := false }
def ScheduleSeatsSaid : Prop := scheduleSeatsRow.holds Try.pinned (OpenSpec.ofChange scheduleSeatsSpec)

/-- ITS FALSE NEIGHBOUR: 'it returns false'. Refute it at one input. -/
def scheduleSeatsWrong : ChangeSpec := { name := "scheduleSeats", fn := fun _ => fun
  | [d] => { results := [.lit (.bool false)], args := [d] }
  | _ => none }
def ScheduleSeatsWrongFalsely : Prop := scheduleSeatsRow.holds Try.pinned (OpenSpec.ofChange scheduleSeatsWrong)

/- THE SECOND FORM. 'bulk': how many values and letters a reading holds, each counted each time it is reached (what is shared counts as often as it is met; a slice's spare places count too). A statement '..UptoSaid' is the law's where the arguments, and the package variables that the reading takes, are together of bulk at most 1048576: NARROWER than '..Said'. Prove '..Said' where nothing that the law and all that it calls make is longer than what came in: it says more and counts as full. Else prove '..UptoSaid'. A law counts once. -/
mutual
def uptoBulk {H : Type} : DataW H → Nat
  | .lit (.string bytes) => bytes.length + 1
  | .lit _ => 1
  | .nil => 1
  | .ptr d => uptoBulk d + 1
  | .slice elems spare => uptoBulkAll elems + uptoBulkAll spare + 1
  | .agg parts => uptoBulkAll parts + 1
  | .iface _ d => uptoBulk d + 1
  | .map entries => uptoBulkEntries entries + 1
  | .held _ => 1
def uptoBulkAll {H : Type} : List (DataW H) → Nat
  | [] => 0
  | d :: r => uptoBulk d + uptoBulkAll r
def uptoBulkEntries {H : Type} : List (Lit × DataW H) → Nat
  | [] => 0
  | x :: r => uptoBulkEntry x + uptoBulkEntries r
def uptoBulkEntry {H : Type} : Lit × DataW H → Nat
  | (.string bytes, d) => bytes.length + uptoBulk d + 1
  | (_, d) => uptoBulk d + 1
 end
def uptoSmall : (H : Type) → List (DataW H) → Bool := fun _ ds => decide (uptoBulkAll ds ≤ 1048576)
def OpenSpec.upto (s : _root_.Go.ChangeSpec) : _root_.Go.OpenSpec := { _root_.Go.OpenSpec.ofChange s with cond := some uptoSmall }

/-- 'gameplayerlaw49.ScheduleRobins', WHERE WHAT IT READS IS OF BULK AT MOST 1048576: true; the input reads as it did. -/
def scheduleRobinsUptoRow : OpenClaim := { program := "ytkdfplnoldckgaa", sum := "5be136afba68d49288684e0c0a628a192d394e3b0dc8435345119916f10b8dd2", func := "gameplayer/gameplayerlaw49.ScheduleRobins", spec := "scheduleRobins", unfollowed := true, recurses := true, apart := false, narrowed := true }
def ScheduleRobinsUptoSaid : Prop := scheduleRobinsUptoRow.holds Try.pinned (OpenSpec.upto scheduleRobinsSpec)

/-- 'gameplayerlaw49.ScheduleSwisses', WHERE WHAT IT READS IS OF BULK AT MOST 1048576: true; the input reads as it did. -/
def scheduleSwissesUptoRow : OpenClaim := { program := "ytkdfplnoldckgaa", sum := "5be136afba68d49288684e0c0a628a192d394e3b0dc8435345119916f10b8dd2", func := "gameplayer/gameplayerlaw49.ScheduleSwisses", spec := "scheduleSwisses", unfollowed := true, recurses := true, apart := false, narrowed := true }
def ScheduleSwissesUptoSaid : Prop := scheduleSwissesUptoRow.holds Try.pinned (OpenSpec.upto scheduleSwissesSpec)

/-- 'gameplayerlaw49.ScheduleNew', WHERE WHAT IT READS IS OF BULK AT MOST 1048576: true; the input reads as it did. -/
def scheduleNewUptoRow : OpenClaim := { program := "ytkdfplnoldckgaa", sum := "5be136afba68d49288684e0c0a628a192d394e3b0dc8435345119916f10b8dd2", func := "gameplayer/gameplayerlaw49.ScheduleNew", spec := "scheduleNew", unfollowed := true, recurses := true, apart := false, narrowed := true }
def ScheduleNewUptoSaid : Prop := scheduleNewUptoRow.holds Try.pinned (OpenSpec.upto scheduleNewSpec)

/-- 'gameplayerlaw49.ScheduleDoubles', WHERE WHAT IT READS IS OF BULK AT MOST 1048576: true; the input reads as it did. -/
def scheduleDoublesUptoRow : OpenClaim := { program := "ytkdfplnoldckgaa", sum := "5be136afba68d49288684e0c0a628a192d394e3b0dc8435345119916f10b8dd2", func := "gameplayer/gameplayerlaw49.ScheduleDoubles", spec := "scheduleDoubles", unfollowed := true, recurses := true, apart := false, narrowed := true }
def ScheduleDoublesUptoSaid : Prop := scheduleDoublesUptoRow.holds Try.pinned (OpenSpec.upto scheduleDoublesSpec)

/-- 'gameplayerlaw49.ScheduleOnce', WHERE WHAT IT READS IS OF BULK AT MOST 1048576: true; the input reads as it did. -/
def scheduleOnceUptoRow : OpenClaim := { program := "ytkdfplnoldckgaa", sum := "5be136afba68d49288684e0c0a628a192d394e3b0dc8435345119916f10b8dd2", func := "gameplayer/gameplayerlaw49.ScheduleOnce", spec := "scheduleOnce", unfollowed := true, recurses := true, apart := false, narrowed := true }
def ScheduleOnceUptoSaid : Prop := scheduleOnceUptoRow.holds Try.pinned (OpenSpec.upto scheduleOnceSpec)

/-- 'gameplayerlaw49.ScheduleChecks', WHERE WHAT IT READS IS OF BULK AT MOST 1048576: true; the input reads as it did. -/
def scheduleChecksUptoRow : OpenClaim := { program := "ytkdfplnoldckgaa", sum := "5be136afba68d49288684e0c0a628a192d394e3b0dc8435345119916f10b8dd2", func := "gameplayer/gameplayerlaw49.ScheduleChecks", spec := "scheduleChecks", unfollowed := true, recurses := true, apart := false, narrowed := true }
def ScheduleChecksUptoSaid : Prop := scheduleChecksUptoRow.holds Try.pinned (OpenSpec.upto scheduleChecksSpec)

/-- 'gameplayerlaw49.ScheduleSeats', WHERE WHAT IT READS IS OF BULK AT MOST 1048576: true; the input reads as it did. -/
def scheduleSeatsUptoRow : OpenClaim := { program := "ytkdfplnoldckgaa", sum := "5be136afba68d49288684e0c0a628a192d394e3b0dc8435345119916f10b8dd2", func := "gameplayer/gameplayerlaw49.ScheduleSeats", spec := "scheduleSeats", unfollowed := true, recurses := true, apart := false, narrowed := true }
def ScheduleSeatsUptoSaid : Prop := scheduleSeatsUptoRow.holds Try.pinned (OpenSpec.upto scheduleSeatsSpec)

end Rows
end Go.Proofs.Ytkdfplnoldckgaa
