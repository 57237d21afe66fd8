/- The row of HeapNil: the call returns true and leaves its arguments as they were, for every input. -/
import Derived.Test.YtfdlfcafcjhpmaaCH35
import Derived.Test.YtfdlfcafcjhpmaaCH31
import Derived.Test.YtfdlfcafcjhpmaaRows
import Derived.ProofKit
set_option linter.unusedSimpArgs false
set_option linter.unusedVariables false
namespace Go.Proofs.Ytfdlfcafcjhpmaa
open Go.AL Go.ChangeShapes Go.WideShapes Go.ChangeAt Go.RowKit

set_option maxRecDepth 100000 in
theorem heapNil_lifted (os : Os) (started : os.Started) (H : Type) (enc : TypeId × Value → H) :
    ReturnsInHanded {} Try.checked os 7 .any (Rows.heapNilSpec.pre6 enc Try.prog Try.f7 Rows.heapNilRow.domain false) (Rows.heapNilSpec.post enc Try.prog Try.f7 false true false false) := by
  refine returnsInHanded_of_calls (C := Try.checked) own started (by kernel_rfl)
    (ChangeSpec.witness6 (enc := enc) (C := Try.checked) false ⟨#[], #[.int .i64 0, .int .i64 0, .int .i64 0, .slice none 0 0], []⟩ 8 (by kernel_rfl) (by kernel_rfl) (by kernel_rfl) (by kernel_rfl)) ?_
  intro w tape i _ hsh _ hok hpre hholds
  obtain ⟨_, _, _, fn', hfn', _, _, _, _, hval⟩ := hok
  have e : fn' = Try.f7 := Option.some.inj (hfn'.symm.trans Try.func7)
  subst e
  obtain ⟨⟨ds, gs, before, hw, hc⟩, hz⟩ := hpre
  have hwt := hz.weights hw
  have hw' := DataW.Whole.of_heap (w' := w.forCall tape i) (by rfl) hw
  have contract : Calls Try.prog 7 i.args (w.forCall tape i) fun e W' => ∃ v, e = .returned v ∧ Rows.heapNilSpec.post enc Try.prog Try.f7 false true false false (w.forCall tape i) i.args v W' := by
    clear hz
    generalize w.forCall tape i = W at *
    generalize i.args = args at *
    have hsh' : W.ShapedOpen Try.checked.prog := hsh
    refine row_true laidOut (by kernel_rfl) (tb := 4) (by kernel_rfl) Try.underlying4 rfl (fun l hl => by match l, hl with | [a0, a1, a2, a3], _ => rfl) hw' ?_
    obtain ⟨p, q, hA, hV, -⟩ := hw'
    obtain ⟨rfl, rfl⟩ := trodVars_none hV
    rw [show Try.f7.params.toList = [3, 3, 3, 32] from by kernel_rfl] at hA
    obtain ⟨v0, v1, v2, v3, d0, d1, d2, d3, p0, p1, p2, p3, rfl, rfl, rfl, h0, h1, h2, h3⟩ := trodAll_four hA
    obtain ⟨n0, rfl, rfl, rfl, w0⟩ := open_int Try.underlying3 (hval 0 3 _ rfl rfl) h0
    obtain ⟨n1, rfl, rfl, rfl, w1⟩ := open_int Try.underlying3 (hval 1 3 _ rfl rfl) h1
    obtain ⟨n2, rfl, rfl, rfl, w2⟩ := open_int Try.underlying3 (hval 2 3 _ rfl rfl) h2
    obtain ⟨fu3, k3⟩ := trod_slice Try.underlying32 (hval 3 _ _ rfl rfl) h3
    obtain ⟨hd3, l3, e3, hl3, hL3⟩ := reads_words k3
    obtain rfl := List.cons.inj e3 |>.1
    have hL3' := hL3 (light_at hwt (j := 3) (by kernel_rfl) rfl)
    exact calls_of_row (args := [.v (.int .i64 n0), .v (.int .i64 n1), .v (.int .i64 n2), wordsAV v3 l3]) W ⟨trivial, trivial, trivial, hl3, trivial⟩ (heapNil_calls n0 n1 n2 v3 l3 _)
  refine contract.mono fun e W' ⟨v, he, hp⟩ => ?_
  subst he
  exact ChangeSpec.post_blind hp

theorem heapNil_holds : Rows.HeapNilSaid := by
  refine OpenClaim.holds_of_wide 7 Try.f7 rfl rfl rfl rfl rfl rfl rfl ⟨rfl, rfl, rfl, rfl, rfl⟩ rfl rfl rfl rfl rfl (by kernel_rfl) Try.func7 (by kernel_rfl) (of_decide_eq_true (by kernel_rfl))
    (by unfold Func.isWrapper; rw [if_neg (by decide +kernel)]; exact ⟨rfl, rfl⟩) (fun os started H enc _ => heapNil_lifted os started H enc)
#print axioms heapNil_holds
end Go.Proofs.Ytfdlfcafcjhpmaa
