/- The row of HeapKeeps: the call returns true and leaves its arguments as they were, for every input. -/
import Derived.Test.YtfdlfcafcjhpmaaCH41
import Derived.Test.YtfdlfcafcjhpmaaCH31
import Derived.Test.YtfdlfcafcjhpmaaRows
import Derived.ProofKit
set_option linter.unusedSimpArgs false
set_option linter.unusedVariables false
namespace Go.Proofs.Ytfdlfcafcjhpmaa
open Go.AL Go.ChangeShapes Go.WideShapes Go.ChangeAt Go.RowKit

set_option maxRecDepth 100000 in
theorem heapKeeps_lifted (os : Os) (started : os.Started) (H : Type) (enc : TypeId × Value → H) :
    ReturnsInHanded {} Try.checked os 6 .any (Rows.heapKeepsSpec.pre6 enc Try.prog Try.f6 Rows.heapKeepsRow.domain false) (Rows.heapKeepsSpec.post enc Try.prog Try.f6 false true false false) := by
  refine returnsInHanded_of_calls (C := Try.checked) own started (by kernel_rfl)
    (ChangeSpec.witness6 (enc := enc) (C := Try.checked) false ⟨#[], #[.int .i64 0, .slice none 0 0, .slice none 0 0], []⟩ 8 (by kernel_rfl) (by kernel_rfl) (by kernel_rfl) (by kernel_rfl)) ?_
  intro w tape i _ hsh _ hok hpre hholds
  obtain ⟨_, _, _, fn', hfn', _, _, _, _, hval⟩ := hok
  have e : fn' = Try.f6 := Option.some.inj (hfn'.symm.trans Try.func6)
  subst e
  obtain ⟨⟨ds, gs, before, hw, hc⟩, hz⟩ := hpre
  have hwt := hz.weights hw
  have hw' := DataW.Whole.of_heap (w' := w.forCall tape i) (by rfl) hw
  have contract : Calls Try.prog 6 i.args (w.forCall tape i) fun e W' => ∃ v, e = .returned v ∧ Rows.heapKeepsSpec.post enc Try.prog Try.f6 false true false false (w.forCall tape i) i.args v W' := by
    clear hz
    generalize w.forCall tape i = W at *
    generalize i.args = args at *
    have hsh' : W.ShapedOpen Try.checked.prog := hsh
    refine row_true laidOut (by kernel_rfl) (tb := 4) (by kernel_rfl) Try.underlying4 rfl (fun l hl => by match l, hl with | [a0, a1, a2], _ => rfl) hw' ?_
    obtain ⟨p, q, hA, hV, -⟩ := hw'
    obtain ⟨rfl, rfl⟩ := trodVars_none hV
    rw [show Try.f6.params.toList = [3, 22, 32] from by kernel_rfl] at hA
    obtain ⟨v0, v1, v2, d0, d1, d2, p0, p1, p2, rfl, rfl, rfl, h0, h1, h2⟩ := trodAll_three hA
    obtain ⟨n0, rfl, rfl, rfl, w0⟩ := open_int Try.underlying3 (hval 0 3 _ rfl rfl) h0
    obtain ⟨fu1, k1⟩ := trod_slice Try.underlying22 (hval 1 _ _ rfl rfl) h1
    obtain ⟨hd1, l1, e1, hl1, hL1⟩ := reads_ops k1
    obtain rfl := List.cons.inj e1 |>.1
    have hL1' := hL1 (light_at hwt (j := 1) (by kernel_rfl) rfl)
    obtain ⟨fu2, k2⟩ := trod_slice Try.underlying32 (hval 2 _ _ rfl rfl) h2
    obtain ⟨hd2, l2, e2, hl2, hL2⟩ := reads_words k2
    obtain rfl := List.cons.inj e2 |>.1
    have hL2' := hL2 (light_at hwt (j := 2) (by kernel_rfl) rfl)
    exact calls_of_row (args := [.v (.int .i64 n0), opsAV v1 l1, wordsAV v2 l2]) W ⟨trivial, hl1, hl2, trivial⟩ (heapKeeps_calls n0 v1 v2 l1 l2 (small_fit hL1') _)
  refine contract.mono fun e W' ⟨v, he, hp⟩ => ?_
  subst he
  exact ChangeSpec.post_blind hp

theorem heapKeeps_holds : Rows.HeapKeepsSaid := by
  refine OpenClaim.holds_of_wide 6 Try.f6 rfl rfl rfl rfl rfl rfl rfl ⟨rfl, rfl, rfl, rfl, rfl⟩ rfl rfl rfl rfl rfl (by kernel_rfl) Try.func6 (by kernel_rfl) (of_decide_eq_true (by kernel_rfl))
    (by unfold Func.isWrapper; rw [if_neg (by decide +kernel)]; exact ⟨rfl, rfl⟩) (fun os started H enc _ => heapKeeps_lifted os started H enc)
#print axioms heapKeeps_holds
end Go.Proofs.Ytfdlfcafcjhpmaa
