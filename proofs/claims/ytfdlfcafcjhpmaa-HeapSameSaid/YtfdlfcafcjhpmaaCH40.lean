/- The row of HeapSame: the call returns true and leaves its arguments as they were, for every input. -/
import Derived.Test.YtfdlfcafcjhpmaaCH39
import Derived.Test.YtfdlfcafcjhpmaaCH31
import Derived.Test.YtfdlfcafcjhpmaaRows
import Derived.ProofKit
set_option linter.unusedSimpArgs false
set_option linter.unusedVariables false
namespace Go.Proofs.Ytfdlfcafcjhpmaa
open Go.AL Go.ChangeShapes Go.WideShapes Go.ChangeAt Go.RowKit

set_option maxRecDepth 100000 in
theorem heapSame_lifted (os : Os) (started : os.Started) (H : Type) (enc : TypeId × Value → H) :
    ReturnsInHanded {} Try.checked os 5 .any (Rows.heapSameSpec.pre6 enc Try.prog Try.f5 Rows.heapSameRow.domain false) (Rows.heapSameSpec.post enc Try.prog Try.f5 false true false false) := by
  refine returnsInHanded_of_calls (C := Try.checked) own started (by kernel_rfl)
    (ChangeSpec.witness6 (enc := enc) (C := Try.checked) false ⟨#[], #[.int .i64 0, .slice none 0 0, .slice none 0 0, .slice none 0 0, .slice none 0 0], []⟩ 8 (by kernel_rfl) (by kernel_rfl) (by kernel_rfl) (by kernel_rfl)) ?_
  intro w tape i _ hsh _ hok hpre hholds
  obtain ⟨_, _, _, fn', hfn', _, _, _, _, hval⟩ := hok
  have e : fn' = Try.f5 := Option.some.inj (hfn'.symm.trans Try.func5)
  subst e
  obtain ⟨⟨ds, gs, before, hw, hc⟩, hz⟩ := hpre
  have hwt := hz.weights hw
  have hw' := DataW.Whole.of_heap (w' := w.forCall tape i) (by rfl) hw
  have contract : Calls Try.prog 5 i.args (w.forCall tape i) fun e W' => ∃ v, e = .returned v ∧ Rows.heapSameSpec.post enc Try.prog Try.f5 false true false false (w.forCall tape i) i.args v W' := by
    clear hz
    generalize w.forCall tape i = W at *
    generalize i.args = args at *
    have hsh' : W.ShapedOpen Try.checked.prog := hsh
    refine row_true laidOut (by kernel_rfl) (tb := 4) (by kernel_rfl) Try.underlying4 rfl (fun l hl => by match l, hl with | [a0, a1, a2, a3, a4], _ => rfl) hw' ?_
    obtain ⟨p, q, hA, hV, -⟩ := hw'
    obtain ⟨rfl, rfl⟩ := trodVars_none hV
    rw [show Try.f5.params.toList = [3, 22, 22, 32, 32] from by kernel_rfl] at hA
    obtain ⟨v0, v1, v2, v3, v4, d0, d1, d2, d3, d4, p0, p1, p2, p3, p4, rfl, rfl, rfl, h0, h1, h2, h3, h4⟩ := trodAll_five hA
    obtain ⟨n0, rfl, rfl, rfl, w0⟩ := open_int Try.underlying3 (hval 0 3 _ rfl rfl) h0
    obtain ⟨fu1, k1⟩ := trod_slice Try.underlying22 (hval 1 _ _ rfl rfl) h1
    obtain ⟨hd1, l1, e1, hl1, hL1⟩ := reads_ops k1
    obtain rfl := List.cons.inj e1 |>.1
    have hL1' := hL1 (light_at hwt (j := 1) (by kernel_rfl) rfl)
    obtain ⟨fu2, k2⟩ := trod_slice Try.underlying22 (hval 2 _ _ rfl rfl) h2
    obtain ⟨hd2, l2, e2, hl2, hL2⟩ := reads_ops k2
    obtain rfl := List.cons.inj e2 |>.1
    have hL2' := hL2 (light_at hwt (j := 2) (by kernel_rfl) rfl)
    obtain ⟨fu3, k3⟩ := trod_slice Try.underlying32 (hval 3 _ _ rfl rfl) h3
    obtain ⟨hd3, l3, e3, hl3, hL3⟩ := reads_words k3
    obtain rfl := List.cons.inj e3 |>.1
    have hL3' := hL3 (light_at hwt (j := 3) (by kernel_rfl) rfl)
    obtain ⟨fu4, k4⟩ := trod_slice Try.underlying32 (hval 4 _ _ rfl rfl) h4
    obtain ⟨hd4, l4, e4, hl4, hL4⟩ := reads_words k4
    obtain rfl := List.cons.inj e4 |>.1
    have hL4' := hL4 (light_at hwt (j := 4) (by kernel_rfl) rfl)
    exact calls_of_row (args := [.v (.int .i64 n0), opsAV v1 l1, opsAV v2 l2, wordsAV v3 l3, wordsAV v4 l4]) W ⟨trivial, hl1, hl2, hl3, hl4, trivial⟩ (heapSame_calls n0 v1 v2 v3 v4 l1 l2 l3 l4 (small_fit hL1') (small_fit hL2') _)
  refine contract.mono fun e W' ⟨v, he, hp⟩ => ?_
  subst he
  exact ChangeSpec.post_blind hp

theorem heapSame_holds : Rows.HeapSameSaid := by
  refine OpenClaim.holds_of_wide 5 Try.f5 rfl rfl rfl rfl rfl rfl rfl ⟨rfl, rfl, rfl, rfl, rfl⟩ rfl rfl rfl rfl rfl (by kernel_rfl) Try.func5 (by kernel_rfl) (of_decide_eq_true (by kernel_rfl))
    (by unfold Func.isWrapper; rw [if_neg (by decide +kernel)]; exact ⟨rfl, rfl⟩) (fun os started H enc _ => heapSame_lifted os started H enc)
#print axioms heapSame_holds
end Go.Proofs.Ytfdlfcafcjhpmaa
