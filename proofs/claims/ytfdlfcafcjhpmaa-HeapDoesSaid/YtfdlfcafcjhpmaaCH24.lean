/- The row of HeapDoes: the call returns true and leaves its arguments as they were, for every input. -/
import Derived.Test.YtfdlfcafcjhpmaaCH22
import Derived.Test.YtfdlfcafcjhpmaaCH23
import Derived.Test.YtfdlfcafcjhpmaaCAL22
import Derived.Test.YtfdlfcafcjhpmaaRows
import Derived.ProofKit
set_option linter.unusedSimpArgs false
set_option linter.unusedVariables false
namespace Go.Proofs.Ytfdlfcafcjhpmaa
open Go.AL Go.ChangeShapes Go.WideShapes Go.ChangeAt Go.RowKit

theorem own : ownKnob Try.prog.godebug = none := by kernel_rfl
theorem laidOut : laidOutB Try.prog = true := by kernel_rfl

section
variable {H : Type} {enc : TypeId × Value → H} {P : Program} {w : World} {base : Nat} {spare : Nat → Bool} {held : Bool}
theorem trod_slice {r : Reach} {b0 : Nat} {t e : TypeId} {v : Value} {d : DataW H} {ps : List MemPlace} (ht : P.underlying t = some (.slice e))
    (hval : Value.okWide P w r b0 t v) (hd : DataW.Trod enc P w base spare held t v d ps) : ∃ fuel, DataW.trod enc P w base spare held fuel t [v] = some (d, ps) := by
  obtain ⟨a0, n, c, rfl⟩ := okWide_slice ht hval
  exact hd
/-- An argument takes no more than a process has. -/
theorem light_at {ts : List TypeId} {ds : List (DataW H)} (h : (DataW.weightsEach P ts ds).all (· ≤ reachBytes) = true) {j : Nat} {t : TypeId} {d : DataW H} (ht : ts[j]? = some t) (hd : ds[j]? = some d) : Light P t d := by
  intro n hn
  have := List.all_eq_true.1 h n (DataW.weights_mem_each ht hd n hn)
  simpa using this
end
theorem small_fit {l : List OpG} (h : ∀ o ∈ l, o.small) : ∀ x ∈ l, x.ws.length ≤ 8796093022000 := fun x hx => by
  have hR : reachBytes = 140737488351232 := rfl
  have : x.ws.length * 16 ≤ reachBytes := h x hx
  omega

set_option maxRecDepth 100000 in
theorem heapDoes_lifted (os : Os) (started : os.Started) (H : Type) (enc : TypeId × Value → H) :
    ReturnsInHanded {} Try.checked os 3 .any (Rows.heapDoesSpec.pre6 enc Try.prog Try.f3 Rows.heapDoesRow.domain false) (Rows.heapDoesSpec.post enc Try.prog Try.f3 false true false false) := by
  refine returnsInHanded_of_calls (C := Try.checked) own started (by kernel_rfl)
    (ChangeSpec.witness6 (enc := enc) (C := Try.checked) false ⟨#[], #[.int .i64 0, .slice none 0 0], []⟩ 8 (by kernel_rfl) (by kernel_rfl) (by kernel_rfl) (by kernel_rfl)) ?_
  intro w tape i _ hsh _ hok hpre hholds
  obtain ⟨_, _, _, fn', hfn', _, _, _, _, hval⟩ := hok
  have e : fn' = Try.f3 := Option.some.inj (hfn'.symm.trans Try.func3)
  subst e
  obtain ⟨⟨ds, gs, before, hw, hc⟩, hz⟩ := hpre
  have hwt := hz.weights hw
  have hw' := DataW.Whole.of_heap (w' := w.forCall tape i) (by rfl) hw
  have contract : Calls Try.prog 3 i.args (w.forCall tape i) fun e W' => ∃ v, e = .returned v ∧ Rows.heapDoesSpec.post enc Try.prog Try.f3 false true false false (w.forCall tape i) i.args v W' := by
    clear hz
    generalize w.forCall tape i = W at *
    generalize i.args = args at *
    have hsh' : W.ShapedOpen Try.checked.prog := hsh
    refine row_true laidOut (by kernel_rfl) (tb := 4) (by kernel_rfl) Try.underlying4 rfl (fun l hl => by match l, hl with | [a0, a1], _ => rfl) hw' ?_
    obtain ⟨p, q, hA, hV, -⟩ := hw'
    obtain ⟨rfl, rfl⟩ := trodVars_none hV
    rw [show Try.f3.params.toList = [3, 22] from by kernel_rfl] at hA
    obtain ⟨v0, v1, d0, d1, p0, p1, rfl, rfl, rfl, h0, h1⟩ := trodAll_two hA
    obtain ⟨n0, rfl, rfl, rfl, w0⟩ := open_int Try.underlying3 (hval 0 3 v0 rfl rfl) h0
    obtain ⟨fu1, k1⟩ := trod_slice Try.underlying22 (hval 1 _ _ rfl rfl) h1
    obtain ⟨hd1, l1, e1, hl1, hL1⟩ := reads_ops k1
    obtain rfl := List.cons.inj e1 |>.1
    have hL1' := hL1 (light_at hwt (j := 1) (by kernel_rfl) rfl)
    exact calls_of_row (args := [.v (.int .i64 n0), opsAV v1 l1]) W ⟨trivial, hl1, trivial⟩ (heapDoes_calls n0 v1 l1 (small_fit hL1') _)
  refine contract.mono fun e W' ⟨v, he, hp⟩ => ?_
  subst he
  exact ChangeSpec.post_blind hp

theorem heapDoes_holds : Rows.HeapDoesSaid := by
  refine OpenClaim.holds_of_wide 3 Try.f3 rfl rfl rfl rfl rfl rfl rfl ⟨rfl, rfl, rfl, rfl, rfl⟩ rfl rfl rfl rfl rfl (by kernel_rfl) Try.func3 (by kernel_rfl) (of_decide_eq_true (by kernel_rfl))
    (by unfold Func.isWrapper; rw [if_neg (by decide +kernel)]; exact ⟨rfl, rfl⟩) (fun os started H enc _ => heapDoes_lifted os started H enc)
#print axioms heapDoes_holds
end Go.Proofs.Ytfdlfcafcjhpmaa
