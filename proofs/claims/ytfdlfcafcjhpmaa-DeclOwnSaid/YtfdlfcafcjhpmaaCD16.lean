/- The row of DeclFinds: the walk in the kit's own words. -/
import Derived.Test.YtfdlfcafcjhpmaaCD15
set_option linter.unusedSimpArgs false
set_option linter.unusedVariables false
namespace Go.Proofs.Ytfdlfcafcjhpmaa
open Go.AL

def hp0 (m : Int) : Hp := ⟨fun _ => none, fun _ => none, [], [(0, [.v (.int .i64 m)])]⟩

/-- A contract at a row's start: nothing is the call's own, all cells are as they stand. -/
theorem calls_of_row {f : FuncId} {args : List AV} {m : Int} {r : AV} (W : World) (hm : W.cell? ⟨0, 0, none⟩ = some (.int .i64 m)) (hok : AV.oks (memOf W) args) (h : ACalls Try.prog f args (hp0 m) (fun r' hp' => r' = r ∧ hp' = hp0 m)) :
    Calls Try.prog f (AV.vals args).toArray W fun e W' => e = .returned r.val ∧ Go.RowKit.Below W.heap.size W W' := by
  refine (h.2 ⟨memOf W, W, W.heap.size⟩ W ⟨Lo.self _ _ _ (Nat.le_refl _), memOf W, Mem.le_refl _, ⟨fun b o x hx => hx, fun b T cs hb => by simp [hp0] at hb, fun b es hb => by simp [hp0] at hb, fun e sz hd hi => by simp [hp0] at hi, by simp [hp0], fun g cs hg => ?_⟩, hok⟩).mono ?_
  · simp only [hp0, List.mem_singleton, Prod.mk.injEq] at hg
    obtain ⟨rfl, rfl⟩ := hg
    refine ⟨⟨0, 0, rfl, fun j x hx => ?_⟩, trivial, trivial⟩
    match j with
    | 0 => simp [AV.vals, AV.val] at hx; subst hx; exact hm
    | j + 1 => simp [AV.vals] at hx
  · rintro e W' ⟨r', hp', ⟨rfl, _⟩, rfl, hlo, _⟩
    exact ⟨rfl, ⟨hlo.os, hlo.tape, hlo.output, hlo.size, hlo.low⟩⟩
end Go.Proofs.Ytfdlfcafcjhpmaa
