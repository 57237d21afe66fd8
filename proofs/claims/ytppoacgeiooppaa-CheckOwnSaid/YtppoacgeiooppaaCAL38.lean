/- A code's first part leads to a state that a ghost names; from there its second part goes on. -/
import Derived.Test.YtppoacgeiooppaaCAL17
namespace Go.AL
variable {P : Program}
theorem aw_cut {α : Type} {x y : Code} {Q : Exit → St → Prop} {st : St} (n : Nat) (sl : α → List (Nat × AV)) (hp : α → Hp) (I : α → Prop)
    (hx : AWp P x (thenA (fun st' => ∃ a, I a ∧ St.le ⟨n, mkSl (sl a), hp a⟩ st') Q) st)
    (hy : ∀ a, I a → AWp P y Q ⟨n, mkSl (sl a), hp a⟩) : AWp P (.seq x y) Q st := by
  refine aw_seq (hx.mono fun e st' h => ?_)
  cases e with
  | normal =>
    obtain ⟨a, hI, hle⟩ := h
    exact aw_weaken hle (hy a hI)
  | _ => exact h
end Go.AL
