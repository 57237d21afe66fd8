/- Rules that came late: a nil slice to append to, what is told otherwise at a loop. -/
import Derived.Test.YtfdlfcafcjhpmaaCAL16
set_option linter.unusedVariables false
set_option linter.unusedSimpArgs false
namespace Go.AL
section
variable {P : Program}
theorem addNil_by {c : Code} {Q : Exit → St → Prop} {st : St} {fc : Fix c} {fq : Fix Q} (e : TypeId) (sz : Nat) (h : awpX P c Q (st.setHp (st.hp.setSp ((e, sz, .slice none 0 0) :: st.hp.sp))) fc fq) : awpX P c Q st fc fq :=
  fun F a w hr => h F a w (hr.addNil e sz)

/-- What a slot holds may be told otherwise. -/
theorem le_of_cast {n : Nat} {l : List (Nat × AV)} {hp : Hp} {s' : St} (hn : n = s'.n) (hh : hp.le s'.hp) (hl : ∀ p ∈ l, ∃ y, s'.sl p.1 = some y ∧ Cast y p.2) : St.le ⟨n, mkSl l, hp⟩ s' := by
  refine ⟨hn, fun i x hx => ?_, hh⟩
  have hx' : mkSl l i = some x := hx
  clear hn hh hx
  induction l with
  | nil => cases hx'
  | cons p l ih =>
    obtain ⟨d, y⟩ := p
    simp only [mkSl] at hx'
    split at hx'
    · rename_i e; subst e; obtain rfl := Option.some.inj hx'; exact hl (i, y) (by simp)
    · exact ih (fun q hq => hl q (by simp [hq])) hx'

theorem le_tail (hp : Hp) (x y : TypeId × Nat × Value) (l : List (TypeId × Nat × Value)) : (hp.setSp (y :: l)).le (hp.setSp (x :: y :: l)) :=
  ⟨fun _ _ h => h, fun _ _ h => h, List.sublist_cons_self _ _, fun _ h => h⟩
end
end Go.AL
