/- A tracked row is published at a call. -/
import Derived.Test.YtppoacgeiooppaaGreatCAL17
set_option linter.unusedVariables false
set_option linter.unusedSimpArgs false
namespace Go.AL
section
variable {P : Program}

/-- A tracked variable's cells may be told otherwise. -/
theorem castBlk_by {c : Code} {Q : Exit → St → Prop} {st : St} {fc : Fix c} {fq : Fix Q} (b : Nat) (T : TypeId) (cs cs' : List AV) (hb : st.hp.blk b = some (T, cs)) (hv : AV.vals cs' = AV.vals cs) (hok : ∀ m, AV.oks m cs → AV.oks m cs')
    (h : awpX P c Q (st.setHp (st.hp.setBlk b T cs')) fc fq) : awpX P c Q st fc fq := by
  intro F a w hr
  refine h F a w ?_
  obtain ⟨m, hm⟩ := hr.ex
  obtain ⟨h1, h2, h3, h4⟩ := hm.hp.blk b T cs hb
  refine ⟨hr.lo, hr.df, hr.n, m, hm.le, ⟨hm.hp.mem, fun b' T' cs'' hx => ?_, hm.hp.mp, fun e sz hd hi => ⟨(hm.hp.sp e sz hd hi).1, fun b' hb' => ?_⟩, hm.hp.spd, hm.hp.gl⟩, hm.sl⟩
  · rw [St.setHp_hp, Hp.setBlk_blk] at hx
    split at hx
    · rename_i e; subst e
      simp only [Option.some.injEq, Prod.mk.injEq] at hx
      obtain ⟨rfl, rfl⟩ := hx
      exact ⟨h1, by rw [hv]; exact h2, hok m h3, h4⟩
    · exact hm.hp.blk b' T' cs'' hx
  · rw [St.setHp_hp, Hp.setBlk_blk]
    split
    · rename_i e; subst e
      have := (hm.hp.sp e sz hd hi).2 b' hb'
      rw [hb] at this; cases this
    · exact (hm.hp.sp e sz hd hi).2 b' hb'

/-- Arguments may be told otherwise. -/
theorem acalls_cast {f : FuncId} {args args' : List AV} {hp : Hp} {R : AV → Hp → Prop} (hv : AV.vals args' = AV.vals args) (hok : ∀ m, AV.oks m args' → AV.oks m args) (h : ACalls P f args hp R) : ACalls P f args' hp R :=
  ⟨h.1, fun F w ⟨hlo, m, hle, hhp, ho⟩ => by rw [hv]; exact h.2 F w ⟨hlo, m, hle, hhp, hok m ho⟩⟩

end
end Go.AL
