/- Nil spares, and variables told otherwise, at calls and returns. -/
import Derived.Test.YtfdlfcafcjhpmaaCAL27
set_option linter.unusedVariables false
namespace Go.AL
section
variable {P : Program}
theorem acalls_addNil {f : FuncId} {args : List AV} {hp : Hp} {R : AV → Hp → Prop} (e : TypeId) (sz : Nat) (h : ACalls P f args (hp.setSp ((e, sz, .slice none 0 0) :: hp.sp)) R) : ACalls P f args hp R :=
  ⟨h.1, fun F w ⟨hlo, m, hle, hhp, ho⟩ => h.2 F w ⟨hlo, m, hle, hhp.addSp (.inl rfl) (fun b hb => by cases hb), ho⟩⟩
theorem Gives.addNil (hp : Hp) (a : AV) (e : TypeId) (sz : Nat) : Gives hp a (hp.setSp ((e, sz, .slice none 0 0) :: hp.sp)) a :=
  ⟨rfl, fun base m w h ha => ⟨m, Mem.le_refl m, h.addSp (.inl rfl) (fun b hb => by cases hb), ha⟩⟩
theorem HpOk.castBlk {base : Nat} {hp : Hp} {m : Mem} {w : World} (h : HpOk base hp m w) {b : Nat} {T : TypeId} {cs cs' : List AV} (hb : hp.blk b = some (T, cs)) (hv : AV.vals cs' = AV.vals cs) (hok : AV.oks m cs → AV.oks m cs') :
    HpOk base (hp.setBlk b T cs') m w := by
  obtain ⟨h1, h2, h3, h4⟩ := h.blk b T cs hb
  refine ⟨h.mem, fun b' T' cs'' hx => ?_, h.mp, fun e sz hd hi => ⟨(h.sp e sz hd hi).1, fun b' hb' => ?_⟩, h.spd, h.gl⟩
  · rw [Hp.setBlk_blk] at hx
    split at hx
    · rename_i e; subst e
      simp only [Option.some.injEq, Prod.mk.injEq] at hx
      obtain ⟨rfl, rfl⟩ := hx
      exact ⟨h1, by rw [hv]; exact h2, hok h3, h4⟩
    · exact h.blk b' T' cs'' hx
  · rw [Hp.setBlk_blk]
    split
    · rename_i e; subst e
      have := (h.sp e sz hd hi).2 b' hb'
      rw [hb] at this; cases this
    · exact (h.sp e sz hd hi).2 b' hb'
theorem Gives.castBlk {hp : Hp} {a : AV} {b : Nat} {T : TypeId} {cs cs' : List AV} (hb : hp.blk b = some (T, cs)) (hv : AV.vals cs' = AV.vals cs) (hok : ∀ m, AV.oks m cs → AV.oks m cs') : Gives hp a (hp.setBlk b T cs') a :=
  ⟨rfl, fun base m w h ha => ⟨m, Mem.le_refl m, h.castBlk hb hv (hok m), ha⟩⟩
end
end Go.AL
