/- Rows that a call hands back and that its caller writes: tracked, all of them. -/
import Derived.Test.YtkoachnlimebaaaGreatDoorCAL41
import Derived.Test.YtkoachnlimebaaaGreatDoorCAL36
set_option linter.unusedVariables false
set_option linter.unusedSimpArgs false
namespace Go.AL
section
variable {P : Program}
/-- A header is empty, or begins a tracked row of one-cell items that is not of the elder heap. -/
def RowOk (T : TypeId) (hp : Hp) (h : Value) (hp' : Hp) : Prop :=
  (∃ a c, h = .slice a 0 c) ∨ ∃ b n cap cs, h = .slice (some ⟨b, 0, none⟩) n cap ∧ hp.blk b = none ∧ hp'.blk b = some (T, cs) ∧ n ≤ cs.length
structure AllRows (T : TypeId) (hp : Hp) (hs : List Value) (hp' : Hp) : Prop where
  le : hp.le hp'
  row : ∀ h ∈ hs, RowOk T hp h hp'
/-- A cell of a tracked row is turned. -/
theorem AllRows.set {T : TypeId} {hp hp' : Hp} {hs : List Value} (r : AllRows T hp hs hp') {b : Nat} {cs cs' : List AV} (hb : hp.blk b = none) (hb' : hp'.blk b = some (T, cs)) (hl : cs'.length = cs.length) : AllRows T hp hs (hp'.setBlk b T cs') := by
  refine ⟨⟨fun i z hz => ?_, r.le.mp, r.le.sp, r.le.gl⟩, fun h hh => ?_⟩
  · rw [Hp.setBlk_blk, if_neg (fun e => by rw [e, hb] at hz; cases hz)]
    exact r.le.blk i z hz
  · rcases r.row h hh with q | ⟨b2, n, cap, cs2, e, q1, q2, q3⟩
    · exact .inl q
    · refine .inr ?_
      by_cases e2 : b2 = b
      · subst e2
        rw [hb'] at q2
        have e3 : cs2 = cs := by cases q2; rfl
        subst e3
        exact ⟨b2, n, cap, cs', e, q1, by rw [Hp.setBlk_blk, if_pos rfl], by omega⟩
      · exact ⟨b2, n, cap, cs2, e, q1, by rw [Hp.setBlk_blk, if_neg e2]; exact q2, q3⟩
def isRow (hs : List Value) (b : Nat) : Bool := hs.any fun h => match h with | .slice (some a) (_ + 1) _ => a.block == b | _ => false
def Mem.rows (m : Mem) (B : Nat) (w : World) (hs : List Value) : Mem := fun b o => if b < B then m b o else if isRow hs b = true then none else w.cell? ⟨b, o, none⟩
end
end Go.AL
/- Rows handed back that the caller writes: out of a contract that keeps them. -/
set_option linter.unusedVariables false
set_option linter.unusedSimpArgs false
namespace Go.AL
section
variable {P : Program}
/-- A row that is kept apart stands on. -/
theorem AllRows.mono {T : TypeId} {hp hp' : Hp} {hs ks : List Value} (r : AllRows T hp hs hp') (h : ∀ v ∈ ks, v ∈ hs) : AllRows T hp ks hp' := ⟨r.le, fun v hv => r.row v (h v hv)⟩
end
end Go.AL
