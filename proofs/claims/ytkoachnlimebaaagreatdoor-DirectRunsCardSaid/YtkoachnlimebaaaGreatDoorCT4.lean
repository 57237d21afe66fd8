/- The layer 'term': sets of names. -/
import Derived.Test.YtkoachnlimebaaaGreatDoorCT2
import Derived.Test.YtkoachnlimebaaaGreatDoorCAL34
import Derived.Shelf.SlMaps.Clone
import Derived.WalkKit
set_option linter.unusedSimpArgs false
set_option linter.unusedVariables false
set_option maxRecDepth 20000
namespace Go.Proofs.YtkoachnlimebaaaGreatDoor
open Go.AL

set_option maxHeartbeats 2000000 in
theorem mapsClone_runs (b : Nat) (es : Array MapEntry) (cl : Nat) (w : World) (hb : w.heap[b]? = some (.map es cl)) :
    Calls Tryz.prog 178 #[.map (some b)] w fun e w' => e = .returned (.map (some w.heap.size)) ∧ w' = w.alloc (.map es cl) := by
  have hq := fun w => run_eql_map_nil_sl (P := Tryz.prog) w 143 _ _ (some b) Tryz.underlying143
  go_enter Tryz.func178, Tryz.ntmps178
  go_wp2
  rw [run_callFunc_extern Tryz.func222 (by kernel_rfl) (by kernel_rfl) (by kernel_rfl) (e := Extern.MapsClone.clone) (by kernel_rfl), run_maps_clone_sl w 143 hb]
  simp only [Result.andThen]
  rw [Oper.upon_value]
  go_wp2
  rw [run_typeAssert_map_sl _ 143 20 _ _ _ Tryz.underlying143]
  simp only [Result.andThen]
  rw [Oper.upon_value]
  go_wp2
  go_ret
  exact ⟨rfl, rfl⟩

/-! ### Sets of names -/
theorem has_app (l r : List Bytes) (s : Bytes) : hasB (l ++ r) s = (hasB l s || hasB r s) := by simp [hasB]
theorem has_one (s x : Bytes) : hasB [s] x = decide (x = s) := by simp [hasB]
def insB (l : List Bytes) (s : Bytes) : List Bytes := if hasB l s = true then l else l ++ [s]
theorem mset_ins (s : Bytes) (l : List Bytes) : mset (.string (bs s)) (.v (.bool true)) (ents l) = ents (insB l s) := by
  unfold insB
  by_cases h : hasB l s = true
  · rw [if_pos h]
    induction l with
    | nil => cases h
    | cons t l ih =>
      simp only [ents, List.map_cons, mset, keyEq, bs_dec]
      by_cases e : s = t
      · simp [e]
      · simp only [hasB, List.any_cons, e, decide_false, Bool.false_or] at h
        simp only [e, decide_false, Bool.false_eq_true, if_false]
        congr 1
        exact ih h
  · rw [if_neg h]; exact mset_ents s l (by simpa using h)
theorem has_ins (l : List Bytes) (s x : Bytes) : hasB (insB l s) x = (decide (x = s) || hasB l x) := by
  unfold insB
  by_cases h : hasB l s = true
  · rw [if_pos h]
    by_cases e : x = s
    · subst e; simp [h]
    · simp [e]
  · rw [if_neg h, has_app, has_one, Bool.or_comm]
def insL (l : List Bytes) : List Bytes → List Bytes
  | [] => l
  | s :: r => insL (insB l s) r
theorem has_insL : ∀ (r l : List Bytes) (x : Bytes), hasB (insL l r) x = (hasB r x || hasB l x)
  | [], l, x => by simp [insL, hasB]
  | s :: r, l, x => by
    rw [insL, has_insL r, has_ins]
    simp only [hasB, List.any_cons]
    cases decide (x = s) <;> simp
theorem insL_take (l r : List Bytes) (k : Nat) (s : Bytes) (h : r[k]? = some s) : insL l (r.take (k + 1)) = insB (insL l (r.take k)) s := by
  have go : ∀ (a : List Bytes) (l : List Bytes), insL l (a ++ [s]) = insB (insL l a) s := by
    intro a
    induction a with
    | nil => intro l; rfl
    | cons t a ih => intro l; rw [List.cons_append, insL, insL, ih]
  rw [List.take_add_one, h]; exact go _ _
theorem strAt (l : List Bytes) (k : Nat) (s : Bytes) (h : l[k]? = some s) : (l.map fun s => AV.v (.string (bs s)))[k]? = some (.v (.string (bs s))) := by rw [List.getElem?_map, h]; rfl
theorem someAt {α : Type} (l : List α) (k : Nat) (h : k < l.length) : ∃ x, l[k]? = some x := ⟨l[k], List.getElem?_eq_getElem h⟩
theorem mapAt {α β : Type} (f : α → β) (l : List α) (k : Nat) (x : α) (h : l[k]? = some x) : (l.map f)[k]? = some (f x) := by rw [List.getElem?_map, h]; rfl
theorem upK (k n : Nat) (h : k < n) (hn : n ≤ maxLen) : IntKind.i64.wrap ((k : Int) + 1) = ((k + 1 : Nat) : Int) := by
  simp only [maxLen] at hn; exact IntWalk.i64_in _ (by omega)
theorem dropK {α : Type} {l : List α} {k : Nat} {x : α} (h : l[k]? = some x) : l.drop k = x :: l.drop (k + 1) := by
  obtain ⟨hlt, rfl⟩ := List.getElem?_eq_some_iff.1 h
  exact List.drop_eq_getElem_cons hlt
theorem fit_lst {sz : Nat} {h : Value} {α : Type} {f : α → AV} {l : List α} (hf : (AV.lst sz h (l.map f)).fit) : l.length ≤ maxLen := by
  simp only [AV.fit, List.length_map] at hf; exact hf.1

theorem ents_not (V : List Bytes) : notIt (ents V) := by
  intro s pos e
  cases V with
  | nil => simp [ents, itE] at e
  | cons v V => simp [ents, itE] at e
theorem clone_calls {hp : Hp} {b : Nat} {es : List (Value × AV)} (hb : hp.mp b = some es) (hni : notIt es) : ACalls Tryz.prog 178 [.v (.map (some b))] hp (fun r hp' => ∃ b', r = .v (.map (some b')) ∧ Fresh hp b' ∧ hp' = hp.setMp b' es) :=
  acalls_clone (callable_of Tryz.func178 (by decide +kernel)) mapsClone_runs hb hni

def scopeAV (bv bl : Nat) : AV := .agg [.v (.map (some bv)), .v (.map (some bl))]
theorem with_calls {bv bl : Nat} {V : List Bytes} (h : Value) (l : List Bytes) (hp : Hp) (hv : hp.mp bv = some (ents V)) : ACalls Tryz.prog 131 [scopeAV bv bl, strsAV h l] hp
    (fun r hp' => ∃ b, r = scopeAV b bl ∧ hp.mp b = none ∧ hp' = hp.setMp b (ents (insL V l))) := by
  refine acalls_fit (callable_of Tryz.func131 (by decide +kernel)) fun hfit => ?_
  have hl : l.length ≤ maxLen := fit_lst hfit.2.1
  refine acalls_of Tryz.func131 rfl (by decide +kernel) (awp_sound (mu := [4]) _ _ _ ?_)
  simp only [go_sem, Nat.reduceEqDiff, Nat.reduceAdd, Nat.reduceSub, Nat.reduceLT, Nat.reduceMul, Nat.reduceBEq, Nat.reduceLeDiff, ↓reduceIte, Int.reduceToNat, Nat.reduceGT, Int.reduceLE, Int.reduceLT, Int.reduceGE, Int.reduceGT, Int.reduceEq, Int.reduceNe, reduceCtorEq, scopeAV]
  intro p b4 hb4
  refine callX_by (clone_calls (b := bv) (es := ents V) (by simp only [go_sem, Nat.reduceEqDiff, Nat.reduceAdd, Nat.reduceSub, Nat.reduceLT, Nat.reduceMul, Nat.reduceBEq, Nat.reduceLeDiff, ↓reduceIte, Int.reduceToNat, Nat.reduceGT, Int.reduceLE, Int.reduceLT, Int.reduceGE, Int.reduceGT, Int.reduceEq, Int.reduceNe, reduceCtorEq]; exact hv) (ents_not _)) ?_
  rintro r hp1 ⟨b, rfl, hb, rfl⟩
  have hbn : hp.mp b = none := hb.2.1
  simp only [go_sem, Nat.reduceEqDiff, Nat.reduceAdd, Nat.reduceSub, Nat.reduceLT, Nat.reduceMul, Nat.reduceBEq, Nat.reduceLeDiff, ↓reduceIte, Int.reduceToNat, Nat.reduceGT, Int.reduceLE, Int.reduceLT, Int.reduceGE, Int.reduceGT, Int.reduceEq, Int.reduceNe, reduceCtorEq, strsAV]
  refine aw_loopX 24 (fun k : Nat => [(2, .ref p [.v (.map (some bv)), .v (.map (some bl))]), (4, .v (.pointer (some ⟨b4, 0, none⟩))), (5, .v (.map (some b))), (11, .lst 1 h (l.map fun s => .v (.string (bs s)))), (12, .v (.int .i64 l.length)), (13, .v (.int .i64 k))])
    (fun k => (hp.setBlk b4 145 [.v (.map none), .v (.map none)]).setMp b (ents (insL V (l.take k)))) (fun k => k ≤ l.length) (fun k => l.length - k) 0 (Nat.zero_le _) (le_mkSl rfl (Hp.le_refl _) (by simp [go_sem])) ?_
  intro k hk
  refine awp_sound (mu := [4]) _ _ _ ?_
  simp only [go_sem, Nat.reduceEqDiff, Nat.reduceAdd, Nat.reduceSub, Nat.reduceLT, Nat.reduceMul, Nat.reduceBEq, Nat.reduceLeDiff, ↓reduceIte, Int.reduceToNat, Nat.reduceGT, Int.reduceLE, Int.reduceLT, Int.reduceGE, Int.reduceGT, Int.reduceEq, Int.reduceNe, reduceCtorEq]
  refine brK_mk (fun h1 => ?_) (fun h1 => ?_) <;> simp only [go_sem, Nat.reduceEqDiff, Nat.reduceAdd, Nat.reduceSub, Nat.reduceLT, Nat.reduceMul, Nat.reduceBEq, Nat.reduceLeDiff, ↓reduceIte, Int.reduceToNat, Nat.reduceGT, Int.reduceLE, Int.reduceLT, Int.reduceGE, Int.reduceGT, Int.reduceEq, Int.reduceNe, reduceCtorEq, h1]
  · have hk' : k < l.length := by simpa using h1
    obtain ⟨x, hx⟩ := someAt l k hk'
    have hwu := upK k _ hk' hl
    simp only [go_sem, Nat.reduceEqDiff, Nat.reduceAdd, Nat.reduceSub, Nat.reduceLT, Nat.reduceMul, Nat.reduceBEq, Nat.reduceLeDiff, ↓reduceIte, Int.reduceToNat, Nat.reduceGT, Int.reduceLE, Int.reduceLT, Int.reduceGE, Int.reduceGT, Int.reduceEq, Int.reduceNe, reduceCtorEq, strAt _ _ _ hx, mset_ins, hwu]
    exact ⟨k + 1, by omega, by omega, le_mkSl rfl (by rw [insL_take _ _ _ _ hx]; simp only [go_sem, Nat.reduceEqDiff, Nat.reduceAdd, Nat.reduceSub, Nat.reduceLT, Nat.reduceMul, Nat.reduceBEq, Nat.reduceLeDiff, ↓reduceIte, Int.reduceToNat, Nat.reduceGT, Int.reduceLE, Int.reduceLT, Int.reduceGE, Int.reduceGT, Int.reduceEq, Int.reduceNe, reduceCtorEq]; exact Hp.le_refl _) (by simp [go_sem, hwu])⟩
  · have e : k = l.length := by simp at h1; omega
    subst e
    rw [List.take_length]
    refine ret_le (hp' := hp.setMp b (ents (insL V l))) ⟨fun i x hi => ?_, fun _ _ h => h, List.Sublist.refl _, fun _ h => h⟩ ⟨b, rfl, hbn, rfl⟩
    have e4 : i ≠ b4 := by rintro rfl; have := hb4.1; simp only [go_sem, Nat.reduceEqDiff, Nat.reduceAdd, Nat.reduceSub, Nat.reduceLT, Nat.reduceMul, Nat.reduceBEq, Nat.reduceLeDiff, ↓reduceIte, Int.reduceToNat, Nat.reduceGT, Int.reduceLE, Int.reduceLT, Int.reduceGE, Int.reduceGT, Int.reduceEq, Int.reduceNe, reduceCtorEq] at hi; rw [this] at hi; cases hi
    simpa [Hp.setBlk, Hp.setMp, e4] using hi
theorem label_calls {bv bl : Nat} {L : List Bytes} (s : Bytes) (hp : Hp) (hv : hp.mp bl = some (ents L)) : ACalls Tryz.prog 132 [scopeAV bv bl, .v (.string (bs s))] hp
    (fun r hp' => ∃ b, r = scopeAV bv b ∧ hp.mp b = none ∧ hp' = hp.setMp b (ents (insB L s))) := by
  refine acalls_of Tryz.func132 rfl (by decide +kernel) (awp_sound (mu := [4]) _ _ _ ?_)
  simp only [go_sem, Nat.reduceEqDiff, Nat.reduceAdd, Nat.reduceSub, Nat.reduceLT, Nat.reduceMul, Nat.reduceBEq, Nat.reduceLeDiff, ↓reduceIte, Int.reduceToNat, Nat.reduceGT, Int.reduceLE, Int.reduceLT, Int.reduceGE, Int.reduceGT, Int.reduceEq, Int.reduceNe, reduceCtorEq, scopeAV]
  intro p b4 hb4
  refine callX_by (clone_calls (b := bl) (es := ents L) (by simp only [go_sem, Nat.reduceEqDiff, Nat.reduceAdd, Nat.reduceSub, Nat.reduceLT, Nat.reduceMul, Nat.reduceBEq, Nat.reduceLeDiff, ↓reduceIte, Int.reduceToNat, Nat.reduceGT, Int.reduceLE, Int.reduceLT, Int.reduceGE, Int.reduceGT, Int.reduceEq, Int.reduceNe, reduceCtorEq]; exact hv) (ents_not _)) ?_
  rintro r hp1 ⟨b, rfl, hb, rfl⟩
  have hbn : hp.mp b = none := hb.2.1
  simp only [go_sem, Nat.reduceEqDiff, Nat.reduceAdd, Nat.reduceSub, Nat.reduceLT, Nat.reduceMul, Nat.reduceBEq, Nat.reduceLeDiff, ↓reduceIte, Int.reduceToNat, Nat.reduceGT, Int.reduceLE, Int.reduceLT, Int.reduceGE, Int.reduceGT, Int.reduceEq, Int.reduceNe, reduceCtorEq, mset_ins]
  refine ret_le (hp' := hp.setMp b (ents (insB L s))) ⟨fun i x hi => ?_, fun _ _ h => h, List.Sublist.refl _, fun _ h => h⟩ ⟨b, rfl, hbn, rfl⟩
  have e4 : i ≠ b4 := by rintro rfl; have := hb4.1; simp only [go_sem, Nat.reduceEqDiff, Nat.reduceAdd, Nat.reduceSub, Nat.reduceLT, Nat.reduceMul, Nat.reduceBEq, Nat.reduceLeDiff, ↓reduceIte, Int.reduceToNat, Nat.reduceGT, Int.reduceLE, Int.reduceLT, Int.reduceGE, Int.reduceGT, Int.reduceEq, Int.reduceNe, reduceCtorEq] at hi; rw [this] at hi; cases hi
  simpa [Hp.setBlk, Hp.setMp, e4] using hi
theorem distinct_calls (h : Value) (l : List Bytes) (hp : Hp) (hg : GOk hp) : ACalls Tryz.prog 77 [strsAV h l] hp (fun r hp' => r = .v (.bool (distinctB l)) ∧ hp' = hp) := by
  refine acalls_fit (callable_of Tryz.func77 (by decide +kernel)) fun hfit => ?_
  have hl : l.length ≤ maxLen := fit_lst hfit.1
  refine acalls_of Tryz.func77 rfl (by decide +kernel) (awp_sound (mu := []) _ _ _ ?_)
  simp only [go_sem, Nat.reduceEqDiff, Nat.reduceAdd, Nat.reduceSub, Nat.reduceLT, Nat.reduceMul, Nat.reduceBEq, Nat.reduceLeDiff, ↓reduceIte, Int.reduceToNat, Nat.reduceGT, Int.reduceLE, Int.reduceLT, Int.reduceGE, Int.reduceGT, Int.reduceEq, Int.reduceNe, reduceCtorEq, strsAV]
  intro b hb
  have fin : ∀ es, hp.le (hp.setMp b es) := fun es => Hp.le_setMp hp b es hb.2.1
  refine aw_loopX 24 (fun k : Nat => [(3, .v (.map (some b))), (7, .lst 1 h (l.map fun s => .v (.string (bs s)))), (8, .v (.int .i64 l.length)), (9, .v (.int .i64 k))])
    (fun k => hp.setMp b (ents (l.take k))) (fun k => k ≤ l.length ∧ distinctF (l.take k) (l.drop k) = distinctF [] l) (fun k => l.length - k) 0 ⟨Nat.zero_le _, rfl⟩ (le_mkSl rfl (Hp.le_refl _) (by simp [go_sem])) ?_
  rintro k ⟨hk, hd⟩
  refine awp_sound (mu := []) _ _ _ ?_
  simp only [go_sem, Nat.reduceEqDiff, Nat.reduceAdd, Nat.reduceSub, Nat.reduceLT, Nat.reduceMul, Nat.reduceBEq, Nat.reduceLeDiff, ↓reduceIte, Int.reduceToNat, Nat.reduceGT, Int.reduceLE, Int.reduceLT, Int.reduceGE, Int.reduceGT, Int.reduceEq, Int.reduceNe, reduceCtorEq]
  refine brK_mk (fun h1 => ?_) (fun h1 => ?_) <;> simp only [go_sem, Nat.reduceEqDiff, Nat.reduceAdd, Nat.reduceSub, Nat.reduceLT, Nat.reduceMul, Nat.reduceBEq, Nat.reduceLeDiff, ↓reduceIte, Int.reduceToNat, Nat.reduceGT, Int.reduceLE, Int.reduceLT, Int.reduceGE, Int.reduceGT, Int.reduceEq, Int.reduceNe, reduceCtorEq, h1]
  · have hk' : k < l.length := by simpa using h1
    obtain ⟨x, hx⟩ := someAt l k hk'
    have hwu := upK k _ hk' hl
    rw [dropK hx, distinctF] at hd
    simp only [go_sem, Nat.reduceEqDiff, Nat.reduceAdd, Nat.reduceSub, Nat.reduceLT, Nat.reduceMul, Nat.reduceBEq, Nat.reduceLeDiff, ↓reduceIte, Int.reduceToNat, Nat.reduceGT, Int.reduceLE, Int.reduceLT, Int.reduceGE, Int.reduceGT, Int.reduceEq, Int.reduceNe, reduceCtorEq, strAt _ _ _ hx]
    refine callX_by (name_calls x _ hg) ?_
    rintro r hp1 ⟨rfl, rfl⟩
    simp only [go_sem, Nat.reduceEqDiff, Nat.reduceAdd, Nat.reduceSub, Nat.reduceLT, Nat.reduceMul, Nat.reduceBEq, Nat.reduceLeDiff, ↓reduceIte, Int.reduceToNat, Nat.reduceGT, Int.reduceLE, Int.reduceLT, Int.reduceGE, Int.reduceGT, Int.reduceEq, Int.reduceNe, reduceCtorEq]
    refine brK_mk (fun h2 => ?_) (fun h2 => ?_) <;> simp only [go_sem, Nat.reduceEqDiff, Nat.reduceAdd, Nat.reduceSub, Nat.reduceLT, Nat.reduceMul, Nat.reduceBEq, Nat.reduceLeDiff, ↓reduceIte, Int.reduceToNat, Nat.reduceGT, Int.reduceLE, Int.reduceLT, Int.reduceGE, Int.reduceGT, Int.reduceEq, Int.reduceNe, reduceCtorEq, h2]
    · refine brK_mk (fun h3 => ?_) (fun h3 => ?_) <;> simp only [go_sem, Nat.reduceEqDiff, Nat.reduceAdd, Nat.reduceSub, Nat.reduceLT, Nat.reduceMul, Nat.reduceBEq, Nat.reduceLeDiff, ↓reduceIte, Int.reduceToNat, Nat.reduceGT, Int.reduceLE, Int.reduceLT, Int.reduceGE, Int.reduceGT, Int.reduceEq, Int.reduceNe, reduceCtorEq, h3]
      · exact ret_le (fin _) ⟨by rw [distinctB, ← hd, h2, h3]; rfl, rfl⟩
      · simp only [mset_ents _ _ h3, hwu, go_sem, Nat.reduceEqDiff, Nat.reduceAdd, Nat.reduceSub, Nat.reduceLT, Nat.reduceMul, Nat.reduceBEq, Nat.reduceLeDiff, ↓reduceIte, Int.reduceToNat, Nat.reduceGT, Int.reduceLE, Int.reduceLT, Int.reduceGE, Int.reduceGT, Int.reduceEq, Int.reduceNe, reduceCtorEq]
        have htk : l.take (k + 1) = l.take k ++ [x] := by rw [List.take_add_one, hx]; rfl
        exact ⟨k + 1, by omega, ⟨by omega, by rw [← hd, h2, h3, htk]; rfl⟩, le_mkSl rfl (by rw [htk]; simp only [go_sem, Nat.reduceEqDiff, Nat.reduceAdd, Nat.reduceSub, Nat.reduceLT, Nat.reduceMul, Nat.reduceBEq, Nat.reduceLeDiff, ↓reduceIte, Int.reduceToNat, Nat.reduceGT, Int.reduceLE, Int.reduceLT, Int.reduceGE, Int.reduceGT, Int.reduceEq, Int.reduceNe, reduceCtorEq]; exact Hp.le_refl _) (by simp [go_sem, hwu])⟩
    · exact ret_le (fin _) ⟨by rw [distinctB, ← hd, h2]; rfl, rfl⟩
  · have e : l.length ≤ k := by simp at h1; omega
    rw [List.drop_of_length_le e] at hd
    exact ret_le (fin _) ⟨by rw [distinctB, ← hd]; rfl, rfl⟩
end Go.Proofs.YtkoachnlimebaaaGreatDoor
/- The layer 'term': nodes. -/
set_option linter.unusedSimpArgs false
set_option linter.unusedVariables false
set_option maxRecDepth 20000
namespace Go.Proofs.YtkoachnlimebaaaGreatDoor
open Go.AL

theorem producers_calls (x : XtorG) (hp : Hp) : ACalls Tryz.prog 129 [x.av] hp (fun r hp' => (r = .v (.int .i64 (prodN x)) ∧ prodN x ≤ maxLen) ∧ hp' = hp) := by
  refine acalls_fit (callable_of Tryz.func129 (by decide +kernel)) fun hfit => ?_
  have hl : x.args.length ≤ maxLen := by
    have h := hfit.1
    simp only [XtorG.av, XtorG.cs, AV.fit, AV.fits] at h
    exact fit_lst (f := ArgG.av) (sz := 2) (h := x.h) (l := x.args) (by simpa [AV.fit] using h.2.1)
  refine acalls_of Tryz.func129 rfl (by decide +kernel) (awp_sound (mu := []) _ _ _ ?_)
  simp only [go_sem, Nat.reduceEqDiff, Nat.reduceAdd, Nat.reduceSub, Nat.reduceLT, Nat.reduceBEq, Nat.reduceLeDiff, ↓reduceIte, Int.reduceToNat, Int.reduceLE, Int.reduceLT, Int.reduceEq, reduceCtorEq, XtorG.av, XtorG.cs]
  intro p
  refine aw_loopX 20 (fun k : Nat => [(3, .v (.int .i64 (((x.args.take k).filter fun a => !a.co).length : Nat))), (7, .lst 2 x.h (x.args.map ArgG.av)), (8, .v (.int .i64 x.args.length)), (9, .v (.int .i64 k))])
    (fun _ => hp) (fun k => k ≤ x.args.length) (fun k => x.args.length - k) 0 (Nat.zero_le _) (le_mkSl rfl (Hp.le_refl _) (by simp [go_sem])) ?_
  intro k hk
  refine awp_sound (mu := []) _ _ _ ?_
  simp only [go_sem, Nat.reduceEqDiff, Nat.reduceAdd, Nat.reduceSub, Nat.reduceLT, Nat.reduceBEq, Nat.reduceLeDiff, ↓reduceIte, Int.reduceToNat, Int.reduceLE, Int.reduceLT, Int.reduceEq, reduceCtorEq]
  refine brK_mk (fun h1 => ?_) (fun h1 => ?_) <;> simp only [go_sem, Nat.reduceEqDiff, Nat.reduceAdd, Nat.reduceSub, Nat.reduceLT, Nat.reduceBEq, Nat.reduceLeDiff, ↓reduceIte, Int.reduceToNat, Int.reduceLE, Int.reduceLT, Int.reduceEq, reduceCtorEq, h1]
  · have hk' : k < x.args.length := by simpa using h1
    obtain ⟨a, ha⟩ := someAt x.args k hk'
    have hwu := upK k _ hk' hl
    have hta : x.args.take (k + 1) = x.args.take k ++ [a] := by rw [List.take_add_one, ha]; rfl
    have hle : ((x.args.take k).filter fun a => !a.co).length ≤ k := Nat.le_trans (List.length_filter_le _ _) (by simp; omega)
    have hwc : IntKind.i64.wrap ((((x.args.take k).filter fun a => !a.co).length : Int) + 1) = (((x.args.take k).filter fun a => !a.co).length + 1 : Nat) := by
      simp only [maxLen] at hl; exact IntWalk.i64_in _ (by omega)
    simp only [go_sem, Nat.reduceEqDiff, Nat.reduceAdd, Nat.reduceSub, Nat.reduceLT, Nat.reduceBEq, Nat.reduceLeDiff, ↓reduceIte, Int.reduceToNat, Int.reduceLE, Int.reduceLT, Int.reduceEq, reduceCtorEq, mapAt ArgG.av _ _ _ ha, ArgG.av, ArgG.cs]
    intro v hv
    have hds := fun T cs => Hp.del_set _ _ T cs hv.1
    cases hco : a.co with
    | true =>
      simp only [go_sem, Nat.reduceEqDiff, Nat.reduceAdd, Nat.reduceSub, Nat.reduceLT, Nat.reduceBEq, Nat.reduceLeDiff, ↓reduceIte, Int.reduceToNat, Int.reduceLE, Int.reduceLT, Int.reduceEq, reduceCtorEq, hds, hwu]
      exact ⟨k + 1, by omega, by omega, le_mkSl rfl (Hp.le_refl _) (by rw [hta]; simp [go_sem, hwu, hco])⟩
    | false =>
      simp only [go_sem, Nat.reduceEqDiff, Nat.reduceAdd, Nat.reduceSub, Nat.reduceLT, Nat.reduceBEq, Nat.reduceLeDiff, ↓reduceIte, Int.reduceToNat, Int.reduceLE, Int.reduceLT, Int.reduceEq, reduceCtorEq, hds, hwu, hwc]
      exact ⟨k + 1, by omega, by omega, le_mkSl rfl (Hp.le_refl _) (by rw [hta]; simp [go_sem, hwu, hco, hwc])⟩
  · have e : k = x.args.length := by simp at h1; omega
    subst e
    rw [List.take_length]
    exact ret_same ⟨⟨rfl, Nat.le_trans (List.length_filter_le _ _) hl⟩, rfl⟩
theorem kind_calls (p : ProgG) (t : Int) (co : Bool) (hp : Hp) : ACalls Tryz.prog 128 [p.av, .v (.int .i64 t), .v (.bool co)] hp (fun r hp' => r = .v (.bool (dataB p.ds t co)) ∧ hp' = hp) := by
  refine acalls_fit (callable_of Tryz.func128 (by decide +kernel)) fun hfit => ?_
  have hl : p.ds.length ≤ maxLen := by
    have h := hfit.1
    simp only [ProgG.av, ProgG.cs, AV.fit, AV.fits, declsAV] at h
    exact fit_lst (f := DeclG.av) (sz := 3) (h := p.hd) (l := p.ds) (by simpa [AV.fit] using h.1)
  refine acalls_of Tryz.func128 rfl (by decide +kernel) (awp_sound (mu := []) _ _ _ ?_)
  simp only [go_sem, Nat.reduceEqDiff, Nat.reduceAdd, Nat.reduceSub, Nat.reduceLT, Nat.reduceBEq, Nat.reduceLeDiff, ↓reduceIte, Int.reduceToNat, Int.reduceLE, Int.reduceLT, Int.reduceEq, reduceCtorEq, ProgG.av, ProgG.cs, declsAV]
  intro q
  refine brK_mk (fun h1 => ?_) (fun h1 => ?_) <;> simp only [go_sem, Nat.reduceEqDiff, Nat.reduceAdd, Nat.reduceSub, Nat.reduceLT, Nat.reduceBEq, Nat.reduceLeDiff, ↓reduceIte, Int.reduceToNat, Int.reduceLE, Int.reduceLT, Int.reduceEq, reduceCtorEq, h1]
  · refine brK_mk (fun h2 => ?_) (fun h2 => ?_) <;> simp only [go_sem, Nat.reduceEqDiff, Nat.reduceAdd, Nat.reduceSub, Nat.reduceLT, Nat.reduceBEq, Nat.reduceLeDiff, ↓reduceIte, Int.reduceToNat, Int.reduceLE, Int.reduceLT, Int.reduceEq, reduceCtorEq, h2]
    · have t1 : 1 ≤ t := by simpa using h1
      have t2 : t ≤ p.ds.length := by simpa using h2
      have hw : IntKind.i64.wrap (t - 1) = t - 1 := by simp only [maxLen] at hl; exact IntWalk.i64_in _ (by omega)
      obtain ⟨d, hd⟩ := someAt p.ds (t - 1).toNat (by omega)
      simp only [go_sem, Nat.reduceEqDiff, Nat.reduceAdd, Nat.reduceSub, Nat.reduceLT, Nat.reduceBEq, Nat.reduceLeDiff, ↓reduceIte, Int.reduceToNat, Int.reduceLE, Int.reduceLT, Int.reduceEq, reduceCtorEq, hw, mapAt DeclG.av _ _ _ hd, DeclG.av, DeclG.cs]
      refine ⟨by omega, ?_⟩
      exact ret_same ⟨by simp only [dataB, codataB, h1, h2, hd, Option.map_some, Option.getD_some, Bool.true_and], rfl⟩
    · exact ret_same ⟨by simp only [dataB, h1, h2, Bool.and_false, Bool.false_and], rfl⟩
  · exact ret_same ⟨by simp only [dataB, h1, Bool.false_and], rfl⟩
theorem typ_calls (p : ProgG) (t : Int) (hp : Hp) : ACalls Tryz.prog 76 [p.av, .v (.int .i64 t)] hp (fun r hp' => r = .v (.bool (typB p.ds t)) ∧ hp' = hp) := by
  refine acalls_of Tryz.func76 rfl (by decide +kernel) (awp_sound (mu := []) _ _ _ ?_)
  simp only [go_sem, Nat.reduceEqDiff, Nat.reduceAdd, Nat.reduceSub, Nat.reduceLT, Nat.reduceBEq, Nat.reduceLeDiff, ↓reduceIte, Int.reduceToNat, Int.reduceLE, Int.reduceLT, Int.reduceEq, reduceCtorEq, ProgG.av, ProgG.cs, declsAV]
  intro q
  refine brK_mk (fun h1 => ?_) (fun h1 => ?_) <;> simp only [go_sem, Nat.reduceEqDiff, Nat.reduceAdd, Nat.reduceSub, Nat.reduceLT, Nat.reduceBEq, Nat.reduceLeDiff, ↓reduceIte, Int.reduceToNat, Int.reduceLE, Int.reduceLT, Int.reduceEq, reduceCtorEq, h1]
  · exact ret_same ⟨by simp only [typB, h1, Bool.true_and], rfl⟩
  · exact ret_same ⟨by simp only [typB, h1, Bool.false_and], rfl⟩
def fieldsB (t : TermG) (n name ty : Bool) (k : Int) : Bool := (n || decide (t.n = 0)) && (name || decide (t.name = [])) && (ty || decide (t.ty = 0)) && decide ((t.args.length : Int) = k)
theorem fields_calls (t : TermG) (n name ty : Bool) (k : Int) (hp : Hp) : ACalls Tryz.prog 126 [t.av, .v (.bool n), .v (.bool name), .v (.bool ty), .v (.int .i64 k)] hp (fun r hp' => r = .v (.bool (fieldsB t n name ty k)) ∧ hp' = hp) := by
  refine acalls_of Tryz.func126 rfl (by decide +kernel) (awp_sound (mu := []) _ _ _ ?_)
  cases n <;> cases name <;> cases ty <;> simp only [go_sem, Nat.reduceEqDiff, Nat.reduceAdd, Nat.reduceSub, Nat.reduceLT, Nat.reduceBEq, Nat.reduceLeDiff, ↓reduceIte, Int.reduceToNat, Int.reduceLE, Int.reduceLT, Int.reduceEq, reduceCtorEq, TermG.av, TermG.cs_eq] <;> intro q
  all_goals
    repeat' (refine brK_mk (fun h => ?_) (fun h => ?_) <;> simp only [go_sem, Nat.reduceEqDiff, Nat.reduceAdd, Nat.reduceSub, Nat.reduceLT, Nat.reduceBEq, Nat.reduceLeDiff, ↓reduceIte, Int.reduceToNat, Int.reduceLE, Int.reduceLT, Int.reduceEq, reduceCtorEq, h])
    all_goals exact ret_same ⟨by simp only [fieldsB, *, Bool.and_true, Bool.true_and, Bool.and_false, Bool.false_and, Bool.or_true, Bool.true_or, Bool.or_false, Bool.false_or, Bool.not_true, Bool.not_false], rfl⟩
end Go.Proofs.YtkoachnlimebaaaGreatDoor
