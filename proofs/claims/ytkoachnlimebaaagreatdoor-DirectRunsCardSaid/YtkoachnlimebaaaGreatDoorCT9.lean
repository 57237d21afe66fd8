/- The layer 'term': valid programs. -/
import Derived.Test.YtkoachnlimebaaaGreatDoorCT7
import Derived.Test.YtkoachnlimebaaaGreatDoorCAL17
set_option linter.unusedSimpArgs false
set_option linter.unusedVariables false
set_option maxRecDepth 20000
set_option maxHeartbeats 4000000
namespace Go.Proofs.YtkoachnlimebaaaGreatDoor
open Go.AL

def paramX (ds : List DeclG) (i : Nat) (x : ParamG) : Bool := typB ds x.ty && !(decide ((i : Int) = 0) && !decide (x.ty = 0))
def headX (ds : List DeclG) (i : Nat) (f : FunG) : Bool :=
  f.params.all (paramX ds i) && (!decide ((f.params.length : Int) > 6) && (distinctB (f.params.map ParamG.name) && (typB ds f.res && !(decide ((i : Int) = 0) && !decide (f.res = 0)))))
def headsB (ds : List DeclG) : Nat → List FunG → Bool
  | _, [] => true
  | i, f :: r => headX ds i f && headsB ds (i + 1) r
def bodiesB (ds : List DeclG) (pf : List Nat) : Int → List FunG → Bool
  | _, [] => true
  | left, f :: r => okB left 1 (nodesT f.body) (depthT f.body) (validT ds pf (hasB (f.params.map ParamG.name)) (fun _ => false) f.body) && bodiesB ds pf (left - nodesT f.body) r
def progB (p : ProgG) : Bool :=
  (validB p.ds && sourceB p.ds) && (!decide ((p.fs.length : Int) < 1) && (!decide ((p.fs.length : Int) > 12) && (headsB p.ds 0 p.fs && (distinctB (p.fs.map FunG.name) && bodiesB p.ds p.pf 600 p.fs))))
/-- Parameter lists as long as a process can hold. -/
def PFit (p : ProgG) : Prop := ∀ f ∈ p.fs, f.params.length ≤ 5864062014634
theorem checkE_ok (l : List DeclG) : decide (checkE l = 0) = validB l := by
  unfold checkE
  cases validB l <;> simp
theorem strs_one (l : List Bytes) : ((l.map fun s => AV.v (.string (bs s))).flatMap AV.cells).all AV.one = true := by
  induction l with
  | nil => rfl
  | cons a l ih => rw [List.map_cons, List.flatMap_cons, List.all_append, ih]; rfl

theorem small_fits (n : Nat) : ∀ (xs : List XtorG) (seen s : List Bytes), fitsAll n seen xs = some s → ∀ x ∈ xs, x.args.length ≤ 6
  | [], _, _, _, x, hx => by cases hx
  | y :: r, seen, s, h, x, hx => by
    rw [fitsAll] at h
    split at h
    · rename_i hy
      rcases List.mem_cons.1 hx with rfl | hx
      · simp only [xtorB, Bool.and_eq_true, Bool.not_eq_true', decide_eq_false_iff_not] at hy
        have := hy.1.2; omega
      · exact small_fits n r _ s h x hx
    · cases h
theorem small_from (n : Nat) : ∀ (l : List DeclG) (names seen : List Bytes), validFrom n names seen l = true → SmallX l
  | [], _, _, _ => fun d hd => by cases hd
  | d :: r, names, seen, h => by
    rw [validFrom, Bool.and_eq_true] at h
    cases hf : fitsAll n seen d.xtors with
    | none => rw [hf] at h; cases h.2
    | some s =>
      rw [hf] at h
      intro e he
      rcases List.mem_cons.1 he with rfl | he
      · exact small_fits n _ _ _ hf
      · exact small_from n r _ _ h.2 e he
theorem small_valid {l : List DeclG} (h : validB l = true) : SmallX l := by
  rw [validB, Bool.and_eq_true] at h; exact small_from _ _ _ _ h.2
theorem hasB_nil : hasB [] = fun _ => false := rfl
theorem insL_nil (l : List Bytes) : hasB (insL [] l) = hasB l := by funext x; rw [has_insL, hasB_nil]; simp

theorem validP_calls (p : ProgG) (hpf : PFit p) (hp : Hp) (hg : GOk hp) : ACalls Tryz.prog 33 [p.av] hp (fun r hp' => r = .v (.bool (progB p)) ∧ hp' = hp) := by
  refine acalls_fit (callable_of Tryz.func33 (by decide +kernel)) fun hfit => ?_
  have hfl : p.fs.length ≤ maxLen := by
    have h := hfit.1
    simp only [ProgG.av, ProgG.cs, AV.fit, AV.fits, declsAV, funsAV] at h
    exact fit_lst (f := FunG.av) (sz := 9) (h := p.hf) (l := p.fs) (by simpa [AV.fit] using h.2.1)
  clear hfit
  refine acalls_addNil 9 1 ?_
  refine acalls_of Tryz.func33 rfl (by decide +kernel) (awp_sound (mu := [12]) _ _ _ ?_)
  simp only [go_sem, Nat.reduceEqDiff, Nat.reduceAdd, Nat.reduceSub, Nat.reduceLT, Nat.reduceMul, Nat.reduceBEq, Nat.reduceLeDiff, ↓reduceIte, Int.reduceToNat, Nat.reduceGT, Int.reduceLE, Int.reduceLT, Int.reduceGE, Int.reduceGT, Int.reduceEq, Int.reduceNe, reduceCtorEq, ProgG.av, ProgG.cs]
  intro q1
  refine callX_by (source_calls p.hd p.ds _ hg) ?_
  rintro r hp1 ⟨rfl, rfl⟩
  simp only [go_sem, Nat.reduceEqDiff, Nat.reduceAdd, Nat.reduceSub, Nat.reduceLT, Nat.reduceMul, Nat.reduceBEq, Nat.reduceLeDiff, ↓reduceIte, Int.reduceToNat, Nat.reduceGT, Int.reduceLE, Int.reduceLT, Int.reduceGE, Int.reduceGT, Int.reduceEq, Int.reduceNe, reduceCtorEq, checkE_ok]
  cases hvb : validB p.ds with
  | false =>
    simp only [go_sem, Nat.reduceEqDiff, Nat.reduceAdd, Nat.reduceSub, Nat.reduceLT, Nat.reduceMul, Nat.reduceBEq, Nat.reduceLeDiff, ↓reduceIte, Int.reduceToNat, Nat.reduceGT, Int.reduceLE, Int.reduceLT, Int.reduceGE, Int.reduceGT, Int.reduceEq, Int.reduceNe, reduceCtorEq, hvb]
    exact ret_le (Hp.le_addSp _ _) ⟨by simp only [progB, hvb, Bool.and_true, Bool.true_and, Bool.and_false, Bool.false_and, Bool.or_true, Bool.true_or, Bool.or_false, Bool.false_or, Bool.not_true, Bool.not_false], rfl⟩
  | true =>
    simp only [go_sem, Nat.reduceEqDiff, Nat.reduceAdd, Nat.reduceSub, Nat.reduceLT, Nat.reduceMul, Nat.reduceBEq, Nat.reduceLeDiff, ↓reduceIte, Int.reduceToNat, Nat.reduceGT, Int.reduceLE, Int.reduceLT, Int.reduceGE, Int.reduceGT, Int.reduceEq, Int.reduceNe, reduceCtorEq, hvb]
    cases hsb : sourceB p.ds with
    | false =>
      simp only [go_sem, Nat.reduceEqDiff, Nat.reduceAdd, Nat.reduceSub, Nat.reduceLT, Nat.reduceMul, Nat.reduceBEq, Nat.reduceLeDiff, ↓reduceIte, Int.reduceToNat, Nat.reduceGT, Int.reduceLE, Int.reduceLT, Int.reduceGE, Int.reduceGT, Int.reduceEq, Int.reduceNe, reduceCtorEq, hsb]
      exact ret_le (Hp.le_addSp _ _) ⟨by simp only [progB, hvb, hsb, Bool.and_true, Bool.true_and, Bool.and_false, Bool.false_and, Bool.or_true, Bool.true_or, Bool.or_false, Bool.false_or, Bool.not_true, Bool.not_false], rfl⟩
    | true =>
      simp only [go_sem, Nat.reduceEqDiff, Nat.reduceAdd, Nat.reduceSub, Nat.reduceLT, Nat.reduceMul, Nat.reduceBEq, Nat.reduceLeDiff, ↓reduceIte, Int.reduceToNat, Nat.reduceGT, Int.reduceLE, Int.reduceLT, Int.reduceGE, Int.reduceGT, Int.reduceEq, Int.reduceNe, reduceCtorEq, funsAV, declsAV, List.length_map]
      refine brK_mk (fun b1 => ?_) (fun b1 => ?_) <;> simp only [go_sem, Nat.reduceEqDiff, Nat.reduceAdd, Nat.reduceSub, Nat.reduceLT, Nat.reduceMul, Nat.reduceBEq, Nat.reduceLeDiff, ↓reduceIte, Int.reduceToNat, Nat.reduceGT, Int.reduceLE, Int.reduceLT, Int.reduceGE, Int.reduceGT, Int.reduceEq, Int.reduceNe, reduceCtorEq, b1]
      · exact ret_le (Hp.le_addSp _ _) ⟨by simp only [progB, b1, hvb, hsb, Bool.and_true, Bool.true_and, Bool.and_false, Bool.false_and, Bool.or_true, Bool.true_or, Bool.or_false, Bool.false_or, Bool.not_true, Bool.not_false], rfl⟩
      · refine brK_mk (fun b2 => ?_) (fun b2 => ?_) <;> simp only [go_sem, Nat.reduceEqDiff, Nat.reduceAdd, Nat.reduceSub, Nat.reduceLT, Nat.reduceMul, Nat.reduceBEq, Nat.reduceLeDiff, ↓reduceIte, Int.reduceToNat, Nat.reduceGT, Int.reduceLE, Int.reduceLT, Int.reduceGE, Int.reduceGT, Int.reduceEq, Int.reduceNe, reduceCtorEq, b2]
        · exact ret_le (Hp.le_addSp _ _) ⟨by simp only [progB, b1, b2, hvb, hsb, Bool.and_true, Bool.true_and, Bool.and_false, Bool.false_and, Bool.or_true, Bool.true_or, Bool.or_false, Bool.false_or, Bool.not_true, Bool.not_false], rfl⟩
        · have hF : p.fs.length ≤ 12 := by simp at b2; omega
          intro v5 hv5
          have hd5 := fun T cs => Hp.del_set _ _ T cs hv5.1
          simp only [go_sem, Nat.reduceEqDiff, Nat.reduceAdd, Nat.reduceSub, Nat.reduceLT, Nat.reduceMul, Nat.reduceBEq, Nat.reduceLeDiff, ↓reduceIte, Int.reduceToNat, Nat.reduceGT, Int.reduceLE, Int.reduceLT, Int.reduceGE, Int.reduceGT, Int.reduceEq, Int.reduceNe, reduceCtorEq, hd5]
          have hpB : progB p = (headsB p.ds 0 p.fs && (distinctB (p.fs.map FunG.name) && bodiesB p.ds p.pf 600 p.fs)) := by simp only [progB, b1, b2, hvb, hsb, Bool.and_true, Bool.true_and, Bool.and_false, Bool.false_and, Bool.or_true, Bool.true_or, Bool.or_false, Bool.false_or, Bool.not_true, Bool.not_false]
          refine aw_loopX 142 (fun x : Nat × Value => [(1, .ref q1 [.lst 3 p.hd (p.ds.map DeclG.av), .lst 9 p.hf (p.fs.map FunG.av)]), (5, .ref (.pointer (some ⟨v5, 0, none⟩)) [.lst 3 p.hd (p.ds.map DeclG.av), .lst 9 p.hf (p.fs.map FunG.av)]), (6, strsAV x.2 ((p.fs.take x.1).map FunG.name)), (46, .lst 9 p.hf (p.fs.map FunG.av)), (47, .v (.int .i64 p.fs.length)), (48, .v (.int .i64 x.1))])
            (fun x => hp.setSp ((9, 1, x.2) :: hp.sp)) (fun x => x.1 ≤ p.fs.length ∧ headsB p.ds x.1 (p.fs.drop x.1) = headsB p.ds 0 p.fs) (fun x => p.fs.length - x.1) (0, .slice none 0 0) ⟨Nat.zero_le _, rfl⟩
            (le_of_cast rfl (Hp.le_refl _) (by simp [go_sem, Cast.refl, strsAV]; exact Cast.nil 1)) ?_
          rintro ⟨k, h6⟩ ⟨hk, hh⟩
          simp only at hk hh
          refine awp_sound (mu := [12]) _ _ _ ?_
          simp only [go_sem, Nat.reduceEqDiff, Nat.reduceAdd, Nat.reduceSub, Nat.reduceLT, Nat.reduceMul, Nat.reduceBEq, Nat.reduceLeDiff, ↓reduceIte, Int.reduceToNat, Nat.reduceGT, Int.reduceLE, Int.reduceLT, Int.reduceGE, Int.reduceGT, Int.reduceEq, Int.reduceNe, reduceCtorEq, strsAV]
          refine brK_mk (fun b3 => ?_) (fun b3 => ?_) <;> simp only [go_sem, Nat.reduceEqDiff, Nat.reduceAdd, Nat.reduceSub, Nat.reduceLT, Nat.reduceMul, Nat.reduceBEq, Nat.reduceLeDiff, ↓reduceIte, Int.reduceToNat, Nat.reduceGT, Int.reduceLE, Int.reduceLT, Int.reduceGE, Int.reduceGT, Int.reduceEq, Int.reduceNe, reduceCtorEq, b3]
          · have hk' : k < p.fs.length := by simpa using b3
            obtain ⟨f, hf⟩ := someAt p.fs k hk'
            have hwu := upK k _ hk' hfl
            have hpfb := hpf f (List.mem_of_getElem? hf)
            rw [dropK hf, headsB] at hh
            have htk : (p.fs.take (k + 1)).map FunG.name = (p.fs.take k).map FunG.name ++ [f.name] := by rw [List.take_add_one, hf]; simp
            simp only [go_sem, Nat.reduceEqDiff, Nat.reduceAdd, Nat.reduceSub, Nat.reduceLT, Nat.reduceMul, Nat.reduceBEq, Nat.reduceLeDiff, ↓reduceIte, Int.reduceToNat, Nat.reduceGT, Int.reduceLE, Int.reduceLT, Int.reduceGE, Int.reduceGT, Int.reduceEq, Int.reduceNe, reduceCtorEq, mapAt FunG.av _ _ _ hf, FunG.av, FunG.cs, paramsAV]
            intro v8 hv8
            have hd8 := fun T cs => Hp.del_set _ _ T cs hv8.1
            simp only [go_sem, Nat.reduceEqDiff, Nat.reduceAdd, Nat.reduceSub, Nat.reduceLT, Nat.reduceMul, Nat.reduceBEq, Nat.reduceLeDiff, ↓reduceIte, Int.reduceToNat, Nat.reduceGT, Int.reduceLE, Int.reduceLT, Int.reduceGE, Int.reduceGT, Int.reduceEq, Int.reduceNe, reduceCtorEq, hd8]
            refine ⟨rfl, by simp, fun hd' => ?_⟩
            refine append_by (a := strsAV h6 ((p.fs.take k).map FunG.name)) (b := .lst 1 hd' [.v (.string (bs f.name))]) (l1 := [(9, 1, hd')]) (l2 := hp.sp) (h := h6) (h2 := hd') Tryz.k101 Tryz.s9 Tryz.y9 Tryz.z9 rfl (by decide)
              (by simp [go_sem, strsAV]) (Cast.refl _) (by simp [go_sem]) (Cast.refl _) (by simp [go_sem]) (by simp [go_sem]) (by simp [maxLen]; omega) (by simp; omega) (by simp [go_sem]) (fun h7 => ?_)
            simp only [go_sem, Nat.reduceEqDiff, Nat.reduceAdd, Nat.reduceSub, Nat.reduceLT, Nat.reduceMul, Nat.reduceBEq, Nat.reduceLeDiff, ↓reduceIte, Int.reduceToNat, Nat.reduceGT, Int.reduceLE, Int.reduceLT, Int.reduceGE, Int.reduceGT, Int.reduceEq, Int.reduceNe, reduceCtorEq]
            refine addNil_by 9 1 ?_
            refine aw_loopX 142 (fun x : Nat × Value => [(1, .ref q1 [.lst 3 p.hd (p.ds.map DeclG.av), .lst 9 p.hf (p.fs.map FunG.av)]), (5, .ref (.pointer (some ⟨v5, 0, none⟩)) [.lst 3 p.hd (p.ds.map DeclG.av), .lst 9 p.hf (p.fs.map FunG.av)]), (6, strsAV h7 ((p.fs.take (k + 1)).map FunG.name)), (7, .v (.int .i64 k)), (8, .ref (.pointer (some ⟨v8, 0, none⟩)) [.v (.string (bs f.name)), .lst 2 f.hp (f.params.map ParamG.av), .v (.int .i64 f.res), .v (.int .i64 f.body.op), .v (.int .i64 f.body.n), .v (.string (bs f.body.name)), .v (.int .i64 f.body.ty), .lst 6 f.body.ha (f.body.args.map TermG.av), .lst 7 f.body.hc (f.body.cls.map ClauseG.av)]), (9, strsAV x.2 ((f.params.take x.1).map ParamG.name)), (46, .lst 9 p.hf (p.fs.map FunG.av)), (47, .v (.int .i64 p.fs.length)), (48, .v (.int .i64 k)), (59, .lst 2 f.hp (f.params.map ParamG.av)), (60, .v (.int .i64 f.params.length)), (61, .v (.int .i64 x.1))])
              (fun x => hp.setSp ((9, 1, x.2) :: (9, 1, h7) :: hp.sp)) (fun x => x.1 ≤ f.params.length ∧ (f.params.take x.1).all (paramX p.ds k) = true) (fun x => f.params.length - x.1) (0, .slice none 0 0) ⟨Nat.zero_le _, rfl⟩
              (le_of_cast rfl ⟨fun _ _ h => h, fun _ _ h => h, List.Sublist.cons_cons _ (List.sublist_cons_self _ _), fun _ h => h⟩ (by simp [go_sem, Cast.refl, strsAV, htk]; exact Cast.nil 1)) ?_
            rintro ⟨j, h9⟩ ⟨hj, hall⟩
            simp only at hj hall
            refine awp_sound (mu := [12]) _ _ _ ?_
            simp only [go_sem, Nat.reduceEqDiff, Nat.reduceAdd, Nat.reduceSub, Nat.reduceLT, Nat.reduceMul, Nat.reduceBEq, Nat.reduceLeDiff, ↓reduceIte, Int.reduceToNat, Nat.reduceGT, Int.reduceLE, Int.reduceLT, Int.reduceGE, Int.reduceGT, Int.reduceEq, Int.reduceNe, reduceCtorEq, strsAV]
            refine brK_mk (fun b4 => ?_) (fun b4 => ?_) <;> simp only [go_sem, Nat.reduceEqDiff, Nat.reduceAdd, Nat.reduceSub, Nat.reduceLT, Nat.reduceMul, Nat.reduceBEq, Nat.reduceLeDiff, ↓reduceIte, Int.reduceToNat, Nat.reduceGT, Int.reduceLE, Int.reduceLT, Int.reduceGE, Int.reduceGT, Int.reduceEq, Int.reduceNe, reduceCtorEq, b4]
            · have hj' : j < f.params.length := by simpa using b4
              obtain ⟨x, hx⟩ := someAt f.params j hj'
              have hwj : IntKind.i64.wrap ((j : Int) + 1) = ((j + 1 : Nat) : Int) := IntWalk.i64_in _ (by omega)
              have htj : (f.params.take (j + 1)).map ParamG.name = (f.params.take j).map ParamG.name ++ [x.name] := by rw [List.take_add_one, hx]; simp
              have hta : f.params.take (j + 1) = f.params.take j ++ [x] := by rw [List.take_add_one, hx]; rfl
              have hbad : paramX p.ds k x = false → headX p.ds k f = false := fun e => by
                have : f.params.all (paramX p.ds k) = false := by
                  rw [List.all_eq_false]; exact ⟨x, List.mem_of_getElem? hx, by rw [e]; decide⟩
                rw [headX, this, Bool.false_and]
              simp only [go_sem, Nat.reduceEqDiff, Nat.reduceAdd, Nat.reduceSub, Nat.reduceLT, Nat.reduceMul, Nat.reduceBEq, Nat.reduceLeDiff, ↓reduceIte, Int.reduceToNat, Nat.reduceGT, Int.reduceLE, Int.reduceLT, Int.reduceGE, Int.reduceGT, Int.reduceEq, Int.reduceNe, reduceCtorEq, mapAt ParamG.av _ _ _ hx, ParamG.av, ParamG.cs]
              intro v11 hv11
              have hd11 := fun T cs => Hp.del_set _ _ T cs hv11.1
              simp only [go_sem, Nat.reduceEqDiff, Nat.reduceAdd, Nat.reduceSub, Nat.reduceLT, Nat.reduceMul, Nat.reduceBEq, Nat.reduceLeDiff, ↓reduceIte, Int.reduceToNat, Nat.reduceGT, Int.reduceLE, Int.reduceLT, Int.reduceGE, Int.reduceGT, Int.reduceEq, Int.reduceNe, reduceCtorEq, hd11]
              refine ⟨rfl, by simp, fun hd2 => ?_⟩
              refine append_by (a := strsAV h9 ((f.params.take j).map ParamG.name)) (b := .lst 1 hd2 [.v (.string (bs x.name))]) (l1 := [(9, 1, hd2)]) (l2 := (9, 1, h7) :: hp.sp) (h := h9) (h2 := hd2) Tryz.k101 Tryz.s9 Tryz.y9 Tryz.z9 rfl (by decide)
                (by simp [go_sem, strsAV]) (Cast.refl _) (by simp [go_sem]) (Cast.refl _) (by simp [go_sem]) (by simp [go_sem]) (by simp [maxLen]; omega) (by simp; omega) (by simp [go_sem]) (fun h10 => ?_)
              simp only [go_sem, Nat.reduceEqDiff, Nat.reduceAdd, Nat.reduceSub, Nat.reduceLT, Nat.reduceMul, Nat.reduceBEq, Nat.reduceLeDiff, ↓reduceIte, Int.reduceToNat, Nat.reduceGT, Int.reduceLE, Int.reduceLT, Int.reduceGE, Int.reduceGT, Int.reduceEq, Int.reduceNe, reduceCtorEq]
              have c0 := typ_calls p x.ty (hp.setSp ([(9, 1, hd2)] ++ (9, 1, h10) :: (9, 1, h7) :: hp.sp))
              simp only [ProgG.av, ProgG.cs, declsAV, funsAV] at c0
              refine callX_by c0 ?_
              clear c0
              rintro r hp1 ⟨rfl, rfl⟩
              simp only [go_sem, Nat.reduceEqDiff, Nat.reduceAdd, Nat.reduceSub, Nat.reduceLT, Nat.reduceMul, Nat.reduceBEq, Nat.reduceLeDiff, ↓reduceIte, Int.reduceToNat, Nat.reduceGT, Int.reduceLE, Int.reduceLT, Int.reduceGE, Int.reduceGT, Int.reduceEq, Int.reduceNe, reduceCtorEq]
              have next : paramX p.ds k x = true → (f.params.take (j + 1)).all (paramX p.ds k) = true := fun e => by rw [hta, List.all_append, hall]; simp [e]
              refine brK_mk (fun b5 => ?_) (fun b5 => ?_) <;> simp only [go_sem, Nat.reduceEqDiff, Nat.reduceAdd, Nat.reduceSub, Nat.reduceLT, Nat.reduceMul, Nat.reduceBEq, Nat.reduceLeDiff, ↓reduceIte, Int.reduceToNat, Nat.reduceGT, Int.reduceLE, Int.reduceLT, Int.reduceGE, Int.reduceGT, Int.reduceEq, Int.reduceNe, reduceCtorEq, b5]
              · refine brK_mk (fun b6 => ?_) (fun b6 => ?_) <;> simp only [go_sem, Nat.reduceEqDiff, Nat.reduceAdd, Nat.reduceSub, Nat.reduceLT, Nat.reduceMul, Nat.reduceBEq, Nat.reduceLeDiff, ↓reduceIte, Int.reduceToNat, Nat.reduceGT, Int.reduceLE, Int.reduceLT, Int.reduceGE, Int.reduceGT, Int.reduceEq, Int.reduceNe, reduceCtorEq, b6]
                · refine brK_mk (fun b7 => ?_) (fun b7 => ?_) <;> simp only [go_sem, Nat.reduceEqDiff, Nat.reduceAdd, Nat.reduceSub, Nat.reduceLT, Nat.reduceMul, Nat.reduceBEq, Nat.reduceLeDiff, ↓reduceIte, Int.reduceToNat, Nat.reduceGT, Int.reduceLE, Int.reduceLT, Int.reduceGE, Int.reduceGT, Int.reduceEq, Int.reduceNe, reduceCtorEq, b7, hwj]
                  · exact ⟨(j + 1, h10), by simp only; omega, ⟨by simp only; omega, next (by simp only [paramX, b5, b6, b7, Bool.and_true, Bool.true_and, Bool.and_false, Bool.false_and, Bool.or_true, Bool.true_or, Bool.or_false, Bool.false_or, Bool.not_true, Bool.not_false])⟩, le_mkSl rfl ⟨fun _ _ h => h, fun _ _ h => h, List.sublist_cons_self _ _, fun _ h => h⟩ (by simp [go_sem, hwj, strsAV, htj])⟩
                  · exact ret_le (hp' := hp) ⟨fun _ _ h => h, fun _ _ h => h, ((List.sublist_cons_self _ _).trans (List.sublist_cons_self _ _)).trans (List.sublist_cons_self _ _), fun _ h => h⟩ ⟨by rw [hpB, ← hh, hbad (by simp only [paramX, b5, b6, b7, Bool.and_true, Bool.true_and, Bool.and_false, Bool.false_and, Bool.or_true, Bool.true_or, Bool.or_false, Bool.false_or, Bool.not_true, Bool.not_false]), Bool.false_and]; simp, rfl⟩
                · simp only [hwj]
                  exact ⟨(j + 1, h10), by simp only; omega, ⟨by simp only; omega, next (by simp only [paramX, b5, b6, Bool.and_true, Bool.true_and, Bool.and_false, Bool.false_and, Bool.or_true, Bool.true_or, Bool.or_false, Bool.false_or, Bool.not_true, Bool.not_false])⟩, le_mkSl rfl ⟨fun _ _ h => h, fun _ _ h => h, List.sublist_cons_self _ _, fun _ h => h⟩ (by simp [go_sem, hwj, strsAV, htj])⟩
              · exact ret_le (hp' := hp) ⟨fun _ _ h => h, fun _ _ h => h, ((List.sublist_cons_self _ _).trans (List.sublist_cons_self _ _)).trans (List.sublist_cons_self _ _), fun _ h => h⟩ ⟨by rw [hpB, ← hh, hbad (by simp only [paramX, b5, Bool.and_true, Bool.true_and, Bool.and_false, Bool.false_and, Bool.or_true, Bool.true_or, Bool.or_false, Bool.false_or, Bool.not_true, Bool.not_false]), Bool.false_and]; simp, rfl⟩
            · have e : j = f.params.length := by simp at b4; omega
              subst e
              rw [List.take_length] at hall
              simp only [List.take_length, List.length_map, go_sem, Nat.reduceEqDiff, Nat.reduceAdd, Nat.reduceSub, Nat.reduceLT, Nat.reduceMul, Nat.reduceBEq, Nat.reduceLeDiff, ↓reduceIte, Int.reduceToNat, Nat.reduceGT, Int.reduceLE, Int.reduceLT, Int.reduceGE, Int.reduceGT, Int.reduceEq, Int.reduceNe, reduceCtorEq]
              refine brK_mk (fun b8 => ?_) (fun b8 => ?_) <;> simp only [go_sem, Nat.reduceEqDiff, Nat.reduceAdd, Nat.reduceSub, Nat.reduceLT, Nat.reduceMul, Nat.reduceBEq, Nat.reduceLeDiff, ↓reduceIte, Int.reduceToNat, Nat.reduceGT, Int.reduceLE, Int.reduceLT, Int.reduceGE, Int.reduceGT, Int.reduceEq, Int.reduceNe, reduceCtorEq, b8]
              · exact ret_le (hp' := hp) ⟨fun _ _ h => h, fun _ _ h => h, (List.sublist_cons_self _ _).trans (List.sublist_cons_self _ _), fun _ h => h⟩ ⟨by rw [hpB, ← hh, headX, hall, b8]; simp, rfl⟩
              · refine callX_by (distinct_calls h9 (f.params.map ParamG.name) _ hg) ?_
                rintro r hp1 ⟨rfl, rfl⟩
                simp only [go_sem, Nat.reduceEqDiff, Nat.reduceAdd, Nat.reduceSub, Nat.reduceLT, Nat.reduceMul, Nat.reduceBEq, Nat.reduceLeDiff, ↓reduceIte, Int.reduceToNat, Nat.reduceGT, Int.reduceLE, Int.reduceLT, Int.reduceGE, Int.reduceGT, Int.reduceEq, Int.reduceNe, reduceCtorEq]
                refine brK_mk (fun b9 => ?_) (fun b9 => ?_) <;> simp only [go_sem, Nat.reduceEqDiff, Nat.reduceAdd, Nat.reduceSub, Nat.reduceLT, Nat.reduceMul, Nat.reduceBEq, Nat.reduceLeDiff, ↓reduceIte, Int.reduceToNat, Nat.reduceGT, Int.reduceLE, Int.reduceLT, Int.reduceGE, Int.reduceGT, Int.reduceEq, Int.reduceNe, reduceCtorEq, b9]
                · have c0 := typ_calls p f.res (hp.setSp ((9, 1, h9) :: (9, 1, h7) :: hp.sp))
                  simp only [ProgG.av, ProgG.cs, declsAV, funsAV] at c0
                  refine callX_by c0 ?_
                  clear c0
                  rintro r hp1 ⟨rfl, rfl⟩
                  simp only [go_sem, Nat.reduceEqDiff, Nat.reduceAdd, Nat.reduceSub, Nat.reduceLT, Nat.reduceMul, Nat.reduceBEq, Nat.reduceLeDiff, ↓reduceIte, Int.reduceToNat, Nat.reduceGT, Int.reduceLE, Int.reduceLT, Int.reduceGE, Int.reduceGT, Int.reduceEq, Int.reduceNe, reduceCtorEq]
                  refine brK_mk (fun b10 => ?_) (fun b10 => ?_) <;> simp only [go_sem, Nat.reduceEqDiff, Nat.reduceAdd, Nat.reduceSub, Nat.reduceLT, Nat.reduceMul, Nat.reduceBEq, Nat.reduceLeDiff, ↓reduceIte, Int.reduceToNat, Nat.reduceGT, Int.reduceLE, Int.reduceLT, Int.reduceGE, Int.reduceGT, Int.reduceEq, Int.reduceNe, reduceCtorEq, b10]
                  · refine brK_mk (fun b11 => ?_) (fun b11 => ?_) <;> simp only [go_sem, Nat.reduceEqDiff, Nat.reduceAdd, Nat.reduceSub, Nat.reduceLT, Nat.reduceMul, Nat.reduceBEq, Nat.reduceLeDiff, ↓reduceIte, Int.reduceToNat, Nat.reduceGT, Int.reduceLE, Int.reduceLT, Int.reduceGE, Int.reduceGT, Int.reduceEq, Int.reduceNe, reduceCtorEq, b11]
                    · refine brK_mk (fun b12 => ?_) (fun b12 => ?_) <;> simp only [go_sem, Nat.reduceEqDiff, Nat.reduceAdd, Nat.reduceSub, Nat.reduceLT, Nat.reduceMul, Nat.reduceBEq, Nat.reduceLeDiff, ↓reduceIte, Int.reduceToNat, Nat.reduceGT, Int.reduceLE, Int.reduceLT, Int.reduceGE, Int.reduceGT, Int.reduceEq, Int.reduceNe, reduceCtorEq, b12, hwu]
                      · exact ⟨(k + 1, h7), by simp only; omega, ⟨by simp only; omega, by rw [← hh, headX, hall, b8, b9, b10, b11, b12]; rfl⟩, le_mkSl rfl ⟨fun _ _ h => h, fun _ _ h => h, List.sublist_cons_self _ _, fun _ h => h⟩ (by simp [go_sem, hwu, strsAV])⟩
                      · exact ret_le (hp' := hp) ⟨fun _ _ h => h, fun _ _ h => h, (List.sublist_cons_self _ _).trans (List.sublist_cons_self _ _), fun _ h => h⟩ ⟨by rw [hpB, ← hh, headX, hall, b8, b9, b10, b11, b12]; simp, rfl⟩
                    · simp only [hwu]
                      exact ⟨(k + 1, h7), by simp only; omega, ⟨by simp only; omega, by rw [← hh, headX, hall, b8, b9, b10, b11]; rfl⟩, le_mkSl rfl ⟨fun _ _ h => h, fun _ _ h => h, List.sublist_cons_self _ _, fun _ h => h⟩ (by simp [go_sem, hwu, strsAV])⟩
                  · exact ret_le (hp' := hp) ⟨fun _ _ h => h, fun _ _ h => h, (List.sublist_cons_self _ _).trans (List.sublist_cons_self _ _), fun _ h => h⟩ ⟨by rw [hpB, ← hh, headX, hall, b8, b9, b10]; simp, rfl⟩
                · exact ret_le (hp' := hp) ⟨fun _ _ h => h, fun _ _ h => h, (List.sublist_cons_self _ _).trans (List.sublist_cons_self _ _), fun _ h => h⟩ ⟨by rw [hpB, ← hh, headX, hall, b8, b9]; simp, rfl⟩
          · have e : k = p.fs.length := by simp at b3; omega
            subst e
            rw [List.drop_length, headsB] at hh
            rw [List.take_length]
            refine callX_by (distinct_calls h6 (p.fs.map FunG.name) _ hg) ?_
            rintro r hp1 ⟨rfl, rfl⟩
            simp only [go_sem, Nat.reduceEqDiff, Nat.reduceAdd, Nat.reduceSub, Nat.reduceLT, Nat.reduceMul, Nat.reduceBEq, Nat.reduceLeDiff, ↓reduceIte, Int.reduceToNat, Nat.reduceGT, Int.reduceLE, Int.reduceLT, Int.reduceGE, Int.reduceGT, Int.reduceEq, Int.reduceNe, reduceCtorEq]
            refine brK_mk (fun b4 => ?_) (fun b4 => ?_) <;> simp only [go_sem, Nat.reduceEqDiff, Nat.reduceAdd, Nat.reduceSub, Nat.reduceLT, Nat.reduceMul, Nat.reduceBEq, Nat.reduceLeDiff, ↓reduceIte, Int.reduceToNat, Nat.reduceGT, Int.reduceLE, Int.reduceLT, Int.reduceGE, Int.reduceGT, Int.reduceEq, Int.reduceNe, reduceCtorEq, b4]
            · intro b12 hb12
              have hb12n : hp.blk b12 = none := hb12.1
              have hpC : progB p = bodiesB p.ds p.pf 600 p.fs := by rw [hpB, ← hh, b4]; rfl
              have hsm := small_valid hvb
              have fin : ∀ n, hp.le (leftHp hp b12 n) := fun n => Hp.le_setBlk _ _ _ _ hb12n
              refine aw_loopX 142 (fun x : Nat × Int => [(5, .ref (.pointer (some ⟨v5, 0, none⟩)) [.lst 3 p.hd (p.ds.map DeclG.av), .lst 9 p.hf (p.fs.map FunG.av)]), (12, ptrAV b12), (114, .lst 9 p.hf (p.fs.map FunG.av)), (115, .v (.int .i64 p.fs.length)), (116, .v (.int .i64 x.1))])
                (fun x => leftHp hp b12 x.2) (fun x => x.1 ≤ p.fs.length ∧ 0 ≤ x.2 ∧ x.2 ≤ 600 ∧ bodiesB p.ds p.pf x.2 (p.fs.drop x.1) = bodiesB p.ds p.pf 600 p.fs) (fun x => p.fs.length - x.1) (0, 600) ⟨Nat.zero_le _, by decide, by decide, rfl⟩
                (le_mkSl rfl ⟨fun _ _ h => h, fun _ _ h => h, List.sublist_cons_self _ _, fun _ h => h⟩ (by simp [go_sem, ptrAV])) ?_
              rintro ⟨k, lf⟩ ⟨hk, l1, l2, hall⟩
              simp only at hk l1 l2 hall
              refine awp_sound (mu := [12]) _ _ _ ?_
              simp only [go_sem, Nat.reduceEqDiff, Nat.reduceAdd, Nat.reduceSub, Nat.reduceLT, Nat.reduceMul, Nat.reduceBEq, Nat.reduceLeDiff, ↓reduceIte, Int.reduceToNat, Nat.reduceGT, Int.reduceLE, Int.reduceLT, Int.reduceGE, Int.reduceGT, Int.reduceEq, Int.reduceNe, reduceCtorEq, ptrAV]
              refine brK_mk (fun b5 => ?_) (fun b5 => ?_) <;> simp only [go_sem, Nat.reduceEqDiff, Nat.reduceAdd, Nat.reduceSub, Nat.reduceLT, Nat.reduceMul, Nat.reduceBEq, Nat.reduceLeDiff, ↓reduceIte, Int.reduceToNat, Nat.reduceGT, Int.reduceLE, Int.reduceLT, Int.reduceGE, Int.reduceGT, Int.reduceEq, Int.reduceNe, reduceCtorEq, b5]
              · have hk' : k < p.fs.length := by simpa using b5
                obtain ⟨f, hf⟩ := someAt p.fs k hk'
                have hwu := upK k _ hk' hfl
                have hpfb := hpf f (List.mem_of_getElem? hf)
                rw [dropK hf, bodiesB] at hall
                simp only [go_sem, Nat.reduceEqDiff, Nat.reduceAdd, Nat.reduceSub, Nat.reduceLT, Nat.reduceMul, Nat.reduceBEq, Nat.reduceLeDiff, ↓reduceIte, Int.reduceToNat, Nat.reduceGT, Int.reduceLE, Int.reduceLT, Int.reduceGE, Int.reduceGT, Int.reduceEq, Int.reduceNe, reduceCtorEq, mapAt FunG.av _ _ _ hf, FunG.av, FunG.cs, paramsAV]
                intro v14 hv14
                have hd14 := fun T cs => Hp.del_set _ _ T cs hv14.1
                simp only [go_sem, Nat.reduceEqDiff, Nat.reduceAdd, Nat.reduceSub, Nat.reduceLT, Nat.reduceMul, Nat.reduceBEq, Nat.reduceLeDiff, ↓reduceIte, Int.reduceToNat, Nat.reduceGT, Int.reduceLE, Int.reduceLT, Int.reduceGE, Int.reduceGT, Int.reduceEq, Int.reduceNe, reduceCtorEq, hd14]
                intro mv hmv ml hml v15 hv15
                have hd15 := fun T cs => Hp.del_set _ _ T cs hv15.1
                have nml : mv ≠ ml := by rintro rfl; have := hml.2.1; simp [Hp.setMp] at this
                have mvn : hp.mp mv = none := hmv.2.1
                have mln : hp.mp ml = none := by have := hml.2.1; simpa [Hp.setMp, Ne.symm nml, leftHp, Hp.setBlk] using this
                have com : ∀ x y z, (((leftHp hp b12 lf).setMp mv x).setMp ml y).setMp mv z = ((leftHp hp b12 lf).setMp mv z).setMp ml y := fun x y z => by rw [setMp_comm _ _ _ _ _ nml, setMp_same, setMp_comm _ _ _ _ _ (Ne.symm nml)]
                have fin2 : ∀ A B n, (leftHp hp b12 n).le (leftHp ((hp.setMp mv A).setMp ml B) b12 n) := fun A B n => by
                  refine ⟨fun _ _ h => h, fun i y hi => ?_, List.Sublist.refl _, fun _ h => h⟩
                  have hi' : hp.mp i = some y := hi
                  have e1 : i ≠ mv := by rintro rfl; rw [mvn] at hi'; cases hi'
                  have e2 : i ≠ ml := by rintro rfl; rw [mln] at hi'; cases hi'
                  simpa [leftHp, Hp.setMp, Hp.setBlk, e1, e2] using hi'
                simp only [go_sem, Nat.reduceEqDiff, Nat.reduceAdd, Nat.reduceSub, Nat.reduceLT, Nat.reduceMul, Nat.reduceBEq, Nat.reduceLeDiff, ↓reduceIte, Int.reduceToNat, Nat.reduceGT, Int.reduceLE, Int.reduceLT, Int.reduceGE, Int.reduceGT, Int.reduceEq, Int.reduceNe, reduceCtorEq, hd15]
                refine aw_loopX 142 (fun j : Nat => [(5, .ref (.pointer (some ⟨v5, 0, none⟩)) [.lst 3 p.hd (p.ds.map DeclG.av), .lst 9 p.hf (p.fs.map FunG.av)]), (12, ptrAV b12), (14, .ref (.pointer (some ⟨v14, 0, none⟩)) [.v (.string (bs f.name)), .lst 2 f.hp (f.params.map ParamG.av), .v (.int .i64 f.res), .v (.int .i64 f.body.op), .v (.int .i64 f.body.n), .v (.string (bs f.body.name)), .v (.int .i64 f.body.ty), .lst 6 f.body.ha (f.body.args.map TermG.av), .lst 7 f.body.hc (f.body.cls.map ClauseG.av)]), (15, .ref (.pointer (some ⟨v15, 0, none⟩)) [.v (.map (some mv)), .v (.map (some ml))]), (114, .lst 9 p.hf (p.fs.map FunG.av)), (115, .v (.int .i64 p.fs.length)), (116, .v (.int .i64 k)), (124, .lst 2 f.hp (f.params.map ParamG.av)), (125, .v (.int .i64 f.params.length)), (126, .v (.int .i64 j))])
                  (fun j => ((leftHp hp b12 lf).setMp mv (ents (insL [] ((f.params.take j).map ParamG.name)))).setMp ml (ents [])) (fun j => j ≤ f.params.length) (fun j => f.params.length - j) 0 (Nat.zero_le _)
                  (le_mkSl rfl (Hp.le_refl _) (by simp [go_sem, ptrAV])) ?_
                intro j hj
                refine awp_sound (mu := [12]) _ _ _ ?_
                simp only [go_sem, Nat.reduceEqDiff, Nat.reduceAdd, Nat.reduceSub, Nat.reduceLT, Nat.reduceMul, Nat.reduceBEq, Nat.reduceLeDiff, ↓reduceIte, Int.reduceToNat, Nat.reduceGT, Int.reduceLE, Int.reduceLT, Int.reduceGE, Int.reduceGT, Int.reduceEq, Int.reduceNe, reduceCtorEq, ptrAV]
                refine brK_mk (fun b6 => ?_) (fun b6 => ?_) <;> simp only [go_sem, Nat.reduceEqDiff, Nat.reduceAdd, Nat.reduceSub, Nat.reduceLT, Nat.reduceMul, Nat.reduceBEq, Nat.reduceLeDiff, ↓reduceIte, Int.reduceToNat, Nat.reduceGT, Int.reduceLE, Int.reduceLT, Int.reduceGE, Int.reduceGT, Int.reduceEq, Int.reduceNe, reduceCtorEq, b6]
                · have hj' : j < f.params.length := by simpa using b6
                  obtain ⟨x, hx⟩ := someAt f.params j hj'
                  have hwj : IntKind.i64.wrap ((j : Int) + 1) = ((j + 1 : Nat) : Int) := IntWalk.i64_in _ (by omega)
                  have hxn : (f.params.map ParamG.name)[j]? = some x.name := by rw [List.getElem?_map, hx]; rfl
                  have htj : insL [] ((f.params.take (j + 1)).map ParamG.name) = insB (insL [] ((f.params.take j).map ParamG.name)) x.name := by
                    rw [List.map_take, List.map_take]; exact insL_take _ _ _ _ hxn
                  simp only [go_sem, Nat.reduceEqDiff, Nat.reduceAdd, Nat.reduceSub, Nat.reduceLT, Nat.reduceMul, Nat.reduceBEq, Nat.reduceLeDiff, ↓reduceIte, Int.reduceToNat, Nat.reduceGT, Int.reduceLE, Int.reduceLT, Int.reduceGE, Int.reduceGT, Int.reduceEq, Int.reduceNe, reduceCtorEq, mapAt ParamG.av _ _ _ hx, ParamG.av, ParamG.cs]
                  intro v17 hv17
                  have hd17 := fun T cs => Hp.del_set _ _ T cs hv17.1
                  simp only [go_sem, Nat.reduceEqDiff, Nat.reduceAdd, Nat.reduceSub, Nat.reduceLT, Nat.reduceMul, Nat.reduceBEq, Nat.reduceLeDiff, ↓reduceIte, Int.reduceToNat, Nat.reduceGT, Int.reduceLE, Int.reduceLT, Int.reduceGE, Int.reduceGT, Int.reduceEq, Int.reduceNe, reduceCtorEq, hd17, nml, Ne.symm nml, mset_ins, com, hwj]
                  exact ⟨j + 1, by omega, by omega, le_mkSl rfl (by rw [htj]; simp only [go_sem, Nat.reduceEqDiff, Nat.reduceAdd, Nat.reduceSub, Nat.reduceLT, Nat.reduceMul, Nat.reduceBEq, Nat.reduceLeDiff, ↓reduceIte, Int.reduceToNat, Nat.reduceGT, Int.reduceLE, Int.reduceLT, Int.reduceGE, Int.reduceGT, Int.reduceEq, Int.reduceNe, reduceCtorEq, com]; exact Hp.le_refl _) (by simp [go_sem, hwj, ptrAV])⟩
                · have e : j = f.params.length := by simp at b6; omega
                  subst e
                  rw [List.take_length]
                  rw [left_setMp, left_setMp]
                  have c := valid_all hsm (nodesT f.body) f.body (Nat.le_refl _) ((hp.setMp mv (ents (insL [] (f.params.map ParamG.name)))).setMp ml (ents [])) mv ml b12 (insL [] (f.params.map ParamG.name)) [] lf 1 hg (by simp [Hp.setMp, nml]) (by simp [Hp.setMp]) l1 l2 (by decide) (by decide)
                  rw [insL_nil, hasB_nil] at c
                  simp only [TermG.av, TermG.cs_eq, ptrAV, ProgG.av, ProgG.cs, scopeAV, declsAV, funsAV] at c
                  skip
                  refine callX_by c ?_
                  clear c
                  rintro r hp1 ⟨rfl, lf', rfl, hlf⟩
                  simp only [go_sem, Nat.reduceEqDiff, Nat.reduceAdd, Nat.reduceSub, Nat.reduceLT, Nat.reduceMul, Nat.reduceBEq, Nat.reduceLeDiff, ↓reduceIte, Int.reduceToNat, Nat.reduceGT, Int.reduceLE, Int.reduceLT, Int.reduceGE, Int.reduceGT, Int.reduceEq, Int.reduceNe, reduceCtorEq]
                  refine brK_mk (fun b7 => ?_) (fun b7 => ?_) <;> simp only [go_sem, Nat.reduceEqDiff, Nat.reduceAdd, Nat.reduceSub, Nat.reduceLT, Nat.reduceMul, Nat.reduceBEq, Nat.reduceLeDiff, ↓reduceIte, Int.reduceToNat, Nat.reduceGT, Int.reduceLE, Int.reduceLT, Int.reduceGE, Int.reduceGT, Int.reduceEq, Int.reduceNe, reduceCtorEq, b7, hwu]
                  · have := hlf b7
                    subst this
                    have hA := okB_iff.1 b7
                    rw [b7, Bool.true_and] at hall
                    exact ⟨(k + 1, lf - nodesT f.body), by simp only; omega, ⟨by simp only; omega, by simp only; omega, by simp only; omega, hall⟩, le_mkSl rfl (by simp only [go_sem, Nat.reduceEqDiff, Nat.reduceAdd, Nat.reduceSub, Nat.reduceLT, Nat.reduceMul, Nat.reduceBEq, Nat.reduceLeDiff, ↓reduceIte, Int.reduceToNat, Nat.reduceGT, Int.reduceLE, Int.reduceLT, Int.reduceGE, Int.reduceGT, Int.reduceEq, Int.reduceNe, reduceCtorEq]; exact fin2 _ _ _) (by simp [go_sem, ptrAV, hwu])⟩
                  · rw [b7, Bool.false_and] at hall
                    exact ret_le (Hp.le_trans (fin lf') (fin2 _ _ _)) ⟨by rw [hpC, ← hall], rfl⟩
              · have e : p.fs.length ≤ k := by simp at b5; omega
                rw [List.drop_of_length_le e, bodiesB] at hall
                exact ret_le (fin _) ⟨by rw [hpC, ← hall], rfl⟩
            · exact ret_le (Hp.le_addSp _ _) ⟨by rw [hpB, b4]; simp, rfl⟩
end Go.Proofs.YtkoachnlimebaaaGreatDoor
/- The layer 'term': Check, Is, Term. -/
set_option linter.unusedSimpArgs false
set_option linter.unusedVariables false
set_option maxRecDepth 20000
set_option maxHeartbeats 4000000
namespace Go.Proofs.YtkoachnlimebaaaGreatDoor
open Go.AL

def isB (p : ProgG) (V L : Bytes → Bool) (t : TermG) : Bool := okB 600 1 (nodesT t) (depthT t) (validT p.ds p.pf V L t)
end Go.Proofs.YtkoachnlimebaaaGreatDoor
