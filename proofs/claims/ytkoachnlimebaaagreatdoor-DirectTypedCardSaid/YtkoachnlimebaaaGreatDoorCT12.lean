/- The layer 'check': environments. -/
import Derived.Test.YtkoachnlimebaaaGreatDoorCT9
set_option linter.unusedSimpArgs false
set_option linter.unusedVariables false
set_option maxRecDepth 20000
set_option maxHeartbeats 4000000
namespace Go.Proofs.YtkoachnlimebaaaGreatDoor
open Go.AL

def iv (n : Int) : AV := .v (.int .i64 n)
def intsAV (h : Value) (l : List Int) : AV := .lst 1 h (l.map iv)
theorem ones_int (l : List Int) : ((l.map iv).flatMap AV.cells).all AV.one = true := by
  induction l with
  | nil => rfl
  | cons a l ih => rw [List.map_cons, List.flatMap_cons, List.all_append, ih]; rfl
theorem cloneI_calls (h : Value) (l : List Int) (hl : l.length ≤ 4194304) (hp : Hp) : ACalls Tryz.prog 203 [intsAV h l] hp (fun r hp' => ∃ h', r = intsAV h' l ∧ hp' = hp.setSp ((3, 1, h') :: hp.sp)) := by
  refine acalls_nils (callable_of Tryz.func203 (by decide +kernel)) fun hnil => ?_
  have hn : nilB h = true → l = [] := fun e => by simpa using hnil 1 h _ (List.mem_singleton.2 rfl) e
  refine acalls_addNil 3 1 ?_
  refine acalls_of Tryz.func203 rfl (by decide +kernel) (awp_sound (mu := []) _ _ _ ?_)
  simp only [go_sem, Nat.reduceEqDiff, Nat.reduceAdd, Nat.reduceSub, Nat.reduceLT, Nat.reduceMul, Nat.reduceBEq, Nat.reduceLeDiff, ↓reduceIte, Int.reduceToNat, Nat.reduceGT, Int.reduceLE, Int.reduceLT, Int.reduceGE, Int.reduceGT, Int.reduceEq, Int.reduceNe, reduceCtorEq, intsAV]
  refine brK_mk (fun h1 => ?_) (fun h1 => ?_) <;> simp only [go_sem, Nat.reduceEqDiff, Nat.reduceAdd, Nat.reduceSub, Nat.reduceLT, Nat.reduceMul, Nat.reduceBEq, Nat.reduceLeDiff, ↓reduceIte, Int.reduceToNat, Nat.reduceGT, Int.reduceLE, Int.reduceLT, Int.reduceGE, Int.reduceGT, Int.reduceEq, Int.reduceNe, reduceCtorEq, h1]
  · obtain rfl := hn h1
    exact ret_cast (Cast.nil 1) (Hp.le_refl _) ⟨_, rfl, rfl⟩
  · refine ⟨rfl, by simp, fun b => ?_⟩
    refine append_by (a := .lst 1 (.slice (some ⟨b, 0, none⟩) 0 0) []) (b := intsAV h l) (l1 := []) (l2 := (3, 1, .slice none 0 0) :: hp.sp) (h := .slice (some ⟨b, 0, none⟩) 0 0) (h2 := h) Tryz.k26 Tryz.s3 Tryz.y3 Tryz.z3 rfl (by decide)
      (by simp [go_sem]) (Cast.refl _) (by simp [go_sem, intsAV]) (Cast.refl _) (by simp [go_sem]) (ones_int l) (by simp [maxLen]; omega) (by simp; omega) (by simp [go_sem]) (fun h' => ?_)
    simp only [go_sem, Nat.reduceEqDiff, Nat.reduceAdd, Nat.reduceSub, Nat.reduceLT, Nat.reduceMul, Nat.reduceBEq, Nat.reduceLeDiff, ↓reduceIte, Int.reduceToNat, Nat.reduceGT, Int.reduceLE, Int.reduceLT, Int.reduceGE, Int.reduceGT, Int.reduceEq, Int.reduceNe, reduceCtorEq]
    refine ret_le (hp' := hp.setSp ((3, 1, h') :: hp.sp)) ⟨fun _ _ h => h, fun _ _ h => h, (List.sublist_cons_self _ _).cons_cons _, fun _ h => h⟩ ⟨h', by simp, rfl⟩

/-! ### Environments -/
structure EntG where
  p : Value
  name : Bytes
  ty : Int
  label : Bool
def envAV : List EntG → AV
  | [] => .v (.pointer none)
  | e :: r => .ref e.p [.v (.string (bs e.name)), .v (.int .i64 e.ty), .v (.bool e.label), envAV r]
def lookE : List EntG → Bytes → Bool → Option Int
  | [], _, _ => none
  | e :: r, s, l => if ((e.label == l) && decide (e.name = s)) = true then some e.ty else lookE r s l
theorem bind_calls (l : List EntG) (s : Bytes) (ty : Int) (lab : Bool) (hp : Hp) : ACalls Tryz.prog 204 [envAV l, .v (.string (bs s)), .v (.int .i64 ty), .v (.bool lab)] hp (fun r hp' => (∃ p, r = envAV (⟨p, s, ty, lab⟩ :: l)) ∧ hp' = hp) := by
  refine acalls_of Tryz.func204 rfl (by decide +kernel) (awp_sound (mu := []) _ _ _ ?_)
  cases l
  all_goals
    simp only [go_sem, Nat.reduceEqDiff, Nat.reduceAdd, Nat.reduceSub, Nat.reduceLT, Nat.reduceMul, Nat.reduceBEq, Nat.reduceLeDiff, ↓reduceIte, Int.reduceToNat, Nat.reduceGT, Int.reduceLE, Int.reduceLT, Int.reduceGE, Int.reduceGT, Int.reduceEq, Int.reduceNe, reduceCtorEq, envAV]
    intro p
    exact ret_same ⟨⟨p, rfl⟩, rfl⟩
theorem find_calls (l : List EntG) (s : Bytes) (lab : Bool) (hp : Hp) : ACalls Tryz.prog 230 [envAV l, .v (.string (bs s)), .v (.bool lab)] hp (fun r hp' => r = .tup [.v (.int .i64 ((lookE l s lab).getD 0)), .v (.bool (lookE l s lab).isSome)] ∧ hp' = hp) := by
  refine acalls_of Tryz.func230 rfl (by decide +kernel) (awp_sound (mu := []) _ _ _ ?_)
  simp only [go_sem, Nat.reduceEqDiff, Nat.reduceAdd, Nat.reduceSub, Nat.reduceLT, Nat.reduceMul, Nat.reduceBEq, Nat.reduceLeDiff, ↓reduceIte, Int.reduceToNat, Nat.reduceGT, Int.reduceLE, Int.reduceLT, Int.reduceGE, Int.reduceGT, Int.reduceEq, Int.reduceNe, reduceCtorEq]
  refine aw_loopX 34 (fun x : List EntG => [(0, envAV x), (1, .v (.string (bs s))), (2, .v (.bool lab))])
    (fun _ => hp) (fun x => lookE x s lab = lookE l s lab) (fun x => x.length) l rfl (le_mkSl rfl (Hp.le_refl _) (by simp [go_sem])) ?_
  intro x hx
  refine awp_sound (mu := []) _ _ _ ?_
  cases x with
  | nil =>
    simp only [go_sem, Nat.reduceEqDiff, Nat.reduceAdd, Nat.reduceSub, Nat.reduceLT, Nat.reduceMul, Nat.reduceBEq, Nat.reduceLeDiff, ↓reduceIte, Int.reduceToNat, Nat.reduceGT, Int.reduceLE, Int.reduceLT, Int.reduceGE, Int.reduceGT, Int.reduceEq, Int.reduceNe, reduceCtorEq, envAV]
    exact ret_same ⟨by rw [← hx]; rfl, rfl⟩
  | cons e r =>
    rw [lookE] at hx
    simp only [go_sem, Nat.reduceEqDiff, Nat.reduceAdd, Nat.reduceSub, Nat.reduceLT, Nat.reduceMul, Nat.reduceBEq, Nat.reduceLeDiff, ↓reduceIte, Int.reduceToNat, Nat.reduceGT, Int.reduceLE, Int.reduceLT, Int.reduceGE, Int.reduceGT, Int.reduceEq, Int.reduceNe, reduceCtorEq, envAV]
    refine brK_mk (fun b1 => ?_) (fun b1 => ?_) <;> simp only [go_sem, Nat.reduceEqDiff, Nat.reduceAdd, Nat.reduceSub, Nat.reduceLT, Nat.reduceMul, Nat.reduceBEq, Nat.reduceLeDiff, ↓reduceIte, Int.reduceToNat, Nat.reduceGT, Int.reduceLE, Int.reduceLT, Int.reduceGE, Int.reduceGT, Int.reduceEq, Int.reduceNe, reduceCtorEq, b1]
    · refine brK_mk (fun b2 => ?_) (fun b2 => ?_) <;> simp only [go_sem, Nat.reduceEqDiff, Nat.reduceAdd, Nat.reduceSub, Nat.reduceLT, Nat.reduceMul, Nat.reduceBEq, Nat.reduceLeDiff, ↓reduceIte, Int.reduceToNat, Nat.reduceGT, Int.reduceLE, Int.reduceLT, Int.reduceGE, Int.reduceGT, Int.reduceEq, Int.reduceNe, reduceCtorEq, b2]
      · rw [b1, b2, if_pos (by rfl)] at hx
        exact ret_same ⟨by rw [← hx]; rfl, rfl⟩
      · rw [b1, b2, if_neg (by decide)] at hx
        exact ⟨r, by simp, hx, le_mkSl rfl (Hp.le_refl _) (by simp [go_sem])⟩
    · rw [b1, if_neg (by simp)] at hx
      exact ⟨r, by simp, hx, le_mkSl rfl (Hp.le_refl _) (by simp [go_sem])⟩

theorem cprods_calls (x : XtorG) (hx : x.args.length ≤ 6) (hp : Hp) : ACalls Tryz.prog 233 [x.av] hp (fun r hp' => ∃ h, r = intsAV h (prodsX x) ∧ hp' = hp.setSp ((3, 1, h) :: hp.sp)) := by
  refine acalls_addNil 3 1 ?_
  refine acalls_of Tryz.func233 rfl (by decide +kernel) (awp_sound (mu := []) _ _ _ ?_)
  simp only [go_sem, Nat.reduceEqDiff, Nat.reduceAdd, Nat.reduceSub, Nat.reduceLT, Nat.reduceMul, Nat.reduceBEq, Nat.reduceLeDiff, ↓reduceIte, Int.reduceToNat, Nat.reduceGT, Int.reduceLE, Int.reduceLT, Int.reduceGE, Int.reduceGT, Int.reduceEq, Int.reduceNe, reduceCtorEq, XtorG.av, XtorG.cs]
  intro p
  refine aw_loopX 23 (fun y : Nat × Value => [(3, intsAV y.2 (((x.args.take y.1).filter fun a => !a.co).map ArgG.typ)), (7, .lst 2 x.h (x.args.map ArgG.av)), (8, .v (.int .i64 x.args.length)), (9, .v (.int .i64 y.1))])
    (fun y => hp.setSp ((3, 1, y.2) :: hp.sp)) (fun y => y.1 ≤ x.args.length) (fun y => x.args.length - y.1) (0, .slice none 0 0) (Nat.zero_le _) (le_of_cast rfl (Hp.le_refl _) (by simp [go_sem, Cast.refl, intsAV]; exact Cast.nil 1)) ?_
  rintro ⟨k, h3⟩ hk
  simp only at hk
  refine awp_sound (mu := []) _ _ _ ?_
  simp only [go_sem, Nat.reduceEqDiff, Nat.reduceAdd, Nat.reduceSub, Nat.reduceLT, Nat.reduceMul, Nat.reduceBEq, Nat.reduceLeDiff, ↓reduceIte, Int.reduceToNat, Nat.reduceGT, Int.reduceLE, Int.reduceLT, Int.reduceGE, Int.reduceGT, Int.reduceEq, Int.reduceNe, reduceCtorEq, intsAV]
  refine brK_mk (fun h1 => ?_) (fun h1 => ?_) <;> simp only [go_sem, Nat.reduceEqDiff, Nat.reduceAdd, Nat.reduceSub, Nat.reduceLT, Nat.reduceMul, Nat.reduceBEq, Nat.reduceLeDiff, ↓reduceIte, Int.reduceToNat, Nat.reduceGT, Int.reduceLE, Int.reduceLT, Int.reduceGE, Int.reduceGT, Int.reduceEq, Int.reduceNe, reduceCtorEq, h1]
  · have hk' : k < x.args.length := by simpa using h1
    obtain ⟨a, ha⟩ := someAt x.args k hk'
    have hwu : IntKind.i64.wrap ((k : Int) + 1) = ((k + 1 : Nat) : Int) := IntWalk.i64_in _ (by omega)
    have hta : x.args.take (k + 1) = x.args.take k ++ [a] := by rw [List.take_add_one, ha]; rfl
    have hle : ((x.args.take k).filter fun a => !a.co).length ≤ 6 := Nat.le_trans (List.length_filter_le _ _) (by simp; omega)
    simp only [go_sem, Nat.reduceEqDiff, Nat.reduceAdd, Nat.reduceSub, Nat.reduceLT, Nat.reduceMul, Nat.reduceBEq, Nat.reduceLeDiff, ↓reduceIte, Int.reduceToNat, Nat.reduceGT, Int.reduceLE, Int.reduceLT, Int.reduceGE, Int.reduceGT, Int.reduceEq, Int.reduceNe, reduceCtorEq, mapAt ArgG.av _ _ _ ha, ArgG.av, ArgG.cs]
    intro v hv
    have hds := fun T cs => Hp.del_set _ _ T cs hv.1
    cases hco : a.co with
    | true =>
      simp only [go_sem, Nat.reduceEqDiff, Nat.reduceAdd, Nat.reduceSub, Nat.reduceLT, Nat.reduceMul, Nat.reduceBEq, Nat.reduceLeDiff, ↓reduceIte, Int.reduceToNat, Nat.reduceGT, Int.reduceLE, Int.reduceLT, Int.reduceGE, Int.reduceGT, Int.reduceEq, Int.reduceNe, reduceCtorEq, hds, hwu]
      exact ⟨(k + 1, h3), by simp only; omega, by simp only; omega, le_mkSl rfl (Hp.le_refl _) (by rw [hta]; simp [go_sem, hwu, hco, intsAV])⟩
    | false =>
      simp only [go_sem, Nat.reduceEqDiff, Nat.reduceAdd, Nat.reduceSub, Nat.reduceLT, Nat.reduceMul, Nat.reduceBEq, Nat.reduceLeDiff, ↓reduceIte, Int.reduceToNat, Nat.reduceGT, Int.reduceLE, Int.reduceLT, Int.reduceGE, Int.reduceGT, Int.reduceEq, Int.reduceNe, reduceCtorEq, hds]
      refine ⟨rfl, by simp, fun hd => ?_⟩
      refine append_by (a := intsAV h3 (((x.args.take k).filter fun a => !a.co).map ArgG.typ)) (b := .lst 1 hd [iv a.typ]) (l1 := [(3, 1, hd)]) (l2 := hp.sp) (h := h3) (h2 := hd) Tryz.k26 Tryz.s3 Tryz.y3 Tryz.z3 rfl (by decide)
        (by simp [go_sem, intsAV]) (Cast.refl _) (by simp [go_sem, iv]) (Cast.refl _) (by simp [go_sem]) (by simp [go_sem, iv]) (by simp [maxLen]; omega) (by simp; omega) (by simp [go_sem]) (fun h' => ?_)
      simp only [go_sem, Nat.reduceEqDiff, Nat.reduceAdd, Nat.reduceSub, Nat.reduceLT, Nat.reduceMul, Nat.reduceBEq, Nat.reduceLeDiff, ↓reduceIte, Int.reduceToNat, Nat.reduceGT, Int.reduceLE, Int.reduceLT, Int.reduceGE, Int.reduceGT, Int.reduceEq, Int.reduceNe, reduceCtorEq, hwu]
      exact ⟨(k + 1, h'), by simp only; omega, by simp only; omega, le_mkSl rfl ⟨fun _ _ h => h, fun _ _ h => h, List.sublist_cons_self _ _, fun _ h => h⟩ (by rw [hta]; simp [go_sem, hwu, hco, intsAV])⟩
  · have e : k = x.args.length := by simp at h1; omega
    subst e
    rw [List.take_length]
    exact ret_same ⟨h3, rfl, rfl⟩

/-! ### The checker -/
def ptr0 (b : Nat) : AV := .v (.pointer (some ⟨b, 0, none⟩))
def ckCs (p : ProgG) (cb : Nat) (path : AV) (found : Bool) : List AV :=
  [declsAV p.hd p.ds, funsAV p.hf p.fs, .fn (.func 190) [ptr0 cb] [], .fn (.func 191) [ptr0 cb] [], .fn (.func 192) [ptr0 cb] [], .fn (.func 193) [ptr0 cb] [], .fn (.func 194) [ptr0 cb] [], .fn (.func 195) [ptr0 cb] [], .fn (.func 196) [ptr0 cb] [], .fn (.func 197) [ptr0 cb] [], .fn (.func 198) [ptr0 cb] [], .fn (.func 199) [ptr0 cb] [], .fn (.func 200) [ptr0 cb] [], .fn (.func 201) [ptr0 cb] [], .fn (.func 202) [ptr0 cb] [], path, .v (.bool found)]
def CkHp (hp : Hp) (cb : Nat) (p : ProgG) (path : AV) (found : Bool) : Hp := hp.setBlk cb 232 (ckCs p cb path found)
theorem newChecker_calls (p : ProgG) (hp : Hp) : ACalls Tryz.prog 150 [p.av] hp (fun r hp' => ∃ cb, r = ptr0 cb ∧ hp.blk cb = none ∧ hp' = CkHp hp cb p (.v (.slice none 0 0)) false) := by
  refine acalls_of Tryz.func150 rfl (by decide +kernel) (awp_sound (mu := [6, 36]) _ _ _ ?_)
  simp only [go_sem, Nat.reduceEqDiff, Nat.reduceAdd, Nat.reduceSub, Nat.reduceLT, Nat.reduceMul, Nat.reduceBEq, Nat.reduceLeDiff, ↓reduceIte, Int.reduceToNat, Nat.reduceGT, Int.reduceLE, Int.reduceLT, Int.reduceGE, Int.reduceGT, Int.reduceEq, Int.reduceNe, reduceCtorEq, ProgG.av, ProgG.cs, declsAV, funsAV]
  intro p1
  intro b hb
  exact ret_same ⟨b, rfl, hb.1, rfl⟩
theorem ck_blk (hp : Hp) (cb : Nat) (p : ProgG) (path : AV) (found : Bool) : (CkHp hp cb p path found).blk cb = some (232, ckCs p cb path found) := by simp [CkHp, Hp.setBlk]
structure EnvOk (l : List EntG) (E K : Bytes → Option Int) : Prop where
  v : ∀ s, lookE l s false = E s
  k : ∀ s, lookE l s true = K s
theorem env_nil : EnvOk [] (fun _ => none) (fun _ => none) := ⟨fun _ => rfl, fun _ => rfl⟩
theorem env_var {l : List EntG} {E K : Bytes → Option Int} (h : EnvOk l E K) (q : Value) (s : Bytes) (t : Int) : EnvOk (⟨q, s, t, false⟩ :: l) (setE E s t) K := by
  refine ⟨fun x => ?_, fun x => ?_⟩
  · simp only [lookE, setE, h.v]
    by_cases e : x = s
    · subst e; simp
    · simp [e, Ne.symm e]
  · simp only [lookE, h.k]; simp
theorem env_lab {l : List EntG} {E K : Bytes → Option Int} (h : EnvOk l E K) (q : Value) (s : Bytes) (t : Int) : EnvOk (⟨q, s, t, true⟩ :: l) E (setE K s t) := by
  refine ⟨fun x => ?_, fun x => ?_⟩
  · simp only [lookE, h.v]; simp
  · simp only [lookE, setE, h.k]
    by_cases e : x = s
    · subst e; simp
    · simp [e, Ne.symm e]
theorem prods_len (x : XtorG) : (prodsX x).length = prodN x := by simp [prodsX, prodN]

section
variable {p : ProgG} {hp : Hp} {cb : Nat} {path : AV} {found : Bool}
theorem bound_calls (hsm : SmallX p.ds) (hdl : p.ds.length ≤ 8) (l : List EntG) {E K : Bytes → Option Int} (he : EnvOk l E K) (t : TermG) (ht1 : 1 ≤ t.ty) (ht2 : t.ty ≤ p.ds.length) (i : Nat) {x : XtorG} {c : ClauseG} (hx : (xtorsOf p.ds t.ty)[i]? = some x) (hc : t.cls[i]? = some c) (hn : c.names.length = prodN x) :
    ACalls Tryz.prog 235 [ptr0 cb, envAV l, t.av, .v (.int .i64 i)] (CkHp hp cb p path found) (fun r hp' => ∃ l', r = envAV l' ∧ EnvOk l' (bindE E c.names (prodsX x)) K ∧ hp' = CkHp hp cb p path found) := by
  have hwt : IntKind.i64.wrap (t.ty - 1) = t.ty - 1 := IntWalk.i64_in _ (by omega)
  obtain ⟨d, hd⟩ := someAt p.ds (t.ty - 1).toNat (by omega)
  have hxs : xtorsOf p.ds t.ty = d.xtors := by simp only [xtorsOf, hd, Option.map_some, Option.getD_some]
  rw [hxs] at hx
  have hxl := hsm d (List.mem_of_getElem? hd) x (List.mem_of_getElem? hx)
  have hpl := prods_len x
  have hpn : prodN x ≤ 6 := Nat.le_trans (List.length_filter_le _ _) hxl
  have hb := ck_blk hp cb p path found
  simp only [ckCs, declsAV] at hb
  refine acalls_of Tryz.func235 rfl (by decide +kernel) (awp_sound (mu := []) _ _ _ ?_)
  simp only [go_sem, Nat.reduceEqDiff, Nat.reduceAdd, Nat.reduceSub, Nat.reduceLT, Nat.reduceMul, Nat.reduceBEq, Nat.reduceLeDiff, ↓reduceIte, Int.reduceToNat, Nat.reduceGT, Int.reduceLE, Int.reduceLT, Int.reduceGE, Int.reduceGT, Int.reduceEq, Int.reduceNe, reduceCtorEq, TermG.av, TermG.cs_eq, ptr0]
  intro q1
  refine draw_by (mu := []) (fun h => h.blk cb = (CkHp hp cb p path found).blk cb) (.take 0 (.take 1 (.take 2 (.take 3 (.take 4 (.take 5 (.take 6 (.take 7 (.take 8 (.take 9 (.take 10 (.take 11 (.take 12 (.take 13 (.take 16 (.br 14 (.take 15 (.done)) (.stop))))))))))))))))) (by decide +kernel) rfl (by decide +kernel) (by decide +kernel) ?_
  simp only [go_sem, Nat.reduceEqDiff, Nat.reduceAdd, Nat.reduceSub, Nat.reduceLT, Nat.reduceMul, Nat.reduceBEq, Nat.reduceLeDiff, ↓reduceIte, Int.reduceToNat, Nat.reduceGT, Int.reduceLE, Int.reduceLT, Int.reduceGE, Int.reduceGT, Int.reduceEq, Int.reduceNe, reduceCtorEq, hb, hwt, mapAt DeclG.av _ _ _ hd, DeclG.av, DeclG.cs, mapAt XtorG.av _ _ _ hx, XtorG.av, XtorG.cs]
  refine ⟨fun h e => by rw [e]; simp only [go_sem, Nat.reduceEqDiff, Nat.reduceAdd, Nat.reduceSub, Nat.reduceLT, Nat.reduceMul, Nat.reduceBEq, Nat.reduceLeDiff, ↓reduceIte, Int.reduceToNat, Nat.reduceGT, Int.reduceLE, Int.reduceLT, Int.reduceGE, Int.reduceGT, Int.reduceEq, Int.reduceNe, reduceCtorEq], by omega, fun _ _ => by omega, ?_⟩
  refine callX_by (cprods_calls x hxl _) ?_
  rintro r hp1 ⟨h25, rfl, rfl⟩
  simp only [go_sem, Nat.reduceEqDiff, Nat.reduceAdd, Nat.reduceSub, Nat.reduceLT, Nat.reduceMul, Nat.reduceBEq, Nat.reduceLeDiff, ↓reduceIte, Int.reduceToNat, Nat.reduceGT, Int.reduceLE, Int.reduceLT, Int.reduceGE, Int.reduceGT, Int.reduceEq, Int.reduceNe, reduceCtorEq, hb, intsAV, List.length_map, hpl]
  refine aw_loopX 46 (fun y : Nat × List EntG => [(1, envAV y.2), (3, .v (.int .i64 i)), (6, .ref q1 [.v (.int .i64 t.op), .v (.int .i64 t.n), .v (.string (bs t.name)), .v (.int .i64 t.ty), .lst 6 t.ha (t.args.map TermG.av), .lst 7 t.hc (t.cls.map ClauseG.av)]), (25, .lst 1 h25 ((prodsX x).map iv)), (26, .v (.int .i64 (prodN x))), (27, .v (.int .i64 y.1))])
    (fun _ => CkHp hp cb p path found) (fun y => y.1 ≤ prodN x ∧ ∃ E', EnvOk y.2 E' K ∧ bindE E' (c.names.drop y.1) ((prodsX x).drop y.1) = bindE E c.names (prodsX x)) (fun y => prodN x - y.1) (0, l) ⟨Nat.zero_le _, E, he, rfl⟩
    (le_mkSl rfl (Hp.le_addSp _ _) (by simp [go_sem])) ?_
  rintro ⟨k, l'⟩ ⟨hk, E', he', hb'⟩
  simp only at hk he' hb'
  refine awp_sound (mu := []) _ _ _ ?_
  simp only [go_sem, Nat.reduceEqDiff, Nat.reduceAdd, Nat.reduceSub, Nat.reduceLT, Nat.reduceMul, Nat.reduceBEq, Nat.reduceLeDiff, ↓reduceIte, Int.reduceToNat, Nat.reduceGT, Int.reduceLE, Int.reduceLT, Int.reduceGE, Int.reduceGT, Int.reduceEq, Int.reduceNe, reduceCtorEq]
  refine brK_mk (fun h1 => ?_) (fun h1 => ?_) <;> simp only [go_sem, Nat.reduceEqDiff, Nat.reduceAdd, Nat.reduceSub, Nat.reduceLT, Nat.reduceMul, Nat.reduceBEq, Nat.reduceLeDiff, ↓reduceIte, Int.reduceToNat, Nat.reduceGT, Int.reduceLE, Int.reduceLT, Int.reduceGE, Int.reduceGT, Int.reduceEq, Int.reduceNe, reduceCtorEq, h1]
  · have hk' : k < prodN x := by simpa using h1
    obtain ⟨a, ha⟩ := someAt (prodsX x) k (by omega)
    obtain ⟨s, hs⟩ := someAt c.names k (by omega)
    have hwu : IntKind.i64.wrap ((k : Int) + 1) = ((k + 1 : Nat) : Int) := IntWalk.i64_in _ (by omega)
    rw [dropK ha, dropK hs, bindE] at hb'
    simp only [go_sem, Nat.reduceEqDiff, Nat.reduceAdd, Nat.reduceSub, Nat.reduceLT, Nat.reduceMul, Nat.reduceBEq, Nat.reduceLeDiff, ↓reduceIte, Int.reduceToNat, Nat.reduceGT, Int.reduceLE, Int.reduceLT, Int.reduceGE, Int.reduceGT, Int.reduceEq, Int.reduceNe, reduceCtorEq, mapAt iv _ _ _ ha, iv, mapAt ClauseG.av _ _ _ hc, ClauseG.av, ClauseG.cs_eq, strAt _ _ _ hs]
    refine callX_by (bind_calls l' s a false _) ?_
    rintro r hp1 ⟨⟨q, rfl⟩, rfl⟩
    simp only [go_sem, Nat.reduceEqDiff, Nat.reduceAdd, Nat.reduceSub, Nat.reduceLT, Nat.reduceMul, Nat.reduceBEq, Nat.reduceLeDiff, ↓reduceIte, Int.reduceToNat, Nat.reduceGT, Int.reduceLE, Int.reduceLT, Int.reduceGE, Int.reduceGT, Int.reduceEq, Int.reduceNe, reduceCtorEq, hwu]
    exact ⟨(k + 1, ⟨q, s, a, false⟩ :: l'), by simp only; omega, ⟨by simp only; omega, setE E' s a, env_var he' q s a, hb'⟩, le_mkSl rfl (by simp only [go_sem, Nat.reduceEqDiff, Nat.reduceAdd, Nat.reduceSub, Nat.reduceLT, Nat.reduceMul, Nat.reduceBEq, Nat.reduceLeDiff, ↓reduceIte, Int.reduceToNat, Nat.reduceGT, Int.reduceLE, Int.reduceLT, Int.reduceGE, Int.reduceGT, Int.reduceEq, Int.reduceNe, reduceCtorEq]; exact Hp.le_refl _) (by simp [go_sem, hwu, iv])⟩
  · have e : k = prodN x := by simp at h1; omega
    subst e
    rw [List.drop_of_length_le (by omega), List.drop_of_length_le (by omega), bindE] at hb'
    · exact ret_same ⟨l', rfl, by rw [← hb']; exact he', rfl⟩
    · intro s r t q h; cases h
theorem result1_calls (hsm : SmallX p.ds) (hdl : p.ds.length ≤ 8) (t : TermG) (ht1 : 1 ≤ t.ty) (ht2 : t.ty ≤ p.ds.length) (i : Nat) {x : XtorG} (hx : (xtorsOf p.ds t.ty)[i]? = some x) (hne : x.args ≠ []) :
    ACalls Tryz.prog 236 [ptr0 cb, t.av, .v (.int .i64 i)] (CkHp hp cb p path found) (fun r hp' => r = .v (.int .i64 (resX x)) ∧ hp' = CkHp hp cb p path found) := by
  have hwt : IntKind.i64.wrap (t.ty - 1) = t.ty - 1 := IntWalk.i64_in _ (by omega)
  obtain ⟨d, hd⟩ := someAt p.ds (t.ty - 1).toNat (by omega)
  have hxs : xtorsOf p.ds t.ty = d.xtors := by simp only [xtorsOf, hd, Option.map_some, Option.getD_some]
  rw [hxs] at hx
  have hxl := hsm d (List.mem_of_getElem? hd) x (List.mem_of_getElem? hx)
  have hpos : 0 < x.args.length := List.length_pos_iff.2 hne
  have hwl : IntKind.i64.wrap ((x.args.length : Int) - 1) = ((x.args.length - 1 : Nat) : Int) := by
    rw [show (x.args.length : Int) - 1 = ((x.args.length - 1 : Nat) : Int) by omega]; exact IntWalk.i64_in _ (by omega)
  obtain ⟨a, ha⟩ := someAt x.args (x.args.length - 1) (by omega)
  have hlast : x.args.getLast? = some a := by rw [List.getLast?_eq_getElem?]; exact ha
  have hb := ck_blk hp cb p path found
  simp only [ckCs, declsAV] at hb
  refine acalls_of Tryz.func236 rfl (by decide +kernel) (awp_sound (mu := []) _ _ _ ?_)
  simp only [go_sem, Nat.reduceEqDiff, Nat.reduceAdd, Nat.reduceSub, Nat.reduceLT, Nat.reduceMul, Nat.reduceBEq, Nat.reduceLeDiff, ↓reduceIte, Int.reduceToNat, Nat.reduceGT, Int.reduceLE, Int.reduceLT, Int.reduceGE, Int.reduceGT, Int.reduceEq, Int.reduceNe, reduceCtorEq, TermG.av, TermG.cs_eq, ptr0]
  intro q1
  refine draw_by (mu := []) (fun h => h.blk cb = (CkHp hp cb p path found).blk cb) (.take 0 (.take 1 (.take 2 (.take 3 (.take 4 (.take 5 (.take 6 (.take 7 (.take 8 (.take 9 (.take 10 (.take 11 (.take 12 (.take 13 (.take 14 (.take 15 (.done))))))))))))))))) (by decide +kernel) rfl (by decide +kernel) (by decide +kernel) ?_
  simp only [go_sem, Nat.reduceEqDiff, Nat.reduceAdd, Nat.reduceSub, Nat.reduceLT, Nat.reduceMul, Nat.reduceBEq, Nat.reduceLeDiff, ↓reduceIte, Int.reduceToNat, Nat.reduceGT, Int.reduceLE, Int.reduceLT, Int.reduceGE, Int.reduceGT, Int.reduceEq, Int.reduceNe, reduceCtorEq, hb, hwt, mapAt DeclG.av _ _ _ hd, DeclG.av, DeclG.cs, mapAt XtorG.av _ _ _ hx, XtorG.av, XtorG.cs]
  refine ⟨fun h e => by rw [e]; simp only [go_sem, Nat.reduceEqDiff, Nat.reduceAdd, Nat.reduceSub, Nat.reduceLT, Nat.reduceMul, Nat.reduceBEq, Nat.reduceLeDiff, ↓reduceIte, Int.reduceToNat, Nat.reduceGT, Int.reduceLE, Int.reduceLT, Int.reduceGE, Int.reduceGT, Int.reduceEq, Int.reduceNe, reduceCtorEq], by omega, fun _ _ => by omega, ?_⟩
  simp only [go_sem, Nat.reduceEqDiff, Nat.reduceAdd, Nat.reduceSub, Nat.reduceLT, Nat.reduceMul, Nat.reduceBEq, Nat.reduceLeDiff, ↓reduceIte, Int.reduceToNat, Nat.reduceGT, Int.reduceLE, Int.reduceLT, Int.reduceGE, Int.reduceGT, Int.reduceEq, Int.reduceNe, reduceCtorEq, List.length_map, hwl, mapAt ArgG.av _ _ _ ha, ArgG.av, ArgG.cs]
  exact ret_same ⟨by simp [resX, hlast], rfl⟩
end
end Go.Proofs.YtkoachnlimebaaaGreatDoor
/- The layer 'check': subterms. -/
set_option linter.unusedSimpArgs false
set_option linter.unusedVariables false
set_option maxRecDepth 20000
set_option maxHeartbeats 4000000
namespace Go.Proofs.YtkoachnlimebaaaGreatDoor
open Go.AL

def domB (E : Bytes → Option Int) : Bytes → Bool := fun s => (E s).isSome
theorem dom_set (E : Bytes → Option Int) (s : Bytes) (t : Int) : domB (setE E s t) = addP (domB E) s := by
  funext x
  simp only [domB, setE, addP]
  by_cases e : x = s <;> simp [e]
theorem dom_bind : ∀ (names : List Bytes) (ts : List Int) (E : Bytes → Option Int), names.length = ts.length → domB (bindE E names ts) = addL (domB E) names
  | [], [], E, _ => by rw [bindE]; funext x; simp [addL, hasB]; intro s r t q h; cases h
  | [], _ :: _, _, h => by cases h
  | _ :: _, [], _, h => by cases h
  | s :: r, t :: q, E, h => by
    rw [bindE, dom_bind r q _ (by simpa using h), dom_set]
    funext x
    simp only [addL, addP, hasB, List.any_cons]
    cases decide (x = s) <;> simp
/-- What a rule says of a node: its type; that it has none; that a subterm has none. -/
inductive RR where
  | good (n : Int)
  | bad
  | deep (q : List Int)
def typeK (ds : List DeclG) (fs : List FunG) (E K : Bytes → Option Int) (t : TermG) : RR :=
  match typeA ds fs E K t.op t.name t.ty 0 t.args with
  | .error p => .deep p
  | .ok l => match typeC ds fs E K (xtorsOf ds t.ty) t.args.length t.cls with
    | .error p => .deep p
    | .ok l' => match ruleT ds fs E K t (l ++ l') with
      | some r => .good r
      | none => .bad
def RR.res : RR → Except (List Int) Int
  | .good n => .ok n
  | .bad => .error []
  | .deep q => .error q
theorem typeT_K (ds : List DeclG) (fs : List FunG) (E K : Bytes → Option Int) (t : TermG) : typeT ds fs E K t = (typeK ds fs E K t).res := by
  rw [typeT_eq, typeK]
  cases typeA ds fs E K t.op t.name t.ty 0 t.args with
  | error p => rfl
  | ok l =>
    simp only
    cases typeC ds fs E K (xtorsOf ds t.ty) t.args.length t.cls with
    | error p => rfl
    | ok l' =>
      simp only
      cases ruleT ds fs E K t (l ++ l') <;> rfl
def TypR (p : ProgG) (cb : Nat) (hp : Hp) (path0 : AV) (at_ : List Int) (res : Except (List Int) Int) (r : AV) (hp' : Hp) : Prop :=
  match res with
  | .ok n => r = .tup [.v (.int .i64 n), .v (.bool true)] ∧ hp' = CkHp hp cb p path0 false
  | .error q => ∃ n h, r = .tup [.v (.int .i64 n), .v (.bool false)] ∧ hp' = CkHp (hp.setSp ((3, 1, h) :: hp.sp)) cb p (intsAV h (at_ ++ q)) true
def RulR (p : ProgG) (cb : Nat) (hp : Hp) (path0 : AV) (at_ : List Int) (res : RR) (r : AV) (hp' : Hp) : Prop :=
  match res with
  | .good n => r = .tup [.v (.int .i64 n), .v (.bool true)] ∧ hp' = CkHp hp cb p path0 false
  | .bad => ∃ n, r = .tup [.v (.int .i64 n), .v (.bool false)] ∧ hp' = CkHp hp cb p path0 false
  | .deep q => ∃ n h, r = .tup [.v (.int .i64 n), .v (.bool false)] ∧ hp' = CkHp (hp.setSp ((3, 1, h) :: hp.sp)) cb p (intsAV h (at_ ++ q)) true
/-- The contract of typ for terms of at most so many nodes. -/
def TypC (p : ProgG) (N : Nat) : Prop := ∀ (t : TermG), nodesT t ≤ N → ∀ (hp : Hp) (cb : Nat) (l : List EntG) (E K : Bytes → Option Int) (h : Value) (at_ : List Int) (path0 : AV), EnvOk l E K → validT p.ds p.pf (domB E) (domB K) t = true → at_.length + depthT t ≤ 30 →
  ACalls Tryz.prog 151 [ptr0 cb, envAV l, t.av, intsAV h at_] (CkHp hp cb p path0 false) (TypR p cb hp path0 at_ (typeT p.ds p.fs E K t))
def pathTo (i : Int) : Except (List Int) Int → Except (List Int) Int
  | .ok n => .ok n
  | .error q => .error (i :: q)
theorem typR_path {p : ProgG} {cb : Nat} {hp : Hp} {path0 : AV} {at_ : List Int} {i : Int} {res : Except (List Int) Int} {r : AV} {hp' : Hp} (h : TypR p cb hp path0 (at_ ++ [i]) res r hp') : TypR p cb hp path0 at_ (pathTo i res) r hp' := by
  cases res with
  | ok n => exact h
  | error q =>
    obtain ⟨n, hd, h1, h2⟩ := h
    exact ⟨n, hd, h1, by rw [h2, List.append_assoc]; rfl⟩
theorem ck_leE (hp : Hp) (cb : Nat) (p : ProgG) (path : AV) (f : Bool) (h : Value) {l : List (TypeId × Nat × Value)} (hl : hp.sp.Sublist l) : (CkHp (hp.setSp ((3, 1, h) :: hp.sp)) cb p path f).le (CkHp ((hp.setSp l).setSp ((3, 1, h) :: (hp.setSp l).sp)) cb p path f) := ⟨fun _ _ h => h, fun _ _ h => h, hl.cons_cons _, fun _ h => h⟩
theorem ck_setSp (hp : Hp) (cb : Nat) (p : ProgG) (path : AV) (f : Bool) (l : List (TypeId × Nat × Value)) : (CkHp hp cb p path f).setSp l = CkHp (hp.setSp l) cb p path f := rfl
theorem ck_le (hp : Hp) (cb : Nat) (p : ProgG) (path : AV) (f : Bool) {l : List (TypeId × Nat × Value)} (h : hp.sp.Sublist l) : (CkHp hp cb p path f).le (CkHp (hp.setSp l) cb p path f) := ⟨fun _ _ h => h, fun _ _ h => h, h, fun _ h => h⟩
section
variable {p : ProgG} {N : Nat} {hp : Hp} {cb : Nat} {path0 : AV}
theorem arg_calls (hv : TypC p N) (t : TermG) (i : Nat) {a : TermG} (ha : t.args[i]? = some a) (hN : nodesT a ≤ N) {l : List EntG} {E K : Bytes → Option Int} (he : EnvOk l E K) (hva : validT p.ds p.pf (domB E) (domB K) a = true) (h : Value) (at_ : List Int) (hat : at_.length + 1 + depthT a ≤ 30) :
    ACalls Tryz.prog 232 [ptr0 cb, envAV l, t.av, intsAV h at_, .v (.int .i64 i)] (CkHp hp cb p path0 false) (TypR p cb hp path0 at_ (pathTo i (typeT p.ds p.fs E K a))) := by
  refine acalls_of Tryz.func232 rfl (by decide +kernel) (awp_sound (mu := []) _ _ _ ?_)
  simp only [go_sem, Nat.reduceEqDiff, Nat.reduceAdd, Nat.reduceSub, Nat.reduceLT, Nat.reduceMul, Nat.reduceBEq, Nat.reduceLeDiff, ↓reduceIte, Int.reduceToNat, Nat.reduceGT, Int.reduceLE, Int.reduceLT, Int.reduceGE, Int.reduceGT, Int.reduceEq, Int.reduceNe, reduceCtorEq, TermG.av, TermG.cs_eq]
  intro q1
  refine draw_by (mu := []) (fun _ => True) (.take 0 (.take 1 (.take 2 (.take 3 (.take 4 (.take 5 (.take 6 (.take 7 (.take 9 (.br 8 (.br 10 (.br 11 (.br 12 (.take 13 (.take 14 (.take 15 (.take 16 (.done))))) (.stop)) (.stop)) (.stop)) (.br 10 (.br 8 (.br 11 (.br 12 (.take 13 (.take 14 (.take 15 (.take 16 (.done))))) (.stop)) (.stop)) (.stop)) (.stop)))))))))))) (by decide +kernel) trivial (by decide +kernel) (by decide +kernel) ?_
  simp only [go_sem, Nat.reduceEqDiff, Nat.reduceAdd, Nat.reduceSub, Nat.reduceLT, Nat.reduceMul, Nat.reduceBEq, Nat.reduceLeDiff, ↓reduceIte, Int.reduceToNat, Nat.reduceGT, Int.reduceLE, Int.reduceLT, Int.reduceGE, Int.reduceGT, Int.reduceEq, Int.reduceNe, reduceCtorEq, mapAt TermG.av _ _ _ ha, TermG.av, TermG.cs_eq]
  have hlen : at_.length ≤ 30 := by omega
  repeat' first
    | (refine callX_by (cloneI_calls h at_ (by omega) _) ?_; rintro r hp1 ⟨h20, rfl, rfl⟩; try simp only [go_sem, Nat.reduceEqDiff, Nat.reduceAdd, Nat.reduceSub, Nat.reduceLT, Nat.reduceMul, Nat.reduceBEq, Nat.reduceLeDiff, ↓reduceIte, Int.reduceToNat, Nat.reduceGT, Int.reduceLE, Int.reduceLT, Int.reduceGE, Int.reduceGT, Int.reduceEq, Int.reduceNe, reduceCtorEq, intsAV])
    | (refine ⟨rfl, by simp, fun hd => ?_⟩; try simp only [go_sem, Nat.reduceEqDiff, Nat.reduceAdd, Nat.reduceSub, Nat.reduceLT, Nat.reduceMul, Nat.reduceBEq, Nat.reduceLeDiff, ↓reduceIte, Int.reduceToNat, Nat.reduceGT, Int.reduceLE, Int.reduceLT, Int.reduceGE, Int.reduceGT, Int.reduceEq, Int.reduceNe, reduceCtorEq, intsAV])
    | (with_reducible refine And.intro ?_ ?_)
  · refine append_by (a := intsAV h20 at_) (b := .lst 1 hd [iv (i : Int)]) (l1 := [(3, 1, hd)]) (l2 := hp.sp) (h := h20) (h2 := hd) Tryz.k26 Tryz.s3 Tryz.y3 Tryz.z3 rfl (by decide)
      (by simp [go_sem, intsAV]) (Cast.refl _) (by simp [go_sem, iv]) (Cast.refl _) (by simp [go_sem, CkHp]) (by simp [go_sem, iv]) (by simp [maxLen]; omega) (by simp; omega) (by simp [go_sem]) (fun h23 => ?_)
    simp only [go_sem, Nat.reduceEqDiff, Nat.reduceAdd, Nat.reduceSub, Nat.reduceLT, Nat.reduceMul, Nat.reduceBEq, Nat.reduceLeDiff, ↓reduceIte, Int.reduceToNat, Nat.reduceGT, Int.reduceLE, Int.reduceLT, Int.reduceGE, Int.reduceGT, Int.reduceEq, Int.reduceNe, reduceCtorEq, ck_setSp]
    have c := hv a hN (hp.setSp ((3, 1, hd) :: (3, 1, h23) :: hp.sp)) cb l _ K h23 (at_ ++ [(i : Int)]) path0 he hva (by simp; omega)
    simp only [intsAV, List.map_append, List.map_cons, List.map_nil, TermG.av, TermG.cs_eq] at c
    refine callX_by c ?_
    rintro r hp1 hR
    have hR := typR_path hR
    cases e : pathTo i (typeT p.ds p.fs E K a) with
    | ok n =>
      rw [e] at hR
      obtain ⟨rfl, rfl⟩ := hR
      simp only [go_sem, Nat.reduceEqDiff, Nat.reduceAdd, Nat.reduceSub, Nat.reduceLT, Nat.reduceMul, Nat.reduceBEq, Nat.reduceLeDiff, ↓reduceIte, Int.reduceToNat, Nat.reduceGT, Int.reduceLE, Int.reduceLT, Int.reduceGE, Int.reduceGT, Int.reduceEq, Int.reduceNe, reduceCtorEq]
      exact ret_le (ck_le _ _ _ _ _ ((List.sublist_cons_self _ _).trans (List.sublist_cons_self _ _))) ⟨rfl, rfl⟩
    | error q =>
      rw [e] at hR
      obtain ⟨n, hq, rfl, rfl⟩ := hR
      simp only [go_sem, Nat.reduceEqDiff, Nat.reduceAdd, Nat.reduceSub, Nat.reduceLT, Nat.reduceMul, Nat.reduceBEq, Nat.reduceLeDiff, ↓reduceIte, Int.reduceToNat, Nat.reduceGT, Int.reduceLE, Int.reduceLT, Int.reduceGE, Int.reduceGT, Int.reduceEq, Int.reduceNe, reduceCtorEq]
      exact ret_le (ck_leE _ _ _ _ _ _ ((List.sublist_cons_self _ _).trans (List.sublist_cons_self _ _))) ⟨n, hq, rfl, rfl⟩
  · refine append_by (a := intsAV h20 at_) (b := .lst 1 hd [iv (i : Int)]) (l1 := []) (l2 := (3, 1, hd) :: hp.sp) (h := h20) (h2 := hd) Tryz.k26 Tryz.s3 Tryz.y3 Tryz.z3 rfl (by decide)
      (by simp [go_sem, intsAV]) (Cast.refl _) (by simp [go_sem, iv]) (Cast.refl _) (by simp [go_sem, CkHp]) (by simp [go_sem, iv]) (by simp [maxLen]; omega) (by simp; omega) (by simp [go_sem]) (fun h23 => ?_)
    simp only [go_sem, Nat.reduceEqDiff, Nat.reduceAdd, Nat.reduceSub, Nat.reduceLT, Nat.reduceMul, Nat.reduceBEq, Nat.reduceLeDiff, ↓reduceIte, Int.reduceToNat, Nat.reduceGT, Int.reduceLE, Int.reduceLT, Int.reduceGE, Int.reduceGT, Int.reduceEq, Int.reduceNe, reduceCtorEq, ck_setSp]
    have c := hv a hN (hp.setSp ((3, 1, h23) :: (3, 1, hd) :: hp.sp)) cb l _ K h23 (at_ ++ [(i : Int)]) path0 he hva (by simp; omega)
    simp only [intsAV, List.map_append, List.map_cons, List.map_nil, TermG.av, TermG.cs_eq] at c
    refine callX_by c ?_
    rintro r hp1 hR
    have hR := typR_path hR
    cases e : pathTo i (typeT p.ds p.fs E K a) with
    | ok n =>
      rw [e] at hR
      obtain ⟨rfl, rfl⟩ := hR
      simp only [go_sem, Nat.reduceEqDiff, Nat.reduceAdd, Nat.reduceSub, Nat.reduceLT, Nat.reduceMul, Nat.reduceBEq, Nat.reduceLeDiff, ↓reduceIte, Int.reduceToNat, Nat.reduceGT, Int.reduceLE, Int.reduceLT, Int.reduceGE, Int.reduceGT, Int.reduceEq, Int.reduceNe, reduceCtorEq]
      exact ret_le (ck_le _ _ _ _ _ ((List.sublist_cons_self _ _).trans (List.sublist_cons_self _ _))) ⟨rfl, rfl⟩
    | error q =>
      rw [e] at hR
      obtain ⟨n, hq, rfl, rfl⟩ := hR
      simp only [go_sem, Nat.reduceEqDiff, Nat.reduceAdd, Nat.reduceSub, Nat.reduceLT, Nat.reduceMul, Nat.reduceBEq, Nat.reduceLeDiff, ↓reduceIte, Int.reduceToNat, Nat.reduceGT, Int.reduceLE, Int.reduceLT, Int.reduceGE, Int.reduceGT, Int.reduceEq, Int.reduceNe, reduceCtorEq]
      exact ret_le (ck_leE _ _ _ _ _ _ ((List.sublist_cons_self _ _).trans (List.sublist_cons_self _ _))) ⟨n, hq, rfl, rfl⟩
theorem body_calls (hv : TypC p N) (t : TermG) (i : Nat) {c1 : ClauseG} (hc : t.cls[i]? = some c1) (hN : nodesT c1.body ≤ N) {l : List EntG} {E K : Bytes → Option Int} (he : EnvOk l E K) (hva : validT p.ds p.pf (domB E) (domB K) c1.body = true) (h : Value) (at_ : List Int) (hat : at_.length + 1 + depthT c1.body ≤ 30) (hsm : t.args.length + i ≤ 9223372036854775807) :
    ACalls Tryz.prog 234 [ptr0 cb, envAV l, t.av, intsAV h at_, .v (.int .i64 i)] (CkHp hp cb p path0 false) (TypR p cb hp path0 at_ (pathTo (t.args.length + i : Nat) (typeT p.ds p.fs E K c1.body))) := by
  have hwi : IntKind.i64.wrap ((t.args.length : Int) + (i : Int)) = ((t.args.length + i : Nat) : Int) := by
    rw [show (t.args.length : Int) + (i : Int) = ((t.args.length + i : Nat) : Int) by omega]; exact IntWalk.i64_in _ (by omega)
  refine acalls_of Tryz.func234 rfl (by decide +kernel) (awp_sound (mu := []) _ _ _ ?_)
  simp only [go_sem, Nat.reduceEqDiff, Nat.reduceAdd, Nat.reduceSub, Nat.reduceLT, Nat.reduceMul, Nat.reduceBEq, Nat.reduceLeDiff, ↓reduceIte, Int.reduceToNat, Nat.reduceGT, Int.reduceLE, Int.reduceLT, Int.reduceGE, Int.reduceGT, Int.reduceEq, Int.reduceNe, reduceCtorEq, TermG.av, TermG.cs_eq]
  intro q1
  refine draw_by (mu := []) (fun _ => True) (.take 0 (.take 1 (.take 2 (.take 3 (.take 4 (.take 5 (.take 6 (.take 7 (.take 8 (.take 10 (.take 11 (.take 12 (.take 13 (.take 14 (.br 9 (.br 15 (.br 16 (.br 17 (.take 18 (.take 19 (.take 20 (.take 21 (.done))))) (.stop)) (.stop)) (.stop)) (.br 15 (.br 9 (.br 16 (.br 17 (.take 18 (.take 19 (.take 20 (.take 21 (.done))))) (.stop)) (.stop)) (.stop)) (.stop))))))))))))))))) (by decide +kernel) trivial (by decide +kernel) (by decide +kernel) ?_
  simp only [go_sem, Nat.reduceEqDiff, Nat.reduceAdd, Nat.reduceSub, Nat.reduceLT, Nat.reduceMul, Nat.reduceBEq, Nat.reduceLeDiff, ↓reduceIte, Int.reduceToNat, Nat.reduceGT, Int.reduceLE, Int.reduceLT, Int.reduceGE, Int.reduceGT, Int.reduceEq, Int.reduceNe, reduceCtorEq, mapAt ClauseG.av _ _ _ hc, ClauseG.av, ClauseG.cs_eq, List.length_map, hwi]
  have hlen : at_.length ≤ 30 := by omega
  repeat' first
    | (refine callX_by (cloneI_calls h at_ (by omega) _) ?_; rintro r hp1 ⟨h20, rfl, rfl⟩; try simp only [go_sem, Nat.reduceEqDiff, Nat.reduceAdd, Nat.reduceSub, Nat.reduceLT, Nat.reduceMul, Nat.reduceBEq, Nat.reduceLeDiff, ↓reduceIte, Int.reduceToNat, Nat.reduceGT, Int.reduceLE, Int.reduceLT, Int.reduceGE, Int.reduceGT, Int.reduceEq, Int.reduceNe, reduceCtorEq, intsAV, List.length_map, hwi])
    | (refine ⟨rfl, by simp, fun hd => ?_⟩; try simp only [go_sem, Nat.reduceEqDiff, Nat.reduceAdd, Nat.reduceSub, Nat.reduceLT, Nat.reduceMul, Nat.reduceBEq, Nat.reduceLeDiff, ↓reduceIte, Int.reduceToNat, Nat.reduceGT, Int.reduceLE, Int.reduceLT, Int.reduceGE, Int.reduceGT, Int.reduceEq, Int.reduceNe, reduceCtorEq, intsAV])
    | (with_reducible refine And.intro ?_ ?_)
  · refine append_by (a := intsAV h20 at_) (b := .lst 1 hd [iv ((t.args.length + i : Nat) : Int)]) (l1 := [(3, 1, hd)]) (l2 := hp.sp) (h := h20) (h2 := hd) Tryz.k26 Tryz.s3 Tryz.y3 Tryz.z3 rfl (by decide)
      (by simp [go_sem, intsAV]) (Cast.refl _) (by simp [go_sem, iv]) (Cast.refl _) (by simp [go_sem, CkHp]) (by simp [go_sem, iv]) (by simp [maxLen]; omega) (by simp; omega) (by simp [go_sem]) (fun h23 => ?_)
    simp only [go_sem, Nat.reduceEqDiff, Nat.reduceAdd, Nat.reduceSub, Nat.reduceLT, Nat.reduceMul, Nat.reduceBEq, Nat.reduceLeDiff, ↓reduceIte, Int.reduceToNat, Nat.reduceGT, Int.reduceLE, Int.reduceLT, Int.reduceGE, Int.reduceGT, Int.reduceEq, Int.reduceNe, reduceCtorEq, ck_setSp]
    have c := hv c1.body hN (hp.setSp ((3, 1, hd) :: (3, 1, h23) :: hp.sp)) cb l _ K h23 (at_ ++ [((t.args.length + i : Nat) : Int)]) path0 he hva (by simp; omega)
    simp only [intsAV, List.map_append, List.map_cons, List.map_nil, TermG.av, TermG.cs_eq] at c
    refine callX_by c ?_
    rintro r hp1 hR
    have hR := typR_path hR
    cases e : pathTo (t.args.length + i : Nat) (typeT p.ds p.fs E K c1.body) with
    | ok n =>
      rw [e] at hR
      obtain ⟨rfl, rfl⟩ := hR
      simp only [go_sem, Nat.reduceEqDiff, Nat.reduceAdd, Nat.reduceSub, Nat.reduceLT, Nat.reduceMul, Nat.reduceBEq, Nat.reduceLeDiff, ↓reduceIte, Int.reduceToNat, Nat.reduceGT, Int.reduceLE, Int.reduceLT, Int.reduceGE, Int.reduceGT, Int.reduceEq, Int.reduceNe, reduceCtorEq]
      exact ret_le (ck_le _ _ _ _ _ ((List.sublist_cons_self _ _).trans (List.sublist_cons_self _ _))) ⟨rfl, rfl⟩
    | error q =>
      rw [e] at hR
      obtain ⟨n, hq, rfl, rfl⟩ := hR
      simp only [go_sem, Nat.reduceEqDiff, Nat.reduceAdd, Nat.reduceSub, Nat.reduceLT, Nat.reduceMul, Nat.reduceBEq, Nat.reduceLeDiff, ↓reduceIte, Int.reduceToNat, Nat.reduceGT, Int.reduceLE, Int.reduceLT, Int.reduceGE, Int.reduceGT, Int.reduceEq, Int.reduceNe, reduceCtorEq]
      exact ret_le (ck_leE _ _ _ _ _ _ ((List.sublist_cons_self _ _).trans (List.sublist_cons_self _ _))) ⟨n, hq, rfl, rfl⟩
  · refine append_by (a := intsAV h20 at_) (b := .lst 1 hd [iv ((t.args.length + i : Nat) : Int)]) (l1 := []) (l2 := (3, 1, hd) :: hp.sp) (h := h20) (h2 := hd) Tryz.k26 Tryz.s3 Tryz.y3 Tryz.z3 rfl (by decide)
      (by simp [go_sem, intsAV]) (Cast.refl _) (by simp [go_sem, iv]) (Cast.refl _) (by simp [go_sem, CkHp]) (by simp [go_sem, iv]) (by simp [maxLen]; omega) (by simp; omega) (by simp [go_sem]) (fun h23 => ?_)
    simp only [go_sem, Nat.reduceEqDiff, Nat.reduceAdd, Nat.reduceSub, Nat.reduceLT, Nat.reduceMul, Nat.reduceBEq, Nat.reduceLeDiff, ↓reduceIte, Int.reduceToNat, Nat.reduceGT, Int.reduceLE, Int.reduceLT, Int.reduceGE, Int.reduceGT, Int.reduceEq, Int.reduceNe, reduceCtorEq, ck_setSp]
    have c := hv c1.body hN (hp.setSp ((3, 1, h23) :: (3, 1, hd) :: hp.sp)) cb l _ K h23 (at_ ++ [((t.args.length + i : Nat) : Int)]) path0 he hva (by simp; omega)
    simp only [intsAV, List.map_append, List.map_cons, List.map_nil, TermG.av, TermG.cs_eq] at c
    refine callX_by c ?_
    rintro r hp1 hR
    have hR := typR_path hR
    cases e : pathTo (t.args.length + i : Nat) (typeT p.ds p.fs E K c1.body) with
    | ok n =>
      rw [e] at hR
      obtain ⟨rfl, rfl⟩ := hR
      simp only [go_sem, Nat.reduceEqDiff, Nat.reduceAdd, Nat.reduceSub, Nat.reduceLT, Nat.reduceMul, Nat.reduceBEq, Nat.reduceLeDiff, ↓reduceIte, Int.reduceToNat, Nat.reduceGT, Int.reduceLE, Int.reduceLT, Int.reduceGE, Int.reduceGT, Int.reduceEq, Int.reduceNe, reduceCtorEq]
      exact ret_le (ck_le _ _ _ _ _ ((List.sublist_cons_self _ _).trans (List.sublist_cons_self _ _))) ⟨rfl, rfl⟩
    | error q =>
      rw [e] at hR
      obtain ⟨n, hq, rfl, rfl⟩ := hR
      simp only [go_sem, Nat.reduceEqDiff, Nat.reduceAdd, Nat.reduceSub, Nat.reduceLT, Nat.reduceMul, Nat.reduceBEq, Nat.reduceLeDiff, ↓reduceIte, Int.reduceToNat, Nat.reduceGT, Int.reduceLE, Int.reduceLT, Int.reduceGE, Int.reduceGT, Int.reduceEq, Int.reduceNe, reduceCtorEq]
      exact ret_le (ck_leE _ _ _ _ _ _ ((List.sublist_cons_self _ _).trans (List.sublist_cons_self _ _))) ⟨n, hq, rfl, rfl⟩
end
end Go.Proofs.YtkoachnlimebaaaGreatDoor
/- The layer 'check': the first arguments of a term. -/
set_option linter.unusedSimpArgs false
set_option linter.unusedVariables false
set_option maxRecDepth 20000
set_option maxHeartbeats 4000000
namespace Go.Proofs.YtkoachnlimebaaaGreatDoor
open Go.AL

theorem argE_id {E : Bytes → Option Int} {op : Int} (h : op ≠ 8) (name : Bytes) (ty : Int) (k : Nat) : argE E op name ty k = E := by rw [argE, if_neg (by rintro ⟨h1, _⟩; exact h h1)]
theorem argK_id {K : Bytes → Option Int} {op : Int} (h : op ≠ 11) (name : Bytes) (ty : Int) : argK K op name ty = K := by rw [argK, if_neg h]
theorem typeA_cons (ds : List DeclG) (fs : List FunG) (E K : Bytes → Option Int) (op : Int) (name : Bytes) (ty : Int) (k : Nat) (a : TermG) (r : List TermG) : typeA ds fs E K op name ty k (a :: r) =
    match typeT ds fs (argE E op name ty k) (argK K op name ty) a with
    | .error p => .error ((k : Int) :: p)
    | .ok n => match typeA ds fs E K op name ty (k + 1) r with
      | .error p => .error p
      | .ok l => .ok (n :: l) := by
  rw [typeA]
  cases typeT ds fs (argE E op name ty k) (argK K op name ty) a with
  | error q => rfl
  | ok n => cases typeA ds fs E K op name ty (k + 1) r <;> rfl
theorem typeA_nil (ds : List DeclG) (fs : List FunG) (E K : Bytes → Option Int) (op : Int) (name : Bytes) (ty : Int) (k : Nat) : typeA ds fs E K op name ty k [] = .ok [] := by rw [typeA]
def preO (got : List Int) : Except (List Int) (List Int) → Except (List Int) (List Int)
  | .ok l => .ok (got ++ l)
  | .error q => .error q
def ArgsR (p : ProgG) (cb : Nat) (hp : Hp) (path0 : AV) (at_ want : List Int) (res : Except (List Int) (List Int)) (r : AV) (hp' : Hp) : Prop :=
  match res with
  | .ok got => r = .v (.bool (decide (got = want))) ∧ hp' = CkHp hp cb p path0 false
  | .error q => r = .v (.bool false) ∧ ∃ h, hp' = CkHp (hp.setSp ((3, 1, h) :: hp.sp)) cb p (intsAV h (at_ ++ q)) true
section
variable {p : ProgG} {N : Nat} {hp : Hp} {cb : Nat} {path0 : AV}
theorem args_calls (hv : TypC p N) (t : TermG) (h8 : t.op ≠ 8) (h11 : t.op ≠ 11) (hN : ∀ a ∈ t.args, nodesT a ≤ N) {l : List EntG} {E K : Bytes → Option Int} (he : EnvOk l E K) (hva : ∀ a ∈ t.args, validT p.ds p.pf (domB E) (domB K) a = true)
    (h : Value) (at_ : List Int) (hat : at_.length + depthT t ≤ 30) (hw : Value) (want : List Int) (hwl : want.length = t.args.length) :
    ACalls Tryz.prog 231 [ptr0 cb, envAV l, t.av, intsAV h at_, intsAV hw want] (CkHp hp cb p path0 false) (ArgsR p cb hp path0 at_ want (typeA p.ds p.fs E K t.op t.name t.ty 0 t.args)) := by
  refine acalls_fit (callable_of Tryz.func231 (by decide +kernel)) fun hfit => ?_
  have hll : want.length ≤ maxLen := fit_lst hfit.2.2.2.2.1
  clear hfit
  have hda : ∀ a ∈ t.args, depthT a + 1 ≤ depthT t := by
    have go : ∀ (l : List TermG) (a : TermG), a ∈ l → depthT a ≤ depthA l := by
      intro l
      induction l with
      | nil => intro a ha; cases ha
      | cons b r ih =>
        intro a ha
        rw [depthA_cons]
        rcases List.mem_cons.1 ha with rfl | ha
        · omega
        · have := ih a ha; omega
    intro a ha
    have := go _ a ha
    rw [depthT_eq t]; omega
  refine acalls_of Tryz.func231 rfl (by decide +kernel) (awp_sound (mu := []) _ _ _ ?_)
  simp only [go_sem, Nat.reduceEqDiff, Nat.reduceAdd, Nat.reduceSub, Nat.reduceLT, Nat.reduceMul, Nat.reduceBEq, Nat.reduceLeDiff, ↓reduceIte, Int.reduceToNat, Nat.reduceGT, Int.reduceLE, Int.reduceLT, Int.reduceGE, Int.reduceGT, Int.reduceEq, Int.reduceNe, reduceCtorEq, TermG.av, TermG.cs_eq, intsAV]
  intro q1
  refine aw_loopX 42 (fun x : Nat × List Int => [(0, ptr0 cb), (1, envAV l), (3, .lst 1 h (at_.map iv)), (7, .ref q1 [.v (.int .i64 t.op), .v (.int .i64 t.n), .v (.string (bs t.name)), .v (.int .i64 t.ty), .lst 6 t.ha (t.args.map TermG.av), .lst 7 t.hc (t.cls.map ClauseG.av)]), (11, .v (.bool (decide (x.2 = want.take x.1)))), (16, .lst 1 hw (want.map iv)), (17, .v (.int .i64 want.length)), (18, .v (.int .i64 x.1))])
    (fun _ => CkHp hp cb p path0 false) (fun x => x.1 ≤ want.length ∧ x.2.length = x.1 ∧ typeA p.ds p.fs E K t.op t.name t.ty 0 t.args = preO x.2 (typeA p.ds p.fs E K t.op t.name t.ty x.1 (t.args.drop x.1))) (fun x => want.length - x.1) (0, [])
    ⟨Nat.zero_le _, rfl, by cases e : typeA p.ds p.fs E K t.op t.name t.ty 0 t.args <;> simp [preO, e]⟩ (le_mkSl rfl (Hp.le_refl _) (by simp [go_sem])) ?_
  rintro ⟨k, got⟩ ⟨hk, hgl, hty⟩
  simp only at hk hgl hty
  refine awp_sound (mu := []) _ _ _ ?_
  simp only [go_sem, Nat.reduceEqDiff, Nat.reduceAdd, Nat.reduceSub, Nat.reduceLT, Nat.reduceMul, Nat.reduceBEq, Nat.reduceLeDiff, ↓reduceIte, Int.reduceToNat, Nat.reduceGT, Int.reduceLE, Int.reduceLT, Int.reduceGE, Int.reduceGT, Int.reduceEq, Int.reduceNe, reduceCtorEq]
  refine brK_mk (fun h1 => ?_) (fun h1 => ?_) <;> simp only [go_sem, Nat.reduceEqDiff, Nat.reduceAdd, Nat.reduceSub, Nat.reduceLT, Nat.reduceMul, Nat.reduceBEq, Nat.reduceLeDiff, ↓reduceIte, Int.reduceToNat, Nat.reduceGT, Int.reduceLE, Int.reduceLT, Int.reduceGE, Int.reduceGT, Int.reduceEq, Int.reduceNe, reduceCtorEq, h1]
  · have hk' : k < want.length := by simpa using h1
    obtain ⟨w, hw'⟩ := someAt want k hk'
    obtain ⟨a, ha⟩ := someAt t.args k (by omega)
    have hm := List.mem_of_getElem? ha
    have hwu := upK k _ hk' hll
    have htk : want.take (k + 1) = want.take k ++ [w] := by rw [List.take_add_one, hw']; rfl
    rw [dropK ha, typeA_cons, argE_id h8, argK_id h11] at hty
    simp only [go_sem, Nat.reduceEqDiff, Nat.reduceAdd, Nat.reduceSub, Nat.reduceLT, Nat.reduceMul, Nat.reduceBEq, Nat.reduceLeDiff, ↓reduceIte, Int.reduceToNat, Nat.reduceGT, Int.reduceLE, Int.reduceLT, Int.reduceGE, Int.reduceGT, Int.reduceEq, Int.reduceNe, reduceCtorEq, mapAt iv _ _ _ hw', iv]
    have c := arg_calls (hp := hp) (cb := cb) (path0 := path0) hv t k ha (hN a hm) he (hva a hm) h at_ (by have := hda a hm; omega)
    simp only [TermG.av, TermG.cs_eq, intsAV] at c
    refine callX_by c ?_
    clear c
    rintro r hp1 hR
    cases e : typeT p.ds p.fs E K a with
    | ok n =>
      rw [e] at hR hty
      obtain ⟨rfl, rfl⟩ := hR
      simp only at hty
      have hty2 : typeA p.ds p.fs E K t.op t.name t.ty 0 t.args = preO (got ++ [n]) (typeA p.ds p.fs E K t.op t.name t.ty (k + 1) (t.args.drop (k + 1))) := by
        rw [hty]
        cases typeA p.ds p.fs E K t.op t.name t.ty (k + 1) (t.args.drop (k + 1)) with
        | ok l => simp [preO]
        | error q => rfl
      have hdec : (decide (got = want.take k) && decide (n = w)) = decide (got ++ [n] = want.take (k + 1)) := by
        rw [htk, Bool.eq_iff_iff]
        simp only [Bool.and_eq_true, decide_eq_true_eq]
        constructor
        · rintro ⟨h1, h2⟩; rw [h1, h2]
        · intro hh
          have := List.append_inj hh (by rw [hgl, List.length_take]; omega)
          exact ⟨this.1, by simpa using this.2⟩
      simp only [go_sem, Nat.reduceEqDiff, Nat.reduceAdd, Nat.reduceSub, Nat.reduceLT, Nat.reduceMul, Nat.reduceBEq, Nat.reduceLeDiff, ↓reduceIte, Int.reduceToNat, Nat.reduceGT, Int.reduceLE, Int.reduceLT, Int.reduceGE, Int.reduceGT, Int.reduceEq, Int.reduceNe, reduceCtorEq]
      refine brK_mk (fun b2 => ?_) (fun b2 => ?_) <;> simp only [go_sem, Nat.reduceEqDiff, Nat.reduceAdd, Nat.reduceSub, Nat.reduceLT, Nat.reduceMul, Nat.reduceBEq, Nat.reduceLeDiff, ↓reduceIte, Int.reduceToNat, Nat.reduceGT, Int.reduceLE, Int.reduceLT, Int.reduceGE, Int.reduceGT, Int.reduceEq, Int.reduceNe, reduceCtorEq, b2, hwu]
      · rw [b2, Bool.true_and] at hdec
        exact ⟨(k + 1, got ++ [n]), by simp only; omega, ⟨by simp only; omega, by simp [hgl], hty2⟩, le_mkSl rfl (Hp.le_refl _) (by simp [go_sem, hwu, ← hdec])⟩
      · rw [b2, Bool.false_and] at hdec
        exact ⟨(k + 1, got ++ [n]), by simp only; omega, ⟨by simp only; omega, by simp [hgl], hty2⟩, le_mkSl rfl (Hp.le_refl _) (by simp only [go_sem, ← hdec]; simp [go_sem, hwu])⟩
    | error q =>
      rw [e] at hR hty
      obtain ⟨n, hq, rfl, rfl⟩ := hR
      simp only [go_sem, Nat.reduceEqDiff, Nat.reduceAdd, Nat.reduceSub, Nat.reduceLT, Nat.reduceMul, Nat.reduceBEq, Nat.reduceLeDiff, ↓reduceIte, Int.reduceToNat, Nat.reduceGT, Int.reduceLE, Int.reduceLT, Int.reduceGE, Int.reduceGT, Int.reduceEq, Int.reduceNe, reduceCtorEq]
      exact ret_same (by rw [hty]; exact ⟨rfl, hq, rfl⟩)
  · have e : k = want.length := by simp at h1; omega
    subst e
    rw [List.drop_of_length_le (by omega), typeA_nil] at hty
    rw [List.take_length]
    exact ret_same (by rw [hty]; exact ⟨by simp, rfl⟩)
end
end Go.Proofs.YtkoachnlimebaaaGreatDoor
