/- Appends as operations; maps; the way into a function and out of it. -/
import Derived.Test.YtfdlfcafcjhpmaaCAL9
namespace Go.AL
section
variable {P : Program}

/-- The same value, told otherwise. -/
def Cast (a b : AV) : Prop := b.val = a.val ∧ ∀ m, a.ok m → b.ok m
theorem Cast.refl (a : AV) : Cast a a := ⟨rfl, fun _ h => h⟩
theorem Cast.nil (sz : Nat) : Cast (.v (.slice none 0 0)) (.lst sz (.slice none 0 0) []) :=
  ⟨rfl, fun _ _ => ⟨⟨none, 0, rfl, Nat.le_refl _, by simp [maxLen], by simp [AV.vals], by simp [AV.vals]⟩, trivial⟩⟩

/-- What a state's slot holds may be told otherwise. -/
theorem aw_cast {c : Code} {Q : Exit → St → Prop} {st : St} {d : Nat} {a b : AV} (hd : st.sl d = some a) (hc : Cast a b) (h : AWp P c Q (st.put d b)) : AWp P c Q st := by
  intro F ac w hr
  refine h F ac w ⟨hr.lo, hr.df, hr.n, ?_⟩
  obtain ⟨m, hm⟩ := hr.ex
  refine ⟨m, hm.le, hm.hp, fun i x hx => ?_⟩
  rw [St.put_sl] at hx
  split at hx
  · rename_i e; subst e
    obtain rfl := Option.some.inj hx
    obtain ⟨h1, h2⟩ := hm.sl i a hd
    exact ⟨by rw [h1, hc.1], hc.2 m h2⟩
  · exact hm.sl i x hx

theorem aop_append {o : Oper} {t e : TypeId} {s x : Operand} {sz by_ : Nat} {z : Value} {K : St → Prop} {st : St} {a b : AV} {h h2 : Value} {xs ys : List AV} {l1 l2 : List (TypeId × Nat × Value)}
    (ho : o.op = .call { callee := .builtin .append, args := #[s, x], argTypes := #[t, t] })
    (hk : kindT P t = .sl e) (hsz : szT P e = some sz) (hby : bytesT P e = some by_) (hz : zeroT P e = some z) (hzs : z.cells.size = sz) (hpos : 0 < sz)
    (hs : st.ev s = some a) (ca : Cast a (.lst sz h xs)) (hx : st.ev x = some b) (cb : Cast b (.lst sz h2 ys)) (hsp : st.hp.sp = l1 ++ (e, sz, h) :: l2)
    (hone : (ys.flatMap AV.cells).all AV.one = true) (h63 : xs.length + ys.length ≤ maxLen) (hbytes : (xs.length + ys.length) * by_ ≤ 140737488355328) (hd : dstOk st o.dst)
    (hK : ∀ h', K ((st.setHp (st.hp.setSp (l1 ++ (e, sz, h') :: l2))).putO o.dst (.lst sz h' (xs ++ ys)))) : AOp P o K st := by
  intro F ac w hr K' Q hK'
  obtain ⟨m, hm⟩ := hr.ex
  have oa := ca.2 m (hm.ok hs)
  have ob := cb.2 m (hm.ok hx)
  obtain ⟨h', w', m', hrun, h1, h2', h3, h4, h5, hle, hhp, hok⟩ := append_core (ty := o.type) hm.hp hr.lo.bs (kind_sl hk) hsz hby hz hzs hpos oa ob hone hsp h63 hbytes
  unfold Oper.wp
  have hv := hr.eval hs
  have hv2 := hr.eval hx
  rw [← ca.1] at hv
  rw [← cb.1] at hv2
  simp only [AV.val] at hv hv2
  have hrun' : (execOp ac.eval o).run P w = .ok (.value h') w' := by
    simp only [execOp, ho, resolve, Sem.run_bind, Sem.run_pure, Result.andThen_ok, invoke, builtin]
    simp [hv, hv2, hrun]
  rw [hrun']
  exact hK' _ _ ⟨_, hK h', hr.close hm (hr.lo.grow h1 h2' h3 h4 h5) hle hhp hd (x := .lst sz h' (xs ++ ys)) hok⟩

theorem Rel.addNil {F : Fr} {st : St} {a : Act} {w : World} (hr : Rel F st a w) (e : TypeId) (sz : Nat) : Rel F (st.setHp (st.hp.setSp ((e, sz, .slice none 0 0) :: st.hp.sp))) a w := by
  obtain ⟨m, hm⟩ := hr.ex
  exact ⟨hr.lo, hr.df, hr.n, m, hm.turn (Mem.le_refl m) (hm.hp.addSp (.inl rfl) (fun b hb => by cases hb))⟩

/-- Append to a nil slice. -/
theorem aop_append0 {o : Oper} {t e : TypeId} {s x : Operand} {sz by_ : Nat} {z : Value} {K : St → Prop} {st : St} {a b : AV} {h2 : Value} {ys : List AV}
    (ho : o.op = .call { callee := .builtin .append, args := #[s, x], argTypes := #[t, t] })
    (hk : kindT P t = .sl e) (hsz : szT P e = some sz) (hby : bytesT P e = some by_) (hz : zeroT P e = some z) (hzs : z.cells.size = sz) (hpos : 0 < sz)
    (hs : st.ev s = some a) (ca : Cast a (.lst sz (.slice none 0 0) [])) (hx : st.ev x = some b) (cb : Cast b (.lst sz h2 ys))
    (hone : (ys.flatMap AV.cells).all AV.one = true) (h63 : ys.length ≤ maxLen) (hbytes : ys.length * by_ ≤ 140737488355328) (hd : dstOk st o.dst)
    (hK : ∀ h', K ((st.setHp (st.hp.setSp ((e, sz, h') :: st.hp.sp))).putO o.dst (.lst sz h' ys))) : AOp P o K st := by
  have hA : AOp P o K (st.setHp (st.hp.setSp ((e, sz, .slice none 0 0) :: st.hp.sp))) := by
    refine aop_append (l1 := []) (l2 := st.hp.sp) (xs := []) ho hk hsz hby hz hzs hpos (a := a) ?_ ca (b := b) ?_ cb rfl hone (by simpa using h63) (by simpa using hbytes) (by cases ho' : o.dst <;> simp [dstOk, ho'] at hd ⊢; exact hd) hK
    · cases s <;> exact hs
    · cases x <;> exact hx
  intro F ac w hr K' Q hK'
  exact hA F ac w (hr.addNil e sz) K' Q hK'

/-! ### Into a function and out of it -/
def retsK (P : Program) (st : St) : List ResultVar → (List AV → Prop) → Prop
  | [], K => K []
  | .tmp t :: rs, K => withAV (st.sl t) fun x => retsK P st rs (fun l => K (x :: l))
  | .cell a t :: rs, K => withAV (st.sl a) fun p => loadK P st.hp t p fun x => retsK P st rs (fun l => K (x :: l))

def oneOf : List AV → AV
  | [x] => x
  | l => .tup l

/-- What a function may hand back: the value may be told otherwise, less be tracked, tracked memory be published. -/
def Gives (hp : Hp) (a : AV) (hp' : Hp) (r : AV) : Prop := r.val = a.val ∧ ∀ base m w, HpOk base hp m w → a.ok m → ∃ m', m.le m' ∧ HpOk base hp' m' w ∧ r.ok m'

def aret (P : Program) (fn : Func) (R : AV → Hp → Prop) : Exit → St → Prop
  | .normal, st => retsK P st fn.results.toList fun l => ∃ hp' r, Gives st.hp (oneOf l) hp' r ∧ R r hp'
  | .ret, st => retsK P st fn.results.toList fun l => ∃ hp' r, Gives st.hp (oneOf l) hp' r ∧ R r hp'
  | _, _ => False

def resF (tmps : Array Value) (x : ResultVar) : Sem Value :=
  match x with
  | .tmp t => pure (tmps.getD t undef)
  | .cell a t => do loadVar t (← asAddr (tmps.getD a undef))

theorem resF_tmp (tmps : Array Value) (t : Nat) : resF tmps (.tmp t) = pure (tmps.getD t undef) := rfl
theorem resF_cell (tmps : Array Value) (a : Nat) (t : TypeId) : resF tmps (.cell a t) = (do loadVar t (← asAddr (tmps.getD a undef))) := rfl

theorem retsK_sound {st : St} {F : Fr} {a : Act} {w : World} {m : Mem} (hr : Rel F st a w) (hm : RelM F st a w m) : ∀ (rs : List ResultVar) (K : List AV → Prop), retsK P st rs K →
    ∃ l, K l ∧ AV.oks m l ∧ (rs.mapM (resF a.tmps)).run P w = .ok (AV.vals l) w
  | [], K, h => ⟨[], h, trivial, rfl⟩
  | .tmp t :: rs, K, h => by
    obtain ⟨x, hx, h⟩ := withAV_elim h
    obtain ⟨l, hK, hok, hrun⟩ := retsK_sound hr hm rs _ h
    refine ⟨x :: l, hK, ⟨(hm.sl t x hx).2, hok⟩, ?_⟩
    have he : a.tmps.getD t undef = x.val := by rw [Array.getD_eq_getD_getElem?, (hm.sl t x hx).1]; rfl
    simp only [List.mapM_cons, resF_tmp, Sem.run_bind, Sem.run_pure, Result.andThen_ok, hrun, he, AV.vals]
  | .cell a' t :: rs, K, h => by
    obtain ⟨p, hp, h⟩ := withAV_elim h
    obtain ⟨x, hx, hy⟩ := loadK_sound (P := P) (st := st) (o := .tmp a') hp h
    obtain ⟨l, hK, hok, hrun⟩ := retsK_sound hr hm rs _ hx
    obtain ⟨h1, h2⟩ := hy F a w m hr hm
    refine ⟨x :: l, hK, ⟨h2, hok⟩, ?_⟩
    have h1' := h1 { dst := none, op := .load t (.tmp a'), type := 0, pos := "", after := #[], guard := none } rfl
    simp only [execOp, Sem.run_bind] at h1'
    have hev : a.eval (.tmp a') = a.tmps.getD a' undef := rfl
    rw [hev] at h1'
    have hptr : ∃ ad, a.tmps.getD a' undef = .pointer (some ad) := by
      have hv := hr.eval (o := .tmp a') hp
      rw [hev] at hv
      unfold loadK at h
      split at h
      · obtain ⟨b, off, rfl, _⟩ := (hm.sl a' _ hp).2.1
        exact ⟨_, hv⟩
      · exact ⟨_, hv⟩
      · exact h.elim
    obtain ⟨ad, had⟩ := hptr
    rw [had] at h1'
    simp only [Instr.loadAt, Instr.sureAddr, Sem.run_bind, Sem.run_pure, Result.andThen_ok] at h1'
    have h3 : (loadVar t ad).run P w = .ok x.val w := by
      cases hl : (loadVar t ad).run P w with
      | ok y w2 => rw [hl] at h1'; simp at h1'; rw [h1'.1, h1'.2]
      | halt e w2 => rw [hl] at h1'; simp at h1'
    simp only [List.mapM_cons, resF_cell, had, Sem.run_bind, asAddr, Sem.run_pure, Result.andThen_ok, h3, hrun, AV.vals]

theorem results_run {st : St} {F : Fr} {a : Act} {w : World} {m : Mem} {fn : Func} (hr : Rel F st a w) (hm : RelM F st a w m) {K : List AV → Prop} (h : retsK P st fn.results.toList K) :
    ∃ l, K l ∧ AV.oks m l ∧ (results fn a.tmps).run P w = .ok (oneOf l).val w := by
  obtain ⟨l, hK, hok, hrun⟩ := retsK_sound hr hm _ K h
  refine ⟨l, hK, hok, ?_⟩
  have e : results fn a.tmps = (do let l ← fn.results.toList.mapM (resF a.tmps); pure (if h : l.toArray.size = 1 then l.toArray[0] else .tuple l.toArray)) := by
    have e1 : results fn a.tmps = (do let vs ← fn.results.mapM (resF a.tmps); pure (if h : vs.size = 1 then vs[0] else .tuple vs)) := by
      unfold results
      congr 1
    rw [e1, Array.mapM_eq_mapM_toList]
    simp
  rw [e]
  simp only [Sem.run_bind, hrun, Result.andThen_ok, Sem.run_pure]
  match l with
  | [] => rfl
  | [x] => rfl
  | x :: y :: l => simp [oneOf, AV.val, AV.vals]

theorem Gives.le {hp hp' : Hp} {a : AV} (h : hp'.le hp) : Gives hp a hp' a := ⟨rfl, fun _ m _ hh ha => ⟨m, Mem.le_refl m, hh.weaken h, ha⟩⟩
theorem Gives.cast {hp : Hp} {a b : AV} (h : Cast a b) : Gives hp a hp b := ⟨h.1, fun _ m _ hh ha => ⟨m, Mem.le_refl m, hh, h.2 m ha⟩⟩
theorem Gives.trans {h1 h2 h3 : Hp} {a b c : AV} (x : Gives h1 a h2 b) (y : Gives h2 b h3 c) : Gives h1 a h3 c :=
  ⟨y.1.trans x.1, fun base m w hh ha => by
    obtain ⟨m2, l2, hh2, ha2⟩ := x.2 base m w hh ha
    obtain ⟨m3, l3, hh3, ha3⟩ := y.2 base m2 w hh2 ha2
    exact ⟨m3, Mem.le_trans l2 l3, hh3, ha3⟩⟩

theorem acalls_of {f : FuncId} {fn : Func} {c : Code} {args : List AV} {hp : Hp} {R : AV → Hp → Prop} (hf : P.funcs[f]? = some fn) (hb : fn.body = some c) (hname : (fn.name == "runtime.NumGoroutine") = false)
    (h : AWp P c (aret P fn R) ⟨args.length + (fn.ntmps - args.length), fun i => args[i]?, hp⟩) : ACalls P f args hp R := by
  refine ⟨⟨fn, hf, hname, by simp [hb]⟩, fun F w hv => ?_⟩
  refine calls_of_wp hf hb ?_
  obtain ⟨hlo, m, hle, hhp, hok⟩ := hv
  have hrel : Rel F ⟨args.length + (fn.ntmps - args.length), fun i => args[i]?, hp⟩ { tmps := (AV.vals args).toArray ++ Array.replicate (fn.ntmps - (AV.vals args).toArray.size) undef, defers := [] } w := by
    refine ⟨hlo, rfl, by simp [AV.vals_length], m, hle, hhp, fun i x hx => ⟨?_, AV.oks_get hok hx⟩⟩
    have hlt : i < args.length := (List.getElem?_eq_some_iff.1 hx).1
    rw [Array.getElem?_append_left (by simp [AV.vals_length]; exact hlt)]
    have hx' : args[i]? = some x := hx
    simp only [List.getElem?_toArray, AV.vals_getElem?, hx', Option.map_some]
  refine Code.wp_mono ?_ (h F _ w hrel)
  rintro e a' w' ⟨st', hq, hr'⟩
  obtain ⟨m', hm'⟩ := hr'.ex
  have fin : (retsK P st' fn.results.toList fun l => ∃ hp' r, Gives st'.hp (oneOf l) hp' r ∧ R r hp') →
      a'.defers = [] ∧ ∃ v, (results fn a'.tmps).run P w' = .ok v w' ∧ ∃ r hp', R r hp' ∧ Ending.returned v = .returned r.val ∧ RelV F hp' [r] w' := by
    intro hq
    obtain ⟨l, ⟨hp', r, hg, hR⟩, hoks, hrun⟩ := results_run hr' hm' hq
    have hone : (oneOf l).ok m' := by
      match l with
      | [] => exact hoks
      | [x] => exact hoks.1
      | x :: y :: l => exact hoks
    obtain ⟨m2, hm2, hhp2, hok2⟩ := hg.2 _ _ _ hm'.hp hone
    exact ⟨hr'.df, _, hrun, r, hp', hR, by rw [hg.1], hr'.lo, m2, Mem.le_trans hm'.le hm2, hhp2, hok2, trivial⟩
  cases e with
  | normal => exact fin hq
  | ret => exact fin hq
  | exit i => exact hq.elim
  | goto l => exact hq.elim
  | panic ch => exact hq.elim
  | outgrown => exact hq.elim
end
end Go.AL
