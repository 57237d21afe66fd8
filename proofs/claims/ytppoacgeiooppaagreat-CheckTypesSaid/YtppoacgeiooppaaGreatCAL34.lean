/- The contract of a map's copy. -/
import Derived.Test.YtppoacgeiooppaaGreatCAL28
import Derived.Test.YtppoacgeiooppaaGreatCAL17
import Derived.Laws.Small
set_option linter.unusedVariables false
set_option linter.unusedSimpArgs false
namespace Go.AL
section
variable {P : Program}
theorem HpOk.copyMp {base : Nat} {hp : Hp} {m : Mem} {w : World} (h : HpOk base hp m w) (hb : base ≤ w.heap.size) {en : Array MapEntry} {cl : Nat} {es : List (Value × AV)}
    (he : en.toList.map (fun e => (e.key, e.val)) = es.map (fun p => (p.1, p.2.val))) (hok : AV.oks m (es.map (·.2))) : HpOk base (hp.setMp w.heap.size es) m (w.alloc (.map en cl)) := by
  have h' := h.world (w' := w.alloc (.map en cl)) (alloc_old _)
  refine ⟨h'.mem, h'.blk, fun b es' hx => ?_, h'.sp, h'.spd, h'.gl⟩
  rw [Hp.setMp_mp] at hx
  split at hx
  · rename_i e; subst e
    obtain rfl := Option.some.inj hx
    exact ⟨hb, ⟨en, cl, alloc_new _, he⟩, hok⟩
  · exact h'.mp b es' hx
theorem acalls_clone {f : FuncId} {hp : Hp} {b : Nat} {es : List (Value × AV)} (hc : Callable P f)
    (hrun : ∀ (b : Nat) (en : Array MapEntry) (cl : Nat) (w : World), w.heap[b]? = some (.map en cl) → Calls P f #[.map (some b)] w fun e w' => e = .returned (.map (some w.heap.size)) ∧ w' = w.alloc (.map en cl))
    (hb : hp.mp b = some es) : ACalls P f [.v (.map (some b))] hp (fun r hp' => ∃ b', r = .v (.map (some b')) ∧ Fresh hp b' ∧ hp' = hp.setMp b' es) :=
  ⟨hc, fun F w hv => by
    obtain ⟨hlo, m, hle, hhp, hok⟩ := hv
    obtain ⟨h1, ⟨en, cl, h2, h3⟩, h4⟩ := hhp.mp b es hb
    refine (hrun b en cl w h2).mono ?_
    rintro e w' ⟨rfl, rfl⟩
    exact ⟨.v (.map (some w.heap.size)), hp.setMp w.heap.size es, ⟨w.heap.size, rfl, hhp.fresh.1, rfl⟩, rfl, hlo.alloc _, m, hle, hhp.copyMp hlo.bs h3 h4, trivial, trivial⟩⟩
end
end Go.AL
/- The rule for the greater of two numbers. -/
set_option linter.unusedVariables false
set_option linter.unusedSimpArgs false
namespace Go.AL
section
variable {P : Program}
theorem max_by {d : Option Nat} {ty : TypeId} {pos : String} {aft : Array Edge} {g : Option (Nat × Bool)} {t u : TypeId} {x y : Operand} {K : St → Prop} {st : St} {k k' : IntKind} {a b : Int}
    {fo : Fix (⟨d, .call { callee := .builtin .max, args := [x, y].toArray, argTypes := [t, u].toArray }, ty, pos, aft, g⟩ : Oper)} {fk : Fix K}
    (hx : st.ev x = some (.v (.int k a))) (hy : st.ev y = some (.v (.int k' b))) (hd : dstOk st d)
    (hK : K (st.putO d (.v (.int k (if b > a then b else a))))) : aopX P ⟨d, .call { callee := .builtin .max, args := [x, y].toArray, argTypes := [t, u].toArray }, ty, pos, aft, g⟩ K st fo fk := by
  intro F ac w hr K' Q hK'
  obtain ⟨m, hm⟩ := hr.ex
  have hvx := hr.eval hx
  have hvy := hr.eval hy
  simp only [AV.val] at hvx hvy
  unfold Oper.wp
  have hrun : (execOp ac.eval ⟨d, .call { callee := .builtin .max, args := [x, y].toArray, argTypes := [t, u].toArray }, ty, pos, aft, g⟩).run P w = .ok (.value (.int k (if b > a then b else a))) w := by
    have hb := run_max_int2 (P := P) (w := w) [t, u].toArray ty k k' a b
    simp only [execOp, resolve, Sem.run_bind, Sem.run_pure, Result.andThen_ok, invoke, builtin]
    simp [hvx, hvy, hb]
  rw [hrun]
  exact hK' _ _ ⟨_, hK, hr.putM hm hd (x := .v (.int k (if b > a then b else a))) trivial⟩
end
end Go.AL
/- Appends to the entry of a given number among the own rows. -/
set_option linter.unusedVariables false
set_option linter.unusedSimpArgs false
namespace Go.AL
section
variable {P : Program}
theorem split_at {α : Type} {l : List α} {i : Nat} {x : α} (h : l[i]? = some x) : l = l.take i ++ x :: l.drop (i + 1) := by
  obtain ⟨hlt, rfl⟩ := List.getElem?_eq_some_iff.1 h
  rw [← List.drop_eq_getElem_cons hlt, List.take_append_drop]
theorem append_at {d : Option Nat} {ty : TypeId} {pos : String} {aft : Array Edge} {g : Option (Nat × Bool)} {t e : TypeId} {s x : Operand} {sz by_ : Nat} {z : Value} {K : St → Prop} {st : St} {a b : AV} {h h2 : Value} {xs ys : List AV}
    {fo : Fix (⟨d, .call { callee := .builtin .append, args := [s, x].toArray, argTypes := [t, t].toArray }, ty, pos, aft, g⟩ : Oper)} {fk : Fix K} (i : Nat)
    (hk : kindT P t = .sl e) (hsz : szT P e = some sz) (hby : bytesT P e = some by_) (hz : zeroT P e = some z) (hzs : z.cells.size = sz) (hpos : 0 < sz)
    (hs : st.ev s = some a) (ca : Cast a (.lst sz h xs)) (hx : st.ev x = some b) (cb : Cast b (.lst sz h2 ys)) (hsp : st.hp.sp[i]? = some (e, sz, h))
    (hone : (ys.flatMap AV.cells).all AV.one = true) (h63 : xs.length + ys.length ≤ maxLen) (hbytes : (xs.length + ys.length) * by_ ≤ 140737488355328) (hd : dstOk st d)
    (hK : ∀ h', K ((st.setHp (st.hp.setSp (st.hp.sp.take i ++ (e, sz, h') :: st.hp.sp.drop (i + 1)))).putO d (.lst sz h' (xs ++ ys)))) :
    aopX P ⟨d, .call { callee := .builtin .append, args := [s, x].toArray, argTypes := [t, t].toArray }, ty, pos, aft, g⟩ K st fo fk :=
  append_by hk hsz hby hz hzs hpos hs ca hx cb (split_at hsp) hone h63 hbytes hd hK
end
theorem ones_of (l : List AV) (h : ∀ x ∈ l, x.cells.all AV.one = true) : (l.flatMap AV.cells).all AV.one = true := by
  rw [List.all_flatMap]
  exact List.all_eq_true.2 h
theorem ones_take {l : List AV} (h : (l.flatMap AV.cells).all AV.one = true) (k : Nat) : ((l.take k).flatMap AV.cells).all AV.one = true := by
  rw [List.all_flatMap, List.all_eq_true] at h
  exact ones_of _ fun x hx => h x (List.mem_of_mem_take hx)
theorem ones_drop {l : List AV} (h : (l.flatMap AV.cells).all AV.one = true) (k : Nat) : ((l.drop k).flatMap AV.cells).all AV.one = true := by
  rw [List.all_flatMap, List.all_eq_true] at h
  exact ones_of _ fun x hx => h x (List.mem_of_mem_drop hx)
attribute [go_sem] List.take_succ_cons List.take_zero List.drop_succ_cons List.drop_zero
end Go.AL
