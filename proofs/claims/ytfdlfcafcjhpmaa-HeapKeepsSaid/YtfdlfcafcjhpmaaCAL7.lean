/- Operations that make or turn memory. -/
import Derived.Test.YtfdlfcafcjhpmaaCAL6
namespace Go.AL
section
variable {P : Program}

def zeroT (P : Program) (t : TypeId) : Option Value := (P.info? t).bind (·.zero)

theorem run_zero {w : World} {t : TypeId} {z : Value} (h : zeroT P t = some z) : (zeroValue t).run P w = .ok z w := by
  unfold zeroT at h
  cases hi : P.info? t with
  | none => simp [hi] at h
  | some i => simp only [hi, Option.bind_some] at h; simp [zeroValue, typeInfo, hi, h]

theorem Lo.grow {F : Fr} {w w' : World} (h : Lo F w) (h1 : w'.os = w.os) (h2 : w'.tape = w.tape) (h3 : w'.output = w.output) (h4 : w.heap.size ≤ w'.heap.size) (h5 : ∀ k, k < F.base → w'.heap[k]? = w.heap[k]?) : Lo F w' :=
  ⟨h1.trans h.os, h2.trans h.tape, h3.trans h.output, Nat.le_trans h.size h4, fun k hk => (h5 k hk).trans (h.low k hk), Nat.le_trans h.bs h4⟩

theorem Lo.alloc {F : Fr} {w : World} (h : Lo F w) (o : Obj) : Lo F (w.alloc o) :=
  h.grow rfl rfl rfl (by show w.heap.size ≤ (w.heap.push o).size; simp) (fun k hk => alloc_old o k (Nat.lt_of_lt_of_le hk h.bs))

theorem Lo.setRow {F : Fr} {w : World} (h : Lo F w) {b : Nat} (hb : F.base ≤ b) (cs : Array Value) : Lo F (w.setRow b cs) :=
  h.grow rfl rfl rfl (by simp [World.setRow]) (fun k hk => setRow_other w b k _ (by omega))

/-- What was known of the slots stays known. -/
theorem RelM.turn {F : Fr} {st : St} {a : Act} {w w' : World} {m m' : Mem} {hp' : Hp} (hm : RelM F st a w m) (hle : m.le m') (hhp : HpOk F.base hp' m' w') : RelM F (st.setHp hp') a w' m' :=
  ⟨Mem.le_trans hm.le hle, hhp, fun i x hx => ⟨(hm.sl i x hx).1, AV.ok_mono hle x (hm.sl i x hx).2⟩⟩

theorem Rel.close {F : Fr} {st : St} {a : Act} {w w' : World} {m m' : Mem} {hp' : Hp} (hr : Rel F st a w) (hm : RelM F st a w m) (hlo : Lo F w') (hle : m.le m') (hhp : HpOk F.base hp' m' w') {d : Option Nat} {x : AV}
    (hd : dstOk st d) (hx : x.ok m') : Rel F ((st.setHp hp').putO d x) (a.put d x.val) w' :=
  ⟨hlo, by rw [Act.put_defers]; exact hr.df, by rw [Act.put_size, St.putO_n]; exact hr.n, m', (hm.turn hle hhp).put hr.n hd hx⟩

/-! ### New variables -/
theorem aop_alloc {o : Oper} {t : TypeId} (ho : o.op = .alloc t) {K : St → Prop} {st : St} {z : Value} (hz : zeroT P t = some z) (hd : dstOk st o.dst)
    (h : ∀ b, Fresh st.hp b → K ((st.setHp (st.hp.setBlk b t (z.cells.toList.map AV.v))).putO o.dst (.v (.pointer (some ⟨b, 0, none⟩))))) : AOp P o K st := by
  intro F a w hr K' Q hK'
  obtain ⟨m, hm⟩ := hr.ex
  unfold Oper.wp
  have hrun : (execOp a.eval o).run P w = .ok (.value (.pointer (some ⟨w.heap.size, 0, none⟩))) (w.alloc (.cells z.cells t)) := by
    simp [execOp, ho, Instr.alloc, run_zero hz, newVar, newRow, go_sem]
  rw [hrun]
  have hn := hm.hp.setNew hr.lo.bs (T := t) (cs := z.cells.toList.map AV.v) (map_v_oks _ _)
  rw [map_v_vals] at hn
  exact hK' _ _ ⟨_, h _ hm.hp.fresh.1, hr.close hm (hr.lo.alloc _) (Mem.le_refl m) hn hd (x := .v (.pointer (some ⟨w.heap.size, 0, none⟩))) trivial⟩

theorem aop_box {o : Oper} {t : TypeId} {x : Operand} (ho : o.op = .box t x) {K : St → Prop} {st : St} {y : AV} (hx : st.ev x = some y) (hd : dstOk st o.dst)
    (h : ∀ b, Fresh st.hp b → K ((st.setHp (st.hp.setBlk b t y.cells)).putO o.dst (.v (.pointer (some ⟨b, 0, none⟩))))) : AOp P o K st := by
  intro F a w hr K' Q hK'
  obtain ⟨m, hm⟩ := hr.ex
  have hok := hm.ok hx
  unfold Oper.wp
  have hrun : (execOp a.eval o).run P w = .ok (.value (.pointer (some ⟨w.heap.size, 0, none⟩))) (w.alloc (.cells y.val.cells t)) := by
    simp only [execOp, ho, hr.eval hx]; simp [Instr.box, newVar, newRow, go_sem]
  rw [hrun]
  have hn := hm.hp.setNew hr.lo.bs (T := t) (cs := y.cells) (AV.oks_cells y hok)
  rw [AV.cells_of y hok] at hn
  exact hK' _ _ ⟨_, h _ hm.hp.fresh.1, hr.close hm (hr.lo.alloc _) (Mem.le_refl m) hn hd (x := .v (.pointer (some ⟨w.heap.size, 0, none⟩))) trivial⟩

/-- A variable that is never turned again: its cells go with the pointer. -/
theorem aop_boxP {o : Oper} {t : TypeId} {x : Operand} (ho : o.op = .box t x) {K : St → Prop} {st : St} {y : AV} (hx : st.ev x = some y) (hd : dstOk st o.dst)
    (h : ∀ p, K (st.putO o.dst (.ref p y.cells))) : AOp P o K st := by
  intro F a w hr K' Q hK'
  obtain ⟨m, hm⟩ := hr.ex
  have hok := hm.ok hx
  unfold Oper.wp
  have hrun : (execOp a.eval o).run P w = .ok (.value (.pointer (some ⟨w.heap.size, 0, none⟩))) (w.alloc (.cells y.val.cells t)) := by
    simp only [execOp, ho, hr.eval hx]; simp [Instr.box, newVar, newRow, go_sem]
  rw [hrun]
  obtain ⟨hf, hmn⟩ := hm.hp.fresh
  have hw := hm.hp.world (w' := w.alloc (.cells y.val.cells t)) (alloc_old _)
  obtain ⟨h1, h2⟩ := hw.publish (b := w.heap.size) (vs := AV.vals y.cells) (alloc_new _) hmn (fun j x hj => by rw [AV.cells_of y hok] at hj; simpa using hj) (fun p hp => hf.2.2 p hp)
  have h1' := h1.weaken (hp' := st.hp) ⟨fun b x hb => by
    rw [Hp.delBlk_blk]; split
    · rename_i e; subst e; rw [hf.1] at hb; cases hb
    · exact hb, fun _ _ h => h, List.Sublist.refl _, fun _ h => h⟩
  refine hK' _ _ ⟨_, h (.pointer (some ⟨w.heap.size, 0, none⟩)), ?_⟩
  exact hr.close hm (hr.lo.alloc _) h2 h1' hd (x := .ref (.pointer (some ⟨w.heap.size, 0, none⟩)) y.cells)
    ⟨⟨_, 0, rfl, fun j x hj => by rw [Nat.zero_add]; exact Mem.add_self hj⟩, AV.oks_mono h2 _ (AV.oks_cells y hok)⟩

/-! ### Stores -/
def AV.one : AV → Bool
  | .v x => x.oneCell'
  | .agg _ => false
  | .tup _ => false
  | _ => true
@[go_sem] theorem AV.one_v (x : Value) : AV.one (.v x) = x.oneCell' := rfl
@[go_sem] theorem AV.one_lst (sz : Nat) (h : Value) (xs : List AV) : AV.one (.lst sz h xs) = true := rfl
@[go_sem] theorem AV.one_ref (p : Value) (xs : List AV) : AV.one (.ref p xs) = true := rfl
@[go_sem] theorem AV.one_ifc (t : TypeId) (a : AV) : AV.one (.ifc t a) = true := rfl
@[go_sem] theorem AV.one_fn (f : Fn) (a b : List AV) : AV.one (.fn f a b) = true := rfl

theorem AV.one_val {m : Mem} {x : AV} (hx : x.ok m) (h : x.one = true) : x.val.oneCell' = true := by
  cases x with
  | v y => exact h
  | lst sz hd xs => obtain ⟨a, cap, rfl, _⟩ := hx.1; rfl
  | ref p cs => obtain ⟨b, o, rfl, _⟩ := hx.1; rfl
  | agg cs => cases h
  | tup l => cases h
  | ifc t a => rfl
  | fn f a b => rfl

def splice (cs : List AV) (o : Nat) (new : List AV) : List AV := cs.take o ++ new ++ cs.drop (o + new.length)

theorem oks_splice {m : Mem} {cs new : List AV} (o : Nat) (h : AV.oks m cs) (h' : AV.oks m new) : AV.oks m (splice cs o new) :=
  AV.oks_append (AV.oks_append (AV.oks_take o h) h') (AV.oks_drop _ h)

theorem run_storeAV {w : World} {t : TypeId} {b o : Nat} {T : TypeId} {cs : List AV} {x : AV} {m : Mem} (hb : w.heap[b]? = some (.cells (AV.vals cs).toArray T (0, 0))) (hx : x.ok m)
    (hsz : szT P t = some x.cells.length) (hone : x.cells.all AV.one = true) (hfit : o + x.cells.length ≤ cs.length) :
    (storeVar t ⟨b, o, none⟩ x.val).run P w = .ok () (w.setRow b (AV.vals (splice cs o x.cells)).toArray) := by
  have hc := AV.cells_of x hx
  have h1 : x.val.cells.size = x.cells.length := by rw [← Array.length_toList, ← hc, AV.vals_length]
  have hones : ∀ v ∈ x.val.cells.toList, v.oneCell' = true := by
    intro v hv
    rw [← hc, AV.vals_eq] at hv
    obtain ⟨y, hy, rfl⟩ := List.mem_map.1 hv
    have hok := AV.oks_cells x hx
    rw [AV.oks_iff] at hok
    exact AV.one_val (hok y hy) (List.all_eq_true.1 hone y hy)
  have hst := run_storeCells_at P b o T x.val.cells.toList 0 (AV.vals cs).toArray w hb (by rw [← hc, AV.vals_length]; simp [AV.vals_length]; omega) hones
  simp only [storeVar, Sem.run_bind, run_sizeOf' hsz, Result.andThen_ok, h1, ne_eq, not_true_eq_false, if_false, hst]
  congr 2
  simp [splice, AV.vals_append, AV.vals_take, AV.vals_drop, hc, h1]

/-- A store into a tracked variable. -/
theorem aop_store {o : Oper} {t : TypeId} {p x : Operand} (ho : o.op = .store t p x) (hdst : o.dst = none) {K : St → Prop} {st : St} {b off : Nat} {T : TypeId} {cs : List AV} {y : AV}
    (hp : st.ev p = some (.v (.pointer (some ⟨b, off, none⟩)))) (hx : st.ev x = some y) (hb : st.hp.blk b = some (T, cs)) (hsz : szT P t = some y.cells.length) (hone : y.cells.all AV.one = true) (hfit : off + y.cells.length ≤ cs.length)
    (h : K (st.setHp (st.hp.setBlk b T (splice cs off y.cells)))) : AOp P o K st := by
  intro F a w hr K' Q hK'
  obtain ⟨m, hm⟩ := hr.ex
  have hok := hm.ok hx
  obtain ⟨hbase, hheap, hoks, _⟩ := hm.hp.blk b T cs hb
  unfold Oper.wp
  have hv := hr.eval hp
  simp only [AV.val] at hv
  have hrun : (execOp a.eval o).run P w = .ok .skip (w.setRow b (AV.vals (splice cs off y.cells)).toArray) := by
    simp only [execOp, ho, hv, hr.eval hx, Instr.storeAt, Instr.sureAddr, Sem.run_bind, Sem.run_pure, Result.andThen_ok, run_storeAV hheap hok hsz hone hfit]
  rw [hrun]
  simp only [Oper.upon, hdst]
  refine hK' _ _ ⟨_, h, ?_⟩
  have := hr.close hm (hr.lo.setRow hbase _) (Mem.le_refl m) (hm.hp.setCells hb (oks_splice off hoks (AV.oks_cells y hok))) (d := none) (x := .v undef) trivial trivial
  exact this

/-- The one store into a new variable that is never turned again: from here on its cells go with the pointer. -/
theorem aop_storeP {o : Oper} {t : TypeId} {p : Nat} {x : Operand} (ho : o.op = .store t (.tmp p) x) (hdst : o.dst = none) {K : St → Prop} {st : St} {b : Nat} {T : TypeId} {cs : List AV} {y : AV}
    (hp : st.sl p = some (.v (.pointer (some ⟨b, 0, none⟩)))) (hx : st.ev x = some y) (hb : st.hp.blk b = some (T, cs)) (hsz : szT P t = some y.cells.length) (hone : y.cells.all AV.one = true) (hfit : y.cells.length = cs.length)
    (h : K ((st.setHp (st.hp.delBlk b)).put p (.ref (.pointer (some ⟨b, 0, none⟩)) y.cells))) : AOp P o K st := by
  have hs : AOp P o (fun st' => st' = st.setHp (st.hp.setBlk b T (splice cs 0 y.cells))) st := aop_store ho hdst hp hx hb hsz hone (by omega) rfl
  intro F a w hr K' Q hK'
  refine hs F a w hr K' Q ?_
  rintro a' w' ⟨st', rfl, hr'⟩
  refine hK' _ _ ⟨_, h, ?_⟩
  have e : splice cs 0 y.cells = y.cells := by simp [splice, hfit]
  rw [e] at hr'
  obtain ⟨m, hm⟩ := hr'.ex
  have hblk : (st.hp.setBlk b T y.cells).blk b = some (T, y.cells) := by simp [Hp.setBlk]
  obtain ⟨hbase, hheap, hoks, hmn⟩ := hm.hp.blk b T y.cells hblk
  obtain ⟨h1, h2⟩ := hm.hp.publish (b := b) (vs := AV.vals y.cells) hheap hmn (fun j x hj => by simpa using hj) (fun q hq hbq => by
    have := (hm.hp.sp q.1 q.2.1 q.2.2 hq).2 b hbq
    rw [show (st.setHp (st.hp.setBlk b T y.cells)).hp = st.hp.setBlk b T y.cells from rfl, hblk] at this; cases this)
  have ed : ((st.setHp (st.hp.setBlk b T y.cells)).hp).delBlk b = st.hp.delBlk b := by
    simp only [St.setHp_hp, Hp.setBlk, Hp.delBlk, Hp.mk.injEq, and_true]
    funext i; by_cases hi : i = b <;> simp [hi]
  rw [ed] at h1
  have hsl := hm.sl p _ hp
  have hpsz : p < a'.tmps.size := (Array.getElem?_eq_some_iff.1 hsl.1).1
  have hfin := hr'.close hm hr'.lo h2 h1 (d := some p) (x := .ref (.pointer (some ⟨b, 0, none⟩)) y.cells) (by show p < _; rw [← hr'.n]; exact hpsz)
    ⟨⟨b, 0, rfl, fun j x hj => by rw [Nat.zero_add]; exact Mem.add_self hj⟩, AV.oks_mono h2 _ hoks⟩
  have ea : a'.put (some p) (AV.ref (.pointer (some ⟨b, 0, none⟩)) y.cells).val = a' := by
    simp only [Act.put, AV.val]
    have : a'.tmps.setIfInBounds p (.pointer (some ⟨b, 0, none⟩)) = a'.tmps := by
      apply Array.ext_getElem?
      intro i
      by_cases hi : i = p
      · subst hi; rw [Array.getElem?_setIfInBounds_self_of_lt hpsz, hsl.1]; rfl
      · rw [Array.getElem?_setIfInBounds_ne (by omega)]
    rw [this]
  rw [ea] at hfin
  exact hfin
end
end Go.AL
