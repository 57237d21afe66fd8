/- Interface values: assertions of a concrete type, calls of a method. -/
import Derived.Test.YtkoachnlimebaaaGreatDoorCAL14
import Derived.Test.YtkoachnlimebaaaGreatDoorCAL17
set_option linter.unusedVariables false
set_option linter.unusedSimpArgs false
namespace Go.AL
section
variable {P : Program}
theorem aop_yields {o : Oper} {K : St → Prop} {st : St} {x : AV} (hd : dstOk st o.dst) (hK : K (st.putO o.dst x)) (hy : Yields P st o.op x) : AOp P o K st := by
  intro F a w hr K' Q hK'
  obtain ⟨m, hm⟩ := hr.ex
  obtain ⟨h1, h2⟩ := hy F a w m hr hm
  unfold Oper.wp
  rw [h1 o rfl]
  exact hK' _ _ ⟨_, hK, hr.putM hm hd h2⟩
/-- A type that is known, and no interface. -/
def concT (P : Program) (t : TypeId) : Bool := match P.underlying t with | some (.interface _) => false | some _ => true | none => false
theorem conc_some {t : TypeId} (h : concT P t = true) : ∃ d, P.underlying t = some d ∧ ∀ ms, d ≠ .interface ms := by
  unfold concT at h
  split at h
  · cases h
  · rename_i d hd hu; exact ⟨d, hu, fun ms e => hd ms e⟩
  · cases h
theorem run_assert_yes {t s : TypeId} {v : Value} {c : Bool} {w : World} (h : concT P t = true) : (Instr.typeAssert (.iface t v) s t c).run P w = .ok (if c = true then .tuple #[v, .bool true] else v) w := by
  obtain ⟨d, hu, hd⟩ := conc_some h
  simp only [Instr.typeAssert, Sem.run_bind, run_underlying hu, Result.andThen_ok]
  cases d <;> first | exact absurd rfl (hd _) | (simp only [if_true]; cases c <;> rfl)
theorem run_assert_no {t s u : TypeId} {v z : Value} {w : World} (h : concT P t = true) (hz : zeroT P t = some z) (hne : u ≠ t) : (Instr.typeAssert (.iface u v) s t true).run P w = .ok (.tuple #[z, .bool false]) w := by
  obtain ⟨d, hu, hd⟩ := conc_some h
  simp only [Instr.typeAssert, Sem.run_bind, run_underlying hu, Result.andThen_ok]
  cases d <;> first | exact absurd rfl (hd _) | (simp only [if_neg hne, if_true, Sem.run_bind, run_zero hz, Result.andThen_ok, Sem.run_pure])
/-- The value is of the type that is asserted. -/
theorem assertYes_by {d : Option Nat} {ty : TypeId} {pos : String} {aft : Array Edge} {g : Option (Nat × Bool)} {x : Operand} {s t : TypeId} {K : St → Prop} {st : St} {a : AV} {fo : Fix (⟨d, .typeAssert x s t true, ty, pos, aft, g⟩ : Oper)} {fk : Fix K}
    (hc : concT P t = true) (hx : st.ev x = some (.ifc t a)) (hd : dstOk st d) (h : K (st.putO d (.tup [a, .v (.bool true)]))) : aopX P ⟨d, .typeAssert x s t true, ty, pos, aft, g⟩ K st fo fk := by
  refine aop_yields hd h fun F ac w m hr hm => ⟨fun o ho => ?_, ?_⟩
  · have hv := hr.eval hx
    simp only [AV.val] at hv
    simp only [execOp, ho, hv, Sem.run_bind, run_assert_yes hc, if_true, Result.andThen_ok, Sem.run_pure]
    rfl
  · have := hm.ok hx
    exact ⟨this, trivial, trivial⟩
/-- The same, where no second result is asked for. -/
theorem assertOne_by {d : Option Nat} {ty : TypeId} {pos : String} {aft : Array Edge} {g : Option (Nat × Bool)} {x : Operand} {s t : TypeId} {K : St → Prop} {st : St} {a : AV} {fo : Fix (⟨d, .typeAssert x s t false, ty, pos, aft, g⟩ : Oper)} {fk : Fix K}
    (hc : concT P t = true) (hx : st.ev x = some (.ifc t a)) (hd : dstOk st d) (h : K (st.putO d a)) : aopX P ⟨d, .typeAssert x s t false, ty, pos, aft, g⟩ K st fo fk := by
  refine aop_yields hd h fun F ac w m hr hm => ⟨fun o ho => ?_, ?_⟩
  · have hv := hr.eval hx
    simp only [AV.val] at hv
    simp only [execOp, ho, hv, Sem.run_bind, run_assert_yes hc, if_false, Bool.false_eq_true, Result.andThen_ok, Sem.run_pure]
  · exact (show (AV.ifc t a).ok m from hm.ok hx)
/-- The value is of another type. -/
theorem assertNo_by {d : Option Nat} {ty : TypeId} {pos : String} {aft : Array Edge} {g : Option (Nat × Bool)} {x : Operand} {s t u : TypeId} {K : St → Prop} {st : St} {a z : AV} {fo : Fix (⟨d, .typeAssert x s t true, ty, pos, aft, g⟩ : Oper)} {fk : Fix K}
    (hc : concT P t = true) (hz : zeroT P t = some z.val) (hzo : ∀ m, z.ok m) (hx : st.ev x = some (.ifc u a)) (hne : u ≠ t) (hd : dstOk st d) (h : K (st.putO d (.tup [z, .v (.bool false)]))) : aopX P ⟨d, .typeAssert x s t true, ty, pos, aft, g⟩ K st fo fk := by
  refine aop_yields hd h fun F ac w m hr hm => ⟨fun o ho => ?_, ?_⟩
  · have hv := hr.eval hx
    simp only [AV.val] at hv
    simp only [execOp, ho, hv, Sem.run_bind, run_assert_no hc hz hne, Result.andThen_ok, Sem.run_pure]
    rfl
  · exact ⟨hzo m, trivial, trivial⟩
/-- A call through an interface: the method that the dynamic type has. -/
theorem invoke_by {d : Option Nat} {ty : TypeId} {pos : String} {aft : Array Edge} {g : Option (Nat × Bool)} {r : Operand} {name : String} {args : Array Operand} {ts : Array TypeId} {K : St → Prop} {st : St} {t : TypeId} {a b : AV} {xs : List AV} {f : FuncId} {R : AV → Hp → Prop}
    {fo : Fix (⟨d, .call { callee := .invoke r name, args := args, argTypes := ts }, ty, pos, aft, g⟩ : Oper)} {fk : Fix K}
    (hx : st.ev r = some (.ifc t a)) (hm : ∀ w, (method (P.types.size + Made.depth) t a.val name).run P w = .ok (f, b.val) w) (hb : ∀ m, a.ok m → b.ok m) (hxs : evs st args = some xs) (hd : dstOk st d)
    (hc : ACalls P f (b :: xs) st.hp R) (hK : ∀ y hp', R y hp' → K ((st.setHp hp').putO d y)) : aopX P ⟨d, .call { callee := .invoke r name, args := args, argTypes := ts }, ty, pos, aft, g⟩ K st fo fk := by
  intro F ac w hr K' Q hK'
  obtain ⟨m, hmm⟩ := hr.ex
  obtain ⟨e1, o1⟩ := evs_arr hr hmm hxs
  have hv := hr.eval hx
  simp only [AV.val] at hv
  have oa : a.ok m := (show (AV.ifc t a).ok m from hmm.ok hx)
  unfold Oper.wp
  have hrun : (execOp ac.eval ⟨d, .call { callee := .invoke r name, args := args, argTypes := ts }, ty, pos, aft, g⟩).run P w = .ok (.enter f (AV.vals (b :: xs)).toArray) w := by
    simp only [execOp, resolve, hv, Sem.run_bind, Sem.run_pure, Result.andThen_ok, invoke, e1]
    simp [hm, run_callFunc hc.1, Sem.run_bind, Result.andThen_ok, AV.vals, callMethod, run_program]
  rw [hrun]
  simp only [Oper.upon]
  refine (hc.2 ⟨m, w, F.base⟩ w ⟨Lo.self _ _ _ hr.lo.bs, m, Mem.le_refl m, hmm.hp, ⟨hb m oa, o1⟩⟩).mono ?_
  rintro e w' ⟨y, hp', hR, rfl, hlo, m', hle, hhp, hro, _⟩
  refine hK' _ _ ⟨_, hK y hp' hR, hr.lo.trans hlo, by rw [Act.put_defers]; exact hr.df, by rw [Act.put_size, St.putO_n]; exact hr.n, m', ?_⟩
  have hm2 : RelM F (st.setHp hp') ac w' m' := ⟨Mem.le_trans hmm.le hle, hhp, fun i x hx => ⟨(hmm.sl i x hx).1, AV.ok_mono hle x (hmm.sl i x hx).2⟩⟩
  exact hm2.put hr.n hd hro
end
end Go.AL
/- Appends to a list that has no room: 'append(l[:n:n], ..)'. -/
set_option linter.unusedVariables false
set_option linter.unusedSimpArgs false
namespace Go.AL
section
variable {P : Program}
theorem appendC_core {base : Nat} {hp : Hp} {m : Mem} {w : World} {t ty e : TypeId} {sz by_ : Nat} {z : Value} {ax : Option Addr} {n : Nat} {h2 : Value} {xs ys : List AV}
    (hhp : HpOk base hp m w) (hbase : base ≤ w.heap.size) (hu : P.underlying t = some (.slice e)) (hsz : szT P e = some sz) (hby : bytesT P e = some by_) (hz : zeroT P e = some z) (hzs : z.cells.size = sz) (hpos : 0 < sz)
    (hx : (AV.lst sz (.slice ax n n) xs).ok m) (hy : (AV.lst sz h2 ys).ok m) (hy0 : ys ≠ [])
    (h63 : xs.length + ys.length ≤ maxLen) (hbytes : (xs.length + ys.length) * by_ ≤ 140737488355328) :
    ∃ h' w' m', (Builtin.append_ #[t, t] ty #[.slice ax n n, h2]).run P w = .ok h' w' ∧ w'.os = w.os ∧ w'.tape = w.tape ∧ w'.output = w.output ∧ w.heap.size ≤ w'.heap.size ∧ (∀ k, k < base → w'.heap[k]? = w.heap[k]?) ∧
      m.le m' ∧ HpOk base (hp.setSp ((e, sz, h') :: hp.sp)) m' w' ∧ (AV.lst sz h' (xs ++ ys)).ok m' := by
  obtain ⟨ie, hie, hsize⟩ := szT_info hsz
  have hzz : ie.zero = some z := by simpa [zeroT, hie] using hz
  have hbb : ie.bytes = by_ := by simpa [bytesT, hie] using hby
  subst hsize; subst hbb
  obtain ⟨hxh, hxo⟩ := hx
  obtain ⟨hyh, hyo⟩ := hy
  obtain ⟨ax', cap, hxe, hcap, hmax, hxs, hxr⟩ := hxh
  obtain ⟨ay, capy, rfl, hcapy, hmaxy, hys, hyr⟩ := hyh
  simp only [AV.vals_length] at hxe hcap hcapy ⊢
  simp only [Value.slice.injEq] at hxe
  obtain ⟨rfl, rfl, rfl⟩ := hxe
  have hxone : ∀ x ∈ xs, x.cells.length = ie.size := by
    intro x hx
    have := hxs x.val (by rw [AV.vals_eq]; exact List.mem_map_of_mem hx)
    rw [AV.oks_iff] at hxo
    rwa [cells_len (hxo x hx)] at this
  have hyone : ∀ x ∈ ys, x.cells.length = ie.size := by
    intro x hx
    have := hys x.val (by rw [AV.vals_eq]; exact List.mem_map_of_mem hx)
    rw [AV.oks_iff] at hyo
    rwa [cells_len (hyo x hx)] at this
  have hyne : AV.vals ys ≠ [] := by rw [AV.vals_eq]; simpa using hy0
  obtain ⟨by2, offy, rfl, hyr2⟩ := hyr hyne
  clear hyr
  have hylen : 0 < ys.length := List.length_pos_iff.2 hy0
  have hnewl : ((AV.vals ys).flatMap fun v => v.cells.toList).length = ys.length * ie.size := by rw [flat_length _ hys, AV.vals_length]
  have holdl : ((AV.vals xs).flatMap fun v => v.cells.toList).length = xs.length * ie.size := by rw [flat_length _ hxs, AV.vals_length]
  have getflat : ∀ (vs : List Value), (∀ v ∈ vs, v.cells.size = ie.size) → ∀ (j : Nat) (u : Value), (vs.flatMap fun v => v.cells.toList)[j]? = some u → ∃ i v k, vs[i]? = some v ∧ v.cells[k]? = some u ∧ j = i * ie.size + k := by
    intro vs
    induction vs with
    | nil => intro _ j u h; cases h
    | cons v vs ih =>
      intro hs j u hj
      rw [List.flatMap_cons] at hj
      by_cases hlt : j < v.cells.toList.length
      · rw [List.getElem?_append_left hlt] at hj
        exact ⟨0, v, j, rfl, by simpa using hj, by omega⟩
      · rw [List.getElem?_append_right (by omega)] at hj
        obtain ⟨i, v', k, h1, h2, h3⟩ := ih (fun x hx => hs x (by simp [hx])) _ u hj
        have hv := hs v (by simp)
        refine ⟨i + 1, v', k, by simpa using h1, h2, ?_⟩
        simp [hv] at hlt h3
        rw [Nat.add_mul]; omega
  have hnews : ∀ (j : Nat) (u : Value), ((AV.vals ys).flatMap fun v => v.cells.toList)[j]? = some u → w.cell? ((⟨by2, offy, none⟩ : Addr).add j) = some u := by
    intro j u hj
    obtain ⟨i, v, k, h1, h2, rfl⟩ := getflat _ hys j u hj
    rw [addr_add, ← Nat.add_assoc]
    exact hhp.mem _ _ _ (hyr2 i v h1 k u h2)
  have hflat : (AV.vals (xs ++ ys)).flatMap (fun v => v.cells.toList) = ((AV.vals xs).flatMap fun v => v.cells.toList) ++ ((AV.vals ys).flatMap fun v => v.cells.toList) := by rw [AV.vals_append, List.flatMap_append]
  have hallone : ∀ x ∈ xs ++ ys, x.cells.length = ie.size := by
    intro x hx; rcases List.mem_append.1 hx with h | h
    · exact hxone x h
    · exact hyone x h
  have grown : ∀ (need old : Nat) (hneed : need = xs.length + ys.length),
      ∀ (hrun : (Builtin.append_ #[t, t] ty #[.slice ax xs.length xs.length, .slice (some ⟨by2, offy, none⟩) ys.length capy]).run P w = .ok (.slice (some ⟨w.heap.size, 0, none⟩) need (grownCap w need old e))
        (w.drew.alloc (.cells (((AV.vals xs).flatMap fun v => v.cells.toList).toArray ++ ((AV.vals ys).flatMap fun v => v.cells.toList).toArray ++ Builtin.zeroCells z.cells (grownCap w need old e - need)) e))),
      ∃ h' w' m', (Builtin.append_ #[t, t] ty #[.slice ax xs.length xs.length, .slice (some ⟨by2, offy, none⟩) ys.length capy]).run P w = .ok h' w' ∧ w'.os = w.os ∧ w'.tape = w.tape ∧ w'.output = w.output ∧ w.heap.size ≤ w'.heap.size ∧ (∀ k, k < base → w'.heap[k]? = w.heap[k]?) ∧
      m.le m' ∧ HpOk base (hp.setSp ((e, ie.size, h') :: hp.sp)) m' w' ∧ (AV.lst ie.size h' (xs ++ ys)).ok m' := by
    intro need old hneed hrun
    have hge := grownCap_ge w need old e
    have hcm : grownCap w need old e ≤ maxLen := grownCap_le_maxLen w need old e (by omega)
    generalize grownCap w need old e = gc at *
    have hdrew : HpOk base hp m w.drew := hhp.world (fun _ _ => rfl)
    obtain ⟨hf, hmn⟩ := hdrew.fresh
    have hfl : (((AV.vals xs).flatMap fun v => v.cells.toList) ++ ((AV.vals ys).flatMap fun v => v.cells.toList)).length = need * ie.size := by
      rw [List.length_append, holdl, hnewl, hneed, Nat.add_mul]
    obtain ⟨hn, hle⟩ := hdrew.newRow (cur := ((AV.vals xs).flatMap fun v => v.cells.toList).toArray ++ ((AV.vals ys).flatMap fun v => v.cells.toList).toArray ++ Builtin.zeroCells z.cells (gc - need)) (T := e)
      (flat := ((AV.vals xs).flatMap fun v => v.cells.toList) ++ ((AV.vals ys).flatMap fun v => v.cells.toList)) (fun j x hj => by
        rw [← Array.getElem?_toList]
        simp only [Array.toList_append]
        rw [List.getElem?_append_left (by simpa using (List.getElem?_eq_some_iff.1 hj).1)]
        exact hj)
    have hwsz : w.drew.heap.size = w.heap.size := rfl
    rw [hwsz] at hn hle hmn
    refine ⟨_, _, _, hrun, rfl, rfl, rfl, by show w.heap.size ≤ (w.heap.push _).size; simp, fun k hk => alloc_old (w := w.drew) _ k (by rw [hwsz]; omega), hle, ?_, ?_, ?_⟩
    · refine hn.addSp (.inr ⟨w.heap.size, need, gc, _, rfl, hbase, alloc_new (w := w.drew) _, ?_, hge, hcm, fun k hk => Mem.add_none (hmn k) (by rw [hfl]; exact hk)⟩) (fun b hb => ?_)
      · simp only [Array.size_append, List.size_toArray, size_zeroCells, hzs, holdl, hnewl, ← Nat.add_mul]
        congr 1; omega
      · simp only [blockOf, Option.some.injEq] at hb
        subst hb; exact ⟨hf.1, hf.2.2⟩
    · refine hdr_flat (AV.oks_mono hle _ (AV.oks_append hxo hyo)) hallone (by rw [List.length_append, hneed]) hge hcm fun k x hk => ?_
      rw [hflat] at hk
      exact Mem.add_self hk
    · exact AV.oks_mono hle _ (AV.oks_append hxo hyo)
  by_cases hx0 : xs = []
  · subst hx0
    cases ax with
    | none =>
      have hr := run_append_nil (P := P) w t ty e ie z hu hie hzz ⟨by2, offy, none⟩ ys.length capy _ hnewl hnews hylen (by simp only [maxLen] at h63; omega) (by have hb := hbytes; simp only [List.length_nil, Nat.zero_add] at hb; omega)
      exact grown ys.length 0 (by simp) (by simpa [AV.vals] using hr)
    | some g =>
      have hr := run_append_grow (P := P) w t ty e ie z hu hie hzz g 0 0 [] (by simp) (fun j u hj => by cases hj) ⟨by2, offy, none⟩ ys.length capy _ hnewl hnews (by omega) (by simp only [maxLen] at h63; simp only [List.length_nil] at h63; omega) (growslice_fits (by omega) (by simpa using hbytes))
      exact grown (0 + ys.length) 0 (by simp) (by simpa [AV.vals] using hr)
  · obtain ⟨b, off, rfl, hr0⟩ := hxr (by rw [AV.vals_eq]; simpa using hx0)
    have holds : ∀ (j : Nat) (u : Value), ((AV.vals xs).flatMap fun v => v.cells.toList)[j]? = some u → w.cell? ((⟨b, off, none⟩ : Addr).add j) = some u := by
      intro j u hj
      obtain ⟨i, v, k, h1, h2, rfl⟩ := getflat _ hxs j u hj
      rw [addr_add, ← Nat.add_assoc]
      exact hhp.mem _ _ _ (hr0 i v h1 k u h2)
    have hr := run_append_grow (P := P) w t ty e ie z hu hie hzz ⟨b, off, none⟩ xs.length xs.length _ holdl holds ⟨by2, offy, none⟩ ys.length capy _ hnewl hnews (by omega) (by simp only [maxLen] at h63; omega) (growslice_fits (by omega) hbytes)
    exact grown (xs.length + ys.length) xs.length rfl hr
theorem appendC_by {d : Option Nat} {ty : TypeId} {pos : String} {aft : Array Edge} {g : Option (Nat × Bool)} {t e : TypeId} {s x : Operand} {sz by_ : Nat} {z : Value} {K : St → Prop} {st : St} {a b : AV} {ax : Option Addr} {n : Nat} {h2 : Value} {xs ys : List AV}
    {fo : Fix (⟨d, .call { callee := .builtin .append, args := [s, x].toArray, argTypes := [t, t].toArray }, ty, pos, aft, g⟩ : Oper)} {fk : Fix K}
    (hk : kindT P t = .sl e) (hsz : szT P e = some sz) (hby : bytesT P e = some by_) (hz : zeroT P e = some z) (hzs : z.cells.size = sz) (hpos : 0 < sz)
    (hs : st.ev s = some a) (ca : Cast a (.lst sz (.slice ax n n) xs)) (hx : st.ev x = some b) (cb : Cast b (.lst sz h2 ys)) (hy0 : ys ≠ [])
    (h63 : xs.length + ys.length ≤ maxLen) (hbytes : (xs.length + ys.length) * by_ ≤ 140737488355328) (hd : dstOk st d)
    (hK : ∀ h', K ((st.setHp (st.hp.setSp ((e, sz, h') :: st.hp.sp))).putO d (.lst sz h' (xs ++ ys)))) :
    aopX P ⟨d, .call { callee := .builtin .append, args := [s, x].toArray, argTypes := [t, t].toArray }, ty, pos, aft, g⟩ K st fo fk := by
  intro F ac w hr K' Q hK'
  obtain ⟨m, hm⟩ := hr.ex
  have oa := ca.2 m (hm.ok hs)
  have ob := cb.2 m (hm.ok hx)
  obtain ⟨h', w', m', hrun, h1, h2', h3, h4, h5, hle, hhp, hok⟩ := appendC_core (ty := ty) hm.hp hr.lo.bs (kind_sl hk) hsz hby hz hzs hpos oa ob hy0 h63 hbytes
  unfold Oper.wp
  have hv := hr.eval hs
  have hv2 := hr.eval hx
  rw [← ca.1] at hv
  rw [← cb.1] at hv2
  simp only [AV.val] at hv hv2
  have hrun' : (execOp ac.eval (⟨d, .call { callee := .builtin .append, args := [s, x].toArray, argTypes := [t, t].toArray }, ty, pos, aft, g⟩ : Oper)).run P w = .ok (.value h') w' := by
    simp only [execOp, resolve, Sem.run_bind, Sem.run_pure, Result.andThen_ok, invoke, builtin]
    simp [hv, hv2, hrun]
  rw [hrun']
  exact hK' _ _ ⟨_, hK h', hr.close hm (hr.lo.grow h1 h2' h3 h4 h5) hle hhp hd (x := .lst sz h' (xs ++ ys)) hok⟩
end
end Go.AL
/- The entries of a map's literal. -/
set_option linter.unusedVariables false
set_option linter.unusedSimpArgs false
namespace Go.AL
section
variable {P : Program}
theorem aop_insert {d : Option Nat} {ty : TypeId} {pos : String} {aft : Array Edge} {g : Option (Nat × Bool)} {t : TypeId} {m k x : Operand} {K : St → Prop} {st : St} (h : AOp P ⟨d, .mapUpdate t m k x, ty, pos, aft, g⟩ K st) :
    AOp P ⟨d, .insert t m k x, ty, pos, aft, g⟩ K st := by
  intro F a w hr K' Q hK'
  exact h F a w hr K' Q hK'
@[go_sem] theorem mkIfcKT_stE (fs : List (Nat × TypeId × Nat)) (t : TypeId) (a : AV) (K : AV → Prop) : mkIfcKT (.st fs) t a K = K (.ifc t a) := rfl
@[go_sem] theorem mkIfcKT_iE (k : IntKind) (t : TypeId) (a : AV) (K : AV → Prop) : mkIfcKT (.i k) t a K = K (.ifc t a) := rfl
@[go_sem] theorem mkIfcKT_sE (t : TypeId) (a : AV) (K : AV → Prop) : mkIfcKT .s t a K = K (.ifc t a) := rfl
@[go_sem] theorem mkIfcKT_bE (t : TypeId) (a : AV) (K : AV → Prop) : mkIfcKT .b t a K = K (.ifc t a) := rfl
@[go_sem ↓] theorem nilCheckK_refE (p : Value) (cs : List AV) (K : AV → Prop) : nilCheckK (.ref p cs) K = K (.ref p cs) := rfl
@[go_sem ↓] theorem nilCheckK_ptrE (x : Addr) (K : AV → Prop) : nilCheckK (.v (.pointer (some x))) K = K (.v (.pointer (some x))) := rfl
@[go_sem ↓] theorem nilCheckK_ifcE (t : TypeId) (a : AV) (K : AV → Prop) : nilCheckK (.ifc t a) K = K (.ifc t a) := rfl
end
end Go.AL
