/- What the pure operations yield is what the machine computes. -/
import Derived.Test.YtfdlfcafcjhpmaaCAL1
namespace Go.AL
section
variable {P : Program}

theorem AV.vals_take (l : List AV) (n : Nat) : AV.vals (l.take n) = (AV.vals l).take n := by simp [AV.vals_eq]
theorem AV.vals_drop (l : List AV) (n : Nat) : AV.vals (l.drop n) = (AV.vals l).drop n := by simp [AV.vals_eq]
theorem AV.vals_append (l k : List AV) : AV.vals (l ++ k) = AV.vals l ++ AV.vals k := by simp [AV.vals_eq]
theorem AV.oks_take {m : Mem} {l : List AV} (n : Nat) (h : AV.oks m l) : AV.oks m (l.take n) := by
  rw [AV.oks_iff] at *; exact fun a ha => h a (List.mem_of_mem_take ha)
theorem AV.oks_drop {m : Mem} {l : List AV} (n : Nat) (h : AV.oks m l) : AV.oks m (l.drop n) := by
  rw [AV.oks_iff] at *; exact fun a ha => h a (List.mem_of_mem_drop ha)
theorem AV.oks_get {m : Mem} {l : List AV} {i : Nat} {a : AV} (h : AV.oks m l) (hi : l[i]? = some a) : a.ok m := by
  rw [AV.oks_iff] at h; exact h a (List.mem_of_getElem? hi)

/-- The cells from an address on hold these values. -/
def At (w : World) (b o : Nat) (vs : List Value) : Prop := ∀ (j : Nat) (x : Value), vs[j]? = some x → w.cell? ⟨b, o + j, none⟩ = some x

theorem At.drop {w : World} {b o : Nat} {vs : List Value} (h : At w b o vs) (n : Nat) : At w b (o + n) (vs.drop n) := by
  intro j x hx
  rw [List.getElem?_drop] at hx
  have := h (n + j) x hx
  rwa [show o + (n + j) = o + n + j by omega] at this

theorem readK_sound {t : TypeId} {cs : List AV} {K : AV → Prop} (h : readK P t cs K) :
    ∃ x, K x ∧ ∀ (w : World) (b o : Nat) (m : Mem), At w b o (AV.vals cs) → AV.oks m cs → (loadVar t ⟨b, o, none⟩).run P w = .ok x.val w ∧ x.ok m := by
  unfold readK at h
  split at h
  · rename_i hagg
    split at h
    · rename_i n hn
      obtain ⟨hle, hK⟩ := h
      refine ⟨_, hK, fun w b o m hat hok => ⟨?_, AV.oks_take n hok⟩⟩
      have hl : (loadCells ⟨b, o, none⟩ (AV.vals (cs.take n)).length).run P w = .ok (AV.vals (cs.take n)).toArray w :=
        run_loadCells_list (P := P) w ⟨b, o, none⟩ (AV.vals (cs.take n)) (fun j v hv => by
          rw [addr_add]
          refine hat j v ?_
          rw [AV.vals_take] at hv
          rw [List.getElem?_take] at hv
          split at hv
          · exact hv
          · cases hv)
      have hlen : (AV.vals (cs.take n)).length = n := by rw [AV.vals_length, List.length_take]; omega
      rw [hlen] at hl
      simp only [loadVar, Sem.run_bind, aggT_true hagg, Result.andThen_ok, if_true, run_sizeOf' hn, hl, Sem.run_pure]
      rfl
    · exact h.elim
  · rename_i hagg
    have hagg' : aggT P t = false := by simpa using hagg
    obtain ⟨hk, h⟩ := h
    split at h
    · rename_i c rest
      refine ⟨c, h, fun w b o m hat hok => ⟨?_, hok.1⟩⟩
      have h0 := hat 0 c.val (by simp [AV.vals])
      simp only [loadVar, Sem.run_bind, aggT_false hagg' hk, Result.andThen_ok, Bool.false_eq_true, if_false]
      rw [Nat.add_zero] at h0
      simp [load, Sem.run, h0]
    · exact h.elim

theorem RefOk.at {m : Mem} {w : World} (hm : ∀ b o x, m b o = some x → w.cell? ⟨b, o, none⟩ = some x) {p : Value} {vs : List Value} (h : RefOk m p vs) :
    ∃ b o, p = .pointer (some ⟨b, o, none⟩) ∧ At w b o vs := by
  obtain ⟨b, o, e, hr⟩ := h
  exact ⟨b, o, e, fun j x hx => hm _ _ _ (hr j x hx)⟩

/-- A pure operation: it yields x, whatever the frame and the world. -/
def Yields (P : Program) (st : St) (op : Op) (x : AV) : Prop :=
  ∀ F a w m, Rel F st a w → RelM F st a w m → (∀ o : Oper, o.op = op → (execOp a.eval o).run P w = .ok (.value x.val) w) ∧ x.ok m

theorem loadK_sound {st : St} {t : TypeId} {o : Operand} {a : AV} {K : AV → Prop} (he : st.ev o = some a) (h : loadK P st.hp t a K) : ∃ x, K x ∧ Yields P st (.load t o) x := by
  unfold loadK at h
  split at h
  · rename_i p cs
    obtain ⟨x, hK, hx⟩ := readK_sound h
    refine ⟨x, hK, fun F ac w m hr hm => ?_⟩
    have hok := hm.ok he
    obtain ⟨b, off, rfl, hat⟩ := hok.1.at hm.hp.mem
    obtain ⟨h1, h2⟩ := hx w b off m hat hok.2
    refine ⟨fun op ho => ?_, h2⟩
    have hv := hr.eval he
    simp only [AV.val] at hv
    simp [execOp, ho, hv, Instr.loadAt, Instr.sureAddr, h1]
  · rename_i b off
    split at h
    · rename_i T cs hb
      obtain ⟨x, hK, hx⟩ := readK_sound h
      refine ⟨x, hK, fun F ac w m hr hm => ?_⟩
      obtain ⟨_, hheap, hoks, _⟩ := hm.hp.blk b T cs hb
      have hat : At w b off (AV.vals (cs.drop off)) := by
        intro j x hx
        rw [AV.vals_drop, List.getElem?_drop] at hx
        rw [cell_of_row w b (off + j) _ T (0, 0) hheap]
        simpa using hx
      obtain ⟨h1, h2⟩ := hx w b off m hat (AV.oks_drop off hoks)
      refine ⟨fun op ho => ?_, h2⟩
      have hv := hr.eval he
      simp only [AV.val] at hv
      simp [execOp, ho, hv, Instr.loadAt, Instr.sureAddr, h1]
    · exact h.elim
  · exact h.elim

theorem RefOk.padd {m : Mem} {p : Value} {cs : List AV} (h : RefOk m p (AV.vals cs)) (n : Nat) : RefOk m (padd p n) (AV.vals (cs.drop n)) := by
  obtain ⟨b, o, rfl, hr⟩ := h
  refine ⟨b, o + n, padd_mk b o n, fun j x hx => ?_⟩
  rw [AV.vals_drop, List.getElem?_drop] at hx
  have := hr (n + j) x hx
  rwa [show o + (n + j) = o + n + j by omega] at this

theorem fieldPlace_run {w : World} {b o off n : Nat} {f : Field} (hn : (szT P f.type).getD 0 = n) (h0 : n ≠ 0) (ho : f.offset = off) :
    (fieldPlace ⟨b, o, none⟩ f).run P w = .ok ⟨b, o + off, none⟩ w := by
  cases hs : szT P f.type with
  | none => simp [hs] at hn; omega
  | some k =>
    have hk : k = n := by simpa [hs] using hn
    subst hk; subst ho
    simp only [fieldPlace, Sem.run_bind, run_sizeOf' hs, Result.andThen_ok, if_neg h0, Sem.run_pure, addr_add]

theorem fieldAddrK_sound {st : St} {s : TypeId} {f : Nat} {o : Operand} {a : AV} {K : AV → Prop} (he : st.ev o = some a) (h : fieldAddrK P s a f K) : ∃ x, K x ∧ Yields P st (.fieldAddr s o f) x := by
  unfold fieldAddrK at h
  split at h
  · rename_i fs hk
    obtain ⟨fl, hu, rfl⟩ := kind_st hk
    split at h
    · rename_i off ty n hf
      rw [List.getElem?_map] at hf
      obtain ⟨fd, hfd, e⟩ := Option.map_eq_some_iff.1 hf
      simp only [Prod.mk.injEq] at e
      obtain ⟨e1, _, e3⟩ := e
      obtain ⟨h0, h⟩ := h
      have hfd' : fl[f]? = some fd := by simpa using hfd
      split at h
      · rename_i p cs
        refine ⟨_, h, fun F ac w m hr hm => ?_⟩
        have hok := hm.ok he
        refine ⟨fun op ho => ?_, hok.1.padd off, AV.oks_drop off hok.2⟩
        obtain ⟨b, o', rfl, _⟩ := hok.1
        have hv := hr.eval he
        simp only [AV.val] at hv
        simp [execOp, ho, hv, Instr.fieldAt, run_underlying hu, hfd', Instr.sureAddr, fieldPlace_run (P := P) (w := w) (b := b) (o := o') e3 h0 e1, AV.val, padd_mk]
      · rename_i b o'
        refine ⟨_, h, fun F ac w m hr hm => ⟨fun op ho => ?_, trivial⟩⟩
        have hv := hr.eval he
        simp only [AV.val] at hv
        simp [execOp, ho, hv, Instr.fieldAt, run_underlying hu, hfd', Instr.sureAddr, fieldPlace_run (P := P) (w := w) (b := b) (o := o') e3 h0 e1, AV.val]
      · exact h.elim
    · exact h.elim
  · exact h.elim

theorem AV.cells_of (x : AV) {m : Mem} (hx : x.ok m) : AV.vals x.cells = x.val.cells.toList := by
  cases x with
  | v y =>
    cases y <;> simp [AV.cells, AV.vals, AV.val, Value.cells]
    rename_i cs
    simp [AV.vals_eq, List.map_map, Function.comp_def, AV.val]
  | lst sz h xs => obtain ⟨a, cap, rfl, _⟩ := hx.1; simp [AV.cells, AV.vals, AV.val, Value.cells]
  | ref p cs => obtain ⟨b, o, rfl, _⟩ := hx.1; simp [AV.cells, AV.vals, AV.val, Value.cells]
  | agg cs => simp [AV.cells, AV.val, Value.cells]
  | tup l => simp [AV.cells, AV.vals, AV.val, Value.cells]
  | ifc t a => simp [AV.cells, AV.vals, AV.val, Value.cells]
  | fn f a b => simp [AV.cells, AV.vals, AV.val, Value.cells]

theorem AV.oks_cells (x : AV) {m : Mem} (hx : x.ok m) : AV.oks m x.cells := by
  cases x with
  | v y =>
    cases y <;> first | exact ⟨trivial, trivial⟩ | (simp only [AV.cells]; rw [AV.oks_iff]; intro a ha; obtain ⟨z, _, rfl⟩ := List.mem_map.1 ha; trivial)
  | agg cs => exact hx
  | _ => exact ⟨hx, trivial⟩
end
end Go.AL
