/- What the pure operations yield: the rest, and all of them together. -/
import Derived.Test.YtfdlfcafcjhpmaaCAL2
namespace Go.AL
section
variable {P : Program}

theorem indexAddrK_sound {st : St} {t : TypeId} {o oi : Operand} {a i : AV} {K : AV → Prop} (he : st.ev o = some a) (hi : st.ev oi = some i) (h : indexAddrK P t a i K) : ∃ x, K x ∧ Yields P st (.indexAddr t o oi) x := by
  unfold indexAddrK at h
  split at h
  · rename_i e k i hk
    have hu := kind_sl hk
    split at h
    · rename_i n hn
      split at h
      · rename_i sz hd xs
        obtain ⟨rfl, h0, h⟩ := h
        split at h
        · rename_i x hx
          refine ⟨_, h, fun F ac w m hr hm => ?_⟩
          have hok := hm.ok he
          obtain ⟨ad, cap, rfl, hcap, hmax, hsz, hrow⟩ := hok.1
          have hxv : (AV.vals xs)[i.toNat]? = some x.val := by rw [AV.vals_getElem?, hx]; rfl
          obtain ⟨b, off, rfl, hr2⟩ := hrow (by intro hnil; rw [hnil] at hxv; cases hxv)
          have hlt : i.toNat < xs.length := (List.getElem?_eq_some_iff.1 hx).1
          have hxok := AV.oks_get hok.2 hx
          have hv := hr.eval he
          have hvi := hr.eval hi
          simp only [AV.val] at hv hvi
          refine ⟨fun op ho => ?_, ⟨b, off + i.toNat * sz, by simp [hadd, addr_add], fun j y hy => ?_⟩, AV.oks_cells x hxok⟩
          · have hlt' : i < ((AV.vals xs).length : Int) := by rw [AV.vals_length]; omega
            have e2 : P.elem t = e := by simp [Program.elem, hu]
            have hu2 : P.underlying t = some (.slice (P.elem t)) := by rw [e2]; exact hu
            simp only [execOp, ho, hv, hvi, AV.val]
            simp only [Sem.run_bind, run_indexAt_slice w t ⟨b, off, none⟩ (AV.vals xs).length cap k i hu2, if_pos (And.intro h0 hlt'), e2, run_sizeOf' hn, Result.andThen_ok, Sem.run_pure, hadd, addr_add]
          · rw [AV.cells_of x hxok] at hy
            exact hr2 i.toNat x.val hxv j y (by simpa using hy)
        · exact h.elim
      · rename_i b off len cap
        obtain ⟨h0, h1, h⟩ := h
        refine ⟨_, h, fun F ac w m hr hm => ⟨fun op ho => ?_, trivial⟩⟩
        have hv := hr.eval he
        have hvi := hr.eval hi
        simp only [AV.val] at hv hvi
        have e2 : P.elem t = e := by simp [Program.elem, hu]
        have hu2 : P.underlying t = some (.slice (P.elem t)) := by rw [e2]; exact hu
        simp only [execOp, ho, hv, hvi, AV.val]
        simp only [Sem.run_bind, run_indexAt_slice w t ⟨b, off, none⟩ len cap k i hu2, if_pos (And.intro h0 h1), e2, run_sizeOf' hn, Result.andThen_ok, Sem.run_pure, addr_add]
      · exact h.elim
    · exact h.elim
  · rename_i len e k i hk
    have hu := kind_ar hk
    split at h
    · rename_i n hn
      obtain ⟨h0, h1, h⟩ := h
      have e2 : P.elem t = e := by simp [Program.elem, hu]
      have e3 : P.arrayLen t = len := by simp [Program.arrayLen, hu]
      have hu2 : P.underlying t = some (.array (P.arrayLen t) (P.elem t)) := by rw [e2, e3]; exact hu
      split at h
      · rename_i p cs
        refine ⟨_, h, fun F ac w m hr hm => ?_⟩
        have hok := hm.ok he
        refine ⟨fun op ho => ?_, hok.1.padd _, AV.oks_drop _ hok.2⟩
        obtain ⟨b, off, rfl, _⟩ := hok.1
        have hv := hr.eval he
        have hvi := hr.eval hi
        simp only [AV.val] at hv hvi
        simp only [execOp, ho, hv, hvi, AV.val]
        simp only [Sem.run_bind, run_indexAt_array w t ⟨b, off, none⟩ k i hu2, e3, if_pos (And.intro h0 h1), e2, run_sizeOf' hn, Result.andThen_ok, Sem.run_pure, padd_mk, addr_add]
      · rename_i b off
        refine ⟨_, h, fun F ac w m hr hm => ⟨fun op ho => ?_, trivial⟩⟩
        have hv := hr.eval he
        have hvi := hr.eval hi
        simp only [AV.val] at hv hvi
        simp only [execOp, ho, hv, hvi, AV.val]
        simp only [Sem.run_bind, run_indexAt_array w t ⟨b, off, none⟩ k i hu2, e3, if_pos (And.intro h0 h1), e2, run_sizeOf' hn, Result.andThen_ok, Sem.run_pure, addr_add]
      · exact h.elim
    · exact h.elim
  · exact h.elim

theorem indexK_sound {st : St} {t : TypeId} {o oi : Operand} {a i : AV} {K : AV → Prop} (he : st.ev o = some a) (hi : st.ev oi = some i) (h : indexK P t a i K) : ∃ x, K x ∧ Yields P st (.index t o oi) x := by
  unfold indexK at h
  split at h
  · rename_i s k i hk
    have hu := kind_s hk
    obtain ⟨h0, h⟩ := h
    split at h
    · rename_i b hb
      refine ⟨_, h, fun F ac w m hr hm => ⟨fun op ho => ?_, trivial⟩⟩
      have hv := hr.eval he
      have hvi := hr.eval hi
      simp only [AV.val] at hv hvi
      simp [execOp, ho, hv, hvi, Instr.index, asIntOf, run_underlying hu, h0, hb, AV.val]
    · exact h.elim
  · exact h.elim

theorem lenK_sound {st : St} {t : TypeId} {o : Operand} {a : AV} {K : AV → Prop} (he : st.ev o = some a) (h : lenK P st.hp t a K) : ∃ x, K x ∧ Yields P st (.call { callee := .builtin .len, args := #[o], argTypes := #[t] }) x := by
  have main : ∀ (x : Value), (∀ (F : Fr) (ac : Act) (w : World) (m : Mem), Rel F st ac w → RelM F st ac w m → (Builtin.len_ #[t] 0 #[ac.eval o]).run P w = .ok x w) → Yields P st (.call { callee := .builtin .len, args := #[o], argTypes := #[t] }) (.v x) := by
    intro x hx F ac w m hr hm
    refine ⟨fun op ho => ?_, trivial⟩
    have := hx F ac w m hr hm
    have e : (Builtin.len_ #[t] op.type #[ac.eval o]).run P w = .ok x w := this
    simp [execOp, ho, resolve, invoke, builtin, e, AV.val]
  unfold lenK at h
  split at h
  · rename_i s hk
    refine ⟨_, h, main _ fun F ac w m hr hm => ?_⟩
    have hv := hr.eval he
    simp only [AV.val] at hv
    simp [Builtin.len_, run_underlying (kind_s hk), hv, goInt]
  · rename_i e sz hd xs hk
    refine ⟨_, h, main _ fun F ac w m hr hm => ?_⟩
    have hv := hr.eval he
    obtain ⟨ad, cap, rfl, _⟩ := (hm.ok he).1
    simp only [AV.val] at hv
    simp [Builtin.len_, run_underlying (kind_sl hk), hv, goInt, AV.vals_length]
  · rename_i e b n c hk
    refine ⟨_, h, main _ fun F ac w m hr hm => ?_⟩
    have hv := hr.eval he
    simp only [AV.val] at hv
    simp [Builtin.len_, run_underlying (kind_sl hk), hv, goInt]
  · rename_i k e b hk
    split at h
    · rename_i es hes
      refine ⟨_, h, main _ fun F ac w m hr hm => ?_⟩
      have hv := hr.eval he
      obtain ⟨_, ⟨en, clock, hh, hl⟩, _⟩ := hm.hp.mp b es hes
      have hlen : en.size = es.length := by have := congrArg List.length hl; simpa using this
      simp only [AV.val] at hv
      simp [Builtin.len_, run_underlying (kind_mp hk), hv, goInt, getObj, Sem.run, hh, hlen]
    · exact h.elim
  · rename_i k e hk
    refine ⟨_, h, main _ fun F ac w m hr hm => ?_⟩
    have hv := hr.eval he
    simp only [AV.val] at hv
    simp [Builtin.len_, run_underlying (kind_mp hk), hv, goInt]
  · exact h.elim

theorem extractK_sound {st : St} {i : Nat} {o : Operand} {a : AV} {K : AV → Prop} (he : st.ev o = some a) (h : extractK a i K) : ∃ x, K x ∧ Yields P st (.extract o i) x := by
  unfold extractK at h
  split at h
  · rename_i l
    obtain ⟨x, hx, hK⟩ := withAV_elim h
    refine ⟨x, hK, fun F ac w m hr hm => ⟨fun op ho => ?_, AV.oks_get (hm.ok he) hx⟩⟩
    have hv := hr.eval he
    simp only [AV.val] at hv
    simp [execOp, ho, hv, Instr.extract, AV.vals_getElem?, hx]
  · exact h.elim

theorem run_part {t : TypeId} {cs : List AV} {off : Nat} {K : AV → Prop} (h : readK P t (cs.drop off) K) :
    ∃ x, K x ∧ (∀ w, (part t (AV.vals cs).toArray off).run P w = .ok x.val w) ∧ ∀ m, AV.oks m cs → x.ok m := by
  unfold readK at h
  split at h
  · rename_i hagg
    split at h
    · rename_i n hn
      obtain ⟨hle, hK⟩ := h
      refine ⟨_, hK, fun w => ?_, fun m hok => AV.oks_take n (AV.oks_drop off hok)⟩
      simp only [part, Sem.run_bind, aggT_true hagg, Result.andThen_ok, if_true, run_sizeOf' hn, Sem.run_pure, AV.val]
      congr 2
      rw [AV.vals_take, AV.vals_drop]
      apply Array.ext'
      simp [List.extract_eq_take_drop]
    · exact h.elim
  · rename_i hagg
    have hagg' : aggT P t = false := by simpa using hagg
    obtain ⟨hk, h⟩ := h
    split at h
    · rename_i c rest hd
      have hc : cs[off]? = some c := by
        have := congrArg (fun l => l[0]?) hd
        simpa using this
      refine ⟨c, h, fun w => ?_, fun m hok => AV.oks_get hok hc⟩
      simp only [part, Sem.run_bind, aggT_false hagg' hk, Result.andThen_ok, Bool.false_eq_true, if_false]
      simp [AV.vals_getElem?, hc]
    · exact h.elim

theorem fieldK_sound {st : St} {s : TypeId} {f : Nat} {o : Operand} {a : AV} {K : AV → Prop} (he : st.ev o = some a) (h : fieldK P s a f K) : ∃ x, K x ∧ Yields P st (.field s o f) x := by
  unfold fieldK at h
  split at h
  · rename_i fs cs hk
    obtain ⟨fl, hu, rfl⟩ := kind_st hk
    split at h
    · rename_i off ty n hf
      rw [List.getElem?_map] at hf
      obtain ⟨fd, hfd, e⟩ := Option.map_eq_some_iff.1 hf
      simp only [Prod.mk.injEq] at e
      obtain ⟨e1, e2, e3⟩ := e
      have hfd' : fl[f]? = some fd := by simpa using hfd
      obtain ⟨x, hK, hx, hok⟩ := run_part h
      refine ⟨x, hK, fun F ac w m hr hm => ⟨fun op ho => ?_, hok m (hm.ok he)⟩⟩
      have hv := hr.eval he
      simp only [AV.val] at hv
      simp [execOp, ho, hv, Instr.field, run_underlying hu, hfd', asAgg, e1, e2, hx w]
    · exact h.elim
  · exact h.elim
end
end Go.AL
