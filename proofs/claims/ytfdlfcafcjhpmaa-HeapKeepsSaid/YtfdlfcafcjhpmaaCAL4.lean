/- What the pure operations yield: arithmetic, tests, and all of them together. -/
import Derived.Test.YtfdlfcafcjhpmaaCAL3
namespace Go.AL
section
variable {P : Program}

theorem unK_sound {st : St} {op : UnOp} {t : TypeId} {o : Operand} {a : AV} {K : AV → Prop} (he : st.ev o = some a) (h : unK op a K) : ∃ x, K x ∧ Yields P st (.unOp op t o) x := by
  unfold unK at h
  split at h
  · refine ⟨_, h, fun F ac w m hr hm => ⟨fun op ho => ?_, trivial⟩⟩
    have hv := hr.eval he
    simp only [AV.val] at hv
    simp [execOp, ho, hv, Op.unary, AV.val]
  · refine ⟨_, h, fun F ac w m hr hm => ⟨fun op ho => ?_, trivial⟩⟩
    have hv := hr.eval he
    simp only [AV.val] at hv
    simp [execOp, ho, hv, Op.unary, Op.intArith, AV.val]
  · exact h.elim

theorem yields_bin {st : St} {op : BinOp} {t t' : TypeId} {x y : Operand} {a b : AV} {r : AV} (ha : st.ev x = some a) (hb : st.ev y = some b)
    (hrun : ∀ (F : Fr) (ac : Act) (w : World) (m : Mem), Rel F st ac w → RelM F st ac w m → (eqGuard op t x y a.val b.val).run P w = .ok () w ∧ (binOp op t a.val b.val).run P w = .ok r.val w ∧ r.ok m) : Yields P st (.binOp op t x y t') r := by
  intro F ac w m hr hm
  obtain ⟨h1, h2, h3⟩ := hrun F ac w m hr hm
  refine ⟨fun o ho => ?_, h3⟩
  simp only [execOp, ho, hr.eval ha, hr.eval hb, Sem.run_bind, h1, Result.andThen_ok, h2, Sem.run_pure]

theorem intK_sound {op : BinOp} {t : TypeId} {k : IntKind} {x y : Int} {K : AV → Prop} (h : intK op k x y K) :
    ∃ r, K (.v r) ∧ ∀ w, (binOp op t (.int k x) (.int k y)).run P w = .ok r w := by
  cases op <;> simp only [intK] at h
  case quo => exact ⟨_, h.2, fun w => by simp [binOp, Op.intDiv, h.1]⟩
  case rem => exact ⟨_, h.2, fun w => by simp [binOp, Op.intDiv, h.1]⟩
  case eql => exact ⟨_, h, fun w => by simp [binOp, Op.intCmp, Bool.beq_eq_decide_eq]⟩
  case neq => exact ⟨_, h, fun w => by simp [binOp, Op.intCmp, bne, Bool.beq_eq_decide_eq]⟩
  all_goals exact ⟨_, h, fun w => by simp [binOp, Op.intArith, Op.intCmp]⟩

theorem bytes_eq (a b : ByteArray) : (a.toList == b.toList) = decide (a = b) := by
  rw [← beq_toListBytes]
  rcases hb : (a == b) with _ | _
  · have : a ≠ b := fun e => by rw [(MapKept.bytes_beq a b).2 e] at hb; cases hb
    simp [this]
  · simp [(MapKept.bytes_beq a b).1 hb]

theorem bytes_eq' (a b : ByteArray) : (a == b) = decide (a = b) := by rw [beq_toListBytes, bytes_eq]

theorem strK_sound {op : BinOp} {t : TypeId} {x y : ByteArray} {K : AV → Prop} (h : strK op x y K) :
    ∃ r, K (.v r) ∧ ∀ w, (binOp op t (.string x) (.string y)).run P w = .ok r w := by
  cases op <;> simp only [strK] at h
  case add =>
    refine ⟨_, h.2, fun w => ?_⟩
    have : ¬ (((x.size + y.size : Nat) : Int) > IntKind.i64.max) := by have := h.1; simp [IntKind.max, IntKind.signed, IntKind.bits]; omega
    simp only [binOp, Op.stringOp]
    rw [if_neg this]; rfl
  case eql => exact ⟨_, h, fun w => by simp [binOp, Op.stringOp, bytes_eq]⟩
  case neq => exact ⟨_, h, fun w => by simp [binOp, Op.stringOp, bytes_eq]⟩
  all_goals exact ⟨_, h, fun w => by simp [binOp, Op.stringOp]⟩

theorem eqGuard_plain {op : BinOp} {t : TypeId} {x y : Operand} {a b : Value} {w : World} (h : (∃ k n, a = .int k n) ∨ (∃ s, a = .string s) ∨ (∃ s, a = .bool s) ∨ (∃ s, a = .pointer s) ∨ (∃ t v, a = .iface t v)) : (eqGuard op t x y a b).run P w = .ok () w := by
  rcases h with ⟨k, n, rfl⟩ | ⟨s, rfl⟩ | ⟨s, rfl⟩ | ⟨s, rfl⟩ | ⟨t, v, rfl⟩ <;> cases op <;> simp [eqGuard]

theorem eqB_sound {op : BinOp} {t : TypeId} {a b : Value} {r : Bool} {K : AV → Prop} (h : eqB op r K)
    (h1 : binOp .eql t a b = Sem.bind (Op.equal t a b) (fun r => .pure (.bool r))) (h2 : binOp .neq t a b = Sem.bind (Op.equal t a b) (fun r => .pure (.bool !r)))
    (he : ∀ d w, (Op.equalIn (d + 1) t a b).run P w = .ok r w) : ∃ x, K (.v x) ∧ ∀ w, (binOp op t a b).run P w = .ok x w := by
  have he' : ∀ w, (Op.equal t a b).run P w = .ok r w := fun w => he 9999 w
  cases op <;> simp only [eqB] at h
  case eql => exact ⟨_, h, fun w => by rw [h1]; show (Op.equal t a b >>= fun r => Sem.pure (Value.bool r)).run P w = _; simp only [Sem.run_bind, he', Result.andThen_ok]; rfl⟩
  case neq => exact ⟨_, h, fun w => by rw [h2]; show (Op.equal t a b >>= fun r => Sem.pure (Value.bool !r)).run P w = _; simp only [Sem.run_bind, he', Result.andThen_ok]; rfl⟩

theorem eqGuard_slice {op : BinOp} {t : TypeId} {x y : Operand} {o : Option Addr} {n c : Nat} {b : Value} {w : World} : (eqGuard op t x y (.slice o n c) b).run P w = .ok () w := by
  cases op <;> simp [eqGuard]
theorem sliceNil_sound {op : BinOp} {t e : TypeId} {o : Option Addr} {n c : Nat} {K : AV → Prop} (hu : P.underlying t = some (.slice e)) (h : eqB op (nilB (.slice o n c)) K) :
    ∃ x, K (.v x) ∧ ∀ w, (binOp op t (.slice o n c) (.slice none 0 0)).run P w = .ok x w := by
  refine eqB_sound h rfl rfl (fun d w => ?_)
  cases o <;> simp [Op.equalIn, run_underlying hu, nilB]

theorem eqF_sound {d : Nat} {t : TypeId} {a b : AV} {r : Bool} {w : World} (h : eqF (kindT P t) a b = some r) : (Op.equalIn (d + 1) t a.val b.val).run P w = .ok r w ∧ aggT P t = false ∧ kindT P t ≠ .oth := by
  unfold eqF at h
  split at h
  · rename_i k0 k x k' y hk
    split at h
    · rename_i e; subst e
      obtain rfl := Option.some.inj h
      have hu := kind_i hk
      exact ⟨by simp [Op.equalIn, AV.val, run_underlying hu, Bool.beq_eq_decide_eq], by simp [aggT, hk], by simp [hk]⟩
    · cases h
  · rename_i x y hk
    obtain rfl := Option.some.inj h
    have hu := kind_b hk
    exact ⟨by simp [Op.equalIn, AV.val, run_underlying hu, Bool.beq_eq_decide_eq], by simp [aggT, hk], by simp [hk]⟩
  · rename_i x y hk
    obtain rfl := Option.some.inj h
    have hu := kind_s hk
    exact ⟨by simp [Op.equalIn, AV.val, run_underlying hu, bytes_eq'], by simp [aggT, hk], by simp [hk]⟩
  · cases h

theorem run_part_at {t : TypeId} {cs : Array Value} {off : Nat} {v : Value} {w : World} (h1 : aggT P t = false) (h2 : kindT P t ≠ .oth) (h : cs[off]? = some v) : (part t cs off).run P w = .ok v w := by
  simp only [part, Sem.run_bind, aggT_false h1 h2, Result.andThen_ok, Bool.false_eq_true, if_false]
  simp [h]

theorem eqS_sound {d : Nat} {w : World} : ∀ (fl : List Field) (xs ys : List AV) (k : Nat) (pre pre' : List Value) (r : Bool), fl.map (·.offset) = List.range' k fl.length → pre.length = k → pre'.length = k →
    fl.all (fun f => f.name != "_") = true → eqS P (fl.map fun f => (f.offset, f.type, (szT P f.type).getD 0)) xs ys = some r →
    (Op.eqFields (d + 1) (pre ++ AV.vals xs).toArray (pre' ++ AV.vals ys).toArray fl).run P w = .ok r w
  | [], xs, ys, k, pre, pre', r, ho, h1, h2, hn, h => by
    cases xs <;> cases ys <;> simp only [List.map_nil, eqS, Option.some.injEq, reduceCtorEq] at h
    subst h; simp [Op.eqFields]
  | f :: fl, xs, ys, k, pre, pre', r, ho, h1, h2, hn, h => by
    cases xs with
    | nil => simp [eqS] at h
    | cons x xs =>
    cases ys with
    | nil => simp [eqS] at h
    | cons y ys =>
    simp only [List.map_cons, eqS] at h
    cases ha : eqF (kindT P f.type) x y with
    | none => rw [ha] at h; cases h
    | some a =>
    cases hb : eqS P (fl.map fun f => (f.offset, f.type, (szT P f.type).getD 0)) xs ys with
    | none => rw [ha, hb] at h; cases h
    | some b =>
    rw [ha, hb] at h
    obtain rfl := Option.some.inj h
    simp only [List.map_cons, List.length_cons, List.range'_succ, List.cons.injEq] at ho
    simp only [List.all_cons, Bool.and_eq_true] at hn
    obtain ⟨e1, e2, e3⟩ := eqF_sound (P := P) (d := d) (w := w) ha
    have ih := eqS_sound (d := d) (w := w) fl xs ys (k + 1) (pre ++ [x.val]) (pre' ++ [y.val]) b ho.2 (by simp [h1]) (by simp [h2]) hn.2 hb
    have hname : f.name ≠ "_" := by simpa using hn.1
    have p1 : (part f.type (pre ++ AV.vals (x :: xs)).toArray f.offset).run P w = .ok x.val w := run_part_at e2 e3 (by rw [ho.1]; simp [h1, AV.vals])
    have p2 : (part f.type (pre' ++ AV.vals (y :: ys)).toArray f.offset).run P w = .ok y.val w := run_part_at e2 e3 (by rw [ho.1]; simp [h2, AV.vals])
    simp only [Op.eqFields, if_pos hname, Sem.run_bind, p1, p2, e1, Result.andThen_ok]
    cases a
    · simp
    · simp only [List.append_assoc, List.singleton_append] at ih
      simpa [AV.vals] using ih

theorem binK_sound {st : St} {op : BinOp} {t t' : TypeId} {x y : Operand} {a b : AV} {K : AV → Prop} (ha : st.ev x = some a) (hb : st.ev y = some b) (h : binK P op t a b K) : ∃ r, K r ∧ Yields P st (.binOp op t x y t') r := by
  unfold binK at h
  split at h
  · rename_i k n k' n'
    obtain ⟨rfl, h⟩ := h
    obtain ⟨r, hK, hrun⟩ := intK_sound (P := P) (t := t) h
    exact ⟨_, hK, yields_bin ha hb fun F ac w m hr hm => ⟨eqGuard_plain (.inl ⟨_, _, rfl⟩), hrun w, trivial⟩⟩
  · obtain ⟨r, hK, hrun⟩ := strK_sound (P := P) (t := t) h
    exact ⟨_, hK, yields_bin ha hb fun F ac w m hr hm => ⟨eqGuard_plain (.inr (.inl ⟨_, rfl⟩)), hrun w, trivial⟩⟩
  · rename_i p q
    split at h
    · rename_i hk
      have hu := kind_b hk
      obtain ⟨r, hK, hrun⟩ := eqB_sound (P := P) (t := t) (a := .bool p) (b := .bool q) h rfl rfl (fun d w => by simp [Op.equalIn, run_underlying hu])
      exact ⟨_, hK, yields_bin ha hb fun F ac w m hr hm => ⟨eqGuard_plain (.inr (.inr (.inl ⟨_, rfl⟩))), hrun w, trivial⟩⟩
    · exact h.elim
  · split at h
    · rename_i e hk
      have hu := kind_p hk
      obtain ⟨r, hK, hrun⟩ := eqB_sound (P := P) (t := t) (a := .pointer none) (b := .pointer none) h rfl rfl (fun d w => by simp [Op.equalIn, run_underlying hu])
      exact ⟨_, hK, yields_bin ha hb fun F ac w m hr hm => ⟨eqGuard_plain (.inr (.inr (.inr (.inl ⟨_, rfl⟩)))), hrun w, trivial⟩⟩
    · exact h.elim
  · rename_i p cs
    split at h
    · rename_i e hk
      have hu := kind_p hk
      have hop : op = .eql ∨ op = .neq := by cases op <;> first | exact .inl rfl | exact .inr rfl | exact h.elim
      rcases hop with rfl | rfl
      · refine ⟨_, h, yields_bin ha hb fun F ac w m hr hm => ?_⟩
        obtain ⟨bl, of_, rfl, _⟩ := (hm.ok ha).1
        obtain ⟨r, hK, hrun⟩ := eqB_sound (P := P) (t := t) (a := .pointer (some ⟨bl, of_, none⟩)) (b := .pointer none) (K := fun x => x = .v (.bool false)) (r := false) (op := .eql) rfl rfl rfl (fun d w => by simp [Op.equalIn, run_underlying hu])
        have hr' : r = .bool false := by injection hK
        subst hr'
        exact ⟨eqGuard_plain (.inr (.inr (.inr (.inl ⟨_, rfl⟩)))), hrun w, trivial⟩
      · refine ⟨_, h, yields_bin ha hb fun F ac w m hr hm => ?_⟩
        obtain ⟨bl, of_, rfl, _⟩ := (hm.ok ha).1
        obtain ⟨r, hK, hrun⟩ := eqB_sound (P := P) (t := t) (a := .pointer (some ⟨bl, of_, none⟩)) (b := .pointer none) (K := fun x => x = .v (.bool true)) (r := false) (op := .neq) rfl rfl rfl (fun d w => by simp [Op.equalIn, run_underlying hu])
        have hr' : r = .bool true := by injection hK
        subst hr'
        exact ⟨eqGuard_plain (.inr (.inr (.inr (.inl ⟨_, rfl⟩)))), hrun w, trivial⟩
    · exact h.elim
  · rename_i ad
    split at h
    · rename_i e hk
      have hu := kind_p hk
      obtain ⟨r, hK, hrun⟩ := eqB_sound (P := P) (t := t) (a := .pointer (some ad)) (b := .pointer none) h rfl rfl (fun d w => by simp [Op.equalIn, run_underlying hu])
      exact ⟨_, hK, yields_bin ha hb fun F ac w m hr hm => ⟨eqGuard_plain (.inr (.inr (.inr (.inl ⟨_, rfl⟩)))), hrun w, trivial⟩⟩
    · exact h.elim
  · rename_i xs ys
    split at h
    · rename_i fs hk
      obtain ⟨ht, h⟩ := h
      split at h
      · rename_i r hr
        obtain ⟨fl, hu, rfl⟩ := kind_st hk
        simp only [eqT, hu, Bool.and_eq_true, decide_eq_true_eq, Bool.not_eq_true'] at ht
        obtain ⟨⟨⟨hst, hgt⟩, hnm⟩, hof⟩ := ht
        have hrun : ∀ d w, (Op.equalIn (d + 1 + 1) t (AV.agg xs).val (AV.agg ys).val).run P w = .ok r w := by
          intro d w
          have hf : P.fieldsOf t = fl := by simp [Program.fieldsOf, hu]
          simp only [AV.val]
          rw [run_equalIn_struct (P := P) w (d + 1) t _ _ (by rw [hf]; exact hu) hst, hf]
          have := eqS_sound (P := P) (d := d) (w := w) fl.toList xs ys 0 [] [] r (by rw [hof, List.range_eq_range']; simp) rfl rfl hnm hr
          simpa using this
        have he : ∀ w, (Op.equal t (AV.agg xs).val (AV.agg ys).val).run P w = .ok r w := fun w => hrun 9998 w
        have hop : op = .eql ∨ op = .neq := by cases op <;> first | exact .inl rfl | exact .inr rfl | exact h.elim
        rcases hop with rfl | rfl
        · refine ⟨_, h, yields_bin ha hb fun F ac w m hr hm => ⟨by simp only [AV.val]; exact run_eqGuard_agg w .eql t x y _ _ hgt, ?_, trivial⟩⟩
          have h2 := hrun 9998 w
          simp only [AV.val] at h2 ⊢
          rw [run_eql_struct, h2]; rfl
        · refine ⟨_, h, yields_bin ha hb fun F ac w m hr hm => ⟨by simp only [AV.val]; exact run_eqGuard_agg w .neq t x y _ _ hgt, ?_, trivial⟩⟩
          have h2 := hrun 9998 w
          simp only [AV.val] at h2 ⊢
          rw [run_neq_struct, h2]; rfl
      · exact h.elim
    · exact h.elim
  · rename_i ty av
    split at h
    · rename_i hk
      obtain ⟨ms, hu⟩ := kind_ifc hk
      obtain ⟨r, hK, hrun⟩ := eqB_sound (P := P) (t := t) (a := .iface ty av.val) (b := .nilIface) h rfl rfl (fun d w => by simp [Op.equalIn, run_underlying hu])
      exact ⟨_, hK, yields_bin ha hb fun F ac w m hr hm => ⟨eqGuard_plain (.inr (.inr (.inr (.inr ⟨_, _, rfl⟩)))), hrun w, trivial⟩⟩
    · exact h.elim
  · rename_i sz hd xs
    split at h
    · rename_i e hk
      have hu := kind_sl hk
      have hop : op = .eql ∨ op = .neq := by cases op <;> first | exact .inl rfl | exact .inr rfl | exact h.elim
      rcases hop with rfl | rfl
      · refine ⟨_, h, yields_bin ha hb fun F ac w m hr hm => ?_⟩
        obtain ⟨oa, cap, he, _⟩ := (hm.ok ha).1
        subst he
        obtain ⟨r, hK, hrun⟩ := sliceNil_sound (P := P) (op := .eql) (t := t) (K := fun x => x = .v (.bool (nilB (.slice oa (AV.vals xs).length cap)))) hu rfl
        have hr' : r = .bool (nilB (.slice oa (AV.vals xs).length cap)) := by injection hK
        subst hr'
        exact ⟨eqGuard_slice, hrun w, trivial⟩
      · refine ⟨_, h, yields_bin ha hb fun F ac w m hr hm => ?_⟩
        obtain ⟨oa, cap, he, _⟩ := (hm.ok ha).1
        subst he
        obtain ⟨r, hK, hrun⟩ := sliceNil_sound (P := P) (op := .neq) (t := t) (K := fun x => x = .v (.bool !(nilB (.slice oa (AV.vals xs).length cap)))) hu rfl
        have hr' : r = .bool (!nilB (.slice oa (AV.vals xs).length cap)) := by injection hK
        subst hr'
        exact ⟨eqGuard_slice, hrun w, trivial⟩
    · exact h.elim
  · rename_i oa n c
    split at h
    · rename_i e hk
      have hu := kind_sl hk
      obtain ⟨r, hK, hrun⟩ := sliceNil_sound (P := P) (op := op) (t := t) hu h
      exact ⟨_, hK, yields_bin ha hb fun F ac w m hr hm => ⟨eqGuard_slice, hrun w, trivial⟩⟩
    · exact h.elim
  · exact h.elim

theorem cvtK_sound {st : St} {s d : TypeId} {o : Operand} {a : AV} {K : AV → Prop} (he : st.ev o = some a) (h : cvtK P s d a K) : ∃ x, K x ∧ Yields P st (.convert s d o) x := by
  unfold cvtK at h
  split at h
  · rename_i k0 k k2 n hk1 hk2
    refine ⟨_, h, fun F ac w m hr hm => ⟨fun op ho => ?_, trivial⟩⟩
    have hv := hr.eval he
    simp only [AV.val] at hv
    simp [execOp, ho, hv, convert, run_underlying (kind_i hk1), run_underlying (kind_i hk2), Conv.intToInt, AV.val]
  · rename_i x hk1 hk2
    refine ⟨_, h, fun F ac w m hr hm => ⟨fun op ho => ?_, trivial⟩⟩
    have hv := hr.eval he
    simp only [AV.val] at hv
    simp [execOp, ho, hv, convert, run_underlying (kind_s hk1), run_underlying (kind_s hk2), AV.val]
  · exact h.elim

theorem nilCheckK_sound {st : St} {o : Operand} {a : AV} {K : AV → Prop} (he : st.ev o = some a) (h : nilCheckK a K) : ∃ x, K x ∧ Yields P st (.nilCheck o) x := by
  unfold nilCheckK at h
  split at h
  · rename_i p cs
    refine ⟨_, h, fun F ac w m hr hm => ⟨fun op ho => ?_, hm.ok he⟩⟩
    have hv := hr.eval he
    obtain ⟨b, off, rfl, _⟩ := (hm.ok he).1
    simp only [AV.val] at hv
    simp [execOp, ho, hv, AV.val]
  · refine ⟨_, h, fun F ac w m hr hm => ⟨fun op ho => ?_, trivial⟩⟩
    have hv := hr.eval he
    simp only [AV.val] at hv
    simp [execOp, ho, hv, AV.val]
  · exact h.elim

theorem mkIfcK_sound {st : St} {t : TypeId} {o : Operand} {a : AV} {K : AV → Prop} (he : st.ev o = some a) (h : mkIfcK P t a K) : ∃ x, K x ∧ Yields P st (.makeInterface t o) x := by
  have hk : kindT P t ≠ .oth := by intro hk; simp [mkIfcK, hk] at h
  have hi : kindT P t ≠ .ifc := by intro hk; simp [mkIfcK, hk] at h
  have hK : K (.ifc t a) := by unfold mkIfcK at h; split at h <;> first | exact h.elim | exact h
  obtain ⟨d, hu⟩ := kind_some hk
  refine ⟨_, hK, fun F ac w m hr hm => ⟨fun op ho => ?_, show a.ok m from hm.ok he⟩⟩
  have hv := hr.eval he
  have hd : ∀ ms, d ≠ .interface ms := by intro ms e; subst e; exact hi (by simp [kindT, hu])
  have : (Instr.makeInterface t a.val).run P w = .ok (.iface t a.val) w := by
    simp only [Instr.makeInterface, Sem.run_bind, run_underlying hu, Result.andThen_ok]
    cases d <;> first | rfl | exact absurd rfl (hd _)
  simp only [execOp, ho, hv, Sem.run_bind, this, Result.andThen_ok, Sem.run_pure, AV.val]

theorem evs_sound {st : St} {F : Fr} {ac : Act} {w : World} {m : Mem} (hr : Rel F st ac w) (hm : RelM F st ac w m) :
    ∀ (l : List Operand) (xs : List AV), l.mapM st.ev = some xs → l.map ac.eval = AV.vals xs ∧ AV.oks m xs
  | [], xs, h => by simp at h; subst h; exact ⟨rfl, trivial⟩
  | o :: l, xs, h => by
    simp only [List.mapM_cons, Option.bind_eq_bind, Option.bind_eq_some_iff] at h
    obtain ⟨x, hx, ys, hy, e⟩ := h
    simp at e; subst e
    obtain ⟨h1, h2⟩ := evs_sound hr hm l ys hy
    exact ⟨by simp [AV.vals, hr.eval hx, h1], hm.ok hx, h2⟩

theorem evs_arr {st : St} {F : Fr} {ac : Act} {w : World} {m : Mem} (hr : Rel F st ac w) (hm : RelM F st ac w m) {l : Array Operand} {xs : List AV} (h : evs st l = some xs) :
    l.map ac.eval = (AV.vals xs).toArray ∧ AV.oks m xs := by
  obtain ⟨h1, h2⟩ := evs_sound hr hm l.toList xs h
  refine ⟨?_, h2⟩
  rw [← h1]; apply Array.ext'; simp

theorem mkFnK_sound {st : St} {f : Fn} {a b : Array Operand} {K : AV → Prop} (h : mkFnK st f a b K) : ∃ x, K x ∧ Yields P st (.makeFunc f a b) x := by
  unfold mkFnK at h
  split at h
  · rename_i x y hx hy
    refine ⟨_, h, fun F ac w m hr hm => ?_⟩
    obtain ⟨e1, o1⟩ := evs_arr hr hm hx
    obtain ⟨e2, o2⟩ := evs_arr hr hm hy
    refine ⟨fun op ho => ?_, o1, o2⟩
    simp [execOp, ho, Instr.makeFunc, e1, e2, AV.val]
  · exact h.elim

@[go_sem] theorem pop_move (st : St) (x : Operand) (K : AV → Prop) : pop P st (.move x) K = withAV (st.ev x) K := rfl
@[go_sem] theorem pop_assign (st : St) (x : Operand) (K : AV → Prop) : pop P st (.assign x) K = withAV (st.ev x) K := rfl
@[go_sem] theorem pop_pick (st : St) (c a b : Operand) (K : AV → Prop) : pop P st (.pick c a b) K = withAV (st.ev c) fun c => pickK c (st.ev a) (st.ev b) K := rfl
@[go_sem] theorem pop_bin (st : St) (op : BinOp) (t t' : TypeId) (x y : Operand) (K : AV → Prop) : pop P st (.binOp op t x y t') K = withAV (st.ev x) fun a => withAV (st.ev y) fun b => binK P op t a b K := rfl
@[go_sem] theorem pop_un (st : St) (op : UnOp) (t : TypeId) (x : Operand) (K : AV → Prop) : pop P st (.unOp op t x) K = withAV (st.ev x) fun a => unK op a K := rfl
@[go_sem] theorem pop_load (st : St) (t : TypeId) (x : Operand) (K : AV → Prop) : pop P st (.load t x) K = withAV (st.ev x) fun a => loadK P st.hp t a K := rfl
@[go_sem] theorem pop_fieldAddr (st : St) (t : TypeId) (x : Operand) (f : Nat) (K : AV → Prop) : pop P st (.fieldAddr t x f) K = withAV (st.ev x) fun a => fieldAddrK P t a f K := rfl
@[go_sem] theorem pop_indexAddr (st : St) (t : TypeId) (x i : Operand) (K : AV → Prop) : pop P st (.indexAddr t x i) K = withAV (st.ev x) fun a => withAV (st.ev i) fun i => indexAddrK P t a i K := rfl
@[go_sem] theorem pop_index (st : St) (t : TypeId) (x i : Operand) (K : AV → Prop) : pop P st (.index t x i) K = withAV (st.ev x) fun a => withAV (st.ev i) fun i => indexK P t a i K := rfl
@[go_sem] theorem pop_field (st : St) (t : TypeId) (x : Operand) (f : Nat) (K : AV → Prop) : pop P st (.field t x f) K = withAV (st.ev x) fun a => fieldK P t a f K := rfl
@[go_sem] theorem pop_extract (st : St) (x : Operand) (i : Nat) (K : AV → Prop) : pop P st (.extract x i) K = withAV (st.ev x) fun a => extractK a i K := rfl
@[go_sem] theorem pop_convert (st : St) (s d : TypeId) (x : Operand) (K : AV → Prop) : pop P st (.convert s d x) K = withAV (st.ev x) fun a => cvtK P s d a K := rfl
@[go_sem] theorem pop_mkIfc (st : St) (t : TypeId) (x : Operand) (K : AV → Prop) : pop P st (.makeInterface t x) K = withAV (st.ev x) fun a => mkIfcK P t a K := rfl
@[go_sem] theorem pop_mkFn (st : St) (f : Fn) (a b : Array Operand) (K : AV → Prop) : pop P st (.makeFunc f a b) K = mkFnK st f a b K := rfl
@[go_sem] theorem pop_nilCheck (st : St) (x : Operand) (K : AV → Prop) : pop P st (.nilCheck x) K = withAV (st.ev x) fun a => nilCheckK a K := rfl
@[go_sem] theorem pop_len (st : St) (x : Operand) (t : TypeId) (K : AV → Prop) : pop P st (.call { callee := .builtin .len, args := #[x], argTypes := #[t] }) K = withAV (st.ev x) fun a => lenK P st.hp t a K := rfl

theorem pop_sound {st : St} {op : Op} {K : AV → Prop} (h : pop P st op K) : ∃ x, K x ∧ Yields P st op x := by
  unfold pop at h
  split at h
  · obtain ⟨a, ha, hK⟩ := withAV_elim h
    exact ⟨a, hK, fun F ac w m hr hm => ⟨fun o ho => by simp [execOp, ho, hr.eval ha], hm.ok ha⟩⟩
  · obtain ⟨a, ha, hK⟩ := withAV_elim h
    exact ⟨a, hK, fun F ac w m hr hm => ⟨fun o ho => by simp [execOp, ho, hr.eval ha], hm.ok ha⟩⟩
  · rename_i c x y
    obtain ⟨a, ha, hK⟩ := withAV_elim h
    unfold pickK at hK
    split at hK
    · rename_i t
      by_cases ht : t = true
      · subst ht
        rw [if_pos rfl] at hK
        obtain ⟨z, hz, hK⟩ := withAV_elim hK
        refine ⟨z, hK, fun F ac w m hr hm => ⟨fun o ho => ?_, hm.ok hz⟩⟩
        have hv := hr.eval ha
        simp only [AV.val] at hv
        simp [execOp, ho, hv, asBool, hr.eval hz]
      · have ht' : t = false := by simpa using ht
        subst ht'
        rw [if_neg ht] at hK
        obtain ⟨z, hz, hK⟩ := withAV_elim hK
        refine ⟨z, hK, fun F ac w m hr hm => ⟨fun o ho => ?_, hm.ok hz⟩⟩
        have hv := hr.eval ha
        simp only [AV.val] at hv
        simp [execOp, ho, hv, asBool, hr.eval hz]
    · exact hK.elim
  · obtain ⟨a, ha, hK⟩ := withAV_elim h
    obtain ⟨b, hb, hK⟩ := withAV_elim hK
    exact binK_sound ha hb hK
  · obtain ⟨a, ha, hK⟩ := withAV_elim h; exact unK_sound ha hK
  · obtain ⟨a, ha, hK⟩ := withAV_elim h; exact loadK_sound ha hK
  · obtain ⟨a, ha, hK⟩ := withAV_elim h; exact fieldAddrK_sound ha hK
  · obtain ⟨a, ha, hK⟩ := withAV_elim h
    obtain ⟨b, hb, hK⟩ := withAV_elim hK
    exact indexAddrK_sound ha hb hK
  · obtain ⟨a, ha, hK⟩ := withAV_elim h
    obtain ⟨b, hb, hK⟩ := withAV_elim hK
    exact indexK_sound ha hb hK
  · obtain ⟨a, ha, hK⟩ := withAV_elim h; exact fieldK_sound ha hK
  · obtain ⟨a, ha, hK⟩ := withAV_elim h; exact extractK_sound ha hK
  · obtain ⟨a, ha, hK⟩ := withAV_elim h; exact cvtK_sound ha hK
  · obtain ⟨a, ha, hK⟩ := withAV_elim h; exact mkIfcK_sound ha hK
  · exact mkFnK_sound h
  · obtain ⟨a, ha, hK⟩ := withAV_elim h; exact nilCheckK_sound ha hK
  · rename_i c
    obtain ⟨callee, args, argTypes⟩ := c
    unfold callK at h
    split at h
    · rename_i hc
      simp only at hc
      subst hc
      split at h
      · rename_i x t hx ht
        obtain ⟨a, ha, hK⟩ := withAV_elim h
        have e1 : args = #[x] := by apply Array.ext'; simpa using hx
        have e2 : argTypes = #[t] := by apply Array.ext'; simpa using ht
        subst e1; subst e2
        exact lenK_sound ha hK
      · exact h.elim
    · exact h.elim
  · exact h.elim
end
end Go.AL
