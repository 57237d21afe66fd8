/- What the pure operations yield: arithmetic, tests, and all of them together. -/
import Derived.Test.YtkoachnlimebaaaGreatDoorCAL3
namespace Go.AL
section
variable {P : Program}

theorem unK_sound {st : St} {op : UnOp} {t : TypeId} {o : Operand} {a : AV} {K : AV → Prop} (he : st.ev o = some a) (h : unK op a K) : ∃ x, K x ∧ Yields P st (.unOp op t o) x := by
  unfold unK at h
  split at h
  · refine ⟨_, h, fun F ac w m hr hm => ⟨fun op ho => ?_, trivial⟩⟩
    have hv := hr.eval he
    simp only [AV.val] at hv
    simp [execOp, ho, hv, Op.unary, AV.val]
  · refine ⟨_, h, fun F ac w m hr hm => ⟨fun op ho => ?_, trivial⟩⟩
    have hv := hr.eval he
    simp only [AV.val] at hv
    simp [execOp, ho, hv, Op.unary, Op.intArith, AV.val]
  · exact h.elim

theorem yields_bin {st : St} {op : BinOp} {t t' : TypeId} {x y : Operand} {a b : AV} {r : AV} (ha : st.ev x = some a) (hb : st.ev y = some b)
    (hrun : ∀ (F : Fr) (ac : Act) (w : World) (m : Mem), Rel F st ac w → RelM F st ac w m → (eqGuard op t x y a.val b.val).run P w = .ok () w ∧ (binOp op t a.val b.val).run P w = .ok r.val w ∧ r.ok m) : Yields P st (.binOp op t x y t') r := by
  intro F ac w m hr hm
  obtain ⟨h1, h2, h3⟩ := hrun F ac w m hr hm
  refine ⟨fun o ho => ?_, h3⟩
  simp only [execOp, ho, hr.eval ha, hr.eval hb, Sem.run_bind, h1, Result.andThen_ok, h2, Sem.run_pure]

theorem intK_sound {op : BinOp} {t : TypeId} {k : IntKind} {x y : Int} {K : AV → Prop} (h : intK op k x y K) :
    ∃ r, K (.v r) ∧ ∀ w, (binOp op t (.int k x) (.int k y)).run P w = .ok r w := by
  cases op <;> simp only [intK] at h
  case quo => exact ⟨_, h.2, fun w => by simp [binOp, Op.intDiv, h.1]⟩
  case rem => exact ⟨_, h.2, fun w => by simp [binOp, Op.intDiv, h.1]⟩
  case eql => exact ⟨_, h, fun w => by simp [binOp, Op.intCmp, Bool.beq_eq_decide_eq]⟩
  case neq => exact ⟨_, h, fun w => by simp [binOp, Op.intCmp, bne, Bool.beq_eq_decide_eq]⟩
  all_goals exact ⟨_, h, fun w => by simp [binOp, Op.intArith, Op.intCmp]⟩

theorem bytes_eq (a b : ByteArray) : (a.toList == b.toList) = decide (a = b) := by
  rw [← beq_toListBytes]
  rcases hb : (a == b) with _ | _
  · have : a ≠ b := fun e => by rw [(MapKept.bytes_beq a b).2 e] at hb; cases hb
    simp [this]
  · simp [(MapKept.bytes_beq a b).1 hb]

theorem bytes_eq' (a b : ByteArray) : (a == b) = decide (a = b) := by rw [beq_toListBytes, bytes_eq]

theorem strK_sound {op : BinOp} {t : TypeId} {x y : ByteArray} {K : AV → Prop} (h : strK op x y K) :
    ∃ r, K (.v r) ∧ ∀ w, (binOp op t (.string x) (.string y)).run P w = .ok r w := by
  cases op <;> simp only [strK] at h
  case add =>
    refine ⟨_, h.2, fun w => ?_⟩
    have : ¬ (((x.size + y.size : Nat) : Int) > IntKind.i64.max) := by have := h.1; simp [IntKind.max, IntKind.signed, IntKind.bits]; omega
    simp only [binOp, Op.stringOp]
    rw [if_neg this]; rfl
  case eql => exact ⟨_, h, fun w => by simp [binOp, Op.stringOp, bytes_eq]⟩
  case neq => exact ⟨_, h, fun w => by simp [binOp, Op.stringOp, bytes_eq]⟩
  all_goals exact ⟨_, h, fun w => by simp [binOp, Op.stringOp]⟩

theorem eqGuard_plain {op : BinOp} {t : TypeId} {x y : Operand} {a b : Value} {w : World} (h : (∃ k n, a = .int k n) ∨ (∃ s, a = .string s) ∨ (∃ s, a = .bool s) ∨ (∃ s, a = .pointer s) ∨ (∃ t v, a = .iface t v)) : (eqGuard op t x y a b).run P w = .ok () w := by
  rcases h with ⟨k, n, rfl⟩ | ⟨s, rfl⟩ | ⟨s, rfl⟩ | ⟨s, rfl⟩ | ⟨t, v, rfl⟩ <;> cases op <;> simp [eqGuard]

theorem eqB_sound {op : BinOp} {t : TypeId} {a b : Value} {r : Bool} {K : AV → Prop} (h : eqB op r K)
    (h1 : binOp .eql t a b = Sem.bind (Op.equal t a b) (fun r => .pure (.bool r))) (h2 : binOp .neq t a b = Sem.bind (Op.equal t a b) (fun r => .pure (.bool !r)))
    (he : ∀ d w, (Op.equalIn (d + 1) t a b).run P w = .ok r w) : ∃ x, K (.v x) ∧ ∀ w, (binOp op t a b).run P w = .ok x w := by
  have he' : ∀ w, (Op.equal t a b).run P w = .ok r w := fun w => he 9999 w
  cases op <;> simp only [eqB] at h
  case eql => exact ⟨_, h, fun w => by rw [h1]; show (Op.equal t a b >>= fun r => Sem.pure (Value.bool r)).run P w = _; simp only [Sem.run_bind, he', Result.andThen_ok]; rfl⟩
  case neq => exact ⟨_, h, fun w => by rw [h2]; show (Op.equal t a b >>= fun r => Sem.pure (Value.bool !r)).run P w = _; simp only [Sem.run_bind, he', Result.andThen_ok]; rfl⟩

theorem eqGuard_slice {op : BinOp} {t : TypeId} {x y : Operand} {o : Option Addr} {n c : Nat} {b : Value} {w : World} : (eqGuard op t x y (.slice o n c) b).run P w = .ok () w := by
  cases op <;> simp [eqGuard]
theorem sliceNil_sound {op : BinOp} {t e : TypeId} {o : Option Addr} {n c : Nat} {K : AV → Prop} (hu : P.underlying t = some (.slice e)) (h : eqB op (nilB (.slice o n c)) K) :
    ∃ x, K (.v x) ∧ ∀ w, (binOp op t (.slice o n c) (.slice none 0 0)).run P w = .ok x w := by
  refine eqB_sound h rfl rfl (fun d w => ?_)
  cases o <;> simp [Op.equalIn, run_underlying hu, nilB]

theorem eqF_sound {d : Nat} {t : TypeId} {a b : AV} {r : Bool} {w : World} (h : eqF (kindT P t) a b = some r) : (Op.equalIn (d + 1) t a.val b.val).run P w = .ok r w ∧ aggT P t = false ∧ kindT P t ≠ .oth := by
  unfold eqF at h
  split at h
  · rename_i k0 k x k' y hk
    split at h
    · rename_i e; subst e
      obtain rfl := Option.some.inj h
      have hu := kind_i hk
      exact ⟨by simp [Op.equalIn, AV.val, run_underlying hu, Bool.beq_eq_decide_eq], by simp [aggT, hk], by simp [hk]⟩
    · cases h
  · rename_i x y hk
    obtain rfl := Option.some.inj h
    have hu := kind_b hk
    exact ⟨by simp [Op.equalIn, AV.val, run_underlying hu, Bool.beq_eq_decide_eq], by simp [aggT, hk], by simp [hk]⟩
  · rename_i x y hk
    obtain rfl := Option.some.inj h
    have hu := kind_s hk
    exact ⟨by simp [Op.equalIn, AV.val, run_underlying hu, bytes_eq'], by simp [aggT, hk], by simp [hk]⟩
  · cases h

theorem run_part_at {t : TypeId} {cs : Array Value} {off : Nat} {v : Value} {w : World} (h1 : aggT P t = false) (h2 : kindT P t ≠ .oth) (h : cs[off]? = some v) : (part t cs off).run P w = .ok v w := by
  simp only [part, Sem.run_bind, aggT_false h1 h2, Result.andThen_ok, Bool.false_eq_true, if_false]
  simp [h]

theorem eqS_sound {d : Nat} {w : World} : ∀ (fl : List Field) (xs ys : List AV) (k : Nat) (pre pre' : List Value) (r : Bool), fl.map (·.offset) = List.range' k fl.length → pre.length = k → pre'.length = k →
    fl.all (fun f => f.name != "_") = true → eqS P (fl.map fun f => (f.offset, f.type, (szT P f.type).getD 0)) xs ys = some r →
    (Op.eqFields (d + 1) (pre ++ AV.vals xs).toArray (pre' ++ AV.vals ys).toArray fl).run P w = .ok r w
  | [], xs, ys, k, pre, pre', r, ho, h1, h2, hn, h => by
    cases xs <;> cases ys <;> simp only [List.map_nil, eqS, Option.some.injEq, reduceCtorEq] at h
    subst h; simp [Op.eqFields]
  | f :: fl, xs, ys, k, pre, pre', r, ho, h1, h2, hn, h => by
    cases xs with
    | nil => simp [eqS] at h
    | cons x xs =>
    cases ys with
    | nil => simp [eqS] at h
    | cons y ys =>
    simp only [List.map_cons, eqS] at h
    cases ha : eqF (kindT P f.type) x y with
    | none => rw [ha] at h; cases h
    | some a =>
    cases hb : eqS P (fl.map fun f => (f.offset, f.type, (szT P f.type).getD 0)) xs ys with
    | none => rw [ha, hb] at h; cases h
    | some b =>
    rw [ha, hb] at h
    obtain rfl := Option.some.inj h
    simp only [List.map_cons, List.length_cons, List.range'_succ, List.cons.injEq] at ho
    simp only [List.all_cons, Bool.and_eq_true] at hn
    obtain ⟨e1, e2, e3⟩ := eqF_sound (P := P) (d := d) (w := w) ha
    have ih := eqS_sound (d := d) (w := w) fl xs ys (k + 1) (pre ++ [x.val]) (pre' ++ [y.val]) b ho.2 (by simp [h1]) (by simp [h2]) hn.2 hb
    have hname : f.name ≠ "_" := by simpa using hn.1
    have p1 : (part f.type (pre ++ AV.vals (x :: xs)).toArray f.offset).run P w = .ok x.val w := run_part_at e2 e3 (by rw [ho.1]; simp [h1, AV.vals])
    have p2 : (part f.type (pre' ++ AV.vals (y :: ys)).toArray f.offset).run P w = .ok y.val w := run_part_at e2 e3 (by rw [ho.1]; simp [h2, AV.vals])
    simp only [Op.eqFields, if_pos hname, Sem.run_bind, p1, p2, e1, Result.andThen_ok]
    cases a
    · simp
    · simp only [List.append_assoc, List.singleton_append] at ih
      simpa [AV.vals] using ih

theorem binK_sound {st : St} {op : BinOp} {t t' : TypeId} {x y : Operand} {a b : AV} {K : AV → Prop} (ha : st.ev x = some a) (hb : st.ev y = some b) (h : binK P op t a b K) : ∃ r, K r ∧ Yields P st (.binOp op t x y t') r := by
  unfold binK at h
  split at h
  · rename_i k n k' n'
    obtain ⟨rfl, h⟩ := h
    obtain ⟨r, hK, hrun⟩ := intK_sound (P := P) (t := t) h
    exact ⟨_, hK, yields_bin ha hb fun F ac w m hr hm => ⟨eqGuard_plain (.inl ⟨_, _, rfl⟩), hrun w, trivial⟩⟩
  · obtain ⟨r, hK, hrun⟩ := strK_sound (P := P) (t := t) h
    exact ⟨_, hK, yields_bin ha hb fun F ac w m hr hm => ⟨eqGuard_plain (.inr (.inl ⟨_, rfl⟩)), hrun w, trivial⟩⟩
  · rename_i p q
    split at h
    · rename_i hk
      have hu := kind_b hk
      obtain ⟨r, hK, hrun⟩ := eqB_sound (P := P) (t := t) (a := .bool p) (b := .bool q) h rfl rfl (fun d w => by simp [Op.equalIn, run_underlying hu])
      exact ⟨_, hK, yields_bin ha hb fun F ac w m hr hm => ⟨eqGuard_plain (.inr (.inr (.inl ⟨_, rfl⟩))), hrun w, trivial⟩⟩
    · exact h.elim
  · split at h
    · rename_i e hk
      have hu := kind_p hk
      obtain ⟨r, hK, hrun⟩ := eqB_sound (P := P) (t := t) (a := .pointer none) (b := .pointer none) h rfl rfl (fun d w => by simp [Op.equalIn, run_underlying hu])
      exact ⟨_, hK, yields_bin ha hb fun F ac w m hr hm => ⟨eqGuard_plain (.inr (.inr (.inr (.inl ⟨_, rfl⟩)))), hrun w, trivial⟩⟩
    · exact h.elim
  · rename_i p cs
    split at h
    · rename_i e hk
      have hu := kind_p hk
      have hop : op = .eql ∨ op = .neq := by cases op <;> first | exact .inl rfl | exact .inr rfl | exact h.elim
      rcases hop with rfl | rfl
      · refine ⟨_, h, yields_bin ha hb fun F ac w m hr hm => ?_⟩
        obtain ⟨bl, of_, rfl, _⟩ := (hm.ok ha).1
        obtain ⟨r, hK, hrun⟩ := eqB_sound (P := P) (t := t) (a := .pointer (some ⟨bl, of_, none⟩)) (b := .pointer none) (K := fun x => x = .v (.bool false)) (r := false) (op := .eql) rfl rfl rfl (fun d w => by simp [Op.equalIn, run_underlying hu])
        have hr' : r = .bool false := by injection hK
        subst hr'
        exact ⟨eqGuard_plain (.inr (.inr (.inr (.inl ⟨_, rfl⟩)))), hrun w, trivial⟩
      · refine ⟨_, h, yields_bin ha hb fun F ac w m hr hm => ?_⟩
        obtain ⟨bl, of_, rfl, _⟩ := (hm.ok ha).1
        obtain ⟨r, hK, hrun⟩ := eqB_sound (P := P) (t := t) (a := .pointer (some ⟨bl, of_, none⟩)) (b := .pointer none) (K := fun x => x = .v (.bool true)) (r := false) (op := .neq) rfl rfl rfl (fun d w => by simp [Op.equalIn, run_underlying hu])
        have hr' : r = .bool true := by injection hK
        subst hr'
        exact ⟨eqGuard_plain (.inr (.inr (.inr (.inl ⟨_, rfl⟩)))), hrun w, trivial⟩
    · exact h.elim
  · rename_i ad
    split at h
    · rename_i e hk
      have hu := kind_p hk
      obtain ⟨r, hK, hrun⟩ := eqB_sound (P := P) (t := t) (a := .pointer (some ad)) (b := .pointer none) h rfl rfl (fun d w => by simp [Op.equalIn, run_underlying hu])
      exact ⟨_, hK, yields_bin ha hb fun F ac w m hr hm => ⟨eqGuard_plain (.inr (.inr (.inr (.inl ⟨_, rfl⟩)))), hrun w, trivial⟩⟩
    · exact h.elim
  · rename_i xs ys
    split at h
    · rename_i fs hk
      obtain ⟨ht, h⟩ := h
      split at h
      · rename_i r hr
        obtain ⟨fl, hu, rfl⟩ := kind_st hk
        simp only [eqT, hu, Bool.and_eq_true, decide_eq_true_eq, Bool.not_eq_true'] at ht
        obtain ⟨⟨⟨hst, hgt⟩, hnm⟩, hof⟩ := ht
        have hrun : ∀ d w, (Op.equalIn (d + 1 + 1) t (AV.agg xs).val (AV.agg ys).val).run P w = .ok r w := by
          intro d w
          have hf : P.fieldsOf t = fl := by simp [Program.fieldsOf, hu]
          simp only [AV.val]
          rw [run_equalIn_struct (P := P) w (d + 1) t _ _ (by rw [hf]; exact hu) hst, hf]
          have := eqS_sound (P := P) (d := d) (w := w) fl.toList xs ys 0 [] [] r (by rw [hof, List.range_eq_range']; simp) rfl rfl hnm hr
          simpa using this
        have he : ∀ w, (Op.equal t (AV.agg xs).val (AV.agg ys).val).run P w = .ok r w := fun w => hrun 9998 w
        have hop : op = .eql ∨ op = .neq := by cases op <;> first | exact .inl rfl | exact .inr rfl | exact h.elim
        rcases hop with rfl | rfl
        · refine ⟨_, h, yields_bin ha hb fun F ac w m hr hm => ⟨by simp only [AV.val]; exact run_eqGuard_agg w .eql t x y _ _ hgt, ?_, trivial⟩⟩
          have h2 := hrun 9998 w
          simp only [AV.val] at h2 ⊢
          rw [run_eql_struct, h2]; rfl
        · refine ⟨_, h, yields_bin ha hb fun F ac w m hr hm => ⟨by simp only [AV.val]; exact run_eqGuard_agg w .neq t x y _ _ hgt, ?_, trivial⟩⟩
          have h2 := hrun 9998 w
          simp only [AV.val] at h2 ⊢
          rw [run_neq_struct, h2]; rfl
      · exact h.elim
    · exact h.elim
  · rename_i ty av
    split at h
    · rename_i hk
      obtain ⟨ms, hu⟩ := kind_ifc hk
      obtain ⟨r, hK, hrun⟩ := eqB_sound (P := P) (t := t) (a := .iface ty av.val) (b := .nilIface) h rfl rfl (fun d w => by simp [Op.equalIn, run_underlying hu])
      exact ⟨_, hK, yields_bin ha hb fun F ac w m hr hm => ⟨eqGuard_plain (.inr (.inr (.inr (.inr ⟨_, _, rfl⟩)))), hrun w, trivial⟩⟩
    · exact h.elim
  · rename_i sz hd xs
    split at h
    · rename_i e hk
      have hu := kind_sl hk
      have hop : op = .eql ∨ op = .neq := by cases op <;> first | exact .inl rfl | exact .inr rfl | exact h.elim
      rcases hop with rfl | rfl
      · refine ⟨_, h, yields_bin ha hb fun F ac w m hr hm => ?_⟩
        obtain ⟨oa, cap, he, _⟩ := (hm.ok ha).1
        subst he
        obtain ⟨r, hK, hrun⟩ := sliceNil_sound (P := P) (op := .eql) (t := t) (K := fun x => x = .v (.bool (nilB (.slice oa (AV.vals xs).length cap)))) hu rfl
        have hr' : r = .bool (nilB (.slice oa (AV.vals xs).length cap)) := by injection hK
        subst hr'
        exact ⟨eqGuard_slice, hrun w, trivial⟩
      · refine ⟨_, h, yields_bin ha hb fun F ac w m hr hm => ?_⟩
        obtain ⟨oa, cap, he, _⟩ := (hm.ok ha).1
        subst he
        obtain ⟨r, hK, hrun⟩ := sliceNil_sound (P := P) (op := .neq) (t := t) (K := fun x => x = .v (.bool !(nilB (.slice oa (AV.vals xs).length cap)))) hu rfl
        have hr' : r = .bool (!nilB (.slice oa (AV.vals xs).length cap)) := by injection hK
        subst hr'
        exact ⟨eqGuard_slice, hrun w, trivial⟩
    · exact h.elim
  · rename_i oa n c
    split at h
    · rename_i e hk
      have hu := kind_sl hk
      obtain ⟨r, hK, hrun⟩ := sliceNil_sound (P := P) (op := op) (t := t) hu h
      exact ⟨_, hK, yields_bin ha hb fun F ac w m hr hm => ⟨eqGuard_slice, hrun w, trivial⟩⟩
    · exact h.elim
  · exact h.elim

theorem cvtK_sound {st : St} {s d : TypeId} {o : Operand} {a : AV} {K : AV → Prop} (he : st.ev o = some a) (h : cvtK P s d a K) : ∃ x, K x ∧ Yields P st (.convert s d o) x := by
  unfold cvtK at h
  split at h
  · rename_i k0 k k2 n hk1 hk2
    refine ⟨_, h, fun F ac w m hr hm => ⟨fun op ho => ?_, trivial⟩⟩
    have hv := hr.eval he
    simp only [AV.val] at hv
    simp [execOp, ho, hv, convert, run_underlying (kind_i hk1), run_underlying (kind_i hk2), Conv.intToInt, AV.val]
  · rename_i x hk1 hk2
    refine ⟨_, h, fun F ac w m hr hm => ⟨fun op ho => ?_, trivial⟩⟩
    have hv := hr.eval he
    simp only [AV.val] at hv
    simp [execOp, ho, hv, convert, run_underlying (kind_s hk1), run_underlying (kind_s hk2), AV.val]
  · rename_i k0 k n hk1 hk2
    refine ⟨_, h, fun F ac w m hr hm => ⟨fun op ho => ?_, trivial⟩⟩
    have hv := hr.eval he
    simp only [AV.val] at hv
    simp [execOp, ho, hv, run_convert_int_string w _ _ _ _ (by rw [kind_i hk1]; rfl) (kind_s hk2), AV.val]
  · exact h.elim

theorem nilCheckK_sound {st : St} {o : Operand} {a : AV} {K : AV → Prop} (he : st.ev o = some a) (h : nilCheckK a K) : ∃ x, K x ∧ Yields P st (.nilCheck o) x := by
  unfold nilCheckK at h
  split at h
  · rename_i p cs
    refine ⟨_, h, fun F ac w m hr hm => ⟨fun op ho => ?_, hm.ok he⟩⟩
    have hv := hr.eval he
    obtain ⟨b, off, rfl, _⟩ := (hm.ok he).1
    simp only [AV.val] at hv
    simp [execOp, ho, hv, AV.val]
  · refine ⟨_, h, fun F ac w m hr hm => ⟨fun op ho => ?_, trivial⟩⟩
    have hv := hr.eval he
    simp only [AV.val] at hv
    simp [execOp, ho, hv, AV.val]
  · refine ⟨_, h, fun F ac w m hr hm => ⟨fun op ho => ?_, hm.ok he⟩⟩
    have hv := hr.eval he
    simp only [AV.val] at hv
    simp [execOp, ho, hv, AV.val]
  · exact h.elim

theorem mkIfcK_sound {st : St} {t : TypeId} {o : Operand} {a : AV} {K : AV → Prop} (he : st.ev o = some a) (h : mkIfcK P t a K) : ∃ x, K x ∧ Yields P st (.makeInterface t o) x := by
  have hk : kindT P t ≠ .oth := by intro hk; simp [mkIfcK, hk] at h
  have hi : kindT P t ≠ .ifc := by intro hk; simp [mkIfcK, hk] at h
  have hK : K (.ifc t a) := by unfold mkIfcK at h; split at h <;> first | exact h.elim | exact h
  obtain ⟨d, hu⟩ := kind_some hk
  refine ⟨_, hK, fun F ac w m hr hm => ⟨fun op ho => ?_, show a.ok m from hm.ok he⟩⟩
  have hv := hr.eval he
  have hd : ∀ ms, d ≠ .interface ms := by intro ms e; subst e; exact hi (by simp [kindT, hu])
  have : (Instr.makeInterface t a.val).run P w = .ok (.iface t a.val) w := by
    simp only [Instr.makeInterface, Sem.run_bind, run_underlying hu, Result.andThen_ok]
    cases d <;> first | rfl | exact absurd rfl (hd _)
  simp only [execOp, ho, hv, Sem.run_bind, this, Result.andThen_ok, Sem.run_pure, AV.val]

theorem evs_sound {st : St} {F : Fr} {ac : Act} {w : World} {m : Mem} (hr : Rel F st ac w) (hm : RelM F st ac w m) :
    ∀ (l : List Operand) (xs : List AV), l.mapM st.ev = some xs → l.map ac.eval = AV.vals xs ∧ AV.oks m xs
  | [], xs, h => by simp at h; subst h; exact ⟨rfl, trivial⟩
  | o :: l, xs, h => by
    simp only [List.mapM_cons, Option.bind_eq_bind, Option.bind_eq_some_iff] at h
    obtain ⟨x, hx, ys, hy, e⟩ := h
    simp at e; subst e
    obtain ⟨h1, h2⟩ := evs_sound hr hm l ys hy
    exact ⟨by simp [AV.vals, hr.eval hx, h1], hm.ok hx, h2⟩

theorem evs_arr {st : St} {F : Fr} {ac : Act} {w : World} {m : Mem} (hr : Rel F st ac w) (hm : RelM F st ac w m) {l : Array Operand} {xs : List AV} (h : evs st l = some xs) :
    l.map ac.eval = (AV.vals xs).toArray ∧ AV.oks m xs := by
  obtain ⟨h1, h2⟩ := evs_sound hr hm l.toList xs h
  refine ⟨?_, h2⟩
  rw [← h1]; apply Array.ext'; simp

theorem mkFnK_sound {st : St} {f : Fn} {a b : Array Operand} {K : AV → Prop} (h : mkFnK st f a b K) : ∃ x, K x ∧ Yields P st (.makeFunc f a b) x := by
  unfold mkFnK at h
  split at h
  · rename_i x y hx hy
    refine ⟨_, h, fun F ac w m hr hm => ?_⟩
    obtain ⟨e1, o1⟩ := evs_arr hr hm hx
    obtain ⟨e2, o2⟩ := evs_arr hr hm hy
    refine ⟨fun op ho => ?_, o1, o2⟩
    simp [execOp, ho, Instr.makeFunc, e1, e2, AV.val]
  · exact h.elim

@[go_sem] theorem pop_move (st : St) (x : Operand) (K : AV → Prop) : pop P st (.move x) K = withAV (st.ev x) K := rfl
@[go_sem] theorem pop_assign (st : St) (x : Operand) (K : AV → Prop) : pop P st (.assign x) K = withAV (st.ev x) K := rfl
@[go_sem] theorem pop_pick (st : St) (c a b : Operand) (K : AV → Prop) : pop P st (.pick c a b) K = withAV (st.ev c) fun c => pickK c (st.ev a) (st.ev b) K := rfl
@[go_sem] theorem pop_bin (st : St) (op : BinOp) (t t' : TypeId) (x y : Operand) (K : AV → Prop) : pop P st (.binOp op t x y t') K = withAV (st.ev x) fun a => withAV (st.ev y) fun b => binK P op t a b K := rfl
@[go_sem] theorem pop_un (st : St) (op : UnOp) (t : TypeId) (x : Operand) (K : AV → Prop) : pop P st (.unOp op t x) K = withAV (st.ev x) fun a => unK op a K := rfl
@[go_sem] theorem pop_load (st : St) (t : TypeId) (x : Operand) (K : AV → Prop) : pop P st (.load t x) K = withAV (st.ev x) fun a => loadK P st.hp t a K := rfl
@[go_sem] theorem pop_fieldAddr (st : St) (t : TypeId) (x : Operand) (f : Nat) (K : AV → Prop) : pop P st (.fieldAddr t x f) K = withAV (st.ev x) fun a => fieldAddrK P t a f K := rfl
@[go_sem] theorem pop_indexAddr (st : St) (t : TypeId) (x i : Operand) (K : AV → Prop) : pop P st (.indexAddr t x i) K = withAV (st.ev x) fun a => withAV (st.ev i) fun i => indexAddrK P t a i K := rfl
@[go_sem] theorem pop_index (st : St) (t : TypeId) (x i : Operand) (K : AV → Prop) : pop P st (.index t x i) K = withAV (st.ev x) fun a => withAV (st.ev i) fun i => indexK P t a i K := rfl
@[go_sem] theorem pop_field (st : St) (t : TypeId) (x : Operand) (f : Nat) (K : AV → Prop) : pop P st (.field t x f) K = withAV (st.ev x) fun a => fieldK P t a f K := rfl
@[go_sem] theorem pop_extract (st : St) (x : Operand) (i : Nat) (K : AV → Prop) : pop P st (.extract x i) K = withAV (st.ev x) fun a => extractK a i K := rfl
@[go_sem] theorem pop_convert (st : St) (s d : TypeId) (x : Operand) (K : AV → Prop) : pop P st (.convert s d x) K = withAV (st.ev x) fun a => cvtK P s d a K := rfl
@[go_sem] theorem pop_mkIfc (st : St) (t : TypeId) (x : Operand) (K : AV → Prop) : pop P st (.makeInterface t x) K = withAV (st.ev x) fun a => mkIfcK P t a K := rfl
@[go_sem] theorem pop_mkFn (st : St) (f : Fn) (a b : Array Operand) (K : AV → Prop) : pop P st (.makeFunc f a b) K = mkFnK st f a b K := rfl
@[go_sem] theorem pop_nilCheck (st : St) (x : Operand) (K : AV → Prop) : pop P st (.nilCheck x) K = withAV (st.ev x) fun a => nilCheckK a K := rfl
@[go_sem] theorem pop_len (st : St) (x : Operand) (t : TypeId) (K : AV → Prop) : pop P st (.call { callee := .builtin .len, args := #[x], argTypes := #[t] }) K = withAV (st.ev x) fun a => lenK P st.hp t a K := rfl

theorem pop_sound {st : St} {op : Op} {K : AV → Prop} (h : pop P st op K) : ∃ x, K x ∧ Yields P st op x := by
  unfold pop at h
  split at h
  · obtain ⟨a, ha, hK⟩ := withAV_elim h
    exact ⟨a, hK, fun F ac w m hr hm => ⟨fun o ho => by simp [execOp, ho, hr.eval ha], hm.ok ha⟩⟩
  · obtain ⟨a, ha, hK⟩ := withAV_elim h
    exact ⟨a, hK, fun F ac w m hr hm => ⟨fun o ho => by simp [execOp, ho, hr.eval ha], hm.ok ha⟩⟩
  · rename_i c x y
    obtain ⟨a, ha, hK⟩ := withAV_elim h
    unfold pickK at hK
    split at hK
    · rename_i t
      by_cases ht : t = true
      · subst ht
        rw [if_pos rfl] at hK
        obtain ⟨z, hz, hK⟩ := withAV_elim hK
        refine ⟨z, hK, fun F ac w m hr hm => ⟨fun o ho => ?_, hm.ok hz⟩⟩
        have hv := hr.eval ha
        simp only [AV.val] at hv
        simp [execOp, ho, hv, asBool, hr.eval hz]
      · have ht' : t = false := by simpa using ht
        subst ht'
        rw [if_neg ht] at hK
        obtain ⟨z, hz, hK⟩ := withAV_elim hK
        refine ⟨z, hK, fun F ac w m hr hm => ⟨fun o ho => ?_, hm.ok hz⟩⟩
        have hv := hr.eval ha
        simp only [AV.val] at hv
        simp [execOp, ho, hv, asBool, hr.eval hz]
    · exact hK.elim
  · obtain ⟨a, ha, hK⟩ := withAV_elim h
    obtain ⟨b, hb, hK⟩ := withAV_elim hK
    exact binK_sound ha hb hK
  · obtain ⟨a, ha, hK⟩ := withAV_elim h; exact unK_sound ha hK
  · obtain ⟨a, ha, hK⟩ := withAV_elim h; exact loadK_sound ha hK
  · obtain ⟨a, ha, hK⟩ := withAV_elim h; exact fieldAddrK_sound ha hK
  · obtain ⟨a, ha, hK⟩ := withAV_elim h
    obtain ⟨b, hb, hK⟩ := withAV_elim hK
    exact indexAddrK_sound ha hb hK
  · obtain ⟨a, ha, hK⟩ := withAV_elim h
    obtain ⟨b, hb, hK⟩ := withAV_elim hK
    exact indexK_sound ha hb hK
  · obtain ⟨a, ha, hK⟩ := withAV_elim h; exact fieldK_sound ha hK
  · obtain ⟨a, ha, hK⟩ := withAV_elim h; exact extractK_sound ha hK
  · obtain ⟨a, ha, hK⟩ := withAV_elim h; exact cvtK_sound ha hK
  · obtain ⟨a, ha, hK⟩ := withAV_elim h; exact mkIfcK_sound ha hK
  · exact mkFnK_sound h
  · obtain ⟨a, ha, hK⟩ := withAV_elim h; exact nilCheckK_sound ha hK
  · rename_i c
    obtain ⟨callee, args, argTypes⟩ := c
    unfold callK at h
    split at h
    · rename_i hc
      simp only at hc
      subst hc
      split at h
      · rename_i x t hx ht
        obtain ⟨a, ha, hK⟩ := withAV_elim h
        have e1 : args = #[x] := by apply Array.ext'; simpa using hx
        have e2 : argTypes = #[t] := by apply Array.ext'; simpa using ht
        subst e1; subst e2
        exact lenK_sound ha hK
      · exact h.elim
    · exact h.elim
  · exact h.elim
end
end Go.AL
/- Regions: operations one behind the other, guards, calls. -/
namespace Go.AL
section
variable {P : Program}

def dstOk (st : St) (d : Option Nat) : Prop := match d with | some d => d < st.n | none => True
@[go_sem] theorem dstOk_some (st : St) (d : Nat) : dstOk st (some d) = (d < st.n) := rfl
@[go_sem] theorem dstOk_none (st : St) : dstOk st none = True := rfl
@[go_sem] theorem St.putO_some (st : St) (d : Nat) (x : AV) : st.putO (some d) x = st.put d x := rfl
@[go_sem] theorem St.putO_none (st : St) (x : AV) : st.putO none x = st := rfl

theorem RelM.put {F : Fr} {st : St} {a : Act} {w : World} {m : Mem} (hm : RelM F st a w m) (hn : a.tmps.size = st.n) {d : Option Nat} {x : AV} (hd : dstOk st d) (hx : x.ok m) : RelM F (st.putO d x) (a.put d x.val) w m := by
  cases d with
  | none => exact hm
  | some d =>
    refine ⟨hm.le, hm.hp, fun i y hy => ?_⟩
    simp only [St.putO, St.put] at hy
    simp only [Act.put]
    by_cases hi : i = d
    · subst hi
      rw [if_pos rfl] at hy
      obtain rfl := Option.some.inj hy
      have hlt : i < a.tmps.size := by rw [hn]; exact hd
      exact ⟨by rw [Array.getElem?_setIfInBounds_self_of_lt hlt], hx⟩
    · rw [if_neg hi] at hy
      have := hm.sl i y hy
      exact ⟨by rw [Array.getElem?_setIfInBounds_ne (by omega)]; exact this.1, this.2⟩

theorem Act.put_defers (a : Act) (d : Option Nat) (v : Value) : (a.put d v).defers = a.defers := by cases d <;> rfl
theorem Act.put_size (a : Act) (d : Option Nat) (v : Value) : (a.put d v).tmps.size = a.tmps.size := by cases d <;> simp [Act.put]
theorem St.putO_n (st : St) (d : Option Nat) (x : AV) : (st.putO d x).n = st.n := by cases d <;> rfl
theorem St.putO_hp (st : St) (d : Option Nat) (x : AV) : (st.putO d x).hp = st.hp := by cases d <;> rfl

theorem Rel.putM {F : Fr} {st : St} {a : Act} {w : World} {m : Mem} (hr : Rel F st a w) (hm : RelM F st a w m) {d : Option Nat} {x : AV} (hd : dstOk st d) (hx : x.ok m) : Rel F (st.putO d x) (a.put d x.val) w :=
  ⟨hr.lo, by rw [Act.put_defers]; exact hr.df, by rw [Act.put_size, St.putO_n]; exact hr.n, m, hm.put hr.n hd hx⟩

/-- A pure operation. -/
theorem aop_pure {o : Oper} {K : St → Prop} {st : St} (h : pop P st o.op fun x => dstOk st o.dst ∧ K (st.putO o.dst x)) : AOp P o K st := by
  obtain ⟨x, ⟨hd, hK⟩, hy⟩ := pop_sound h
  intro F a w hr K' Q hK'
  obtain ⟨m, hm⟩ := hr.ex
  obtain ⟨h1, h2⟩ := hy F a w m hr hm
  unfold Oper.wp
  rw [h1 o rfl]
  exact hK' _ _ ⟨_, hK, hr.putM hm hd h2⟩

/-! ### Guards -/
def boolV : Value → Option Bool | .bool b => some b | _ => none

theorem yielded_eq {F : Fr} {st : St} {a : Act} {w : World} (hr : Rel F st a w) {ops : Array Oper} {j d : Nat} (hj : (ops[j]?).bind (·.dst) = some d) {x : Value} (hx : st.sl d = some (.v x)) :
    yielded ops a.tmps j = boolV x := by
  obtain ⟨m, hm⟩ := hr.ex
  have := (hm.sl d _ hx).1
  simp only [yielded, hj, Option.bind_some, this, AV.val]
  cases x <;> rfl

/-- The operation is carried out. -/
theorem al_run {ops : Array Oper} {K : St → Prop} {st : St} {o : Oper} {rest : List Oper} {j d : Nat} {want : Bool} (hg : o.guard = some (j, want)) (hj : (ops[j]?).bind (·.dst) = some d)
    (hx : st.sl d = some (.v (.bool want))) (h : AOp P o (fun st => AList P ops rest K st) st) : AList P ops (o :: rest) K st := by
  intro F a w hr Q hQ
  refine wpList_step fun K' hK => ?_
  have hw : Region.wanted o (yielded ops a.tmps) = true := by simp [Region.wanted, hg, yielded_eq hr hj hx, boolV]
  rw [if_pos hw]
  refine h F a w hr K' Q ?_
  rintro a' w' ⟨st', k, r⟩
  exact hK a' w' (k F a' w' r Q hQ)

/-- The operation is left out. -/
theorem al_skip {ops : Array Oper} {K : St → Prop} {st : St} {o : Oper} {rest : List Oper} {j d : Nat} {want : Bool} (hg : o.guard = some (j, want)) (hj : (ops[j]?).bind (·.dst) = some d)
    {x : Value} (hx : st.sl d = some (.v x)) (hne : x ≠ .bool want) (hd : dstOk st o.dst) (h : AList P ops rest K (st.putO o.dst (.v undef))) : AList P ops (o :: rest) K st := by
  intro F a w hr Q hQ
  refine wpList_step fun K' hK => ?_
  have hw : Region.wanted o (yielded ops a.tmps) = false := by
    simp only [Region.wanted, hg, yielded_eq hr hj hx]
    cases x <;> simp [boolV]
    intro e; exact hne (by rw [e])
  rw [if_neg (by simp [hw])]
  obtain ⟨m, hm⟩ := hr.ex
  exact hK _ _ (h F _ w (hr.putM hm hd (x := .v undef) trivial) Q hQ)


/-- Keeps simp out of 'a': a type hangs on it. -/
structure Fix.{u} {α : Sort u} (a : α) : Type where

/-! ### Calls -/
theorem ACalls.mono {f : FuncId} {args : List AV} {hp : Hp} {R R' : AV → Hp → Prop} (h : ACalls P f args hp R) (hR : ∀ r hp', R r hp' → R' r hp') : ACalls P f args hp R' :=
  ⟨h.1, fun F w hr => (h.2 F w hr).mono fun _ _ ⟨r, hp', h1, h2, h3⟩ => ⟨r, hp', hR _ _ h1, h2, h3⟩⟩

/-- A call that stands to be met. -/
def callX (P : Program) (f : FuncId) (args : List AV) (hp : Hp) (R : AV → Hp → Prop) (_ : Fix R) : Prop := ACalls P f args hp R
theorem callX_by {f : FuncId} {args : List AV} {hp : Hp} {R R' : AV → Hp → Prop} {d : Fix R'} (h : ACalls P f args hp R) (hR : ∀ r hp', R r hp' → R' r hp') : callX P f args hp R' d := h.mono hR
theorem Lo.trans {F : Fr} {w w' : World} {m : Mem} (h : Lo F w) (h' : Lo ⟨m, w, F.base⟩ w') : Lo F w' :=
  ⟨h'.os.trans h.os, h'.tape.trans h.tape, h'.output.trans h.output, Nat.le_trans h.size h'.size, fun k hk => (h'.low k hk).trans (h.low k hk), h'.bs⟩

theorem Lo.self (m : Mem) (w : World) (base : Nat) (h : base ≤ w.heap.size) : Lo ⟨m, w, base⟩ w := ⟨rfl, rfl, rfl, Nat.le_refl _, fun _ _ => rfl, h⟩

/-- What a value that is called comes to: the function and the arguments that go ahead and behind. -/
def calleeOf : AV → Option (FuncId × List AV × List AV)
  | .v (.func (.func f) a b) => some (f, a.toList.map AV.v, b.toList.map AV.v)
  | .fn (.func f) a b => some (f, a, b)
  | _ => none

theorem map_v_vals (l : List Value) : AV.vals (l.map AV.v) = l := by simp [AV.vals_eq, Function.comp_def, AV.val]
theorem map_v_oks (m : Mem) (l : List Value) : AV.oks m (l.map AV.v) := by
  rw [AV.oks_iff]; intro a ha; obtain ⟨z, _, rfl⟩ := List.mem_map.1 ha; trivial

theorem calleeOf_val {x : AV} {f : FuncId} {a b : List AV} (h : calleeOf x = some (f, a, b)) : x.val = .func (.func f) (AV.vals a).toArray (AV.vals b).toArray ∧ ∀ m, x.ok m → AV.oks m a ∧ AV.oks m b := by
  unfold calleeOf at h
  split at h
  · simp only [Option.some.injEq, Prod.mk.injEq] at h
    obtain ⟨rfl, rfl, rfl⟩ := h
    exact ⟨by simp [AV.val, map_v_vals], fun m _ => ⟨map_v_oks _ _, map_v_oks _ _⟩⟩
  · simp only [Option.some.injEq, Prod.mk.injEq] at h
    obtain ⟨rfl, rfl, rfl⟩ := h
    exact ⟨rfl, fun m h => h⟩
  · cases h

theorem AV.oks_append {m : Mem} {l k : List AV} (h : AV.oks m l) (h' : AV.oks m k) : AV.oks m (l ++ k) := by
  rw [AV.oks_iff] at *; intro a ha; rcases List.mem_append.1 ha with h1 | h1
  · exact h a h1
  · exact h' a h1

def aval (P : Program) (o : Oper) (f : Operand) (args : Array Operand) (K : St → Prop) (st : St) : Prop :=
  match st.ev f, evs st args with
  | some fv, some xs => (match calleeOf fv with
    | some (k, a, b) => dstOk st o.dst ∧ callX P k (a ++ xs ++ b) st.hp (fun r hp' => K ((st.setHp hp').putO o.dst r)) ⟨⟩
    | none => False)
  | _, _ => False

theorem run_callFunc {w : World} {f : FuncId} {args : Array Value} (h : Callable P f) : (callFunc f args).run P w = .ok (.enter f args) w := by
  obtain ⟨fn, hf, h1, h2⟩ := h
  simp only [callFunc, Sem.run_bind, run_program, Result.andThen_ok, hf]
  rw [if_neg (by simpa using h1), if_neg (by simp [h2])]
  rfl

theorem aop_call {o : Oper} {f : Operand} {args : Array Operand} {ts : Array TypeId} (ho : o.op = .call { callee := .value f, args := args, argTypes := ts }) {K : St → Prop} {st : St}
    (h : aval P o f args K st) : AOp P o K st := by
  unfold aval at h
  split at h
  · rename_i fv xs hf hxs
    split at h
    · rename_i k a b hc
      obtain ⟨hd, hcall⟩ := h
      intro F ac w hr K' Q hK'
      obtain ⟨m, hm⟩ := hr.ex
      obtain ⟨hv, hoks⟩ := calleeOf_val hc
      obtain ⟨e1, o1⟩ := evs_arr hr hm hxs
      obtain ⟨oa, ob⟩ := hoks m (hm.ok hf)
      unfold Oper.wp
      have hrun : (execOp ac.eval o).run P w = .ok (.enter k (AV.vals (a ++ xs ++ b)).toArray) w := by
        simp only [execOp, ho, resolve, hr.eval hf, hv, Deferred.ofValue, Sem.run_bind, Sem.run_pure, Result.andThen_ok, invoke, e1, run_callFunc hcall.1]
        simp [AV.vals_append]
      rw [hrun]
      simp only [Oper.upon]
      refine (hcall.2 ⟨m, w, F.base⟩ w ⟨Lo.self _ _ _ hr.lo.bs, m, Mem.le_refl m, hm.hp, AV.oks_append (AV.oks_append oa o1) ob⟩).mono ?_
      rintro e w' ⟨r, hp', hKr, rfl, hlo, m', hle, hhp, hro, _⟩
      refine hK' _ _ ⟨_, hKr, hr.lo.trans hlo, by rw [Act.put_defers]; exact hr.df, by rw [Act.put_size, St.putO_n]; exact hr.n, m', ?_⟩
      have hm2 : RelM F (st.setHp hp') ac w' m' := ⟨Mem.le_trans hm.le hle, hhp, fun i x hx => ⟨(hm.sl i x hx).1, AV.ok_mono hle x (hm.sl i x hx).2⟩⟩
      exact hm2.put hr.n hd hro
    · exact h.elim
  · exact h.elim
end
end Go.AL
/- What is tracked of the heap, and how new blocks, stores and publishing turn it. -/
namespace Go.AL

def Hp.setBlk (hp : Hp) (b : Nat) (T : TypeId) (cs : List AV) : Hp := { hp with blk := fun i => if i = b then some (T, cs) else hp.blk i }
def Hp.delBlk (hp : Hp) (b : Nat) : Hp := { hp with blk := fun i => if i = b then none else hp.blk i }
def Hp.setMp (hp : Hp) (b : Nat) (es : List (Value × AV)) : Hp := { hp with mp := fun i => if i = b then some es else hp.mp i }
def Hp.setSp (hp : Hp) (l : List (TypeId × Nat × Value)) : Hp := { hp with sp := l }
@[go_sem] theorem Hp.setBlk_blk (hp : Hp) (b : Nat) (T : TypeId) (cs : List AV) (i : Nat) : (hp.setBlk b T cs).blk i = if i = b then some (T, cs) else hp.blk i := rfl
@[go_sem] theorem Hp.setBlk_mp (hp : Hp) (b : Nat) (T : TypeId) (cs : List AV) : (hp.setBlk b T cs).mp = hp.mp := rfl
@[go_sem] theorem Hp.setBlk_sp (hp : Hp) (b : Nat) (T : TypeId) (cs : List AV) : (hp.setBlk b T cs).sp = hp.sp := rfl
@[go_sem] theorem Hp.delBlk_blk (hp : Hp) (b i : Nat) : (hp.delBlk b).blk i = if i = b then none else hp.blk i := rfl
@[go_sem] theorem Hp.delBlk_mp (hp : Hp) (b : Nat) : (hp.delBlk b).mp = hp.mp := rfl
@[go_sem] theorem Hp.delBlk_sp (hp : Hp) (b : Nat) : (hp.delBlk b).sp = hp.sp := rfl
@[go_sem] theorem Hp.setMp_blk (hp : Hp) (b : Nat) (es : List (Value × AV)) : (hp.setMp b es).blk = hp.blk := rfl
@[go_sem] theorem Hp.setMp_mp (hp : Hp) (b : Nat) (es : List (Value × AV)) (i : Nat) : (hp.setMp b es).mp i = if i = b then some es else hp.mp i := rfl
@[go_sem] theorem Hp.setMp_sp (hp : Hp) (b : Nat) (es : List (Value × AV)) : (hp.setMp b es).sp = hp.sp := rfl
@[go_sem] theorem Hp.setSp_blk (hp : Hp) (l : List (TypeId × Nat × Value)) : (hp.setSp l).blk = hp.blk := rfl
@[go_sem] theorem Hp.setSp_mp (hp : Hp) (l : List (TypeId × Nat × Value)) : (hp.setSp l).mp = hp.mp := rfl
@[go_sem] theorem Hp.setSp_sp (hp : Hp) (l : List (TypeId × Nat × Value)) : (hp.setSp l).sp = l := rfl
@[go_sem] theorem Hp.setSp_setSp (hp : Hp) (l l' : List (TypeId × Nat × Value)) : (hp.setSp l).setSp l' = hp.setSp l' := rfl
@[go_sem] theorem Hp.setSp_self (hp : Hp) : hp.setSp hp.sp = hp := rfl
theorem Hp.del_set (hp : Hp) (b : Nat) (T : TypeId) (cs : List AV) (h : hp.blk b = none) : (hp.setBlk b T cs).delBlk b = hp := by
  cases hp with | mk blk mp sp gl =>
  simp only [Hp.setBlk, Hp.delBlk, Hp.mk.injEq, and_true]
  funext i; by_cases hi : i = b
  · subst hi; simp at h ⊢; exact h.symm
  · simp [hi]
@[go_sem] theorem Hp.setBlk_gl (hp : Hp) (b : Nat) (T : TypeId) (cs : List AV) : (hp.setBlk b T cs).gl = hp.gl := rfl
@[go_sem] theorem Hp.delBlk_gl (hp : Hp) (b : Nat) : (hp.delBlk b).gl = hp.gl := rfl
@[go_sem] theorem Hp.setMp_gl (hp : Hp) (b : Nat) (es : List (Value × AV)) : (hp.setMp b es).gl = hp.gl := rfl
@[go_sem] theorem Hp.setSp_gl (hp : Hp) (l : List (TypeId × Nat × Value)) : (hp.setSp l).gl = hp.gl := rfl
@[go_sem] theorem Hp.set_set (hp : Hp) (b : Nat) (T T' : TypeId) (cs cs' : List AV) : (hp.setBlk b T cs).setBlk b T' cs' = hp.setBlk b T' cs' := by
  cases hp; simp only [Hp.setBlk, Hp.mk.injEq, and_true]; funext i; by_cases hi : i = b <;> simp [hi]

def Fresh (hp : Hp) (b : Nat) : Prop := hp.blk b = none ∧ hp.mp b = none ∧ ∀ p ∈ hp.sp, blockOf p.2.2 ≠ some b

/-- Less is tracked. -/
structure Hp.le (h h' : Hp) : Prop where
  blk : ∀ b x, h.blk b = some x → h'.blk b = some x
  mp : ∀ b x, h.mp b = some x → h'.mp b = some x
  sp : h.sp.Sublist h'.sp
  gl : ∀ p ∈ h.gl, p ∈ h'.gl

theorem Hp.le_refl (h : Hp) : h.le h := ⟨fun _ _ x => x, fun _ _ x => x, List.Sublist.refl _, fun _ x => x⟩
theorem Hp.le_trans {a b c : Hp} (h : a.le b) (k : b.le c) : a.le c := ⟨fun _ _ x => k.blk _ _ (h.blk _ _ x), fun _ _ x => k.mp _ _ (h.mp _ _ x), h.sp.trans k.sp, fun _ x => k.gl _ (h.gl _ x)⟩

section
variable {base : Nat} {hp : Hp} {m : Mem} {w : World}

theorem GlOk.mono {base base' : Nat} {m m' : Mem} {w w' : World} {g : Nat} {cs : List AV} (h : GlOk base m w g cs) (hle : m.le m') (hw : g < base → g < w.heap.size → g < base' ∧ w'.heap[g]? = w.heap[g]?) : GlOk base' m' w' g cs := by
  unfold GlOk at h ⊢
  split
  · obtain ⟨h1, T, fz, h2⟩ := h
    obtain ⟨h3, h4⟩ := hw h1 (Array.getElem?_eq_some_iff.1 h2).1
    exact ⟨h3, T, fz, by rw [h4]; exact h2⟩
  · rename_i hn
    split at h
    · exact absurd rfl (hn _)
    · exact ⟨h.1.mono hle, AV.oks_mono hle _ h.2⟩
theorem GlOk.other {base : Nat} {m : Mem} {w w' : World} {b g : Nat} {cs : List AV} (h : GlOk base m w g cs) (hb : base ≤ b) (hw : ∀ k, k ≠ b → w'.heap[k]? = w.heap[k]?) : GlOk base m w' g cs :=
  h.mono (Mem.le_refl _) fun h1 _ => ⟨h1, hw g (by omega)⟩

theorem HpOk.weaken {hp' : Hp} (h : HpOk base hp m w) (k : hp'.le hp) : HpOk base hp' m w where
  mem := h.mem
  blk := fun b T cs hb => h.blk b T cs (k.blk _ _ hb)
  mp := fun b es hb => h.mp b es (k.mp _ _ hb)
  sp := fun e sz hd hi => ⟨(h.sp e sz hd (k.sp.subset hi)).1, fun b hb => by
    have := (h.sp e sz hd (k.sp.subset hi)).2 b hb
    cases hx : hp'.blk b with
    | none => rfl
    | some x => rw [k.blk _ _ hx] at this; cases this⟩
  spd := h.spd.sublist k.sp
  gl := fun g cs hg => h.gl g cs (k.gl _ hg)

theorem HpOk.memLt (h : HpOk base hp m w) {b o : Nat} {x : Value} (hx : m b o = some x) : b < w.heap.size := by
  have := h.mem b o x hx
  exact World.block_lt_of_cell? w ⟨b, o, none⟩ this

theorem heap_lt {b : Nat} {o : Obj} (h : w.heap[b]? = some o) : b < w.heap.size := (Array.getElem?_eq_some_iff.1 h).1

/-- The world is another, where nothing that is tracked or published has turned. -/
theorem HpOk.world {w' : World} (h : HpOk base hp m w) (hw : ∀ k, k < w.heap.size → w'.heap[k]? = w.heap[k]?) : HpOk base hp m w' where
  mem := fun b o x hx => by
    have hlt := h.memLt hx
    have := h.mem b o x hx
    unfold World.cell? at *
    rw [hw b hlt]; exact this
  blk := fun b T cs hb => by
    obtain ⟨h1, h2, h3⟩ := h.blk b T cs hb
    exact ⟨h1, by rw [hw b (heap_lt h2)]; exact h2, h3⟩
  mp := fun b es hb => by
    obtain ⟨h1, h2, h4⟩ := h.mp b es hb
    exact ⟨h1, h2.other (hw b h2.lt), h4⟩
  sp := fun e sz hd hi => by
    obtain ⟨h1, h2⟩ := h.sp e sz hd hi
    refine ⟨?_, h2⟩
    rcases h1 with h1 | ⟨b, n, cap, cur, e1, e2, e3, r⟩
    · exact .inl h1
    · exact .inr ⟨b, n, cap, cur, e1, e2, by rw [hw b (heap_lt e3)]; exact e3, r⟩
  spd := h.spd
  gl := fun g cs hg => (h.gl g cs hg).mono (Mem.le_refl _) fun h1 h2 => ⟨h1, hw g h2⟩

theorem HpOk.fresh (h : HpOk base hp m w) : Fresh hp w.heap.size ∧ ∀ o, m w.heap.size o = none := by
  refine ⟨⟨?_, ?_, ?_⟩, ?_⟩
  · cases hx : hp.blk w.heap.size with
    | none => rfl
    | some x => obtain ⟨_, h2, _⟩ := h.blk _ x.1 x.2 hx; exact absurd (heap_lt h2) (Nat.lt_irrefl _)
  · cases hx : hp.mp w.heap.size with
    | none => rfl
    | some x => exact absurd (h.mp _ x hx).2.1.lt (Nat.lt_irrefl _)
  · rintro ⟨e, sz, hd⟩ hi hb
    rcases (h.sp e sz hd hi).1 with h1 | ⟨b, n, cap, cur, e1, e2, e3, r⟩
    · subst h1; cases hb
    · subst e1
      simp only [blockOf, Option.some.injEq] at hb
      have := heap_lt e3
      omega
  · intro o
    cases hx : m w.heap.size o with
    | none => rfl
    | some x => exact absurd (h.memLt hx) (Nat.lt_irrefl _)

theorem alloc_old (o : Obj) : ∀ k, k < w.heap.size → (w.alloc o).heap[k]? = w.heap[k]? := fun k hk => by
  show (w.heap.push o)[k]? = _; rw [Array.getElem?_push_lt hk, Array.getElem?_eq_getElem hk]
theorem alloc_new (o : Obj) : (w.alloc o).heap[w.heap.size]? = some o := by show (w.heap.push o)[w.heap.size]? = _; simp

/-- A new variable. -/
theorem HpOk.setNew (h : HpOk base hp m w) (hb : base ≤ w.heap.size) {T : TypeId} {cs : List AV} (hok : AV.oks m cs) :
    HpOk base (hp.setBlk w.heap.size T cs) m (w.alloc (.cells (AV.vals cs).toArray T)) := by
  obtain ⟨hf, hm⟩ := h.fresh
  have h' := h.world (w' := w.alloc (.cells (AV.vals cs).toArray T)) (alloc_old _)
  refine ⟨h'.mem, fun b T' cs' hx => ?_, h'.mp, fun e sz hd hi => ⟨(h'.sp e sz hd hi).1, fun b hb' => ?_⟩, h'.spd, h'.gl⟩
  · rw [Hp.setBlk_blk] at hx
    split at hx
    · rename_i e; subst e
      simp only [Option.some.injEq, Prod.mk.injEq] at hx
      obtain ⟨rfl, rfl⟩ := hx
      exact ⟨hb, alloc_new _, hok, hm⟩
    · exact h'.blk b T' cs' hx
  · rw [Hp.setBlk_blk]
    split
    · rename_i e; subst e; exact absurd hb' (hf.2.2 _ hi)
    · exact (h'.sp e sz hd hi).2 b hb'

/-- A new map. -/
theorem HpOk.setNewMp (h : HpOk base hp m w) (hb : base ≤ w.heap.size) : HpOk base (hp.setMp w.heap.size []) m (w.alloc (.map #[] 0)) := by
  have h' := h.world (w' := w.alloc (.map #[] 0)) (alloc_old _)
  refine ⟨h'.mem, h'.blk, fun b es hx => ?_, h'.sp, h'.spd, h'.gl⟩
  rw [Hp.setMp_mp] at hx
  split at hx
  · rename_i e; subst e
    obtain rfl := Option.some.inj hx
    exact ⟨hb, .inl ⟨fun s pos e => by (cases e), #[], 0, alloc_new _, rfl, Go.MapKept.stamped_empty 0⟩, trivial⟩
  · exact h'.mp b es hx

/-- The published places, and a block's cells. -/
def Mem.add (m : Mem) (b : Nat) (vs : List Value) : Mem := fun b' o => if b' = b then (match vs[o]? with | some v => some v | none => m b' o) else m b' o

theorem Mem.le_add {m : Mem} {b : Nat} {vs : List Value} (hm : ∀ o, m b o = none) : m.le (m.add b vs) := by
  intro b' o x hx
  unfold Mem.add
  split
  · rename_i e; subst e; rw [hm] at hx; cases hx
  · exact hx

theorem Mem.add_self {m : Mem} {b : Nat} {vs : List Value} {o : Nat} {x : Value} (h : vs[o]? = some x) : m.add b vs b o = some x := by simp [Mem.add, h]

/-- A row's cells are published: the first of them, as many as the list says. -/
theorem HpOk.publish (h : HpOk base hp m w) {b : Nat} {cur : Array Value} {T : TypeId} {fz : Nat × Nat} {vs : List Value} (hb : w.heap[b]? = some (.cells cur T fz)) (hm : ∀ o, m b o = none)
    (hv : ∀ (j : Nat) (x : Value), vs[j]? = some x → cur[j]? = some x) (hsp : ∀ p ∈ hp.sp, blockOf p.2.2 ≠ some b) :
    HpOk base (hp.delBlk b) (m.add b vs) w ∧ m.le (m.add b vs) := by
  have hle : m.le (m.add b vs) := Mem.le_add hm
  refine ⟨⟨fun b' o x hx => ?_, fun b' T' cs' hx => ?_, fun b' es hx => ?_, fun e sz hd hi => ?_, h.spd, fun g cs hg => (h.gl g cs hg).mono hle (fun h1 _ => ⟨h1, rfl⟩)⟩, hle⟩
  · unfold Mem.add at hx
    split at hx
    · rename_i e; subst e
      split at hx
      · rename_i v hv'
        obtain rfl := Option.some.inj hx
        rw [cell_of_row w b' o cur T fz hb]; exact hv o v hv'
      · rw [hm] at hx; cases hx
    · exact h.mem b' o x hx
  · rw [Hp.delBlk_blk] at hx
    split at hx
    · cases hx
    · rename_i hne
      obtain ⟨h1, h2, h3, h4⟩ := h.blk b' T' cs' hx
      exact ⟨h1, h2, AV.oks_mono hle _ h3, fun o => by simp [Mem.add, hne, h4]⟩
  · obtain ⟨h1, h2, h3⟩ := h.mp b' es hx
    exact ⟨h1, h2, AV.oks_mono hle _ h3⟩
  · obtain ⟨h1, h2⟩ := h.sp e sz hd hi
    refine ⟨?_, fun b' hb' => ?_⟩
    · rcases h1 with h1 | ⟨b', n, cap, cur', e1, e2, e3, e4, e5, e6, e7⟩
      · exact .inl h1
      · refine .inr ⟨b', n, cap, cur', e1, e2, e3, e4, e5, e6, fun o ho => ?_⟩
        have hne : b' ≠ b := by rintro rfl; exact hsp _ hi (by rw [e1]; rfl)
        simp [Mem.add, hne, e7 o ho]
    · rw [Hp.delBlk_blk]; split
      · rfl
      · exact h2 b' hb'

/-- A tracked variable is turned. -/
theorem HpOk.setCells (h : HpOk base hp m w) {b : Nat} {T : TypeId} {cs cs' : List AV} (hb : hp.blk b = some (T, cs)) (hok : AV.oks m cs') :
    HpOk base (hp.setBlk b T cs') m (w.setRow b (AV.vals cs').toArray) := by
  obtain ⟨hbase, hheap, hoks, hm⟩ := h.blk b T cs hb
  have other : ∀ k, k ≠ b → (w.setRow b (AV.vals cs').toArray).heap[k]? = w.heap[k]? := fun k hk => setRow_other w b k _ hk
  have self := setRow_heap w b _ (AV.vals cs').toArray T (0, 0) hheap
  refine ⟨fun b' o x hx => ?_, fun b' T' cs'' hx => ?_, fun b' es hx => ?_, fun e sz hd hi => ?_, h.spd, fun g cs hg => (h.gl g cs hg).other hbase other⟩
  · have hne : b' ≠ b := by rintro rfl; rw [hm] at hx; cases hx
    have := h.mem b' o x hx
    unfold World.cell? at *
    rw [other b' hne]; exact this
  · rw [Hp.setBlk_blk] at hx
    split at hx
    · rename_i e; subst e
      simp only [Option.some.injEq, Prod.mk.injEq] at hx
      obtain ⟨rfl, rfl⟩ := hx
      exact ⟨hbase, self, hok, hm⟩
    · rename_i hne
      obtain ⟨h1, h2, h3⟩ := h.blk b' T' cs'' hx
      exact ⟨h1, by rw [other b' hne]; exact h2, h3⟩
  · obtain ⟨h1, h2, h4⟩ := h.mp b' es hx
    have hne : b' ≠ b := by rintro rfl; exact h2.row hheap
    exact ⟨h1, h2.other (other b' hne), h4⟩
  · obtain ⟨h1, h2⟩ := h.sp e sz hd hi
    refine ⟨?_, fun b' hb' => ?_⟩
    · rcases h1 with h1 | ⟨b', n, cap, cur', e1, e2, e3, r⟩
      · exact .inl h1
      · have hne : b' ≠ b := by
          rintro rfl
          have := h2 b' (by rw [e1]; rfl)
          rw [hb] at this; cases this
        exact .inr ⟨b', n, cap, cur', e1, e2, by rw [other b' hne]; exact e3, r⟩
    · rw [Hp.setBlk_blk]; split
      · rename_i e; subst e
        have := h2 b' hb'
        rw [hb] at this; cases this
      · exact h2 b' hb'
end
end Go.AL
/- Operations that make or turn memory. -/
namespace Go.AL
section
variable {P : Program}

def zeroT (P : Program) (t : TypeId) : Option Value := (P.info? t).bind (·.zero)

theorem run_zero {w : World} {t : TypeId} {z : Value} (h : zeroT P t = some z) : (zeroValue t).run P w = .ok z w := by
  unfold zeroT at h
  cases hi : P.info? t with
  | none => simp [hi] at h
  | some i => simp only [hi, Option.bind_some] at h; simp [zeroValue, typeInfo, hi, h]

theorem Lo.grow {F : Fr} {w w' : World} (h : Lo F w) (h1 : w'.os = w.os) (h2 : w'.tape = w.tape) (h3 : w'.output = w.output) (h4 : w.heap.size ≤ w'.heap.size) (h5 : ∀ k, k < F.base → w'.heap[k]? = w.heap[k]?) : Lo F w' :=
  ⟨h1.trans h.os, h2.trans h.tape, h3.trans h.output, Nat.le_trans h.size h4, fun k hk => (h5 k hk).trans (h.low k hk), Nat.le_trans h.bs h4⟩

theorem Lo.alloc {F : Fr} {w : World} (h : Lo F w) (o : Obj) : Lo F (w.alloc o) :=
  h.grow rfl rfl rfl (by show w.heap.size ≤ (w.heap.push o).size; simp) (fun k hk => alloc_old o k (Nat.lt_of_lt_of_le hk h.bs))

theorem Lo.setRow {F : Fr} {w : World} (h : Lo F w) {b : Nat} (hb : F.base ≤ b) (cs : Array Value) : Lo F (w.setRow b cs) :=
  h.grow rfl rfl rfl (by simp [World.setRow]) (fun k hk => setRow_other w b k _ (by omega))

/-- What was known of the slots stays known. -/
theorem RelM.turn {F : Fr} {st : St} {a : Act} {w w' : World} {m m' : Mem} {hp' : Hp} (hm : RelM F st a w m) (hle : m.le m') (hhp : HpOk F.base hp' m' w') : RelM F (st.setHp hp') a w' m' :=
  ⟨Mem.le_trans hm.le hle, hhp, fun i x hx => ⟨(hm.sl i x hx).1, AV.ok_mono hle x (hm.sl i x hx).2⟩⟩

theorem Rel.close {F : Fr} {st : St} {a : Act} {w w' : World} {m m' : Mem} {hp' : Hp} (hr : Rel F st a w) (hm : RelM F st a w m) (hlo : Lo F w') (hle : m.le m') (hhp : HpOk F.base hp' m' w') {d : Option Nat} {x : AV}
    (hd : dstOk st d) (hx : x.ok m') : Rel F ((st.setHp hp').putO d x) (a.put d x.val) w' :=
  ⟨hlo, by rw [Act.put_defers]; exact hr.df, by rw [Act.put_size, St.putO_n]; exact hr.n, m', (hm.turn hle hhp).put hr.n hd hx⟩

/-! ### New variables -/
theorem aop_alloc {o : Oper} {t : TypeId} (ho : o.op = .alloc t) {K : St → Prop} {st : St} {z : Value} (hz : zeroT P t = some z) (hd : dstOk st o.dst)
    (h : ∀ b, Fresh st.hp b → K ((st.setHp (st.hp.setBlk b t (z.cells.toList.map AV.v))).putO o.dst (.v (.pointer (some ⟨b, 0, none⟩))))) : AOp P o K st := by
  intro F a w hr K' Q hK'
  obtain ⟨m, hm⟩ := hr.ex
  unfold Oper.wp
  have hrun : (execOp a.eval o).run P w = .ok (.value (.pointer (some ⟨w.heap.size, 0, none⟩))) (w.alloc (.cells z.cells t)) := by
    simp [execOp, ho, Instr.alloc, run_zero hz, newVar, newRow, go_sem]
  rw [hrun]
  have hn := hm.hp.setNew hr.lo.bs (T := t) (cs := z.cells.toList.map AV.v) (map_v_oks _ _)
  rw [map_v_vals] at hn
  exact hK' _ _ ⟨_, h _ hm.hp.fresh.1, hr.close hm (hr.lo.alloc _) (Mem.le_refl m) hn hd (x := .v (.pointer (some ⟨w.heap.size, 0, none⟩))) trivial⟩

theorem aop_box {o : Oper} {t : TypeId} {x : Operand} (ho : o.op = .box t x) {K : St → Prop} {st : St} {y : AV} (hx : st.ev x = some y) (hd : dstOk st o.dst)
    (h : ∀ b, Fresh st.hp b → K ((st.setHp (st.hp.setBlk b t y.cells)).putO o.dst (.v (.pointer (some ⟨b, 0, none⟩))))) : AOp P o K st := by
  intro F a w hr K' Q hK'
  obtain ⟨m, hm⟩ := hr.ex
  have hok := hm.ok hx
  unfold Oper.wp
  have hrun : (execOp a.eval o).run P w = .ok (.value (.pointer (some ⟨w.heap.size, 0, none⟩))) (w.alloc (.cells y.val.cells t)) := by
    simp only [execOp, ho, hr.eval hx]; simp [Instr.box, newVar, newRow, go_sem]
  rw [hrun]
  have hn := hm.hp.setNew hr.lo.bs (T := t) (cs := y.cells) (AV.oks_cells y hok)
  rw [AV.cells_of y hok] at hn
  exact hK' _ _ ⟨_, h _ hm.hp.fresh.1, hr.close hm (hr.lo.alloc _) (Mem.le_refl m) hn hd (x := .v (.pointer (some ⟨w.heap.size, 0, none⟩))) trivial⟩

/-- A variable that is never turned again: its cells go with the pointer. -/
theorem aop_boxP {o : Oper} {t : TypeId} {x : Operand} (ho : o.op = .box t x) {K : St → Prop} {st : St} {y : AV} (hx : st.ev x = some y) (hd : dstOk st o.dst)
    (h : ∀ p, K (st.putO o.dst (.ref p y.cells))) : AOp P o K st := by
  intro F a w hr K' Q hK'
  obtain ⟨m, hm⟩ := hr.ex
  have hok := hm.ok hx
  unfold Oper.wp
  have hrun : (execOp a.eval o).run P w = .ok (.value (.pointer (some ⟨w.heap.size, 0, none⟩))) (w.alloc (.cells y.val.cells t)) := by
    simp only [execOp, ho, hr.eval hx]; simp [Instr.box, newVar, newRow, go_sem]
  rw [hrun]
  obtain ⟨hf, hmn⟩ := hm.hp.fresh
  have hw := hm.hp.world (w' := w.alloc (.cells y.val.cells t)) (alloc_old _)
  obtain ⟨h1, h2⟩ := hw.publish (b := w.heap.size) (vs := AV.vals y.cells) (alloc_new _) hmn (fun j x hj => by rw [AV.cells_of y hok] at hj; simpa using hj) (fun p hp => hf.2.2 p hp)
  have h1' := h1.weaken (hp' := st.hp) ⟨fun b x hb => by
    rw [Hp.delBlk_blk]; split
    · rename_i e; subst e; rw [hf.1] at hb; cases hb
    · exact hb, fun _ _ h => h, List.Sublist.refl _, fun _ h => h⟩
  refine hK' _ _ ⟨_, h (.pointer (some ⟨w.heap.size, 0, none⟩)), ?_⟩
  exact hr.close hm (hr.lo.alloc _) h2 h1' hd (x := .ref (.pointer (some ⟨w.heap.size, 0, none⟩)) y.cells)
    ⟨⟨_, 0, rfl, fun j x hj => by rw [Nat.zero_add]; exact Mem.add_self hj⟩, AV.oks_mono h2 _ (AV.oks_cells y hok)⟩

/-! ### Stores -/
def AV.one : AV → Bool
  | .v x => x.oneCell'
  | .agg _ => false
  | .tup _ => false
  | _ => true
@[go_sem] theorem AV.one_v (x : Value) : AV.one (.v x) = x.oneCell' := rfl
@[go_sem] theorem AV.one_lst (sz : Nat) (h : Value) (xs : List AV) : AV.one (.lst sz h xs) = true := rfl
@[go_sem] theorem AV.one_ref (p : Value) (xs : List AV) : AV.one (.ref p xs) = true := rfl
@[go_sem] theorem AV.one_ifc (t : TypeId) (a : AV) : AV.one (.ifc t a) = true := rfl
@[go_sem] theorem AV.one_fn (f : Fn) (a b : List AV) : AV.one (.fn f a b) = true := rfl

theorem AV.one_val {m : Mem} {x : AV} (hx : x.ok m) (h : x.one = true) : x.val.oneCell' = true := by
  cases x with
  | v y => exact h
  | lst sz hd xs => obtain ⟨a, cap, rfl, _⟩ := hx.1; rfl
  | ref p cs => obtain ⟨b, o, rfl, _⟩ := hx.1; rfl
  | agg cs => cases h
  | tup l => cases h
  | ifc t a => rfl
  | fn f a b => rfl

def splice (cs : List AV) (o : Nat) (new : List AV) : List AV := cs.take o ++ new ++ cs.drop (o + new.length)

theorem oks_splice {m : Mem} {cs new : List AV} (o : Nat) (h : AV.oks m cs) (h' : AV.oks m new) : AV.oks m (splice cs o new) :=
  AV.oks_append (AV.oks_append (AV.oks_take o h) h') (AV.oks_drop _ h)

theorem run_storeAV {w : World} {t : TypeId} {b o : Nat} {T : TypeId} {cs : List AV} {x : AV} {m : Mem} (hb : w.heap[b]? = some (.cells (AV.vals cs).toArray T (0, 0))) (hx : x.ok m)
    (hsz : szT P t = some x.cells.length) (hone : x.cells.all AV.one = true) (hfit : o + x.cells.length ≤ cs.length) :
    (storeVar t ⟨b, o, none⟩ x.val).run P w = .ok () (w.setRow b (AV.vals (splice cs o x.cells)).toArray) := by
  have hc := AV.cells_of x hx
  have h1 : x.val.cells.size = x.cells.length := by rw [← Array.length_toList, ← hc, AV.vals_length]
  have hones : ∀ v ∈ x.val.cells.toList, v.oneCell' = true := by
    intro v hv
    rw [← hc, AV.vals_eq] at hv
    obtain ⟨y, hy, rfl⟩ := List.mem_map.1 hv
    have hok := AV.oks_cells x hx
    rw [AV.oks_iff] at hok
    exact AV.one_val (hok y hy) (List.all_eq_true.1 hone y hy)
  have hst := run_storeCells_at P b o T x.val.cells.toList 0 (AV.vals cs).toArray w hb (by rw [← hc, AV.vals_length]; simp [AV.vals_length]; omega) hones
  simp only [storeVar, Sem.run_bind, run_sizeOf' hsz, Result.andThen_ok, h1, ne_eq, not_true_eq_false, if_false, hst]
  congr 2
  simp [splice, AV.vals_append, AV.vals_take, AV.vals_drop, hc, h1]

/-- A store into a tracked variable. -/
theorem aop_store {o : Oper} {t : TypeId} {p x : Operand} (ho : o.op = .store t p x) (hdst : o.dst = none) {K : St → Prop} {st : St} {b off : Nat} {T : TypeId} {cs : List AV} {y : AV}
    (hp : st.ev p = some (.v (.pointer (some ⟨b, off, none⟩)))) (hx : st.ev x = some y) (hb : st.hp.blk b = some (T, cs)) (hsz : szT P t = some y.cells.length) (hone : y.cells.all AV.one = true) (hfit : off + y.cells.length ≤ cs.length)
    (h : K (st.setHp (st.hp.setBlk b T (splice cs off y.cells)))) : AOp P o K st := by
  intro F a w hr K' Q hK'
  obtain ⟨m, hm⟩ := hr.ex
  have hok := hm.ok hx
  obtain ⟨hbase, hheap, hoks, _⟩ := hm.hp.blk b T cs hb
  unfold Oper.wp
  have hv := hr.eval hp
  simp only [AV.val] at hv
  have hrun : (execOp a.eval o).run P w = .ok .skip (w.setRow b (AV.vals (splice cs off y.cells)).toArray) := by
    simp only [execOp, ho, hv, hr.eval hx, Instr.storeAt, Instr.sureAddr, Sem.run_bind, Sem.run_pure, Result.andThen_ok, run_storeAV hheap hok hsz hone hfit]
  rw [hrun]
  simp only [Oper.upon, hdst]
  refine hK' _ _ ⟨_, h, ?_⟩
  have := hr.close hm (hr.lo.setRow hbase _) (Mem.le_refl m) (hm.hp.setCells hb (oks_splice off hoks (AV.oks_cells y hok))) (d := none) (x := .v undef) trivial trivial
  exact this

/-- The one store into a new variable that is never turned again: from here on its cells go with the pointer. -/
theorem aop_storeP {o : Oper} {t : TypeId} {p : Nat} {x : Operand} (ho : o.op = .store t (.tmp p) x) (hdst : o.dst = none) {K : St → Prop} {st : St} {b : Nat} {T : TypeId} {cs : List AV} {y : AV}
    (hp : st.sl p = some (.v (.pointer (some ⟨b, 0, none⟩)))) (hx : st.ev x = some y) (hb : st.hp.blk b = some (T, cs)) (hsz : szT P t = some y.cells.length) (hone : y.cells.all AV.one = true) (hfit : y.cells.length = cs.length)
    (h : K ((st.setHp (st.hp.delBlk b)).put p (.ref (.pointer (some ⟨b, 0, none⟩)) y.cells))) : AOp P o K st := by
  have hs : AOp P o (fun st' => st' = st.setHp (st.hp.setBlk b T (splice cs 0 y.cells))) st := aop_store ho hdst hp hx hb hsz hone (by omega) rfl
  intro F a w hr K' Q hK'
  refine hs F a w hr K' Q ?_
  rintro a' w' ⟨st', rfl, hr'⟩
  refine hK' _ _ ⟨_, h, ?_⟩
  have e : splice cs 0 y.cells = y.cells := by simp [splice, hfit]
  rw [e] at hr'
  obtain ⟨m, hm⟩ := hr'.ex
  have hblk : (st.hp.setBlk b T y.cells).blk b = some (T, y.cells) := by simp [Hp.setBlk]
  obtain ⟨hbase, hheap, hoks, hmn⟩ := hm.hp.blk b T y.cells hblk
  obtain ⟨h1, h2⟩ := hm.hp.publish (b := b) (vs := AV.vals y.cells) hheap hmn (fun j x hj => by simpa using hj) (fun q hq hbq => by
    have := (hm.hp.sp q.1 q.2.1 q.2.2 hq).2 b hbq
    rw [show (st.setHp (st.hp.setBlk b T y.cells)).hp = st.hp.setBlk b T y.cells from rfl, hblk] at this; cases this)
  have ed : ((st.setHp (st.hp.setBlk b T y.cells)).hp).delBlk b = st.hp.delBlk b := by
    simp only [St.setHp_hp, Hp.setBlk, Hp.delBlk, Hp.mk.injEq, and_true]
    funext i; by_cases hi : i = b <;> simp [hi]
  rw [ed] at h1
  have hsl := hm.sl p _ hp
  have hpsz : p < a'.tmps.size := (Array.getElem?_eq_some_iff.1 hsl.1).1
  have hfin := hr'.close hm hr'.lo h2 h1 (d := some p) (x := .ref (.pointer (some ⟨b, 0, none⟩)) y.cells) (by show p < _; rw [← hr'.n]; exact hpsz)
    ⟨⟨b, 0, rfl, fun j x hj => by rw [Nat.zero_add]; exact Mem.add_self hj⟩, AV.oks_mono h2 _ hoks⟩
  have ea : a'.put (some p) (AV.ref (.pointer (some ⟨b, 0, none⟩)) y.cells).val = a' := by
    simp only [Act.put, AV.val]
    have : a'.tmps.setIfInBounds p (.pointer (some ⟨b, 0, none⟩)) = a'.tmps := by
      apply Array.ext_getElem?
      intro i
      by_cases hi : i = p
      · subst hi; rw [Array.getElem?_setIfInBounds_self_of_lt hpsz, hsl.1]; rfl
      · rw [Array.getElem?_setIfInBounds_ne (by omega)]
    rw [this]
  rw [ea] at hfin
  exact hfin
end
end Go.AL
