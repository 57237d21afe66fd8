/- Slicing, new slices, lengths. -/
import Derived.Test.YtfdlfcafcjhpmaaCAL11
set_option linter.unusedVariables false
set_option linter.unusedSimpArgs false
namespace Go.AL
section
variable {P : Program}

/-- An optional bound. -/
def bndK (st : St) (o : Option Operand) (d : Int) (K : Int → Prop) : Prop :=
  match o with
  | none => K d
  | some x => match st.ev x with
    | some (.v (.int _ i)) => K i
    | _ => False

theorem bndK_elim {st : St} {o : Option Operand} {d : Int} {K : Int → Prop} (h : bndK st o d K) : ∃ i, K i ∧ ((o = none ∧ i = d) ∨ ∃ x k, o = some x ∧ st.ev x = some (.v (.int k i))) := by
  unfold bndK at h
  split at h
  · exact ⟨d, h, .inl ⟨rfl, rfl⟩⟩
  · rename_i x
    split at h
    · rename_i k i hx; exact ⟨i, h, .inr ⟨x, k, rfl, hx⟩⟩
    · exact h.elim

/-- A part of a raw slice. -/
def rawSl (a : Option Addr) (sz : Nat) (lo hi mx : Int) : AV := .v (.slice (if mx.toNat = lo.toNat then a else a.map (·.add (lo.toNat * sz))) (hi.toNat - lo.toNat) (mx.toNat - lo.toNat))
def withN (o : Option Nat) (K : Nat → Prop) : Prop := match o with | some n => K n | none => False
theorem withN_elim {o : Option Nat} {K : Nat → Prop} (h : withN o K) : ∃ n, o = some n ∧ K n := by cases o with | none => exact h.elim | some n => exact ⟨n, rfl, h⟩

def sliceK (P : Program) (o : Oper) (t : TypeId) (x : Operand) (l h m : Option Operand) (K : St → Prop) (st : St) : Prop :=
  withAV (st.ev x) fun a => match kindT P t, a with
  | .s, .v (.string s) => m = none ∧ dstOk st o.dst ∧ bndK st h s.size fun hi => bndK st l 0 fun lo => 0 ≤ lo ∧ lo ≤ hi ∧ hi ≤ s.size ∧ K (st.putO o.dst (.v (.string (s.extract lo.toNat hi.toNat))))
  | .sl e, .lst sz hd xs => szT P e = some sz ∧ dstOk st o.dst ∧ bndK st h xs.length fun hi => bndK st l 0 fun lo => 0 ≤ lo ∧ lo ≤ hi ∧ hi ≤ xs.length ∧
    (match m with
    | none => ∀ a' c', K (st.putO o.dst (.lst sz (.slice a' (hi.toNat - lo.toNat) c') ((xs.take hi.toNat).drop lo.toNat)))
    | some _ => h ≠ none ∧ bndK st m 0 fun mx => hi ≤ mx ∧ mx ≤ xs.length ∧ ∀ a', K (st.putO o.dst (.lst sz (.slice a' (hi.toNat - lo.toNat) (mx.toNat - lo.toNat)) ((xs.take hi.toNat).drop lo.toNat))))
  | .sl e, .v (.slice a n c) => withN (szT P e) fun sz => dstOk st o.dst ∧ bndK st h n fun hi => bndK st l 0 fun lo => 0 ≤ lo ∧ lo ≤ hi ∧
    (match m with
    | none => hi ≤ c ∧ K (st.putO o.dst (rawSl a sz lo hi c))
    | some _ => h ≠ none ∧ bndK st m 0 fun mx => hi ≤ mx ∧ mx ≤ c ∧ K (st.putO o.dst (rawSl a sz lo hi mx)))
  | _, _ => False

theorem run_bound {w : World} {k : IntKind} {i : Int} {y : Nat} {c : BoundsCode} (h0 : 0 ≤ i) (h1 : i ≤ y) : (Instr.sliceBound (.int k i) y c).run P w = .ok i.toNat w := by
  simp [Instr.sliceBound, asIntOf, h0, h1]

theorem run_asIntOf {w : World} {k : IntKind} {i : Int} : (asIntOf (.int k i)).run P w = .ok (k, i) w := rfl

theorem run_bounds {w : World} {st : St} {F : Fr} {a : Act} (hr : Rel F st a w) {isS : Bool} {len cap : Nat} {l h m : Option Operand} {lo hi mx : Int}
    (hl : (l = none ∧ lo = 0) ∨ ∃ x k, l = some x ∧ st.ev x = some (.v (.int k lo))) (hh : (h = none ∧ hi = len) ∨ ∃ x k, h = some x ∧ st.ev x = some (.v (.int k hi)))
    (hm : (m = none ∧ mx = cap) ∨ (h ≠ none ∧ ∃ x k, m = some x ∧ st.ev x = some (.v (.int k mx)))) (h0 : 0 ≤ lo) (h1 : lo ≤ hi) (h2 : hi ≤ mx) (h3 : mx ≤ cap) :
    (Instr.sliceBounds isS len cap (l.map a.eval) (h.map a.eval) (m.map a.eval)).run P w = .ok (lo.toNat, hi.toNat, mx.toNat) w := by
  have t1 : ∀ {c : BoundsCode} {k : IntKind}, (Instr.sliceBound (.int k mx) cap c).run P w = .ok mx.toNat w := run_bound (by omega) (by omega)
  have t2 : ∀ {c : BoundsCode} {k : IntKind}, (Instr.sliceBound (.int k hi) mx.toNat c).run P w = .ok hi.toNat w := run_bound (by omega) (by omega)
  have t2' : ∀ {c : BoundsCode} {k : IntKind}, (Instr.sliceBound (.int k hi) cap c).run P w = .ok hi.toNat w := run_bound (by omega) (by omega)
  have t3 : ∀ {c : BoundsCode} {k : IntKind}, (Instr.sliceBound (.int k lo) hi.toNat c).run P w = .ok lo.toNat w := run_bound (by omega) (by omega)
  rcases hm with ⟨rfl, rfl⟩ | ⟨hne, xm, km, rfl, hxm⟩
  · rcases hh with ⟨rfl, rfl⟩ | ⟨xh, kh, rfl, hxh⟩
    · rcases hl with ⟨rfl, rfl⟩ | ⟨xl, kl, rfl, hxl⟩
      · simp [Instr.sliceBounds]
      · have e3 := hr.eval hxl
        simp only [AV.val] at e3
        have t3' : ∀ {c : BoundsCode} {k : IntKind}, (Instr.sliceBound (.int k lo) len c).run P w = .ok lo.toNat w := run_bound (by omega) (by omega)
        simp [Instr.sliceBounds, e3, t3']
    · have e2 := hr.eval hxh
      simp only [AV.val] at e2
      rcases hl with ⟨rfl, rfl⟩ | ⟨xl, kl, rfl, hxl⟩
      · simp [Instr.sliceBounds, e2, t2']
      · have e3 := hr.eval hxl
        simp only [AV.val] at e3
        simp [Instr.sliceBounds, e2, e3, t2', t3]
  · have e1 := hr.eval hxm
    simp only [AV.val] at e1
    rcases hh with ⟨rfl, _⟩ | ⟨xh, kh, rfl, hxh⟩
    · exact absurd rfl hne
    · have e2 := hr.eval hxh
      simp only [AV.val] at e2
      rcases hl with ⟨rfl, rfl⟩ | ⟨xl, kl, rfl, hxl⟩
      · simp [Instr.sliceBounds, e1, e2, t1, t2]
      · have e3 := hr.eval hxl
        simp only [AV.val] at e3
        simp [Instr.sliceBounds, e1, e2, e3, t1, t2, t3]

theorem hdr_slice {m : Mem} {sz n cap : Nat} {a : Option Addr} {vs : List Value} {lo hi mx : Nat} (h : Hdr m sz (.slice a vs.length cap) vs) (h1 : lo ≤ hi) (h2 : hi ≤ vs.length) (h3 : hi ≤ mx) (h4 : mx ≤ cap) :
    Hdr m sz (.slice (if mx = lo then a else a.map (·.add (lo * sz))) (hi - lo) (mx - lo)) ((vs.take hi).drop lo) := by
  obtain ⟨a', cap', e1, e2, e3, e4, e5⟩ := h
  simp only [Value.slice.injEq] at e1
  obtain ⟨rfl, -, rfl⟩ := e1
  have hlen : ((vs.take hi).drop lo).length = hi - lo := by simp; omega
  refine ⟨_, _, by rw [hlen], by rw [hlen]; omega, by omega, fun v hv => e4 v (List.mem_of_mem_take (List.mem_of_mem_drop hv)), fun hne => ?_⟩
  have hlt : lo < hi := by
    rcases Nat.lt_or_ge lo hi with h | h
    · exact h
    · exact absurd (List.eq_nil_of_length_eq_zero (by rw [hlen]; omega)) hne
  obtain ⟨b, off, rfl, hr⟩ := e5 (by intro h; subst h; simp at h2; omega)
  refine ⟨b, off + lo * sz, ?_, fun i v hv j x hx => ?_⟩
  · rw [if_neg (by omega)]; simp [addr_add]
  · rw [List.getElem?_drop, List.getElem?_take] at hv
    split at hv
    · have := hr (lo + i) v hv j x hx
      rw [show off + lo * sz + i * sz + j = off + (lo + i) * sz + j by rw [Nat.add_mul]; omega]
      exact this
    · cases hv

theorem aop_slice {o : Oper} {t : TypeId} {x : Operand} {l h m : Option Operand} (ho : o.op = .slice t x l h m) {K : St → Prop} {st : St} (hk : sliceK P o t x l h m K st) : AOp P o K st := by
  intro F ac w hr K' Q hK'
  obtain ⟨mm, hm⟩ := hr.ex
  obtain ⟨a, ha, hk⟩ := withAV_elim hk
  have hv := hr.eval ha
  split at hk
  · rename_i s hkt
    obtain ⟨rfl, hd, hk⟩ := hk
    obtain ⟨hi, hk, bh⟩ := bndK_elim hk
    obtain ⟨lo, hk, bl⟩ := bndK_elim hk
    obtain ⟨h0, h1, h2, hk⟩ := hk
    have hb := run_bounds (P := P) hr (isS := false) (cap := s.size) bl bh (.inl ⟨rfl, rfl⟩ : (none = none ∧ ((s.size : Nat) : Int) = ((s.size : Nat) : Int)) ∨ _) h0 h1 h2 (by omega)
    have hu := kind_s hkt
    simp only [AV.val] at hv
    have hrun : (execOp ac.eval o).run P w = .ok (.value (.string (s.extract lo.toNat hi.toNat))) w := by
      simp only [Option.map_none] at hb
      simp only [execOp, ho, hv, Instr.sliceAt, Instr.slice, Sem.run_bind, run_underlying hu, Result.andThen_ok, Option.map_none, Option.isSome_none, Bool.false_eq_true, if_false, hb, Sem.run_pure, Value.string.injEq]
    unfold Oper.wp
    rw [hrun]
    exact hK' _ _ ⟨_, hk, hr.putM hm hd (x := .v (.string (s.extract lo.toNat hi.toNat))) trivial⟩
  · rename_i e sz hd xs hkt
    obtain ⟨hsz, hd', hk⟩ := hk
    obtain ⟨hi, hk, bh⟩ := bndK_elim hk
    obtain ⟨lo, hk, bl⟩ := bndK_elim hk
    obtain ⟨h0, h1, h2, hk⟩ := hk
    have hu := kind_sl hkt
    have hok := hm.ok ha
    obtain ⟨hhdr, hoks⟩ := hok
    have hhdr' := hhdr
    obtain ⟨a', cap, rfl, e2, e3, e4, e5⟩ := hhdr'
    simp only [AV.vals_length] at e2
    have hoks' : AV.oks mm ((xs.take hi.toNat).drop lo.toNat) := AV.oks_drop _ (AV.oks_take _ hoks)
    have hvals : AV.vals ((xs.take hi.toNat).drop lo.toNat) = ((AV.vals xs).take hi.toNat).drop lo.toNat := by rw [AV.vals_drop, AV.vals_take]
    simp only [AV.val] at hv
    have core : ∀ mx : Int, ((m = none ∧ mx = cap) ∨ (h ≠ none ∧ ∃ x k, m = some x ∧ st.ev x = some (.v (.int k mx)))) → hi ≤ mx → mx ≤ cap →
        (K (st.putO o.dst (.lst sz (.slice (if mx.toNat = lo.toNat then a' else a'.map (·.add (lo.toNat * sz))) (hi.toNat - lo.toNat) (mx.toNat - lo.toNat)) ((xs.take hi.toNat).drop lo.toNat)))) → o.wp P ac w K' Q := by
      intro mx bm h3 h4 hk
      have hb := run_bounds (P := P) hr (isS := true) (len := xs.length) (cap := cap) bl bh bm h0 h1 h3 h4
      have hh := hdr_slice (n := 0) (lo := lo.toNat) (hi := hi.toNat) (mx := mx.toNat) hhdr (by omega) (by rw [AV.vals_length]; omega) (by omega) (by omega)
      rw [← hvals] at hh
      have hrun : (execOp ac.eval o).run P w = .ok (.value (.slice (if mx.toNat = lo.toNat then a' else a'.map (·.add (lo.toNat * sz))) (hi.toNat - lo.toNat) (mx.toNat - lo.toNat))) w := by
        simp only [AV.vals_length] at hv
        simp only [execOp, ho, hv, Instr.sliceAt, Instr.slice, Sem.run_bind, run_underlying hu, Result.andThen_ok, hb, run_sizeOf' hsz, Sem.run_pure]
      unfold Oper.wp
      rw [hrun]
      exact hK' _ _ ⟨_, hk, hr.putM hm hd' (x := .lst sz _ _) ⟨hh, hoks'⟩⟩
    split at hk
    · exact core cap (.inl ⟨rfl, rfl⟩) (by omega) (Int.le_refl _) (hk _ _)
    · rename_i mo
      obtain ⟨hne, hk⟩ := hk
      obtain ⟨mx, hk, bm⟩ := bndK_elim hk
      obtain ⟨h3, h4, hk⟩ := hk
      refine core mx (.inr ⟨hne, ?_⟩) h3 (by omega) (hk _)
      rcases bm with ⟨h, _⟩ | ⟨x', k', e, hx⟩
      · cases h
      · exact ⟨x', k', e, hx⟩
  · rename_i e a n c hkt
    obtain ⟨sz, hsz, hk⟩ := withN_elim hk
    obtain ⟨hd', hk⟩ := hk
    obtain ⟨hi, hk, bh⟩ := bndK_elim hk
    obtain ⟨lo, hk, bl⟩ := bndK_elim hk
    obtain ⟨h0, h1, hk⟩ := hk
    have hu := kind_sl hkt
    simp only [AV.val] at hv
    have core : ∀ mx : Int, ((m = none ∧ mx = c) ∨ (h ≠ none ∧ ∃ x k, m = some x ∧ st.ev x = some (.v (.int k mx)))) → hi ≤ mx → mx ≤ c → K (st.putO o.dst (rawSl a sz lo hi mx)) → o.wp P ac w K' Q := by
      intro mx bm h3 h4 hk
      have hb := run_bounds (P := P) hr (isS := true) (len := n) (cap := c) bl bh bm h0 h1 h3 h4
      have hrun : (execOp ac.eval o).run P w = .ok (.value (.slice (if mx.toNat = lo.toNat then a else a.map (·.add (lo.toNat * sz))) (hi.toNat - lo.toNat) (mx.toNat - lo.toNat))) w := by
        simp only [execOp, ho, hv, Instr.sliceAt, Instr.slice, Sem.run_bind, run_underlying hu, Result.andThen_ok, hb, run_sizeOf' hsz, Sem.run_pure]
      unfold Oper.wp
      rw [hrun]
      exact hK' _ _ ⟨_, hk, hr.putM hm hd' (x := rawSl a sz lo hi mx) trivial⟩
    split at hk
    · exact core c (.inl ⟨rfl, rfl⟩) hk.1 (Int.le_refl _) hk.2
    · rename_i mo
      obtain ⟨hne, hk⟩ := hk
      obtain ⟨mx, hk, bm⟩ := bndK_elim hk
      obtain ⟨h3, h4, hk⟩ := hk
      refine core mx (.inr ⟨hne, ?_⟩) h3 h4 hk
      rcases bm with ⟨h, _⟩ | ⟨x', k', e, hx⟩
      · cases h
      · exact ⟨x', k', e, hx⟩
  · exact hk.elim

/-! ### New slices: a block that is tracked -/
def mkSlK (P : Program) (o : Oper) (t : TypeId) (n c : Operand) (K : St → Prop) (st : St) : Prop :=
  match kindT P t, st.ev n, st.ev c with
  | .sl e, some (.v (.int _ n)), some (.v (.int _ c)) => (match szT P e, zeroT P e, bytesT P e with
    | some sz, some z, some by_ => z.cells.size = sz ∧ 0 ≤ n ∧ n ≤ c ∧ c ≤ maxLen ∧ c * by_ ≤ 140737488355328 ∧ dstOk st o.dst ∧
      ∀ b, Fresh st.hp b → K ((st.setHp (st.hp.setBlk b e ((List.replicate c.toNat z.cells.toList).flatten.map AV.v))).putO o.dst (.v (.slice (some ⟨b, 0, none⟩) n.toNat c.toNat)))
    | _, _, _ => False)
  | _, _, _ => False

theorem zero_cells {zs : Array Value} {sz : Nat} (h : zs.size = sz) : ∀ n, (Array.range (n * sz)).map (zs[· % sz]!) = ((List.replicate n zs.toList).flatten).toArray := by
  intro n
  apply Array.ext'
  simp only [Array.toList_map, Array.toList_range]
  induction n with
  | zero => simp
  | succ n ih =>
    rw [Nat.succ_mul, List.range_add, List.map_append, ih, List.replicate_succ', List.flatten_append, List.flatten_singleton]
    congr 1
    apply List.ext_getElem?
    intro i
    simp only [List.map_map, List.getElem?_map, Function.comp]
    rcases Nat.lt_or_ge i sz with hi | hi
    · rw [List.getElem?_range hi]
      have hm : (n * sz + i) % sz = i := by rw [Nat.mul_comm, Nat.mul_add_mod]; exact Nat.mod_eq_of_lt hi
      rw [Array.getElem?_toList, Array.getElem?_eq_getElem (by omega)]
      show some (zs[(n * sz + i) % sz]!) = _
      rw [hm, getElem!_pos zs i (by omega)]
    · rw [List.getElem?_eq_none (by simpa using hi), List.getElem?_eq_none (by simp; omega)]; rfl

theorem aop_mkSl {o : Oper} {t : TypeId} {n c : Operand} (ho : o.op = .makeSlice t n c) {K : St → Prop} {st : St} (hk : mkSlK P o t n c K st) : AOp P o K st := by
  intro F ac w hr K' Q hK'
  obtain ⟨mm, hm⟩ := hr.ex
  unfold mkSlK at hk
  split at hk
  · rename_i e kn n' kc c' hkt hn hc
    split at hk
    · rename_i sz z by_ hsz hz hby
      obtain ⟨hzs, h0, h1, h2, h3, hd, hk⟩ := hk
      obtain ⟨ie, hie, hsize⟩ := szT_info hsz
      have hzz : ie.zero = some z := by simpa [zeroT, hie] using hz
      have hbb : ie.bytes = by_ := by simpa [bytesT, hie] using hby
      subst hsize; subst hbb
      have hu := kind_sl hkt
      have en := hr.eval hn
      have ec := hr.eval hc
      simp only [AV.val] at en ec
      simp only [maxLen] at h2
      have wn : IntKind.i64.wrap n' = n' := IntWalk.i64_in _ (by omega)
      have wc : IntKind.i64.wrap c' = c' := IntWalk.i64_in _ (by omega)
      unfold Oper.wp
      have hmul : (ie.bytes : Int) * c' ≤ 140737488355328 := by
        rw [Int.mul_comm]
        exact h3
      have hmul' : c'.toNat * ie.bytes ≤ 140737488355328 := by
        have : ((c'.toNat * ie.bytes : Nat) : Int) ≤ 140737488355328 := by
          rw [Int.natCast_mul, Int.toNat_of_nonneg (by omega), Int.mul_comm]; exact hmul
        omega
      have hcond : ¬ ((c' < 0 ∨ (ie.bytes : Int) * c' > 2 ^ 48) ∨ n' < 0) := by
        have : (2 : Int) ^ 48 = 281474976710656 := by decide
        rw [this]; omega
      have hcells : ∀ w', (if c'.toNat * ie.size = 0 then (pure #[] : Sem (Array Value)) else do pure (← zeroValue e).cells).run P w' = .ok (if c'.toNat * ie.size = 0 then #[] else z.cells) w' := by
        intro w'
        split
        · rfl
        · simp only [Sem.run_bind, run_zero hz, Result.andThen_ok, Sem.run_pure]
      have harr : ((Array.range (c'.toNat * ie.size)).map ((if c'.toNat * ie.size = 0 then #[] else z.cells)[· % (if c'.toNat * ie.size = 0 then #[] else z.cells).size]!)) = ((List.replicate c'.toNat z.cells.toList).flatten).toArray := by
        split
        · rename_i h
          rw [h]
          rcases Nat.mul_eq_zero.1 h with h | h
          · rw [h]; simp
          · have : z.cells.toList = [] := List.eq_nil_of_length_eq_zero (by rw [Array.length_toList]; omega)
            rw [this]; simp
        · rw [hzs]; exact zero_cells hzs _
      have hrun : (execOp ac.eval o).run P w = .ok (.value (.slice (some ⟨w.heap.size, 0, none⟩) n'.toNat c'.toNat)) (w.alloc (.cells ((List.replicate c'.toNat z.cells.toList).flatten).toArray e)) := by
        have ask : (askRoom (c'.toNat * ie.bytes)).run P w = .ok () w := by
          have hr : ¬ (c'.toNat * ie.bytes > roomBytes) := by show ¬ (_ > 2 ^ 47); omega
          unfold askRoom; rw [if_neg hr]; rfl
        have hle : ¬ (n' > c') := by omega
        have hti : (typeInfo e).run P w = .ok ie w := by simp [typeInfo, hie]
        have hcond' : ((decide (c' < 0) || decide ((ie.bytes : Int) * c' > 2 ^ 48)) || decide (n' < 0) || decide (n' > c')) = false := by
          simp only [Bool.or_eq_false_iff, decide_eq_false_iff_not]
          exact ⟨⟨⟨fun h => hcond (.inl (.inl h)), fun h => hcond (.inl (.inr h))⟩, fun h => hcond (.inr h)⟩, hle⟩
        simp only [execOp, ho, en, ec, Instr.makeSlice, Sem.run_bind, run_underlying hu, Result.andThen_ok, asInt, run_asIntOf, Sem.run_pure, hti, wn, wc]
        rw [if_neg (by rw [hcond']; exact Bool.false_ne_true)]
        by_cases hz0 : c'.toNat * ie.size = 0
        · rw [if_pos hz0] at harr
          simp only [Sem.run_bind, Sem.run_pure, Result.andThen_ok, ask, run_sizeOf' hsz, hz0, if_true]
          rw [hz0] at harr
          simp only [harr]
          rfl
        · rw [if_neg hz0] at harr
          simp only [Sem.run_bind, Sem.run_pure, Result.andThen_ok, ask, run_sizeOf' hsz, hz0, if_false, run_zero hz]
          simp only [harr]
          rfl
      rw [hrun]
      have hn := hm.hp.setNew hr.lo.bs (T := e) (cs := ((List.replicate c'.toNat z.cells.toList).flatten).map AV.v) (map_v_oks _ _)
      rw [map_v_vals] at hn
      exact hK' _ _ ⟨_, hk _ hm.hp.fresh.1, hr.close hm (hr.lo.alloc _) (Mem.le_refl mm) hn hd (x := .v (.slice (some ⟨w.heap.size, 0, none⟩) n'.toNat c'.toNat)) trivial⟩
    · exact hk.elim
  · exact hk.elim
end
end Go.AL
