/- Literals, maps. -/
import Derived.Test.YtfdlfcafcjhpmaaCAL7
namespace Go.AL
section
variable {P : Program}

def fillA (place : Nat → Option (Nat × Nat)) (cells : List AV) : List (Nat × AV) → Option (List AV)
  | [] => some cells
  | (i, x) :: rest => match place i with
    | none => none
    | some (off, size) => if x.cells.length ≠ size ∨ off + x.cells.length > cells.length then none else fillA place (splice cells off x.cells) rest

theorem fold_splice (off : Nat) : ∀ (l : List Value) (k : Nat) (arr : List Value), off + k + l.length ≤ arr.length →
    (l.zipIdx k).foldl (fun (cs : Array Value) (p : Value × Nat) => cs.setIfInBounds (off + p.2) p.1) arr.toArray = (arr.take (off + k) ++ l ++ arr.drop (off + k + l.length)).toArray
  | [], k, arr, _ => by simp
  | v :: l, k, arr, h => by
    simp only [List.length_cons] at h
    simp only [List.zipIdx_cons, List.foldl_cons, List.setIfInBounds_toArray]
    rw [fold_splice off l (k + 1) (arr.set (off + k) v) (by simp; omega)]
    congr 1
    apply List.ext_getElem?
    intro i
    simp only [List.getElem?_append, List.length_append, List.length_take, List.length_set, List.getElem?_take, List.getElem?_drop, List.getElem?_set, List.length_cons]
    have e1 : min (off + (k + 1)) arr.length = off + k + 1 := by omega
    have e2 : min (off + k) arr.length = off + k := by omega
    simp only [e1, e2]
    by_cases h1 : i < off + k
    · have : i < off + k + 1 := by omega
      have h2 : ¬ (off + k = i) := by omega
      simp [h1, this, h2, show i < off + k + 1 + l.length by omega, show i < off + k + (l.length + 1) by omega, show i < off + (k + 1) by omega]
    · by_cases h2 : i = off + k
      · subst h2; simp [show off + k < off + k + 1 + l.length by omega, show off + k < off + (k + 1) by omega, show off + k < off + k + (l.length + 1) by omega]; omega
      · by_cases h3 : i < off + k + 1 + l.length
        · have : ¬ i < off + k + 1 := by omega
          simp only [h3, this, h1, show i < off + k + (l.length + 1) by omega, if_true, if_false]
          rw [show i - (off + k) = (i - (off + k + 1)) + 1 by omega, List.getElem?_cons_succ]
        · have : ¬ i < off + k + (l.length + 1) := by omega
          simp only [h3, this, if_false]
          rw [if_neg (by omega)]
          congr 1; omega

theorem fillA_sound {place : Nat → Option (Nat × Nat)} {m : Mem} : ∀ (parts : List (Nat × AV)) (cells cells' : List AV), fillA place cells parts = some cells' → (∀ p ∈ parts, p.2.ok m) → AV.oks m cells →
    Instr.fill place (AV.vals cells).toArray (parts.map fun p => (p.1, p.2.val)) = some (AV.vals cells').toArray ∧ AV.oks m cells'
  | [], cells, cells', h, _, hc => by
    simp only [fillA, Option.some.injEq] at h; subst h; exact ⟨rfl, hc⟩
  | (i, x) :: rest, cells, cells', h, hp, hc => by
    simp only [fillA] at h
    split at h
    · cases h
    · rename_i off size hpl
      split at h
      · cases h
      · rename_i hcond
        have hx := hp (i, x) (by simp)
        have hcx := AV.cells_of x hx
        have hlen : x.val.cells.size = x.cells.length := by rw [← Array.length_toList, ← hcx, AV.vals_length]
        obtain ⟨h1, h2⟩ := fillA_sound rest _ _ h (fun p hp' => hp p (by simp [hp'])) (oks_splice off hc (AV.oks_cells x hx))
        refine ⟨?_, h2⟩
        simp only [List.map_cons, Instr.fill, hpl]
        have hsz : (AV.vals cells).toArray.size = cells.length := by simp [AV.vals_length]
        have hc' : (decide (x.val.cells.size ≠ size) || decide (off + x.val.cells.size > (AV.vals cells).toArray.size)) = false := by
          rw [hlen, hsz]; simp; omega
        simp only [hc', Bool.false_eq_true, if_false]
        rw [← h1]
        congr 1
        have hf := fold_splice off x.val.cells.toList 0 (AV.vals cells) (by rw [← hcx, AV.vals_length, AV.vals_length]; omega)
        rw [← Array.foldl_toList, Array.toList_zipIdx]
        refine Eq.trans hf ?_
        rw [← hcx]
        simp [splice, AV.vals_append, AV.vals_take, AV.vals_drop, AV.vals_length]

def evParts (st : St) (l : List (Nat × Operand)) : Option (List (Nat × AV)) := l.mapM fun p => (st.ev p.2).map fun x => (p.1, x)

theorem evParts_sound {st : St} {F : Fr} {ac : Act} {w : World} {m : Mem} (hr : Rel F st ac w) (hm : RelM F st ac w m) :
    ∀ (l : List (Nat × Operand)) (xs : List (Nat × AV)), evParts st l = some xs → (l.map fun p => (p.1, ac.eval p.2)) = xs.map (fun p => (p.1, p.2.val)) ∧ ∀ p ∈ xs, p.2.ok m
  | [], xs, h => by simp [evParts] at h; subst h; exact ⟨rfl, by simp⟩
  | p :: l, xs, h => by
    simp only [evParts, List.mapM_cons, Option.bind_eq_bind, Option.bind_eq_some_iff, Option.map_eq_some_iff] at h
    obtain ⟨q, ⟨x, hx, rfl⟩, ys, hy, e⟩ := h
    simp at e; subst e
    obtain ⟨h1, h2⟩ := evParts_sound hr hm l ys hy
    refine ⟨by simp [hr.eval hx, h1], ?_⟩
    intro q hq
    rcases List.mem_cons.1 hq with rfl | hq
    · exact hm.ok hx
    · exact h2 q hq

/-- A struct literal. -/
theorem aop_build {o : Oper} {t : TypeId} {parts : Array (Nat × Operand)} (ho : o.op = .build t parts) {K : St → Prop} {st : St} {fs : List (Nat × TypeId × Nat)} {z : Value} {xs : List (Nat × AV)} {cells : List AV}
    (hk : kindT P t = .st fs) (hz : zeroT P t = some z) (hxs : evParts st parts.toList = some xs)
    (hsz : fs.all (fun f => (szT P f.2.1).isSome) = true)
    (hf : fillA (fun i => (fs[i]?).map fun f => (f.1, f.2.2)) (z.cells.toList.map AV.v) xs = some cells) (hd : dstOk st o.dst) (h : K (st.putO o.dst (.agg cells))) : AOp P o K st := by
  intro F a w hr K' Q hK'
  obtain ⟨m, hm⟩ := hr.ex
  obtain ⟨fl, hu, rfl⟩ := kind_st hk
  obtain ⟨e1, o1⟩ := evParts_sound hr hm parts.toList xs hxs
  obtain ⟨f1, f2⟩ := fillA_sound (m := m) xs _ cells hf o1 (map_v_oks _ _)
  rw [map_v_vals] at f1
  have hpl : fl.toList.mapM (fun f => (P.info? f.type).map fun i => (f.offset, i.size)) = some (fl.toList.map fun f => (f.offset, (szT P f.type).getD 0)) := by
    have hs : ∀ f ∈ fl.toList, (szT P f.type).isSome = true := by
      intro f hf
      have := List.all_eq_true.1 hsz (f.offset, f.type, (szT P f.type).getD 0) (List.mem_map.2 ⟨f, hf, rfl⟩)
      exact this
    clear hf hsz hu hk f1
    generalize fl.toList = l at hs
    induction l with
    | nil => rfl
    | cons f l ih =>
      rw [List.mapM_cons]
      have h0 := hs f (by simp)
      unfold szT at h0 ⊢
      cases hi : P.info? f.type with
      | none => simp [hi] at h0
      | some i =>
        have := ih (fun g hg => hs g (by simp [hg]))
        unfold szT at this
        simp [this, hi]
  have hb : P.built t (parts.map fun p => (p.1, a.eval p.2)).toList = some (AV.vals cells).toArray := by
    unfold zeroT at hz
    cases hi : P.info? t with
    | none => simp [hi] at hz
    | some it =>
      simp only [hi, Option.bind_some] at hz
      simp only [Program.built, hi, hu, hz, hpl]
      rw [Array.toList_map, e1, ← f1]
      simp only [Array.toArray_toList]
      congr 1
      funext i
      simp only [List.getElem?_toArray, List.getElem?_map, Option.map_map]
      rfl
  unfold Oper.wp
  have hrun : (execOp a.eval o).run P w = .ok (.value (.agg (AV.vals cells).toArray)) w := by
    simp only [execOp, ho, Sem.run_bind]
    rw [run_build w t _ _ hb]; rfl
  rw [hrun]
  exact hK' _ _ ⟨_, h, hr.putM hm hd (x := .agg cells) f2⟩

/-- An array literal. -/
theorem aop_buildA {o : Oper} {t e : TypeId} {len n : Nat} {parts : Array (Nat × Operand)} (ho : o.op = .build t parts) {K : St → Prop} {st : St} {z : Value} {xs : List (Nat × AV)} {cells : List AV}
    (hk : kindT P t = .ar len e) (hz : zeroT P t = some z) (hn : szT P e = some n) (hxs : evParts st parts.toList = some xs)
    (hf : fillA (fun i => some (i * n, n)) (z.cells.toList.map AV.v) xs = some cells) (hd : dstOk st o.dst) (h : K (st.putO o.dst (.agg cells))) : AOp P o K st := by
  intro F a w hr K' Q hK'
  obtain ⟨m, hm⟩ := hr.ex
  have hu := kind_ar hk
  obtain ⟨e1, o1⟩ := evParts_sound hr hm parts.toList xs hxs
  obtain ⟨f1, f2⟩ := fillA_sound (m := m) xs _ cells hf o1 (map_v_oks _ _)
  rw [map_v_vals] at f1
  unfold Oper.wp
  have hrun : (execOp a.eval o).run P w = .ok (.value (.agg (AV.vals cells).toArray)) w := by
    have hz' : (zeroValue t).run P w = .ok z w := run_zero hz
    have hp : (parts.map fun p => (p.1, a.eval p.2)).toList = xs.map fun p => (p.1, p.2.val) := by rw [Array.toList_map, e1]
    simp only [execOp, ho, Instr.build, Sem.run_bind, hz', Result.andThen_ok, run_underlying hu, run_sizeOf' hn, hp]
    rw [← Array.toArray_toList (xs := z.cells), f1]
    rfl
  rw [hrun]
  exact hK' _ _ ⟨_, h, hr.putM hm hd (x := .agg cells) f2⟩

theorem fillA_dense (sz : Nat) : ∀ (xs : List AV) (k : Nat) (cells : List AV), cells.length = (k + xs.length) * sz → (∀ x ∈ xs, x.cells.length = sz) →
    fillA (fun i => some (i * sz, sz)) cells ((List.range' k xs.length).zip xs) = some (cells.take (k * sz) ++ xs.flatMap AV.cells)
  | [], k, cells, h, _ => by
    simp [fillA]
    rw [List.take_of_length_le (by simp at h; omega)]
  | x :: xs, k, cells, h, hx => by
    have h0 := hx x (by simp)
    have hl : cells.length = k * sz + sz + xs.length * sz := by rw [h]; simp only [List.length_cons]; rw [Nat.add_mul, Nat.add_mul]; omega
    simp only [List.length_cons, List.range'_succ, List.zip_cons_cons, fillA]
    rw [if_neg (by rw [h0]; simp; omega)]
    have e1 : (splice cells (k * sz) x.cells).length = (k + 1 + xs.length) * sz := by
      simp only [splice, List.length_append, List.length_take, List.length_drop, h0, Nat.add_mul]
      omega
    rw [fillA_dense sz xs (k + 1) _ e1 (fun y hy => hx y (by simp [hy]))]
    congr 1
    simp only [List.flatMap_cons, splice]
    rw [← List.append_assoc]
    congr 1
    rw [List.take_append_of_le_length (by simp [h0, Nat.add_mul]; omega)]
    rw [List.take_of_length_le (by simp [h0, Nat.add_mul]; omega)]

theorem run_lit (w : World) (t e : TypeId) (len : Nat) (parts : Array (Nat × Value)) (cells : Array Value) (ie : TypeInfo) (z : Value)
    (hu : P.underlying t = some (.slice e)) (hie : P.info? e = some ie) (hz : ie.zero = some z) (hsmall : ¬ len * ie.size > 2 ^ 24) (hpos : ¬ len * ie.size = 0)
    (h : Instr.fill (fun i => some (i * ie.size, ie.size)) ((Array.range (len * ie.size)).map (z.cells[· % z.cells.size]!)) parts.toList = some cells) :
    (Instr.buildSlice t len parts).run P w = .ok (.slice (some ⟨w.heap.size, 0, none⟩) len len) (w.alloc (.cells cells e)) := by
  simp [Instr.buildSlice, run_underlying hu, sizeOf, typeInfo, zeroValue, hie, hz, hsmall, hpos, h, newRow]

theorem flat_get {sz : Nat} : ∀ (vs : List Value), (∀ v ∈ vs, v.cells.size = sz) → ∀ (i : Nat) (v : Value) (j : Nat) (x : Value), vs[i]? = some v → v.cells[j]? = some x → (vs.flatMap fun v => v.cells.toList)[i * sz + j]? = some x
  | [], _, _, _, _, _, h, _ => by cases h
  | u :: vs, hs, i, v, j, x, hi, hj => by
    have hu := hs u (by simp)
    rw [List.flatMap_cons]
    cases i with
    | zero =>
      simp only [List.getElem?_cons_zero, Option.some.injEq] at hi
      subst hi
      have hlt : j < u.cells.size := (Array.getElem?_eq_some_iff.1 hj).1
      rw [Nat.zero_mul, Nat.zero_add, List.getElem?_append_left (by simpa using hlt)]
      simpa using hj
    | succ i =>
      rw [List.getElem?_cons_succ] at hi
      rw [List.getElem?_append_right (by simp [hu, Nat.add_mul]; omega)]
      have : (i + 1) * sz + j - u.cells.toList.length = i * sz + j := by simp [hu, Nat.add_mul]; omega
      rw [this]
      exact flat_get vs (fun y hy => hs y (by simp [hy])) i v j x hi hj

theorem flat_length {sz : Nat} : ∀ (vs : List Value), (∀ v ∈ vs, v.cells.size = sz) → (vs.flatMap fun v => v.cells.toList).length = vs.length * sz
  | [], _ => by simp
  | u :: vs, hs => by
    rw [List.flatMap_cons, List.length_append, flat_length vs (fun y hy => hs y (by simp [hy]))]
    simp [hs u (by simp), Nat.add_mul]; omega

theorem flat_vals {m : Mem} : ∀ (xs : List AV), AV.oks m xs → AV.vals (xs.flatMap AV.cells) = (AV.vals xs).flatMap fun v => v.cells.toList
  | [], _ => rfl
  | x :: xs, h => by
    rw [List.flatMap_cons, AV.vals_append, flat_vals xs h.2, AV.cells_of x h.1]; rfl

theorem cells_len {m : Mem} {x : AV} (h : x.ok m) : x.val.cells.size = x.cells.length := by
  rw [← Array.length_toList, ← AV.cells_of x h, AV.vals_length]

theorem hdr_flat {m : Mem} {sz b n cap : Nat} {xs : List AV} (hok : AV.oks m xs) (hone : ∀ x ∈ xs, x.cells.length = sz) (hn : xs.length = n) (hcap : n ≤ cap) (hmax : cap ≤ maxLen)
    (hm : ∀ (k : Nat) (x : Value), ((AV.vals xs).flatMap fun v => v.cells.toList)[k]? = some x → m b k = some x) : Hdr m sz (.slice (some ⟨b, 0, none⟩) n cap) (AV.vals xs) := by
  have hsz : ∀ v ∈ AV.vals xs, v.cells.size = sz := by
    intro v hv
    rw [AV.vals_eq] at hv
    obtain ⟨x, hx, rfl⟩ := List.mem_map.1 hv
    rw [AV.oks_iff] at hok
    rw [cells_len (hok x hx), hone x hx]
  refine ⟨some ⟨b, 0, none⟩, cap, by rw [AV.vals_length, hn], by rw [AV.vals_length, hn]; exact hcap, hmax, hsz, fun _ => ⟨b, 0, rfl, fun i v hi j x hj => ?_⟩⟩
  rw [Nat.zero_add]
  exact hm _ _ (flat_get _ hsz i v j x hi hj)

/-- A new row, its first cells published. -/
theorem HpOk.newRow {base : Nat} {hp : Hp} {m : Mem} {w : World} (h : HpOk base hp m w) {cur : Array Value} {T : TypeId} {flat : List Value} (hpre : ∀ (j : Nat) (x : Value), flat[j]? = some x → cur[j]? = some x) :
    HpOk base hp (m.add w.heap.size flat) (w.alloc (.cells cur T)) ∧ m.le (m.add w.heap.size flat) := by
  obtain ⟨hf, hm⟩ := h.fresh
  have h' := h.world (w' := w.alloc (.cells cur T)) (alloc_old _)
  obtain ⟨h1, h2⟩ := h'.publish (b := w.heap.size) (vs := flat) (alloc_new _) hm hpre (fun p hp => hf.2.2 p hp)
  exact ⟨h1.weaken ⟨fun b x hb => by
    rw [Hp.delBlk_blk]; split
    · rename_i e; subst e; rw [hf.1] at hb; cases hb
    · exact hb, fun _ _ h => h, List.Sublist.refl _, fun _ h => h⟩, h2⟩

theorem HpOk.addSp {base : Nat} {hp : Hp} {m : Mem} {w : World} (h : HpOk base hp m w) {e : TypeId} {sz : Nat} {hd : Value} (ho : Own base m w e sz hd) (h1 : ∀ b, blockOf hd = some b → hp.blk b = none ∧ ∀ p ∈ hp.sp, blockOf p.2.2 ≠ some b) :
    HpOk base (hp.setSp ((e, sz, hd) :: hp.sp)) m w := by
  refine ⟨h.mem, h.blk, h.mp, fun e' sz' hd' hi => ?_, ?_, h.gl⟩
  · rcases List.mem_cons.1 hi with e1 | hi
    · simp only [Prod.mk.injEq] at e1
      obtain ⟨rfl, rfl, rfl⟩ := e1
      exact ⟨ho, fun b hb => (h1 b hb).1⟩
    · exact h.sp e' sz' hd' hi
  · refine List.Pairwise.cons (fun q hq b hb => (h1 b hb).2 q hq) h.spd

theorem Mem.add_none {m : Mem} {b : Nat} {vs : List Value} {o : Nat} (hm : m b o = none) (h : vs.length ≤ o) : m.add b vs b o = none := by
  simp [Mem.add, hm, List.getElem?_eq_none h]

/-- A slice literal, every place of it written, in order. -/
theorem aop_lit {o : Oper} {t e : TypeId} {len sz : Nat} {parts : Array (Nat × Operand)} (ho : o.op = .buildSlice t len parts) {K : St → Prop} {st : St} {z : Value} {xs : List AV}
    (hk : kindT P t = .sl e) (hsz : szT P e = some sz) (hz : zeroT P e = some z) (hzs : z.cells.size = sz) (hpos : 0 < sz) (hxs : evs st (parts.map (·.2)) = some xs) (hidx : parts.toList.map (·.1) = List.range len) (hsmall : len * sz ≤ 16777216)
    (hone : ∀ x ∈ xs, x.cells.length = sz) (hd : dstOk st o.dst)
    (h : ∀ b : Nat, K ((st.setHp (st.hp.setSp ((e, sz, .slice (some ⟨b, 0, none⟩) len len) :: st.hp.sp))).putO o.dst (.lst sz (.slice (some ⟨b, 0, none⟩) len len) xs))) : AOp P o K st := by
  intro F a w hr K' Q hK'
  obtain ⟨m, hm⟩ := hr.ex
  have hu := kind_sl hk
  obtain ⟨e1, o1⟩ := evs_arr hr hm hxs
  have hlen : parts.size = len := by have := congrArg List.length hidx; simpa using this
  have hxl : xs.length = len := by
    have := congrArg Array.size e1
    simp [AV.vals_length] at this; omega
  have hparts : (parts.map fun p => (p.1, a.eval p.2)).toList = (((List.range' 0 xs.length).zip xs).map fun p => (p.1, p.2.val)) := by
    have h1 : (parts.map fun p => (p.1, a.eval p.2)).toList = (parts.toList.map (·.1)).zip (parts.toList.map fun p => a.eval p.2) := by
      rw [Array.toList_map, List.zip_map', ]
    have h2 : parts.toList.map (fun p => a.eval p.2) = AV.vals xs := by
      have := congrArg Array.toList e1
      simpa [Array.toList_map, List.map_map, Function.comp_def] using this
    rw [h1, hidx, h2, AV.vals_eq, ← hxl, List.range_eq_range']
    rw [List.zip_map_right]
    apply List.map_congr_left
    intro p _; rfl
  obtain ⟨ie, hie, hsize⟩ := szT_info hsz
  have hzz : ie.zero = some z := by simpa [zeroT, hie] using hz
  subst hsize
  have hz0 : ((Array.range (len * ie.size)).map (z.cells[· % z.cells.size]!)) = (AV.vals (((Array.range (len * ie.size)).map (z.cells[· % z.cells.size]!)).toList.map AV.v)).toArray := by
    rw [map_v_vals]
  have hdense := fillA_dense ie.size xs 0 ((((Array.range (len * ie.size)).map (z.cells[· % z.cells.size]!)).toList.map AV.v)) (by simp [hxl]) hone
  obtain ⟨f1, f2⟩ := fillA_sound (m := m) _ _ _ hdense (fun p hp => by
    have := (List.of_mem_zip hp).2
    rw [AV.oks_iff] at o1; exact o1 _ this) (map_v_oks _ _)
  simp only [Nat.zero_mul, List.take_zero, List.nil_append] at f1 f2
  rw [← hparts, ← hz0] at f1
  have hrun0 : (Instr.buildSlice t len (parts.map fun p => (p.1, a.eval p.2))).run P w = .ok (.slice (some ⟨w.heap.size, 0, none⟩) len len) (w.alloc (.cells (AV.vals (xs.flatMap AV.cells)).toArray e)) := by
    by_cases h0 : len * ie.size = 0
    · have hl0 : len = 0 := by
        rcases Nat.mul_eq_zero.1 h0 with h | h
        · exact h
        · omega
      have hx0 : xs = [] := List.eq_nil_of_length_eq_zero (by omega)
      subst hx0; subst hl0
      have hp0 : (parts.map fun p => (p.1, a.eval p.2)).toList = [] := by rw [hparts]; rfl
      simp only [Instr.buildSlice, Sem.run_bind, run_underlying hu, Result.andThen_ok, run_sizeOf' hsz, Nat.zero_mul, hp0, Instr.fill]
      simp [newRow, AV.vals, go_sem]
    · have hsm : ¬ len * ie.size > 2 ^ 24 := by omega
      exact run_lit w t e len _ _ ie z hu hie hzz hsm h0 f1
  unfold Oper.wp
  have hrun : (execOp a.eval o).run P w = .ok (.value (.slice (some ⟨w.heap.size, 0, none⟩) len len)) (w.alloc (.cells (AV.vals (xs.flatMap AV.cells)).toArray e)) := by
    simp only [execOp, ho, Sem.run_bind]
    have : (parts.map fun (x : Nat × Operand) => match x with | (i, x) => (i, a.eval x)) = parts.map fun p => (p.1, a.eval p.2) := by rfl
    rw [this, hrun0]; rfl
  rw [hrun]
  have hfl := flat_vals xs o1
  have hcs : ∀ v ∈ AV.vals xs, v.cells.size = ie.size := by
    intro v hv
    rw [AV.vals_eq] at hv
    obtain ⟨x, hx, rfl⟩ := List.mem_map.1 hv
    rw [AV.oks_iff] at o1
    rw [cells_len (o1 x hx), hone x hx]
  have hflen : (AV.vals (xs.flatMap AV.cells)).length = len * ie.size := by rw [hfl, flat_length _ hcs, AV.vals_length, hxl]
  obtain ⟨hn, hle⟩ := hm.hp.newRow (cur := (AV.vals (xs.flatMap AV.cells)).toArray) (T := e) (flat := AV.vals (xs.flatMap AV.cells)) (fun j x hj => by simpa using hj)
  obtain ⟨hf, hmn⟩ := hm.hp.fresh
  have hown : Own F.base (m.add w.heap.size (AV.vals (xs.flatMap AV.cells))) (w.alloc (.cells (AV.vals (xs.flatMap AV.cells)).toArray e)) e ie.size (.slice (some ⟨w.heap.size, 0, none⟩) len len) :=
    .inr ⟨w.heap.size, len, len, _, rfl, hr.lo.bs, alloc_new _, by simp [hflen], Nat.le_refl _, by simp only [maxLen]; have := Nat.le_mul_of_pos_right len hpos; omega,
      fun k hk => Mem.add_none (hmn k) (by rw [hflen]; exact hk)⟩
  have hsp := hn.addSp hown (fun b hb => by
    simp only [blockOf, Option.some.injEq] at hb
    subst hb
    exact ⟨hf.1, hf.2.2⟩)
  refine hK' _ _ ⟨_, h w.heap.size, hr.close hm (hr.lo.alloc _) hle hsp hd (x := .lst ie.size (.slice (some ⟨w.heap.size, 0, none⟩) len len) xs) ⟨?_, AV.oks_mono hle _ o1⟩⟩
  refine hdr_flat (AV.oks_mono hle _ o1) hone hxl (Nat.le_refl _) (by simp only [maxLen]; have := Nat.le_mul_of_pos_right len hpos; omega) fun k x hk => ?_
  rw [← hfl] at hk
  exact Mem.add_self hk
end
end Go.AL
