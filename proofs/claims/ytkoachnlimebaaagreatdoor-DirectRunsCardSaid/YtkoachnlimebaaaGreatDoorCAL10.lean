/- Literals, maps. -/
import Derived.Test.YtkoachnlimebaaaGreatDoorCAL7
namespace Go.AL
section
variable {P : Program}

def fillA (place : Nat → Option (Nat × Nat)) (cells : List AV) : List (Nat × AV) → Option (List AV)
  | [] => some cells
  | (i, x) :: rest => match place i with
    | none => none
    | some (off, size) => if x.cells.length ≠ size ∨ off + x.cells.length > cells.length then none else fillA place (splice cells off x.cells) rest

theorem fold_splice (off : Nat) : ∀ (l : List Value) (k : Nat) (arr : List Value), off + k + l.length ≤ arr.length →
    (l.zipIdx k).foldl (fun (cs : Array Value) (p : Value × Nat) => cs.setIfInBounds (off + p.2) p.1) arr.toArray = (arr.take (off + k) ++ l ++ arr.drop (off + k + l.length)).toArray
  | [], k, arr, _ => by simp
  | v :: l, k, arr, h => by
    simp only [List.length_cons] at h
    simp only [List.zipIdx_cons, List.foldl_cons, List.setIfInBounds_toArray]
    rw [fold_splice off l (k + 1) (arr.set (off + k) v) (by simp; omega)]
    congr 1
    apply List.ext_getElem?
    intro i
    simp only [List.getElem?_append, List.length_append, List.length_take, List.length_set, List.getElem?_take, List.getElem?_drop, List.getElem?_set, List.length_cons]
    have e1 : min (off + (k + 1)) arr.length = off + k + 1 := by omega
    have e2 : min (off + k) arr.length = off + k := by omega
    simp only [e1, e2]
    by_cases h1 : i < off + k
    · have : i < off + k + 1 := by omega
      have h2 : ¬ (off + k = i) := by omega
      simp [h1, this, h2, show i < off + k + 1 + l.length by omega, show i < off + k + (l.length + 1) by omega, show i < off + (k + 1) by omega]
    · by_cases h2 : i = off + k
      · subst h2; simp [show off + k < off + k + 1 + l.length by omega, show off + k < off + (k + 1) by omega, show off + k < off + k + (l.length + 1) by omega]; omega
      · by_cases h3 : i < off + k + 1 + l.length
        · have : ¬ i < off + k + 1 := by omega
          simp only [h3, this, h1, show i < off + k + (l.length + 1) by omega, if_true, if_false]
          rw [show i - (off + k) = (i - (off + k + 1)) + 1 by omega, List.getElem?_cons_succ]
        · have : ¬ i < off + k + (l.length + 1) := by omega
          simp only [h3, this, if_false]
          rw [if_neg (by omega)]
          congr 1; omega

theorem fillA_sound {place : Nat → Option (Nat × Nat)} {m : Mem} : ∀ (parts : List (Nat × AV)) (cells cells' : List AV), fillA place cells parts = some cells' → (∀ p ∈ parts, p.2.ok m) → AV.oks m cells →
    Instr.fill place (AV.vals cells).toArray (parts.map fun p => (p.1, p.2.val)) = some (AV.vals cells').toArray ∧ AV.oks m cells'
  | [], cells, cells', h, _, hc => by
    simp only [fillA, Option.some.injEq] at h; subst h; exact ⟨rfl, hc⟩
  | (i, x) :: rest, cells, cells', h, hp, hc => by
    simp only [fillA] at h
    split at h
    · cases h
    · rename_i off size hpl
      split at h
      · cases h
      · rename_i hcond
        have hx := hp (i, x) (by simp)
        have hcx := AV.cells_of x hx
        have hlen : x.val.cells.size = x.cells.length := by rw [← Array.length_toList, ← hcx, AV.vals_length]
        obtain ⟨h1, h2⟩ := fillA_sound rest _ _ h (fun p hp' => hp p (by simp [hp'])) (oks_splice off hc (AV.oks_cells x hx))
        refine ⟨?_, h2⟩
        simp only [List.map_cons, Instr.fill, hpl]
        have hsz : (AV.vals cells).toArray.size = cells.length := by simp [AV.vals_length]
        have hc' : (decide (x.val.cells.size ≠ size) || decide (off + x.val.cells.size > (AV.vals cells).toArray.size)) = false := by
          rw [hlen, hsz]; simp; omega
        simp only [hc', Bool.false_eq_true, if_false]
        rw [← h1]
        congr 1
        have hf := fold_splice off x.val.cells.toList 0 (AV.vals cells) (by rw [← hcx, AV.vals_length, AV.vals_length]; omega)
        rw [← Array.foldl_toList, Array.toList_zipIdx]
        refine Eq.trans hf ?_
        rw [← hcx]
        simp [splice, AV.vals_append, AV.vals_take, AV.vals_drop, AV.vals_length]

def evParts (st : St) (l : List (Nat × Operand)) : Option (List (Nat × AV)) := l.mapM fun p => (st.ev p.2).map fun x => (p.1, x)

theorem evParts_sound {st : St} {F : Fr} {ac : Act} {w : World} {m : Mem} (hr : Rel F st ac w) (hm : RelM F st ac w m) :
    ∀ (l : List (Nat × Operand)) (xs : List (Nat × AV)), evParts st l = some xs → (l.map fun p => (p.1, ac.eval p.2)) = xs.map (fun p => (p.1, p.2.val)) ∧ ∀ p ∈ xs, p.2.ok m
  | [], xs, h => by simp [evParts] at h; subst h; exact ⟨rfl, by simp⟩
  | p :: l, xs, h => by
    simp only [evParts, List.mapM_cons, Option.bind_eq_bind, Option.bind_eq_some_iff, Option.map_eq_some_iff] at h
    obtain ⟨q, ⟨x, hx, rfl⟩, ys, hy, e⟩ := h
    simp at e; subst e
    obtain ⟨h1, h2⟩ := evParts_sound hr hm l ys hy
    refine ⟨by simp [hr.eval hx, h1], ?_⟩
    intro q hq
    rcases List.mem_cons.1 hq with rfl | hq
    · exact hm.ok hx
    · exact h2 q hq

/-- A struct literal. -/
theorem aop_build {o : Oper} {t : TypeId} {parts : Array (Nat × Operand)} (ho : o.op = .build t parts) {K : St → Prop} {st : St} {fs : List (Nat × TypeId × Nat)} {z : Value} {xs : List (Nat × AV)} {cells : List AV}
    (hk : kindT P t = .st fs) (hz : zeroT P t = some z) (hxs : evParts st parts.toList = some xs)
    (hsz : fs.all (fun f => (szT P f.2.1).isSome) = true)
    (hf : fillA (fun i => (fs[i]?).map fun f => (f.1, f.2.2)) (z.cells.toList.map AV.v) xs = some cells) (hd : dstOk st o.dst) (h : K (st.putO o.dst (.agg cells))) : AOp P o K st := by
  intro F a w hr K' Q hK'
  obtain ⟨m, hm⟩ := hr.ex
  obtain ⟨fl, hu, rfl⟩ := kind_st hk
  obtain ⟨e1, o1⟩ := evParts_sound hr hm parts.toList xs hxs
  obtain ⟨f1, f2⟩ := fillA_sound (m := m) xs _ cells hf o1 (map_v_oks _ _)
  rw [map_v_vals] at f1
  have hpl : fl.toList.mapM (fun f => (P.info? f.type).map fun i => (f.offset, i.size)) = some (fl.toList.map fun f => (f.offset, (szT P f.type).getD 0)) := by
    have hs : ∀ f ∈ fl.toList, (szT P f.type).isSome = true := by
      intro f hf
      have := List.all_eq_true.1 hsz (f.offset, f.type, (szT P f.type).getD 0) (List.mem_map.2 ⟨f, hf, rfl⟩)
      exact this
    clear hf hsz hu hk f1
    generalize fl.toList = l at hs
    induction l with
    | nil => rfl
    | cons f l ih =>
      rw [List.mapM_cons]
      have h0 := hs f (by simp)
      unfold szT at h0 ⊢
      cases hi : P.info? f.type with
      | none => simp [hi] at h0
      | some i =>
        have := ih (fun g hg => hs g (by simp [hg]))
        unfold szT at this
        simp [this, hi]
  have hb : P.built t (parts.map fun p => (p.1, a.eval p.2)).toList = some (AV.vals cells).toArray := by
    unfold zeroT at hz
    cases hi : P.info? t with
    | none => simp [hi] at hz
    | some it =>
      simp only [hi, Option.bind_some] at hz
      simp only [Program.built, hi, hu, hz, hpl]
      rw [Array.toList_map, e1, ← f1]
      simp only [Array.toArray_toList]
      congr 1
      funext i
      simp only [List.getElem?_toArray, List.getElem?_map, Option.map_map]
      rfl
  unfold Oper.wp
  have hrun : (execOp a.eval o).run P w = .ok (.value (.agg (AV.vals cells).toArray)) w := by
    simp only [execOp, ho, Sem.run_bind]
    rw [run_build w t _ _ hb]; rfl
  rw [hrun]
  exact hK' _ _ ⟨_, h, hr.putM hm hd (x := .agg cells) f2⟩

/-- An array literal. -/
theorem aop_buildA {o : Oper} {t e : TypeId} {len n : Nat} {parts : Array (Nat × Operand)} (ho : o.op = .build t parts) {K : St → Prop} {st : St} {z : Value} {xs : List (Nat × AV)} {cells : List AV}
    (hk : kindT P t = .ar len e) (hz : zeroT P t = some z) (hn : szT P e = some n) (hxs : evParts st parts.toList = some xs)
    (hf : fillA (fun i => some (i * n, n)) (z.cells.toList.map AV.v) xs = some cells) (hd : dstOk st o.dst) (h : K (st.putO o.dst (.agg cells))) : AOp P o K st := by
  intro F a w hr K' Q hK'
  obtain ⟨m, hm⟩ := hr.ex
  have hu := kind_ar hk
  obtain ⟨e1, o1⟩ := evParts_sound hr hm parts.toList xs hxs
  obtain ⟨f1, f2⟩ := fillA_sound (m := m) xs _ cells hf o1 (map_v_oks _ _)
  rw [map_v_vals] at f1
  unfold Oper.wp
  have hrun : (execOp a.eval o).run P w = .ok (.value (.agg (AV.vals cells).toArray)) w := by
    have hz' : (zeroValue t).run P w = .ok z w := run_zero hz
    have hp : (parts.map fun p => (p.1, a.eval p.2)).toList = xs.map fun p => (p.1, p.2.val) := by rw [Array.toList_map, e1]
    simp only [execOp, ho, Instr.build, Sem.run_bind, hz', Result.andThen_ok, run_underlying hu, run_sizeOf' hn, hp]
    rw [← Array.toArray_toList (xs := z.cells), f1]
    rfl
  rw [hrun]
  exact hK' _ _ ⟨_, h, hr.putM hm hd (x := .agg cells) f2⟩

theorem fillA_dense (sz : Nat) : ∀ (xs : List AV) (k : Nat) (cells : List AV), cells.length = (k + xs.length) * sz → (∀ x ∈ xs, x.cells.length = sz) →
    fillA (fun i => some (i * sz, sz)) cells ((List.range' k xs.length).zip xs) = some (cells.take (k * sz) ++ xs.flatMap AV.cells)
  | [], k, cells, h, _ => by
    simp [fillA]
    rw [List.take_of_length_le (by simp at h; omega)]
  | x :: xs, k, cells, h, hx => by
    have h0 := hx x (by simp)
    have hl : cells.length = k * sz + sz + xs.length * sz := by rw [h]; simp only [List.length_cons]; rw [Nat.add_mul, Nat.add_mul]; omega
    simp only [List.length_cons, List.range'_succ, List.zip_cons_cons, fillA]
    rw [if_neg (by rw [h0]; simp; omega)]
    have e1 : (splice cells (k * sz) x.cells).length = (k + 1 + xs.length) * sz := by
      simp only [splice, List.length_append, List.length_take, List.length_drop, h0, Nat.add_mul]
      omega
    rw [fillA_dense sz xs (k + 1) _ e1 (fun y hy => hx y (by simp [hy]))]
    congr 1
    simp only [List.flatMap_cons, splice]
    rw [← List.append_assoc]
    congr 1
    rw [List.take_append_of_le_length (by simp [h0, Nat.add_mul]; omega)]
    rw [List.take_of_length_le (by simp [h0, Nat.add_mul]; omega)]

theorem run_lit (w : World) (t e : TypeId) (len : Nat) (parts : Array (Nat × Value)) (cells : Array Value) (ie : TypeInfo) (z : Value)
    (hu : P.underlying t = some (.slice e)) (hie : P.info? e = some ie) (hz : ie.zero = some z) (hsmall : ¬ len * ie.size > 2 ^ 24) (hpos : ¬ len * ie.size = 0)
    (h : Instr.fill (fun i => some (i * ie.size, ie.size)) ((Array.range (len * ie.size)).map (z.cells[· % z.cells.size]!)) parts.toList = some cells) :
    (Instr.buildSlice t len parts).run P w = .ok (.slice (some ⟨w.heap.size, 0, none⟩) len len) (w.alloc (.cells cells e)) := by
  simp [Instr.buildSlice, run_underlying hu, sizeOf, typeInfo, zeroValue, hie, hz, hsmall, hpos, h, newRow]

theorem flat_get {sz : Nat} : ∀ (vs : List Value), (∀ v ∈ vs, v.cells.size = sz) → ∀ (i : Nat) (v : Value) (j : Nat) (x : Value), vs[i]? = some v → v.cells[j]? = some x → (vs.flatMap fun v => v.cells.toList)[i * sz + j]? = some x
  | [], _, _, _, _, _, h, _ => by cases h
  | u :: vs, hs, i, v, j, x, hi, hj => by
    have hu := hs u (by simp)
    rw [List.flatMap_cons]
    cases i with
    | zero =>
      simp only [List.getElem?_cons_zero, Option.some.injEq] at hi
      subst hi
      have hlt : j < u.cells.size := (Array.getElem?_eq_some_iff.1 hj).1
      rw [Nat.zero_mul, Nat.zero_add, List.getElem?_append_left (by simpa using hlt)]
      simpa using hj
    | succ i =>
      rw [List.getElem?_cons_succ] at hi
      rw [List.getElem?_append_right (by simp [hu, Nat.add_mul]; omega)]
      have : (i + 1) * sz + j - u.cells.toList.length = i * sz + j := by simp [hu, Nat.add_mul]; omega
      rw [this]
      exact flat_get vs (fun y hy => hs y (by simp [hy])) i v j x hi hj

theorem flat_length {sz : Nat} : ∀ (vs : List Value), (∀ v ∈ vs, v.cells.size = sz) → (vs.flatMap fun v => v.cells.toList).length = vs.length * sz
  | [], _ => by simp
  | u :: vs, hs => by
    rw [List.flatMap_cons, List.length_append, flat_length vs (fun y hy => hs y (by simp [hy]))]
    simp [hs u (by simp), Nat.add_mul]; omega

theorem flat_vals {m : Mem} : ∀ (xs : List AV), AV.oks m xs → AV.vals (xs.flatMap AV.cells) = (AV.vals xs).flatMap fun v => v.cells.toList
  | [], _ => rfl
  | x :: xs, h => by
    rw [List.flatMap_cons, AV.vals_append, flat_vals xs h.2, AV.cells_of x h.1]; rfl

theorem cells_len {m : Mem} {x : AV} (h : x.ok m) : x.val.cells.size = x.cells.length := by
  rw [← Array.length_toList, ← AV.cells_of x h, AV.vals_length]

theorem hdr_flat {m : Mem} {sz b n cap : Nat} {xs : List AV} (hok : AV.oks m xs) (hone : ∀ x ∈ xs, x.cells.length = sz) (hn : xs.length = n) (hcap : n ≤ cap) (hmax : cap ≤ maxLen)
    (hm : ∀ (k : Nat) (x : Value), ((AV.vals xs).flatMap fun v => v.cells.toList)[k]? = some x → m b k = some x) : Hdr m sz (.slice (some ⟨b, 0, none⟩) n cap) (AV.vals xs) := by
  have hsz : ∀ v ∈ AV.vals xs, v.cells.size = sz := by
    intro v hv
    rw [AV.vals_eq] at hv
    obtain ⟨x, hx, rfl⟩ := List.mem_map.1 hv
    rw [AV.oks_iff] at hok
    rw [cells_len (hok x hx), hone x hx]
  refine ⟨some ⟨b, 0, none⟩, cap, by rw [AV.vals_length, hn], by rw [AV.vals_length, hn]; exact hcap, hmax, hsz, fun _ => ⟨b, 0, rfl, fun i v hi j x hj => ?_⟩⟩
  rw [Nat.zero_add]
  exact hm _ _ (flat_get _ hsz i v j x hi hj)

/-- A new row, its first cells published. -/
theorem HpOk.newRow {base : Nat} {hp : Hp} {m : Mem} {w : World} (h : HpOk base hp m w) {cur : Array Value} {T : TypeId} {flat : List Value} (hpre : ∀ (j : Nat) (x : Value), flat[j]? = some x → cur[j]? = some x) :
    HpOk base hp (m.add w.heap.size flat) (w.alloc (.cells cur T)) ∧ m.le (m.add w.heap.size flat) := by
  obtain ⟨hf, hm⟩ := h.fresh
  have h' := h.world (w' := w.alloc (.cells cur T)) (alloc_old _)
  obtain ⟨h1, h2⟩ := h'.publish (b := w.heap.size) (vs := flat) (alloc_new _) hm hpre (fun p hp => hf.2.2 p hp)
  exact ⟨h1.weaken ⟨fun b x hb => by
    rw [Hp.delBlk_blk]; split
    · rename_i e; subst e; rw [hf.1] at hb; cases hb
    · exact hb, fun _ _ h => h, List.Sublist.refl _, fun _ h => h⟩, h2⟩

theorem HpOk.addSp {base : Nat} {hp : Hp} {m : Mem} {w : World} (h : HpOk base hp m w) {e : TypeId} {sz : Nat} {hd : Value} (ho : Own base m w e sz hd) (h1 : ∀ b, blockOf hd = some b → hp.blk b = none ∧ ∀ p ∈ hp.sp, blockOf p.2.2 ≠ some b) :
    HpOk base (hp.setSp ((e, sz, hd) :: hp.sp)) m w := by
  refine ⟨h.mem, h.blk, h.mp, fun e' sz' hd' hi => ?_, ?_, h.gl⟩
  · rcases List.mem_cons.1 hi with e1 | hi
    · simp only [Prod.mk.injEq] at e1
      obtain ⟨rfl, rfl, rfl⟩ := e1
      exact ⟨ho, fun b hb => (h1 b hb).1⟩
    · exact h.sp e' sz' hd' hi
  · refine List.Pairwise.cons (fun q hq b hb => (h1 b hb).2 q hq) h.spd

theorem Mem.add_none {m : Mem} {b : Nat} {vs : List Value} {o : Nat} (hm : m b o = none) (h : vs.length ≤ o) : m.add b vs b o = none := by
  simp [Mem.add, hm, List.getElem?_eq_none h]

/-- A slice literal, every place of it written, in order. -/
theorem aop_lit {o : Oper} {t e : TypeId} {len sz : Nat} {parts : Array (Nat × Operand)} (ho : o.op = .buildSlice t len parts) {K : St → Prop} {st : St} {z : Value} {xs : List AV}
    (hk : kindT P t = .sl e) (hsz : szT P e = some sz) (hz : zeroT P e = some z) (hzs : z.cells.size = sz) (hpos : 0 < sz) (hxs : evs st (parts.map (·.2)) = some xs) (hidx : parts.toList.map (·.1) = List.range len) (hsmall : len * sz ≤ 16777216)
    (hone : ∀ x ∈ xs, x.cells.length = sz) (hd : dstOk st o.dst)
    (h : ∀ b : Nat, K ((st.setHp (st.hp.setSp ((e, sz, .slice (some ⟨b, 0, none⟩) len len) :: st.hp.sp))).putO o.dst (.lst sz (.slice (some ⟨b, 0, none⟩) len len) xs))) : AOp P o K st := by
  intro F a w hr K' Q hK'
  obtain ⟨m, hm⟩ := hr.ex
  have hu := kind_sl hk
  obtain ⟨e1, o1⟩ := evs_arr hr hm hxs
  have hlen : parts.size = len := by have := congrArg List.length hidx; simpa using this
  have hxl : xs.length = len := by
    have := congrArg Array.size e1
    simp [AV.vals_length] at this; omega
  have hparts : (parts.map fun p => (p.1, a.eval p.2)).toList = (((List.range' 0 xs.length).zip xs).map fun p => (p.1, p.2.val)) := by
    have h1 : (parts.map fun p => (p.1, a.eval p.2)).toList = (parts.toList.map (·.1)).zip (parts.toList.map fun p => a.eval p.2) := by
      rw [Array.toList_map, List.zip_map', ]
    have h2 : parts.toList.map (fun p => a.eval p.2) = AV.vals xs := by
      have := congrArg Array.toList e1
      simpa [Array.toList_map, List.map_map, Function.comp_def] using this
    rw [h1, hidx, h2, AV.vals_eq, ← hxl, List.range_eq_range']
    rw [List.zip_map_right]
    apply List.map_congr_left
    intro p _; rfl
  obtain ⟨ie, hie, hsize⟩ := szT_info hsz
  have hzz : ie.zero = some z := by simpa [zeroT, hie] using hz
  subst hsize
  have hz0 : ((Array.range (len * ie.size)).map (z.cells[· % z.cells.size]!)) = (AV.vals (((Array.range (len * ie.size)).map (z.cells[· % z.cells.size]!)).toList.map AV.v)).toArray := by
    rw [map_v_vals]
  have hdense := fillA_dense ie.size xs 0 ((((Array.range (len * ie.size)).map (z.cells[· % z.cells.size]!)).toList.map AV.v)) (by simp [hxl]) hone
  obtain ⟨f1, f2⟩ := fillA_sound (m := m) _ _ _ hdense (fun p hp => by
    have := (List.of_mem_zip hp).2
    rw [AV.oks_iff] at o1; exact o1 _ this) (map_v_oks _ _)
  simp only [Nat.zero_mul, List.take_zero, List.nil_append] at f1 f2
  rw [← hparts, ← hz0] at f1
  have hrun0 : (Instr.buildSlice t len (parts.map fun p => (p.1, a.eval p.2))).run P w = .ok (.slice (some ⟨w.heap.size, 0, none⟩) len len) (w.alloc (.cells (AV.vals (xs.flatMap AV.cells)).toArray e)) := by
    by_cases h0 : len * ie.size = 0
    · have hl0 : len = 0 := by
        rcases Nat.mul_eq_zero.1 h0 with h | h
        · exact h
        · omega
      have hx0 : xs = [] := List.eq_nil_of_length_eq_zero (by omega)
      subst hx0; subst hl0
      have hp0 : (parts.map fun p => (p.1, a.eval p.2)).toList = [] := by rw [hparts]; rfl
      simp only [Instr.buildSlice, Sem.run_bind, run_underlying hu, Result.andThen_ok, run_sizeOf' hsz, Nat.zero_mul, hp0, Instr.fill]
      simp [newRow, AV.vals, go_sem]
    · have hsm : ¬ len * ie.size > 2 ^ 24 := by omega
      exact run_lit w t e len _ _ ie z hu hie hzz hsm h0 f1
  unfold Oper.wp
  have hrun : (execOp a.eval o).run P w = .ok (.value (.slice (some ⟨w.heap.size, 0, none⟩) len len)) (w.alloc (.cells (AV.vals (xs.flatMap AV.cells)).toArray e)) := by
    simp only [execOp, ho, Sem.run_bind]
    have : (parts.map fun (x : Nat × Operand) => match x with | (i, x) => (i, a.eval x)) = parts.map fun p => (p.1, a.eval p.2) := by rfl
    rw [this, hrun0]; rfl
  rw [hrun]
  have hfl := flat_vals xs o1
  have hcs : ∀ v ∈ AV.vals xs, v.cells.size = ie.size := by
    intro v hv
    rw [AV.vals_eq] at hv
    obtain ⟨x, hx, rfl⟩ := List.mem_map.1 hv
    rw [AV.oks_iff] at o1
    rw [cells_len (o1 x hx), hone x hx]
  have hflen : (AV.vals (xs.flatMap AV.cells)).length = len * ie.size := by rw [hfl, flat_length _ hcs, AV.vals_length, hxl]
  obtain ⟨hn, hle⟩ := hm.hp.newRow (cur := (AV.vals (xs.flatMap AV.cells)).toArray) (T := e) (flat := AV.vals (xs.flatMap AV.cells)) (fun j x hj => by simpa using hj)
  obtain ⟨hf, hmn⟩ := hm.hp.fresh
  have hown : Own F.base (m.add w.heap.size (AV.vals (xs.flatMap AV.cells))) (w.alloc (.cells (AV.vals (xs.flatMap AV.cells)).toArray e)) e ie.size (.slice (some ⟨w.heap.size, 0, none⟩) len len) :=
    .inr ⟨w.heap.size, len, len, _, rfl, hr.lo.bs, alloc_new _, by simp [hflen], Nat.le_refl _, by simp only [maxLen]; have := Nat.le_mul_of_pos_right len hpos; omega,
      fun k hk => Mem.add_none (hmn k) (by rw [hflen]; exact hk)⟩
  have hsp := hn.addSp hown (fun b hb => by
    simp only [blockOf, Option.some.injEq] at hb
    subst hb
    exact ⟨hf.1, hf.2.2⟩)
  refine hK' _ _ ⟨_, h w.heap.size, hr.close hm (hr.lo.alloc _) hle hsp hd (x := .lst ie.size (.slice (some ⟨w.heap.size, 0, none⟩) len len) xs) ⟨?_, AV.oks_mono hle _ o1⟩⟩
  refine hdr_flat (AV.oks_mono hle _ o1) hone hxl (Nat.le_refl _) (by simp only [maxLen]; have := Nat.le_mul_of_pos_right len hpos; omega) fun k x hk => ?_
  rw [← hfl] at hk
  exact Mem.add_self hk
/-- A slice literal whose row stays tracked. -/
theorem aop_litB {o : Oper} {t e : TypeId} {len sz : Nat} {parts : Array (Nat × Operand)} (ho : o.op = .buildSlice t len parts) {K : St → Prop} {st : St} {z : Value} {xs : List AV}
    (hk : kindT P t = .sl e) (hsz : szT P e = some sz) (hz : zeroT P e = some z) (hzs : z.cells.size = sz) (hpos : 0 < sz) (hxs : evs st (parts.map (·.2)) = some xs) (hidx : parts.toList.map (·.1) = List.range len) (hsmall : len * sz ≤ 16777216)
    (hone : ∀ x ∈ xs, x.cells.length = sz) (hd : dstOk st o.dst)
    (h : ∀ b : Nat, Fresh st.hp b → K ((st.setHp (st.hp.setBlk b e (xs.flatMap AV.cells))).putO o.dst (.v (.slice (some ⟨b, 0, none⟩) len len)))) : AOp P o K st := by
  intro F a w hr K' Q hK'
  obtain ⟨m, hm⟩ := hr.ex
  have hu := kind_sl hk
  obtain ⟨e1, o1⟩ := evs_arr hr hm hxs
  have hlen : parts.size = len := by have := congrArg List.length hidx; simpa using this
  have hxl : xs.length = len := by
    have := congrArg Array.size e1
    simp [AV.vals_length] at this; omega
  have hparts : (parts.map fun p => (p.1, a.eval p.2)).toList = (((List.range' 0 xs.length).zip xs).map fun p => (p.1, p.2.val)) := by
    have h1 : (parts.map fun p => (p.1, a.eval p.2)).toList = (parts.toList.map (·.1)).zip (parts.toList.map fun p => a.eval p.2) := by
      rw [Array.toList_map, List.zip_map', ]
    have h2 : parts.toList.map (fun p => a.eval p.2) = AV.vals xs := by
      have := congrArg Array.toList e1
      simpa [Array.toList_map, List.map_map, Function.comp_def] using this
    rw [h1, hidx, h2, AV.vals_eq, ← hxl, List.range_eq_range']
    rw [List.zip_map_right]
    apply List.map_congr_left
    intro p _; rfl
  obtain ⟨ie, hie, hsize⟩ := szT_info hsz
  have hzz : ie.zero = some z := by simpa [zeroT, hie] using hz
  subst hsize
  have hz0 : ((Array.range (len * ie.size)).map (z.cells[· % z.cells.size]!)) = (AV.vals (((Array.range (len * ie.size)).map (z.cells[· % z.cells.size]!)).toList.map AV.v)).toArray := by
    rw [map_v_vals]
  have hdense := fillA_dense ie.size xs 0 ((((Array.range (len * ie.size)).map (z.cells[· % z.cells.size]!)).toList.map AV.v)) (by simp [hxl]) hone
  obtain ⟨f1, f2⟩ := fillA_sound (m := m) _ _ _ hdense (fun p hp => by
    have := (List.of_mem_zip hp).2
    rw [AV.oks_iff] at o1; exact o1 _ this) (map_v_oks _ _)
  simp only [Nat.zero_mul, List.take_zero, List.nil_append] at f1 f2
  rw [← hparts, ← hz0] at f1
  have hrun0 : (Instr.buildSlice t len (parts.map fun p => (p.1, a.eval p.2))).run P w = .ok (.slice (some ⟨w.heap.size, 0, none⟩) len len) (w.alloc (.cells (AV.vals (xs.flatMap AV.cells)).toArray e)) := by
    by_cases h0 : len * ie.size = 0
    · have hl0 : len = 0 := by
        rcases Nat.mul_eq_zero.1 h0 with h | h
        · exact h
        · omega
      have hx0 : xs = [] := List.eq_nil_of_length_eq_zero (by omega)
      subst hx0; subst hl0
      have hp0 : (parts.map fun p => (p.1, a.eval p.2)).toList = [] := by rw [hparts]; rfl
      simp only [Instr.buildSlice, Sem.run_bind, run_underlying hu, Result.andThen_ok, run_sizeOf' hsz, Nat.zero_mul, hp0, Instr.fill]
      simp [newRow, AV.vals, go_sem]
    · have hsm : ¬ len * ie.size > 2 ^ 24 := by omega
      exact run_lit w t e len _ _ ie z hu hie hzz hsm h0 f1
  unfold Oper.wp
  have hrun : (execOp a.eval o).run P w = .ok (.value (.slice (some ⟨w.heap.size, 0, none⟩) len len)) (w.alloc (.cells (AV.vals (xs.flatMap AV.cells)).toArray e)) := by
    simp only [execOp, ho, Sem.run_bind]
    have : (parts.map fun (x : Nat × Operand) => match x with | (i, x) => (i, a.eval x)) = parts.map fun p => (p.1, a.eval p.2) := by rfl
    rw [this, hrun0]; rfl
  rw [hrun]
  have hoc : AV.oks m (xs.flatMap AV.cells) := by
    rw [AV.oks_iff]
    intro c hc
    obtain ⟨x, hx, hc⟩ := List.mem_flatMap.1 hc
    rw [AV.oks_iff] at o1
    have := AV.oks_cells x (o1 x hx)
    rw [AV.oks_iff] at this
    exact this c hc
  have hn := hm.hp.setNew hr.lo.bs (T := e) (cs := xs.flatMap AV.cells) hoc
  exact hK' _ _ ⟨_, h _ hm.hp.fresh.1, hr.close hm (hr.lo.alloc _) (Mem.le_refl m) hn hd (x := .v (.slice (some ⟨w.heap.size, 0, none⟩) len len)) trivial⟩
end
end Go.AL
/- Append. -/
namespace Go.AL
section
variable {P : Program}

def bytesT (P : Program) (t : TypeId) : Option Nat := (P.info? t).map (·.bytes)

/-- Further places are published. -/
def Mem.ext (m : Mem) (f : Nat → Nat → Option Value) : Mem := fun b o => match m b o with | some v => some v | none => f b o
theorem Mem.le_ext (m : Mem) (f : Nat → Nat → Option Value) : m.le (m.ext f) := fun b o x h => by simp [Mem.ext, h]

theorem spd_set {l1 l2 : List (TypeId × Nat × Value)} {p q : TypeId × Nat × Value} (h : (l1 ++ p :: l2).Pairwise (fun p q => ∀ b, blockOf p.2.2 = some b → blockOf q.2.2 ≠ some b))
    (hq : ∀ b, blockOf q.2.2 = some b → blockOf p.2.2 = some b ∨ ∀ r ∈ l1 ++ l2, blockOf r.2.2 ≠ some b) : (l1 ++ q :: l2).Pairwise (fun p q => ∀ b, blockOf p.2.2 = some b → blockOf q.2.2 ≠ some b) := by
  rw [List.pairwise_append, List.pairwise_cons] at *
  obtain ⟨h1, ⟨h2, h3⟩, h4⟩ := h
  refine ⟨h1, ⟨fun r hr b hb => ?_, h3⟩, fun r hr s hs b hb => ?_⟩
  · rcases hq b hb with e | e
    · exact h2 r hr b e
    · exact e r (by simp [hr])
  · rcases List.mem_cons.1 hs with rfl | hs
    · intro hc
      rcases hq b hc with e | e
      · exact h4 r hr p (by simp) b hb e
      · exact e r (by simp [hr]) hb
    · exact h4 r hr s (by simp [hs]) b hb

theorem run_append_zero {w : World} {t ty e : TypeId} {base : Option Addr} {n cap : Nat} {x : Value} {sz : Nat} (hu : P.underlying t = some (.slice e)) (hsz : szT P e = some sz) (hle : n ≤ cap) (hx : ∃ a c, x = .slice a 0 c) :
    (Builtin.append_ #[t, t] ty #[.slice base n cap, x]).run P w = .ok (.slice base n cap) w := by
  obtain ⟨a, c, rfl⟩ := hx
  cases base <;> cases a <;> simp [Builtin.append_, run_underlying hu, run_sizeOf' hsz, Builtin.lenOf, hle, Builtin.firstCells, loadCells, loadCellsFrom, storeCells]

/-- How an append comes out: the same row, or a new one. -/
theorem append_core {base : Nat} {hp : Hp} {m : Mem} {w : World} {t ty e : TypeId} {sz by_ : Nat} {z : Value} {h h2 : Value} {xs ys : List AV} {l1 l2 : List (TypeId × Nat × Value)}
    (hhp : HpOk base hp m w) (hbase : base ≤ w.heap.size) (hu : P.underlying t = some (.slice e)) (hsz : szT P e = some sz) (hby : bytesT P e = some by_) (hz : zeroT P e = some z) (hzs : z.cells.size = sz) (hpos : 0 < sz)
    (hx : (AV.lst sz h xs).ok m) (hy : (AV.lst sz h2 ys).ok m) (hone : (ys.flatMap AV.cells).all AV.one = true)
    (hsp : hp.sp = l1 ++ (e, sz, h) :: l2) (h63 : xs.length + ys.length ≤ maxLen) (hbytes : (xs.length + ys.length) * by_ ≤ 140737488355328) :
    ∃ h' w' m', (Builtin.append_ #[t, t] ty #[h, h2]).run P w = .ok h' w' ∧ w'.os = w.os ∧ w'.tape = w.tape ∧ w'.output = w.output ∧ w.heap.size ≤ w'.heap.size ∧ (∀ k, k < base → w'.heap[k]? = w.heap[k]?) ∧
      m.le m' ∧ HpOk base (hp.setSp (l1 ++ (e, sz, h') :: l2)) m' w' ∧ (AV.lst sz h' (xs ++ ys)).ok m' := by
  obtain ⟨ie, hie, hsize⟩ := szT_info hsz
  have hzz : ie.zero = some z := by simpa [zeroT, hie] using hz
  have hbb : ie.bytes = by_ := by simpa [bytesT, hie] using hby
  subst hsize; subst hbb
  obtain ⟨hxh, hxo⟩ := hx
  obtain ⟨hyh, hyo⟩ := hy
  obtain ⟨ax, cap, rfl, hcap, hmax, hxs, hxr⟩ := hxh
  obtain ⟨ay, capy, rfl, hcapy, hmaxy, hys, hyr⟩ := hyh
  simp only [AV.vals_length] at hsp hcap hcapy ⊢
  have hxone : ∀ x ∈ xs, x.cells.length = ie.size := by
    intro x hx
    have := hxs x.val (by rw [AV.vals_eq]; exact List.mem_map_of_mem hx)
    rw [AV.oks_iff] at hxo
    rwa [cells_len (hxo x hx)] at this
  have hyone : ∀ x ∈ ys, x.cells.length = ie.size := by
    intro x hx
    have := hys x.val (by rw [AV.vals_eq]; exact List.mem_map_of_mem hx)
    rw [AV.oks_iff] at hyo
    rwa [cells_len (hyo x hx)] at this
  have hown := (hhp.sp e ie.size (.slice ax xs.length cap) (by rw [hsp]; simp)).1
  have hblk := (hhp.sp e ie.size (.slice ax xs.length cap) (by rw [hsp]; simp)).2
  by_cases hy0 : ys = []
  · subst hy0
    refine ⟨_, w, m, run_append_zero hu hsz hcap ⟨ay, capy, rfl⟩, rfl, rfl, rfl, Nat.le_refl _, fun _ _ => rfl, Mem.le_refl m, ?_, ?_⟩
    · rw [← hsp]; exact hhp
    · rw [List.append_nil]; exact ⟨⟨ax, cap, by rw [AV.vals_length], by rw [AV.vals_length]; exact hcap, hmax, hxs, hxr⟩, hxo⟩
  -- there is something to append
  have hyne : AV.vals ys ≠ [] := by rw [AV.vals_eq]; simpa using hy0
  obtain ⟨by2, offy, rfl, hyr2⟩ := hyr hyne
  clear hyr
  have hylen : 0 < ys.length := List.length_pos_iff.2 hy0
  have hnewl : ((AV.vals ys).flatMap fun v => v.cells.toList).length = ys.length * ie.size := by rw [flat_length _ hys, AV.vals_length]
  have holdl : ((AV.vals xs).flatMap fun v => v.cells.toList).length = xs.length * ie.size := by rw [flat_length _ hxs, AV.vals_length]
  have getflat : ∀ (vs : List Value), (∀ v ∈ vs, v.cells.size = ie.size) → ∀ (j : Nat) (u : Value), (vs.flatMap fun v => v.cells.toList)[j]? = some u → ∃ i v k, vs[i]? = some v ∧ v.cells[k]? = some u ∧ j = i * ie.size + k := by
    intro vs
    induction vs with
    | nil => intro _ j u h; cases h
    | cons v vs ih =>
      intro hs j u hj
      rw [List.flatMap_cons] at hj
      by_cases hlt : j < v.cells.toList.length
      · rw [List.getElem?_append_left hlt] at hj
        exact ⟨0, v, j, rfl, by simpa using hj, by omega⟩
      · rw [List.getElem?_append_right (by omega)] at hj
        obtain ⟨i, v', k, h1, h2, h3⟩ := ih (fun x hx => hs x (by simp [hx])) _ u hj
        have hv := hs v (by simp)
        refine ⟨i + 1, v', k, by simpa using h1, h2, ?_⟩
        simp [hv] at hlt h3
        rw [Nat.add_mul]; omega
  have hnews : ∀ (j : Nat) (u : Value), ((AV.vals ys).flatMap fun v => v.cells.toList)[j]? = some u → w.cell? ((⟨by2, offy, none⟩ : Addr).add j) = some u := by
    intro j u hj
    obtain ⟨i, v, k, h1, h2, rfl⟩ := getflat _ hys j u hj
    rw [addr_add, ← Nat.add_assoc]
    exact hhp.mem _ _ _ (hyr2 i v h1 k u h2)
  have hones : ∀ u ∈ (AV.vals ys).flatMap fun v => v.cells.toList, u.oneCell' = true := by
    intro u hu'
    rw [← flat_vals ys hyo, AV.vals_eq] at hu'
    obtain ⟨y, hyy, rfl⟩ := List.mem_map.1 hu'
    have hok : AV.oks m (ys.flatMap AV.cells) := by
      rw [AV.oks_iff]; intro a ha
      obtain ⟨x, hx, hax⟩ := List.mem_flatMap.1 ha
      rw [AV.oks_iff] at hyo
      have := AV.oks_cells x (hyo x hx)
      rw [AV.oks_iff] at this; exact this a hax
    rw [AV.oks_iff] at hok
    exact AV.one_val (hok y hyy) (List.all_eq_true.1 hone y hyy)
  have hflat : (AV.vals (xs ++ ys)).flatMap (fun v => v.cells.toList) = ((AV.vals xs).flatMap fun v => v.cells.toList) ++ ((AV.vals ys).flatMap fun v => v.cells.toList) := by rw [AV.vals_append, List.flatMap_append]
  have hallone : ∀ x ∈ xs ++ ys, x.cells.length = ie.size := by
    intro x hx; rcases List.mem_append.1 hx with h | h
    · exact hxone x h
    · exact hyone x h
  -- a new row
  have grown : ∀ (need old : Nat) (hneed : need = xs.length + ys.length),
      ∀ (hrun : (Builtin.append_ #[t, t] ty #[.slice ax xs.length cap, .slice (some ⟨by2, offy, none⟩) ys.length capy]).run P w = .ok (.slice (some ⟨w.heap.size, 0, none⟩) need (grownCap w need old e))
        (w.drew.alloc (.cells (((AV.vals xs).flatMap fun v => v.cells.toList).toArray ++ ((AV.vals ys).flatMap fun v => v.cells.toList).toArray ++ Builtin.zeroCells z.cells (grownCap w need old e - need)) e))),
      ∃ h' w' m', (Builtin.append_ #[t, t] ty #[.slice ax xs.length cap, .slice (some ⟨by2, offy, none⟩) ys.length capy]).run P w = .ok h' w' ∧ w'.os = w.os ∧ w'.tape = w.tape ∧ w'.output = w.output ∧ w.heap.size ≤ w'.heap.size ∧ (∀ k, k < base → w'.heap[k]? = w.heap[k]?) ∧
      m.le m' ∧ HpOk base (hp.setSp (l1 ++ (e, ie.size, h') :: l2)) m' w' ∧ (AV.lst ie.size h' (xs ++ ys)).ok m' := by
    intro need old hneed hrun
    have hge := grownCap_ge w need old e
    have hcm : grownCap w need old e ≤ maxLen := grownCap_le_maxLen w need old e (by omega)
    generalize grownCap w need old e = gc at *
    have hdrew : HpOk base hp m w.drew := hhp.world (fun _ _ => rfl)
    obtain ⟨hf, hmn⟩ := hdrew.fresh
    have hfl : (((AV.vals xs).flatMap fun v => v.cells.toList) ++ ((AV.vals ys).flatMap fun v => v.cells.toList)).length = need * ie.size := by
      rw [List.length_append, holdl, hnewl, hneed, Nat.add_mul]
    obtain ⟨hn, hle⟩ := hdrew.newRow (cur := ((AV.vals xs).flatMap fun v => v.cells.toList).toArray ++ ((AV.vals ys).flatMap fun v => v.cells.toList).toArray ++ Builtin.zeroCells z.cells (gc - need)) (T := e)
      (flat := ((AV.vals xs).flatMap fun v => v.cells.toList) ++ ((AV.vals ys).flatMap fun v => v.cells.toList)) (fun j x hj => by
        rw [← Array.getElem?_toList]
        simp only [Array.toList_append]
        rw [List.getElem?_append_left (by simpa using (List.getElem?_eq_some_iff.1 hj).1)]
        exact hj)
    have hwsz : w.drew.heap.size = w.heap.size := rfl
    rw [hwsz] at hn hle hmn
    refine ⟨_, _, _, hrun, rfl, rfl, rfl, by show w.heap.size ≤ (w.heap.push _).size; simp, fun k hk => alloc_old (w := w.drew) _ k (by rw [hwsz]; omega), hle, ?_, ?_, ?_⟩
    · have hn' := hn
      refine ⟨hn'.mem, hn'.blk, hn'.mp, fun e' sz' hd' hi => ?_, ?_, hn'.gl⟩
      · rw [Hp.setSp_sp] at hi
        have hmem : (e', sz', hd') ∈ hp.sp ∨ (e', sz', hd') = (e, ie.size, Value.slice (some ⟨w.heap.size, 0, none⟩) need gc) := by
          rcases List.mem_append.1 hi with h | h
          · left; rw [hsp]; simp [h]
          · rcases List.mem_cons.1 h with h | h
            · right; exact h
            · left; rw [hsp]; simp [h]
        rcases hmem with h | h
        · exact hn'.sp e' sz' hd' h
        · simp only [Prod.mk.injEq] at h
          obtain ⟨rfl, rfl, rfl⟩ := h
          refine ⟨.inr ⟨w.heap.size, need, gc, _, rfl, hbase, alloc_new (w := w.drew) _, ?_, hge, hcm, fun k hk => Mem.add_none (hmn k) (by rw [hfl]; exact hk)⟩, fun b hb => ?_⟩
          · simp only [Array.size_append, List.size_toArray, size_zeroCells, hzs, holdl, hnewl, ← Nat.add_mul]
            congr 1; omega
          · simp only [blockOf, Option.some.injEq] at hb
            subst hb; exact hf.1
      · rw [Hp.setSp_sp]
        refine spd_set (p := (e, ie.size, .slice ax xs.length cap)) (by rw [← hsp]; exact hhp.spd) (fun b hb => .inr fun r hr => ?_)
        simp only [blockOf, Option.some.injEq] at hb
        subst hb
        refine hf.2.2 r ?_
        rw [hsp]
        rcases List.mem_append.1 hr with h | h <;> simp [h]
    · refine hdr_flat (AV.oks_mono hle _ (AV.oks_append hxo hyo)) hallone (by rw [List.length_append, hneed]) hge hcm fun k x hk => ?_
      rw [hflat] at hk
      exact Mem.add_self hk
    · exact AV.oks_mono hle _ (AV.oks_append hxo hyo)
  rcases hown with hnil | ⟨g, n, cap', cur, e1, e2, e3, e4, e5, e6, e7⟩
  · -- nil
    simp only [Value.slice.injEq] at hnil
    obtain ⟨rfl, hx0, rfl⟩ := hnil
    have hxs0 : xs = [] := List.eq_nil_of_length_eq_zero hx0
    subst hxs0
    have hr := run_append_nil (P := P) w t ty e ie z hu hie hzz ⟨by2, offy, none⟩ ys.length capy _ hnewl hnews hylen (by simp only [maxLen] at h63; omega) (by have hb := hbytes; simp only [List.length_nil, Nat.zero_add] at hb; omega)
    exact grown ys.length 0 (by simp) (by simpa [AV.vals] using hr)
  · simp only [Value.slice.injEq] at e1
    obtain ⟨rfl, rfl, rfl⟩ := e1
    have holds : ∀ (j : Nat) (u : Value), ((AV.vals xs).flatMap fun v => v.cells.toList)[j]? = some u → m g j = some u := by
      intro j u hj
      obtain ⟨i, v, k, h1, h2, rfl⟩ := getflat _ hxs j u hj
      obtain ⟨b', off', hadd, hr⟩ := hxr (by intro hnil; rw [hnil] at h1; cases h1)
      simp only [Option.some.injEq, Addr.mk.injEq] at hadd
      obtain ⟨rfl, rfl, _⟩ := hadd
      have := hr i v h1 k u h2
      rwa [Nat.zero_add] at this
    by_cases hroom : xs.length + ys.length ≤ cap
    · have hfit : xs.length * ie.size + ((AV.vals ys).flatMap fun v => v.cells.toList).length ≤ cur.size := by rw [hnewl, e4, ← Nat.add_mul]; exact Nat.mul_le_mul_right _ hroom
      have hr := run_append_room (P := P) w t ty e ie hu hie g xs.length cap cur e3 ⟨by2, offy, none⟩ ys.length capy _ hnewl hnews hones hroom hfit
      have other : ∀ k, k ≠ g → (w.setRow g (cur.toList.take (xs.length * ie.size) ++ ((AV.vals ys).flatMap fun v => v.cells.toList) ++ cur.toList.drop (xs.length * ie.size + ((AV.vals ys).flatMap fun v => v.cells.toList).length)).toArray).heap[k]? = w.heap[k]? := fun k hk => setRow_other w g k _ hk
      have self := setRow_heap w g cur (cur.toList.take (xs.length * ie.size) ++ ((AV.vals ys).flatMap fun v => v.cells.toList) ++ cur.toList.drop (xs.length * ie.size + ((AV.vals ys).flatMap fun v => v.cells.toList).length)).toArray e (0, 0) e3
      have hcur : ∀ j u, m g j = some u → j < xs.length * ie.size ∧ cur[j]? = some u := by
        intro j u hj
        refine ⟨?_, ?_⟩
        · rcases Nat.lt_or_ge j (xs.length * ie.size) with h | h
          · exact h
          · rw [e7 j h] at hj; cases hj
        · have := hhp.mem g j u hj
          rwa [cell_of_row w g j cur e (0, 0) e3] at this
      -- the new published places
      let f : Nat → Nat → Option Value := fun b o => if b = g then (if xs.length * ie.size ≤ o then ((AV.vals ys).flatMap fun v => v.cells.toList)[o - xs.length * ie.size]? else none) else none
      have hle := Mem.le_ext m f
      have hnew : ∀ j u, (m.ext f) g j = some u → (cur.toList.take (xs.length * ie.size) ++ ((AV.vals ys).flatMap fun v => v.cells.toList) ++ cur.toList.drop (xs.length * ie.size + ((AV.vals ys).flatMap fun v => v.cells.toList).length))[j]? = some u := by
        intro j u hj
        have htl : (cur.toList.take (xs.length * ie.size)).length = xs.length * ie.size := by rw [List.length_take]; simp; omega
        unfold Mem.ext at hj
        cases hmj : m g j with
        | some u' =>
          rw [hmj] at hj
          obtain rfl := Option.some.inj hj
          obtain ⟨h1, h2⟩ := hcur j u' hmj
          rw [List.append_assoc, List.getElem?_append_left (by rw [htl]; exact h1), List.getElem?_take, if_pos h1]
          simpa using h2
        | none =>
          rw [hmj] at hj
          simp only [f, if_true] at hj
          split at hj
          · rename_i hge
            have hlt := (List.getElem?_eq_some_iff.1 hj).1
            rw [List.getElem?_append_left (by rw [List.length_append, htl]; omega), List.getElem?_append_right (by rw [htl]; exact hge), htl]
            exact hj
          · cases hj
      have hgblk : hp.blk g = none := hblk g rfl
      have hspg : ∀ r ∈ l1 ++ l2, blockOf r.2.2 ≠ some g := by
        intro r hr' hb
        have hpw := hhp.spd
        rw [hsp, List.pairwise_append, List.pairwise_cons] at hpw
        rcases List.mem_append.1 hr' with h | h
        · exact hpw.2.2 r h (e, ie.size, .slice (some ⟨g, 0, none⟩) xs.length cap) (by simp) g hb rfl
        · exact hpw.2.1.1 r h g rfl hb
      refine ⟨_, _, m.ext f, hr, rfl, rfl, rfl, by simp [World.setRow], fun k hk => other k (by omega), hle, ?_, ?_, ?_⟩
      · refine ⟨fun b o x hx => ?_, fun b T cs hb => ?_, fun b es hb => ?_, fun e' sz' hd' hi => ?_, ?_, fun g' cs hg => (hhp.gl g' cs hg).mono hle (fun h1 h2 => ⟨h1, other g' (fun e => by subst e; omega)⟩)⟩
        · by_cases hbg : b = g
          · subst hbg
            rw [cell_of_row _ b o _ e (0, 0) self]
            simpa using hnew o x hx
          · have hx' : m b o = some x := by
              unfold Mem.ext at hx
              cases hmj : m b o with
              | some u => rw [hmj] at hx; exact hx
              | none => rw [hmj] at hx; simp [f, hbg] at hx
            have := hhp.mem b o x hx'
            unfold World.cell? at *
            rw [other b hbg]; exact this
        · rw [Hp.setSp_blk] at hb
          obtain ⟨h1, h2, h3, h4⟩ := hhp.blk b T cs hb
          have hne : b ≠ g := by rintro rfl; rw [hgblk] at hb; cases hb
          exact ⟨h1, by rw [other b hne]; exact h2, AV.oks_mono hle _ h3, fun o => by simp [Mem.ext, h4 o, f, hne]⟩
        · rw [Hp.setSp_mp] at hb
          obtain ⟨h1, h2, h4⟩ := hhp.mp b es hb
          have hne : b ≠ g := by rintro rfl; exact h2.row e3
          exact ⟨h1, h2.other (other b hne), AV.oks_mono hle _ h4⟩
        · rw [Hp.setSp_sp] at hi
          have hmem : (e', sz', hd') ∈ l1 ++ l2 ∨ (e', sz', hd') = (e, ie.size, Value.slice (some ⟨g, 0, none⟩) (xs.length + ys.length) cap) := by
            rcases List.mem_append.1 hi with h | h
            · left; simp [h]
            · rcases List.mem_cons.1 h with h | h
              · right; exact h
              · left; simp [h]
          rcases hmem with h | h
          · obtain ⟨h1, h2⟩ := hhp.sp e' sz' hd' (by rw [hsp]; rcases List.mem_append.1 h with h | h <;> simp [h])
            refine ⟨?_, h2⟩
            rcases h1 with h1 | ⟨b', n', cap2, cur', q1, q2, q3, q4, q5, q6, q7⟩
            · exact .inl h1
            · have hne : b' ≠ g := by rintro rfl; exact hspg _ h (by rw [q1]; rfl)
              exact .inr ⟨b', n', cap2, cur', q1, q2, by rw [other b' hne]; exact q3, q4, q5, q6, fun o ho => by simp [Mem.ext, q7 o ho, f, hne]⟩
          · simp only [Prod.mk.injEq] at h
            obtain ⟨rfl, rfl, rfl⟩ := h
            refine ⟨.inr ⟨g, _, cap, _, rfl, e2, self, ?_, hroom, e6, fun o ho => ?_⟩, fun b hb => ?_⟩
            · simp only [List.size_toArray, List.length_append, List.length_take, List.length_drop, Array.length_toList]
              omega
            · have hmo : m g o = none := e7 o (by have := Nat.le_mul_of_pos_right ys.length hpos; rw [Nat.add_mul] at ho; omega)
              simp only [Mem.ext, hmo, f, if_true]
              rw [Nat.add_mul] at ho
              rw [if_pos (by omega), List.getElem?_eq_none (by rw [hnewl]; omega)]
            · simp only [blockOf, Option.some.injEq] at hb
              subst hb; exact hgblk
        · rw [Hp.setSp_sp]
          exact spd_set (p := (e, ie.size, .slice (some ⟨g, 0, none⟩) xs.length cap)) (by rw [← hsp]; exact hhp.spd) (fun b hb => .inl hb)
      · refine hdr_flat (AV.oks_mono hle _ (AV.oks_append hxo hyo)) hallone (by rw [List.length_append]) hroom e6 fun k x hk => ?_
        rw [hflat] at hk
        by_cases hlt : k < ((AV.vals xs).flatMap fun v => v.cells.toList).length
        · rw [List.getElem?_append_left hlt] at hk
          exact hle _ _ _ (holds k x hk)
        · rw [List.getElem?_append_right (by omega)] at hk
          rw [holdl] at hk hlt
          have hmo : m g k = none := e7 k (by omega)
          simp only [Mem.ext, hmo, f, if_true]
          rw [if_pos (by omega)]
          exact hk
      · exact AV.oks_mono hle _ (AV.oks_append hxo hyo)
    · have hr := run_append_grow (P := P) w t ty e ie z hu hie hzz ⟨g, 0, none⟩ xs.length cap _ holdl (fun j u hj => by rw [addr_add, Nat.zero_add]; exact hhp.mem _ _ _ (holds j u hj)) ⟨by2, offy, none⟩ ys.length capy _ hnewl hnews (by omega) (by simp only [maxLen] at h63; omega) (growslice_fits (by omega) hbytes)
      exact grown (xs.length + ys.length) cap rfl hr
end
end Go.AL
/- Appends as operations; maps; the way into a function and out of it. -/
namespace Go.AL
section
variable {P : Program}

/-- The same value, told otherwise. -/
def Cast (a b : AV) : Prop := b.val = a.val ∧ ∀ m, a.ok m → b.ok m
theorem Cast.refl (a : AV) : Cast a a := ⟨rfl, fun _ h => h⟩
theorem Cast.nil (sz : Nat) : Cast (.v (.slice none 0 0)) (.lst sz (.slice none 0 0) []) :=
  ⟨rfl, fun _ _ => ⟨⟨none, 0, rfl, Nat.le_refl _, by simp [maxLen], by simp [AV.vals], by simp [AV.vals]⟩, trivial⟩⟩

theorem aop_append {o : Oper} {t e : TypeId} {s x : Operand} {sz by_ : Nat} {z : Value} {K : St → Prop} {st : St} {a b : AV} {h h2 : Value} {xs ys : List AV} {l1 l2 : List (TypeId × Nat × Value)}
    (ho : o.op = .call { callee := .builtin .append, args := #[s, x], argTypes := #[t, t] })
    (hk : kindT P t = .sl e) (hsz : szT P e = some sz) (hby : bytesT P e = some by_) (hz : zeroT P e = some z) (hzs : z.cells.size = sz) (hpos : 0 < sz)
    (hs : st.ev s = some a) (ca : Cast a (.lst sz h xs)) (hx : st.ev x = some b) (cb : Cast b (.lst sz h2 ys)) (hsp : st.hp.sp = l1 ++ (e, sz, h) :: l2)
    (hone : (ys.flatMap AV.cells).all AV.one = true) (h63 : xs.length + ys.length ≤ maxLen) (hbytes : (xs.length + ys.length) * by_ ≤ 140737488355328) (hd : dstOk st o.dst)
    (hK : ∀ h', K ((st.setHp (st.hp.setSp (l1 ++ (e, sz, h') :: l2))).putO o.dst (.lst sz h' (xs ++ ys)))) : AOp P o K st := by
  intro F ac w hr K' Q hK'
  obtain ⟨m, hm⟩ := hr.ex
  have oa := ca.2 m (hm.ok hs)
  have ob := cb.2 m (hm.ok hx)
  obtain ⟨h', w', m', hrun, h1, h2', h3, h4, h5, hle, hhp, hok⟩ := append_core (ty := o.type) hm.hp hr.lo.bs (kind_sl hk) hsz hby hz hzs hpos oa ob hone hsp h63 hbytes
  unfold Oper.wp
  have hv := hr.eval hs
  have hv2 := hr.eval hx
  rw [← ca.1] at hv
  rw [← cb.1] at hv2
  simp only [AV.val] at hv hv2
  have hrun' : (execOp ac.eval o).run P w = .ok (.value h') w' := by
    simp only [execOp, ho, resolve, Sem.run_bind, Sem.run_pure, Result.andThen_ok, invoke, builtin]
    simp [hv, hv2, hrun]
  rw [hrun']
  exact hK' _ _ ⟨_, hK h', hr.close hm (hr.lo.grow h1 h2' h3 h4 h5) hle hhp hd (x := .lst sz h' (xs ++ ys)) hok⟩

theorem Rel.addNil {F : Fr} {st : St} {a : Act} {w : World} (hr : Rel F st a w) (e : TypeId) (sz : Nat) : Rel F (st.setHp (st.hp.setSp ((e, sz, .slice none 0 0) :: st.hp.sp))) a w := by
  obtain ⟨m, hm⟩ := hr.ex
  exact ⟨hr.lo, hr.df, hr.n, m, hm.turn (Mem.le_refl m) (hm.hp.addSp (.inl rfl) (fun b hb => by cases hb))⟩

/-- Append to a nil slice. -/
theorem aop_append0 {o : Oper} {t e : TypeId} {s x : Operand} {sz by_ : Nat} {z : Value} {K : St → Prop} {st : St} {a b : AV} {h2 : Value} {ys : List AV}
    (ho : o.op = .call { callee := .builtin .append, args := #[s, x], argTypes := #[t, t] })
    (hk : kindT P t = .sl e) (hsz : szT P e = some sz) (hby : bytesT P e = some by_) (hz : zeroT P e = some z) (hzs : z.cells.size = sz) (hpos : 0 < sz)
    (hs : st.ev s = some a) (ca : Cast a (.lst sz (.slice none 0 0) [])) (hx : st.ev x = some b) (cb : Cast b (.lst sz h2 ys))
    (hone : (ys.flatMap AV.cells).all AV.one = true) (h63 : ys.length ≤ maxLen) (hbytes : ys.length * by_ ≤ 140737488355328) (hd : dstOk st o.dst)
    (hK : ∀ h', K ((st.setHp (st.hp.setSp ((e, sz, h') :: st.hp.sp))).putO o.dst (.lst sz h' ys))) : AOp P o K st := by
  have hA : AOp P o K (st.setHp (st.hp.setSp ((e, sz, .slice none 0 0) :: st.hp.sp))) := by
    refine aop_append (l1 := []) (l2 := st.hp.sp) (xs := []) ho hk hsz hby hz hzs hpos (a := a) ?_ ca (b := b) ?_ cb rfl hone (by simpa using h63) (by simpa using hbytes) (by cases ho' : o.dst <;> simp [dstOk, ho'] at hd ⊢; exact hd) hK
    · cases s <;> exact hs
    · cases x <;> exact hx
  intro F ac w hr K' Q hK'
  exact hA F ac w (hr.addNil e sz) K' Q hK'

/-! ### Into a function and out of it -/
def retsK (P : Program) (st : St) : List ResultVar → (List AV → Prop) → Prop
  | [], K => K []
  | .tmp t :: rs, K => withAV (st.sl t) fun x => retsK P st rs (fun l => K (x :: l))
  | .cell a t :: rs, K => withAV (st.sl a) fun p => loadK P st.hp t p fun x => retsK P st rs (fun l => K (x :: l))

def oneOf : List AV → AV
  | [x] => x
  | l => .tup l

/-- What a function may hand back: the value may be told otherwise, less be tracked, tracked memory be published. -/
def Gives (hp : Hp) (a : AV) (hp' : Hp) (r : AV) : Prop := r.val = a.val ∧ ∀ base m w, HpOk base hp m w → a.ok m → ∃ m', m.le m' ∧ HpOk base hp' m' w ∧ r.ok m'

def aret (P : Program) (fn : Func) (R : AV → Hp → Prop) : Exit → St → Prop
  | .normal, st => retsK P st fn.results.toList fun l => ∃ hp' r, Gives st.hp (oneOf l) hp' r ∧ R r hp'
  | .ret, st => retsK P st fn.results.toList fun l => ∃ hp' r, Gives st.hp (oneOf l) hp' r ∧ R r hp'
  | _, _ => False

def resF (tmps : Array Value) (x : ResultVar) : Sem Value :=
  match x with
  | .tmp t => pure (tmps.getD t undef)
  | .cell a t => do loadVar t (← asAddr (tmps.getD a undef))

theorem resF_tmp (tmps : Array Value) (t : Nat) : resF tmps (.tmp t) = pure (tmps.getD t undef) := rfl
theorem resF_cell (tmps : Array Value) (a : Nat) (t : TypeId) : resF tmps (.cell a t) = (do loadVar t (← asAddr (tmps.getD a undef))) := rfl

theorem retsK_sound {st : St} {F : Fr} {a : Act} {w : World} {m : Mem} (hr : Rel F st a w) (hm : RelM F st a w m) : ∀ (rs : List ResultVar) (K : List AV → Prop), retsK P st rs K →
    ∃ l, K l ∧ AV.oks m l ∧ (rs.mapM (resF a.tmps)).run P w = .ok (AV.vals l) w
  | [], K, h => ⟨[], h, trivial, rfl⟩
  | .tmp t :: rs, K, h => by
    obtain ⟨x, hx, h⟩ := withAV_elim h
    obtain ⟨l, hK, hok, hrun⟩ := retsK_sound hr hm rs _ h
    refine ⟨x :: l, hK, ⟨(hm.sl t x hx).2, hok⟩, ?_⟩
    have he : a.tmps.getD t undef = x.val := by rw [Array.getD_eq_getD_getElem?, (hm.sl t x hx).1]; rfl
    simp only [List.mapM_cons, resF_tmp, Sem.run_bind, Sem.run_pure, Result.andThen_ok, hrun, he, AV.vals]
  | .cell a' t :: rs, K, h => by
    obtain ⟨p, hp, h⟩ := withAV_elim h
    obtain ⟨x, hx, hy⟩ := loadK_sound (P := P) (st := st) (o := .tmp a') hp h
    obtain ⟨l, hK, hok, hrun⟩ := retsK_sound hr hm rs _ hx
    obtain ⟨h1, h2⟩ := hy F a w m hr hm
    refine ⟨x :: l, hK, ⟨h2, hok⟩, ?_⟩
    have h1' := h1 { dst := none, op := .load t (.tmp a'), type := 0, pos := "", after := #[], guard := none } rfl
    simp only [execOp, Sem.run_bind] at h1'
    have hev : a.eval (.tmp a') = a.tmps.getD a' undef := rfl
    rw [hev] at h1'
    have hptr : ∃ ad, a.tmps.getD a' undef = .pointer (some ad) := by
      have hv := hr.eval (o := .tmp a') hp
      rw [hev] at hv
      unfold loadK at h
      split at h
      · obtain ⟨b, off, rfl, _⟩ := (hm.sl a' _ hp).2.1
        exact ⟨_, hv⟩
      · exact ⟨_, hv⟩
      · exact h.elim
    obtain ⟨ad, had⟩ := hptr
    rw [had] at h1'
    simp only [Instr.loadAt, Instr.sureAddr, Sem.run_bind, Sem.run_pure, Result.andThen_ok] at h1'
    have h3 : (loadVar t ad).run P w = .ok x.val w := by
      cases hl : (loadVar t ad).run P w with
      | ok y w2 => rw [hl] at h1'; simp at h1'; rw [h1'.1, h1'.2]
      | halt e w2 => rw [hl] at h1'; simp at h1'
    simp only [List.mapM_cons, resF_cell, had, Sem.run_bind, asAddr, Sem.run_pure, Result.andThen_ok, h3, hrun, AV.vals]

theorem results_run {st : St} {F : Fr} {a : Act} {w : World} {m : Mem} {fn : Func} (hr : Rel F st a w) (hm : RelM F st a w m) {K : List AV → Prop} (h : retsK P st fn.results.toList K) :
    ∃ l, K l ∧ AV.oks m l ∧ (results fn a.tmps).run P w = .ok (oneOf l).val w := by
  obtain ⟨l, hK, hok, hrun⟩ := retsK_sound hr hm _ K h
  refine ⟨l, hK, hok, ?_⟩
  have e : results fn a.tmps = (do let l ← fn.results.toList.mapM (resF a.tmps); pure (if h : l.toArray.size = 1 then l.toArray[0] else .tuple l.toArray)) := by
    have e1 : results fn a.tmps = (do let vs ← fn.results.mapM (resF a.tmps); pure (if h : vs.size = 1 then vs[0] else .tuple vs)) := by
      unfold results
      congr 1
    rw [e1, Array.mapM_eq_mapM_toList]
    simp
  rw [e]
  simp only [Sem.run_bind, hrun, Result.andThen_ok, Sem.run_pure]
  match l with
  | [] => rfl
  | [x] => rfl
  | x :: y :: l => simp [oneOf, AV.val, AV.vals]

theorem Gives.le {hp hp' : Hp} {a : AV} (h : hp'.le hp) : Gives hp a hp' a := ⟨rfl, fun _ m _ hh ha => ⟨m, Mem.le_refl m, hh.weaken h, ha⟩⟩
theorem Gives.cast {hp : Hp} {a b : AV} (h : Cast a b) : Gives hp a hp b := ⟨h.1, fun _ m _ hh ha => ⟨m, Mem.le_refl m, hh, h.2 m ha⟩⟩
theorem Gives.trans {h1 h2 h3 : Hp} {a b c : AV} (x : Gives h1 a h2 b) (y : Gives h2 b h3 c) : Gives h1 a h3 c :=
  ⟨y.1.trans x.1, fun base m w hh ha => by
    obtain ⟨m2, l2, hh2, ha2⟩ := x.2 base m w hh ha
    obtain ⟨m3, l3, hh3, ha3⟩ := y.2 base m2 w hh2 ha2
    exact ⟨m3, Mem.le_trans l2 l3, hh3, ha3⟩⟩

theorem acalls_of {f : FuncId} {fn : Func} {c : Code} {args : List AV} {hp : Hp} {R : AV → Hp → Prop} (hf : P.funcs[f]? = some fn) (hb : fn.body = some c) (hname : (fn.name == "runtime.NumGoroutine") = false)
    (h : AWp P c (aret P fn R) ⟨args.length + (fn.ntmps - args.length), fun i => args[i]?, hp⟩) : ACalls P f args hp R := by
  refine ⟨⟨fn, hf, hname, by simp [hb]⟩, fun F w hv => ?_⟩
  refine calls_of_wp hf hb ?_
  obtain ⟨hlo, m, hle, hhp, hok⟩ := hv
  have hrel : Rel F ⟨args.length + (fn.ntmps - args.length), fun i => args[i]?, hp⟩ { tmps := (AV.vals args).toArray ++ Array.replicate (fn.ntmps - (AV.vals args).toArray.size) undef, defers := [] } w := by
    refine ⟨hlo, rfl, by simp [AV.vals_length], m, hle, hhp, fun i x hx => ⟨?_, AV.oks_get hok hx⟩⟩
    have hlt : i < args.length := (List.getElem?_eq_some_iff.1 hx).1
    rw [Array.getElem?_append_left (by simp [AV.vals_length]; exact hlt)]
    have hx' : args[i]? = some x := hx
    simp only [List.getElem?_toArray, AV.vals_getElem?, hx', Option.map_some]
  refine Code.wp_mono ?_ (h F _ w hrel)
  rintro e a' w' ⟨st', hq, hr'⟩
  obtain ⟨m', hm'⟩ := hr'.ex
  have fin : (retsK P st' fn.results.toList fun l => ∃ hp' r, Gives st'.hp (oneOf l) hp' r ∧ R r hp') →
      a'.defers = [] ∧ ∃ v, (results fn a'.tmps).run P w' = .ok v w' ∧ ∃ r hp', R r hp' ∧ Ending.returned v = .returned r.val ∧ RelV F hp' [r] w' := by
    intro hq
    obtain ⟨l, ⟨hp', r, hg, hR⟩, hoks, hrun⟩ := results_run hr' hm' hq
    have hone : (oneOf l).ok m' := by
      match l with
      | [] => exact hoks
      | [x] => exact hoks.1
      | x :: y :: l => exact hoks
    obtain ⟨m2, hm2, hhp2, hok2⟩ := hg.2 _ _ _ hm'.hp hone
    exact ⟨hr'.df, _, hrun, r, hp', hR, by rw [hg.1], hr'.lo, m2, Mem.le_trans hm'.le hm2, hhp2, hok2, trivial⟩
  cases e with
  | normal => exact fin hq
  | ret => exact fin hq
  | exit i => exact hq.elim
  | goto l => exact hq.elim
  | panic ch => exact hq.elim
  | outgrown => exact hq.elim
end
end Go.AL
