/- What is tracked of the heap, and how new blocks, stores and publishing turn it. -/
import Derived.Test.YtfdlfcafcjhpmaaCAL5
namespace Go.AL

def Hp.setBlk (hp : Hp) (b : Nat) (T : TypeId) (cs : List AV) : Hp := { hp with blk := fun i => if i = b then some (T, cs) else hp.blk i }
def Hp.delBlk (hp : Hp) (b : Nat) : Hp := { hp with blk := fun i => if i = b then none else hp.blk i }
def Hp.setMp (hp : Hp) (b : Nat) (es : List (Value × AV)) : Hp := { hp with mp := fun i => if i = b then some es else hp.mp i }
def Hp.setSp (hp : Hp) (l : List (TypeId × Nat × Value)) : Hp := { hp with sp := l }
@[go_sem] theorem Hp.setBlk_blk (hp : Hp) (b : Nat) (T : TypeId) (cs : List AV) (i : Nat) : (hp.setBlk b T cs).blk i = if i = b then some (T, cs) else hp.blk i := rfl
@[go_sem] theorem Hp.setBlk_mp (hp : Hp) (b : Nat) (T : TypeId) (cs : List AV) : (hp.setBlk b T cs).mp = hp.mp := rfl
@[go_sem] theorem Hp.setBlk_sp (hp : Hp) (b : Nat) (T : TypeId) (cs : List AV) : (hp.setBlk b T cs).sp = hp.sp := rfl
@[go_sem] theorem Hp.delBlk_blk (hp : Hp) (b i : Nat) : (hp.delBlk b).blk i = if i = b then none else hp.blk i := rfl
@[go_sem] theorem Hp.delBlk_mp (hp : Hp) (b : Nat) : (hp.delBlk b).mp = hp.mp := rfl
@[go_sem] theorem Hp.delBlk_sp (hp : Hp) (b : Nat) : (hp.delBlk b).sp = hp.sp := rfl
@[go_sem] theorem Hp.setMp_blk (hp : Hp) (b : Nat) (es : List (Value × AV)) : (hp.setMp b es).blk = hp.blk := rfl
@[go_sem] theorem Hp.setMp_mp (hp : Hp) (b : Nat) (es : List (Value × AV)) (i : Nat) : (hp.setMp b es).mp i = if i = b then some es else hp.mp i := rfl
@[go_sem] theorem Hp.setMp_sp (hp : Hp) (b : Nat) (es : List (Value × AV)) : (hp.setMp b es).sp = hp.sp := rfl
@[go_sem] theorem Hp.setSp_blk (hp : Hp) (l : List (TypeId × Nat × Value)) : (hp.setSp l).blk = hp.blk := rfl
@[go_sem] theorem Hp.setSp_mp (hp : Hp) (l : List (TypeId × Nat × Value)) : (hp.setSp l).mp = hp.mp := rfl
@[go_sem] theorem Hp.setSp_sp (hp : Hp) (l : List (TypeId × Nat × Value)) : (hp.setSp l).sp = l := rfl
@[go_sem] theorem Hp.setSp_setSp (hp : Hp) (l l' : List (TypeId × Nat × Value)) : (hp.setSp l).setSp l' = hp.setSp l' := rfl
@[go_sem] theorem Hp.setSp_self (hp : Hp) : hp.setSp hp.sp = hp := rfl
theorem Hp.del_set (hp : Hp) (b : Nat) (T : TypeId) (cs : List AV) (h : hp.blk b = none) : (hp.setBlk b T cs).delBlk b = hp := by
  cases hp with | mk blk mp sp gl =>
  simp only [Hp.setBlk, Hp.delBlk, Hp.mk.injEq, and_true]
  funext i; by_cases hi : i = b
  · subst hi; simp at h ⊢; exact h.symm
  · simp [hi]
@[go_sem] theorem Hp.setBlk_gl (hp : Hp) (b : Nat) (T : TypeId) (cs : List AV) : (hp.setBlk b T cs).gl = hp.gl := rfl
@[go_sem] theorem Hp.delBlk_gl (hp : Hp) (b : Nat) : (hp.delBlk b).gl = hp.gl := rfl
@[go_sem] theorem Hp.setMp_gl (hp : Hp) (b : Nat) (es : List (Value × AV)) : (hp.setMp b es).gl = hp.gl := rfl
@[go_sem] theorem Hp.setSp_gl (hp : Hp) (l : List (TypeId × Nat × Value)) : (hp.setSp l).gl = hp.gl := rfl
@[go_sem] theorem Hp.set_set (hp : Hp) (b : Nat) (T T' : TypeId) (cs cs' : List AV) : (hp.setBlk b T cs).setBlk b T' cs' = hp.setBlk b T' cs' := by
  cases hp; simp only [Hp.setBlk, Hp.mk.injEq, and_true]; funext i; by_cases hi : i = b <;> simp [hi]

def Fresh (hp : Hp) (b : Nat) : Prop := hp.blk b = none ∧ hp.mp b = none ∧ ∀ p ∈ hp.sp, blockOf p.2.2 ≠ some b

/-- Less is tracked. -/
structure Hp.le (h h' : Hp) : Prop where
  blk : ∀ b x, h.blk b = some x → h'.blk b = some x
  mp : ∀ b x, h.mp b = some x → h'.mp b = some x
  sp : h.sp.Sublist h'.sp
  gl : ∀ p ∈ h.gl, p ∈ h'.gl

theorem Hp.le_refl (h : Hp) : h.le h := ⟨fun _ _ x => x, fun _ _ x => x, List.Sublist.refl _, fun _ x => x⟩
theorem Hp.le_trans {a b c : Hp} (h : a.le b) (k : b.le c) : a.le c := ⟨fun _ _ x => k.blk _ _ (h.blk _ _ x), fun _ _ x => k.mp _ _ (h.mp _ _ x), h.sp.trans k.sp, fun _ x => k.gl _ (h.gl _ x)⟩

section
variable {base : Nat} {hp : Hp} {m : Mem} {w : World}

theorem HpOk.weaken {hp' : Hp} (h : HpOk base hp m w) (k : hp'.le hp) : HpOk base hp' m w where
  mem := h.mem
  blk := fun b T cs hb => h.blk b T cs (k.blk _ _ hb)
  mp := fun b es hb => h.mp b es (k.mp _ _ hb)
  sp := fun e sz hd hi => ⟨(h.sp e sz hd (k.sp.subset hi)).1, fun b hb => by
    have := (h.sp e sz hd (k.sp.subset hi)).2 b hb
    cases hx : hp'.blk b with
    | none => rfl
    | some x => rw [k.blk _ _ hx] at this; cases this⟩
  spd := h.spd.sublist k.sp
  gl := fun g cs hg => h.gl g cs (k.gl _ hg)

theorem HpOk.memLt (h : HpOk base hp m w) {b o : Nat} {x : Value} (hx : m b o = some x) : b < w.heap.size := by
  have := h.mem b o x hx
  exact World.block_lt_of_cell? w ⟨b, o, none⟩ this

theorem heap_lt {b : Nat} {o : Obj} (h : w.heap[b]? = some o) : b < w.heap.size := (Array.getElem?_eq_some_iff.1 h).1

/-- The world is another, where nothing that is tracked or published has turned. -/
theorem HpOk.world {w' : World} (h : HpOk base hp m w) (hw : ∀ k, k < w.heap.size → w'.heap[k]? = w.heap[k]?) : HpOk base hp m w' where
  mem := fun b o x hx => by
    have hlt := h.memLt hx
    have := h.mem b o x hx
    unfold World.cell? at *
    rw [hw b hlt]; exact this
  blk := fun b T cs hb => by
    obtain ⟨h1, h2, h3⟩ := h.blk b T cs hb
    exact ⟨h1, by rw [hw b (heap_lt h2)]; exact h2, h3⟩
  mp := fun b es hb => by
    obtain ⟨h1, ⟨en, cl, h2, h3⟩, h4⟩ := h.mp b es hb
    exact ⟨h1, ⟨en, cl, by rw [hw b (heap_lt h2)]; exact h2, h3⟩, h4⟩
  sp := fun e sz hd hi => by
    obtain ⟨h1, h2⟩ := h.sp e sz hd hi
    refine ⟨?_, h2⟩
    rcases h1 with h1 | ⟨b, n, cap, cur, e1, e2, e3, r⟩
    · exact .inl h1
    · exact .inr ⟨b, n, cap, cur, e1, e2, by rw [hw b (heap_lt e3)]; exact e3, r⟩
  spd := h.spd
  gl := h.gl

theorem HpOk.fresh (h : HpOk base hp m w) : Fresh hp w.heap.size ∧ ∀ o, m w.heap.size o = none := by
  refine ⟨⟨?_, ?_, ?_⟩, ?_⟩
  · cases hx : hp.blk w.heap.size with
    | none => rfl
    | some x => obtain ⟨_, h2, _⟩ := h.blk _ x.1 x.2 hx; exact absurd (heap_lt h2) (Nat.lt_irrefl _)
  · cases hx : hp.mp w.heap.size with
    | none => rfl
    | some x => obtain ⟨_, ⟨en, cl, h2, _⟩, _⟩ := h.mp _ x hx; exact absurd (heap_lt h2) (Nat.lt_irrefl _)
  · rintro ⟨e, sz, hd⟩ hi hb
    rcases (h.sp e sz hd hi).1 with h1 | ⟨b, n, cap, cur, e1, e2, e3, r⟩
    · subst h1; cases hb
    · subst e1
      simp only [blockOf, Option.some.injEq] at hb
      have := heap_lt e3
      omega
  · intro o
    cases hx : m w.heap.size o with
    | none => rfl
    | some x => exact absurd (h.memLt hx) (Nat.lt_irrefl _)

theorem alloc_old (o : Obj) : ∀ k, k < w.heap.size → (w.alloc o).heap[k]? = w.heap[k]? := fun k hk => by
  show (w.heap.push o)[k]? = _; rw [Array.getElem?_push_lt hk, Array.getElem?_eq_getElem hk]
theorem alloc_new (o : Obj) : (w.alloc o).heap[w.heap.size]? = some o := by show (w.heap.push o)[w.heap.size]? = _; simp

/-- A new variable. -/
theorem HpOk.setNew (h : HpOk base hp m w) (hb : base ≤ w.heap.size) {T : TypeId} {cs : List AV} (hok : AV.oks m cs) :
    HpOk base (hp.setBlk w.heap.size T cs) m (w.alloc (.cells (AV.vals cs).toArray T)) := by
  obtain ⟨hf, hm⟩ := h.fresh
  have h' := h.world (w' := w.alloc (.cells (AV.vals cs).toArray T)) (alloc_old _)
  refine ⟨h'.mem, fun b T' cs' hx => ?_, h'.mp, fun e sz hd hi => ⟨(h'.sp e sz hd hi).1, fun b hb' => ?_⟩, h'.spd, h'.gl⟩
  · rw [Hp.setBlk_blk] at hx
    split at hx
    · rename_i e; subst e
      simp only [Option.some.injEq, Prod.mk.injEq] at hx
      obtain ⟨rfl, rfl⟩ := hx
      exact ⟨hb, alloc_new _, hok, hm⟩
    · exact h'.blk b T' cs' hx
  · rw [Hp.setBlk_blk]
    split
    · rename_i e; subst e; exact absurd hb' (hf.2.2 _ hi)
    · exact (h'.sp e sz hd hi).2 b hb'

/-- A new map. -/
theorem HpOk.setNewMp (h : HpOk base hp m w) (hb : base ≤ w.heap.size) : HpOk base (hp.setMp w.heap.size []) m (w.alloc (.map #[] 0)) := by
  have h' := h.world (w' := w.alloc (.map #[] 0)) (alloc_old _)
  refine ⟨h'.mem, h'.blk, fun b es hx => ?_, h'.sp, h'.spd, h'.gl⟩
  rw [Hp.setMp_mp] at hx
  split at hx
  · rename_i e; subst e
    obtain rfl := Option.some.inj hx
    exact ⟨hb, ⟨#[], 0, alloc_new _, rfl⟩, trivial⟩
  · exact h'.mp b es hx

/-- The published places, and a block's cells. -/
def Mem.add (m : Mem) (b : Nat) (vs : List Value) : Mem := fun b' o => if b' = b then (match vs[o]? with | some v => some v | none => m b' o) else m b' o

theorem Mem.le_add {m : Mem} {b : Nat} {vs : List Value} (hm : ∀ o, m b o = none) : m.le (m.add b vs) := by
  intro b' o x hx
  unfold Mem.add
  split
  · rename_i e; subst e; rw [hm] at hx; cases hx
  · exact hx

theorem Mem.add_self {m : Mem} {b : Nat} {vs : List Value} {o : Nat} {x : Value} (h : vs[o]? = some x) : m.add b vs b o = some x := by simp [Mem.add, h]

/-- A row's cells are published: the first of them, as many as the list says. -/
theorem HpOk.publish (h : HpOk base hp m w) {b : Nat} {cur : Array Value} {T : TypeId} {fz : Nat × Nat} {vs : List Value} (hb : w.heap[b]? = some (.cells cur T fz)) (hm : ∀ o, m b o = none)
    (hv : ∀ (j : Nat) (x : Value), vs[j]? = some x → cur[j]? = some x) (hsp : ∀ p ∈ hp.sp, blockOf p.2.2 ≠ some b) :
    HpOk base (hp.delBlk b) (m.add b vs) w ∧ m.le (m.add b vs) := by
  have hle : m.le (m.add b vs) := Mem.le_add hm
  refine ⟨⟨fun b' o x hx => ?_, fun b' T' cs' hx => ?_, fun b' es hx => ?_, fun e sz hd hi => ?_, h.spd, fun g cs hg => ⟨(h.gl g cs hg).1.mono hle, AV.oks_mono hle _ (h.gl g cs hg).2⟩⟩, hle⟩
  · unfold Mem.add at hx
    split at hx
    · rename_i e; subst e
      split at hx
      · rename_i v hv'
        obtain rfl := Option.some.inj hx
        rw [cell_of_row w b' o cur T fz hb]; exact hv o v hv'
      · rw [hm] at hx; cases hx
    · exact h.mem b' o x hx
  · rw [Hp.delBlk_blk] at hx
    split at hx
    · cases hx
    · rename_i hne
      obtain ⟨h1, h2, h3, h4⟩ := h.blk b' T' cs' hx
      exact ⟨h1, h2, AV.oks_mono hle _ h3, fun o => by simp [Mem.add, hne, h4]⟩
  · obtain ⟨h1, h2, h3⟩ := h.mp b' es hx
    exact ⟨h1, h2, AV.oks_mono hle _ h3⟩
  · obtain ⟨h1, h2⟩ := h.sp e sz hd hi
    refine ⟨?_, fun b' hb' => ?_⟩
    · rcases h1 with h1 | ⟨b', n, cap, cur', e1, e2, e3, e4, e5, e6, e7⟩
      · exact .inl h1
      · refine .inr ⟨b', n, cap, cur', e1, e2, e3, e4, e5, e6, fun o ho => ?_⟩
        have hne : b' ≠ b := by rintro rfl; exact hsp _ hi (by rw [e1]; rfl)
        simp [Mem.add, hne, e7 o ho]
    · rw [Hp.delBlk_blk]; split
      · rfl
      · exact h2 b' hb'

/-- A tracked variable is turned. -/
theorem HpOk.setCells (h : HpOk base hp m w) {b : Nat} {T : TypeId} {cs cs' : List AV} (hb : hp.blk b = some (T, cs)) (hok : AV.oks m cs') :
    HpOk base (hp.setBlk b T cs') m (w.setRow b (AV.vals cs').toArray) := by
  obtain ⟨hbase, hheap, hoks, hm⟩ := h.blk b T cs hb
  have other : ∀ k, k ≠ b → (w.setRow b (AV.vals cs').toArray).heap[k]? = w.heap[k]? := fun k hk => setRow_other w b k _ hk
  have self := setRow_heap w b _ (AV.vals cs').toArray T (0, 0) hheap
  refine ⟨fun b' o x hx => ?_, fun b' T' cs'' hx => ?_, fun b' es hx => ?_, fun e sz hd hi => ?_, h.spd, h.gl⟩
  · have hne : b' ≠ b := by rintro rfl; rw [hm] at hx; cases hx
    have := h.mem b' o x hx
    unfold World.cell? at *
    rw [other b' hne]; exact this
  · rw [Hp.setBlk_blk] at hx
    split at hx
    · rename_i e; subst e
      simp only [Option.some.injEq, Prod.mk.injEq] at hx
      obtain ⟨rfl, rfl⟩ := hx
      exact ⟨hbase, self, hok, hm⟩
    · rename_i hne
      obtain ⟨h1, h2, h3⟩ := h.blk b' T' cs'' hx
      exact ⟨h1, by rw [other b' hne]; exact h2, h3⟩
  · obtain ⟨h1, ⟨en, cl, h2, h3⟩, h4⟩ := h.mp b' es hx
    have hne : b' ≠ b := by rintro rfl; rw [hheap] at h2; cases h2
    exact ⟨h1, ⟨en, cl, by rw [other b' hne]; exact h2, h3⟩, h4⟩
  · obtain ⟨h1, h2⟩ := h.sp e sz hd hi
    refine ⟨?_, fun b' hb' => ?_⟩
    · rcases h1 with h1 | ⟨b', n, cap, cur', e1, e2, e3, r⟩
      · exact .inl h1
      · have hne : b' ≠ b := by
          rintro rfl
          have := h2 b' (by rw [e1]; rfl)
          rw [hb] at this; cases this
        exact .inr ⟨b', n, cap, cur', e1, e2, by rw [other b' hne]; exact e3, r⟩
    · rw [Hp.setBlk_blk]; split
      · rename_i e; subst e
        have := h2 b' hb'
        rw [hb] at this; cases this
      · exact h2 b' hb'
end
end Go.AL
