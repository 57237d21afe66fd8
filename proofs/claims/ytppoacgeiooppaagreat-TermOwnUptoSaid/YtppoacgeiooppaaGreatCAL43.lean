/- Rows that a call hands back and that its caller writes: tracked, all of them. -/
import Derived.Test.YtppoacgeiooppaaGreatCAL41
set_option linter.unusedVariables false
set_option linter.unusedSimpArgs false
namespace Go.AL
section
variable {P : Program}
/-- A header is empty, or begins a tracked row of one-cell items that is not of the elder heap. -/
def RowOk (T : TypeId) (hp : Hp) (h : Value) (hp' : Hp) : Prop :=
  (∃ a c, h = .slice a 0 c) ∨ ∃ b n cap cs, h = .slice (some ⟨b, 0, none⟩) n cap ∧ hp.blk b = none ∧ hp'.blk b = some (T, cs) ∧ n ≤ cs.length
structure AllRows (T : TypeId) (hp : Hp) (hs : List Value) (hp' : Hp) : Prop where
  le : hp.le hp'
  row : ∀ h ∈ hs, RowOk T hp h hp'
/-- A cell of a tracked row is turned. -/
theorem AllRows.set {T : TypeId} {hp hp' : Hp} {hs : List Value} (r : AllRows T hp hs hp') {b : Nat} {cs cs' : List AV} (hb : hp.blk b = none) (hb' : hp'.blk b = some (T, cs)) (hl : cs'.length = cs.length) : AllRows T hp hs (hp'.setBlk b T cs') := by
  refine ⟨⟨fun i z hz => ?_, r.le.mp, r.le.sp, r.le.gl⟩, fun h hh => ?_⟩
  · rw [Hp.setBlk_blk, if_neg (fun e => by rw [e, hb] at hz; cases hz)]
    exact r.le.blk i z hz
  · rcases r.row h hh with q | ⟨b2, n, cap, cs2, e, q1, q2, q3⟩
    · exact .inl q
    · refine .inr ?_
      by_cases e2 : b2 = b
      · subst e2
        rw [hb'] at q2
        have e3 : cs2 = cs := by cases q2; rfl
        subst e3
        exact ⟨b2, n, cap, cs', e, q1, by rw [Hp.setBlk_blk, if_pos rfl], by omega⟩
      · exact ⟨b2, n, cap, cs2, e, q1, by rw [Hp.setBlk_blk, if_neg e2]; exact q2, q3⟩
/-- A header over a new row, in a world. -/
def RowAt (T : TypeId) (B : Nat) (w : World) (h : Value) : Prop :=
  (∃ a c, h = .slice a 0 c) ∨ ∃ g n cap cur, h = .slice (some ⟨g, 0, none⟩) n cap ∧ B ≤ g ∧ w.heap[g]? = some (.cells cur T (0, 0)) ∧ n ≤ cap ∧ cur.size = cap
def isRow (hs : List Value) (b : Nat) : Bool := hs.any fun h => match h with | .slice (some a) (_ + 1) _ => a.block == b | _ => false
def rowsHp (hp : Hp) (B : Nat) (w : World) (hs : List Value) : Hp :=
  { hp with blk := fun b => if B ≤ b ∧ isRow hs b = true then (match w.heap[b]? with | some (.cells cur T _) => some (T, cur.toList.map AV.v) | _ => none) else hp.blk b }
def Mem.rows (m : Mem) (B : Nat) (w : World) (hs : List Value) : Mem := fun b o => if b < B then m b o else if isRow hs b = true then none else w.cell? ⟨b, o, none⟩
theorem isRow_of {hs : List Value} {b : Nat} (h : isRow hs b = true) : ∃ a n c, Value.slice (some a) (n + 1) c ∈ hs ∧ a.block = b := by
  obtain ⟨v, hv, hb⟩ := List.any_eq_true.1 h
  split at hb
  · rename_i a n c
    exact ⟨a, n, c, hv, by simpa using hb⟩
  · cases hb
theorem HpOk.newRows {base : Nat} {hp : Hp} {m : Mem} {w w' : World} {T : TypeId} {hs : List Value} (h : HpOk base hp m w) (hbs : base ≤ w.heap.size) (hold : ∀ k, k < w.heap.size → w'.heap[k]? = w.heap[k]?) (hr : ∀ v ∈ hs, RowAt T w.heap.size w' v) :
    HpOk base (rowsHp hp w.heap.size w' hs) (m.rows w.heap.size w' hs) w' ∧ m.le (m.rows w.heap.size w' hs) ∧ AllRows T hp hs (rowsHp hp w.heap.size w' hs) := by
  have hle : m.le (m.rows w.heap.size w' hs) := fun b o x hx => by
    unfold Mem.rows
    rw [if_pos (h.memLt hx)]; exact hx
  have h' := h.world hold
  have row : ∀ b, isRow hs b = true → ∃ cur, w.heap.size ≤ b ∧ w'.heap[b]? = some (.cells cur T (0, 0)) := fun b hb => by
    obtain ⟨a, n, c, hm, rfl⟩ := isRow_of hb
    rcases hr _ hm with ⟨a', c', e⟩ | ⟨g, n', cap, cur, e, h1, h2, _⟩
    · cases e
    · cases e; exact ⟨cur, h1, h2⟩
  have low : ∀ b, b < w.heap.size → (rowsHp hp w.heap.size w' hs).blk b = hp.blk b := fun b hb => by
    show (if _ then _ else _) = _
    rw [if_neg (fun e => by omega)]
  refine ⟨⟨fun b o x hx => ?_, fun b T' cs hb => ?_, fun b es hb => ?_, fun e sz hd hi => ?_, h.spd, fun g cs hg => ⟨(h.gl g cs hg).1.mono hle, AV.oks_mono hle _ (h.gl g cs hg).2⟩⟩, hle, ⟨⟨fun b z hz => ?_, fun _ _ h => h, List.Sublist.refl _, fun _ h => h⟩, fun v hv => ?_⟩⟩
  · unfold Mem.rows at hx
    split at hx
    · exact h'.mem b o x hx
    · split at hx
      · cases hx
      · exact hx
  · by_cases hc : w.heap.size ≤ b ∧ isRow hs b = true
    · obtain ⟨cur, h1, h2⟩ := row b hc.2
      have hb : (if w.heap.size ≤ b ∧ isRow hs b = true then (match w'.heap[b]? with | some (.cells cur T _) => some (T, cur.toList.map AV.v) | _ => none) else hp.blk b) = some (T', cs) := hb
      rw [if_pos hc, h2] at hb
      cases hb
      refine ⟨Nat.le_trans hbs hc.1, by rw [map_v_vals]; exact h2, map_v_oks _ _, fun o => ?_⟩
      unfold Mem.rows; rw [if_neg (by omega), if_pos hc.2]
    · have hb : (if w.heap.size ≤ b ∧ isRow hs b = true then (match w'.heap[b]? with | some (.cells cur T _) => some (T, cur.toList.map AV.v) | _ => none) else hp.blk b) = some (T', cs) := hb
      rw [if_neg hc] at hb
      obtain ⟨h1, h2, h3, h4⟩ := h'.blk b T' cs hb
      have hlt := heap_lt (h.blk b T' cs hb).2.1
      exact ⟨h1, h2, AV.oks_mono hle _ h3, fun o => by unfold Mem.rows; rw [if_pos hlt]; exact h4 o⟩
  · obtain ⟨h1, h2, h3⟩ := h'.mp b es hb
    exact ⟨h1, h2, AV.oks_mono hle _ h3⟩
  · obtain ⟨h1, h2⟩ := h'.sp e sz hd hi
    have hlt : ∀ b, blockOf hd = some b → b < w.heap.size := fun b hb => by
      rcases (h.sp e sz hd hi).1 with q | ⟨b', _, _, _, q1, _, q3, _⟩
      · rw [q] at hb; cases hb
      · rw [q1] at hb; cases hb; exact heap_lt q3
    refine ⟨?_, fun b hb => by rw [low b (hlt b hb)]; exact h2 b hb⟩
    rcases h1 with h1 | ⟨b, n, cap, cur, e1, e2, e3, e4, e5, e6, e7⟩
    · exact .inl h1
    · exact .inr ⟨b, n, cap, cur, e1, e2, e3, e4, e5, e6, fun o ho => by unfold Mem.rows; rw [if_pos (hlt b (by rw [e1]; rfl))]; exact e7 o ho⟩
  · have hlt := heap_lt (h.blk b z.1 z.2 hz).2.1
    rw [low b hlt]; exact hz
  · rcases hr v hv with ⟨a, c, e⟩ | ⟨g, n, cap, cur, e, h1, h2, h3, h4⟩
    · exact .inl ⟨a, c, e⟩
    · cases n with
      | zero => exact .inl ⟨_, _, e⟩
      | succ n =>
        have hg : hp.blk g = none := by
          cases hq : hp.blk g with
          | none => rfl
          | some z => have := heap_lt (h.blk g z.1 z.2 hq).2.1; omega
        refine .inr ⟨g, n + 1, cap, cur.toList.map AV.v, e, hg, ?_, by rw [List.length_map, Array.length_toList]; omega⟩
        show (if _ then _ else _) = _
        rw [if_pos ⟨h1, List.any_eq_true.2 ⟨v, hv, by rw [e]; simp⟩⟩, h2]
/-- A call whose result names rows that the caller is to write. -/
theorem acalls_rows {f : FuncId} {args : List AV} {hp : Hp} {T : TypeId} {R : AV → List Value → Prop} (hc : Callable P f)
    (h : ∀ base m w, HpOk base hp m w → AV.oks m args → Calls P f (AV.vals args).toArray w (fun e w' => Go.RowKit.Below w.heap.size w w' ∧ ∃ r hs, R r hs ∧ e = .returned r.val ∧ (∀ v ∈ hs, RowAt T w.heap.size w' v) ∧
      ∀ m', m.le m' → (∀ b o x, w.heap.size ≤ b → isRow hs b = false → w'.cell? ⟨b, o, none⟩ = some x → m' b o = some x) → r.ok m')) :
    ACalls P f args hp (fun r hp' => ∃ hs, R r hs ∧ AllRows T hp hs hp') :=
  ⟨hc, fun F w hv => by
    obtain ⟨hlo, m, hle, hhp, hok⟩ := hv
    refine (h F.base m w hhp hok).mono ?_
    rintro e w' ⟨hb, r, hs, hR, rfl, hrow, hr⟩
    obtain ⟨q1, q2, q3⟩ := hhp.newRows hlo.bs hb.block hrow
    exact ⟨r, rowsHp hp w.heap.size w' hs, ⟨hs, hR, q3⟩, rfl, hlo.grow hb.os hb.tape hb.output hb.size (fun k hk => hb.block k (Nat.lt_of_lt_of_le hk hlo.bs)), _, Mem.le_trans hle q2, q1,
      hr _ q2 (fun b o x h1 h2 h3 => by unfold Mem.rows; rw [if_neg (by omega), h2]; exact h3), trivial⟩⟩
theorem own_rowAt {base : Nat} {hp : Hp} {m : Mem} {w : World} (h : HpOk base hp m w) {T : TypeId} {v : Value} (hi : (T, 1, v) ∈ hp.sp) : RowAt T base w v := by
  rcases (h.sp T 1 v hi).1 with q | ⟨b, n, cap, cur, e1, e2, e3, e4, e5, e6, _⟩
  · exact .inl ⟨_, _, q⟩
  · exact .inr ⟨b, n, cap, cur, e1, e2, e3, e5, by omega⟩
end
end Go.AL
