/- slices.Sorted(maps.Keys(m)) at this seat. -/
import Derived.Test.YtppoacgeiooppaaGreatCShelfK
import Derived.Test.YtppoacgeiooppaaGreatCT72
import Derived.Test.YtppoacgeiooppaaGreatCT72
import Derived.Test.YtppoacgeiooppaaGreatCAL41
import Derived.WalkArith
namespace Go.Proofs.YtppoacgeiooppaaGreat
open Go.RowKit Go.Maps Go.Sort Go.Shelf

theorem sortsS (m : Nat) : AnyZ.SortsIn Tryz.prog Tryz.sortedS_ren Fence.wide m :=
  ⟨fun blk off cap ss W hH hblk hsz => callsIn_wide.2 (AnyM.slices_Sort_string Tryz.sortS blk off cap ss W hH hblk hsz),
   fun p cap W => callsIn_wide.2 (AnyM.slices_Sort_string_none Tryz.sortS p cap W)⟩
theorem sortsI (m : Nat) : AnyZI.SortsIn Tryz.prog Tryz.sortedI_ren Fence.wide m :=
  ⟨fun blk off cap ss W hH hblk hsz => callsIn_wide.2 (AnyM.slices_Sort_int Tryz.sortI blk off cap ss W hH hblk hsz),
   fun p cap W => callsIn_wide.2 (AnyM.slices_Sort_int_none Tryz.sortI p cap W)⟩
theorem keysS_in (mb : Option Nat) (W : World) : CallsIn Fence.wide 5 Tryz.prog 62 #[.map mb] W fun e w' => e = .returned (.func (.func 106) #[] #[.pointer (some ⟨W.heap.size, 0, none⟩)]) ∧ w' = W.alloc (.cells #[.map mb] 110) := AnyZ.keys_in Tryz.keysS Fence.wide 5 trivial rfl mb W
theorem keysI_in (mb : Option Nat) (W : World) : CallsIn Fence.wide 5 Tryz.prog 57 #[.map mb] W fun e w' => e = .returned (.func (.func 101) #[] #[.pointer (some ⟨W.heap.size, 0, none⟩)]) ∧ w' = W.alloc (.cells #[.map mb] 102) := AnyZI.keys_in Tryz.keysI Fence.wide 5 trivial rfl mb W
/-- slices.Sorted at what maps.Keys handed back for a map that is not nil, in the world behind that call. -/
theorem sortedS_in {H : Type} (b nn q : Nat) (D0 : DataW H) (R : Value → Option (DataW H × List MemPlace)) (w : World) (hown : w.ownsMap Tryz.prog 9 R b nn D0) (hmax : Maps.size D0 ≤ maxLen) (hbytes : Maps.size D0 * 16 ≤ 140737488355328)
    (hq : w.cell? ⟨q, 0, none⟩ = some (.map (some b))) :
    CallsIn Fence.wide 5 Tryz.prog 61 #[.func (.func 106) #[] #[.pointer (some ⟨q, 0, none⟩)]] w fun e w' => ∃ (v : Value) (ss : List (List UInt8)), e = .returned v ∧ ss.Perm (strKeys D0) ∧
      w'.ownsRow w.heap.size 9 1 v ss.length ((ss.mergeSort (fun x y => decide (x ≤ y))).map encStr) ∧ (v = .slice none 0 0 ↔ ss = []) ∧ Below w.heap.size w w' := by
  have hseq : SeqGives Fence.wide 2 Tryz.prog 106 #[.pointer (some ⟨q, 0, none⟩)] encStr (fun ss => ss.Perm (strKeys D0)) (Maps.size D0) w :=
    AnyZ.keys_gives (ρ := Tryz.keysS_ren) { Tryz.keysS with } Fence.wide _ trivial rfl (by omega) q b nn D0 _ (lt_of_cell hq) hq hown
  exact AnyZ.sorted_in Tryz.sortedS Fence.wide 5 trivial trivial trivial trivial rfl (by omega) (sortsS _) (enters_of Tryz.func105 (by kernel_rfl) rfl) _ _ trivial (enters_of Tryz.func106 (by kernel_rfl) rfl) _ _ hmax hbytes _ hseq
/-- slices.Sorted at what maps.Keys handed back for a map that is not nil, in the world behind that call. -/
theorem sortedI_in {H : Type} (b nn q : Nat) (D0 : DataW H) (R : Value → Option (DataW H × List MemPlace)) (w : World) (hown : w.ownsMap Tryz.prog 3 R b nn D0) (hmax : Maps.size D0 ≤ maxLen) (hbytes : Maps.size D0 * 8 ≤ 140737488355328)
    (hq : w.cell? ⟨q, 0, none⟩ = some (.map (some b))) :
    CallsIn Fence.wide 5 Tryz.prog 56 #[.func (.func 101) #[] #[.pointer (some ⟨q, 0, none⟩)]] w fun e w' => ∃ (v : Value) (ss : List Int), e = .returned v ∧ ss.Perm (intKeys D0) ∧
      w'.ownsRow w.heap.size 3 1 v ss.length ((ss.mergeSort (fun x y => decide (x ≤ y))).map encZ) ∧ (v = .slice none 0 0 ↔ ss = []) ∧ Below w.heap.size w w' := by
  have hseq : SeqGives Fence.wide 2 Tryz.prog 101 #[.pointer (some ⟨q, 0, none⟩)] encZ (fun ss => ss.Perm (intKeys D0)) (Maps.size D0) w :=
    AnyZI.keys_gives (ρ := Tryz.keysI_ren) { Tryz.keysI with } Fence.wide _ trivial rfl (by omega) q b nn D0 _ (lt_of_cell hq) hq hown
  exact AnyZI.sorted_in Tryz.sortedI Fence.wide 5 trivial trivial trivial trivial rfl (by omega) (sortsI _) (enters_of Tryz.func100 (by kernel_rfl) rfl) _ _ trivial (enters_of Tryz.func101 (by kernel_rfl) rfl) _ _ hmax hbytes _ hseq
end Go.Proofs.YtppoacgeiooppaaGreat
/- The functions that a term calls, in plain words. -/
set_option linter.unusedSimpArgs false
set_option linter.unusedVariables false
namespace Go.Proofs.YtppoacgeiooppaaGreat
open Go.AL Go.Maps

def callsIn (l : List TermG) (i : Int) : Bool := l.any fun s => decide (s.op = 9) && decide (s.n = i)
def seenF (D : DataW Unit) (s : TermG) : DataW Unit := if s.op = 9 then D.put (.int .i64 s.n) .nil else D
def seenD (l : List TermG) : DataW Unit := l.foldl seenF (.map [])
theorem seenD_snoc (l : List TermG) (x : TermG) : seenD (l ++ [x]) = seenF (seenD l) x := by simp [seenD]
theorem seen_has (i : Int) : ∀ (l : List TermG) (D : DataW Unit), IsMap D → IsMap (l.foldl seenF D) ∧ has (l.foldl seenF D) (.int .i64 i) = (has D (.int .i64 i) || callsIn l i)
  | [], D, h => ⟨h, by simp [callsIn]⟩
  | s :: r, D, h => by
    rw [List.foldl_cons]
    have h1 : IsMap (seenF D s) := by
      simp only [seenF]; split
      · exact h.put _ _
      · exact h
    obtain ⟨q1, q2⟩ := seen_has i r (seenF D s) h1
    refine ⟨q1, q2.trans ?_⟩
    have h2 : callsIn (s :: r) i = ((decide (s.op = 9) && decide (s.n = i)) || callsIn r i) := rfl
    rw [h2, ← Bool.or_assoc]
    congr 1
    simp only [seenF]
    by_cases e : s.op = 9
    · rw [if_pos e]
      by_cases e2 : s.n = i
      · rw [e2, has_put_same h (show WideAt.IsKeyLit (.int .i64 i) from trivial)]; simp [e]
      · rw [has_put_other (by simp; exact fun h => e2 h.symm)]; simp [e2]
    · rw [if_neg e]; simp [e]
theorem seenD_has (l : List TermG) (i : Int) : has (seenD l) (.int .i64 i) = callsIn l i := by
  rw [seenD, (seen_has i l _ isMap_empty).2]; rfl
def refL (n : Nat) (l : List TermG) : List Int := ((List.range n).filter fun (i : Nat) => callsIn l (i : Int)).map fun (i : Nat) => (i : Int)
theorem mem_refL {n : Nat} {l : List TermG} {x : Int} : x ∈ refL n l ↔ 0 ≤ x ∧ x < n ∧ callsIn l x = true := by
  simp only [refL, List.mem_map, List.mem_filter, List.mem_range]
  constructor
  · rintro ⟨i, ⟨h1, h2⟩, rfl⟩; exact ⟨by omega, by omega, h2⟩
  · rintro ⟨h1, h2, h3⟩
    refine ⟨x.toNat, ⟨by omega, ?_⟩, by omega⟩
    rw [show ((x.toNat : Nat) : Int) = x by omega]; exact h3
theorem refL_lt (n : Nat) (l : List TermG) : (refL n l).Pairwise (· < ·) := by
  rw [refL, List.pairwise_map]
  exact ((List.pairwise_lt_range).filter _).imp fun h => by omega
theorem refL_sorted (n : Nat) (l : List TermG) : (refL n l).mergeSort leI = refL n l :=
  List.mergeSort_of_pairwise ((refL_lt n l).imp fun h => by simp only [leI, decide_eq_true_eq]; omega)
theorem refL_len (n : Nat) (l : List TermG) : (refL n l).length ≤ n := by
  rw [refL, List.length_map]
  exact Nat.le_trans (List.length_filter_le _ _) (by simp)
theorem seen_perm {P : Program} {kt : TypeId} {w : World} {b nn n : Nat} {l : List TermG} (hk : P.underlying kt = some (.int .i64)) (own : w.ownsMap P kt anyR b nn (seenD l)) (hr : ∀ s ∈ l, s.op = 9 → 0 ≤ s.n ∧ s.n < n) :
    (refL n l).Perm (intKeys (seenD l)) := by
  have K : Keyed P kt := int_keyed hk
  obtain ⟨es, hD, hpw, _⟩ := own.entries K
  obtain ⟨es', hD', hks⟩ := own.keysOf
  have he : es' = es := by rw [hD] at hD'; exact (DataW.map.inj hD').symm
  subst he
  rw [hD]
  refine perm_intKeys hpw (fun p hp => ?_) ?_ (fun x => ?_)
  · obtain ⟨v, hv⟩ := hks p hp
    obtain ⟨x, _, hx, _⟩ := Maps.keyOf_i64 hk hv
    exact ⟨x, hx⟩
  · exact (refL_lt n l).imp fun h => by omega
  · rw [← hD, seenD_has, mem_refL]
    constructor
    · exact fun h => h.2.2
    · intro h
      obtain ⟨s, hs, hb⟩ := List.any_eq_true.1 h
      simp only [Bool.and_eq_true, decide_eq_true_eq] at hb
      obtain ⟨h1, rfl⟩ := hb
      exact ⟨(hr s hs h1).1, (hr s hs h1).2, h⟩
theorem seen_size {P : Program} {kt : TypeId} {w : World} {b nn n : Nat} {l : List TermG} (hk : P.underlying kt = some (.int .i64)) (own : w.ownsMap P kt anyR b nn (seenD l)) (hr : ∀ s ∈ l, s.op = 9 → 0 ≤ s.n ∧ s.n < n) :
    Maps.size (seenD l) ≤ n := by
  have h := (seen_perm hk own hr).length_eq
  have h2 := refL_len n l
  obtain ⟨es, hD⟩ := (seen_has 0 l _ isMap_empty).1
  rw [show seenD l = .map es from hD] at h ⊢
  have h3 : (intKeys (.map es)).length = es.length := List.length_map _
  show es.length ≤ n
  omega
end Go.Proofs.YtppoacgeiooppaaGreat
/- term.Calls. -/
namespace Go.Proofs.YtppoacgeiooppaaGreat
open Go.AL Go.RowKit Go.Shelf Go.Maps
attribute [local go_sem] Oper.semAt_some

theorem wf_small {x : Int} (h0 : 0 ≤ x) (h1 : x < 4611686018427387904) : (Lit.int .i64 x).wf = true := WalkArith.wf_i64 ⟨by omega, by omega⟩
theorem row_slice {w : World} {base : Nat} {e : TypeId} {sz n : Nat} {v : Value} {xs : List Value} (h : w.ownsRow base e sz v n xs) : ∃ p m c, v = .slice p m c := by
  rcases h.2 with ⟨rfl, _⟩ | ⟨g, cap, cur, rfl, _⟩
  · exact ⟨_, _, _, rfl⟩
  · exact ⟨_, _, _, rfl⟩
def meas_int (k : Int) : Nat := (Go.RowKit.intOf (.int .i64 k)).toNat
theorem anyR_val (v : Value) : anyR v = some (.nil, []) := rfl
theorem KpN.mapTurn {nb : Nat} {W W' : World} {b : Nat} (h : W.grownBy W' (some b)) (hb : ∀ o : Obj, W.heap[b]? = some o → o.isCells = false) : KpN nb W W' :=
  ⟨h.size, fun k o _ hk ho => (h.block k (Array.getElem?_eq_some_iff.1 hk).1 (fun e => by
    cases e
    rw [hb o hk] at ho; cases ho)).trans hk⟩
theorem owns_nocells {w : World} {P : Program} {k : TypeId} {b n : Nat} {D : DataW Unit} (h : w.ownsMap P k anyR b n D) (o : Obj) (ho : w.heap[b]? = some o) : o.isCells = false := by
  obtain ⟨es, clock, hb, _⟩ := h
  rw [hb] at ho; cases ho; rfl
mutual
theorem preT_ok {m : Mem} : ∀ (t : TermG), AV.oks m t.cs → ∀ x ∈ preT t, AV.oks m x.cs
  | .mk op n name ty ha args hc cls, h, x, hx => by
    rw [preT] at hx
    rcases List.mem_cons.1 hx with rfl | hx
    · exact h
    · rw [TermG.cs_eq] at h
      obtain ⟨_, _, _, _, ⟨_, hA⟩, ⟨_, hC⟩, _⟩ := h
      rcases List.mem_append.1 hx with hx | hx
      · exact preA_ok args hA x hx
      · exact preC_ok cls hC x hx
theorem preA_ok {m : Mem} : ∀ (l : List TermG), AV.oks m (l.map TermG.av) → ∀ x ∈ preA l, AV.oks m x.cs
  | [], _, x, hx => by rw [preA] at hx; cases hx
  | a :: r, h, x, hx => by
    rw [preA] at hx
    rcases List.mem_append.1 hx with hx | hx
    · exact preT_ok a h.1 x hx
    · exact preA_ok r h.2 x hx
theorem preC_ok {m : Mem} : ∀ (l : List ClauseG), AV.oks m (l.map ClauseG.av) → ∀ x ∈ preC l, AV.oks m x.cs
  | [], _, x, hx => by rw [preC] at hx; cases hx
  | .mk hn names b :: r, h, x, hx => by
    rw [preC] at hx
    rcases List.mem_append.1 hx with hx | hx
    · have h1 : AV.oks m (ClauseG.mk hn names b).cs := h.1
      rw [ClauseG.cs] at h1
      exact preT_ok b h1.2 x hx
    · exact preC_ok r h.2 x hx
end
theorem alloc_at {W : World} {o : Obj} {k : Nat} (h : k = W.heap.size) : (W.alloc o).heap[k]? = some o := by subst h; exact alloc_new o
theorem alloc_lt {W : World} {o : Obj} {k : Nat} (h : k < W.heap.size) : (W.alloc o).heap[k]? = W.heap[k]? := alloc_old o k h
theorem four_allocs (W : World) (o1 o2 o3 o4 : Obj) : ((((W.alloc o1).alloc o2).alloc o3).alloc o4).heap[W.heap.size + 1]? = some o2 ∧ ((((W.alloc o1).alloc o2).alloc o3).alloc o4).heap[W.heap.size + 1 + 1]? = some o3 ∧ ((((W.alloc o1).alloc o2).alloc o3).alloc o4).heap[W.heap.size + 1 + 1 + 1]? = some o4 :=
  ⟨(alloc_lt (by simp only [World.size_alloc]; omega)).trans ((alloc_lt (by simp only [World.size_alloc]; omega)).trans (alloc_at (by simp only [World.size_alloc]))),
   (alloc_lt (by simp only [World.size_alloc]; omega)).trans (alloc_at (by simp only [World.size_alloc])), alloc_at (by simp only [World.size_alloc])⟩
theorem cell_at {W : World} {b o : Nat} {cs : Array Value} {T : TypeId} {f : Nat × Nat} (h : W.heap[b]? = some (.cells cs T f)) : W.cell? ⟨b, o, none⟩ = cs[o]? := by simp [World.cell?, h]
theorem frozen_at {W : World} {b o : Nat} {cs : Array Value} {T : TypeId} (h : W.heap[b]? = some (.cells cs T (0, 0))) : W.frozen? ⟨b, o, none⟩ = false := by simp [World.frozen?, h]
theorem owns_base {w : World} {base base' : Nat} {e : TypeId} {sz n : Nat} {v : Value} {xs : List Value} (h : w.ownsRow base e sz v n xs) (hb : base' ≤ base) : w.ownsRow base' e sz v n xs := by
  refine ⟨h.1, ?_⟩
  rcases h.2 with q1 | ⟨g, cap, cur, e1, e2, e3⟩
  · exact .inl q1
  · exact .inr ⟨g, cap, cur, e1, Nat.le_trans hb e2, e3⟩
theorem meas_up2 {n k : Nat} (hlt : k < n) : n - (Go.Proofs.YtppoacgeiooppaaGreat.meas_int ((k : Int) + 1)) < n - (Go.Proofs.YtppoacgeiooppaaGreat.meas_int (k : Int)) := by
  simp only [meas_int, Go.RowKit.intOf]; omega
/-- The rows that are made so far. -/
structure RowsAt (W : World) (B ob n k : Nat) (fs : List FunG) (hs : List Value) : Prop where
  len : hs.length = n
  cells : W.heap[ob]? = some (.cells hs.toArray 30 (0, 0))
  row : ∀ (j : Nat) (h : Value) (f : FunG), j < k → hs[j]? = some h → fs[j]? = some f → W.ownsRow (ob + 1) 3 1 h (refL n (preT f.body)).length ((refL n (preT f.body)).map encZ)
  apart : ∀ (i j : Nat) (h h' : Value) (b : Nat), i < k → j < k → i ≠ j → hs[i]? = some h → hs[j]? = some h' → h.ownBlock = some b → h'.ownBlock ≠ some b
theorem RowsAt.kept {W W' : World} {B ob n k : Nat} {fs : List FunG} {hs : List Value} (r : RowsAt W B ob n k fs hs) (h : ∀ (j : Nat) (o : Obj), W.heap[j]? = some o → o.isCells = true → W'.heap[j]? = some o) : RowsAt W' B ob n k fs hs := by
  refine ⟨r.len, h ob _ r.cells rfl, fun j hd f hj h1 h2 => ?_, r.apart⟩
  have q := r.row j hd f hj h1 h2
  refine ⟨q.1, ?_⟩
  rcases q.2 with q1 | ⟨g, cap, cur, e1, e2, e3, e4⟩
  · exact .inl q1
  · exact .inr ⟨g, cap, cur, e1, e2, h g _ e3 rfl, e4⟩
theorem leaves_inv {n : Nat} {P : Program} {fn : Func} {tmps : Array Value} {R : Ending → World → Prop} {v : Value} (hres : ∀ w, (results fn tmps).run P w = .ok v w) (B : Nat) (Inv : World → Prop)
    (hput : ∀ W D, B ≤ D → Inv W → W.heap[D]? = some (.deferred (some [])) → Inv (W.putObj D (.deferred none))) (hR : ∀ W, Inv W → R (.returned v) W) :
    ∀ (dl : List Nat) (W : World), Inv W → (∀ D ∈ dl, B ≤ D ∧ W.heap[D]? = some (.deferred (some []))) → dl.Nodup → LeavesInM Fence.wide n P fn tmps R (dl.map coll) .returning W
  | [], W, hB, _, _ => ⟨v, hres W, hR W hB⟩
  | D :: dl, W, hB, hD, hnd => by
    obtain ⟨hDB, hDh⟩ := hD D (List.mem_cons_self ..)
    rw [List.nodup_cons] at hnd
    refine ⟨by simp, .inl ⟨D, W.putObj D (.deferred none), rfl, run_takeDeferred hDh, ?_⟩⟩
    refine leaves_inv hres B Inv hput hR dl _ (hput W D hDB hB hDh) (fun E hE => ?_) hnd.2
    obtain ⟨h1, h2⟩ := hD E (List.mem_cons_of_mem _ hE)
    exact ⟨h1, (World.putObj_heap_other (by rintro rfl; exact hnd.1 hE)).trans h2⟩
theorem RowsAt.put {W : World} {B ob n k D : Nat} {fs : List FunG} {hs : List Value} (r : RowsAt W B ob n k fs hs) (hD : W.heap[D]? = some (.deferred (some []))) : RowsAt (W.putObj D (.deferred none)) B ob n k fs hs :=
  r.kept fun j o hj ho => (World.putObj_heap_other (by rintro rfl; rw [hD] at hj; cases hj; cases ho)).trans hj
theorem RowsAt.step {W W' : World} {B ob n k : Nat} {fs : List FunG} {hs : List Value} {f : FunG} {v : Value} (r : RowsAt W B ob n k fs hs) (hk : k < n) (hf : fs[k]? = some f)
    (h : ∀ j, j < W.heap.size → j ≠ ob → W'.heap[j]? = W.heap[j]?) (hc : W'.heap[ob]? = some (.cells (hs.set k v).toArray 30 (0, 0)))
    (hv : W'.ownsRow W.heap.size 3 1 v (refL n (preT f.body)).length ((refL n (preT f.body)).map encZ)) : RowsAt W' B ob n (k + 1) fs (hs.set k v) := by
  have hob := (Array.getElem?_eq_some_iff.1 r.cells).1
  refine ⟨by rw [List.length_set]; exact r.len, hc, fun j hd f' hj h1 h2 => ?_, fun i j hd hd' b hi hj hne h1 h2 hb hb' => ?_⟩
  · by_cases e : j = k
    · subst e
      rw [List.getElem?_set, if_pos rfl, if_pos (by rw [r.len]; exact hk)] at h1
      cases h1
      rw [hf] at h2; cases h2
      refine ⟨hv.1, ?_⟩
      rcases hv.2 with q1 | ⟨g, cap, cur, e1, e2, e3, e4⟩
      · exact .inl q1
      · exact .inr ⟨g, cap, cur, e1, by omega, e3, e4⟩
    · rw [List.getElem?_set, if_neg (Ne.symm e)] at h1
      have q := r.row j hd f' (by omega) h1 h2
      refine ⟨q.1, ?_⟩
      rcases q.2 with q1 | ⟨g, cap, cur, e1, e2, e3, e4⟩
      · exact .inl q1
      · exact .inr ⟨g, cap, cur, e1, e2, (h g (Array.getElem?_eq_some_iff.1 e3).1 (by omega)).trans e3, e4⟩
  · have old : ∀ (j : Nat) (hd : Value) (b : Nat), j < k → hs[j]? = some hd → hd.ownBlock = some b → b < W.heap.size := fun j hd b hj h1 hb => by
      have hjn : j < fs.length := by
        have := (List.getElem?_eq_some_iff.1 hf).1; omega
      exact ((r.row j hd fs[j] hj h1 (List.getElem?_eq_getElem hjn)).lt b hb).2
    have new : ∀ b, v.ownBlock = some b → W.heap.size ≤ b := fun b hb => (hv.lt b hb).1
    rw [List.getElem?_set] at h1 h2
    by_cases ei : k = i
    · rw [if_pos ei, if_pos (by rw [r.len]; omega)] at h1
      cases h1
      rw [if_neg (by omega)] at h2
      have := old j hd' b (by omega) h2 hb'
      have := new b hb
      omega
    · rw [if_neg ei] at h1
      by_cases ej : k = j
      · rw [if_pos ej, if_pos (by rw [r.len]; omega)] at h2
        cases h2
        have := old i hd b (by omega) h1 hb
        have := new b hb'
        omega
      · rw [if_neg ej] at h2
        exact r.apart i j hd hd' b (by omega) (by omega) hne h1 h2 hb hb'
/-- What a round over the subterms keeps. -/
def CallI (t : TermG) (WB W : World) (mb : Nat) (pre : List (Sub t)) (W' : World) : Prop :=
  (∀ j, j < WB.heap.size → j ≠ mb → W'.heap[j]? = WB.heap[j]?) ∧ W'.ownsMap Tryz.prog 3 anyR mb pre.length (seenD (pre.map (·.1))) ∧ Below W.heap.size W W' ∧ WB.heap.size ≤ W'.heap.size
theorem seenD_sub {t : TermG} (pre : List (Sub t)) (x : Sub t) : seenD ((pre ++ [x]).map (·.1)) = seenF (seenD (pre.map (·.1))) x.1 := by
  rw [List.map_append, List.map_cons, List.map_nil, seenD_snoc]
theorem CallI.put {t : TermG} {WB W W' W'' : World} {mb : Nat} {pre : List (Sub t)} (x : Sub t) (h : CallI t WB W mb pre W') (hWB : mb < WB.heap.size) (hW : W.heap.size ≤ mb) (h9 : x.1.op = 9) (ho : W''.ownsMap Tryz.prog 3 anyR mb (pre.length + 1) ((seenD (pre.map (·.1))).put (.int .i64 x.1.n) .nil)) (hg : W'.grownBy W'' (some mb)) :
    CallI t WB W mb (pre ++ [x]) W'' := by
  obtain ⟨h1, h2, h3, h4⟩ := h
  refine ⟨fun j hj hne => (hg.block j (by omega) (fun e => hne (Option.some.inj e))).trans (h1 j hj hne), ?_, h3.grown hg h3.size (fun j e => by cases e; omega), Nat.le_trans h4 hg.size⟩
  rw [seenD_sub, List.length_append, seenF, if_pos h9]; exact ho
theorem CallI.skip {t : TermG} {WB W W' : World} {mb : Nat} {pre : List (Sub t)} (x : Sub t) (h : CallI t WB W mb pre W') (h9 : x.1.op ≠ 9) : CallI t WB W mb (pre ++ [x]) W' := by
  obtain ⟨h1, h2, h3, h4⟩ := h
  refine ⟨h1, ?_, h3, h4⟩
  rw [seenD_sub, List.length_append, seenF, if_neg h9]; exact h2.mono (by omega)
def CallsR (w : World) (p : ProgG) (e : Ending) (w' : World) : Prop :=
  (progB p = false → e = .returned (.tuple #[.slice none 0 0, .int .i64 20])) ∧
  (progB p = true → ∃ ob hs, e = .returned (.tuple #[.slice (some ⟨ob, 0, none⟩) p.fs.length p.fs.length, .int .i64 0]) ∧ w.heap.size ≤ ob ∧ RowsAt w' ob ob p.fs.length p.fs.length p.fs hs) ∧ Below w.heap.size w w'
set_option maxRecDepth 100000 in
set_option maxHeartbeats 4000000 in
theorem calls_raw (p : ProgG) (hpf : PFit p) (mx : Int) (w : World) (hg : w.cell? ⟨0, 0, none⟩ = some (.int .i64 mx)) (hok : AV.oks (memOf w) [p.av]) (hNo : progB p = true → ∀ f ∈ p.fs, nodesT f.body ≤ 1000000)
    (hCa : progB p = true → ∀ f ∈ p.fs, ∀ s ∈ preT f.body, s.op = 9 → 0 ≤ s.n ∧ s.n < p.fs.length) :
    Calls Tryz.prog 25 #[p.av.val] w (CallsR w p) := by
  refine (callsIn_wide (n := 3)).1 ?_
  have hdd : ∀ k : Nat, (Fence.wide.depth.isSome = true → 1 ≤ k) := fun k h => by cases h
  obtain ⟨hd, ds, hf, fs⟩ := p
  have hok0 := hok
  obtain ⟨⟨⟨⟨aD, capD, eD, hcD, hxD, _, _⟩, _⟩, ⟨hdF, okF⟩, _⟩, _⟩ := hok
  have hdF' := hdF
  obtain ⟨aF, capF, eF, hcF, hxF, _, _⟩ := hdF
  simp only [AV.vals_length, List.length_map] at eD hcD eF hcF
  subst eD eF
  have avl : (ProgG.mk (.slice aD ds.length capD) ds (.slice aF fs.length capF) fs).av.val = .agg #[.slice aD ds.length capD, .slice aF fs.length capF] := rfl
  obtain ⟨W1, hW1⟩ : ∃ W1, w.alloc (.cells #[.slice aD ds.length capD, .slice aF fs.length capF] 25) = W1 := ⟨_, rfl⟩
  have hB1 : Below w.heap.size w W1 := hW1 ▸ (Below.refl _ w).alloc (Nat.le_refl _) _
  have hb0 : W1.cell? ⟨w.heap.size, 0, none⟩ = some (.slice aD ds.length capD) := hW1 ▸ cell_box rfl
  have hb1 : W1.cell? ⟨w.heap.size, 1, none⟩ = some (.slice aF fs.length capF) := hW1 ▸ cell_box rfl
  have cv := valid_raw (ProgG.mk (.slice aD ds.length capD) ds (.slice aF fs.length capF) fs) hpf mx W1 (below_cell hB1 hg) (AV.oks_mono (fun b o x hx => below_cell hB1 hx) _ hok0) 2
  rw [avl] at cv ⊢
  refine callsIn_of_wp_marks Tryz.func25 rfl trivial ?_ rfl
  simp only [Tryz.ntmps25, List.size_toArray, List.length_cons, List.length_nil, Nat.reduceAdd, Nat.reduceSub, Array.replicate_succ, Array.replicate_zero, List.push_toArray, List.append_toArray, List.nil_append, List.cons_append]
  gi_wp2
  refine ⟨trivial, cv.mono ?_⟩
  clear cv
  rintro e W2 ⟨rfl, hB2⟩
  have hB02 := hB1.trans (hB2.mono hB1.size)
  cases hv : progB (ProgG.mk (.slice aD ds.length capD) ds (.slice aF fs.length capF) fs) with
  | false =>
    gi_wp2
    all_goals exact ⟨_, results_tmp2 rfl _ _ _, fun _ => rfl, fun h => (by rw [hv] at h; cases h), hB02⟩
  | true =>
    have hNo' := hNo hv
    have hCa' := hCa hv
    have hln : fs.length ≤ 12 := by
      have h := hv
      simp only [progB, Bool.and_eq_true] at h
      have h2 := h.2.2.1
      simp at h2; omega
    have hb1' := below_cell hB2 hb1
    obtain ⟨ti, hti, hs1, hby, hz⟩ : ∃ i, Tryz.prog.info? 30 = some i ∧ i.size = 1 ∧ i.bytes = 24 ∧ i.zero = some (.slice none 0 0) := by
      have h1 := Tryz.s30
      have h2 := Tryz.y30
      have h3 := Tryz.z30
      simp only [szT, bytesT, zeroT] at h1 h2 h3
      cases hI : Tryz.prog.info? 30 with
      | none => rw [hI] at h1; cases h1
      | some i =>
        rw [hI] at h1 h2 h3
        exact ⟨i, rfl, Option.some.inj h1, Option.some.inj h2, h3⟩
    have hmk := run_make (P := Tryz.prog) W2 54 30 ti (.slice none 0 0) Tryz.underlying54 hti hz .i64 .i64 (fs.length : Int) (fs.length : Int) (by omega) (by omega) (by rw [hby]; omega) (by omega)
    obtain ⟨hs0, hh0, hl0⟩ : ∃ hs0 : List Value, madeCells (Value.slice none 0 0).cells (fs.length * 1) = hs0.toArray ∧ hs0.length = fs.length :=
      ⟨(madeCells (Value.slice none 0 0).cells (fs.length * 1)).toList, rfl, by rw [Array.length_toList, size_madeCells, Nat.mul_one]⟩
    simp only [Int.toNat_natCast, hs1] at hmk
    rw [hh0] at hmk
    obtain ⟨W3, hW3⟩ : ∃ W3, W2.alloc (.cells hs0.toArray 30) = W3 := ⟨_, rfl⟩
    rw [hW3] at hmk
    have hB3 : Below W2.heap.size W2 W3 := hW3 ▸ (Below.refl _ W2).alloc (Nat.le_refl _) _
    have hr3 : RowsAt W3 W2.heap.size W2.heap.size fs.length 0 fs hs0 := ⟨hl0, hW3 ▸ World.alloc_heap_new W2 _, fun j h f hj => by omega, fun i j h h' b hi => by omega⟩
    have hb1'' := below_cell hB3 hb1'
    clear hW3 hh0
    gi_wp2
    refine wpIn_loop (fun a W => ∃ (k : Nat) (dl : List Nat) (hs : List Value) (v5 v6 v7 v20 v21 v22 v23 v24 v25 v26 v27 v35 v36 v37 v38 v39 v40 v41 : Value), k ≤ fs.length ∧
        a = { tmps := #[.agg #[.slice aD ds.length capD, .slice aF fs.length capF], .pointer (some ⟨w.heap.size, 0, none⟩), .slice none 0 0, .int .i64 0, .slice (some ⟨W2.heap.size, 0, none⟩) fs.length fs.length, v5, v6, v7, undef, .agg #[.slice aD ds.length capD, .slice aF fs.length capF], .bool true, .bool false, .pointer (some ⟨w.heap.size, 1, none⟩), .slice aF fs.length capF, .int .i64 fs.length, .slice (some ⟨W2.heap.size, 0, none⟩) fs.length fs.length, .pointer (some ⟨w.heap.size, 1, none⟩), .slice aF fs.length capF, .int .i64 fs.length, .int .i64 k, v20, v21, v22, v23, v24, v25, v26, v27, undef, undef, undef, undef, undef, undef, undef, v35, v36, v37, v38, v39, v40, v41, undef], defers := dl.map coll } ∧
        RowsAt W W2.heap.size W2.heap.size fs.length k fs hs ∧ Below W2.heap.size W2 W ∧ (∀ D ∈ dl, W2.heap.size ≤ D ∧ W.heap[D]? = some (.deferred (some []))) ∧ dl.Nodup)
      (fun a _ => fs.length - (Go.RowKit.intOf (a.tmps[19]?.getD undef)).toNat) ⟨0, [], hs0, undef, undef, undef, undef, undef, undef, undef, undef, undef, undef, undef, undef, undef, undef, undef, undef, undef, undef, Nat.zero_le _, rfl, hr3, hB3, (fun D h => by cases h), List.nodup_nil⟩ ?_
    rintro a W ⟨k, dl, hs, v5, v6, v7, v20, v21, v22, v23, v24, v25, v26, v27, v35, v36, v37, v38, v39, v40, v41, hk, rfl, hrw, hB4, hD, hnd⟩
    by_cases hlt : k < fs.length
    · obtain ⟨f, hfk⟩ : ∃ f, fs[k]? = some f := ⟨_, List.getElem?_eq_getElem hlt⟩
      obtain ⟨b, off, rfl, hcell⟩ := elem_cells hdF' hfk
      have hBw : Below w.heap.size w W := hB02.trans (hB4.mono hB02.size)
      have hMW : HoldsM (memOf w) W := fun b o x hx => below_cell hBw hx
      have hwk : wrap64 ((k : Int) + 1) = (k : Int) + 1 := IntWalk.wrap64_in _ (by omega)
      have hNf := hNo' f (List.mem_of_getElem? hfk)
      have hCf := hCa' f (List.mem_of_getElem? hfk)
      obtain ⟨fname, fhp, fparams, fres, ⟨bop, bn, bname, bty, bha, bargs, bhc, bcls⟩⟩ := f
      have okf : AV.oks (memOf w) (FunG.mk fname fhp fparams fres (.mk bop bn bname bty bha bargs bhc bcls)).cs := (AV.oks_iff _ _).1 okF _ (List.mem_map_of_mem (List.mem_of_getElem? hfk))
      simp only [FunG.cs, paramsAV, TermG.op, TermG.n, TermG.name, TermG.ty, TermG.ha, TermG.hc, TermG.args, TermG.cls] at okf
      have okB : AV.oks (memOf w) (TermG.mk bop bn bname bty bha bargs bhc bcls).cs := by rw [TermG.cs_eq]; exact okf.2.2.2
      obtain ⟨_, ⟨⟨p1, c1, q1, _, _, _, _⟩, _⟩, _, _, _, _, _, ⟨⟨p4, c4, q4, _, _, _, _⟩, _⟩, ⟨⟨p5, c5, q5, _, _, _, _⟩, _⟩, _⟩ := okf
      simp only [AV.vals_length, List.length_map] at q1 q4 q5
      subst q1 q4 q5
      have avl : (FunG.mk fname (.slice p1 fparams.length c1) fparams fres (.mk bop bn bname bty (.slice p4 bargs.length c4) bargs (.slice p5 bcls.length c5) bcls)).av.val = .agg #[.string (bs fname), .slice p1 fparams.length c1, .int .i64 fres, .int .i64 bop, .int .i64 bn, .string (bs bname), .int .i64 bty, .slice p4 bargs.length c4, .slice p5 bcls.length c5] := by
        simp only [FunG.av, AV.val, FunG.cs, paramsAV, AV.vals, TermG.op, TermG.n, TermG.name, TermG.ty, TermG.ha, TermG.hc]
      rw [avl] at hcell
      have e0 : W.cell? ⟨b, off + k * 9, none⟩ = some (.string (bs fname)) := hMW _ _ _ (hcell 0 _ rfl)
      have e1 : W.cell? ⟨b, off + k * 9 + 1, none⟩ = some (.slice p1 fparams.length c1) := hMW _ _ _ (hcell 1 _ rfl)
      have e2 : W.cell? ⟨b, off + k * 9 + 2, none⟩ = some (.int .i64 fres) := hMW _ _ _ (hcell 2 _ rfl)
      have e3 : W.cell? ⟨b, off + k * 9 + 3, none⟩ = some (.int .i64 bop) := hMW _ _ _ (hcell 3 _ rfl)
      have e4 : W.cell? ⟨b, off + k * 9 + 4, none⟩ = some (.int .i64 bn) := hMW _ _ _ (hcell 4 _ rfl)
      have e5 : W.cell? ⟨b, off + k * 9 + 5, none⟩ = some (.string (bs bname)) := hMW _ _ _ (hcell 5 _ rfl)
      have e6 : W.cell? ⟨b, off + k * 9 + 6, none⟩ = some (.int .i64 bty) := hMW _ _ _ (hcell 6 _ rfl)
      have e7 : W.cell? ⟨b, off + k * 9 + 7, none⟩ = some (.slice p4 bargs.length c4) := hMW _ _ _ (hcell 7 _ rfl)
      have e8 : W.cell? ⟨b, off + k * 9 + 8, none⟩ = some (.slice p5 bcls.length c5) := hMW _ _ _ (hcell 8 _ rfl)
      have hmm : (Instr.makeMap 102 none).run Tryz.prog (W.alloc (.cells #[.string (bs fname), .slice p1 fparams.length c1, .int .i64 fres, .int .i64 bop, .int .i64 bn, .string (bs bname), .int .i64 bty, .slice p4 bargs.length c4, .slice p5 bcls.length c5] 71)) = .ok (.map (some (W.heap.size + 1))) ((W.alloc (.cells #[.string (bs fname), .slice p1 fparams.length c1, .int .i64 fres, .int .i64 bop, .int .i64 bn, .string (bs bname), .int .i64 bty, .slice p4 bargs.length c4, .slice p5 bcls.length c5] 71)).alloc (.map #[] 0)) := by
        rw [← World.size_alloc W (.cells #[.string (bs fname), .slice p1 fparams.length c1, .int .i64 fres, .int .i64 bop, .int .i64 bn, .string (bs bname), .int .i64 bty, .slice p4 bargs.length c4, .slice p5 bcls.length c5] 71)]; rfl
      have cs := subterms_in 2 bop bn bname bty p4 p5 bargs.length c4 bcls.length c5 (((W.alloc (.cells #[.string (bs fname), .slice p1 fparams.length c1, .int .i64 fres, .int .i64 bop, .int .i64 bn, .string (bs bname), .int .i64 bty, .slice p4 bargs.length c4, .slice p5 bcls.length c5] 71)).alloc (.map #[] 0)).alloc (.cells #[.map (some (W.heap.size + 1))] 102))
      gi_wp2
      refine ⟨trivial, cs.mono ?_⟩
      clear cs hmm
      rintro e WB ⟨rfl, hWB⟩
      have hBB : Below W.heap.size W WB := hWB ▸ ((((Below.refl _ W).alloc (Nat.le_refl _) _).alloc (by simp) _).alloc (by simp; omega) _).alloc (by simp; omega) _
      have hsz : WB.heap.size = W.heap.size + 4 := by rw [hWB]; simp
      have hmap : WB.heap[W.heap.size + 1]? = some (.map #[] 0) := hWB ▸ (four_allocs W _ _ _ _).1
      have hb7 : WB.heap[W.heap.size + 1 + 1]? = some (.cells #[.map (some (W.heap.size + 1))] 102 (0, 0)) := hWB ▸ (four_allocs W _ _ _ _).2.1
      have hc8 : WB.heap[W.heap.size + 1 + 1 + 1]? = some (.cells #[.int .i64 bop, .int .i64 bn, .string (bs bname), .int .i64 bty, .slice p4 bargs.length c4, .slice p5 bcls.length c5] 41 (0, 0)) := hWB ▸ (four_allocs W _ _ _ _).2.2
      have hRef : RefOk (fun b o => WB.cell? ⟨b, o, none⟩) (.pointer (some ⟨W.heap.size + 1 + 1 + 1, 0, none⟩)) (AV.vals (TermG.mk bop bn bname bty (.slice p4 bargs.length c4) bargs (.slice p5 bcls.length c5) bcls).cs) := by
        refine ⟨_, _, rfl, fun j x hx => ?_⟩
        rw [TermG.cs_eq] at hx
        simp only [AV.vals, AV.val, TermG.op, TermG.n, TermG.name, TermG.ty, TermG.ha, TermG.hc] at hx
        show WB.cell? ⟨_, _, none⟩ = _
        rw [cell_at hc8, Nat.zero_add]
        simpa using hx
      have hown : WB.ownsMap Tryz.prog 3 anyR (W.heap.size + 1) 0 (seenD []) := ⟨#[], 0, hmap, ⟨by simp, Go.MapKept.stamped_empty 0, by simp⟩, Nat.le_refl _, rfl⟩
      have hmn : ∀ b o x, memOf w b o = some x → b ≠ W.heap.size + 1 := fun b o x hx => by have := lt_of_cell hx; have := hBw.size; omega
      rw [World.size_alloc, World.size_alloc, World.size_alloc]
      clear hWB hc8 hmap
      gi_wp2
      refine wpIn_rangeFunc_ownH (P := Tryz.prog) rfl (by omega) (gf := 97) (lb := #[.pointer (some ⟨W.heap.size + 1 + 1 + 1, 0, none⟩)]) rfl trivial (enters_of Tryz.func97 (by kernel_rfl) rfl)
        (sub_stops 2 (W.heap.size + 1 + 1 + 1) (W.heap.size + 1) _ (memOf w) hmn okB WB (fun b o x hx => below_cell hBB (hMW b o x hx)) (by omega) hRef) (fun h k => h.trans k) (fun W l o o' _ h hc _ => KpN.put h hc) (Below.refl _ _) (fun _ => rfl)
        (CallI _ WB W (W.heap.size + 1))
        (fun _ _ _ => False) ?own (fun _ _ _ _ _ hs _ _ => hs) (show CallI _ WB W _ [] WB from ⟨fun _ _ _ => rfl, hown, hBB, Nat.le_refl _⟩)
        (fun x a' W' => ∃ bx, WB.heap.size ≤ bx ∧ W'.heap[bx]? = some (.cells (AV.vals x.1.cs).toArray 41 (0, 0)) ∧ a' = { tmps := #[.agg #[.slice aD ds.length capD, .slice (some ⟨b, off, none⟩) fs.length capF], .pointer (some ⟨w.heap.size, 0, none⟩), .slice none 0 0, .int .i64 0, .slice (some ⟨W2.heap.size, 0, none⟩) fs.length fs.length, .int .i64 k, .pointer (some ⟨W.heap.size, 0, none⟩), .pointer (some ⟨W.heap.size + 1 + 1, 0, none⟩), .pointer (some ⟨bx, 0, none⟩), .agg #[.slice aD ds.length capD, .slice (some ⟨b, off, none⟩) fs.length capF], .bool true, .bool false, .pointer (some ⟨w.heap.size, 1, none⟩), .slice (some ⟨b, off, none⟩) fs.length capF, .int .i64 fs.length, .slice (some ⟨W2.heap.size, 0, none⟩) fs.length fs.length, .pointer (some ⟨w.heap.size, 1, none⟩), .slice (some ⟨b, off, none⟩) fs.length capF, .int .i64 fs.length, .int .i64 k, .bool true, .int .i64 k, .pointer (some ⟨b, off + k * 9, none⟩), .agg #[.string (bs fname), .slice p1 fparams.length c1, .int .i64 fres, .int .i64 bop, .int .i64 bn, .string (bs bname), .int .i64 bty, .slice p4 bargs.length c4, .slice p5 bcls.length c5], .map (some (W.heap.size + 1)), .pointer (some ⟨W.heap.size, 3, none⟩), .agg #[.int .i64 bop, .int .i64 bn, .string (bs bname), .int .i64 bty, .slice p4 bargs.length c4, .slice p5 bcls.length c5], .func (.func 97) #[] #[.pointer (some ⟨W.heap.size + 1 + 1 + 1, 0, none⟩)], x.1.av.val, undef, undef, undef, undef, undef, undef, v35, v36, v37, v38, v39, v40, v41, undef], defers := [] }) ?ownA ?assign ?body ?done ?stop
      case own =>
        rintro pre A B row ⟨h1, h2, h3, h4⟩ hg hr
        refine ⟨fun j hj hne => ?_, h2.kept hg (fun e => by have := (hr _ e.symm).1; omega), h3.grown hg h3.size (fun j e => by have := (hr j e).1; omega), Nat.le_trans h4 hg.size⟩
        rw [hg.block j (by omega) (fun e => by have := (hr _ e.symm).1; omega)]
        exact h1 j hj hne
      case ownA =>
        rintro x a' _ A B row ⟨bx, h1, h2, h3⟩ hg hr
        refine ⟨bx, h1, (hg.block bx (Array.getElem?_eq_some_iff.1 h2).1 (fun e => ?_)).trans h2, h3⟩
        obtain ⟨o, ho, hc⟩ := (hr bx e.symm).2
        rw [h2] at ho; cases ho; cases hc
      case assign =>
        rintro l pre ⟨x, hxp⟩ W' K ⟨h1, h2, h3, h4⟩ hK
        have okx := preT_ok _ okB x hxp
        obtain ⟨xop, xn, xname, xty, xha, xargs, xhc, xcls⟩ := x
        rw [TermG.cs_eq] at okx
        obtain ⟨_, _, _, _, ⟨⟨x4, d4, z4, _, _, _, _⟩, _⟩, ⟨⟨x5, d5, z5, _, _, _, _⟩, _⟩, _⟩ := okx
        simp only [TermG.ha, TermG.hc, TermG.args, TermG.cls, AV.vals_length, List.length_map] at z4 z5
        subst z4 z5
        have avx : (TermG.mk xop xn xname xty (.slice x4 xargs.length d4) xargs (.slice x5 xcls.length d5) xcls).av.val = .agg #[.int .i64 xop, .int .i64 xn, .string (bs xname), .int .i64 xty, .slice x4 xargs.length d4, .slice x5 xcls.length d5] := by
          simp only [TermG.av, AV.val, TermG.cs_eq, AV.vals, TermG.op, TermG.n, TermG.name, TermG.ty, TermG.ha, TermG.hc]
        simp only [avx]
        gi_wp2
        refine hK _ _ ((KeepsOthers.alloc _ _).from _) (KpN.alloc _ _ _) ⟨fun j hj hne => (alloc_lt (by omega)).trans (h1 j hj hne), h2.alloc _, h3.alloc h3.size _, by simp only [World.size_alloc]; omega⟩ ⟨W'.heap.size, h4, ?_, ?_⟩
        · rw [TermG.cs_eq]
          exact alloc_at rfl
        · rfl
      case body =>
        rintro l pre ⟨x, hxp⟩ a' W' hl _ ⟨h1, h2, h3, h4⟩ ⟨bx, g1, g2, rfl⟩ hlen
        have okx := preT_ok _ okB x hxp
        have hC9 := hCf x hxp
        rw [preT_len] at hlen
        obtain ⟨xop, xn, xname, xty, xha, xargs, xhc, xcls⟩ := x
        rw [TermG.cs_eq] at okx
        obtain ⟨_, _, _, _, ⟨⟨x4, d4, z4, _, _, _, _⟩, _⟩, ⟨⟨x5, d5, z5, _, _, _, _⟩, _⟩, _⟩ := okx
        simp only [TermG.ha, TermG.hc, TermG.args, TermG.cls, AV.vals_length, List.length_map] at z4 z5
        subst z4 z5
        have avx : (TermG.mk xop xn xname xty (.slice x4 xargs.length d4) xargs (.slice x5 xcls.length d5) xcls).av.val = .agg #[.int .i64 xop, .int .i64 xn, .string (bs xname), .int .i64 xty, .slice x4 xargs.length d4, .slice x5 xcls.length d5] := by
          simp only [TermG.av, AV.val, TermG.cs_eq, AV.vals, TermG.op, TermG.n, TermG.name, TermG.ty, TermG.ha, TermG.hc]
        rw [TermG.cs_eq] at g2
        simp only [AV.vals, AV.val, TermG.op, TermG.n, TermG.name, TermG.ty, TermG.ha, TermG.hc] at g2
        simp only [TermG.op, TermG.n] at hC9
        simp only [avx]
        have q0 : W'.cell? ⟨bx, 0, none⟩ = some (.int .i64 xop) := cell_at g2
        have q1 : W'.cell? ⟨bx, 1, none⟩ = some (.int .i64 xn) := cell_at g2
        have q7 : W'.cell? ⟨W.heap.size + 1 + 1, 0, none⟩ = some (.map (some (W.heap.size + 1))) := cell_at ((h1 _ (by omega) (by omega)).trans hb7)
        by_cases h9 : xop = 9
        · have hr9 := hC9 h9
          subst h9
          have hkey : keyOf Tryz.prog 3 (.int .i64 xn) = some (.int .i64 xn) := keyOf_int_mk Tryz.underlying3 (wf_small hr9.1 (by omega))
          obtain ⟨W'', hrun, ho2, hgr⟩ := h2.update (t := 102) (e := 4) (int_keyed Tryz.underlying3) Tryz.underlying102 (by simp only [maxLen]; omega) (val := .bool true) hkey (anyR_val _)
          gi_wp2
          exact ⟨KeepsFrom.of_grownBy hgr (fun j e => by cases e; omega), KpN.mapTurn hgr (owns_nocells h2), CallI.put _ ⟨h1, h2, h3, h4⟩ (by omega) (by omega) rfl ho2 hgr⟩
        · gi_wp2
          exact ⟨KeepsFrom.refl _ _, KpN.refl _ _, CallI.skip _ ⟨h1, h2, h3, h4⟩ h9⟩
      case done =>
        rintro D ys W' hDs hys ⟨h1, h2, h3, h4⟩ hK
        have q7 : W'.cell? ⟨W.heap.size + 1 + 1, 0, none⟩ = some (.map (some (W.heap.size + 1))) := cell_at ((h1 _ (by omega) (by omega)).trans hb7)
        rw [hys] at h2
        obtain ⟨W5, hW5⟩ : ∃ W5, W'.alloc (.cells #[.map (some (W.heap.size + 1))] 102) = W5 := ⟨_, rfl⟩
        have ck := (callsIn_wide (n := 2)).2 (callsIn_wide.1 (keysI_in (some (W.heap.size + 1)) W'))
        rw [hW5] at ck
        have h25 : W5.ownsMap Tryz.prog 3 anyR (W.heap.size + 1) ys.length (seenD (preT (.mk bop bn bname bty (.slice p4 bargs.length c4) bargs (.slice p5 bcls.length c5) bcls))) := hW5 ▸ h2.alloc _
        have hq5 : W5.cell? ⟨W'.heap.size, 0, none⟩ = some (.map (some (W.heap.size + 1))) := hW5 ▸ cell_box rfl
        have hsz5 : W5.heap.size = W'.heap.size + 1 := by rw [← hW5]; exact World.size_alloc _ _
        have hold5 : ∀ j, j < W'.heap.size → W5.heap[j]? = W'.heap[j]? := fun j hj => hW5 ▸ alloc_lt hj
        have hssz := seen_size Tryz.underlying3 h25 hCf
        have cs := (callsIn_wide (n := 2)).2 (callsIn_wide.1 (sortedI_in (W.heap.size + 1) ys.length W'.heap.size _ anyR W5 h25 (by simp only [maxLen]; omega) (by omega) hq5))
        gi_wp2
        refine ⟨trivial, ck.mono ?_⟩
        clear ck
        rintro e W5' ⟨rfl, e5⟩
        have e5 := e5.symm
        subst e5
        gi_wp2
        refine ⟨trivial, cs.mono ?_⟩
        clear cs
        rintro e W6 ⟨v, ss, rfl, hperm, hrow, _, hB6⟩
        have hob := (Array.getElem?_eq_some_iff.1 hrw.cells).1
        have hobB := hB4.size
        have hold6 : ∀ j, j < W.heap.size → W6.heap[j]? = W.heap[j]? := fun j hj => ((hB6.block j (by omega)).trans (hold5 j (by omega))).trans (h3.block j hj)
        have hob6 := (hold6 _ hob).trans hrw.cells
        obtain ⟨u, hu⟩ : ∃ u, hs[k]? = some u := ⟨_, List.getElem?_eq_getElem (by rw [hrw.len]; exact hlt)⟩
        have hcu : W6.cell? ⟨W2.heap.size, k, none⟩ = some u := (cell_at hob6).trans (by simpa using hu)
        have hfu : W6.frozen? ⟨W2.heap.size, k, none⟩ = false := frozen_at hob6
        obtain ⟨vp, vm, vc, rfl⟩ := row_slice hrow
        gi_wp2
        have hl : ss.mergeSort leI = refL fs.length (preT (.mk bop bn bname bty (.slice p4 bargs.length c4) bargs (.slice p5 bcls.length c5) bcls)) := (mergeSort_of_perm_i (hperm.trans (seen_perm Tryz.underlying3 h25 hCf).symm)).trans (refL_sorted _ _)
        have hlen : ss.length = (refL fs.length (preT (.mk bop bn bname bty (.slice p4 bargs.length c4) bargs (.slice p5 bcls.length c5) bcls))).length := by rw [← hl, List.length_mergeSort]
        have hrow2 := ownsRow_setCell_below hrow (a := ⟨W2.heap.size, k, none⟩) (by show W2.heap.size < _; omega) (.slice vp vm vc)
        have hl' : List.mergeSort ss (fun x y => decide (x ≤ y)) = _ := hl
        rw [hl', hlen] at hrow2
        have hlt6 : ∀ j, j < W'.heap.size → W6.heap[j]? = W'.heap[j]? := fun j hj => (hB6.block j (by omega)).trans (hold5 j hj)
        have hB57 : Below W2.heap.size W2 W6 := (hB4.trans (h3.mono hobB)).trans (((hW5 ▸ (Below.refl W2.heap.size W').alloc (by omega) _ : Below W2.heap.size W' W5)).trans (hB6.mono (by omega)))
        refine ⟨⟨k + 1, D :: dl, hs.set k (.slice vp vm vc), _, _, _, _, _, _, _, _, _, _, _, _, _, _, _, _, _, _, by omega, rfl, ?_, hB57.setCell (p := ⟨W2.heap.size, k, none⟩) (Nat.le_refl _) _, fun E hE => ?_, List.nodup_cons.2 ⟨fun h => ?_, hnd⟩⟩, ?_⟩
        · refine hrw.step hlt hfk (fun j hj hne => (heap_setCell_other _ _ _ _ hne).trans (hold6 j hj)) ?_ (owns_base hrow2 (by omega))
          rw [heap_setCell_same _ _ _ _ _ _ hob6]; simp
        · rcases List.mem_cons.1 hE with rfl | hE
          · exact ⟨by omega, (heap_setCell_other _ _ _ _ (by show E ≠ W2.heap.size; omega)).trans ((hlt6 _ (Array.getElem?_eq_some_iff.1 hK).1).trans hK)⟩
          · have hEW := (hD E hE).2
            have hElt := (Array.getElem?_eq_some_iff.1 hEW).1
            refine ⟨(hD E hE).1, (heap_setCell_other _ _ _ _ (fun e => ?_)).trans ((hold6 E hElt).trans hEW)⟩
            have e : E = W2.heap.size := e
            rw [e, hrw.cells] at hEW; cases hEW
        · have := (Array.getElem?_eq_some_iff.1 (hD D h).2).1; omega
        · exact meas_up2 hlt
      case stop =>
        rintro D c pre W' _ _ h _
        exact h.elim
    · obtain rfl : k = fs.length := by omega
      gi_wp2
      all_goals exact leaves_inv (fun w => results_tmp2 rfl _ _ _) W2.heap.size (fun W => RowsAt W W2.heap.size W2.heap.size fs.length fs.length fs hs ∧ Below W2.heap.size W2 W) (fun W D hD h hd => ⟨h.1.put hd, h.2.trans ((Below.refl W2.heap.size W).grown (grownBy_putObj' W D (.deferred none)) h.2.size (fun k e => by cases e; exact hD))⟩) (fun W h => ⟨fun e => (by rw [hv] at e; cases e), fun _ => ⟨_, hs, rfl, hB02.size, h.1⟩, hB02.trans (h.2.mono hB02.size)⟩) dl W ⟨hrw, hB4⟩ hD hnd
end Go.Proofs.YtppoacgeiooppaaGreat
