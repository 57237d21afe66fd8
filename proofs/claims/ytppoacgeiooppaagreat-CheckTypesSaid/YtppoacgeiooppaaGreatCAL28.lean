/- Rows that are tracked as a whole: the rules. -/
import Derived.Test.YtppoacgeiooppaaGreatCAL25
import Derived.Test.YtppoacgeiooppaaGreatCAL25
import Derived.Laws.CopyRow
set_option linter.unusedVariables false
set_option linter.unusedSimpArgs false
namespace Go.AL
section
variable {P : Program}

/-- A raw slice that is nil, or begins a tracked row; its first n items' cells. -/
def RowB (hp : Hp) (e : TypeId) (sz : Nat) (h : Value) (n : Nat) (xs : List AV) : Prop :=
  (h = .slice none 0 0 ∧ n = 0 ∧ xs = []) ∨
  ∃ b cap rest, h = .slice (some ⟨b, 0, none⟩) n cap ∧ n ≤ cap ∧ cap ≤ maxLen ∧ xs.length = n * sz ∧ (xs ++ rest).length = cap * sz ∧ hp.blk b = some (e, xs ++ rest)

/-- A row has been turned, or another has taken its place; nothing else. -/
structure RowTo (hp : Hp) (h : Value) (hp' : Hp) (h' : Value) : Prop where
  mp : hp'.mp = hp.mp
  sp : hp'.sp = hp.sp
  gl : hp'.gl = hp.gl
  own : ∀ b, blockOf h' = some b → blockOf h = some b ∨ Fresh hp b
  blk : ∀ j, blockOf h' ≠ some j → hp'.blk j = hp.blk j
theorem RowTo.refl (hp : Hp) (h : Value) : RowTo hp h hp h := ⟨rfl, rfl, rfl, fun _ hb => .inl hb, fun _ _ => rfl⟩
/-- What another row holds stays. -/
theorem RowTo.keep {hp hp' : Hp} {h h' : Value} (r : RowTo hp h hp' h') {j : Nat} {x : TypeId × List AV} (hj : hp.blk j = some x) (hne : blockOf h ≠ some j) : hp'.blk j = some x ∧ blockOf h' ≠ some j := by
  have : blockOf h' ≠ some j := by
    intro e
    rcases r.own j e with h1 | h1
    · exact hne h1
    · rw [h1.1] at hj; cases hj
  exact ⟨(r.blk j this).trans hj, this⟩
theorem RowB.keep {hp hp' : Hp} {h h' g : Value} {e : TypeId} {sz n : Nat} {xs : List AV} (r : RowTo hp h hp' h') (k : RowB hp e sz g n xs) (hne : ∀ b, blockOf g = some b → blockOf h ≠ some b) :
    RowB hp' e sz g n xs ∧ ∀ b, blockOf g = some b → blockOf h' ≠ some b := by
  rcases k with ⟨rfl, rfl, rfl⟩ | ⟨b, cap, rest, rfl, h1, h2, h3, h4, h5⟩
  · exact ⟨.inl ⟨rfl, rfl, rfl⟩, fun b hb => by cases hb⟩
  · obtain ⟨k1, k2⟩ := r.keep h5 (hne b rfl)
    exact ⟨.inr ⟨b, cap, rest, rfl, h1, h2, h3, h4, k1⟩, fun c hc => by simp only [blockOf, Option.some.injEq] at hc; subst hc; exact k2⟩

theorem appendRow_by {d : Option Nat} {ty : TypeId} {pos : String} {aft : Array Edge} {g : Option (Nat × Bool)} {t e : TypeId} {s x : Operand} {sz by_ : Nat} {z : Value} {K : St → Prop} {st : St} {h h2 : Value} {n : Nat} {b : AV} {xs ys : List AV}
    {fo : Fix (⟨d, .call { callee := .builtin .append, args := [s, x].toArray, argTypes := [t, t].toArray }, ty, pos, aft, g⟩ : Oper)} {fk : Fix K}
    (hk : kindT P t = .sl e) (hsz : szT P e = some sz) (hby : bytesT P e = some by_) (hz : zeroT P e = some z) (hzs : z.cells.size = sz) (hpos : 0 < sz)
    (hs : st.ev s = some (.v h)) (hrow : RowB st.hp e sz h n xs) (hx : st.ev x = some b) (cb : Cast b (.lst sz h2 ys))
    (hone : (ys.flatMap AV.cells).all AV.one = true) (h63 : n + ys.length ≤ maxLen) (hbytes : (n + ys.length) * by_ ≤ 140737488355328) (hd : dstOk st d)
    (hK : ∀ h' hp', RowB hp' e sz h' (n + ys.length) (xs ++ ys.flatMap AV.cells) → RowTo st.hp h hp' h' → K ((st.setHp hp').putO d (.v h'))) :
    aopX P ⟨d, .call { callee := .builtin .append, args := [s, x].toArray, argTypes := [t, t].toArray }, ty, pos, aft, g⟩ K st fo fk := by
  intro F ac w hr K' Q hK'
  obtain ⟨m, hm⟩ := hr.ex
  have ob := cb.2 m (hm.ok hx)
  have hv := hr.eval hs
  have hv2 := hr.eval hx
  rw [← cb.1] at hv2
  simp only [AV.val] at hv hv2
  have hyl : ∀ y ∈ ys, y.cells.length = sz := by
    obtain ⟨⟨_, _, _, _, _, hys, _⟩, hyo⟩ := ob
    intro y hy
    have := hys y.val (by rw [AV.vals_eq]; exact List.mem_map_of_mem hy)
    rw [AV.oks_iff] at hyo
    rwa [cells_len (hyo y hy)] at this
  have hfl : (ys.flatMap AV.cells).length = ys.length * sz := by
    clear hone h63 hbytes hK ob cb hv2
    induction ys with
    | nil => simp
    | cons y ys ih => rw [List.flatMap_cons, List.length_append, hyl y (by simp), ih (fun z hz => hyl z (by simp [hz])), List.length_cons, Nat.add_mul]; omega
  unfold Oper.wp
  rcases hrow with ⟨rfl, rfl, rfl⟩ | ⟨bk, cap, rest, rfl, hn, hcm, hxl, hcl, hblk⟩
  · obtain ⟨v', w', hp', hrun, h1, h2', h3, h4, h5, hhp, hcase⟩ := appendN_core (ty := ty) hm.hp hr.lo.bs (kind_sl hk) hsz hby hz hzs hpos ob hone (by simpa using h63) (by simpa using hbytes)
    have hrun' : (execOp ac.eval ⟨d, .call { callee := .builtin .append, args := [s, x].toArray, argTypes := [t, t].toArray }, ty, pos, aft, g⟩).run P w = .ok (.value v') w' := by
      simp only [execOp, resolve, Sem.run_bind, Sem.run_pure, Result.andThen_ok, invoke, builtin]
      simp [hv, hv2, hrun]
    rw [hrun']
    refine hK' _ _ ⟨_, hK v' hp' ?_ ?_, hr.close hm (hr.lo.grow h1 h2' h3 h4 h5) (Mem.le_refl m) hhp hd (x := .v v') trivial⟩
    · rcases hcase with ⟨rfl, rfl, rfl⟩ | ⟨b', cap', rest, hf, hc1, hc2, hc3, rfl, rfl⟩
      · exact .inl ⟨rfl, rfl, rfl⟩
      · refine .inr ⟨b', cap', rest, by rw [Nat.zero_add], by omega, hc2, by rw [List.nil_append, hfl, Nat.zero_add], ?_, by rw [Hp.setBlk_blk, if_pos rfl, List.nil_append]⟩
        rw [List.nil_append, List.length_append, hfl, hc3, ← Nat.add_mul]; congr 1; omega
    · rcases hcase with ⟨rfl, rfl, rfl⟩ | ⟨b', cap', rest, hf, hc1, hc2, hc3, rfl, rfl⟩
      · exact RowTo.refl _ _
      · refine ⟨rfl, rfl, rfl, fun b hb => ?_, fun j hj => ?_⟩
        · simp only [blockOf, Option.some.injEq] at hb
          subst hb; exact .inr hf
        · rw [Hp.setBlk_blk, if_neg (fun e => hj (by rw [e]; rfl))]
  · obtain ⟨v', w', hp', hrun, h1, h2', h3, h4, h5, hhp, hcase⟩ := appendB_core (ty := ty) hm.hp hr.lo.bs (kind_sl hk) hsz hby hz hzs hpos hblk hcl hn ob hone h63 hbytes
    have hrun' : (execOp ac.eval ⟨d, .call { callee := .builtin .append, args := [s, x].toArray, argTypes := [t, t].toArray }, ty, pos, aft, g⟩).run P w = .ok (.value v') w' := by
      simp only [execOp, resolve, Sem.run_bind, Sem.run_pure, Result.andThen_ok, invoke, builtin]
      simp [hv, hv2, hrun]
    rw [hrun']
    have htake : (xs ++ rest).take (n * sz) = xs := by rw [← hxl, List.take_left']; rfl
    refine hK' _ _ ⟨_, hK v' hp' ?_ ?_, hr.close hm (hr.lo.grow h1 h2' h3 h4 h5) (Mem.le_refl m) hhp hd (x := .v v') trivial⟩
    · rcases hcase with ⟨hroom, rfl, rfl⟩ | ⟨b', cap', rest', hf, hc1, hc2, hc3, rfl, rfl⟩
      · refine .inr ⟨bk, cap, (xs ++ rest).drop (n * sz + (ys.flatMap AV.cells).length), rfl, hroom, hcm, by rw [List.length_append, hxl, hfl, Nat.add_mul], ?_, by rw [Hp.setBlk_blk, if_pos rfl, splice, htake]⟩
        rw [List.length_append, List.length_append, List.length_drop, hcl, hxl, hfl]
        have : n * sz + ys.length * sz ≤ cap * sz := by rw [← Nat.add_mul]; exact Nat.mul_le_mul_right _ hroom
        omega
      · refine .inr ⟨b', cap', rest', rfl, hc1, hc2, by rw [List.length_append, hxl, hfl, Nat.add_mul], ?_, by rw [Hp.setBlk_blk, if_pos rfl, htake]⟩
        rw [List.length_append, List.length_append, hxl, hfl, hc3, ← Nat.add_mul, ← Nat.add_mul]; congr 1; omega
    · rcases hcase with ⟨hroom, rfl, rfl⟩ | ⟨b', cap', rest', hf, hc1, hc2, hc3, rfl, rfl⟩
      · refine ⟨rfl, rfl, rfl, fun b hb => .inl hb, fun j hj => ?_⟩
        rw [Hp.setBlk_blk, if_neg (fun e => hj (by rw [e]; rfl))]
      · refine ⟨rfl, rfl, rfl, fun b hb => ?_, fun j hj => ?_⟩
        · simp only [blockOf, Option.some.injEq] at hb
          subst hb; exact .inr hf
        · rw [Hp.setBlk_blk, if_neg (fun e => hj (by rw [e]; rfl))]

/-- A nil slice holds nothing. -/
theorem acalls_nils {f : FuncId} {args : List AV} {hp : Hp} {R : AV → Hp → Prop} (hc : Callable P f) (h : (∀ sz h xs, AV.lst sz h xs ∈ args → nilB h = true → xs = []) → ACalls P f args hp R) : ACalls P f args hp R :=
  ⟨hc, fun F w hv => by
    obtain ⟨hlo, m, hle, hhp, hok⟩ := hv
    refine (h fun sz hd xs hm hn => ?_).2 F w ⟨hlo, m, hle, hhp, hok⟩
    rw [AV.oks_iff] at hok
    obtain ⟨⟨a, cap, rfl, _, _, _, hr⟩, _⟩ := hok _ hm
    cases xs with
    | nil => rfl
    | cons x xs =>
      obtain ⟨b, off, rfl, _⟩ := hr (by simp [AV.vals])
      cases hn⟩
end
end Go.AL
/- Rows that are tracked as a whole: copying, cloning, handing out; the order in which spares are told. -/
set_option linter.unusedVariables false
set_option linter.unusedSimpArgs false
namespace Go.AL
section
variable {P : Program}

/-! ### The order of the spares -/
theorem HpOk.perm {base : Nat} {hp : Hp} {m : Mem} {w : World} {l : List (TypeId × Nat × Value)} (h : HpOk base hp m w) (hl : hp.sp.Perm l) : HpOk base (hp.setSp l) m w :=
  ⟨h.mem, h.blk, h.mp, fun e sz hd hi => h.sp e sz hd (hl.symm.mem_iff.1 hi), by
    rw [Hp.setSp_sp]
    refine (hl.pairwise_iff ?_).1 h.spd
    intro p q hpq b hq hp
    exact hpq b hp hq, h.gl⟩
theorem acalls_perm {f : FuncId} {args : List AV} {hp : Hp} {R : AV → Hp → Prop} {l : List (TypeId × Nat × Value)} (hl : hp.sp.Perm l) (h : ACalls P f args (hp.setSp l) R) : ACalls P f args hp R :=
  ⟨h.1, fun F w ⟨hlo, m, hle, hhp, ho⟩ => h.2 F w ⟨hlo, m, hle, hhp.perm hl, ho⟩⟩
theorem perm_by {c : Code} {Q : Exit → St → Prop} {st : St} {fc : Fix c} {fq : Fix Q} {l : List (TypeId × Nat × Value)} (hl : st.hp.sp.Perm l) (h : awpX P c Q (st.setHp (st.hp.setSp l)) fc fq) : awpX P c Q st fc fq := by
  intro F a w hr
  refine h F a w ?_
  obtain ⟨m, hm⟩ := hr.ex
  exact ⟨hr.lo, hr.df, hr.n, m, hm.le, hm.hp.perm hl, hm.sl⟩

/-! ### Copying into a tracked row -/
theorem run_copy_eq (w : World) (dT sT ty elem : TypeId) (ie : TypeInfo) (g o n dCap : Nat) (a : Addr) (sCap : Nat) (cur : Array Value) (t : TypeId) (cs : List Value)
    (hu : P.underlying dT = some (.slice elem)) (hs : P.info? elem = some ie)
    (hg : w.heap[g]? = some (.cells cur t (0, 0))) (hn : cs.length = n * ie.size)
    (hsrc : ∀ j v, cs[j]? = some v → w.cell? (a.add j) = some v) (hfit : o + cs.length ≤ cur.size) (h1 : ∀ v ∈ cs, v.oneCell' = true) :
    (Builtin.copy_ #[dT, sT] ty #[.slice (some ⟨g, o, none⟩) n dCap, .slice (some a) n sCap]).run P w =
      .ok (goInt n) (w.setRow g (cur.toList.take o ++ cs ++ cur.toList.drop (o + cs.length)).toArray) := by
  have hl := run_firstCells_some (P := P) w ie.size n a n sCap cs hn hsrc
  have hst := run_storeCells_at P g o t cs 0 cur w hg (by simpa using hfit) h1
  have hmin : Nat.min n n = n := Nat.min_self n
  simp [Builtin.copy_, run_underlying hu, Builtin.lenOf, sizeOf, typeInfo, hs, hmin, hl, hst]
theorem run_copy_zero (w : World) (dT sT ty elem : TypeId) (ie : TypeInfo) (d a : Option Addr) (dCap sCap : Nat) (hu : P.underlying dT = some (.slice elem)) (hs : P.info? elem = some ie) :
    (Builtin.copy_ #[dT, sT] ty #[.slice d 0 dCap, .slice a 0 sCap]).run P w = .ok (goInt 0) w := by
  have hl : (Builtin.firstCells ie.size 0 (.slice a 0 sCap)).run P w = .ok #[] w := by cases a <;> simp [Builtin.firstCells, loadCells, loadCellsFrom]
  cases d <;> simp [Builtin.copy_, run_underlying hu, Builtin.lenOf, sizeOf, typeInfo, hs, hl, storeCells]

theorem getflat {sz : Nat} : ∀ (vs : List Value), (∀ v ∈ vs, v.cells.size = sz) → ∀ (j : Nat) (u : Value), (vs.flatMap fun v => v.cells.toList)[j]? = some u → ∃ i v k, vs[i]? = some v ∧ v.cells[k]? = some u ∧ j = i * sz + k := by
  intro vs
  induction vs with
  | nil => intro _ j u h; cases h
  | cons v vs ih =>
    intro hs j u hj
    rw [List.flatMap_cons] at hj
    by_cases hlt : j < v.cells.toList.length
    · rw [List.getElem?_append_left hlt] at hj
      exact ⟨0, v, j, rfl, by simpa using hj, by omega⟩
    · rw [List.getElem?_append_right (by omega)] at hj
      obtain ⟨i, v', k, h1, h2, h3⟩ := ih (fun x hx => hs x (by simp [hx])) _ u hj
      have hv := hs v (by simp)
      refine ⟨i + 1, v', k, by simpa using h1, h2, ?_⟩
      simp [hv] at hlt h3
      rw [Nat.add_mul]; omega

theorem copyL_by {d : Option Nat} {ty : TypeId} {pos : String} {aft : Array Edge} {g : Option (Nat × Bool)} {t t2 e : TypeId} {s x : Operand} {sz : Nat} {K : St → Prop} {st : St} {b o n c : Nat} {T : TypeId} {cs : List AV} {bq : AV} {h2 : Value} {ys : List AV}
    {fo : Fix (⟨d, .call { callee := .builtin .copy, args := [s, x].toArray, argTypes := [t, t2].toArray }, ty, pos, aft, g⟩ : Oper)} {fk : Fix K}
    (hk : kindT P t = .sl e) (hsz : szT P e = some sz)
    (hs : st.ev s = some (.v (.slice (some ⟨b, o, none⟩) n c))) (hx : st.ev x = some bq) (cb : Cast bq (.lst sz h2 ys)) (hb : st.hp.blk b = some (T, cs)) (hn : ys.length = n) (hfit : o + n * sz ≤ cs.length)
    (hone : (ys.flatMap AV.cells).all AV.one = true) (hd : dstOk st d)
    (hK : K ((st.setHp (st.hp.setBlk b T (splice cs o (ys.flatMap AV.cells)))).putO d (.v (.int .i64 n)))) :
    aopX P ⟨d, .call { callee := .builtin .copy, args := [s, x].toArray, argTypes := [t, t2].toArray }, ty, pos, aft, g⟩ K st fo fk := by
  intro F ac w hr K' Q hK'
  obtain ⟨m, hm⟩ := hr.ex
  have ob := cb.2 m (hm.ok hx)
  have hv := hr.eval hs
  have hv2 := hr.eval hx
  rw [← cb.1] at hv2
  simp only [AV.val] at hv hv2
  obtain ⟨ie, hie, hsize⟩ := szT_info hsz
  subst hsize
  obtain ⟨hyh, hyo⟩ := ob
  obtain ⟨ay, capy, rfl, hcapy, hmaxy, hys, hyr⟩ := hyh
  have hu := kind_sl hk
  obtain ⟨hbb, hheap, hoks, hmn⟩ := hm.hp.blk b T cs hb
  simp only [AV.vals_length] at hv2 hcapy
  unfold Oper.wp
  by_cases hy0 : ys = []
  · subst hy0
    simp only [List.length_nil] at hn hv2
    subst hn
    have hrun' : (execOp ac.eval ⟨d, .call { callee := .builtin .copy, args := [s, x].toArray, argTypes := [t, t2].toArray }, ty, pos, aft, g⟩).run P w = .ok (.value (goInt 0)) w := by
      have hrun := run_copy_zero (P := P) w t t2 ty e ie (some ⟨b, o, none⟩) ay c capy hu hie
      simp only [execOp, resolve, Sem.run_bind, Sem.run_pure, Result.andThen_ok, invoke, builtin]
      simp [hv, hv2, hrun]
    rw [hrun']
    refine hK' _ _ ⟨_, hK, ?_⟩
    rw [List.flatMap_nil, splice_nil, Hp.set_self _ _ _ _ hb]
    exact hr.close hm hr.lo (Mem.le_refl m) hm.hp hd (x := .v (.int .i64 0)) trivial
  · have hyne : AV.vals ys ≠ [] := by rw [AV.vals_eq]; simpa using hy0
    obtain ⟨by2, offy, rfl, hyr2⟩ := hyr hyne
    clear hyr
    have hnewl : ((AV.vals ys).flatMap fun v => v.cells.toList).length = n * ie.size := by rw [flat_length _ hys, AV.vals_length, hn]
    have hokc : AV.oks m (ys.flatMap AV.cells) := by
      rw [AV.oks_iff]; intro a ha
      obtain ⟨x, hx, hax⟩ := List.mem_flatMap.1 ha
      rw [AV.oks_iff] at hyo
      have := AV.oks_cells x (hyo x hx)
      rw [AV.oks_iff] at this; exact this a hax
    have hfv := flat_vals ys hyo
    have hnews : ∀ (j : Nat) (u : Value), ((AV.vals ys).flatMap fun v => v.cells.toList)[j]? = some u → w.cell? ((⟨by2, offy, none⟩ : Addr).add j) = some u := by
      intro j u hj
      obtain ⟨i, v, k, h1, h2, rfl⟩ := getflat _ hys j u hj
      rw [addr_add, ← Nat.add_assoc]
      exact hm.hp.mem _ _ _ (hyr2 i v h1 k u h2)
    have hones : ∀ u ∈ (AV.vals ys).flatMap fun v => v.cells.toList, u.oneCell' = true := by
      intro u hu'
      rw [← hfv, AV.vals_eq] at hu'
      obtain ⟨y, hyy, rfl⟩ := List.mem_map.1 hu'
      rw [AV.oks_iff] at hokc
      exact AV.one_val (hokc y hyy) (List.all_eq_true.1 hone y hyy)
    have hrun := run_copy_eq (P := P) w t t2 ty e ie b o n c ⟨by2, offy, none⟩ capy (AV.vals cs).toArray T _ hu hie hheap hnewl hnews (by rw [hnewl]; simpa [AV.vals_length] using hfit) hones
    have hrow : ((AV.vals cs).toArray.toList.take o ++ ((AV.vals ys).flatMap fun v => v.cells.toList) ++ (AV.vals cs).toArray.toList.drop (o + ((AV.vals ys).flatMap fun v => v.cells.toList).length)) = AV.vals (splice cs o (ys.flatMap AV.cells)) := by
      simp only [splice, AV.vals_append, vals_take, vals_drop, hfv]
      congr 3
      rw [← hfv, AV.vals_length]
    rw [hrow] at hrun
    rw [hn] at hv2
    have hrun' : (execOp ac.eval ⟨d, .call { callee := .builtin .copy, args := [s, x].toArray, argTypes := [t, t2].toArray }, ty, pos, aft, g⟩).run P w = .ok (.value (goInt n)) (w.setRow b (AV.vals (splice cs o (ys.flatMap AV.cells))).toArray) := by
      simp only [execOp, resolve, Sem.run_bind, Sem.run_pure, Result.andThen_ok, invoke, builtin]
      simp [hv, hv2, hrun]
    rw [hrun']
    exact hK' _ _ ⟨_, hK, hr.close hm (hr.lo.setRow hbb _) (Mem.le_refl m) (hm.hp.setCells hb (oks_splice _ hoks hokc)) hd (x := .v (.int .i64 n)) trivial⟩

/-- Copying from another tracked row. -/
theorem copyR_by {d : Option Nat} {ty : TypeId} {pos : String} {aft : Array Edge} {g : Option (Nat × Bool)} {t t2 e : TypeId} {s x : Operand} {sz : Nat} {K : St → Prop} {st : St} {b o n c b2 o2 c2 : Nat} {T T2 : TypeId} {cs cs2 : List AV}
    {fo : Fix (⟨d, .call { callee := .builtin .copy, args := [s, x].toArray, argTypes := [t, t2].toArray }, ty, pos, aft, g⟩ : Oper)} {fk : Fix K}
    (hk : kindT P t = .sl e) (hsz : szT P e = some sz)
    (hs : st.ev s = some (.v (.slice (some ⟨b, o, none⟩) n c))) (hx : st.ev x = some (.v (.slice (some ⟨b2, o2, none⟩) n c2))) (hb : st.hp.blk b = some (T, cs)) (hb2 : st.hp.blk b2 = some (T2, cs2)) (hfit : o + n * sz ≤ cs.length) (hfit2 : o2 + n * sz ≤ cs2.length)
    (hone : ((cs2.drop o2).take (n * sz)).all AV.one = true) (hd : dstOk st d)
    (hK : K ((st.setHp (st.hp.setBlk b T (splice cs o ((cs2.drop o2).take (n * sz))))).putO d (.v (.int .i64 n)))) :
    aopX P ⟨d, .call { callee := .builtin .copy, args := [s, x].toArray, argTypes := [t, t2].toArray }, ty, pos, aft, g⟩ K st fo fk := by
  intro F ac w hr K' Q hK'
  obtain ⟨m, hm⟩ := hr.ex
  have hv := hr.eval hs
  have hv2 := hr.eval hx
  simp only [AV.val] at hv hv2
  obtain ⟨ie, hie, hsize⟩ := szT_info hsz
  subst hsize
  have hu := kind_sl hk
  obtain ⟨hbb, hheap, hoks, hmn⟩ := hm.hp.blk b T cs hb
  obtain ⟨hbb2, hheap2, hoks2, hmn2⟩ := hm.hp.blk b2 T2 cs2 hb2
  have hokc : AV.oks m ((cs2.drop o2).take (n * ie.size)) := by
    rw [AV.oks_iff] at hoks2 ⊢
    exact fun a ha => hoks2 a (List.mem_of_mem_drop (List.mem_of_mem_take ha))
  have hlen : (AV.vals ((cs2.drop o2).take (n * ie.size))).length = n * ie.size := by rw [AV.vals_length, List.length_take, List.length_drop]; omega
  have hnews : ∀ (j : Nat) (u : Value), (AV.vals ((cs2.drop o2).take (n * ie.size)))[j]? = some u → w.cell? ((⟨b2, o2, none⟩ : Addr).add j) = some u := by
    intro j u hj
    have hjl : j < n * ie.size := by have := (List.getElem?_eq_some_iff.1 hj).1; omega
    rw [addr_add, cell_of_row w b2 (o2 + j) _ T2 (0, 0) hheap2]
    rw [vals_take, vals_drop, List.getElem?_take_of_lt hjl, List.getElem?_drop] at hj
    simpa using hj
  have hones : ∀ u ∈ AV.vals ((cs2.drop o2).take (n * ie.size)), u.oneCell' = true := by
    intro u hu'
    rw [AV.vals_eq] at hu'
    obtain ⟨y, hyy, rfl⟩ := List.mem_map.1 hu'
    rw [AV.oks_iff] at hokc
    exact AV.one_val (hokc y hyy) (List.all_eq_true.1 hone y hyy)
  have hrun := run_copy_eq (P := P) w t t2 ty e ie b o n c ⟨b2, o2, none⟩ c2 (AV.vals cs).toArray T _ hu hie hheap hlen hnews (by rw [hlen]; simpa [AV.vals_length] using hfit) hones
  have hrow : ((AV.vals cs).toArray.toList.take o ++ AV.vals ((cs2.drop o2).take (n * ie.size)) ++ (AV.vals cs).toArray.toList.drop (o + (AV.vals ((cs2.drop o2).take (n * ie.size))).length)) = AV.vals (splice cs o ((cs2.drop o2).take (n * ie.size))) := by
    simp only [splice, AV.vals_append]
    rw [vals_take (cs := cs), vals_drop (cs := cs), AV.vals_length]
  rw [hrow] at hrun
  unfold Oper.wp
  have hrun' : (execOp ac.eval ⟨d, .call { callee := .builtin .copy, args := [s, x].toArray, argTypes := [t, t2].toArray }, ty, pos, aft, g⟩).run P w = .ok (.value (goInt n)) (w.setRow b (AV.vals (splice cs o ((cs2.drop o2).take (n * ie.size)))).toArray) := by
    simp only [execOp, resolve, Sem.run_bind, Sem.run_pure, Result.andThen_ok, invoke, builtin]
    simp [hv, hv2, hrun]
  rw [hrun']
  exact hK' _ _ ⟨_, hK, hr.close hm (hr.lo.setRow hbb _) (Mem.le_refl m) (hm.hp.setCells hb (oks_splice _ hoks hokc)) hd (x := .v (.int .i64 n)) trivial⟩
end
end Go.AL
/- Nil spares, and variables told otherwise, at calls and returns. -/
set_option linter.unusedVariables false
namespace Go.AL
section
variable {P : Program}
theorem acalls_addNil {f : FuncId} {args : List AV} {hp : Hp} {R : AV → Hp → Prop} (e : TypeId) (sz : Nat) (h : ACalls P f args (hp.setSp ((e, sz, .slice none 0 0) :: hp.sp)) R) : ACalls P f args hp R :=
  ⟨h.1, fun F w ⟨hlo, m, hle, hhp, ho⟩ => h.2 F w ⟨hlo, m, hle, hhp.addSp (.inl rfl) (fun b hb => by cases hb), ho⟩⟩
theorem Gives.addNil (hp : Hp) (a : AV) (e : TypeId) (sz : Nat) : Gives hp a (hp.setSp ((e, sz, .slice none 0 0) :: hp.sp)) a :=
  ⟨rfl, fun base m w h ha => ⟨m, Mem.le_refl m, h.addSp (.inl rfl) (fun b hb => by cases hb), ha⟩⟩
theorem HpOk.castBlk {base : Nat} {hp : Hp} {m : Mem} {w : World} (h : HpOk base hp m w) {b : Nat} {T : TypeId} {cs cs' : List AV} (hb : hp.blk b = some (T, cs)) (hv : AV.vals cs' = AV.vals cs) (hok : AV.oks m cs → AV.oks m cs') :
    HpOk base (hp.setBlk b T cs') m w := by
  obtain ⟨h1, h2, h3, h4⟩ := h.blk b T cs hb
  refine ⟨h.mem, fun b' T' cs'' hx => ?_, h.mp, fun e sz hd hi => ⟨(h.sp e sz hd hi).1, fun b' hb' => ?_⟩, h.spd, h.gl⟩
  · rw [Hp.setBlk_blk] at hx
    split at hx
    · rename_i e; subst e
      simp only [Option.some.injEq, Prod.mk.injEq] at hx
      obtain ⟨rfl, rfl⟩ := hx
      exact ⟨h1, by rw [hv]; exact h2, hok h3, h4⟩
    · exact h.blk b' T' cs'' hx
  · rw [Hp.setBlk_blk]
    split
    · rename_i e; subst e
      have := (h.sp e sz hd hi).2 b' hb'
      rw [hb] at this; cases this
    · exact (h.sp e sz hd hi).2 b' hb'
theorem Gives.castBlk {hp : Hp} {a : AV} {b : Nat} {T : TypeId} {cs cs' : List AV} (hb : hp.blk b = some (T, cs)) (hv : AV.vals cs' = AV.vals cs) (hok : ∀ m, AV.oks m cs → AV.oks m cs') : Gives hp a (hp.setBlk b T cs') a :=
  ⟨rfl, fun base m w h ha => ⟨m, Mem.le_refl m, h.castBlk hb hv (hok m), ha⟩⟩
end
end Go.AL
