/- Rows that are tracked as a whole: the rules. -/
import Derived.Test.YtfdlfcafcjhpmaaCAL24
import Derived.Test.YtfdlfcafcjhpmaaCAL25
import Derived.Test.YtfdlfcafcjhpmaaCAL19
set_option linter.unusedVariables false
set_option linter.unusedSimpArgs false
namespace Go.AL
section
variable {P : Program}

/-- A raw slice that is nil, or begins a tracked row; its first n items' cells. -/
def RowB (hp : Hp) (e : TypeId) (sz : Nat) (h : Value) (n : Nat) (xs : List AV) : Prop :=
  (h = .slice none 0 0 ∧ n = 0 ∧ xs = []) ∨
  ∃ b cap rest, h = .slice (some ⟨b, 0, none⟩) n cap ∧ n ≤ cap ∧ cap ≤ maxLen ∧ xs.length = n * sz ∧ (xs ++ rest).length = cap * sz ∧ hp.blk b = some (e, xs ++ rest)

/-- A row has been turned, or another has taken its place; nothing else. -/
structure RowTo (hp : Hp) (h : Value) (hp' : Hp) (h' : Value) : Prop where
  mp : hp'.mp = hp.mp
  sp : hp'.sp = hp.sp
  gl : hp'.gl = hp.gl
  own : ∀ b, blockOf h' = some b → blockOf h = some b ∨ Fresh hp b
  blk : ∀ j, blockOf h' ≠ some j → hp'.blk j = hp.blk j
theorem RowTo.refl (hp : Hp) (h : Value) : RowTo hp h hp h := ⟨rfl, rfl, rfl, fun _ hb => .inl hb, fun _ _ => rfl⟩
/-- What another row holds stays. -/
theorem RowTo.keep {hp hp' : Hp} {h h' : Value} (r : RowTo hp h hp' h') {j : Nat} {x : TypeId × List AV} (hj : hp.blk j = some x) (hne : blockOf h ≠ some j) : hp'.blk j = some x ∧ blockOf h' ≠ some j := by
  have : blockOf h' ≠ some j := by
    intro e
    rcases r.own j e with h1 | h1
    · exact hne h1
    · rw [h1.1] at hj; cases hj
  exact ⟨(r.blk j this).trans hj, this⟩
theorem RowB.keep {hp hp' : Hp} {h h' g : Value} {e : TypeId} {sz n : Nat} {xs : List AV} (r : RowTo hp h hp' h') (k : RowB hp e sz g n xs) (hne : ∀ b, blockOf g = some b → blockOf h ≠ some b) :
    RowB hp' e sz g n xs ∧ ∀ b, blockOf g = some b → blockOf h' ≠ some b := by
  rcases k with ⟨rfl, rfl, rfl⟩ | ⟨b, cap, rest, rfl, h1, h2, h3, h4, h5⟩
  · exact ⟨.inl ⟨rfl, rfl, rfl⟩, fun b hb => by cases hb⟩
  · obtain ⟨k1, k2⟩ := r.keep h5 (hne b rfl)
    exact ⟨.inr ⟨b, cap, rest, rfl, h1, h2, h3, h4, k1⟩, fun c hc => by simp only [blockOf, Option.some.injEq] at hc; subst hc; exact k2⟩

theorem appendRow_by {d : Option Nat} {ty : TypeId} {pos : String} {aft : Array Edge} {g : Option (Nat × Bool)} {t e : TypeId} {s x : Operand} {sz by_ : Nat} {z : Value} {K : St → Prop} {st : St} {h h2 : Value} {n : Nat} {b : AV} {xs ys : List AV}
    {fo : Fix (⟨d, .call { callee := .builtin .append, args := [s, x].toArray, argTypes := [t, t].toArray }, ty, pos, aft, g⟩ : Oper)} {fk : Fix K}
    (hk : kindT P t = .sl e) (hsz : szT P e = some sz) (hby : bytesT P e = some by_) (hz : zeroT P e = some z) (hzs : z.cells.size = sz) (hpos : 0 < sz)
    (hs : st.ev s = some (.v h)) (hrow : RowB st.hp e sz h n xs) (hx : st.ev x = some b) (cb : Cast b (.lst sz h2 ys))
    (hone : (ys.flatMap AV.cells).all AV.one = true) (h63 : n + ys.length ≤ maxLen) (hbytes : (n + ys.length) * by_ ≤ 140737488355328) (hd : dstOk st d)
    (hK : ∀ h' hp', RowB hp' e sz h' (n + ys.length) (xs ++ ys.flatMap AV.cells) → RowTo st.hp h hp' h' → K ((st.setHp hp').putO d (.v h'))) :
    aopX P ⟨d, .call { callee := .builtin .append, args := [s, x].toArray, argTypes := [t, t].toArray }, ty, pos, aft, g⟩ K st fo fk := by
  intro F ac w hr K' Q hK'
  obtain ⟨m, hm⟩ := hr.ex
  have ob := cb.2 m (hm.ok hx)
  have hv := hr.eval hs
  have hv2 := hr.eval hx
  rw [← cb.1] at hv2
  simp only [AV.val] at hv hv2
  have hyl : ∀ y ∈ ys, y.cells.length = sz := by
    obtain ⟨⟨_, _, _, _, _, hys, _⟩, hyo⟩ := ob
    intro y hy
    have := hys y.val (by rw [AV.vals_eq]; exact List.mem_map_of_mem hy)
    rw [AV.oks_iff] at hyo
    rwa [cells_len (hyo y hy)] at this
  have hfl : (ys.flatMap AV.cells).length = ys.length * sz := by
    clear hone h63 hbytes hK ob cb hv2
    induction ys with
    | nil => simp
    | cons y ys ih => rw [List.flatMap_cons, List.length_append, hyl y (by simp), ih (fun z hz => hyl z (by simp [hz])), List.length_cons, Nat.add_mul]; omega
  unfold Oper.wp
  rcases hrow with ⟨rfl, rfl, rfl⟩ | ⟨bk, cap, rest, rfl, hn, hcm, hxl, hcl, hblk⟩
  · obtain ⟨v', w', hp', hrun, h1, h2', h3, h4, h5, hhp, hcase⟩ := appendN_core (ty := ty) hm.hp hr.lo.bs (kind_sl hk) hsz hby hz hzs hpos ob hone (by simpa using h63) (by simpa using hbytes)
    have hrun' : (execOp ac.eval ⟨d, .call { callee := .builtin .append, args := [s, x].toArray, argTypes := [t, t].toArray }, ty, pos, aft, g⟩).run P w = .ok (.value v') w' := by
      simp only [execOp, resolve, Sem.run_bind, Sem.run_pure, Result.andThen_ok, invoke, builtin]
      simp [hv, hv2, hrun]
    rw [hrun']
    refine hK' _ _ ⟨_, hK v' hp' ?_ ?_, hr.close hm (hr.lo.grow h1 h2' h3 h4 h5) (Mem.le_refl m) hhp hd (x := .v v') trivial⟩
    · rcases hcase with ⟨rfl, rfl, rfl⟩ | ⟨b', cap', rest, hf, hc1, hc2, hc3, rfl, rfl⟩
      · exact .inl ⟨rfl, rfl, rfl⟩
      · refine .inr ⟨b', cap', rest, by rw [Nat.zero_add], by omega, hc2, by rw [List.nil_append, hfl, Nat.zero_add], ?_, by rw [Hp.setBlk_blk, if_pos rfl, List.nil_append]⟩
        rw [List.nil_append, List.length_append, hfl, hc3, ← Nat.add_mul]; congr 1; omega
    · rcases hcase with ⟨rfl, rfl, rfl⟩ | ⟨b', cap', rest, hf, hc1, hc2, hc3, rfl, rfl⟩
      · exact RowTo.refl _ _
      · refine ⟨rfl, rfl, rfl, fun b hb => ?_, fun j hj => ?_⟩
        · simp only [blockOf, Option.some.injEq] at hb
          subst hb; exact .inr hf
        · rw [Hp.setBlk_blk, if_neg (fun e => hj (by rw [e]; rfl))]
  · obtain ⟨v', w', hp', hrun, h1, h2', h3, h4, h5, hhp, hcase⟩ := appendB_core (ty := ty) hm.hp hr.lo.bs (kind_sl hk) hsz hby hz hzs hpos hblk hcl hn ob hone h63 hbytes
    have hrun' : (execOp ac.eval ⟨d, .call { callee := .builtin .append, args := [s, x].toArray, argTypes := [t, t].toArray }, ty, pos, aft, g⟩).run P w = .ok (.value v') w' := by
      simp only [execOp, resolve, Sem.run_bind, Sem.run_pure, Result.andThen_ok, invoke, builtin]
      simp [hv, hv2, hrun]
    rw [hrun']
    have htake : (xs ++ rest).take (n * sz) = xs := by rw [← hxl, List.take_left']; rfl
    refine hK' _ _ ⟨_, hK v' hp' ?_ ?_, hr.close hm (hr.lo.grow h1 h2' h3 h4 h5) (Mem.le_refl m) hhp hd (x := .v v') trivial⟩
    · rcases hcase with ⟨hroom, rfl, rfl⟩ | ⟨b', cap', rest', hf, hc1, hc2, hc3, rfl, rfl⟩
      · refine .inr ⟨bk, cap, (xs ++ rest).drop (n * sz + (ys.flatMap AV.cells).length), rfl, hroom, hcm, by rw [List.length_append, hxl, hfl, Nat.add_mul], ?_, by rw [Hp.setBlk_blk, if_pos rfl, splice, htake]⟩
        rw [List.length_append, List.length_append, List.length_drop, hcl, hxl, hfl]
        have : n * sz + ys.length * sz ≤ cap * sz := by rw [← Nat.add_mul]; exact Nat.mul_le_mul_right _ hroom
        omega
      · refine .inr ⟨b', cap', rest', rfl, hc1, hc2, by rw [List.length_append, hxl, hfl, Nat.add_mul], ?_, by rw [Hp.setBlk_blk, if_pos rfl, htake]⟩
        rw [List.length_append, List.length_append, hxl, hfl, hc3, ← Nat.add_mul, ← Nat.add_mul]; congr 1; omega
    · rcases hcase with ⟨hroom, rfl, rfl⟩ | ⟨b', cap', rest', hf, hc1, hc2, hc3, rfl, rfl⟩
      · refine ⟨rfl, rfl, rfl, fun b hb => .inl hb, fun j hj => ?_⟩
        rw [Hp.setBlk_blk, if_neg (fun e => hj (by rw [e]; rfl))]
      · refine ⟨rfl, rfl, rfl, fun b hb => ?_, fun j hj => ?_⟩
        · simp only [blockOf, Option.some.injEq] at hb
          subst hb; exact .inr hf
        · rw [Hp.setBlk_blk, if_neg (fun e => hj (by rw [e]; rfl))]

/-- A nil slice holds nothing. -/
theorem acalls_nils {f : FuncId} {args : List AV} {hp : Hp} {R : AV → Hp → Prop} (hc : Callable P f) (h : (∀ sz h xs, AV.lst sz h xs ∈ args → nilB h = true → xs = []) → ACalls P f args hp R) : ACalls P f args hp R :=
  ⟨hc, fun F w hv => by
    obtain ⟨hlo, m, hle, hhp, hok⟩ := hv
    refine (h fun sz hd xs hm hn => ?_).2 F w ⟨hlo, m, hle, hhp, hok⟩
    rw [AV.oks_iff] at hok
    obtain ⟨⟨a, cap, rfl, _, _, _, hr⟩, _⟩ := hok _ hm
    cases xs with
    | nil => rfl
    | cons x xs =>
      obtain ⟨b, off, rfl, _⟩ := hr (by simp [AV.vals])
      cases hn⟩
end
end Go.AL
