/- A tracked row is handed out, its spare kept. -/
import Derived.Test.YtkoachnlimebaaaGreatDoorCAL28
import Derived.Test.YtkoachnlimebaaaGreatDoorCAL17
import Derived.Laws.Small
set_option linter.unusedVariables false
set_option linter.unusedSimpArgs false
namespace Go.AL
section
variable {P : Program}

theorem HpOk.pubRow {base : Nat} {hp : Hp} {m : Mem} {w : World} {b n cap sz : Nat} {e : TypeId} {xs rest : List AV} (hhp : HpOk base hp m w) (hb : hp.blk b = some (e, xs.flatMap AV.cells ++ rest)) (hone : ∀ x ∈ xs, x.cells.length = sz) (hx : AV.oks m (xs.flatMap AV.cells) → AV.oks m xs)
    (hn : xs.length = n) (hcap : n ≤ cap) (hmax : cap ≤ maxLen) (hlen : (xs.flatMap AV.cells ++ rest).length = cap * sz) :
    ∃ m', m.le m' ∧ HpOk base ((hp.delBlk b).setSp ((e, sz, .slice (some ⟨b, 0, none⟩) n cap) :: hp.sp)) m' w ∧ (AV.lst sz (.slice (some ⟨b, 0, none⟩) n cap) xs).ok m' := by
  subst hn
  obtain ⟨hbase, hheap, hoks, hmn⟩ := hhp.blk b e _ hb
  have hokx : AV.oks m (xs.flatMap AV.cells) := by
    rw [AV.oks_iff] at hoks ⊢
    exact fun a ha => hoks a (List.mem_append_left _ ha)
  have hxo := hx hokx
  have hfl : AV.vals (xs.flatMap AV.cells) = (AV.vals xs).flatMap fun v => v.cells.toList := flat_vals xs hxo
  have hl1 : (xs.flatMap AV.cells).length = xs.length * sz := by
    clear hx hokx hxo hfl hheap hoks hlen hb hcap
    induction xs with
    | nil => simp
    | cons y ys ih => rw [List.flatMap_cons, List.length_append, hone y (by simp), ih (fun z hz => hone z (by simp [hz])), List.length_cons, Nat.add_mul]; omega
  obtain ⟨h1, h2⟩ := hhp.publish (b := b) (vs := AV.vals (xs.flatMap AV.cells)) hheap hmn (fun j x hj => by
    rw [AV.vals_append]
    have : j < (AV.vals (xs.flatMap AV.cells)).length := (List.getElem?_eq_some_iff.1 hj).1
    simp only [List.getElem?_toArray]
    rw [List.getElem?_append_left this]; exact hj) (fun q hq hbq => by
    have := (hhp.sp q.1 q.2.1 q.2.2 hq).2 b hbq
    rw [hb] at this; cases this)
  have hnb : ∀ p ∈ (hp.delBlk b).sp, blockOf p.2.2 ≠ some b := by
    intro q hq hbq
    have := (hhp.sp q.1 q.2.1 q.2.2 hq).2 b hbq
    rw [hb] at this; cases this
  refine ⟨_, h2, h1.addSp (e := e) (sz := sz) (hd := .slice (some ⟨b, 0, none⟩) xs.length cap) (.inr ⟨b, xs.length, cap, _, rfl, hbase, hheap, by simp [AV.vals_length, hlen] , hcap, hmax, fun o ho => Mem.add_none (hmn o) (by rw [AV.vals_length, hl1]; exact ho)⟩) (fun c hc => ?_), ?_⟩
  · simp only [blockOf, Option.some.injEq] at hc
    subst hc
    exact ⟨by rw [Hp.delBlk_blk, if_pos rfl], hnb⟩
  · exact ⟨hdr_flat (AV.oks_mono h2 _ hxo) hone rfl hcap hmax (fun k x hk => by rw [← hfl] at hk; exact Mem.add_self hk), AV.oks_mono h2 _ hxo⟩

/-- A row that a variable holds: from now on the variable holds a list with an own spare. -/
theorem Gives.row {hp : Hp} {a : AV} {v sz n : Nat} {T e : TypeId} {h : Value} {pre post xs : List AV} (hv : hp.blk v = some (T, pre ++ .v h :: post)) (hr : RowB hp e sz h n (xs.flatMap AV.cells)) (hne : blockOf h ≠ some v)
    (hone : ∀ x ∈ xs, x.cells.length = sz) (hx : ∀ m, AV.oks m (xs.flatMap AV.cells) → AV.oks m xs) (hn : xs.length = n) :
    ∃ hp', Gives hp a hp' a ∧ hp'.blk v = some (T, pre ++ .lst sz h xs :: post) ∧ (∀ j, j ≠ v → blockOf h ≠ some j → hp'.blk j = hp.blk j) ∧ hp'.sp = (e, sz, h) :: hp.sp ∧ hp'.mp = hp.mp ∧ hp'.gl = hp.gl := by
  subst hn
  rcases hr with ⟨rfl, hn0, hxs⟩ | ⟨b, cap, rest, rfl, h1, h2, h3, h4, h5⟩
  · have hx0 : xs = [] := List.eq_nil_of_length_eq_zero hn0
    subst hx0
    have g1 := Gives.castBlk (a := a) (cs' := pre ++ .lst sz (.slice none 0 0) [] :: post) hv (by simp only [AV.vals_append]; rfl) (fun m ho => by
      rw [AV.oks_iff] at ho ⊢
      intro x hx'
      rcases List.mem_append.1 hx' with hx' | hx'
      · exact ho x (List.mem_append_left _ hx')
      · rcases List.mem_cons.1 hx' with rfl | hx'
        · exact (Cast.nil sz).2 m trivial
        · exact ho x (List.mem_append_right _ (List.mem_cons_of_mem _ hx')))
    have g2 := Gives.addNil (hp.setBlk v T (pre ++ .lst sz (.slice none 0 0) [] :: post)) a e sz
    exact ⟨_, g1.trans g2, by rw [Hp.setSp_blk, Hp.setBlk_blk, if_pos rfl], fun j hj _ => by rw [Hp.setSp_blk, Hp.setBlk_blk, if_neg hj], rfl, rfl, rfl⟩
  · have hvb : v ≠ b := by rintro rfl; exact hne rfl
    refine ⟨((hp.delBlk b).setBlk v T (pre ++ .lst sz (.slice (some ⟨b, 0, none⟩) xs.length cap) xs :: post)).setSp ((e, sz, .slice (some ⟨b, 0, none⟩) xs.length cap) :: hp.sp), ⟨rfl, fun base m w hh ha => ?_⟩, by rw [Hp.setSp_blk, Hp.setBlk_blk, if_pos rfl], fun j hj hj2 => by
      rw [Hp.setSp_blk, Hp.setBlk_blk, if_neg hj, Hp.delBlk_blk, if_neg (fun e => hj2 (by rw [e]; rfl))], rfl, rfl, rfl⟩
    obtain ⟨m', hle, hok, hl⟩ := hh.pubRow h5 hone (hx m) rfl h1 h2 h4
    have hv' : ((hp.delBlk b).setSp ((e, sz, .slice (some ⟨b, 0, none⟩) xs.length cap) :: hp.sp)).blk v = some (T, pre ++ .v (.slice (some ⟨b, 0, none⟩) xs.length cap) :: post) := by
      rw [Hp.setSp_blk, Hp.delBlk_blk, if_neg hvb]; exact hv
    exact ⟨m', hle, hok.castBlk hv' (by simp only [AV.vals_append]; rfl) (fun ho => by
      rw [AV.oks_iff] at ho ⊢
      intro x hx'
      rcases List.mem_append.1 hx' with hx' | hx'
      · exact ho x (List.mem_append_left _ hx')
      · rcases List.mem_cons.1 hx' with rfl | hx'
        · exact hl
        · exact ho x (List.mem_append_right _ (List.mem_cons_of_mem _ hx'))), AV.ok_mono hle _ ha⟩

/-- A row that is handed back. -/
theorem Gives.ret {hp : Hp} {sz n cap b : Nat} {e : TypeId} {pre post xs rest : List AV} (hb : hp.blk b = some (e, xs.flatMap AV.cells ++ rest)) (hone : ∀ x ∈ xs, x.cells.length = sz) (hx : ∀ m, AV.oks m (xs.flatMap AV.cells) → AV.oks m xs)
    (hn : xs.length = n) (hcap : n ≤ cap) (hmax : cap ≤ maxLen) (hlen : (xs.flatMap AV.cells ++ rest).length = cap * sz) :
    Gives hp (.tup (pre ++ .v (.slice (some ⟨b, 0, none⟩) n cap) :: post)) ((hp.delBlk b).setSp ((e, sz, .slice (some ⟨b, 0, none⟩) n cap) :: hp.sp)) (.tup (pre ++ .lst sz (.slice (some ⟨b, 0, none⟩) n cap) xs :: post)) := by
  refine ⟨by simp only [AV.val, AV.vals_append]; rfl, fun base m w hh ha => ?_⟩
  obtain ⟨m', hle, hok, hl⟩ := hh.pubRow hb hone (hx m) hn hcap hmax hlen
  refine ⟨m', hle, hok, ?_⟩
  have ha' : AV.oks m (pre ++ .v (.slice (some ⟨b, 0, none⟩) n cap) :: post) := ha
  show AV.oks m' _
  rw [AV.oks_iff] at ha' ⊢
  intro x hx'
  rcases List.mem_append.1 hx' with hx' | hx'
  · exact AV.ok_mono hle _ (ha' x (List.mem_append_left _ hx'))
  · rcases List.mem_cons.1 hx' with rfl | hx'
    · exact hl
    · exact AV.ok_mono hle _ (ha' x (List.mem_append_right _ (List.mem_cons_of_mem _ hx')))
end
end Go.AL
/- The contract of a map's copy. -/
set_option linter.unusedVariables false
set_option linter.unusedSimpArgs false
namespace Go.AL
section
variable {P : Program}
theorem HpOk.copyMp {base : Nat} {hp : Hp} {m : Mem} {w : World} (h : HpOk base hp m w) (hb : base ≤ w.heap.size) {en : Array MapEntry} {cl : Nat} {es : List (Value × AV)}
    (he : en.toList.map (fun e => (e.key, e.val)) = es.map (fun p => (p.1, p.2.val)) ∧ Go.MapKept.Stamped en cl) (hok : AV.oks m (es.map (·.2))) (hni : notIt es) : HpOk base (hp.setMp w.heap.size es) m (w.alloc (.map en cl)) := by
  have h' := h.world (w' := w.alloc (.map en cl)) (alloc_old _)
  refine ⟨h'.mem, h'.blk, fun b es' hx => ?_, h'.sp, h'.spd, h'.gl⟩
  rw [Hp.setMp_mp] at hx
  split at hx
  · rename_i e; subst e
    obtain rfl := Option.some.inj hx
    exact ⟨hb, .inl ⟨hni, en, cl, alloc_new _, he⟩, hok⟩
  · exact h'.mp b es' hx
theorem acalls_clone {f : FuncId} {hp : Hp} {b : Nat} {es : List (Value × AV)} (hc : Callable P f)
    (hrun : ∀ (b : Nat) (en : Array MapEntry) (cl : Nat) (w : World), w.heap[b]? = some (.map en cl) → Calls P f #[.map (some b)] w fun e w' => e = .returned (.map (some w.heap.size)) ∧ w' = w.alloc (.map en cl))
    (hb : hp.mp b = some es) (hni : notIt es) : ACalls P f [.v (.map (some b))] hp (fun r hp' => ∃ b', r = .v (.map (some b')) ∧ Fresh hp b' ∧ hp' = hp.setMp b' es) :=
  ⟨hc, fun F w hv => by
    obtain ⟨hlo, m, hle, hhp, hok⟩ := hv
    obtain ⟨h1, hmp, h4⟩ := hhp.mp b es hb
    obtain ⟨en, cl, h2, h3⟩ := hmp.map hni
    refine (hrun b en cl w h2).mono ?_
    rintro e w' ⟨rfl, rfl⟩
    exact ⟨.v (.map (some w.heap.size)), hp.setMp w.heap.size es, ⟨w.heap.size, rfl, hhp.fresh.1, rfl⟩, rfl, hlo.alloc _, m, hle, hhp.copyMp hlo.bs h3 h4 hni, trivial, trivial⟩⟩
end
end Go.AL
/- The rule for the greater of two numbers. -/
set_option linter.unusedVariables false
set_option linter.unusedSimpArgs false
namespace Go.AL
section
variable {P : Program}
theorem max_by {d : Option Nat} {ty : TypeId} {pos : String} {aft : Array Edge} {g : Option (Nat × Bool)} {t u : TypeId} {x y : Operand} {K : St → Prop} {st : St} {k k' : IntKind} {a b : Int}
    {fo : Fix (⟨d, .call { callee := .builtin .max, args := [x, y].toArray, argTypes := [t, u].toArray }, ty, pos, aft, g⟩ : Oper)} {fk : Fix K}
    (hx : st.ev x = some (.v (.int k a))) (hy : st.ev y = some (.v (.int k' b))) (hd : dstOk st d)
    (hK : K (st.putO d (.v (.int k (if b > a then b else a))))) : aopX P ⟨d, .call { callee := .builtin .max, args := [x, y].toArray, argTypes := [t, u].toArray }, ty, pos, aft, g⟩ K st fo fk := by
  intro F ac w hr K' Q hK'
  obtain ⟨m, hm⟩ := hr.ex
  have hvx := hr.eval hx
  have hvy := hr.eval hy
  simp only [AV.val] at hvx hvy
  unfold Oper.wp
  have hrun : (execOp ac.eval ⟨d, .call { callee := .builtin .max, args := [x, y].toArray, argTypes := [t, u].toArray }, ty, pos, aft, g⟩).run P w = .ok (.value (.int k (if b > a then b else a))) w := by
    have hb := run_max_int2 (P := P) (w := w) [t, u].toArray ty k k' a b
    simp only [execOp, resolve, Sem.run_bind, Sem.run_pure, Result.andThen_ok, invoke, builtin]
    simp [hvx, hvy, hb]
  rw [hrun]
  exact hK' _ _ ⟨_, hK, hr.putM hm hd (x := .v (.int k (if b > a then b else a))) trivial⟩
end
end Go.AL
/- Appends to the entry of a given number among the own rows. -/
set_option linter.unusedVariables false
set_option linter.unusedSimpArgs false
namespace Go.AL
section
variable {P : Program}
theorem split_at {α : Type} {l : List α} {i : Nat} {x : α} (h : l[i]? = some x) : l = l.take i ++ x :: l.drop (i + 1) := by
  obtain ⟨hlt, rfl⟩ := List.getElem?_eq_some_iff.1 h
  rw [← List.drop_eq_getElem_cons hlt, List.take_append_drop]
theorem append_at {d : Option Nat} {ty : TypeId} {pos : String} {aft : Array Edge} {g : Option (Nat × Bool)} {t e : TypeId} {s x : Operand} {sz by_ : Nat} {z : Value} {K : St → Prop} {st : St} {a b : AV} {h h2 : Value} {xs ys : List AV}
    {fo : Fix (⟨d, .call { callee := .builtin .append, args := [s, x].toArray, argTypes := [t, t].toArray }, ty, pos, aft, g⟩ : Oper)} {fk : Fix K} (i : Nat)
    (hk : kindT P t = .sl e) (hsz : szT P e = some sz) (hby : bytesT P e = some by_) (hz : zeroT P e = some z) (hzs : z.cells.size = sz) (hpos : 0 < sz)
    (hs : st.ev s = some a) (ca : Cast a (.lst sz h xs)) (hx : st.ev x = some b) (cb : Cast b (.lst sz h2 ys)) (hsp : st.hp.sp[i]? = some (e, sz, h))
    (hone : (ys.flatMap AV.cells).all AV.one = true) (h63 : xs.length + ys.length ≤ maxLen) (hbytes : (xs.length + ys.length) * by_ ≤ 140737488355328) (hd : dstOk st d)
    (hK : ∀ h', K ((st.setHp (st.hp.setSp (st.hp.sp.take i ++ (e, sz, h') :: st.hp.sp.drop (i + 1)))).putO d (.lst sz h' (xs ++ ys)))) :
    aopX P ⟨d, .call { callee := .builtin .append, args := [s, x].toArray, argTypes := [t, t].toArray }, ty, pos, aft, g⟩ K st fo fk :=
  append_by hk hsz hby hz hzs hpos hs ca hx cb (split_at hsp) hone h63 hbytes hd hK
end
attribute [go_sem] List.take_succ_cons List.take_zero List.drop_succ_cons List.drop_zero
end Go.AL
