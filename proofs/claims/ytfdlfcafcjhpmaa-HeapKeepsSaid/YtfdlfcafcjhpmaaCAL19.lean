/- The rules for appends of strings and for strings out of bytes. -/
import Derived.Test.YtfdlfcafcjhpmaaCAL18
set_option linter.unusedVariables false
set_option linter.unusedSimpArgs false
namespace Go.AL
section
variable {P : Program}

def byAV (l : List UInt8) : List AV := l.map fun b => .v (.int .u8 b.toNat)
theorem byAV_append (a b : List UInt8) : byAV (a ++ b) = byAV a ++ byAV b := by simp [byAV]
theorem byAV_length (a : List UInt8) : (byAV a).length = a.length := by simp [byAV]

section
variable {mu : List Nat} {K : St → Prop} {st : St} (d : Option Nat) (ty : TypeId) (pos : String) (aft : Array Edge) (g : Option (Nat × Bool))
@[go_sem ↓] theorem aopK_usd (l : List Operand) (ts : Array TypeId) : aopK P mu ⟨d, .call { callee := .builtin .unsafeSliceData, args := l.toArray, argTypes := ts }, ty, pos, aft, g⟩ K st = aopX P ⟨d, .call { callee := .builtin .unsafeSliceData, args := l.toArray, argTypes := ts }, ty, pos, aft, g⟩ K st ⟨⟩ ⟨⟩ := rfl
@[go_sem ↓] theorem aopK_ust (l : List Operand) (ts : Array TypeId) : aopK P mu ⟨d, .call { callee := .builtin .unsafeString, args := l.toArray, argTypes := ts }, ty, pos, aft, g⟩ K st = aopX P ⟨d, .call { callee := .builtin .unsafeString, args := l.toArray, argTypes := ts }, ty, pos, aft, g⟩ K st ⟨⟩ ⟨⟩ := rfl
@[go_sem ↓] theorem aopK_copy (l : List Operand) (ts : Array TypeId) : aopK P mu ⟨d, .call { callee := .builtin .copy, args := l.toArray, argTypes := ts }, ty, pos, aft, g⟩ K st = aopX P ⟨d, .call { callee := .builtin .copy, args := l.toArray, argTypes := ts }, ty, pos, aft, g⟩ K st ⟨⟩ ⟨⟩ := rfl
@[go_sem ↓] theorem aopK_cap (l : List Operand) (ts : Array TypeId) : aopK P mu ⟨d, .call { callee := .builtin .cap, args := l.toArray, argTypes := ts }, ty, pos, aft, g⟩ K st = aopX P ⟨d, .call { callee := .builtin .cap, args := l.toArray, argTypes := ts }, ty, pos, aft, g⟩ K st ⟨⟩ ⟨⟩ := rfl
@[go_sem ↓] theorem aopK_min (l : List Operand) (ts : Array TypeId) : aopK P mu ⟨d, .call { callee := .builtin .min, args := l.toArray, argTypes := ts }, ty, pos, aft, g⟩ K st = aopX P ⟨d, .call { callee := .builtin .min, args := l.toArray, argTypes := ts }, ty, pos, aft, g⟩ K st ⟨⟩ ⟨⟩ := rfl
@[go_sem ↓] theorem aopK_max (l : List Operand) (ts : Array TypeId) : aopK P mu ⟨d, .call { callee := .builtin .max, args := l.toArray, argTypes := ts }, ty, pos, aft, g⟩ K st = aopX P ⟨d, .call { callee := .builtin .max, args := l.toArray, argTypes := ts }, ty, pos, aft, g⟩ K st ⟨⟩ ⟨⟩ := rfl
end

theorem appendS_by {d : Option Nat} {ty : TypeId} {pos : String} {aft : Array Edge} {g : Option (Nat × Bool)} {t u e : TypeId} {s x : Operand} {by_ : Nat} {z : Value} {K : St → Prop} {st : St} {a : AV} {h : Value} {xs : List AV} {b : List UInt8}
    {l1 l2 : List (TypeId × Nat × Value)} {fo : Fix (⟨d, .call { callee := .builtin .append, args := [s, x].toArray, argTypes := [t, u].toArray }, ty, pos, aft, g⟩ : Oper)} {fk : Fix K}
    (hk : kindT P t = .sl e) (hku : kindT P u = .s) (hsz : szT P e = some 1) (hby : bytesT P e = some by_) (hz : zeroT P e = some z) (hzs : z.cells.size = 1)
    (hs : st.ev s = some a) (ca : Cast a (.lst 1 h xs)) (hx : st.ev x = some (.v (.string (bs b)))) (hsp : st.hp.sp = l1 ++ (e, 1, h) :: l2)
    (h63 : xs.length + b.length ≤ maxLen) (hbytes : (xs.length + b.length) * by_ ≤ 140737488355328) (hd : dstOk st d)
    (hK : ∀ h', (xs ++ byAV b ≠ [] ∨ h' = h → K ((st.setHp (st.hp.setSp (l1 ++ (e, 1, h') :: l2))).putO d (.lst 1 h' (xs ++ byAV b))))) :
    aopX P ⟨d, .call { callee := .builtin .append, args := [s, x].toArray, argTypes := [t, u].toArray }, ty, pos, aft, g⟩ K st fo fk := by
  intro F ac w hr K' Q hK'
  obtain ⟨m, hm⟩ := hr.ex
  have oa := ca.2 m (hm.ok hs)
  have hv := hr.eval hs
  have hv2 := hr.eval hx
  rw [← ca.1] at hv
  simp only [AV.val] at hv hv2
  unfold Oper.wp
  by_cases hb : b = []
  · subst hb
    obtain ⟨⟨ad, cap, rfl, hcap, _⟩, _⟩ := oa
    have hrun := run_appendS_zero (P := P) (w := w) (ty := ty) (base := ad) (n := (AV.vals xs).length) (cap := cap) (kind_sl hk) (kind_s hku) hsz hcap (s := bs []) rfl
    have hrun' : (execOp ac.eval ⟨d, .call { callee := .builtin .append, args := [s, x].toArray, argTypes := [t, u].toArray }, ty, pos, aft, g⟩).run P w = .ok (.value (.slice ad (AV.vals xs).length cap)) w := by
      simp only [execOp, resolve, Sem.run_bind, Sem.run_pure, Result.andThen_ok, invoke, builtin]
      simp [hv, hv2, hrun]
    rw [hrun']
    refine hK' _ _ ⟨_, hK _ (.inr rfl), ?_⟩
    have hxs : xs ++ byAV [] = xs := by simp [byAV]
    rw [hxs, ← hsp, Hp.setSp_self]
    have := hr.close hm hr.lo (Mem.le_refl m) hm.hp hd (x := .lst 1 (.slice ad (AV.vals xs).length cap) xs) (ca.2 m (hm.ok hs))
    exact this
  · obtain ⟨h', w', m', hrun, h1, h2', h3, h4, h5, hle, hhp, hok⟩ := appendS_core (ty := ty) (s := bs b) (ys := byAV b) hm.hp hr.lo.bs (kind_sl hk) hsz hby hz hzs (Nat.zero_lt_one) oa (kind_s hku) rfl rfl hsp (by rw [byAV_length]; exact h63) (by rw [byAV_length]; exact hbytes)
    have hrun' : (execOp ac.eval ⟨d, .call { callee := .builtin .append, args := [s, x].toArray, argTypes := [t, u].toArray }, ty, pos, aft, g⟩).run P w = .ok (.value h') w' := by
      simp only [execOp, resolve, Sem.run_bind, Sem.run_pure, Result.andThen_ok, invoke, builtin]
      simp [hv, hv2, hrun]
    rw [hrun']
    exact hK' _ _ ⟨_, hK h' (.inl (by simp [byAV, hb])), hr.close hm (hr.lo.grow h1 h2' h3 h4 h5) hle hhp hd (x := .lst 1 h' (xs ++ byAV b)) hok⟩

/-! ### unsafe.SliceData, unsafe.String -/
def hptr : Value → Value
  | .slice a _ _ => .pointer a
  | v => v

theorem usd_by {d : Option Nat} {ty : TypeId} {pos : String} {aft : Array Edge} {g : Option (Nat × Bool)} {t : TypeId} {s : Operand} {K : St → Prop} {st : St} {h : Value} {l : List UInt8}
    {fo : Fix (⟨d, .call { callee := .builtin .unsafeSliceData, args := [s].toArray, argTypes := [t].toArray }, ty, pos, aft, g⟩ : Oper)} {fk : Fix K}
    (hs : st.ev s = some (.lst 1 h (byAV l))) (h0 : l = [] → h = .slice none 0 0) (hd : dstOk st d)
    (hK : K (st.putO d (.v (hptr h)))) : aopX P ⟨d, .call { callee := .builtin .unsafeSliceData, args := [s].toArray, argTypes := [t].toArray }, ty, pos, aft, g⟩ K st fo fk := by
  intro F ac w hr K' Q hK'
  obtain ⟨m, hm⟩ := hr.ex
  have hv := hr.eval hs
  simp only [AV.val] at hv
  obtain ⟨⟨ad, cap, rfl, hcap, hmax, _, hrow⟩, _⟩ := hm.ok hs
  unfold Oper.wp
  have hrun : (execOp ac.eval ⟨d, .call { callee := .builtin .unsafeSliceData, args := [s].toArray, argTypes := [t].toArray }, ty, pos, aft, g⟩).run P w = .ok (.value (.pointer ad)) w := by
    have hb : (Builtin.unsafeSliceData_ [t].toArray ty #[.slice ad (AV.vals (byAV l)).length cap]).run P w = .ok (.pointer ad) w := by
      cases ad with
      | none => exact Lib.run_unsafeSliceData_nil (P := P) w _ _ _ _
      | some a =>
        refine Lib.run_unsafeSliceData_row (P := P) w _ _ a _ cap ?_
        rintro rfl
        by_cases hl : l = []
        · have := h0 hl; simp at this
        · have : (AV.vals (byAV l)).length = l.length := by rw [AV.vals_length, byAV_length]
          have := List.length_pos_iff.2 hl
          omega
    simp only [execOp, resolve, Sem.run_bind, Sem.run_pure, Result.andThen_ok, invoke, builtin]
    simp [hv, hb]
  rw [hrun]
  exact hK' _ _ ⟨_, hK, hr.putM hm hd (x := .v (.pointer ad)) trivial⟩

theorem freeze_heap {w : World} {g n : Nat} {cur : Array Value} {e : TypeId} (hg : w.heap[g]? = some (.cells cur e (0, 0))) :
    (∀ k, k ≠ g → (w.freeze ⟨g, 0, none⟩ n).heap[k]? = w.heap[k]?) ∧ (∃ fz, (w.freeze ⟨g, 0, none⟩ n).heap[g]? = some (.cells cur e fz)) ∧ (w.freeze ⟨g, 0, none⟩ n).heap.size = w.heap.size ∧
    (w.freeze ⟨g, 0, none⟩ n).os = w.os ∧ (w.freeze ⟨g, 0, none⟩ n).tape = w.tape ∧ (w.freeze ⟨g, 0, none⟩ n).output = w.output := by
  unfold World.freeze
  split
  · exact ⟨fun _ _ => rfl, ⟨_, hg⟩, rfl, rfl, rfl, rfl⟩
  · refine ⟨fun k hk => ?_, ⟨(0, 0 + n), ?_⟩, by simp, rfl, rfl, rfl⟩
    · simp only [Array.getElem?_modify]
      rw [if_neg (Ne.symm hk)]
    · simp only [Array.getElem?_modify, if_true, hg, Option.map_some]
      rfl

theorem ust_by {d : Option Nat} {ty : TypeId} {pos : String} {aft : Array Edge} {g : Option (Nat × Bool)} {pt it e : TypeId} {p n : Operand} {K : St → Prop} {st : St} {h : Value} {l : List UInt8} {i : Nat}
    {l1 l2 : List (TypeId × Nat × Value)} {fo : Fix (⟨d, .call { callee := .builtin .unsafeString, args := [p, n].toArray, argTypes := [pt, it].toArray }, ty, pos, aft, g⟩ : Oper)} {fk : Fix K}
    (hkp : P.underlying pt = some (.pointer e)) (hce : P.cellsOf e = 1) (hp : st.ev p = some (.v (hptr h))) (hn : st.ev n = some (.v (.int .i64 l.length))) (hl : st.sl i = some (.lst 1 h (byAV l)))
    (hsp : st.hp.sp = l1 ++ (e, 1, h) :: l2) (hd : dstOk st d)
    (hK : K ((st.setHp (st.hp.setSp (l1 ++ l2))).putO d (.v (.string (bs l))))) : aopX P ⟨d, .call { callee := .builtin .unsafeString, args := [p, n].toArray, argTypes := [pt, it].toArray }, ty, pos, aft, g⟩ K st fo fk := by
  intro F ac w hr K' Q hK'
  obtain ⟨m, hm⟩ := hr.ex
  have hvp := hr.eval hp
  have hvn := hr.eval hn
  simp only [AV.val] at hvp hvn
  have hlok := (hm.sl i _ hl).2
  have hdrop : HpOk F.base (st.hp.setSp (l1 ++ l2)) m w := hm.hp.weaken ⟨fun _ _ h => h, fun _ _ h => h, by rw [hsp]; exact List.Sublist.append_left (List.sublist_cons_self _ _) _, fun _ h => h⟩
  unfold Oper.wp
  by_cases hl0 : l = []
  · subst hl0
    obtain ⟨ad, had⟩ : ∃ ad, hptr h = .pointer ad := by obtain ⟨⟨a, c, rfl, _⟩, _⟩ := hlok; exact ⟨a, rfl⟩
    rw [had] at hvp
    have hb := Lib.run_unsafeString_none (P := P) w pt it ty ad
    have hrun : (execOp ac.eval ⟨d, .call { callee := .builtin .unsafeString, args := [p, n].toArray, argTypes := [pt, it].toArray }, ty, pos, aft, g⟩).run P w = .ok (.value (.string .empty)) w := by
      simp only [execOp, resolve, Sem.run_bind, Sem.run_pure, Result.andThen_ok, invoke, builtin]
      simp at hvn
      simp [hvp, hvn, hb]
    rw [hrun]
    exact hK' _ _ ⟨_, hK, hr.close hm hr.lo (Mem.le_refl m) hdrop hd (x := .v (.string (bs []))) trivial⟩
  · obtain ⟨⟨a0, cap, rfl, hcap, hmax, hcs, hrow⟩, hoks⟩ := hlok
    have hvals : AV.vals (byAV l) = Lib.byteCells l := by rw [AV.vals_eq, byAV, List.map_map]; rfl
    have hlen : (AV.vals (byAV l)).length = l.length := by rw [AV.vals_length, byAV_length]
    rw [hlen] at hp hl hsp hvp hcap
    have hown := (hm.hp.sp e 1 (.slice a0 l.length cap) (by rw [hsp]; simp)).1
    have hblk := (hm.hp.sp e 1 (.slice a0 l.length cap) (by rw [hsp]; simp)).2
    rcases hown with hnil | ⟨g', n', cap', cur, e1, e2, e3, e4, e5, e6, e7⟩
    · simp only [Value.slice.injEq] at hnil
      exact absurd (List.eq_nil_of_length_eq_zero hnil.2.1) hl0
    · simp only [Value.slice.injEq] at e1
      obtain ⟨rfl, rfl, rfl⟩ := e1
      obtain ⟨b', off', hadd, hr2⟩ := hrow (by rw [hvals]; simp [Lib.byteCells, hl0])
      simp only [Option.some.injEq, Addr.mk.injEq] at hadd
      obtain ⟨rfl, rfl, _⟩ := hadd
      have hcell : ∀ (j : Nat) (x : UInt8), l[j]? = some x → w.cell? ((⟨g', 0, none⟩ : Addr).add j) = some (.int .u8 x.toNat) := by
        intro j x hx
        have h1 : (AV.vals (byAV l))[j]? = some (.int .u8 x.toNat) := by rw [hvals, Lib.byteCells, List.getElem?_map, hx]; rfl
        have h2 := hr2 j _ h1 0 (.int .u8 x.toNat) rfl
        have h3 := hm.hp.mem _ _ _ h2
        rw [addr_add]
        simpa using h3
      have hsh : w.shape? g' = some (e, cur.size) := by simp [World.shape?, e3]
      have hb := Lib.run_unsafeString_row (P := P) w pt it ty e hkp hce g' cur.size hsh l hl0 (by rw [e4]; simpa using hcap) (by simp only [maxLen] at hmax; omega) hcell
      obtain ⟨f1, ⟨fz, f2⟩, f3, f4, f5, f6⟩ := freeze_heap (n := l.length) e3
      have hrun : (execOp ac.eval ⟨d, .call { callee := .builtin .unsafeString, args := [p, n].toArray, argTypes := [pt, it].toArray }, ty, pos, aft, g⟩).run P w = .ok (.value (.string ⟨l.toArray⟩)) (w.freeze ⟨g', 0, none⟩ l.length) := by
        simp only [execOp, resolve, Sem.run_bind, Sem.run_pure, Result.andThen_ok, invoke, builtin]
        simp only [hptr] at hvp
        simp [hvp, hvn, hb]
      rw [hrun]
      have hspg : ∀ r ∈ l1 ++ l2, blockOf r.2.2 ≠ some g' := by
        intro r hr' hb
        have hpw := hm.hp.spd
        rw [hsp, List.pairwise_append, List.pairwise_cons] at hpw
        rcases List.mem_append.1 hr' with h | h
        · exact hpw.2.2 r h (e, 1, .slice (some ⟨g', 0, none⟩) l.length cap) (by simp) g' hb rfl
        · exact hpw.2.1.1 r h g' rfl hb
      have hgblk : st.hp.blk g' = none := hblk g' rfl
      have hnew : HpOk F.base (st.hp.setSp (l1 ++ l2)) m (w.freeze ⟨g', 0, none⟩ l.length) := by
        refine ⟨fun b o x hx => ?_, fun b T cs hbk => ?_, fun b es hbk => ?_, fun e' sz hd' hi => ?_, hdrop.spd, hdrop.gl⟩
        · have := hdrop.mem b o x hx
          by_cases hbg : b = g'
          · subst hbg
            rw [cell_of_row w b o cur e (0, 0) e3] at this
            rw [cell_of_row _ b o cur e fz f2]; exact this
          · unfold World.cell? at *
            rw [f1 b hbg]; exact this
        · obtain ⟨h1, h2, h3⟩ := hdrop.blk b T cs hbk
          have hne : b ≠ g' := by rintro rfl; rw [Hp.setSp_blk] at hbk; rw [hgblk] at hbk; cases hbk
          exact ⟨h1, by rw [f1 b hne]; exact h2, h3⟩
        · obtain ⟨h1, ⟨en, cl, h2, h3⟩, h4⟩ := hdrop.mp b es hbk
          have hne : b ≠ g' := by rintro rfl; rw [e3] at h2; cases h2
          exact ⟨h1, ⟨en, cl, by rw [f1 b hne]; exact h2, h3⟩, h4⟩
        · obtain ⟨h1, h2⟩ := hdrop.sp e' sz hd' hi
          refine ⟨?_, h2⟩
          rcases h1 with h1 | ⟨b', n', cap2, cur', q1, q2, q3, q4, q5, q6, q7⟩
          · exact .inl h1
          · have hne : b' ≠ g' := by rintro rfl; exact hspg _ hi (by rw [q1]; rfl)
            exact .inr ⟨b', n', cap2, cur', q1, q2, by rw [f1 b' hne]; exact q3, q4, q5, q6, q7⟩
      exact hK' _ _ ⟨_, hK, hr.close hm (hr.lo.grow f4 f5 f6 (Nat.le_of_eq f3.symm) (fun k hk => f1 k (by omega))) (Mem.le_refl m) hnew hd (x := .v (.string (bs l))) trivial⟩

/-- A tracked variable's cells may be told otherwise. -/
theorem castBlk_by {c : Code} {Q : Exit → St → Prop} {st : St} {fc : Fix c} {fq : Fix Q} (b : Nat) (T : TypeId) (cs cs' : List AV) (hb : st.hp.blk b = some (T, cs)) (hv : AV.vals cs' = AV.vals cs) (hok : ∀ m, AV.oks m cs → AV.oks m cs')
    (h : awpX P c Q (st.setHp (st.hp.setBlk b T cs')) fc fq) : awpX P c Q st fc fq := by
  intro F a w hr
  refine h F a w ?_
  obtain ⟨m, hm⟩ := hr.ex
  obtain ⟨h1, h2, h3, h4⟩ := hm.hp.blk b T cs hb
  refine ⟨hr.lo, hr.df, hr.n, m, hm.le, ⟨hm.hp.mem, fun b' T' cs'' hx => ?_, hm.hp.mp, fun e sz hd hi => ⟨(hm.hp.sp e sz hd hi).1, fun b' hb' => ?_⟩, hm.hp.spd, hm.hp.gl⟩, hm.sl⟩
  · rw [St.setHp_hp, Hp.setBlk_blk] at hx
    split at hx
    · rename_i e; subst e
      simp only [Option.some.injEq, Prod.mk.injEq] at hx
      obtain ⟨rfl, rfl⟩ := hx
      exact ⟨h1, by rw [hv]; exact h2, hok m h3, h4⟩
    · exact hm.hp.blk b' T' cs'' hx
  · rw [St.setHp_hp, Hp.setBlk_blk]
    split
    · rename_i e; subst e
      have := (hm.hp.sp e sz hd hi).2 b' hb'
      rw [hb] at this; cases this
    · exact (hm.hp.sp e sz hd hi).2 b' hb'

/-- A contract that turns one tracked variable, as a whole, and nothing else. -/
theorem acalls_turn {f : FuncId} {args : List AV} {hp : Hp} {r : AV} {b : Nat} {T : TypeId} {cs cs' : List AV} (hc : Callable P f) (hr : ∀ m, AV.oks m args → r.ok m) (hb : hp.blk b = some (T, cs)) (hcs : ∀ m, AV.oks m cs → AV.oks m cs')
    (h : ∀ base m w, HpOk base hp m w → AV.oks m args → Calls P f (AV.vals args).toArray w (fun e w' => e = .returned r.val ∧ w' = w.setRow b (AV.vals cs').toArray)) : ACalls P f args hp (fun r' hp' => r' = r ∧ hp' = hp.setBlk b T cs') :=
  ⟨hc, fun F w hv => by
    obtain ⟨hlo, m, hle, hhp, hok⟩ := hv
    refine (h F.base m w hhp hok).mono ?_
    rintro e w' ⟨rfl, rfl⟩
    obtain ⟨h1, h2, h3, _⟩ := hhp.blk b T cs hb
    exact ⟨r, _, ⟨rfl, rfl⟩, rfl, hlo.setRow h1 _, m, hle, hhp.setCells hb (hcs m h3), hr m hok, trivial⟩⟩
end
end Go.AL
