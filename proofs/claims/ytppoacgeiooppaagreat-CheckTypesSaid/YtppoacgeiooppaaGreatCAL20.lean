/- A tracked row is published at a call. -/
import Derived.Test.YtppoacgeiooppaaGreatCAL17
set_option linter.unusedVariables false
set_option linter.unusedSimpArgs false
namespace Go.AL
section
variable {P : Program}

/-- A tracked variable's cells may be told otherwise. -/
theorem castBlk_by {c : Code} {Q : Exit → St → Prop} {st : St} {fc : Fix c} {fq : Fix Q} (b : Nat) (T : TypeId) (cs cs' : List AV) (hb : st.hp.blk b = some (T, cs)) (hv : AV.vals cs' = AV.vals cs) (hok : ∀ m, AV.oks m cs → AV.oks m cs')
    (h : awpX P c Q (st.setHp (st.hp.setBlk b T cs')) fc fq) : awpX P c Q st fc fq := by
  intro F a w hr
  refine h F a w ?_
  obtain ⟨m, hm⟩ := hr.ex
  obtain ⟨h1, h2, h3, h4⟩ := hm.hp.blk b T cs hb
  refine ⟨hr.lo, hr.df, hr.n, m, hm.le, ⟨hm.hp.mem, fun b' T' cs'' hx => ?_, hm.hp.mp, fun e sz hd hi => ⟨(hm.hp.sp e sz hd hi).1, fun b' hb' => ?_⟩, hm.hp.spd, hm.hp.gl⟩, hm.sl⟩
  · rw [St.setHp_hp, Hp.setBlk_blk] at hx
    split at hx
    · rename_i e; subst e
      simp only [Option.some.injEq, Prod.mk.injEq] at hx
      obtain ⟨rfl, rfl⟩ := hx
      exact ⟨h1, by rw [hv]; exact h2, hok m h3, h4⟩
    · exact hm.hp.blk b' T' cs'' hx
  · rw [St.setHp_hp, Hp.setBlk_blk]
    split
    · rename_i e; subst e
      have := (hm.hp.sp e sz hd hi).2 b' hb'
      rw [hb] at this; cases this
    · exact (hm.hp.sp e sz hd hi).2 b' hb'

/-- A contract that turns one tracked variable, as a whole, and nothing else. -/
theorem acalls_turn {f : FuncId} {args : List AV} {hp : Hp} {r : AV} {b : Nat} {T : TypeId} {cs cs' : List AV} (hc : Callable P f) (hr : ∀ m, AV.oks m args → r.ok m) (hb : hp.blk b = some (T, cs)) (hcs : ∀ m, AV.oks m cs → AV.oks m cs')
    (h : ∀ base m w, HpOk base hp m w → AV.oks m args → Calls P f (AV.vals args).toArray w (fun e w' => e = .returned r.val ∧ w' = w.setRow b (AV.vals cs').toArray)) : ACalls P f args hp (fun r' hp' => r' = r ∧ hp' = hp.setBlk b T cs') :=
  ⟨hc, fun F w hv => by
    obtain ⟨hlo, m, hle, hhp, hok⟩ := hv
    refine (h F.base m w hhp hok).mono ?_
    rintro e w' ⟨rfl, rfl⟩
    obtain ⟨h1, h2, h3, _⟩ := hhp.blk b T cs hb
    exact ⟨r, _, ⟨rfl, rfl⟩, rfl, hlo.setRow h1 _, m, hle, hhp.setCells hb (hcs m h3), hr m hok, trivial⟩⟩
/-- Arguments may be told otherwise. -/
theorem acalls_cast {f : FuncId} {args args' : List AV} {hp : Hp} {R : AV → Hp → Prop} (hv : AV.vals args' = AV.vals args) (hok : ∀ m, AV.oks m args' → AV.oks m args) (h : ACalls P f args hp R) : ACalls P f args' hp R :=
  ⟨h.1, fun F w ⟨hlo, m, hle, hhp, ho⟩ => by rw [hv]; exact h.2 F w ⟨hlo, m, hle, hhp, hok m ho⟩⟩

/-- A call may forget what it was handed of the heap. -/
theorem acalls_less {f : FuncId} {args : List AV} {hp hp' : Hp} {R : AV → Hp → Prop} (hl : hp'.le hp) (h : ACalls P f args hp' R) : ACalls P f args hp R :=
  ⟨h.1, fun F w ⟨hlo, m, hle, hhp, ho⟩ => h.2 F w ⟨hlo, m, hle, hhp.weaken hl, ho⟩⟩

theorem hdr_blk {m : Mem} {sz b n : Nat} {xs : List AV} (hok : AV.oks m xs) (hone : ∀ x ∈ xs, x.cells.length = sz) (hn : xs.length = n) (hmax : n ≤ maxLen)
    (hm : ∀ (k : Nat) (x : Value), ((AV.vals xs).flatMap fun v => v.cells.toList)[k]? = some x → m b k = some x) : (AV.lst sz (.slice (some ⟨b, 0, none⟩) n n) xs).ok m := by
  subst hn
  exact ⟨hdr_flat hok hone rfl (Nat.le_refl _) hmax hm, hok⟩

/-- Arguments, one of which is told as a raw slice of a tracked row: the callee may take it as a list; the row is tracked no more. -/
theorem acalls_pub {f : FuncId} {pre post : List AV} {hp : Hp} {R : AV → Hp → Prop} {b n sz : Nat} {T : TypeId} {cs xs : List AV} (hb : hp.blk b = some (T, cs)) (hcs : xs.flatMap AV.cells = cs) (hone : ∀ x ∈ xs, x.cells.length = sz) (hn : xs.length = n) (hmax : n ≤ maxLen)
    (hx : ∀ m, AV.oks m cs → AV.oks m xs)
    (h : ACalls P f (pre ++ .lst sz (.slice (some ⟨b, 0, none⟩) n n) xs :: post) (hp.delBlk b) R) : ACalls P f (pre ++ .v (.slice (some ⟨b, 0, none⟩) n n) :: post) hp R := by
  refine ⟨h.1, fun F w hv => ?_⟩
  obtain ⟨hlo, m, hle, hhp, hok⟩ := hv
  obtain ⟨hbase, hheap, hoks, hmn⟩ := hhp.blk b T cs hb
  have hxo := hx m hoks
  have hfl : AV.vals cs = (AV.vals xs).flatMap fun v => v.cells.toList := by rw [← hcs]; exact flat_vals xs hxo
  obtain ⟨h1, h2⟩ := hhp.publish (b := b) (vs := AV.vals cs) hheap hmn (fun j x hj => by simpa using hj) (fun q hq hbq => by
    have := (hhp.sp q.1 q.2.1 q.2.2 hq).2 b hbq
    rw [hb] at this; cases this)
  have hnew : AV.oks (m.add b (AV.vals cs)) (pre ++ .lst sz (.slice (some ⟨b, 0, none⟩) n n) xs :: post) := by
    rw [AV.oks_iff] at hok ⊢
    intro a ha
    rcases List.mem_append.1 ha with ha | ha
    · exact AV.ok_mono h2 a (hok a (List.mem_append_left _ ha))
    · rcases List.mem_cons.1 ha with rfl | ha
      · exact hdr_blk (AV.oks_mono h2 _ hxo) hone hn hmax (fun k x hk => by rw [← hfl] at hk; exact Mem.add_self hk)
      · exact AV.ok_mono h2 a (hok a (List.mem_append_right _ (List.mem_cons_of_mem _ ha)))
  have hvals : AV.vals (pre ++ .v (.slice (some ⟨b, 0, none⟩) n n) :: post) = AV.vals (pre ++ .lst sz (.slice (some ⟨b, 0, none⟩) n n) xs :: post) := by
    rw [AV.vals_append, AV.vals_append]; rfl
  rw [hvals]
  exact h.2 F w ⟨hlo, _, Mem.le_trans hle h2, h1, hnew⟩
end
end Go.AL
