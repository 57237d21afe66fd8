/- The first items of a tracked row are published at a call. -/
import Derived.Test.YtfdlfcafcjhpmaaCAL20
set_option linter.unusedVariables false
set_option linter.unusedSimpArgs false
namespace Go.AL
section
variable {P : Program}

theorem hdr_blkT {m : Mem} {sz b n cap : Nat} {xs : List AV} (hok : AV.oks m xs) (hone : ∀ x ∈ xs, x.cells.length = sz) (hn : xs.length = n) (hcap : n ≤ cap) (hmax : cap ≤ maxLen)
    (hm : ∀ (k : Nat) (x : Value), ((AV.vals xs).flatMap fun v => v.cells.toList)[k]? = some x → m b k = some x) : (AV.lst sz (.slice (some ⟨b, 0, none⟩) n cap) xs).ok m := by
  subst hn
  exact ⟨hdr_flat hok hone rfl hcap hmax hm, hok⟩

/-- Arguments, one of which is a raw slice of a tracked row's first items: the callee may take it as a list; the row is tracked no more. -/
theorem acalls_pubT {f : FuncId} {pre post : List AV} {hp : Hp} {R : AV → Hp → Prop} {b n cap sz : Nat} {T : TypeId} {cs xs rest : List AV} (hb : hp.blk b = some (T, cs)) (hcs : cs = xs.flatMap AV.cells ++ rest) (hone : ∀ x ∈ xs, x.cells.length = sz) (hn : xs.length = n) (hcap : n ≤ cap) (hmax : cap ≤ maxLen)
    (hx : ∀ m, AV.oks m cs → AV.oks m xs)
    (h : ACalls P f (pre ++ .lst sz (.slice (some ⟨b, 0, none⟩) n cap) xs :: post) (hp.delBlk b) R) : ACalls P f (pre ++ .v (.slice (some ⟨b, 0, none⟩) n cap) :: post) hp R := by
  refine ⟨h.1, fun F w hv => ?_⟩
  obtain ⟨hlo, m, hle, hhp, hok⟩ := hv
  obtain ⟨hbase, hheap, hoks, hmn⟩ := hhp.blk b T cs hb
  have hxo := hx m hoks
  have hfl : AV.vals cs = ((AV.vals xs).flatMap fun v => v.cells.toList) ++ AV.vals rest := by rw [hcs, AV.vals_append, flat_vals xs hxo]
  obtain ⟨h1, h2⟩ := hhp.publish (b := b) (vs := AV.vals cs) hheap hmn (fun j x hj => by simpa using hj) (fun q hq hbq => by
    have := (hhp.sp q.1 q.2.1 q.2.2 hq).2 b hbq
    rw [hb] at this; cases this)
  have hnew : AV.oks (m.add b (AV.vals cs)) (pre ++ .lst sz (.slice (some ⟨b, 0, none⟩) n cap) xs :: post) := by
    rw [AV.oks_iff] at hok ⊢
    intro a ha
    rcases List.mem_append.1 ha with ha | ha
    · exact AV.ok_mono h2 a (hok a (List.mem_append_left _ ha))
    · rcases List.mem_cons.1 ha with rfl | ha
      · refine hdr_blkT (AV.oks_mono h2 _ hxo) hone hn hcap hmax (fun k x hk => Mem.add_self ?_)
        rw [hfl, List.getElem?_append_left (List.getElem?_eq_some_iff.1 hk).1]; exact hk
      · exact AV.ok_mono h2 a (hok a (List.mem_append_right _ (List.mem_cons_of_mem _ ha)))
  have hvals : AV.vals (pre ++ .v (.slice (some ⟨b, 0, none⟩) n cap) :: post) = AV.vals (pre ++ .lst sz (.slice (some ⟨b, 0, none⟩) n cap) xs :: post) := by
    rw [AV.vals_append, AV.vals_append]; rfl
  rw [hvals]
  exact h.2 F w ⟨hlo, _, Mem.le_trans hle h2, h1, hnew⟩
end
end Go.AL
