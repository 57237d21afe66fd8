/- A part of a tracked row is copied into a new one. -/
import Derived.Test.YtfdlfcafcjhpmaaCAL29
set_option linter.unusedVariables false
set_option linter.unusedSimpArgs false
namespace Go.AL
section
variable {P : Program}

theorem appendR_by {d : Option Nat} {ty : TypeId} {pos : String} {aft : Array Edge} {g : Option (Nat × Bool)} {t e : TypeId} {s x : Operand} {sz by_ : Nat} {z : Value} {K : St → Prop} {st : St} {x0 b o n c : Nat} {T : TypeId} {cs : List AV}
    {fo : Fix (⟨d, .call { callee := .builtin .append, args := [s, x].toArray, argTypes := [t, t].toArray }, ty, pos, aft, g⟩ : Oper)} {fk : Fix K}
    (hk : kindT P t = .sl e) (hsz : szT P e = some sz) (hby : bytesT P e = some by_) (hz : zeroT P e = some z) (hzs : z.cells.size = sz) (hpos : 0 < sz)
    (hs : st.ev s = some (.lst sz (.slice (some ⟨x0, 0, none⟩) 0 0) [])) (hx : st.ev x = some (.v (.slice (some ⟨b, o, none⟩) n c))) (hb : st.hp.blk b = some (T, cs)) (ho : o + n * sz ≤ cs.length)
    (h63 : n ≤ maxLen) (hbytes : n * by_ ≤ 140737488355328) (hd : dstOk st d)
    (h0 : n = 0 → K (st.putO d (.lst sz (.slice (some ⟨x0, 0, none⟩) 0 0) [])))
    (h1 : 0 < n → ∀ (b' cap : Nat) (rest : List AV), Fresh st.hp b' → n ≤ cap → cap ≤ maxLen → ((cs.drop o).take (n * sz) ++ rest).length = cap * sz →
      K ((st.setHp (st.hp.setBlk b' e ((cs.drop o).take (n * sz) ++ rest))).putO d (.v (.slice (some ⟨b', 0, none⟩) n cap)))) :
    aopX P ⟨d, .call { callee := .builtin .append, args := [s, x].toArray, argTypes := [t, t].toArray }, ty, pos, aft, g⟩ K st fo fk := by
  intro F ac w hr K' Q hK'
  obtain ⟨m, hm⟩ := hr.ex
  have hv := hr.eval hs
  have hv2 := hr.eval hx
  simp only [AV.val] at hv hv2
  obtain ⟨ie, hie, hsize⟩ := szT_info hsz
  have hzz : ie.zero = some z := by simpa [zeroT, hie] using hz
  have hbb : ie.bytes = by_ := by simpa [bytesT, hie] using hby
  subst hsize; subst hbb
  have hu := kind_sl hk
  obtain ⟨hbb, hheap, hoks, hmn⟩ := hm.hp.blk b T cs hb
  unfold Oper.wp
  rcases Nat.eq_zero_or_pos n with rfl | hn
  · have hrun := run_append_zero (P := P) (w := w) (ty := ty) (base := some ⟨x0, 0, none⟩) (n := 0) (cap := 0) hu hsz (Nat.le_refl 0) ⟨_, c, rfl⟩ (x := .slice (some ⟨b, o, none⟩) 0 c)
    have hrun' : (execOp ac.eval ⟨d, .call { callee := .builtin .append, args := [s, x].toArray, argTypes := [t, t].toArray }, ty, pos, aft, g⟩).run P w = .ok (.value (.slice (some ⟨x0, 0, none⟩) 0 0)) w := by
      simp only [execOp, resolve, Sem.run_bind, Sem.run_pure, Result.andThen_ok, invoke, builtin]
      simp [hv, hv2, hrun]
    rw [hrun']
    refine hK' _ _ ⟨_, h0 rfl, ?_⟩
    have := hr.close hm hr.lo (Mem.le_refl m) hm.hp hd (x := .lst ie.size (.slice (some ⟨x0, 0, none⟩) 0 0) []) (hm.ok hs)
    exact this
  · have hokc : AV.oks m ((cs.drop o).take (n * ie.size)) := by
      rw [AV.oks_iff] at hoks ⊢
      exact fun a ha => hoks a (List.mem_of_mem_drop (List.mem_of_mem_take ha))
    have hlen : (AV.vals ((cs.drop o).take (n * ie.size))).length = n * ie.size := by rw [AV.vals_length, List.length_take, List.length_drop]; omega
    have hnews : ∀ (j : Nat) (u : Value), (AV.vals ((cs.drop o).take (n * ie.size)))[j]? = some u → w.cell? ((⟨b, o, none⟩ : Addr).add j) = some u := by
      intro j u hj
      have hjl : j < n * ie.size := by have := (List.getElem?_eq_some_iff.1 hj).1; omega
      rw [addr_add, cell_of_row w b (o + j) _ T (0, 0) hheap]
      rw [vals_take, vals_drop, List.getElem?_take_of_lt hjl, List.getElem?_drop] at hj
      simpa using hj
    have hrun := run_append_grow (P := P) w t ty e ie z hu hie hzz ⟨x0, 0, none⟩ 0 0 [] (by simp) (fun j u hj => by simp at hj) ⟨b, o, none⟩ n c _ hlen hnews (by omega) (by simp only [maxLen] at h63; omega) (growslice_fits (by omega) (by simpa using hbytes))
    have hge := grownCap_ge w (0 + n) 0 e
    have hcm : grownCap w (0 + n) 0 e ≤ maxLen := grownCap_le_maxLen w (0 + n) 0 e (by omega)
    generalize grownCap w (0 + n) 0 e = gc at *
    have hdrew : HpOk F.base st.hp m w.drew := hm.hp.world (fun _ _ => rfl)
    obtain ⟨hf, hmn'⟩ := hdrew.fresh
    have hwsz : w.drew.heap.size = w.heap.size := rfl
    have hokn : AV.oks m ((cs.drop o).take (n * ie.size) ++ (Builtin.zeroCells z.cells (gc - (0 + n))).toList.map AV.v) := by
      refine AV.oks_append hokc ?_
      rw [AV.oks_iff]
      intro a ha
      obtain ⟨v, _, rfl⟩ := List.mem_map.1 ha
      trivial
    have hnew := hdrew.setNew (by rw [hwsz]; exact hr.lo.bs) (T := e) hokn
    have hrow : (AV.vals ((cs.drop o).take (n * ie.size) ++ (Builtin.zeroCells z.cells (gc - (0 + n))).toList.map AV.v)).toArray =
        ([] : List Value).toArray ++ (AV.vals ((cs.drop o).take (n * ie.size))).toArray ++ Builtin.zeroCells z.cells (gc - (0 + n)) := by
      apply Array.toList_inj.1
      simp only [AV.vals_append, vals_v, Array.toList_append, List.nil_append]
    rw [hrow] at hnew
    have hrun' : (execOp ac.eval ⟨d, .call { callee := .builtin .append, args := [s, x].toArray, argTypes := [t, t].toArray }, ty, pos, aft, g⟩).run P w = .ok (.value (.slice (some ⟨w.heap.size, 0, none⟩) n gc)) (w.drew.alloc (.cells (([] : List Value).toArray ++ (AV.vals ((cs.drop o).take (n * ie.size))).toArray ++ Builtin.zeroCells z.cells (gc - (0 + n))) e)) := by
      simp only [execOp, resolve, Sem.run_bind, Sem.run_pure, Result.andThen_ok, invoke, builtin]
      rw [show (0 + n) = n by omega] at hrun
      simp [hv, hv2, hrun]
    rw [hrun']
    have hlo : Lo F (w.drew.alloc (.cells (([] : List Value).toArray ++ (AV.vals ((cs.drop o).take (n * ie.size))).toArray ++ Builtin.zeroCells z.cells (gc - (0 + n))) e)) :=
      hr.lo.grow rfl rfl rfl (by show w.heap.size ≤ (w.heap.push _).size; simp) (fun k hk => alloc_old (w := w.drew) _ k (by rw [hwsz]; have := hr.lo.bs; omega))
    refine hK' _ _ ⟨_, h1 hn w.heap.size gc _ hf (by omega) hcm ?_, hr.close hm hlo (Mem.le_refl m) hnew hd (x := .v (.slice (some ⟨w.heap.size, 0, none⟩) n gc)) trivial⟩
    have hz2 : (Builtin.zeroCells z.cells (gc - (0 + n))).toList.length = (gc - (0 + n)) * ie.size := by rw [Array.length_toList, size_zeroCells, hzs]
    have hlen2 : ((cs.drop o).take (n * ie.size)).length = n * ie.size := by rw [← AV.vals_length]; exact hlen
    rw [List.length_append, List.length_map, hz2, hlen2, ← Nat.add_mul]; congr 1; omega
end
end Go.AL
