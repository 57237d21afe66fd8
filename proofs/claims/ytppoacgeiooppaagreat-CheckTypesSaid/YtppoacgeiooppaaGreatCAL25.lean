/- Rows that are tracked as a whole: appending to them. -/
import Derived.Test.YtppoacgeiooppaaGreatCAL20
set_option linter.unusedVariables false
set_option linter.unusedSimpArgs false
namespace Go.AL
section
variable {P : Program}

theorem splice_nil (cs : List AV) (o : Nat) : splice cs o [] = cs := by simp [splice]
theorem Hp.set_self (hp : Hp) (b : Nat) (T : TypeId) (cs : List AV) (h : hp.blk b = some (T, cs)) : hp.setBlk b T cs = hp := by
  cases hp with | mk blk mp sp gl =>
  simp only [Hp.setBlk, Hp.mk.injEq, and_true]
  funext i; by_cases e : i = b
  · subst e; simp; exact h.symm
  · simp [e]
theorem vals_take (cs : List AV) (n : Nat) : AV.vals (cs.take n) = (AV.vals cs).take n := by simp only [AV.vals_eq, List.map_take]
theorem vals_drop (cs : List AV) (n : Nat) : AV.vals (cs.drop n) = (AV.vals cs).drop n := by simp only [AV.vals_eq, List.map_drop]
theorem vals_v (l : List Value) : AV.vals (l.map AV.v) = l := by
  rw [AV.vals_eq, List.map_map]
  induction l with
  | nil => rfl
  | cons a l ih => rw [List.map_cons, ih]; rfl

/-- How an append to a tracked row comes out. -/
theorem appendB_core {base : Nat} {hp : Hp} {m : Mem} {w : World} {t ty e : TypeId} {sz by_ : Nat} {z : Value} {b n cap : Nat} {cs : List AV} {h2 : Value} {ys : List AV}
    (hhp : HpOk base hp m w) (hbase : base ≤ w.heap.size) (hu : P.underlying t = some (.slice e)) (hsz : szT P e = some sz) (hby : bytesT P e = some by_) (hz : zeroT P e = some z) (hzs : z.cells.size = sz) (hpos : 0 < sz)
    (hb : hp.blk b = some (e, cs)) (hcs : cs.length = cap * sz) (hn : n ≤ cap)
    (hy : (AV.lst sz h2 ys).ok m) (hone : (ys.flatMap AV.cells).all AV.one = true)
    (h63 : n + ys.length ≤ maxLen) (hbytes : (n + ys.length) * by_ ≤ 140737488355328) :
    ∃ v' w' hp', (Builtin.append_ #[t, t] ty #[.slice (some ⟨b, 0, none⟩) n cap, h2]).run P w = .ok v' w' ∧ w'.os = w.os ∧ w'.tape = w.tape ∧ w'.output = w.output ∧ w.heap.size ≤ w'.heap.size ∧ (∀ k, k < base → w'.heap[k]? = w.heap[k]?) ∧
      HpOk base hp' m w' ∧
      ((n + ys.length ≤ cap ∧ v' = .slice (some ⟨b, 0, none⟩) (n + ys.length) cap ∧ hp' = hp.setBlk b e (splice cs (n * sz) (ys.flatMap AV.cells))) ∨
       ∃ (b' cap' : Nat) (rest : List AV), Fresh hp b' ∧ n + ys.length ≤ cap' ∧ cap' ≤ maxLen ∧ rest.length = (cap' - (n + ys.length)) * sz ∧ v' = .slice (some ⟨b', 0, none⟩) (n + ys.length) cap' ∧
         hp' = hp.setBlk b' e (cs.take (n * sz) ++ ys.flatMap AV.cells ++ rest)) := by
  obtain ⟨ie, hie, hsize⟩ := szT_info hsz
  have hzz : ie.zero = some z := by simpa [zeroT, hie] using hz
  have hbb : ie.bytes = by_ := by simpa [bytesT, hie] using hby
  subst hsize; subst hbb
  obtain ⟨hyh, hyo⟩ := hy
  obtain ⟨ay, capy, rfl, hcapy, hmaxy, hys, hyr⟩ := hyh
  simp only [AV.vals_length] at hcapy ⊢
  obtain ⟨hbb, hheap, hoks, hmn⟩ := hhp.blk b e cs hb
  by_cases hy0 : ys = []
  · subst hy0
    refine ⟨_, w, hp, run_append_zero hu hsz hn ⟨ay, capy, rfl⟩, rfl, rfl, rfl, Nat.le_refl _, fun _ _ => rfl, hhp, .inl ⟨hn, rfl, ?_⟩⟩
    rw [List.flatMap_nil, splice_nil, Hp.set_self _ _ _ _ hb]
  have hyne : AV.vals ys ≠ [] := by rw [AV.vals_eq]; simpa using hy0
  obtain ⟨by2, offy, rfl, hyr2⟩ := hyr hyne
  clear hyr
  have hylen : 0 < ys.length := List.length_pos_iff.2 hy0
  have hyone : ∀ x ∈ ys, x.cells.length = ie.size := by
    intro x hx
    have := hys x.val (by rw [AV.vals_eq]; exact List.mem_map_of_mem hx)
    rw [AV.oks_iff] at hyo
    rwa [cells_len (hyo x hx)] at this
  have hnewl : ((AV.vals ys).flatMap fun v => v.cells.toList).length = ys.length * ie.size := by rw [flat_length _ hys, AV.vals_length]
  have hokc : AV.oks m (ys.flatMap AV.cells) := by
    rw [AV.oks_iff]; intro a ha
    obtain ⟨x, hx, hax⟩ := List.mem_flatMap.1 ha
    rw [AV.oks_iff] at hyo
    have := AV.oks_cells x (hyo x hx)
    rw [AV.oks_iff] at this; exact this a hax
  have hfv := flat_vals ys hyo
  have getflat : ∀ (vs : List Value), (∀ v ∈ vs, v.cells.size = ie.size) → ∀ (j : Nat) (u : Value), (vs.flatMap fun v => v.cells.toList)[j]? = some u → ∃ i v k, vs[i]? = some v ∧ v.cells[k]? = some u ∧ j = i * ie.size + k := by
    intro vs
    induction vs with
    | nil => intro _ j u h; cases h
    | cons v vs ih =>
      intro hs j u hj
      rw [List.flatMap_cons] at hj
      by_cases hlt : j < v.cells.toList.length
      · rw [List.getElem?_append_left hlt] at hj
        exact ⟨0, v, j, rfl, by simpa using hj, by omega⟩
      · rw [List.getElem?_append_right (by omega)] at hj
        obtain ⟨i, v', k, h1, h2, h3⟩ := ih (fun x hx => hs x (by simp [hx])) _ u hj
        have hv := hs v (by simp)
        refine ⟨i + 1, v', k, by simpa using h1, h2, ?_⟩
        simp [hv] at hlt h3
        rw [Nat.add_mul]; omega
  have hnews : ∀ (j : Nat) (u : Value), ((AV.vals ys).flatMap fun v => v.cells.toList)[j]? = some u → w.cell? ((⟨by2, offy, none⟩ : Addr).add j) = some u := by
    intro j u hj
    obtain ⟨i, v, k, h1, h2, rfl⟩ := getflat _ hys j u hj
    rw [addr_add, ← Nat.add_assoc]
    exact hhp.mem _ _ _ (hyr2 i v h1 k u h2)
  have hones : ∀ u ∈ (AV.vals ys).flatMap fun v => v.cells.toList, u.oneCell' = true := by
    intro u hu'
    rw [← hfv, AV.vals_eq] at hu'
    obtain ⟨y, hyy, rfl⟩ := List.mem_map.1 hu'
    rw [AV.oks_iff] at hokc
    exact AV.one_val (hokc y hyy) (List.all_eq_true.1 hone y hyy)
  have hcur : (AV.vals cs).toArray.size = cap * ie.size := by simp [AV.vals_length, hcs]
  have hle1 : n * ie.size ≤ cap * ie.size := Nat.mul_le_mul_right _ hn
  by_cases hroom : n + ys.length ≤ cap
  · have hfit : n * ie.size + ((AV.vals ys).flatMap fun v => v.cells.toList).length ≤ (AV.vals cs).toArray.size := by rw [hnewl, hcur, ← Nat.add_mul]; exact Nat.mul_le_mul_right _ hroom
    have hr := run_append_room (P := P) w t ty e ie hu hie b n cap (AV.vals cs).toArray hheap ⟨by2, offy, none⟩ ys.length capy _ hnewl hnews hones hroom hfit
    have hrow : ((AV.vals cs).toArray.toList.take (n * ie.size) ++ ((AV.vals ys).flatMap fun v => v.cells.toList) ++ (AV.vals cs).toArray.toList.drop (n * ie.size + ((AV.vals ys).flatMap fun v => v.cells.toList).length)) = AV.vals (splice cs (n * ie.size) (ys.flatMap AV.cells)) := by
      simp only [splice, AV.vals_append, vals_take, vals_drop, hfv]
      congr 3
      rw [← hfv, AV.vals_length]
    rw [hrow] at hr
    refine ⟨_, _, _, hr, rfl, rfl, rfl, by simp [World.setRow], fun k hk => setRow_other w b k _ (by omega), hhp.setCells hb (oks_splice _ hoks hokc), .inl ⟨hroom, rfl, rfl⟩⟩
  · have holdl : (AV.vals (cs.take (n * ie.size))).length = n * ie.size := by rw [AV.vals_length, List.length_take, hcs]; omega
    have hr := run_append_grow (P := P) w t ty e ie z hu hie hzz ⟨b, 0, none⟩ n cap _ holdl (fun j u hj => by
        rw [addr_add, Nat.zero_add, cell_of_row w b j _ e (0, 0) hheap]
        rw [vals_take] at hj
        have hjl : j < n * ie.size := by
          have := (List.getElem?_eq_some_iff.1 hj).1
          rw [List.length_take] at this; omega
        rw [List.getElem?_take_of_lt hjl] at hj
        simpa using hj) ⟨by2, offy, none⟩ ys.length capy _ hnewl hnews (by omega) (by simp only [maxLen] at h63; omega) (growslice_fits (by omega) hbytes)
    have hge := grownCap_ge w (n + ys.length) cap e
    have hcm : grownCap w (n + ys.length) cap e ≤ maxLen := grownCap_le_maxLen w (n + ys.length) cap e (by omega)
    generalize grownCap w (n + ys.length) cap e = gc at *
    have hdrew : HpOk base hp m w.drew := hhp.world (fun _ _ => rfl)
    obtain ⟨hf, hmn'⟩ := hdrew.fresh
    have hwsz : w.drew.heap.size = w.heap.size := rfl
    have hokn : AV.oks m (cs.take (n * ie.size) ++ ys.flatMap AV.cells ++ (Builtin.zeroCells z.cells (gc - (n + ys.length))).toList.map AV.v) := by
      refine AV.oks_append (AV.oks_append ?_ hokc) ?_
      · rw [AV.oks_iff] at hoks ⊢
        exact fun a ha => hoks a (List.mem_of_mem_take ha)
      · rw [AV.oks_iff]
        intro a ha
        obtain ⟨v, _, rfl⟩ := List.mem_map.1 ha
        trivial
    have hnew := hdrew.setNew (by rw [hwsz]; exact hbase) (T := e) hokn
    have hrow : (AV.vals (cs.take (n * ie.size) ++ ys.flatMap AV.cells ++ (Builtin.zeroCells z.cells (gc - (n + ys.length))).toList.map AV.v)).toArray =
        (AV.vals (cs.take (n * ie.size))).toArray ++ ((AV.vals ys).flatMap fun v => v.cells.toList).toArray ++ Builtin.zeroCells z.cells (gc - (n + ys.length)) := by
      apply Array.toList_inj.1
      simp only [AV.vals_append, vals_v, hfv, Array.toList_append]
    rw [hrow] at hnew
    refine ⟨_, _, _, hr, rfl, rfl, rfl, by show w.heap.size ≤ (w.heap.push _).size; simp, fun k hk => alloc_old (w := w.drew) _ k (by rw [hwsz]; omega), hnew, .inr ⟨w.heap.size, gc, (Builtin.zeroCells z.cells (gc - (n + ys.length))).toList.map AV.v, hf, hge, hcm, ?_, rfl, rfl⟩⟩
    simp [size_zeroCells, hzs]

/-- An append to nothing: a tracked row. -/
theorem appendN_core {base : Nat} {hp : Hp} {m : Mem} {w : World} {t ty e : TypeId} {sz by_ : Nat} {z : Value} {h2 : Value} {ys : List AV}
    (hhp : HpOk base hp m w) (hbase : base ≤ w.heap.size) (hu : P.underlying t = some (.slice e)) (hsz : szT P e = some sz) (hby : bytesT P e = some by_) (hz : zeroT P e = some z) (hzs : z.cells.size = sz) (hpos : 0 < sz)
    (hy : (AV.lst sz h2 ys).ok m) (hone : (ys.flatMap AV.cells).all AV.one = true)
    (h63 : ys.length ≤ maxLen) (hbytes : ys.length * by_ ≤ 140737488355328) :
    ∃ v' w' hp', (Builtin.append_ #[t, t] ty #[.slice none 0 0, h2]).run P w = .ok v' w' ∧ w'.os = w.os ∧ w'.tape = w.tape ∧ w'.output = w.output ∧ w.heap.size ≤ w'.heap.size ∧ (∀ k, k < base → w'.heap[k]? = w.heap[k]?) ∧
      HpOk base hp' m w' ∧
      ((ys = [] ∧ v' = .slice none 0 0 ∧ hp' = hp) ∨
       ∃ (b' cap' : Nat) (rest : List AV), Fresh hp b' ∧ ys.length ≤ cap' ∧ cap' ≤ maxLen ∧ rest.length = (cap' - ys.length) * sz ∧ v' = .slice (some ⟨b', 0, none⟩) ys.length cap' ∧
         hp' = hp.setBlk b' e (ys.flatMap AV.cells ++ rest)) := by
  obtain ⟨ie, hie, hsize⟩ := szT_info hsz
  have hzz : ie.zero = some z := by simpa [zeroT, hie] using hz
  have hbb : ie.bytes = by_ := by simpa [bytesT, hie] using hby
  subst hsize; subst hbb
  obtain ⟨hyh, hyo⟩ := hy
  obtain ⟨ay, capy, rfl, hcapy, hmaxy, hys, hyr⟩ := hyh
  simp only [AV.vals_length] at hcapy ⊢
  by_cases hy0 : ys = []
  · subst hy0
    exact ⟨_, w, hp, run_append_zero hu hsz (Nat.le_refl 0) ⟨ay, capy, rfl⟩, rfl, rfl, rfl, Nat.le_refl _, fun _ _ => rfl, hhp, .inl ⟨rfl, rfl, rfl⟩⟩
  have hyne : AV.vals ys ≠ [] := by rw [AV.vals_eq]; simpa using hy0
  obtain ⟨by2, offy, rfl, hyr2⟩ := hyr hyne
  clear hyr
  have hylen : 0 < ys.length := List.length_pos_iff.2 hy0
  have hnewl : ((AV.vals ys).flatMap fun v => v.cells.toList).length = ys.length * ie.size := by rw [flat_length _ hys, AV.vals_length]
  have hokc : AV.oks m (ys.flatMap AV.cells) := by
    rw [AV.oks_iff]; intro a ha
    obtain ⟨x, hx, hax⟩ := List.mem_flatMap.1 ha
    rw [AV.oks_iff] at hyo
    have := AV.oks_cells x (hyo x hx)
    rw [AV.oks_iff] at this; exact this a hax
  have hfv := flat_vals ys hyo
  have getflat : ∀ (vs : List Value), (∀ v ∈ vs, v.cells.size = ie.size) → ∀ (j : Nat) (u : Value), (vs.flatMap fun v => v.cells.toList)[j]? = some u → ∃ i v k, vs[i]? = some v ∧ v.cells[k]? = some u ∧ j = i * ie.size + k := by
    intro vs
    induction vs with
    | nil => intro _ j u h; cases h
    | cons v vs ih =>
      intro hs j u hj
      rw [List.flatMap_cons] at hj
      by_cases hlt : j < v.cells.toList.length
      · rw [List.getElem?_append_left hlt] at hj
        exact ⟨0, v, j, rfl, by simpa using hj, by omega⟩
      · rw [List.getElem?_append_right (by omega)] at hj
        obtain ⟨i, v', k, h1, h2, h3⟩ := ih (fun x hx => hs x (by simp [hx])) _ u hj
        have hv := hs v (by simp)
        refine ⟨i + 1, v', k, by simpa using h1, h2, ?_⟩
        simp [hv] at hlt h3
        rw [Nat.add_mul]; omega
  have hnews : ∀ (j : Nat) (u : Value), ((AV.vals ys).flatMap fun v => v.cells.toList)[j]? = some u → w.cell? ((⟨by2, offy, none⟩ : Addr).add j) = some u := by
    intro j u hj
    obtain ⟨i, v, k, h1, h2, rfl⟩ := getflat _ hys j u hj
    rw [addr_add, ← Nat.add_assoc]
    exact hhp.mem _ _ _ (hyr2 i v h1 k u h2)
  have hr := run_append_nil (P := P) w t ty e ie z hu hie hzz ⟨by2, offy, none⟩ ys.length capy _ hnewl hnews hylen (by simp only [maxLen] at h63; omega) (by omega)
  have hge := grownCap_ge w ys.length 0 e
  have hcm : grownCap w ys.length 0 e ≤ maxLen := grownCap_le_maxLen w ys.length 0 e (by omega)
  generalize grownCap w ys.length 0 e = gc at *
  have hdrew : HpOk base hp m w.drew := hhp.world (fun _ _ => rfl)
  obtain ⟨hf, hmn'⟩ := hdrew.fresh
  have hwsz : w.drew.heap.size = w.heap.size := rfl
  have hokn : AV.oks m (ys.flatMap AV.cells ++ (Builtin.zeroCells z.cells (gc - ys.length)).toList.map AV.v) := by
    refine AV.oks_append hokc ?_
    rw [AV.oks_iff]
    intro a ha
    obtain ⟨v, _, rfl⟩ := List.mem_map.1 ha
    trivial
  have hnew := hdrew.setNew (by rw [hwsz]; exact hbase) (T := e) hokn
  have hrow : (AV.vals (ys.flatMap AV.cells ++ (Builtin.zeroCells z.cells (gc - ys.length)).toList.map AV.v)).toArray =
      ((AV.vals ys).flatMap fun v => v.cells.toList).toArray ++ Builtin.zeroCells z.cells (gc - ys.length) := by
    apply Array.toList_inj.1
    simp only [AV.vals_append, vals_v, hfv, Array.toList_append]
  rw [hrow] at hnew
  refine ⟨_, _, _, hr, rfl, rfl, rfl, by show w.heap.size ≤ (w.heap.push _).size; simp, fun k hk => alloc_old (w := w.drew) _ k (by rw [hwsz]; omega), hnew, .inr ⟨w.heap.size, gc, (Builtin.zeroCells z.cells (gc - ys.length)).toList.map AV.v, hf, hge, hcm, ?_, rfl, rfl⟩⟩
  simp [size_zeroCells, hzs]
end
end Go.AL
/- The first items of a tracked row are published at a call. -/
set_option linter.unusedVariables false
set_option linter.unusedSimpArgs false
namespace Go.AL
section
variable {P : Program}

theorem hdr_blkT {m : Mem} {sz b n cap : Nat} {xs : List AV} (hok : AV.oks m xs) (hone : ∀ x ∈ xs, x.cells.length = sz) (hn : xs.length = n) (hcap : n ≤ cap) (hmax : cap ≤ maxLen)
    (hm : ∀ (k : Nat) (x : Value), ((AV.vals xs).flatMap fun v => v.cells.toList)[k]? = some x → m b k = some x) : (AV.lst sz (.slice (some ⟨b, 0, none⟩) n cap) xs).ok m := by
  subst hn
  exact ⟨hdr_flat hok hone rfl hcap hmax hm, hok⟩

/-- Arguments, one of which is a raw slice of a tracked row's first items: the callee may take it as a list; the row is tracked no more. -/
theorem acalls_pubT {f : FuncId} {pre post : List AV} {hp : Hp} {R : AV → Hp → Prop} {b n cap sz : Nat} {T : TypeId} {cs xs rest : List AV} (hb : hp.blk b = some (T, cs)) (hcs : cs = xs.flatMap AV.cells ++ rest) (hone : ∀ x ∈ xs, x.cells.length = sz) (hn : xs.length = n) (hcap : n ≤ cap) (hmax : cap ≤ maxLen)
    (hx : ∀ m, AV.oks m cs → AV.oks m xs)
    (h : ACalls P f (pre ++ .lst sz (.slice (some ⟨b, 0, none⟩) n cap) xs :: post) (hp.delBlk b) R) : ACalls P f (pre ++ .v (.slice (some ⟨b, 0, none⟩) n cap) :: post) hp R := by
  refine ⟨h.1, fun F w hv => ?_⟩
  obtain ⟨hlo, m, hle, hhp, hok⟩ := hv
  obtain ⟨hbase, hheap, hoks, hmn⟩ := hhp.blk b T cs hb
  have hxo := hx m hoks
  have hfl : AV.vals cs = ((AV.vals xs).flatMap fun v => v.cells.toList) ++ AV.vals rest := by rw [hcs, AV.vals_append, flat_vals xs hxo]
  obtain ⟨h1, h2⟩ := hhp.publish (b := b) (vs := AV.vals cs) hheap hmn (fun j x hj => by simpa using hj) (fun q hq hbq => by
    have := (hhp.sp q.1 q.2.1 q.2.2 hq).2 b hbq
    rw [hb] at this; cases this)
  have hnew : AV.oks (m.add b (AV.vals cs)) (pre ++ .lst sz (.slice (some ⟨b, 0, none⟩) n cap) xs :: post) := by
    rw [AV.oks_iff] at hok ⊢
    intro a ha
    rcases List.mem_append.1 ha with ha | ha
    · exact AV.ok_mono h2 a (hok a (List.mem_append_left _ ha))
    · rcases List.mem_cons.1 ha with rfl | ha
      · refine hdr_blkT (AV.oks_mono h2 _ hxo) hone hn hcap hmax (fun k x hk => Mem.add_self ?_)
        rw [hfl, List.getElem?_append_left (List.getElem?_eq_some_iff.1 hk).1]; exact hk
      · exact AV.ok_mono h2 a (hok a (List.mem_append_right _ (List.mem_cons_of_mem _ ha)))
  have hvals : AV.vals (pre ++ .v (.slice (some ⟨b, 0, none⟩) n cap) :: post) = AV.vals (pre ++ .lst sz (.slice (some ⟨b, 0, none⟩) n cap) xs :: post) := by
    rw [AV.vals_append, AV.vals_append]; rfl
  rw [hvals]
  exact h.2 F w ⟨hlo, _, Mem.le_trans hle h2, h1, hnew⟩
end
end Go.AL
