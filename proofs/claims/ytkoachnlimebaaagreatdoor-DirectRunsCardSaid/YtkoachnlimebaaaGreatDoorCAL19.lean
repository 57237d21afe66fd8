/- Appends of strings to bytes; strings out of bytes. -/
import Derived.Test.YtkoachnlimebaaaGreatDoorCAL17
import Derived.Lib.AppendStr
import Derived.Lib.UnsafeStr
set_option linter.unusedVariables false
set_option linter.unusedSimpArgs false
namespace Go.AL
section
variable {P : Program}

theorem run_appendS_zero {w : World} {t u ty e : TypeId} {base : Option Addr} {n cap : Nat} {s : ByteArray} {sz : Nat} (hu : P.underlying t = some (.slice e)) (hus : P.underlying u = some .string) (hsz : szT P e = some sz) (hle : n ≤ cap) (hs : s.size = 0) :
    (Builtin.append_ #[t, u] ty #[.slice base n cap, .string s]).run P w = .ok (.slice base n cap) w := by
  have hf := Lib.run_firstCells_string (P := P) w sz s
  have hz : Lib.strCells s = [] := List.eq_nil_of_length_eq_zero (by rw [Lib.strCells_length]; exact hs)
  rw [hs, hz] at hf
  cases base <;> simp [Builtin.append_, run_underlying hu, run_underlying hus, run_sizeOf' hsz, Builtin.lenOf, hs, hle, hf, storeCells]

/-- An append of a string's bytes. -/
theorem appendS_core {base : Nat} {hp : Hp} {m : Mem} {w : World} {t u ty e : TypeId} {sz by_ : Nat} {z : Value} {h : Value} {xs ys : List AV} {s : ByteArray} {l1 l2 : List (TypeId × Nat × Value)}
    (hhp : HpOk base hp m w) (hbase : base ≤ w.heap.size) (hu : P.underlying t = some (.slice e)) (hsz : szT P e = some sz) (hby : bytesT P e = some by_) (hz : zeroT P e = some z) (hzs : z.cells.size = sz) (hpos : 0 < sz)
    (hx : (AV.lst sz h xs).ok m) (hus : P.underlying u = some .string) (hs1 : sz = 1) (hys' : ys = s.data.toList.map fun b => AV.v (.int .u8 b.toNat))
    (hsp : hp.sp = l1 ++ (e, sz, h) :: l2) (h63 : xs.length + ys.length ≤ maxLen) (hbytes : (xs.length + ys.length) * by_ ≤ 140737488355328) :
    ∃ h' w' m', (Builtin.append_ #[t, u] ty #[h, .string s]).run P w = .ok h' w' ∧ w'.os = w.os ∧ w'.tape = w.tape ∧ w'.output = w.output ∧ w.heap.size ≤ w'.heap.size ∧ (∀ k, k < base → w'.heap[k]? = w.heap[k]?) ∧
      m.le m' ∧ HpOk base (hp.setSp (l1 ++ (e, sz, h') :: l2)) m' w' ∧ (AV.lst sz h' (xs ++ ys)).ok m' := by
  obtain ⟨ie, hie, hsize⟩ := szT_info hsz
  have hzz : ie.zero = some z := by simpa [zeroT, hie] using hz
  have hbb : ie.bytes = by_ := by simpa [bytesT, hie] using hby
  subst hsize; subst hbb
  obtain ⟨hxh, hxo⟩ := hx
  obtain ⟨ax, cap, rfl, hcap, hmax, hxs, hxr⟩ := hxh
  have hyo : AV.oks m ys := by rw [hys', AV.oks_iff]; intro a ha; obtain ⟨b, _, rfl⟩ := List.mem_map.1 ha; trivial
  have hyv : AV.vals ys = Lib.strCells s := by rw [hys', AV.vals_eq, List.map_map]; rfl
  have hyl : ys.length = s.size := by rw [hys', List.length_map, Array.length_toList]; rfl
  have hys : ∀ v ∈ AV.vals ys, v.cells.size = ie.size := by
    intro v hv; rw [hyv] at hv; obtain ⟨b, _, rfl⟩ := List.mem_map.1 hv; rw [hs1]; rfl
  have hflaty : ((AV.vals ys).flatMap fun v => v.cells.toList) = Lib.strCells s := by
    rw [hyv]
    have : ∀ l : List Value, (∀ v ∈ l, v.cells.toList = [v]) → (l.flatMap fun v => v.cells.toList) = l := by
      intro l; induction l with
      | nil => intro _; rfl
      | cons a l ih => intro h; rw [List.flatMap_cons, h a (by simp), ih (fun v hv => h v (by simp [hv]))]; rfl
    exact this _ fun v hv => by obtain ⟨b, _, rfl⟩ := List.mem_map.1 hv; rfl
  simp only [AV.vals_length] at hsp hcap ⊢
  have hxone : ∀ x ∈ xs, x.cells.length = ie.size := by
    intro x hx
    have := hxs x.val (by rw [AV.vals_eq]; exact List.mem_map_of_mem hx)
    rw [AV.oks_iff] at hxo
    rwa [cells_len (hxo x hx)] at this
  have hyone : ∀ x ∈ ys, x.cells.length = ie.size := by
    intro x hx
    have := hys x.val (by rw [AV.vals_eq]; exact List.mem_map_of_mem hx)
    rw [AV.oks_iff] at hyo
    rwa [cells_len (hyo x hx)] at this
  have hown := (hhp.sp e ie.size (.slice ax xs.length cap) (by rw [hsp]; simp)).1
  have hblk := (hhp.sp e ie.size (.slice ax xs.length cap) (by rw [hsp]; simp)).2
  by_cases hy0 : ys = []
  · subst hy0
    have hs0 : s.size = 0 := by rw [← hyl]; rfl
    refine ⟨_, w, m, run_appendS_zero hu hus hsz hcap hs0, rfl, rfl, rfl, Nat.le_refl _, fun _ _ => rfl, Mem.le_refl m, ?_, ?_⟩
    · rw [← hsp]; exact hhp
    · rw [List.append_nil]; exact ⟨⟨ax, cap, by rw [AV.vals_length], by rw [AV.vals_length]; exact hcap, hmax, hxs, hxr⟩, hxo⟩
  -- there is something to append
  have hyne : AV.vals ys ≠ [] := by rw [AV.vals_eq]; simpa using hy0
  have hylen : 0 < ys.length := List.length_pos_iff.2 hy0
  have hnewl : ((AV.vals ys).flatMap fun v => v.cells.toList).length = ys.length * ie.size := by rw [flat_length _ hys, AV.vals_length]
  have holdl : ((AV.vals xs).flatMap fun v => v.cells.toList).length = xs.length * ie.size := by rw [flat_length _ hxs, AV.vals_length]
  have getflat : ∀ (vs : List Value), (∀ v ∈ vs, v.cells.size = ie.size) → ∀ (j : Nat) (u : Value), (vs.flatMap fun v => v.cells.toList)[j]? = some u → ∃ i v k, vs[i]? = some v ∧ v.cells[k]? = some u ∧ j = i * ie.size + k := by
    intro vs
    induction vs with
    | nil => intro _ j u h; cases h
    | cons v vs ih =>
      intro hs j u hj
      rw [List.flatMap_cons] at hj
      by_cases hlt : j < v.cells.toList.length
      · rw [List.getElem?_append_left hlt] at hj
        exact ⟨0, v, j, rfl, by simpa using hj, by omega⟩
      · rw [List.getElem?_append_right (by omega)] at hj
        obtain ⟨i, v', k, h1, h2, h3⟩ := ih (fun x hx => hs x (by simp [hx])) _ u hj
        have hv := hs v (by simp)
        refine ⟨i + 1, v', k, by simpa using h1, h2, ?_⟩
        simp [hv] at hlt h3
        rw [Nat.add_mul]; omega
  have hflat : (AV.vals (xs ++ ys)).flatMap (fun v => v.cells.toList) = ((AV.vals xs).flatMap fun v => v.cells.toList) ++ ((AV.vals ys).flatMap fun v => v.cells.toList) := by rw [AV.vals_append, List.flatMap_append]
  have hallone : ∀ x ∈ xs ++ ys, x.cells.length = ie.size := by
    intro x hx; rcases List.mem_append.1 hx with h | h
    · exact hxone x h
    · exact hyone x h
  -- a new row
  have grown : ∀ (need old : Nat) (hneed : need = xs.length + ys.length),
      ∀ (hrun : (Builtin.append_ #[t, u] ty #[.slice ax xs.length cap, .string s]).run P w = .ok (.slice (some ⟨w.heap.size, 0, none⟩) need (grownCap w need old e))
        (w.drew.alloc (.cells (((AV.vals xs).flatMap fun v => v.cells.toList).toArray ++ ((AV.vals ys).flatMap fun v => v.cells.toList).toArray ++ Builtin.zeroCells z.cells (grownCap w need old e - need)) e))),
      ∃ h' w' m', (Builtin.append_ #[t, u] ty #[.slice ax xs.length cap, .string s]).run P w = .ok h' w' ∧ w'.os = w.os ∧ w'.tape = w.tape ∧ w'.output = w.output ∧ w.heap.size ≤ w'.heap.size ∧ (∀ k, k < base → w'.heap[k]? = w.heap[k]?) ∧
      m.le m' ∧ HpOk base (hp.setSp (l1 ++ (e, ie.size, h') :: l2)) m' w' ∧ (AV.lst ie.size h' (xs ++ ys)).ok m' := by
    intro need old hneed hrun
    have hge := grownCap_ge w need old e
    have hcm : grownCap w need old e ≤ maxLen := grownCap_le_maxLen w need old e (by omega)
    generalize grownCap w need old e = gc at *
    have hdrew : HpOk base hp m w.drew := hhp.world (fun _ _ => rfl)
    obtain ⟨hf, hmn⟩ := hdrew.fresh
    have hfl : (((AV.vals xs).flatMap fun v => v.cells.toList) ++ ((AV.vals ys).flatMap fun v => v.cells.toList)).length = need * ie.size := by
      rw [List.length_append, holdl, hnewl, hneed, Nat.add_mul]
    obtain ⟨hn, hle⟩ := hdrew.newRow (cur := ((AV.vals xs).flatMap fun v => v.cells.toList).toArray ++ ((AV.vals ys).flatMap fun v => v.cells.toList).toArray ++ Builtin.zeroCells z.cells (gc - need)) (T := e)
      (flat := ((AV.vals xs).flatMap fun v => v.cells.toList) ++ ((AV.vals ys).flatMap fun v => v.cells.toList)) (fun j x hj => by
        rw [← Array.getElem?_toList]
        simp only [Array.toList_append]
        rw [List.getElem?_append_left (by simpa using (List.getElem?_eq_some_iff.1 hj).1)]
        exact hj)
    have hwsz : w.drew.heap.size = w.heap.size := rfl
    rw [hwsz] at hn hle hmn
    refine ⟨_, _, _, hrun, rfl, rfl, rfl, by show w.heap.size ≤ (w.heap.push _).size; simp, fun k hk => alloc_old (w := w.drew) _ k (by rw [hwsz]; omega), hle, ?_, ?_, ?_⟩
    · have hn' := hn
      refine ⟨hn'.mem, hn'.blk, hn'.mp, fun e' sz' hd' hi => ?_, ?_, hn'.gl⟩
      · rw [Hp.setSp_sp] at hi
        have hmem : (e', sz', hd') ∈ hp.sp ∨ (e', sz', hd') = (e, ie.size, Value.slice (some ⟨w.heap.size, 0, none⟩) need gc) := by
          rcases List.mem_append.1 hi with h | h
          · left; rw [hsp]; simp [h]
          · rcases List.mem_cons.1 h with h | h
            · right; exact h
            · left; rw [hsp]; simp [h]
        rcases hmem with h | h
        · exact hn'.sp e' sz' hd' h
        · simp only [Prod.mk.injEq] at h
          obtain ⟨rfl, rfl, rfl⟩ := h
          refine ⟨.inr ⟨w.heap.size, need, gc, _, rfl, hbase, alloc_new (w := w.drew) _, ?_, hge, hcm, fun k hk => Mem.add_none (hmn k) (by rw [hfl]; exact hk)⟩, fun b hb => ?_⟩
          · simp only [Array.size_append, List.size_toArray, size_zeroCells, hzs, holdl, hnewl, ← Nat.add_mul]
            congr 1; omega
          · simp only [blockOf, Option.some.injEq] at hb
            subst hb; exact hf.1
      · rw [Hp.setSp_sp]
        refine spd_set (p := (e, ie.size, .slice ax xs.length cap)) (by rw [← hsp]; exact hhp.spd) (fun b hb => .inr fun r hr => ?_)
        simp only [blockOf, Option.some.injEq] at hb
        subst hb
        refine hf.2.2 r ?_
        rw [hsp]
        rcases List.mem_append.1 hr with h | h <;> simp [h]
    · refine hdr_flat (AV.oks_mono hle _ (AV.oks_append hxo hyo)) hallone (by rw [List.length_append, hneed]) hge hcm fun k x hk => ?_
      rw [hflat] at hk
      exact Mem.add_self hk
    · exact AV.oks_mono hle _ (AV.oks_append hxo hyo)
  rcases hown with hnil | ⟨g, n, cap', cur, e1, e2, e3, e4, e5, e6, e7⟩
  · -- nil
    simp only [Value.slice.injEq] at hnil
    obtain ⟨rfl, hx0, rfl⟩ := hnil
    have hxs0 : xs = [] := List.eq_nil_of_length_eq_zero hx0
    subst hxs0
    have hr := Go.run_append_nil_string (P := P) w t u ty e ie z hu hus hie hzz s (by omega) (by simp only [maxLen] at h63; omega) (by have hb := hbytes; simp only [List.length_nil, Nat.zero_add] at hb; rw [hyl] at hb; omega)
    have e1 : (s.data.map fun b => Value.int .u8 b.toNat) = (Lib.strCells s).toArray := by apply Array.ext'; simp [Lib.strCells]
    rw [e1] at hr
    refine grown ys.length 0 (by simp) ?_
    rw [hflaty, hyl]
    simpa [AV.vals] using hr
  · simp only [Value.slice.injEq] at e1
    obtain ⟨rfl, rfl, rfl⟩ := e1
    have holds : ∀ (j : Nat) (u : Value), ((AV.vals xs).flatMap fun v => v.cells.toList)[j]? = some u → m g j = some u := by
      intro j u hj
      obtain ⟨i, v, k, h1, h2, rfl⟩ := getflat _ hxs j u hj
      obtain ⟨b', off', hadd, hr⟩ := hxr (by intro hnil; rw [hnil] at h1; cases h1)
      simp only [Option.some.injEq, Addr.mk.injEq] at hadd
      obtain ⟨rfl, rfl, _⟩ := hadd
      have := hr i v h1 k u h2
      rwa [Nat.zero_add] at this
    by_cases hroom : xs.length + ys.length ≤ cap
    · have hfit : xs.length * ie.size + ((AV.vals ys).flatMap fun v => v.cells.toList).length ≤ cur.size := by rw [hnewl, e4, ← Nat.add_mul]; exact Nat.mul_le_mul_right _ hroom
      have hr := Lib.run_append_room_string (P := P) w t u ty e ie hu hus hie hs1 g xs.length cap cur e3 s (by omega) (by rw [hnewl] at hfit; rw [hs1] at hfit; omega)
      rw [show cur.toList.take xs.length ++ Lib.strCells s ++ cur.toList.drop (xs.length + s.size) = cur.toList.take (xs.length * ie.size) ++ ((AV.vals ys).flatMap fun v => v.cells.toList) ++ cur.toList.drop (xs.length * ie.size + ((AV.vals ys).flatMap fun v => v.cells.toList).length) by rw [hnewl, hs1, hflaty, hyl]; simp, ← hyl] at hr
      have other : ∀ k, k ≠ g → (w.setRow g (cur.toList.take (xs.length * ie.size) ++ ((AV.vals ys).flatMap fun v => v.cells.toList) ++ cur.toList.drop (xs.length * ie.size + ((AV.vals ys).flatMap fun v => v.cells.toList).length)).toArray).heap[k]? = w.heap[k]? := fun k hk => setRow_other w g k _ hk
      have self := setRow_heap w g cur (cur.toList.take (xs.length * ie.size) ++ ((AV.vals ys).flatMap fun v => v.cells.toList) ++ cur.toList.drop (xs.length * ie.size + ((AV.vals ys).flatMap fun v => v.cells.toList).length)).toArray e (0, 0) e3
      have hcur : ∀ j u, m g j = some u → j < xs.length * ie.size ∧ cur[j]? = some u := by
        intro j u hj
        refine ⟨?_, ?_⟩
        · rcases Nat.lt_or_ge j (xs.length * ie.size) with h | h
          · exact h
          · rw [e7 j h] at hj; cases hj
        · have := hhp.mem g j u hj
          rwa [cell_of_row w g j cur e (0, 0) e3] at this
      -- the new published places
      let f : Nat → Nat → Option Value := fun b o => if b = g then (if xs.length * ie.size ≤ o then ((AV.vals ys).flatMap fun v => v.cells.toList)[o - xs.length * ie.size]? else none) else none
      have hle := Mem.le_ext m f
      have hnew : ∀ j u, (m.ext f) g j = some u → (cur.toList.take (xs.length * ie.size) ++ ((AV.vals ys).flatMap fun v => v.cells.toList) ++ cur.toList.drop (xs.length * ie.size + ((AV.vals ys).flatMap fun v => v.cells.toList).length))[j]? = some u := by
        intro j u hj
        have htl : (cur.toList.take (xs.length * ie.size)).length = xs.length * ie.size := by rw [List.length_take]; simp; omega
        unfold Mem.ext at hj
        cases hmj : m g j with
        | some u' =>
          rw [hmj] at hj
          obtain rfl := Option.some.inj hj
          obtain ⟨h1, h2⟩ := hcur j u' hmj
          rw [List.append_assoc, List.getElem?_append_left (by rw [htl]; exact h1), List.getElem?_take, if_pos h1]
          simpa using h2
        | none =>
          rw [hmj] at hj
          simp only [f, if_true] at hj
          split at hj
          · rename_i hge
            have hlt := (List.getElem?_eq_some_iff.1 hj).1
            rw [List.getElem?_append_left (by rw [List.length_append, htl]; omega), List.getElem?_append_right (by rw [htl]; exact hge), htl]
            exact hj
          · cases hj
      have hgblk : hp.blk g = none := hblk g rfl
      have hspg : ∀ r ∈ l1 ++ l2, blockOf r.2.2 ≠ some g := by
        intro r hr' hb
        have hpw := hhp.spd
        rw [hsp, List.pairwise_append, List.pairwise_cons] at hpw
        rcases List.mem_append.1 hr' with h | h
        · exact hpw.2.2 r h (e, ie.size, .slice (some ⟨g, 0, none⟩) xs.length cap) (by simp) g hb rfl
        · exact hpw.2.1.1 r h g rfl hb
      refine ⟨_, _, m.ext f, hr, rfl, rfl, rfl, by simp [World.setRow], fun k hk => other k (by omega), hle, ?_, ?_, ?_⟩
      · refine ⟨fun b o x hx => ?_, fun b T cs hb => ?_, fun b es hb => ?_, fun e' sz' hd' hi => ?_, ?_, fun g' cs hg => (hhp.gl g' cs hg).mono hle (fun h1 h2 => ⟨h1, other g' (fun e => by subst e; omega)⟩)⟩
        · by_cases hbg : b = g
          · subst hbg
            rw [cell_of_row _ b o _ e (0, 0) self]
            simpa using hnew o x hx
          · have hx' : m b o = some x := by
              unfold Mem.ext at hx
              cases hmj : m b o with
              | some u => rw [hmj] at hx; exact hx
              | none => rw [hmj] at hx; simp [f, hbg] at hx
            have := hhp.mem b o x hx'
            unfold World.cell? at *
            rw [other b hbg]; exact this
        · rw [Hp.setSp_blk] at hb
          obtain ⟨h1, h2, h3, h4⟩ := hhp.blk b T cs hb
          have hne : b ≠ g := by rintro rfl; rw [hgblk] at hb; cases hb
          exact ⟨h1, by rw [other b hne]; exact h2, AV.oks_mono hle _ h3, fun o => by simp [Mem.ext, h4 o, f, hne]⟩
        · rw [Hp.setSp_mp] at hb
          obtain ⟨h1, h2, h4⟩ := hhp.mp b es hb
          have hne : b ≠ g := by rintro rfl; exact h2.row e3
          exact ⟨h1, h2.other (other b hne), AV.oks_mono hle _ h4⟩
        · rw [Hp.setSp_sp] at hi
          have hmem : (e', sz', hd') ∈ l1 ++ l2 ∨ (e', sz', hd') = (e, ie.size, Value.slice (some ⟨g, 0, none⟩) (xs.length + ys.length) cap) := by
            rcases List.mem_append.1 hi with h | h
            · left; simp [h]
            · rcases List.mem_cons.1 h with h | h
              · right; exact h
              · left; simp [h]
          rcases hmem with h | h
          · obtain ⟨h1, h2⟩ := hhp.sp e' sz' hd' (by rw [hsp]; rcases List.mem_append.1 h with h | h <;> simp [h])
            refine ⟨?_, h2⟩
            rcases h1 with h1 | ⟨b', n', cap2, cur', q1, q2, q3, q4, q5, q6, q7⟩
            · exact .inl h1
            · have hne : b' ≠ g := by rintro rfl; exact hspg _ h (by rw [q1]; rfl)
              exact .inr ⟨b', n', cap2, cur', q1, q2, by rw [other b' hne]; exact q3, q4, q5, q6, fun o ho => by simp [Mem.ext, q7 o ho, f, hne]⟩
          · simp only [Prod.mk.injEq] at h
            obtain ⟨rfl, rfl, rfl⟩ := h
            refine ⟨.inr ⟨g, _, cap, _, rfl, e2, self, ?_, hroom, e6, fun o ho => ?_⟩, fun b hb => ?_⟩
            · simp only [List.size_toArray, List.length_append, List.length_take, List.length_drop, Array.length_toList]
              omega
            · have hmo : m g o = none := e7 o (by have := Nat.le_mul_of_pos_right ys.length hpos; rw [Nat.add_mul] at ho; omega)
              simp only [Mem.ext, hmo, f, if_true]
              rw [Nat.add_mul] at ho
              rw [if_pos (by omega), List.getElem?_eq_none (by rw [hnewl]; omega)]
            · simp only [blockOf, Option.some.injEq] at hb
              subst hb; exact hgblk
        · rw [Hp.setSp_sp]
          exact spd_set (p := (e, ie.size, .slice (some ⟨g, 0, none⟩) xs.length cap)) (by rw [← hsp]; exact hhp.spd) (fun b hb => .inl hb)
      · refine hdr_flat (AV.oks_mono hle _ (AV.oks_append hxo hyo)) hallone (by rw [List.length_append]) hroom e6 fun k x hk => ?_
        rw [hflat] at hk
        by_cases hlt : k < ((AV.vals xs).flatMap fun v => v.cells.toList).length
        · rw [List.getElem?_append_left hlt] at hk
          exact hle _ _ _ (holds k x hk)
        · rw [List.getElem?_append_right (by omega)] at hk
          rw [holdl] at hk hlt
          have hmo : m g k = none := e7 k (by omega)
          simp only [Mem.ext, hmo, f, if_true]
          rw [if_pos (by omega)]
          exact hk
      · exact AV.oks_mono hle _ (AV.oks_append hxo hyo)
    · have hr := Lib.run_append_grow_string (P := P) w t u ty e ie z hu hus hie hzz ⟨g, 0, none⟩ xs.length cap _ holdl (fun j u hj => by rw [addr_add, Nat.zero_add]; exact hhp.mem _ _ _ (holds j u hj)) s (by omega) (by simp only [maxLen] at h63; omega) (growslice_fits (by omega) (by rw [← hyl]; exact hbytes))
      rw [← hflaty, ← hyl] at hr
      exact grown (xs.length + ys.length) cap rfl hr
end
end Go.AL
/- A tracked row is published at a call. -/
set_option linter.unusedVariables false
set_option linter.unusedSimpArgs false
namespace Go.AL
section
variable {P : Program}

/-- A tracked variable's cells may be told otherwise. -/
theorem castBlk_by {c : Code} {Q : Exit → St → Prop} {st : St} {fc : Fix c} {fq : Fix Q} (b : Nat) (T : TypeId) (cs cs' : List AV) (hb : st.hp.blk b = some (T, cs)) (hv : AV.vals cs' = AV.vals cs) (hok : ∀ m, AV.oks m cs → AV.oks m cs')
    (h : awpX P c Q (st.setHp (st.hp.setBlk b T cs')) fc fq) : awpX P c Q st fc fq := by
  intro F a w hr
  refine h F a w ?_
  obtain ⟨m, hm⟩ := hr.ex
  obtain ⟨h1, h2, h3, h4⟩ := hm.hp.blk b T cs hb
  refine ⟨hr.lo, hr.df, hr.n, m, hm.le, ⟨hm.hp.mem, fun b' T' cs'' hx => ?_, hm.hp.mp, fun e sz hd hi => ⟨(hm.hp.sp e sz hd hi).1, fun b' hb' => ?_⟩, hm.hp.spd, hm.hp.gl⟩, hm.sl⟩
  · rw [St.setHp_hp, Hp.setBlk_blk] at hx
    split at hx
    · rename_i e; subst e
      simp only [Option.some.injEq, Prod.mk.injEq] at hx
      obtain ⟨rfl, rfl⟩ := hx
      exact ⟨h1, by rw [hv]; exact h2, hok m h3, h4⟩
    · exact hm.hp.blk b' T' cs'' hx
  · rw [St.setHp_hp, Hp.setBlk_blk]
    split
    · rename_i e; subst e
      have := (hm.hp.sp e sz hd hi).2 b' hb'
      rw [hb] at this; cases this
    · exact (hm.hp.sp e sz hd hi).2 b' hb'

/-- A contract that turns one tracked variable, as a whole, and nothing else. -/
theorem acalls_turn {f : FuncId} {args : List AV} {hp : Hp} {r : AV} {b : Nat} {T : TypeId} {cs cs' : List AV} (hc : Callable P f) (hr : ∀ m, AV.oks m args → r.ok m) (hb : hp.blk b = some (T, cs)) (hcs : ∀ m, AV.oks m cs → AV.oks m cs')
    (h : ∀ base m w, HpOk base hp m w → AV.oks m args → Calls P f (AV.vals args).toArray w (fun e w' => e = .returned r.val ∧ w' = w.setRow b (AV.vals cs').toArray)) : ACalls P f args hp (fun r' hp' => r' = r ∧ hp' = hp.setBlk b T cs') :=
  ⟨hc, fun F w hv => by
    obtain ⟨hlo, m, hle, hhp, hok⟩ := hv
    refine (h F.base m w hhp hok).mono ?_
    rintro e w' ⟨rfl, rfl⟩
    obtain ⟨h1, h2, h3, _⟩ := hhp.blk b T cs hb
    exact ⟨r, _, ⟨rfl, rfl⟩, rfl, hlo.setRow h1 _, m, hle, hhp.setCells hb (hcs m h3), hr m hok, trivial⟩⟩
/-- Arguments may be told otherwise. -/
theorem acalls_cast {f : FuncId} {args args' : List AV} {hp : Hp} {R : AV → Hp → Prop} (hv : AV.vals args' = AV.vals args) (hok : ∀ m, AV.oks m args' → AV.oks m args) (h : ACalls P f args hp R) : ACalls P f args' hp R :=
  ⟨h.1, fun F w ⟨hlo, m, hle, hhp, ho⟩ => by rw [hv]; exact h.2 F w ⟨hlo, m, hle, hhp, hok m ho⟩⟩

end
end Go.AL
/- The rules for appends of strings and for strings out of bytes. -/
set_option linter.unusedVariables false
set_option linter.unusedSimpArgs false
namespace Go.AL
section
variable {P : Program}

def byAV (l : List UInt8) : List AV := l.map fun b => .v (.int .u8 b.toNat)
theorem byAV_append (a b : List UInt8) : byAV (a ++ b) = byAV a ++ byAV b := by simp [byAV]
theorem byAV_length (a : List UInt8) : (byAV a).length = a.length := by simp [byAV]

section
variable {mu : List Nat} {K : St → Prop} {st : St} (d : Option Nat) (ty : TypeId) (pos : String) (aft : Array Edge) (g : Option (Nat × Bool))
@[go_sem ↓] theorem aopK_usd (l : List Operand) (ts : Array TypeId) : aopK P mu ⟨d, .call { callee := .builtin .unsafeSliceData, args := l.toArray, argTypes := ts }, ty, pos, aft, g⟩ K st = aopX P ⟨d, .call { callee := .builtin .unsafeSliceData, args := l.toArray, argTypes := ts }, ty, pos, aft, g⟩ K st ⟨⟩ ⟨⟩ := rfl
@[go_sem ↓] theorem aopK_ust (l : List Operand) (ts : Array TypeId) : aopK P mu ⟨d, .call { callee := .builtin .unsafeString, args := l.toArray, argTypes := ts }, ty, pos, aft, g⟩ K st = aopX P ⟨d, .call { callee := .builtin .unsafeString, args := l.toArray, argTypes := ts }, ty, pos, aft, g⟩ K st ⟨⟩ ⟨⟩ := rfl
@[go_sem ↓] theorem aopK_copy (l : List Operand) (ts : Array TypeId) : aopK P mu ⟨d, .call { callee := .builtin .copy, args := l.toArray, argTypes := ts }, ty, pos, aft, g⟩ K st = aopX P ⟨d, .call { callee := .builtin .copy, args := l.toArray, argTypes := ts }, ty, pos, aft, g⟩ K st ⟨⟩ ⟨⟩ := rfl
@[go_sem ↓] theorem aopK_cap (l : List Operand) (ts : Array TypeId) : aopK P mu ⟨d, .call { callee := .builtin .cap, args := l.toArray, argTypes := ts }, ty, pos, aft, g⟩ K st = aopX P ⟨d, .call { callee := .builtin .cap, args := l.toArray, argTypes := ts }, ty, pos, aft, g⟩ K st ⟨⟩ ⟨⟩ := rfl
@[go_sem ↓] theorem aopK_min (l : List Operand) (ts : Array TypeId) : aopK P mu ⟨d, .call { callee := .builtin .min, args := l.toArray, argTypes := ts }, ty, pos, aft, g⟩ K st = aopX P ⟨d, .call { callee := .builtin .min, args := l.toArray, argTypes := ts }, ty, pos, aft, g⟩ K st ⟨⟩ ⟨⟩ := rfl
@[go_sem ↓] theorem aopK_max (l : List Operand) (ts : Array TypeId) : aopK P mu ⟨d, .call { callee := .builtin .max, args := l.toArray, argTypes := ts }, ty, pos, aft, g⟩ K st = aopX P ⟨d, .call { callee := .builtin .max, args := l.toArray, argTypes := ts }, ty, pos, aft, g⟩ K st ⟨⟩ ⟨⟩ := rfl
end

theorem appendS_by {d : Option Nat} {ty : TypeId} {pos : String} {aft : Array Edge} {g : Option (Nat × Bool)} {t u e : TypeId} {s x : Operand} {by_ : Nat} {z : Value} {K : St → Prop} {st : St} {a : AV} {h : Value} {xs : List AV} {b : List UInt8}
    {l1 l2 : List (TypeId × Nat × Value)} {fo : Fix (⟨d, .call { callee := .builtin .append, args := [s, x].toArray, argTypes := [t, u].toArray }, ty, pos, aft, g⟩ : Oper)} {fk : Fix K}
    (hk : kindT P t = .sl e) (hku : kindT P u = .s) (hsz : szT P e = some 1) (hby : bytesT P e = some by_) (hz : zeroT P e = some z) (hzs : z.cells.size = 1)
    (hs : st.ev s = some a) (ca : Cast a (.lst 1 h xs)) (hx : st.ev x = some (.v (.string (bs b)))) (hsp : st.hp.sp = l1 ++ (e, 1, h) :: l2)
    (h63 : xs.length + b.length ≤ maxLen) (hbytes : (xs.length + b.length) * by_ ≤ 140737488355328) (hd : dstOk st d)
    (hK : ∀ h', (xs ++ byAV b ≠ [] ∨ h' = h → K ((st.setHp (st.hp.setSp (l1 ++ (e, 1, h') :: l2))).putO d (.lst 1 h' (xs ++ byAV b))))) :
    aopX P ⟨d, .call { callee := .builtin .append, args := [s, x].toArray, argTypes := [t, u].toArray }, ty, pos, aft, g⟩ K st fo fk := by
  intro F ac w hr K' Q hK'
  obtain ⟨m, hm⟩ := hr.ex
  have oa := ca.2 m (hm.ok hs)
  have hv := hr.eval hs
  have hv2 := hr.eval hx
  rw [← ca.1] at hv
  simp only [AV.val] at hv hv2
  unfold Oper.wp
  by_cases hb : b = []
  · subst hb
    obtain ⟨⟨ad, cap, rfl, hcap, _⟩, _⟩ := oa
    have hrun := run_appendS_zero (P := P) (w := w) (ty := ty) (base := ad) (n := (AV.vals xs).length) (cap := cap) (kind_sl hk) (kind_s hku) hsz hcap (s := bs []) rfl
    have hrun' : (execOp ac.eval ⟨d, .call { callee := .builtin .append, args := [s, x].toArray, argTypes := [t, u].toArray }, ty, pos, aft, g⟩).run P w = .ok (.value (.slice ad (AV.vals xs).length cap)) w := by
      simp only [execOp, resolve, Sem.run_bind, Sem.run_pure, Result.andThen_ok, invoke, builtin]
      simp [hv, hv2, hrun]
    rw [hrun']
    refine hK' _ _ ⟨_, hK _ (.inr rfl), ?_⟩
    have hxs : xs ++ byAV [] = xs := by simp [byAV]
    rw [hxs, ← hsp, Hp.setSp_self]
    have := hr.close hm hr.lo (Mem.le_refl m) hm.hp hd (x := .lst 1 (.slice ad (AV.vals xs).length cap) xs) (ca.2 m (hm.ok hs))
    exact this
  · obtain ⟨h', w', m', hrun, h1, h2', h3, h4, h5, hle, hhp, hok⟩ := appendS_core (ty := ty) (s := bs b) (ys := byAV b) hm.hp hr.lo.bs (kind_sl hk) hsz hby hz hzs (Nat.zero_lt_one) oa (kind_s hku) rfl rfl hsp (by rw [byAV_length]; exact h63) (by rw [byAV_length]; exact hbytes)
    have hrun' : (execOp ac.eval ⟨d, .call { callee := .builtin .append, args := [s, x].toArray, argTypes := [t, u].toArray }, ty, pos, aft, g⟩).run P w = .ok (.value h') w' := by
      simp only [execOp, resolve, Sem.run_bind, Sem.run_pure, Result.andThen_ok, invoke, builtin]
      simp [hv, hv2, hrun]
    rw [hrun']
    exact hK' _ _ ⟨_, hK h' (.inl (by simp [byAV, hb])), hr.close hm (hr.lo.grow h1 h2' h3 h4 h5) hle hhp hd (x := .lst 1 h' (xs ++ byAV b)) hok⟩

/-! ### unsafe.SliceData, unsafe.String -/
def hptr : Value → Value
  | .slice a _ _ => .pointer a
  | v => v

theorem usd_by {d : Option Nat} {ty : TypeId} {pos : String} {aft : Array Edge} {g : Option (Nat × Bool)} {t : TypeId} {s : Operand} {K : St → Prop} {st : St} {h : Value} {l : List UInt8}
    {fo : Fix (⟨d, .call { callee := .builtin .unsafeSliceData, args := [s].toArray, argTypes := [t].toArray }, ty, pos, aft, g⟩ : Oper)} {fk : Fix K}
    (hs : st.ev s = some (.lst 1 h (byAV l))) (h0 : l = [] → h = .slice none 0 0) (hd : dstOk st d)
    (hK : K (st.putO d (.v (hptr h)))) : aopX P ⟨d, .call { callee := .builtin .unsafeSliceData, args := [s].toArray, argTypes := [t].toArray }, ty, pos, aft, g⟩ K st fo fk := by
  intro F ac w hr K' Q hK'
  obtain ⟨m, hm⟩ := hr.ex
  have hv := hr.eval hs
  simp only [AV.val] at hv
  obtain ⟨⟨ad, cap, rfl, hcap, hmax, _, hrow⟩, _⟩ := hm.ok hs
  unfold Oper.wp
  have hrun : (execOp ac.eval ⟨d, .call { callee := .builtin .unsafeSliceData, args := [s].toArray, argTypes := [t].toArray }, ty, pos, aft, g⟩).run P w = .ok (.value (.pointer ad)) w := by
    have hb : (Builtin.unsafeSliceData_ [t].toArray ty #[.slice ad (AV.vals (byAV l)).length cap]).run P w = .ok (.pointer ad) w := by
      cases ad with
      | none => exact Lib.run_unsafeSliceData_nil (P := P) w _ _ _ _
      | some a =>
        refine Lib.run_unsafeSliceData_row (P := P) w _ _ a _ cap ?_
        rintro rfl
        by_cases hl : l = []
        · have := h0 hl; simp at this
        · have : (AV.vals (byAV l)).length = l.length := by rw [AV.vals_length, byAV_length]
          have := List.length_pos_iff.2 hl
          omega
    simp only [execOp, resolve, Sem.run_bind, Sem.run_pure, Result.andThen_ok, invoke, builtin]
    simp [hv, hb]
  rw [hrun]
  exact hK' _ _ ⟨_, hK, hr.putM hm hd (x := .v (.pointer ad)) trivial⟩

theorem freeze_heap {w : World} {g n : Nat} {cur : Array Value} {e : TypeId} (hg : w.heap[g]? = some (.cells cur e (0, 0))) :
    (∀ k, k ≠ g → (w.freeze ⟨g, 0, none⟩ n).heap[k]? = w.heap[k]?) ∧ (∃ fz, (w.freeze ⟨g, 0, none⟩ n).heap[g]? = some (.cells cur e fz)) ∧ (w.freeze ⟨g, 0, none⟩ n).heap.size = w.heap.size ∧
    (w.freeze ⟨g, 0, none⟩ n).os = w.os ∧ (w.freeze ⟨g, 0, none⟩ n).tape = w.tape ∧ (w.freeze ⟨g, 0, none⟩ n).output = w.output := by
  unfold World.freeze
  split
  · exact ⟨fun _ _ => rfl, ⟨_, hg⟩, rfl, rfl, rfl, rfl⟩
  · refine ⟨fun k hk => ?_, ⟨(0, 0 + n), ?_⟩, by simp, rfl, rfl, rfl⟩
    · simp only [Array.getElem?_modify]
      rw [if_neg (Ne.symm hk)]
    · simp only [Array.getElem?_modify, if_true, hg, Option.map_some]
      rfl

theorem ust_by {d : Option Nat} {ty : TypeId} {pos : String} {aft : Array Edge} {g : Option (Nat × Bool)} {pt it e : TypeId} {p n : Operand} {K : St → Prop} {st : St} {h : Value} {l : List UInt8} {i : Nat}
    {l1 l2 : List (TypeId × Nat × Value)} {fo : Fix (⟨d, .call { callee := .builtin .unsafeString, args := [p, n].toArray, argTypes := [pt, it].toArray }, ty, pos, aft, g⟩ : Oper)} {fk : Fix K}
    (hkp : P.underlying pt = some (.pointer e)) (hce : P.cellsOf e = 1) (hp : st.ev p = some (.v (hptr h))) (hn : st.ev n = some (.v (.int .i64 l.length))) (hl : st.sl i = some (.lst 1 h (byAV l)))
    (hsp : st.hp.sp = l1 ++ (e, 1, h) :: l2) (hd : dstOk st d)
    (hK : K ((st.setHp (st.hp.setSp (l1 ++ l2))).putO d (.v (.string (bs l))))) : aopX P ⟨d, .call { callee := .builtin .unsafeString, args := [p, n].toArray, argTypes := [pt, it].toArray }, ty, pos, aft, g⟩ K st fo fk := by
  intro F ac w hr K' Q hK'
  obtain ⟨m, hm⟩ := hr.ex
  have hvp := hr.eval hp
  have hvn := hr.eval hn
  simp only [AV.val] at hvp hvn
  have hlok := (hm.sl i _ hl).2
  have hdrop : HpOk F.base (st.hp.setSp (l1 ++ l2)) m w := hm.hp.weaken ⟨fun _ _ h => h, fun _ _ h => h, by rw [hsp]; exact List.Sublist.append_left (List.sublist_cons_self _ _) _, fun _ h => h⟩
  unfold Oper.wp
  by_cases hl0 : l = []
  · subst hl0
    obtain ⟨ad, had⟩ : ∃ ad, hptr h = .pointer ad := by obtain ⟨⟨a, c, rfl, _⟩, _⟩ := hlok; exact ⟨a, rfl⟩
    rw [had] at hvp
    have hb := Lib.run_unsafeString_none (P := P) w pt it ty ad
    have hrun : (execOp ac.eval ⟨d, .call { callee := .builtin .unsafeString, args := [p, n].toArray, argTypes := [pt, it].toArray }, ty, pos, aft, g⟩).run P w = .ok (.value (.string .empty)) w := by
      simp only [execOp, resolve, Sem.run_bind, Sem.run_pure, Result.andThen_ok, invoke, builtin]
      simp at hvn
      simp [hvp, hvn, hb]
    rw [hrun]
    exact hK' _ _ ⟨_, hK, hr.close hm hr.lo (Mem.le_refl m) hdrop hd (x := .v (.string (bs []))) trivial⟩
  · obtain ⟨⟨a0, cap, rfl, hcap, hmax, hcs, hrow⟩, hoks⟩ := hlok
    have hvals : AV.vals (byAV l) = Lib.byteCells l := by rw [AV.vals_eq, byAV, List.map_map]; rfl
    have hlen : (AV.vals (byAV l)).length = l.length := by rw [AV.vals_length, byAV_length]
    rw [hlen] at hp hl hsp hvp hcap
    have hown := (hm.hp.sp e 1 (.slice a0 l.length cap) (by rw [hsp]; simp)).1
    have hblk := (hm.hp.sp e 1 (.slice a0 l.length cap) (by rw [hsp]; simp)).2
    rcases hown with hnil | ⟨g', n', cap', cur, e1, e2, e3, e4, e5, e6, e7⟩
    · simp only [Value.slice.injEq] at hnil
      exact absurd (List.eq_nil_of_length_eq_zero hnil.2.1) hl0
    · simp only [Value.slice.injEq] at e1
      obtain ⟨rfl, rfl, rfl⟩ := e1
      obtain ⟨b', off', hadd, hr2⟩ := hrow (by rw [hvals]; simp [Lib.byteCells, hl0])
      simp only [Option.some.injEq, Addr.mk.injEq] at hadd
      obtain ⟨rfl, rfl, _⟩ := hadd
      have hcell : ∀ (j : Nat) (x : UInt8), l[j]? = some x → w.cell? ((⟨g', 0, none⟩ : Addr).add j) = some (.int .u8 x.toNat) := by
        intro j x hx
        have h1 : (AV.vals (byAV l))[j]? = some (.int .u8 x.toNat) := by rw [hvals, Lib.byteCells, List.getElem?_map, hx]; rfl
        have h2 := hr2 j _ h1 0 (.int .u8 x.toNat) rfl
        have h3 := hm.hp.mem _ _ _ h2
        rw [addr_add]
        simpa using h3
      have hsh : w.shape? g' = some (e, cur.size) := by simp [World.shape?, e3]
      have hb := Lib.run_unsafeString_row (P := P) w pt it ty e hkp hce g' cur.size hsh l hl0 (by rw [e4]; simpa using hcap) (by simp only [maxLen] at hmax; omega) hcell
      obtain ⟨f1, ⟨fz, f2⟩, f3, f4, f5, f6⟩ := freeze_heap (n := l.length) e3
      have hrun : (execOp ac.eval ⟨d, .call { callee := .builtin .unsafeString, args := [p, n].toArray, argTypes := [pt, it].toArray }, ty, pos, aft, g⟩).run P w = .ok (.value (.string ⟨l.toArray⟩)) (w.freeze ⟨g', 0, none⟩ l.length) := by
        simp only [execOp, resolve, Sem.run_bind, Sem.run_pure, Result.andThen_ok, invoke, builtin]
        simp only [hptr] at hvp
        simp [hvp, hvn, hb]
      rw [hrun]
      have hspg : ∀ r ∈ l1 ++ l2, blockOf r.2.2 ≠ some g' := by
        intro r hr' hb
        have hpw := hm.hp.spd
        rw [hsp, List.pairwise_append, List.pairwise_cons] at hpw
        rcases List.mem_append.1 hr' with h | h
        · exact hpw.2.2 r h (e, 1, .slice (some ⟨g', 0, none⟩) l.length cap) (by simp) g' hb rfl
        · exact hpw.2.1.1 r h g' rfl hb
      have hgblk : st.hp.blk g' = none := hblk g' rfl
      have hnew : HpOk F.base (st.hp.setSp (l1 ++ l2)) m (w.freeze ⟨g', 0, none⟩ l.length) := by
        refine ⟨fun b o x hx => ?_, fun b T cs hbk => ?_, fun b es hbk => ?_, fun e' sz hd' hi => ?_, hdrop.spd, fun gg cs hg => (hdrop.gl gg cs hg).mono (Mem.le_refl m) (fun h1 _ => ⟨h1, f1 gg (by omega)⟩)⟩
        · have := hdrop.mem b o x hx
          by_cases hbg : b = g'
          · subst hbg
            rw [cell_of_row w b o cur e (0, 0) e3] at this
            rw [cell_of_row _ b o cur e fz f2]; exact this
          · unfold World.cell? at *
            rw [f1 b hbg]; exact this
        · obtain ⟨h1, h2, h3⟩ := hdrop.blk b T cs hbk
          have hne : b ≠ g' := by rintro rfl; rw [Hp.setSp_blk] at hbk; rw [hgblk] at hbk; cases hbk
          exact ⟨h1, by rw [f1 b hne]; exact h2, h3⟩
        · obtain ⟨h1, h2, h4⟩ := hdrop.mp b es hbk
          have hne : b ≠ g' := by rintro rfl; exact h2.row e3
          exact ⟨h1, h2.other (f1 b hne), h4⟩
        · obtain ⟨h1, h2⟩ := hdrop.sp e' sz hd' hi
          refine ⟨?_, h2⟩
          rcases h1 with h1 | ⟨b', n', cap2, cur', q1, q2, q3, q4, q5, q6, q7⟩
          · exact .inl h1
          · have hne : b' ≠ g' := by rintro rfl; exact hspg _ hi (by rw [q1]; rfl)
            exact .inr ⟨b', n', cap2, cur', q1, q2, by rw [f1 b' hne]; exact q3, q4, q5, q6, q7⟩
      exact hK' _ _ ⟨_, hK, hr.close hm (hr.lo.grow f4 f5 f6 (Nat.le_of_eq f3.symm) (fun k hk => f1 k (by omega))) (Mem.le_refl m) hnew hd (x := .v (.string (bs l))) trivial⟩

end
end Go.AL
