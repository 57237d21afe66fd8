/- Maps; slices of strings and of lists. -/
import Derived.Test.YtfdlfcafcjhpmaaCAL10
namespace Go.AL
section
variable {P : Program}

/-- Keys that are looked up at once: strings, integers of one kind, bools. -/
def keyOk : KT → Value → Bool
  | .s, .string _ => true
  | .i k, .int k' _ => k == k'
  | .b, .bool _ => true
  | _, _ => false

def keyEq : Value → Value → Bool
  | .string a, .string b => decide (a = b)
  | .int _ a, .int _ b => decide (a = b)
  | .bool a, .bool b => decide (a = b)
  | _, _ => false

def kdesc : KT → TypeDesc
  | .s => .string
  | .i k => .int k
  | .b => .bool
  | _ => .invalid

theorem sameNow_key {kt : KT} {a b : Value} (ha : keyOk kt a = true) (hb : keyOk kt b = true) : Instr.sameNow (kdesc kt) a b = some (keyEq a b) := by
  cases kt <;> cases a <;> simp [keyOk] at ha <;> cases b <;> simp [keyOk] at hb <;> simp [Instr.sameNow, kdesc, keyEq, bytes_eq', Bool.beq_eq_decide_eq]
  all_goals (subst ha; subst hb; simp)

def mfind (k : Value) : List (Value × AV) → Option AV
  | [] => none
  | (k', x) :: es => if keyEq k k' = true then some x else mfind k es

def mset (k : Value) (x : AV) : List (Value × AV) → List (Value × AV)
  | [] => [(k, x)]
  | (k', y) :: es => if keyEq k k' = true then (k, x) :: es else (k', y) :: mset k x es

theorem findNow_spec {kt : KT} {k : Value} (hk : keyOk kt k = true) : ∀ (en : List MapEntry) (es : List (Value × AV)) (i : Nat), en.map (fun e => (e.key, e.val)) = es.map (fun p => (p.1, p.2.val)) → (∀ p ∈ es, keyOk kt p.1 = true) →
    (∃ j x, mfind k es = some x ∧ Instr.findNow (kdesc kt) k en i = some (some (i + j, x.val)) ∧ (∃ e, en[j]? = some e ∧ keyEq k e.key = true ∧ ∀ y, mset k y es = es.set j (k, y) ∧ j < es.length)) ∨
    (mfind k es = none ∧ Instr.findNow (kdesc kt) k en i = some none ∧ ∀ y, mset k y es = es ++ [(k, y)])
  | [], es, i, h, _ => by
    have : es = [] := by simpa using h.symm
    subst this
    exact .inr ⟨rfl, rfl, fun _ => rfl⟩
  | e :: en, [], i, h, _ => by simp at h
  | e :: en, (k', x) :: es, i, h, hok => by
    simp only [List.map_cons, List.cons.injEq, Prod.mk.injEq] at h
    obtain ⟨⟨hke, hve⟩, ht⟩ := h
    have hk' : keyOk kt e.key = true := by rw [hke]; exact hok (k', x) (by simp)
    have hs := sameNow_key hk hk'
    by_cases hq : keyEq k k' = true
    · left
      refine ⟨0, x, by simp [mfind, hq], ?_, e, rfl, by rw [hke]; exact hq, fun y => ⟨by simp [mset, hq], by simp⟩⟩
      have hsome : Instr.sameNow (kdesc kt) k e.key = some true := by rw [hs, hke, hq]
      simp only [Instr.findNow, hsome, hve, Nat.add_zero]
    · have hq' : keyEq k k' = false := by simpa using hq
      have hsome : Instr.sameNow (kdesc kt) k e.key = some false := by rw [hs, hke, hq']
      rcases findNow_spec hk en es (i + 1) ht (fun p hp => hok p (by simp [hp])) with ⟨j, y, h1, h2, e', h3, h4, h5⟩ | ⟨h1, h2, h3⟩
      · left
        refine ⟨j + 1, y, by simp [mfind, hq, h1], ?_, e', by simpa using h3, h4, fun z => ⟨by simp [mset, hq, (h5 z).1], by simp [(h5 z).2]⟩⟩
        simp only [Instr.findNow, hsome, h2]
        congr 3; omega
      · right
        refine ⟨by simp [mfind, hq, h1], by simp only [Instr.findNow, hsome, h2], fun z => by simp [mset, hq, h3]⟩

theorem kdesc_und {kt : TypeId} (h : kdesc (kindT P kt) ≠ .invalid) : P.underlying kt = some (kdesc (kindT P kt)) := by
  cases hk : kindT P kt <;> rw [hk] at h <;> simp only [kdesc, ne_eq, not_true_eq_false] at h ⊢
  · exact kind_b hk
  · exact kind_i hk
  · exact kind_s hk

theorem keyOk_desc {kt : KT} {k : Value} (h : keyOk kt k = true) : kdesc kt ≠ .invalid := by
  cases kt <;> cases k <;> simp [keyOk] at h <;> simp [kdesc]

theorem run_checkKeyA {w : World} {kt : TypeId} {k : Value} (h : keyOk (kindT P kt) k = true) (b : Bool) : (Instr.checkKey b 10000 kt k).run P w = .ok () w := by
  have hu := kdesc_und (keyOk_desc h)
  have : ∀ n, (Instr.checkKey b (n + 1) kt k).run P w = .ok () w := by
    intro n
    cases hk : kindT P kt <;> rw [hk] at h hu <;> cases k <;> simp [keyOk] at h <;> simp [Instr.checkKey, run_underlying hu, kdesc]
  exact this 9999

theorem mfind_mem {k : Value} {x : AV} : ∀ {es : List (Value × AV)}, mfind k es = some x → ∃ p ∈ es, p.2 = x
  | [], h => by cases h
  | (k', y) :: es, h => by
    simp only [mfind] at h
    split at h
    · obtain rfl := Option.some.inj h; exact ⟨(k', y), by simp, rfl⟩
    · obtain ⟨p, hp, e⟩ := mfind_mem h; exact ⟨p, by simp [hp], e⟩

theorem oks_mset {m : Mem} {k : Value} {x : AV} (hx : x.ok m) : ∀ {es : List (Value × AV)}, AV.oks m (es.map (·.2)) → AV.oks m ((mset k x es).map (·.2))
  | [], _ => ⟨hx, trivial⟩
  | (k', y) :: es, h => by
    simp only [mset]
    split
    · exact ⟨hx, h.2⟩
    · exact ⟨h.1, oks_mset hx h.2⟩

/-- A look-up: what is there, or the zero value. -/
def lookupK (P : Program) (hp : Hp) (t : TypeId) (mv k : AV) (ok : Bool) (K : AV → Prop) : Prop :=
  match kindT P t, mv, k with
  | .mp kt et, .v (.map (some b)), .v k => (match hp.mp b, zeroT P et with
    | some es, some z => keyOk (kindT P kt) k = true ∧ (∀ p ∈ es, keyOk (kindT P kt) p.1 = true) ∧
      K (if ok = true then .tup [(mfind k es).getD (.v z), .v (.bool (mfind k es).isSome)] else (mfind k es).getD (.v z))
    | _, _ => False)
  | _, _, _ => False

theorem lookupK_sound {st : St} {t : TypeId} {o ok_ : Operand} {mv k : AV} {ok : Bool} {K : AV → Prop} (hm' : st.ev o = some mv) (hk' : st.ev ok_ = some k) (h : lookupK P st.hp t mv k ok K) : ∃ x, K x ∧ Yields P st (.lookup t o ok_ ok) x := by
  unfold lookupK at h
  split at h
  · rename_i kt et b k hk
    split at h
    · rename_i es z hes hz
      obtain ⟨hkk, hall, hK⟩ := h
      refine ⟨_, hK, fun F ac w m hr hm => ?_⟩
      obtain ⟨_, ⟨en, cl, hh, hl⟩, hoks⟩ := hm.hp.mp b es hes
      have hu := kdesc_und (keyOk_desc hkk)
      have hv1 := hr.eval hm'
      have hv2 := hr.eval hk'
      simp only [AV.val] at hv1 hv2
      have hget : (getObj b).run P w = .ok (.map en cl) w := by simp [getObj, Sem.run, hh]
      rcases findNow_spec hkk en.toList es 0 hl hall with ⟨j, x, h1, h2, _⟩ | ⟨h1, h2, _⟩
      · rw [h1]
        have hfk : (Instr.findKey kt k en.toList).run P w = .ok (some (0 + j, x.val)) w := by
          simp only [Instr.findKey, Sem.run_bind, run_underlying hu, Result.andThen_ok, h2, Sem.run_pure]
        have hxok : x.ok m := by
          obtain ⟨p, hp, rfl⟩ := mfind_mem h1
          rw [AV.oks_iff] at hoks
          exact hoks _ (List.mem_map_of_mem hp)
        refine ⟨fun op ho => ?_, ?_⟩
        · simp only [execOp, ho, hv1, hv2, Instr.lookup, Sem.run_bind, run_underlying (kind_mp hk), Result.andThen_ok, hget, run_checkKeyA hkk, hfk, Sem.run_pure]
          cases ok <;> simp [AV.val, AV.vals]
        · cases ok <;> simp [AV.ok, AV.oks, hxok]
      · rw [h1]
        have hfk : (Instr.findKey kt k en.toList).run P w = .ok none w := by
          simp only [Instr.findKey, Sem.run_bind, run_underlying hu, Result.andThen_ok, h2, Sem.run_pure]
        refine ⟨fun op ho => ?_, ?_⟩
        · simp only [execOp, ho, hv1, hv2, Instr.lookup, Sem.run_bind, run_underlying (kind_mp hk), Result.andThen_ok, hget, run_checkKeyA hkk, hfk, Sem.run_pure, run_zero hz]
          cases ok <;> simp [AV.val, AV.vals]
        · cases ok <;> simp [AV.ok, AV.oks]
    · exact h.elim
  · exact h.elim

theorem aop_makeMap {o : Oper} {t : TypeId} (ho : o.op = .makeMap t none) {K : St → Prop} {st : St} (hd : dstOk st o.dst)
    (h : ∀ b, Fresh st.hp b → K ((st.setHp (st.hp.setMp b [])).putO o.dst (.v (.map (some b))))) : AOp P o K st := by
  intro F a w hr K' Q hK'
  obtain ⟨m, hm⟩ := hr.ex
  unfold Oper.wp
  have hrun : (execOp a.eval o).run P w = .ok (.value (.map (some w.heap.size))) (w.alloc (.map #[] 0)) := by
    simp only [execOp, ho, Instr.makeMap]
    rfl
  rw [hrun]
  exact hK' _ _ ⟨_, h _ hm.hp.fresh.1, hr.close hm (hr.lo.alloc _) (Mem.le_refl m) (hm.hp.setNewMp hr.lo.bs) hd (x := .v (.map (some w.heap.size))) trivial⟩

theorem sameBits_key {kt : KT} {a b : Value} (ha : keyOk kt a = true) (hb : keyOk kt b = true) (h : keyEq b a = true) (n : Nat) : Instr.sameBits n a b = true := by
  cases kt <;> cases a <;> simp [keyOk] at ha <;> cases b <;> simp [keyOk] at hb <;> simp [keyEq] at h <;> subst h <;> simp [Instr.sameBits, bytes_eq']
  all_goals (subst ha; subst hb; rfl)

theorem aop_mapUpdate {o : Oper} {t kt et : TypeId} {mo ko xo : Operand} (ho : o.op = .mapUpdate t mo ko xo) (hdst : o.dst = none) {K : St → Prop} {st : St} {b : Nat} {k : Value} {x : AV} {es : List (Value × AV)}
    (hk : kindT P t = .mp kt et) (hm' : st.ev mo = some (.v (.map (some b)))) (hk' : st.ev ko = some (.v k)) (hx : st.ev xo = some x) (hes : st.hp.mp b = some es) (hkk : keyOk (kindT P kt) k = true) (hall : ∀ p ∈ es, keyOk (kindT P kt) p.1 = true)
    (h : K (st.setHp (st.hp.setMp b (mset k x es)))) : AOp P o K st := by
  intro F a w hr K' Q hK'
  obtain ⟨m, hm⟩ := hr.ex
  obtain ⟨hbase, ⟨en, cl, hh, hl⟩, hoks⟩ := hm.hp.mp b es hes
  have hu := kdesc_und (keyOk_desc hkk)
  have hv1 := hr.eval hm'
  have hv2 := hr.eval hk'
  have hv3 := hr.eval hx
  simp only [AV.val] at hv1 hv2
  have hget : (getObj b).run P w = .ok (.map en cl) w := by simp [getObj, Sem.run, hh]
  have hset : ∀ o', (setObj b o').run P w = .ok () { w with heap := w.heap.setIfInBounds b o' } := by intro o'; simp [setObj, Sem.run, hh]
  have hblt := heap_lt hh
  -- what a new map object in the block's place leaves
  have fin : ∀ (en' : Array MapEntry) (cl' : Nat), en'.toList.map (fun e => (e.key, e.val)) = (mset k x es).map (fun p => (p.1, p.2.val)) →
      Rel F ((st.setHp (st.hp.setMp b (mset k x es))).putO none (.v undef)) (a.put none undef) { w with heap := w.heap.setIfInBounds b (.map en' cl') } := by
    intro en' cl' hl'
    have other : ∀ i, i ≠ b → ({ w with heap := w.heap.setIfInBounds b (.map en' cl') } : World).heap[i]? = w.heap[i]? := fun i hi => by
      show (w.heap.setIfInBounds b _)[i]? = _
      rw [Array.getElem?_setIfInBounds_ne (by omega)]
    have self : ({ w with heap := w.heap.setIfInBounds b (.map en' cl') } : World).heap[b]? = some (.map en' cl') := by
      show (w.heap.setIfInBounds b _)[b]? = _
      rw [Array.getElem?_setIfInBounds_self_of_lt hblt]
    have hmb : ∀ o', m b o' = none := by
      intro o'
      cases hx' : m b o' with
      | none => rfl
      | some y =>
        have := hm.hp.mem b o' y hx'
        unfold World.cell? at this
        rw [hh] at this; cases this
    have hmx : AV.oks m ((mset k x es).map (·.2)) := oks_mset (hm.ok hx) hoks
    have hlo : Lo F ({ w with heap := w.heap.setIfInBounds b (.map en' cl') } : World) := hr.lo.grow (w' := ({ w with heap := w.heap.setIfInBounds b (.map en' cl') } : World)) rfl rfl rfl (by simp) (fun i hi => other i (by omega))
    refine hr.close (d := none) (x := .v undef) hm hlo (Mem.le_refl m) ?_ trivial trivial
    refine ⟨fun b' o' y hy => ?_, fun b' T cs hb' => ?_, fun b' es' hb' => ?_, fun e sz hd hi => ?_, hm.hp.spd, hm.hp.gl⟩
    · have hne : b' ≠ b := by rintro rfl; rw [hmb] at hy; cases hy
      have := hm.hp.mem b' o' y hy
      unfold World.cell? at *
      rw [other b' hne]; exact this
    · obtain ⟨h1, h2, h3⟩ := hm.hp.blk b' T cs hb'
      have hne : b' ≠ b := by rintro rfl; rw [hh] at h2; cases h2
      exact ⟨h1, by rw [other b' hne]; exact h2, h3⟩
    · rw [Hp.setMp_mp] at hb'
      split at hb'
      · rename_i e; subst e
        obtain rfl := Option.some.inj hb'
        exact ⟨hbase, ⟨en', cl', self, hl'⟩, hmx⟩
      · rename_i hne
        obtain ⟨h1, ⟨en2, cl2, h2, h3⟩, h4⟩ := hm.hp.mp b' es' hb'
        exact ⟨h1, ⟨en2, cl2, by rw [other b' hne]; exact h2, h3⟩, h4⟩
    · obtain ⟨h1, h2⟩ := hm.hp.sp e sz hd hi
      refine ⟨?_, h2⟩
      rcases h1 with h1 | ⟨b', n, cap, cur, e1, e2, e3, r⟩
      · exact .inl h1
      · have hne : b' ≠ b := by rintro rfl; rw [hh] at e3; cases e3
        exact .inr ⟨b', n, cap, cur, e1, e2, by rw [other b' hne]; exact e3, r⟩
  unfold Oper.wp
  rcases findNow_spec hkk en.toList es 0 hl hall with ⟨j, y, h1, h2, e, h3, h4, h5⟩ | ⟨h1, h2, h3⟩
  · have hfk : (Instr.findKey kt k en.toList).run P w = .ok (some (0 + j, y.val)) w := by
      simp only [Instr.findKey, Sem.run_bind, run_underlying hu, Result.andThen_ok, h2, Sem.run_pure]
    have hen : en[0 + j]? = some e := by simpa using h3
    have hek : keyOk (kindT P kt) e.key = true := by
      have hjl := congrArg (fun l => l[j]?) hl
      simp only [List.getElem?_map, h3, Option.map_some] at hjl
      cases hes' : es[j]? with
      | none => rw [hes'] at hjl; cases hjl
      | some p =>
        rw [hes'] at hjl
        simp only [Option.map_some, Option.some.injEq, Prod.mk.injEq] at hjl
        rw [hjl.1]; exact hall p (List.mem_of_getElem? hes')
    have hstay : (Instr.keyThatStays e.key k).run P w = .ok k w := by
      simp [Instr.keyThatStays, sameBits_key hek hkk h4]
    have hrun : (execOp a.eval o).run P w = .ok .skip { w with heap := w.heap.setIfInBounds b (.map (en.modify (0 + j) fun e => { e with key := k, val := x.val }) cl) } := by
      simp only [execOp, ho, hv1, hv2, hv3, Instr.mapUpdate, Sem.run_bind, run_underlying (kind_mp hk), Result.andThen_ok, hget, run_checkKeyA hkk, hfk, hen, Option.map_some, Option.getD_some, hstay, hset, Sem.run_pure]
    rw [hrun]
    simp only [Oper.upon, hdst]
    refine hK' _ _ ⟨_, h, fin _ _ ?_⟩
    rw [(h5 x).1]
    apply List.ext_getElem?
    intro i
    have hli := congrArg (fun l => l[i]?) hl
    simp only [List.getElem?_map] at hli ⊢
    simp only [Nat.zero_add, Array.toList_modify, List.getElem?_modify, List.getElem?_set]
    by_cases hij : j = i
    · subst hij
      simp [h3, (h5 x).2]
    · simpa [hij] using hli
  · have hfk : (Instr.findKey kt k en.toList).run P w = .ok none w := by
      simp only [Instr.findKey, Sem.run_bind, run_underlying hu, Result.andThen_ok, h2, Sem.run_pure]
    have hrun : (execOp a.eval o).run P w = .ok .skip { w with heap := w.heap.setIfInBounds b (.map (en.push { key := k, val := x.val, born := cl }) (cl + 1)) } := by
      simp only [execOp, ho, hv1, hv2, hv3, Instr.mapUpdate, Sem.run_bind, run_underlying (kind_mp hk), Result.andThen_ok, hget, run_checkKeyA hkk, hfk, hset, Sem.run_pure]
    rw [hrun]
    simp only [Oper.upon, hdst]
    refine hK' _ _ ⟨_, h, fin _ _ ?_⟩
    rw [h3 x]
    simp [hl]
end
end Go.AL
