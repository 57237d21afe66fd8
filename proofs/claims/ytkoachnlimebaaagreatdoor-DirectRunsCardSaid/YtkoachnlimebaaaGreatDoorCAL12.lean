/- Maps; slices of strings and of lists. -/
import Derived.Test.YtkoachnlimebaaaGreatDoorCAL10
namespace Go.AL
section
variable {P : Program}

/-- Keys that are looked up at once: strings, integers of one kind, bools. -/
def keyOk : KT → Value → Bool
  | .s, .string _ => true
  | .i k, .int k' _ => k == k'
  | .b, .bool _ => true
  | _, _ => false

def keyEq : Value → Value → Bool
  | .string a, .string b => decide (a = b)
  | .int _ a, .int _ b => decide (a = b)
  | .bool a, .bool b => decide (a = b)
  | _, _ => false

def kdesc : KT → TypeDesc
  | .s => .string
  | .i k => .int k
  | .b => .bool
  | _ => .invalid

theorem sameNow_key {kt : KT} {a b : Value} (ha : keyOk kt a = true) (hb : keyOk kt b = true) : Instr.sameNow (kdesc kt) a b = some (keyEq a b) := by
  cases kt <;> cases a <;> simp [keyOk] at ha <;> cases b <;> simp [keyOk] at hb <;> simp [Instr.sameNow, kdesc, keyEq, bytes_eq', Bool.beq_eq_decide_eq]
  all_goals (subst ha; subst hb; simp)

def mfind (k : Value) : List (Value × AV) → Option AV
  | [] => none
  | (k', x) :: es => if keyEq k k' = true then some x else mfind k es

def mset (k : Value) (x : AV) : List (Value × AV) → List (Value × AV)
  | [] => [(k, x)]
  | (k', y) :: es => if keyEq k k' = true then (k, x) :: es else (k', y) :: mset k x es

theorem findNow_spec {kt : KT} {k : Value} (hk : keyOk kt k = true) : ∀ (en : List MapEntry) (es : List (Value × AV)) (i : Nat), en.map (fun e => (e.key, e.val)) = es.map (fun p => (p.1, p.2.val)) → (∀ p ∈ es, keyOk kt p.1 = true) →
    (∃ j x, mfind k es = some x ∧ Instr.findNow (kdesc kt) k en i = some (some (i + j, x.val)) ∧ (∃ e, en[j]? = some e ∧ keyEq k e.key = true ∧ ∀ y, mset k y es = es.set j (k, y) ∧ j < es.length)) ∨
    (mfind k es = none ∧ Instr.findNow (kdesc kt) k en i = some none ∧ ∀ y, mset k y es = es ++ [(k, y)])
  | [], es, i, h, _ => by
    have : es = [] := by simpa using h.symm
    subst this
    exact .inr ⟨rfl, rfl, fun _ => rfl⟩
  | e :: en, [], i, h, _ => by simp at h
  | e :: en, (k', x) :: es, i, h, hok => by
    simp only [List.map_cons, List.cons.injEq, Prod.mk.injEq] at h
    obtain ⟨⟨hke, hve⟩, ht⟩ := h
    have hk' : keyOk kt e.key = true := by rw [hke]; exact hok (k', x) (by simp)
    have hs := sameNow_key hk hk'
    by_cases hq : keyEq k k' = true
    · left
      refine ⟨0, x, by simp [mfind, hq], ?_, e, rfl, by rw [hke]; exact hq, fun y => ⟨by simp [mset, hq], by simp⟩⟩
      have hsome : Instr.sameNow (kdesc kt) k e.key = some true := by rw [hs, hke, hq]
      simp only [Instr.findNow, hsome, hve, Nat.add_zero]
    · have hq' : keyEq k k' = false := by simpa using hq
      have hsome : Instr.sameNow (kdesc kt) k e.key = some false := by rw [hs, hke, hq']
      rcases findNow_spec hk en es (i + 1) ht (fun p hp => hok p (by simp [hp])) with ⟨j, y, h1, h2, e', h3, h4, h5⟩ | ⟨h1, h2, h3⟩
      · left
        refine ⟨j + 1, y, by simp [mfind, hq, h1], ?_, e', by simpa using h3, h4, fun z => ⟨by simp [mset, hq, (h5 z).1], by simp [(h5 z).2]⟩⟩
        simp only [Instr.findNow, hsome, h2]
        congr 3; omega
      · right
        refine ⟨by simp [mfind, hq, h1], by simp only [Instr.findNow, hsome, h2], fun z => by simp [mset, hq, h3]⟩

theorem keyEq_eq {kt : KT} {a b : Value} (ha : keyOk kt a = true) (hb : keyOk kt b = true) (h : keyEq b a = true) : a = b := by
  cases kt <;> cases a <;> simp [keyOk] at ha <;> cases b <;> simp [keyOk] at hb <;> simp [keyEq] at h <;> subst h
  all_goals first | rfl | (subst ha; subst hb; rfl)
theorem keyEq_self {kt : KT} {a : Value} (ha : keyOk kt a = true) : keyEq a a = true := by
  cases kt <;> cases a <;> simp [keyOk] at ha <;> simp [keyEq]
theorem mfind_none {k : Value} : ∀ {es : List (Value × AV)}, mfind k es = none → ∀ p ∈ es, keyEq k p.1 = false
  | [], _, p, hp => by cases hp
  | (k', x) :: es, h, p, hp => by
    rw [mfind] at h
    split at h
    · cases h
    · rename_i hq
      rcases List.mem_cons.1 hp with rfl | hp
      · simpa using hq
      · exact mfind_none h p hp

theorem kdesc_und {kt : TypeId} (h : kdesc (kindT P kt) ≠ .invalid) : P.underlying kt = some (kdesc (kindT P kt)) := by
  cases hk : kindT P kt <;> rw [hk] at h <;> simp only [kdesc, ne_eq, not_true_eq_false] at h ⊢
  · exact kind_b hk
  · exact kind_i hk
  · exact kind_s hk

theorem keyOk_desc {kt : KT} {k : Value} (h : keyOk kt k = true) : kdesc kt ≠ .invalid := by
  cases kt <;> cases k <;> simp [keyOk] at h <;> simp [kdesc]

theorem run_checkKeyA {w : World} {kt : TypeId} {k : Value} (h : keyOk (kindT P kt) k = true) (b : Bool) : (Instr.checkKey b 10000 kt k).run P w = .ok () w := by
  have hu := kdesc_und (keyOk_desc h)
  have : ∀ n, (Instr.checkKey b (n + 1) kt k).run P w = .ok () w := by
    intro n
    cases hk : kindT P kt <;> rw [hk] at h hu <;> cases k <;> simp [keyOk] at h <;> simp [Instr.checkKey, run_underlying hu, kdesc]
  exact this 9999

theorem mfind_mem {k : Value} {x : AV} : ∀ {es : List (Value × AV)}, mfind k es = some x → ∃ p ∈ es, p.2 = x
  | [], h => by cases h
  | (k', y) :: es, h => by
    simp only [mfind] at h
    split at h
    · obtain rfl := Option.some.inj h; exact ⟨(k', y), by simp, rfl⟩
    · obtain ⟨p, hp, e⟩ := mfind_mem h; exact ⟨p, by simp [hp], e⟩

theorem oks_mset {m : Mem} {k : Value} {x : AV} (hx : x.ok m) : ∀ {es : List (Value × AV)}, AV.oks m (es.map (·.2)) → AV.oks m ((mset k x es).map (·.2))
  | [], _ => ⟨hx, trivial⟩
  | (k', y) :: es, h => by
    simp only [mset]
    split
    · exact ⟨hx, h.2⟩
    · exact ⟨h.1, oks_mset hx h.2⟩

theorem notIt_keys {kt : KT} {es : List (Value × AV)} (h : ∀ p ∈ es, keyOk kt p.1 = true) : notIt es := by
  intro s pos e
  subst e
  have := h _ (List.mem_singleton.2 rfl)
  cases kt <;> simp [keyOk] at this

/-- A look-up: what is there, or the zero value. -/
def lookupK (P : Program) (hp : Hp) (t : TypeId) (mv k : AV) (ok : Bool) (K : AV → Prop) : Prop :=
  match kindT P t, mv, k with
  | .mp kt et, .v (.map (some b)), .v k => (match hp.mp b, zeroT P et with
    | some es, some z => keyOk (kindT P kt) k = true ∧ (∀ p ∈ es, keyOk (kindT P kt) p.1 = true) ∧
      K (if ok = true then .tup [(mfind k es).getD (.v z), .v (.bool (mfind k es).isSome)] else (mfind k es).getD (.v z))
    | _, _ => False)
  | _, _, _ => False

theorem lookupK_sound {st : St} {t : TypeId} {o ok_ : Operand} {mv k : AV} {ok : Bool} {K : AV → Prop} (hm' : st.ev o = some mv) (hk' : st.ev ok_ = some k) (h : lookupK P st.hp t mv k ok K) : ∃ x, K x ∧ Yields P st (.lookup t o ok_ ok) x := by
  unfold lookupK at h
  split at h
  · rename_i kt et b k hk
    split at h
    · rename_i es z hes hz
      obtain ⟨hkk, hall, hK⟩ := h
      refine ⟨_, hK, fun F ac w m hr hm => ?_⟩
      obtain ⟨_, hmp, hoks⟩ := hm.hp.mp b es hes
      obtain ⟨en, cl, hh, hl, _⟩ := hmp.map (notIt_keys hall)
      have hu := kdesc_und (keyOk_desc hkk)
      have hv1 := hr.eval hm'
      have hv2 := hr.eval hk'
      simp only [AV.val] at hv1 hv2
      have hget : (getObj b).run P w = .ok (.map en cl) w := by simp [getObj, Sem.run, hh]
      rcases findNow_spec hkk en.toList es 0 hl hall with ⟨j, x, h1, h2, _⟩ | ⟨h1, h2, _⟩
      · rw [h1]
        have hfk : (Instr.findKey kt k en.toList).run P w = .ok (some (0 + j, x.val)) w := by
          simp only [Instr.findKey, Sem.run_bind, run_underlying hu, Result.andThen_ok, h2, Sem.run_pure]
        have hxok : x.ok m := by
          obtain ⟨p, hp, rfl⟩ := mfind_mem h1
          rw [AV.oks_iff] at hoks
          exact hoks _ (List.mem_map_of_mem hp)
        refine ⟨fun op ho => ?_, ?_⟩
        · simp only [execOp, ho, hv1, hv2, Instr.lookup, Sem.run_bind, run_underlying (kind_mp hk), Result.andThen_ok, hget, run_checkKeyA hkk, hfk, Sem.run_pure]
          cases ok <;> simp [AV.val, AV.vals]
        · cases ok <;> simp [AV.ok, AV.oks, hxok]
      · rw [h1]
        have hfk : (Instr.findKey kt k en.toList).run P w = .ok none w := by
          simp only [Instr.findKey, Sem.run_bind, run_underlying hu, Result.andThen_ok, h2, Sem.run_pure]
        refine ⟨fun op ho => ?_, ?_⟩
        · simp only [execOp, ho, hv1, hv2, Instr.lookup, Sem.run_bind, run_underlying (kind_mp hk), Result.andThen_ok, hget, run_checkKeyA hkk, hfk, Sem.run_pure, run_zero hz]
          cases ok <;> simp [AV.val, AV.vals]
        · cases ok <;> simp [AV.ok, AV.oks]
    · exact h.elim
  · exact h.elim

theorem aop_makeMap {o : Oper} {t : TypeId} (ho : o.op = .makeMap t none) {K : St → Prop} {st : St} (hd : dstOk st o.dst)
    (h : ∀ b, Fresh st.hp b → K ((st.setHp (st.hp.setMp b [])).putO o.dst (.v (.map (some b))))) : AOp P o K st := by
  intro F a w hr K' Q hK'
  obtain ⟨m, hm⟩ := hr.ex
  unfold Oper.wp
  have hrun : (execOp a.eval o).run P w = .ok (.value (.map (some w.heap.size))) (w.alloc (.map #[] 0)) := by
    simp only [execOp, ho, Instr.makeMap]
    rfl
  rw [hrun]
  exact hK' _ _ ⟨_, h _ hm.hp.fresh.1, hr.close hm (hr.lo.alloc _) (Mem.le_refl m) (hm.hp.setNewMp hr.lo.bs) hd (x := .v (.map (some w.heap.size))) trivial⟩

theorem sameBits_key {kt : KT} {a b : Value} (ha : keyOk kt a = true) (hb : keyOk kt b = true) (h : keyEq b a = true) (n : Nat) : Instr.sameBits n a b = true := by
  cases kt <;> cases a <;> simp [keyOk] at ha <;> cases b <;> simp [keyOk] at hb <;> simp [keyEq] at h <;> subst h <;> simp [Instr.sameBits, bytes_eq']
  all_goals (subst ha; subst hb; rfl)

theorem mset_keys {kt : KT} {k : Value} {x : AV} : ∀ {es : List (Value × AV)}, keyOk kt k = true → (∀ p ∈ es, keyOk kt p.1 = true) → ∀ p ∈ mset k x es, keyOk kt p.1 = true
  | [], hk, _ => fun p hp => by
    rw [mset] at hp
    rw [List.mem_singleton.1 hp]; exact hk
  | q :: es, hk, h => fun p hp => by
    rw [mset] at hp
    split at hp
    · rcases List.mem_cons.1 hp with rfl | hp
      · exact hk
      · exact h p (List.mem_cons_of_mem _ hp)
    · rcases List.mem_cons.1 hp with rfl | hp
      · exact h _ (List.mem_cons_self ..)
      · exact mset_keys hk (fun p hp => h p (List.mem_cons_of_mem _ hp)) p hp
theorem aop_mapUpdate {o : Oper} {t kt et : TypeId} {mo ko xo : Operand} (ho : o.op = .mapUpdate t mo ko xo) (hdst : o.dst = none) {K : St → Prop} {st : St} {b : Nat} {k : Value} {x : AV} {es : List (Value × AV)}
    (hk : kindT P t = .mp kt et) (hm' : st.ev mo = some (.v (.map (some b)))) (hk' : st.ev ko = some (.v k)) (hx : st.ev xo = some x) (hes : st.hp.mp b = some es) (hkk : keyOk (kindT P kt) k = true) (hall : ∀ p ∈ es, keyOk (kindT P kt) p.1 = true)
    (h : K (st.setHp (st.hp.setMp b (mset k x es)))) : AOp P o K st := by
  intro F a w hr K' Q hK'
  obtain ⟨m, hm⟩ := hr.ex
  obtain ⟨hbase, hmp, hoks⟩ := hm.hp.mp b es hes
  obtain ⟨en, cl, hh, hl, hst⟩ := hmp.map (notIt_keys hall)
  have hu := kdesc_und (keyOk_desc hkk)
  have hv1 := hr.eval hm'
  have hv2 := hr.eval hk'
  have hv3 := hr.eval hx
  simp only [AV.val] at hv1 hv2
  have hget : (getObj b).run P w = .ok (.map en cl) w := by simp [getObj, Sem.run, hh]
  have hset : ∀ o', (setObj b o').run P w = .ok () { w with heap := w.heap.setIfInBounds b o' } := by intro o'; simp [setObj, Sem.run, hh]
  have hblt := heap_lt hh
  -- what a new map object in the block's place leaves
  have fin : ∀ (en' : Array MapEntry) (cl' : Nat), en'.toList.map (fun e => (e.key, e.val)) = (mset k x es).map (fun p => (p.1, p.2.val)) → Go.MapKept.Stamped en' cl' →
      Rel F ((st.setHp (st.hp.setMp b (mset k x es))).putO none (.v undef)) (a.put none undef) { w with heap := w.heap.setIfInBounds b (.map en' cl') } := by
    intro en' cl' hl' hst'
    have other : ∀ i, i ≠ b → ({ w with heap := w.heap.setIfInBounds b (.map en' cl') } : World).heap[i]? = w.heap[i]? := fun i hi => by
      show (w.heap.setIfInBounds b _)[i]? = _
      rw [Array.getElem?_setIfInBounds_ne (by omega)]
    have self : ({ w with heap := w.heap.setIfInBounds b (.map en' cl') } : World).heap[b]? = some (.map en' cl') := by
      show (w.heap.setIfInBounds b _)[b]? = _
      rw [Array.getElem?_setIfInBounds_self_of_lt hblt]
    have hmb : ∀ o', m b o' = none := by
      intro o'
      cases hx' : m b o' with
      | none => rfl
      | some y =>
        have := hm.hp.mem b o' y hx'
        unfold World.cell? at this
        rw [hh] at this; cases this
    have hmx : AV.oks m ((mset k x es).map (·.2)) := oks_mset (hm.ok hx) hoks
    have hlo : Lo F ({ w with heap := w.heap.setIfInBounds b (.map en' cl') } : World) := hr.lo.grow (w' := ({ w with heap := w.heap.setIfInBounds b (.map en' cl') } : World)) rfl rfl rfl (by simp) (fun i hi => other i (by omega))
    refine hr.close (d := none) (x := .v undef) hm hlo (Mem.le_refl m) ?_ trivial trivial
    refine ⟨fun b' o' y hy => ?_, fun b' T cs hb' => ?_, fun b' es' hb' => ?_, fun e sz hd hi => ?_, hm.hp.spd, fun g' cs hg => (hm.hp.gl g' cs hg).mono (Mem.le_refl m) (fun h1 _ => ⟨h1, other g' (fun e => by subst e; omega)⟩)⟩
    · have hne : b' ≠ b := by rintro rfl; rw [hmb] at hy; cases hy
      have := hm.hp.mem b' o' y hy
      unfold World.cell? at *
      rw [other b' hne]; exact this
    · obtain ⟨h1, h2, h3⟩ := hm.hp.blk b' T cs hb'
      have hne : b' ≠ b := by rintro rfl; rw [hh] at h2; cases h2
      exact ⟨h1, by rw [other b' hne]; exact h2, h3⟩
    · rw [Hp.setMp_mp] at hb'
      split at hb'
      · rename_i e; subst e
        obtain rfl := Option.some.inj hb'
        exact ⟨hbase, .inl ⟨notIt_keys (mset_keys hkk hall), en', cl', self, hl', hst'⟩, hmx⟩
      · rename_i hne
        obtain ⟨h1, h2, h4⟩ := hm.hp.mp b' es' hb'
        exact ⟨h1, h2.other (other b' hne), h4⟩
    · obtain ⟨h1, h2⟩ := hm.hp.sp e sz hd hi
      refine ⟨?_, h2⟩
      rcases h1 with h1 | ⟨b', n, cap, cur, e1, e2, e3, r⟩
      · exact .inl h1
      · have hne : b' ≠ b := by rintro rfl; rw [hh] at e3; cases e3
        exact .inr ⟨b', n, cap, cur, e1, e2, by rw [other b' hne]; exact e3, r⟩
  unfold Oper.wp
  rcases findNow_spec hkk en.toList es 0 hl hall with ⟨j, y, h1, h2, e, h3, h4, h5⟩ | ⟨h1, h2, h3⟩
  · have hfk : (Instr.findKey kt k en.toList).run P w = .ok (some (0 + j, y.val)) w := by
      simp only [Instr.findKey, Sem.run_bind, run_underlying hu, Result.andThen_ok, h2, Sem.run_pure]
    have hen : en[0 + j]? = some e := by simpa using h3
    have hek : keyOk (kindT P kt) e.key = true := by
      have hjl := congrArg (fun l => l[j]?) hl
      simp only [List.getElem?_map, h3, Option.map_some] at hjl
      cases hes' : es[j]? with
      | none => rw [hes'] at hjl; cases hjl
      | some p =>
        rw [hes'] at hjl
        simp only [Option.map_some, Option.some.injEq, Prod.mk.injEq] at hjl
        rw [hjl.1]; exact hall p (List.mem_of_getElem? hes')
    have hstay : (Instr.keyThatStays e.key k).run P w = .ok k w := by
      simp [Instr.keyThatStays, sameBits_key hek hkk h4]
    have hrun : (execOp a.eval o).run P w = .ok .skip { w with heap := w.heap.setIfInBounds b (.map (en.modify (0 + j) fun e => { e with key := k, val := x.val }) cl) } := by
      simp only [execOp, ho, hv1, hv2, hv3, Instr.mapUpdate, Sem.run_bind, run_underlying (kind_mp hk), Result.andThen_ok, hget, run_checkKeyA hkk, hfk, hen, Option.map_some, Option.getD_some, hstay, hset, Sem.run_pure]
    rw [hrun]
    simp only [Oper.upon, hdst]
    refine hK' _ _ ⟨_, h, fin _ _ ?_ (Go.MapKept.stamped_modify hst _ _ (fun _ _ => rfl) (fun e' _ he' => ?_))⟩
    rotate_left
    · rw [hen] at he'
      obtain rfl := Option.some.inj he'
      exact (keyEq_eq hek hkk h4).symm
    rw [(h5 x).1]
    apply List.ext_getElem?
    intro i
    have hli := congrArg (fun l => l[i]?) hl
    simp only [List.getElem?_map] at hli ⊢
    simp only [Nat.zero_add, Array.toList_modify, List.getElem?_modify, List.getElem?_set]
    by_cases hij : j = i
    · subst hij
      simp [h3, (h5 x).2]
    · simpa [hij] using hli
  · have hfk : (Instr.findKey kt k en.toList).run P w = .ok none w := by
      simp only [Instr.findKey, Sem.run_bind, run_underlying hu, Result.andThen_ok, h2, Sem.run_pure]
    have hrun : (execOp a.eval o).run P w = .ok .skip { w with heap := w.heap.setIfInBounds b (.map (en.push { key := k, val := x.val, born := cl }) (cl + 1)) } := by
      simp only [execOp, ho, hv1, hv2, hv3, Instr.mapUpdate, Sem.run_bind, run_underlying (kind_mp hk), Result.andThen_ok, hget, run_checkKeyA hkk, hfk, hset, Sem.run_pure]
    rw [hrun]
    simp only [Oper.upon, hdst]
    refine hK' _ _ ⟨_, h, fin _ _ ?_ (Go.MapKept.stamped_push hst (fun e' he' => ?_))⟩
    rotate_left
    · rintro rfl
      have hm2 : (e'.key, e'.val) ∈ es.map (fun p => (p.1, p.2.val)) := by
        rw [← hl]; exact List.mem_map_of_mem (f := fun e : MapEntry => (e.key, e.val)) he'
      obtain ⟨p, hp, hpe⟩ := List.mem_map.1 hm2
      simp only [Prod.mk.injEq] at hpe
      have h9 := mfind_none h1 p hp
      rw [hpe.1, keyEq_self hkk] at h9
      cases h9
    rw [h3 x]
    simp [hl]
end
end Go.AL
/- Slicing, new slices, lengths. -/
set_option linter.unusedVariables false
set_option linter.unusedSimpArgs false
namespace Go.AL
section
variable {P : Program}

/-- An optional bound. -/
def bndK (st : St) (o : Option Operand) (d : Int) (K : Int → Prop) : Prop :=
  match o with
  | none => K d
  | some x => match st.ev x with
    | some (.v (.int _ i)) => K i
    | _ => False

theorem bndK_elim {st : St} {o : Option Operand} {d : Int} {K : Int → Prop} (h : bndK st o d K) : ∃ i, K i ∧ ((o = none ∧ i = d) ∨ ∃ x k, o = some x ∧ st.ev x = some (.v (.int k i))) := by
  unfold bndK at h
  split at h
  · exact ⟨d, h, .inl ⟨rfl, rfl⟩⟩
  · rename_i x
    split at h
    · rename_i k i hx; exact ⟨i, h, .inr ⟨x, k, rfl, hx⟩⟩
    · exact h.elim

/-- A part of a raw slice. -/
def rawSl (a : Option Addr) (sz : Nat) (lo hi mx : Int) : AV := .v (.slice (if mx.toNat = lo.toNat then a else a.map (·.add (lo.toNat * sz))) (hi.toNat - lo.toNat) (mx.toNat - lo.toNat))
def withN (o : Option Nat) (K : Nat → Prop) : Prop := match o with | some n => K n | none => False
theorem withN_elim {o : Option Nat} {K : Nat → Prop} (h : withN o K) : ∃ n, o = some n ∧ K n := by cases o with | none => exact h.elim | some n => exact ⟨n, rfl, h⟩

def sliceK (P : Program) (o : Oper) (t : TypeId) (x : Operand) (l h m : Option Operand) (K : St → Prop) (st : St) : Prop :=
  withAV (st.ev x) fun a => match kindT P t, a with
  | .s, .v (.string s) => m = none ∧ dstOk st o.dst ∧ bndK st h s.size fun hi => bndK st l 0 fun lo => 0 ≤ lo ∧ lo ≤ hi ∧ hi ≤ s.size ∧ K (st.putO o.dst (.v (.string (s.extract lo.toNat hi.toNat))))
  | .sl e, .lst sz hd xs => szT P e = some sz ∧ dstOk st o.dst ∧ bndK st h xs.length fun hi => bndK st l 0 fun lo => 0 ≤ lo ∧ lo ≤ hi ∧ hi ≤ xs.length ∧
    (match m with
    | none => ∀ a' c', K (st.putO o.dst (.lst sz (.slice a' (hi.toNat - lo.toNat) c') ((xs.take hi.toNat).drop lo.toNat)))
    | some _ => h ≠ none ∧ bndK st m 0 fun mx => hi ≤ mx ∧ mx ≤ xs.length ∧ ∀ a', K (st.putO o.dst (.lst sz (.slice a' (hi.toNat - lo.toNat) (mx.toNat - lo.toNat)) ((xs.take hi.toNat).drop lo.toNat))))
  | .sl e, .v (.slice a n c) => withN (szT P e) fun sz => dstOk st o.dst ∧ bndK st h n fun hi => bndK st l 0 fun lo => 0 ≤ lo ∧ lo ≤ hi ∧
    (match m with
    | none => hi ≤ c ∧ K (st.putO o.dst (rawSl a sz lo hi c))
    | some _ => h ≠ none ∧ bndK st m 0 fun mx => hi ≤ mx ∧ mx ≤ c ∧ K (st.putO o.dst (rawSl a sz lo hi mx)))
  | _, _ => False

theorem run_bound {w : World} {k : IntKind} {i : Int} {y : Nat} {c : BoundsCode} (h0 : 0 ≤ i) (h1 : i ≤ y) : (Instr.sliceBound (.int k i) y c).run P w = .ok i.toNat w := by
  simp [Instr.sliceBound, asIntOf, h0, h1]

theorem run_asIntOf {w : World} {k : IntKind} {i : Int} : (asIntOf (.int k i)).run P w = .ok (k, i) w := rfl

theorem run_bounds {w : World} {st : St} {F : Fr} {a : Act} (hr : Rel F st a w) {isS : Bool} {len cap : Nat} {l h m : Option Operand} {lo hi mx : Int}
    (hl : (l = none ∧ lo = 0) ∨ ∃ x k, l = some x ∧ st.ev x = some (.v (.int k lo))) (hh : (h = none ∧ hi = len) ∨ ∃ x k, h = some x ∧ st.ev x = some (.v (.int k hi)))
    (hm : (m = none ∧ mx = cap) ∨ (h ≠ none ∧ ∃ x k, m = some x ∧ st.ev x = some (.v (.int k mx)))) (h0 : 0 ≤ lo) (h1 : lo ≤ hi) (h2 : hi ≤ mx) (h3 : mx ≤ cap) :
    (Instr.sliceBounds isS len cap (l.map a.eval) (h.map a.eval) (m.map a.eval)).run P w = .ok (lo.toNat, hi.toNat, mx.toNat) w := by
  have t1 : ∀ {c : BoundsCode} {k : IntKind}, (Instr.sliceBound (.int k mx) cap c).run P w = .ok mx.toNat w := run_bound (by omega) (by omega)
  have t2 : ∀ {c : BoundsCode} {k : IntKind}, (Instr.sliceBound (.int k hi) mx.toNat c).run P w = .ok hi.toNat w := run_bound (by omega) (by omega)
  have t2' : ∀ {c : BoundsCode} {k : IntKind}, (Instr.sliceBound (.int k hi) cap c).run P w = .ok hi.toNat w := run_bound (by omega) (by omega)
  have t3 : ∀ {c : BoundsCode} {k : IntKind}, (Instr.sliceBound (.int k lo) hi.toNat c).run P w = .ok lo.toNat w := run_bound (by omega) (by omega)
  rcases hm with ⟨rfl, rfl⟩ | ⟨hne, xm, km, rfl, hxm⟩
  · rcases hh with ⟨rfl, rfl⟩ | ⟨xh, kh, rfl, hxh⟩
    · rcases hl with ⟨rfl, rfl⟩ | ⟨xl, kl, rfl, hxl⟩
      · simp [Instr.sliceBounds]
      · have e3 := hr.eval hxl
        simp only [AV.val] at e3
        have t3' : ∀ {c : BoundsCode} {k : IntKind}, (Instr.sliceBound (.int k lo) len c).run P w = .ok lo.toNat w := run_bound (by omega) (by omega)
        simp [Instr.sliceBounds, e3, t3']
    · have e2 := hr.eval hxh
      simp only [AV.val] at e2
      rcases hl with ⟨rfl, rfl⟩ | ⟨xl, kl, rfl, hxl⟩
      · simp [Instr.sliceBounds, e2, t2']
      · have e3 := hr.eval hxl
        simp only [AV.val] at e3
        simp [Instr.sliceBounds, e2, e3, t2', t3]
  · have e1 := hr.eval hxm
    simp only [AV.val] at e1
    rcases hh with ⟨rfl, _⟩ | ⟨xh, kh, rfl, hxh⟩
    · exact absurd rfl hne
    · have e2 := hr.eval hxh
      simp only [AV.val] at e2
      rcases hl with ⟨rfl, rfl⟩ | ⟨xl, kl, rfl, hxl⟩
      · simp [Instr.sliceBounds, e1, e2, t1, t2]
      · have e3 := hr.eval hxl
        simp only [AV.val] at e3
        simp [Instr.sliceBounds, e1, e2, e3, t1, t2, t3]

theorem hdr_slice {m : Mem} {sz n cap : Nat} {a : Option Addr} {vs : List Value} {lo hi mx : Nat} (h : Hdr m sz (.slice a vs.length cap) vs) (h1 : lo ≤ hi) (h2 : hi ≤ vs.length) (h3 : hi ≤ mx) (h4 : mx ≤ cap) :
    Hdr m sz (.slice (if mx = lo then a else a.map (·.add (lo * sz))) (hi - lo) (mx - lo)) ((vs.take hi).drop lo) := by
  obtain ⟨a', cap', e1, e2, e3, e4, e5⟩ := h
  simp only [Value.slice.injEq] at e1
  obtain ⟨rfl, -, rfl⟩ := e1
  have hlen : ((vs.take hi).drop lo).length = hi - lo := by simp; omega
  refine ⟨_, _, by rw [hlen], by rw [hlen]; omega, by omega, fun v hv => e4 v (List.mem_of_mem_take (List.mem_of_mem_drop hv)), fun hne => ?_⟩
  have hlt : lo < hi := by
    rcases Nat.lt_or_ge lo hi with h | h
    · exact h
    · exact absurd (List.eq_nil_of_length_eq_zero (by rw [hlen]; omega)) hne
  obtain ⟨b, off, rfl, hr⟩ := e5 (by intro h; subst h; simp at h2; omega)
  refine ⟨b, off + lo * sz, ?_, fun i v hv j x hx => ?_⟩
  · rw [if_neg (by omega)]; simp [addr_add]
  · rw [List.getElem?_drop, List.getElem?_take] at hv
    split at hv
    · have := hr (lo + i) v hv j x hx
      rw [show off + lo * sz + i * sz + j = off + (lo + i) * sz + j by rw [Nat.add_mul]; omega]
      exact this
    · cases hv

theorem aop_slice {o : Oper} {t : TypeId} {x : Operand} {l h m : Option Operand} (ho : o.op = .slice t x l h m) {K : St → Prop} {st : St} (hk : sliceK P o t x l h m K st) : AOp P o K st := by
  intro F ac w hr K' Q hK'
  obtain ⟨mm, hm⟩ := hr.ex
  obtain ⟨a, ha, hk⟩ := withAV_elim hk
  have hv := hr.eval ha
  split at hk
  · rename_i s hkt
    obtain ⟨rfl, hd, hk⟩ := hk
    obtain ⟨hi, hk, bh⟩ := bndK_elim hk
    obtain ⟨lo, hk, bl⟩ := bndK_elim hk
    obtain ⟨h0, h1, h2, hk⟩ := hk
    have hb := run_bounds (P := P) hr (isS := false) (cap := s.size) bl bh (.inl ⟨rfl, rfl⟩ : (none = none ∧ ((s.size : Nat) : Int) = ((s.size : Nat) : Int)) ∨ _) h0 h1 h2 (by omega)
    have hu := kind_s hkt
    simp only [AV.val] at hv
    have hrun : (execOp ac.eval o).run P w = .ok (.value (.string (s.extract lo.toNat hi.toNat))) w := by
      simp only [Option.map_none] at hb
      simp only [execOp, ho, hv, Instr.sliceAt, Instr.slice, Sem.run_bind, run_underlying hu, Result.andThen_ok, Option.map_none, Option.isSome_none, Bool.false_eq_true, if_false, hb, Sem.run_pure, Value.string.injEq]
    unfold Oper.wp
    rw [hrun]
    exact hK' _ _ ⟨_, hk, hr.putM hm hd (x := .v (.string (s.extract lo.toNat hi.toNat))) trivial⟩
  · rename_i e sz hd xs hkt
    obtain ⟨hsz, hd', hk⟩ := hk
    obtain ⟨hi, hk, bh⟩ := bndK_elim hk
    obtain ⟨lo, hk, bl⟩ := bndK_elim hk
    obtain ⟨h0, h1, h2, hk⟩ := hk
    have hu := kind_sl hkt
    have hok := hm.ok ha
    obtain ⟨hhdr, hoks⟩ := hok
    have hhdr' := hhdr
    obtain ⟨a', cap, rfl, e2, e3, e4, e5⟩ := hhdr'
    simp only [AV.vals_length] at e2
    have hoks' : AV.oks mm ((xs.take hi.toNat).drop lo.toNat) := AV.oks_drop _ (AV.oks_take _ hoks)
    have hvals : AV.vals ((xs.take hi.toNat).drop lo.toNat) = ((AV.vals xs).take hi.toNat).drop lo.toNat := by rw [AV.vals_drop, AV.vals_take]
    simp only [AV.val] at hv
    have core : ∀ mx : Int, ((m = none ∧ mx = cap) ∨ (h ≠ none ∧ ∃ x k, m = some x ∧ st.ev x = some (.v (.int k mx)))) → hi ≤ mx → mx ≤ cap →
        (K (st.putO o.dst (.lst sz (.slice (if mx.toNat = lo.toNat then a' else a'.map (·.add (lo.toNat * sz))) (hi.toNat - lo.toNat) (mx.toNat - lo.toNat)) ((xs.take hi.toNat).drop lo.toNat)))) → o.wp P ac w K' Q := by
      intro mx bm h3 h4 hk
      have hb := run_bounds (P := P) hr (isS := true) (len := xs.length) (cap := cap) bl bh bm h0 h1 h3 h4
      have hh := hdr_slice (n := 0) (lo := lo.toNat) (hi := hi.toNat) (mx := mx.toNat) hhdr (by omega) (by rw [AV.vals_length]; omega) (by omega) (by omega)
      rw [← hvals] at hh
      have hrun : (execOp ac.eval o).run P w = .ok (.value (.slice (if mx.toNat = lo.toNat then a' else a'.map (·.add (lo.toNat * sz))) (hi.toNat - lo.toNat) (mx.toNat - lo.toNat))) w := by
        simp only [AV.vals_length] at hv
        simp only [execOp, ho, hv, Instr.sliceAt, Instr.slice, Sem.run_bind, run_underlying hu, Result.andThen_ok, hb, run_sizeOf' hsz, Sem.run_pure]
      unfold Oper.wp
      rw [hrun]
      exact hK' _ _ ⟨_, hk, hr.putM hm hd' (x := .lst sz _ _) ⟨hh, hoks'⟩⟩
    split at hk
    · exact core cap (.inl ⟨rfl, rfl⟩) (by omega) (Int.le_refl _) (hk _ _)
    · rename_i mo
      obtain ⟨hne, hk⟩ := hk
      obtain ⟨mx, hk, bm⟩ := bndK_elim hk
      obtain ⟨h3, h4, hk⟩ := hk
      refine core mx (.inr ⟨hne, ?_⟩) h3 (by omega) (hk _)
      rcases bm with ⟨h, _⟩ | ⟨x', k', e, hx⟩
      · cases h
      · exact ⟨x', k', e, hx⟩
  · rename_i e a n c hkt
    obtain ⟨sz, hsz, hk⟩ := withN_elim hk
    obtain ⟨hd', hk⟩ := hk
    obtain ⟨hi, hk, bh⟩ := bndK_elim hk
    obtain ⟨lo, hk, bl⟩ := bndK_elim hk
    obtain ⟨h0, h1, hk⟩ := hk
    have hu := kind_sl hkt
    simp only [AV.val] at hv
    have core : ∀ mx : Int, ((m = none ∧ mx = c) ∨ (h ≠ none ∧ ∃ x k, m = some x ∧ st.ev x = some (.v (.int k mx)))) → hi ≤ mx → mx ≤ c → K (st.putO o.dst (rawSl a sz lo hi mx)) → o.wp P ac w K' Q := by
      intro mx bm h3 h4 hk
      have hb := run_bounds (P := P) hr (isS := true) (len := n) (cap := c) bl bh bm h0 h1 h3 h4
      have hrun : (execOp ac.eval o).run P w = .ok (.value (.slice (if mx.toNat = lo.toNat then a else a.map (·.add (lo.toNat * sz))) (hi.toNat - lo.toNat) (mx.toNat - lo.toNat))) w := by
        simp only [execOp, ho, hv, Instr.sliceAt, Instr.slice, Sem.run_bind, run_underlying hu, Result.andThen_ok, hb, run_sizeOf' hsz, Sem.run_pure]
      unfold Oper.wp
      rw [hrun]
      exact hK' _ _ ⟨_, hk, hr.putM hm hd' (x := rawSl a sz lo hi mx) trivial⟩
    split at hk
    · exact core c (.inl ⟨rfl, rfl⟩) hk.1 (Int.le_refl _) hk.2
    · rename_i mo
      obtain ⟨hne, hk⟩ := hk
      obtain ⟨mx, hk, bm⟩ := bndK_elim hk
      obtain ⟨h3, h4, hk⟩ := hk
      refine core mx (.inr ⟨hne, ?_⟩) h3 h4 hk
      rcases bm with ⟨h, _⟩ | ⟨x', k', e, hx⟩
      · cases h
      · exact ⟨x', k', e, hx⟩
  · exact hk.elim

/-! ### New slices: a block that is tracked -/
def mkSlK (P : Program) (o : Oper) (t : TypeId) (n c : Operand) (K : St → Prop) (st : St) : Prop :=
  match kindT P t, st.ev n, st.ev c with
  | .sl e, some (.v (.int _ n)), some (.v (.int _ c)) => (match szT P e, zeroT P e, bytesT P e with
    | some sz, some z, some by_ => z.cells.size = sz ∧ 0 ≤ n ∧ n ≤ c ∧ c ≤ maxLen ∧ c * by_ ≤ 140737488355328 ∧ dstOk st o.dst ∧
      ∀ b, Fresh st.hp b → K ((st.setHp (st.hp.setBlk b e ((List.replicate c.toNat z.cells.toList).flatten.map AV.v))).putO o.dst (.v (.slice (some ⟨b, 0, none⟩) n.toNat c.toNat)))
    | _, _, _ => False)
  | _, _, _ => False

theorem zero_cells {zs : Array Value} {sz : Nat} (h : zs.size = sz) : ∀ n, (Array.range (n * sz)).map (zs[· % sz]!) = ((List.replicate n zs.toList).flatten).toArray := by
  intro n
  apply Array.ext'
  simp only [Array.toList_map, Array.toList_range]
  induction n with
  | zero => simp
  | succ n ih =>
    rw [Nat.succ_mul, List.range_add, List.map_append, ih, List.replicate_succ', List.flatten_append, List.flatten_singleton]
    congr 1
    apply List.ext_getElem?
    intro i
    simp only [List.map_map, List.getElem?_map, Function.comp]
    rcases Nat.lt_or_ge i sz with hi | hi
    · rw [List.getElem?_range hi]
      have hm : (n * sz + i) % sz = i := by rw [Nat.mul_comm, Nat.mul_add_mod]; exact Nat.mod_eq_of_lt hi
      rw [Array.getElem?_toList, Array.getElem?_eq_getElem (by omega)]
      show some (zs[(n * sz + i) % sz]!) = _
      rw [hm, getElem!_pos zs i (by omega)]
    · rw [List.getElem?_eq_none (by simpa using hi), List.getElem?_eq_none (by simp; omega)]; rfl

theorem aop_mkSl {o : Oper} {t : TypeId} {n c : Operand} (ho : o.op = .makeSlice t n c) {K : St → Prop} {st : St} (hk : mkSlK P o t n c K st) : AOp P o K st := by
  intro F ac w hr K' Q hK'
  obtain ⟨mm, hm⟩ := hr.ex
  unfold mkSlK at hk
  split at hk
  · rename_i e kn n' kc c' hkt hn hc
    split at hk
    · rename_i sz z by_ hsz hz hby
      obtain ⟨hzs, h0, h1, h2, h3, hd, hk⟩ := hk
      obtain ⟨ie, hie, hsize⟩ := szT_info hsz
      have hzz : ie.zero = some z := by simpa [zeroT, hie] using hz
      have hbb : ie.bytes = by_ := by simpa [bytesT, hie] using hby
      subst hsize; subst hbb
      have hu := kind_sl hkt
      have en := hr.eval hn
      have ec := hr.eval hc
      simp only [AV.val] at en ec
      simp only [maxLen] at h2
      have wn : IntKind.i64.wrap n' = n' := IntWalk.i64_in _ (by omega)
      have wc : IntKind.i64.wrap c' = c' := IntWalk.i64_in _ (by omega)
      unfold Oper.wp
      have hmul : (ie.bytes : Int) * c' ≤ 140737488355328 := by
        rw [Int.mul_comm]
        exact h3
      have hmul' : c'.toNat * ie.bytes ≤ 140737488355328 := by
        have : ((c'.toNat * ie.bytes : Nat) : Int) ≤ 140737488355328 := by
          rw [Int.natCast_mul, Int.toNat_of_nonneg (by omega), Int.mul_comm]; exact hmul
        omega
      have hcond : ¬ ((c' < 0 ∨ (ie.bytes : Int) * c' > 2 ^ 48) ∨ n' < 0) := by
        have : (2 : Int) ^ 48 = 281474976710656 := by decide
        rw [this]; omega
      have hcells : ∀ w', (if c'.toNat * ie.size = 0 then (pure #[] : Sem (Array Value)) else do pure (← zeroValue e).cells).run P w' = .ok (if c'.toNat * ie.size = 0 then #[] else z.cells) w' := by
        intro w'
        split
        · rfl
        · simp only [Sem.run_bind, run_zero hz, Result.andThen_ok, Sem.run_pure]
      have harr : ((Array.range (c'.toNat * ie.size)).map ((if c'.toNat * ie.size = 0 then #[] else z.cells)[· % (if c'.toNat * ie.size = 0 then #[] else z.cells).size]!)) = ((List.replicate c'.toNat z.cells.toList).flatten).toArray := by
        split
        · rename_i h
          rw [h]
          rcases Nat.mul_eq_zero.1 h with h | h
          · rw [h]; simp
          · have : z.cells.toList = [] := List.eq_nil_of_length_eq_zero (by rw [Array.length_toList]; omega)
            rw [this]; simp
        · rw [hzs]; exact zero_cells hzs _
      have hrun : (execOp ac.eval o).run P w = .ok (.value (.slice (some ⟨w.heap.size, 0, none⟩) n'.toNat c'.toNat)) (w.alloc (.cells ((List.replicate c'.toNat z.cells.toList).flatten).toArray e)) := by
        have ask : (askRoom (c'.toNat * ie.bytes)).run P w = .ok () w := by
          have hr : ¬ (c'.toNat * ie.bytes > roomBytes) := by show ¬ (_ > 2 ^ 47); omega
          unfold askRoom; rw [if_neg hr]; rfl
        have hle : ¬ (n' > c') := by omega
        have hti : (typeInfo e).run P w = .ok ie w := by simp [typeInfo, hie]
        have hcond' : ((decide (c' < 0) || decide ((ie.bytes : Int) * c' > 2 ^ 48)) || decide (n' < 0) || decide (n' > c')) = false := by
          simp only [Bool.or_eq_false_iff, decide_eq_false_iff_not]
          exact ⟨⟨⟨fun h => hcond (.inl (.inl h)), fun h => hcond (.inl (.inr h))⟩, fun h => hcond (.inr h)⟩, hle⟩
        simp only [execOp, ho, en, ec, Instr.makeSlice, Sem.run_bind, run_underlying hu, Result.andThen_ok, asInt, run_asIntOf, Sem.run_pure, hti, wn, wc]
        rw [if_neg (by rw [hcond']; exact Bool.false_ne_true)]
        by_cases hz0 : c'.toNat * ie.size = 0
        · rw [if_pos hz0] at harr
          simp only [Sem.run_bind, Sem.run_pure, Result.andThen_ok, ask, run_sizeOf' hsz, hz0, if_true]
          rw [hz0] at harr
          simp only [harr]
          rfl
        · rw [if_neg hz0] at harr
          simp only [Sem.run_bind, Sem.run_pure, Result.andThen_ok, ask, run_sizeOf' hsz, hz0, if_false, run_zero hz]
          simp only [harr]
          rfl
      rw [hrun]
      have hn := hm.hp.setNew hr.lo.bs (T := e) (cs := ((List.replicate c'.toNat z.cells.toList).flatten).map AV.v) (map_v_oks _ _)
      rw [map_v_vals] at hn
      exact hK' _ _ ⟨_, hk _ hm.hp.fresh.1, hr.close hm (hr.lo.alloc _) (Mem.le_refl mm) hn hd (x := .v (.slice (some ⟨w.heap.size, 0, none⟩) n'.toNat c'.toNat)) trivial⟩
    · exact hk.elim
  · exact hk.elim
end
end Go.AL
/- Symbolic execution as one function into Prop, and that it is sound. -/
set_option linter.unusedVariables false
namespace Go.AL
section
variable {P : Program}

/-- A branch: neither side is looked into before the test is decided. -/
def brK (b : Bool) (A B : Prop) (_ : Fix (A ∧ B)) : Prop := if b = true then A else B
@[go_sem ↓] theorem brK_true (A B : Prop) (d : Fix (A ∧ B)) : brK true A B d = A := rfl
@[go_sem ↓] theorem brK_false (A B : Prop) (d : Fix (A ∧ B)) : brK false A B d = B := rfl
@[go_sem] theorem brK_true' (A B : Prop) (d : Fix (A ∧ B)) : brK true A B d = A := rfl
@[go_sem] theorem brK_false' (A B : Prop) (d : Fix (A ∧ B)) : brK false A B d = B := rfl
@[go_sem ↓] theorem brK_not (b : Bool) (A B : Prop) (d : Fix (A ∧ B)) : brK (!b) A B d = brK b B A ⟨⟩ := by cases b <;> rfl
@[go_sem] theorem brK_not' (b : Bool) (A B : Prop) (d : Fix (A ∧ B)) : brK (!b) A B d = brK b B A ⟨⟩ := by cases b <;> rfl
theorem brK_mk {b : Bool} {A B : Prop} {d : Fix (A ∧ B)} (h1 : b = true → A) (h2 : b = false → B) : brK b A B d := by
  cases b
  · exact h2 rfl
  · exact h1 rfl

/-- A loop, or a region that draws its order. -/
def awpX (P : Program) (c : Code) (Q : Exit → St → Prop) (st : St) (_ : Fix c) (_ : Fix Q) : Prop := AWp P c Q st
/-- An operation that wants a law of its own. -/
def aopX (P : Program) (o : Oper) (K : St → Prop) (st : St) (_ : Fix o) (_ : Fix K) : Prop := AOp P o K st

def pop2 (P : Program) (st : St) (op : Op) (K : AV → Prop) : Prop :=
  match op with
  | .lookup t m k ok => withAV (st.ev m) fun a => withAV (st.ev k) fun b => lookupK P st.hp t a b ok K
  | op => pop P st op K

theorem pop2_sound {st : St} {op : Op} {K : AV → Prop} (h : pop2 P st op K) : ∃ x, K x ∧ Yields P st op x := by
  unfold pop2 at h
  split at h
  · obtain ⟨a, ha, hK⟩ := withAV_elim h
    obtain ⟨b, hb, hK⟩ := withAV_elim hK
    exact lookupK_sound ha hb hK
  · exact pop_sound h

theorem aop_pure2 {o : Oper} {K : St → Prop} {st : St} (h : pop2 P st o.op fun x => dstOk st o.dst ∧ K (st.putO o.dst x)) : AOp P o K st := by
  obtain ⟨x, ⟨hd, hK⟩, hy⟩ := pop2_sound h
  intro F a w hr K' Q hK'
  obtain ⟨m, hm⟩ := hr.ex
  obtain ⟨h1, h2⟩ := hy F a w m hr hm
  unfold Oper.wp
  rw [h1 o rfl]
  exact hK' _ _ ⟨_, hK, hr.putM hm hd h2⟩

def storeK (P : Program) (mu : List Nat) (o : Oper) (t : TypeId) (p x : Operand) (K : St → Prop) (st : St) : Prop :=
  o.dst = none ∧ match st.ev p, st.ev x with
  | some (.v (.pointer (some ⟨b, off, none⟩))), some y => (match st.hp.blk b, szT P t with
    | some (T, cs), some n => n = y.cells.length ∧ y.cells.all AV.one = true ∧
      (match p with
      | .tmp pn => if mu.contains pn = true then (off + y.cells.length ≤ cs.length ∧ K (st.setHp (st.hp.setBlk b T (splice cs off y.cells))))
          else if (off == 0 && y.cells.length == cs.length) = true then K ((st.setHp (st.hp.delBlk b)).put pn (.ref (.pointer (some ⟨b, 0, none⟩)) y.cells)) else (off + y.cells.length ≤ cs.length ∧ K (st.setHp (st.hp.setBlk b T (splice cs off y.cells))))
      | _ => off + y.cells.length ≤ cs.length ∧ K (st.setHp (st.hp.setBlk b T (splice cs off y.cells))))
    | _, _ => False)
  | _, _ => False

def buildK (P : Program) (o : Oper) (t : TypeId) (parts : Array (Nat × Operand)) (K : St → Prop) (st : St) : Prop :=
  match kindT P t, zeroT P t, evParts st parts.toList with
  | .st fs, some z, some xs => fs.all (fun f => (szT P f.2.1).isSome) = true ∧ (match fillA (fun i => (fs[i]?).map fun f => (f.1, f.2.2)) (z.cells.toList.map AV.v) xs with
    | some cells => dstOk st o.dst ∧ K (st.putO o.dst (.agg cells))
    | none => False)
  | .ar _ e, some z, some xs => (match szT P e with
    | some n => (match fillA (fun i => some (i * n, n)) (z.cells.toList.map AV.v) xs with
      | some cells => dstOk st o.dst ∧ K (st.putO o.dst (.agg cells))
      | none => False)
    | none => False)
  | _, _, _ => False

def litK (P : Program) (o : Oper) (t : TypeId) (len : Nat) (parts : Array (Nat × Operand)) (K : St → Prop) (st : St) : Prop :=
  match kindT P t with
  | .sl e => (match szT P e, zeroT P e, evs st (parts.map (·.2)) with
    | some sz, some z, some xs => z.cells.size = sz ∧ 0 < sz ∧ parts.toList.map (·.1) = List.range len ∧ len * sz ≤ 16777216 ∧ (∀ x ∈ xs, x.cells.length = sz) ∧ dstOk st o.dst ∧
      if len = 0 then (∀ b : Nat, K ((st.setHp (st.hp.setSp ((e, sz, .slice (some ⟨b, 0, none⟩) 0 0) :: st.hp.sp))).putO o.dst (.lst sz (.slice (some ⟨b, 0, none⟩) 0 0) xs)))
      else ∀ hd', K ((st.setHp (st.hp.setSp ((e, sz, hd') :: st.hp.sp))).putO o.dst (.lst sz hd' xs))
    | _, _, _ => False)
  | _ => False

/-- A literal whose row stays tracked. -/
def litBK (P : Program) (o : Oper) (t : TypeId) (len : Nat) (parts : Array (Nat × Operand)) (K : St → Prop) (st : St) : Prop :=
  match kindT P t with
  | .sl e => (match szT P e, zeroT P e, evs st (parts.map (·.2)) with
    | some sz, some z, some xs => z.cells.size = sz ∧ 0 < sz ∧ parts.toList.map (·.1) = List.range len ∧ len * sz ≤ 16777216 ∧ (∀ x ∈ xs, x.cells.length = sz) ∧ dstOk st o.dst ∧
      ∀ b : Nat, Fresh st.hp b → K ((st.setHp (st.hp.setBlk b e (xs.flatMap AV.cells))).putO o.dst (.v (.slice (some ⟨b, 0, none⟩) len len)))
    | _, _, _ => False)
  | _ => False
def litM (P : Program) (m : Bool) (o : Oper) (t : TypeId) (len : Nat) (parts : Array (Nat × Operand)) (K : St → Prop) (st : St) : Prop := if m = true then litBK P o t len parts K st else litK P o t len parts K st

def mapUpdK (P : Program) (o : Oper) (t : TypeId) (mo ko xo : Operand) (K : St → Prop) (st : St) : Prop :=
  o.dst = none ∧ match kindT P t, st.ev mo, st.ev ko, st.ev xo with
  | .mp kt _, some (.v (.map (some b))), some (.v k), some x => (match st.hp.mp b with
    | some es => keyOk (kindT P kt) k = true ∧ (∀ p ∈ es, keyOk (kindT P kt) p.1 = true) ∧ K (st.setHp (st.hp.setMp b (mset k x es)))
    | none => False)
  | _, _, _, _ => False

def boxK (mu : List Nat) (o : Oper) (t : TypeId) (x : Operand) (K : St → Prop) (st : St) : Prop :=
  withAV (st.ev x) fun y => dstOk st o.dst ∧ if mu.contains (o.dst.getD 0) = true then (∀ b, Fresh st.hp b → K ((st.setHp (st.hp.setBlk b t y.cells)).putO o.dst (.v (.pointer (some ⟨b, 0, none⟩)))))
    else ∀ p, K (st.putO o.dst (.ref p y.cells))

def allocK (P : Program) (o : Oper) (t : TypeId) (K : St → Prop) (st : St) : Prop :=
  match zeroT P t with
  | some z => dstOk st o.dst ∧ ∀ b, Fresh st.hp b → K ((st.setHp (st.hp.setBlk b t (z.cells.toList.map AV.v))).putO o.dst (.v (.pointer (some ⟨b, 0, none⟩))))
  | none => False

def ccallK (P : Program) (o : Oper) (c : Call) (K : St → Prop) (st : St) : Prop :=
  match c.callee with
  | .value f => aval P o f c.args K st
  | .builtin .len => pop P st (.call c) fun x => dstOk st o.dst ∧ K (st.putO o.dst x)
  | _ => aopX P o K st ⟨⟩ ⟨⟩

def aopK (P : Program) (mu : List Nat) (o : Oper) (K : St → Prop) (st : St) : Prop :=
  match o.op with
  | .alloc t => allocK P o t K st
  | .box t x => boxK mu o t x K st
  | .store t p x => storeK P mu o t p x K st
  | .build t parts => buildK P o t parts K st
  | .buildSlice t len parts => litM P (mu.contains (o.dst.getD 0)) o t len parts K st
  | .makeMap t none => (dstOk st o.dst ∧ ∀ b, Fresh st.hp b → K ((st.setHp (st.hp.setMp b [])).putO o.dst (.v (.map (some b)))))
  | .mapUpdate t m k x => mapUpdK P o t m k x K st
  | .insert t m k x => mapUpdK P o t m k x K st
  | .call c => ccallK P o c K st
  | .move x => withAV (st.ev x) fun x => dstOk st o.dst ∧ K (st.putO o.dst x)
  | .assign x => withAV (st.ev x) fun x => dstOk st o.dst ∧ K (st.putO o.dst x)
  | .slice t x l h m => sliceK P o t x l h m K st
  | .makeSlice t n c => mkSlK P o t n c K st
  | .typeAssert _ _ _ _ => aopX P o K st ⟨⟩ ⟨⟩
  | .range _ _ => aopX P o K st ⟨⟩ ⟨⟩
  | .next _ _ => aopX P o K st ⟨⟩ ⟨⟩
  | op => pop2 P st op fun x => dstOk st o.dst ∧ K (st.putO o.dst x)

theorem aopK_sound {mu : List Nat} {o : Oper} {K : St → Prop} {st : St} (h : aopK P mu o K st) : AOp P o K st := by
  unfold aopK at h
  split at h
  · rename_i t ho
    unfold allocK at h
    split at h
    · rename_i z hz
      exact aop_alloc ho hz h.1 h.2
    · exact h.elim
  · rename_i t x ho
    obtain ⟨y, hy, hd, h⟩ := withAV_elim h
    split at h
    · exact aop_box ho hy hd h
    · exact aop_boxP ho hy hd h
  · rename_i t p x ho
    obtain ⟨hdst, h⟩ := h
    split at h
    · rename_i b off y hp hx
      split at h
      · rename_i T cs n hb hn
        obtain ⟨rfl, hone, h⟩ := h
        split at h
        · rename_i pn
          split at h
          · exact aop_store ho hdst hp hx hb hn hone h.1 h.2
          · split at h
            · rename_i hc
              simp only [Bool.and_eq_true, beq_iff_eq] at hc
              obtain ⟨rfl, hfit⟩ := hc
              exact aop_storeP ho hdst hp hx hb hn hone hfit h
            · exact aop_store ho hdst hp hx hb hn hone h.1 h.2
        · exact aop_store ho hdst hp hx hb hn hone h.1 h.2
      · exact h.elim
    · exact h.elim
  · rename_i t parts ho
    unfold buildK at h
    split at h
    · rename_i fs z xs hk hz hxs
      obtain ⟨hsz, h⟩ := h
      split at h
      · rename_i cells hf
        exact aop_build ho hk hz hxs hsz hf h.1 h.2
      · exact h.elim
    · rename_i len e z xs hk hz hxs
      split at h
      · rename_i n hn
        split at h
        · rename_i cells hf
          exact aop_buildA ho hk hz hn hxs hf h.1 h.2
        · exact h.elim
      · exact h.elim
    · exact h.elim
  · rename_i t len parts ho
    unfold litM at h
    split at h
    · unfold litBK at h
      split at h
      · rename_i e hk
        split at h
        · rename_i sz z xs hsz hz hxs
          obtain ⟨h1, h2, h3, h4, h5, h6, h7⟩ := h
          exact aop_litB ho hk hsz hz h1 h2 hxs h3 h4 h5 h6 h7
        · exact h.elim
      · exact h.elim
    unfold litK at h
    split at h
    · rename_i e hk
      split at h
      · rename_i sz z xs hsz hz hxs
        obtain ⟨h1, h2, h3, h4, h5, h6, h7⟩ := h
        refine aop_lit ho hk hsz hz h1 h2 hxs h3 h4 h5 h6 fun b => ?_
        split at h7
        · rename_i h0; subst h0; exact h7 b
        · exact h7 _
      · exact h.elim
    · exact h.elim
  · rename_i t ho; exact aop_makeMap ho h.1 h.2
  · rename_i t m k x ho
    obtain ⟨hdst, h⟩ := h
    split at h
    · rename_i kt et b k' x' hk hm hk' hx
      split at h
      · rename_i es hes
        exact aop_mapUpdate ho hdst hk hm hk' hx hes h.1 h.2.1 h.2.2
      · exact h.elim
    · exact h.elim
  · rename_i t m k x ho
    obtain ⟨hdst, h⟩ := h
    split at h
    · rename_i kt et b k' x' hk hm hk' hx
      split at h
      · rename_i es hes
        obtain ⟨d, op, ty, pos, aft, g⟩ := o
        simp only at ho hdst; subst ho; subst hdst
        intro F ac w hr K' Q hK'
        exact aop_mapUpdate (o := ⟨none, .mapUpdate t m k x, ty, pos, aft, g⟩) rfl rfl hk hm hk' hx hes h.1 h.2.1 h.2.2 F ac w hr K' Q hK'
      · exact h.elim
    · exact h.elim
  · rename_i c ho
    unfold ccallK at h
    split at h
    · rename_i f hc
      obtain ⟨callee, args, ts⟩ := c
      simp only at hc; subst hc
      exact aop_call ho h
    · have h' : pop P st o.op fun x => dstOk st o.dst ∧ K (st.putO o.dst x) := by rw [ho]; exact h
      exact aop_pure h'
    · exact h
  · rename_i x ho
    have h' : pop P st o.op fun x => dstOk st o.dst ∧ K (st.putO o.dst x) := by rw [ho]; exact h
    exact aop_pure h'
  · rename_i x ho
    have h' : pop P st o.op fun x => dstOk st o.dst ∧ K (st.putO o.dst x) := by rw [ho]; exact h
    exact aop_pure h'
  · rename_i t x l hi m ho; exact aop_slice ho h
  · rename_i t n c ho; exact aop_mkSl ho h
  · exact h
  · exact h
  · exact h
  · exact aop_pure2 h

/-- The operations of a region; 'ds' are their destinations. -/
def aopsK (P : Program) (mu : List Nat) (ds : List (Option Nat)) (K : St → Prop) : List Oper → St → Prop
  | [], st => K st
  | o :: rest, st => match o.guard with
    | none => aopK P mu o (aopsK P mu ds K rest) st
    | some (j, want) => (match (ds[j]?).bind id with
      | some d => (match st.sl d with
        | some (.v (.bool b)) => brK (b == want) (aopK P mu o (aopsK P mu ds K rest) st) (dstOk st o.dst ∧ aopsK P mu ds K rest (st.putO o.dst (.v undef))) ⟨⟩
        | some (.v (.tuple _)) => dstOk st o.dst ∧ aopsK P mu ds K rest (st.putO o.dst (.v undef))
        | _ => False)
      | none => False)


theorem aopsK_sound {mu : List Nat} {ops : Array Oper} {K : St → Prop} : ∀ (l : List Oper) (st : St), aopsK P mu (ops.toList.map (·.dst)) K l st → AList P ops l K st
  | [], st, h => al_nil h
  | o :: rest, st, h => by
    have dstj : ∀ (j d : Nat), (((ops.toList.map (fun o : Oper => o.dst))[j]?).bind id) = some d → (ops[j]?).bind (fun o : Oper => o.dst) = some d := by
      intro j d hd
      rw [List.getElem?_map] at hd
      cases hj : ops[j]? with
      | none => simp [hj] at hd
      | some o' => simp [hj] at hd ⊢; exact hd
    have mono : ∀ st, aopK P mu o (aopsK P mu (ops.toList.map (·.dst)) K rest) st → AOp P o (fun st => AList P ops rest K st) st := by
      intro st h F a w hr K' Q hK'
      exact aopK_sound h F a w hr K' Q (fun a' w' ⟨st', k, r⟩ => hK' a' w' ⟨st', aopsK_sound rest st' k, r⟩)
    unfold aopsK at h
    split at h
    · rename_i hg
      exact al_cons hg (mono st h)
    · rename_i j want hg
      split at h
      · rename_i d hd
        split at h
        · rename_i b hb
          by_cases hbw : b = want
          · subst hbw
            have h' : aopK P mu o (aopsK P mu (ops.toList.map (·.dst)) K rest) st := by simpa [brK] using h
            exact al_run hg (dstj j d hd) hb (mono st h')
          · have hne : (b == want) = false := by simpa using hbw
            rw [hne, brK_false] at h
            exact al_skip hg (dstj j d hd) hb (by simpa using hbw) h.1 (aopsK_sound rest _ h.2)
        · rename_i vs hb
          exact al_skip hg (dstj j d hd) hb (by simp) h.1 (aopsK_sound rest _ h.2)
        · exact h.elim
      · exact h.elim

/-- Code. -/
def awp (P : Program) (mu : List Nat) : Code → (Exit → St → Prop) → St → Prop
  | .skip, Q, st => Q .normal st
  | .seq x y, Q, st => awp P mu x (thenA (awp P mu y Q) Q) st
  | .cond c x y, Q, st => match st.ev c with
    | some (.v (.bool t)) => brK t (awp P mu x Q st) (awp P mu y Q st) ⟨⟩
    | _ => False
  | .block id c, Q, st => awp P mu c (inBlk id Q) st
  | .exit id, Q, st => Q (.exit id) st
  | .ret, Q, st => Q .ret st
  | .region id ops draw, Q, st => match draw with
    | false => aopsK P mu (ops.toList.map (·.dst)) (Q .normal) ops.toList st
    | true => awpX P (.region id ops true) Q st ⟨⟩ ⟨⟩
  | c, Q, st => awpX P c Q st ⟨⟩ ⟨⟩


theorem awp_sound {mu : List Nat} : ∀ (c : Code) (Q : Exit → St → Prop) (st : St), awp P mu c Q st → AWp P c Q st
  | .skip, Q, st, h => aw_skip h
  | .seq x y, Q, st, h => by
    refine aw_seq ((awp_sound x _ st h).mono ?_)
    intro e st' hq
    cases e with
    | normal => exact awp_sound y Q st' hq
    | _ => exact hq
  | .cond c x y, Q, st, h => by
    simp only [awp] at h
    split at h
    · rename_i t ht
      refine aw_cond ht ?_
      cases t
      · exact awp_sound y Q st h
      · exact awp_sound x Q st h
    · exact h.elim
  | .block id c, Q, st, h => aw_block (awp_sound c _ st h)
  | .exit id, Q, st, h => aw_exit h
  | .ret, Q, st, h => aw_ret h
  | .region id ops false, Q, st, h => by
    have := aw_region (id := id) (Q := Q) (aopsK_sound (ops := ops) ops.toList st h)
    simpa using this
  | .region id ops true, Q, st, h => h
  | .loop c, Q, st, h => h
  | .rangeFunc a b c d, Q, st, h => h
  | .scope c, Q, st, h => h
  | .label l, Q, st, h => h
  | .goto l, Q, st, h => h
  | .refuse s, Q, st, h => h
end
end Go.AL
