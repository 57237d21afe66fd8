/- The rules as equations for simp: calls, literals, stores, maps, the end of a function. -/
import Derived.Test.YtfdlfcafcjhpmaaCAL13
set_option linter.unusedVariables false
namespace Go.AL
section
variable {P : Program} {mu : List Nat} {K : St → Prop} {st : St}

def consO (a : Option AV) (l : Option (List AV)) : Option (List AV) := match a, l with | some x, some l => some (x :: l) | _, _ => none
@[go_sem] theorem consO_some (x : AV) (l : List AV) : consO (some x) (some l) = some (x :: l) := rfl
def evL (st : St) : List Operand → Option (List AV)
  | [] => some []
  | o :: l => consO (st.ev o) (evL st l)
@[go_sem] theorem evL_nil : evL st [] = some [] := rfl
@[go_sem] theorem evL_cons (o : Operand) (l : List Operand) : evL st (o :: l) = consO (st.ev o) (evL st l) := rfl
theorem evL_mapM : ∀ (l : List Operand), l.mapM st.ev = evL st l
  | [] => rfl
  | o :: l => by
    rw [List.mapM_cons, evL_mapM l, evL]
    cases st.ev o <;> cases evL st l <;> rfl
theorem evs_evL (l : List Operand) : evs st l.toArray = evL st l := by simp [evs, evL_mapM]

/-! ### Calls -/
def avalS (P : Program) (d : Option Nat) (fv : Option AV) (xs : Option (List AV)) (K : St → Prop) (st : St) (_ : Fix K) : Prop :=
  match fv, xs with
  | some fv, some xs => (match calleeOf fv with
    | some (k, a, b) => dstOk st d ∧ callX P k (a ++ xs ++ b) st.hp (fun r hp' => K ((st.setHp hp').putO d r)) ⟨⟩
    | none => False)
  | _, _ => False
@[go_sem ↓] theorem aval_S (o : Oper) (f : Operand) (l : List Operand) : aval P o f l.toArray K st = avalS P o.dst (st.ev f) (evL st l) K st ⟨⟩ := by
  simp only [aval, avalS, evs_evL]
  rfl
@[go_sem] theorem avalS_fun (d : Option Nat) (k : FuncId) (xs : List AV) (f : Fix K) : avalS P d (some (.v (.func (.func k) #[] #[]))) (some xs) K st f = (dstOk st d ∧ callX P k xs st.hp (fun r hp' => K ((st.setHp hp').putO d r)) ⟨⟩) := by
  simp only [avalS, calleeOf]; simp
@[go_sem] theorem avalS_fn (d : Option Nat) (k : FuncId) (a b xs : List AV) (f : Fix K) : avalS P d (some (.fn (.func k) a b)) (some xs) K st f = (dstOk st d ∧ callX P k (a ++ xs ++ b) st.hp (fun r hp' => K ((st.setHp hp').putO d r)) ⟨⟩) := rfl

/-! ### Literals -/
def consP (i : Nat) (a : Option AV) (l : Option (List (Nat × AV))) : Option (List (Nat × AV)) := match a, l with | some x, some l => some ((i, x) :: l) | _, _ => none
@[go_sem] theorem consP_some (i : Nat) (x : AV) (l : List (Nat × AV)) : consP i (some x) (some l) = some ((i, x) :: l) := rfl
def evP (st : St) : List (Nat × Operand) → Option (List (Nat × AV))
  | [] => some []
  | (i, o) :: l => consP i (st.ev o) (evP st l)
@[go_sem] theorem evP_nil : evP st [] = some [] := rfl
@[go_sem] theorem evP_cons (i : Nat) (o : Operand) (l : List (Nat × Operand)) : evP st ((i, o) :: l) = consP i (st.ev o) (evP st l) := rfl
theorem evParts_evP : ∀ (l : List (Nat × Operand)), evParts st l = evP st l
  | [] => rfl
  | (i, o) :: l => by
    have := evParts_evP l
    simp only [evParts] at this ⊢
    rw [List.mapM_cons, this, evP]
    cases st.ev o <;> cases evP st l <;> rfl

def buildS (P : Program) (d : Option Nat) (k : KT) (z : Option Value) (xs : Option (List (Nat × AV))) (K : St → Prop) (st : St) (_ : Fix K) : Prop :=
  match k, z, xs with
  | .st fs, some z, some xs => fs.all (fun f => (szT P f.2.1).isSome) = true ∧ (match fillA (fun i => (fs[i]?).map fun f => (f.1, f.2.2)) (z.cells.toList.map AV.v) xs with
    | some cells => dstOk st d ∧ K (st.putO d (.agg cells))
    | none => False)
  | .ar _ e, some z, some xs => (match szT P e with
    | some n => (match fillA (fun i => some (i * n, n)) (z.cells.toList.map AV.v) xs with
      | some cells => dstOk st d ∧ K (st.putO d (.agg cells))
      | none => False)
    | none => False)
  | _, _, _ => False
@[go_sem ↓] theorem buildK_S (o : Oper) (t : TypeId) (l : List (Nat × Operand)) : buildK P o t l.toArray K st = buildS P o.dst (kindT P t) (zeroT P t) (evP st l) K st ⟨⟩ := by
  simp only [buildK, buildS, evParts_evP]
  rfl
def fillEnd (d : Option Nat) (c : Option (List AV)) (K : St → Prop) (st : St) (_ : Fix K) : Prop := match c with | some cells => dstOk st d ∧ K (st.putO d (.agg cells)) | none => False
@[go_sem] theorem fillEnd_some (d : Option Nat) (cells : List AV) (f : Fix K) : fillEnd d (some cells) K st f = (dstOk st d ∧ K (st.putO d (.agg cells))) := rfl
@[go_sem] theorem buildS_some (d : Option Nat) (fs : List (Nat × TypeId × Nat)) (z : Value) (xs : List (Nat × AV)) (f : Fix K) :
    buildS P d (.st fs) (some z) (some xs) K st f = (fs.all (fun f => (szT P f.2.1).isSome) = true ∧ fillEnd d (fillA (fun i => (fs[i]?).map fun f => (f.1, f.2.2)) (z.cells.toList.map AV.v) xs) K st ⟨⟩) := rfl
def buildAr (d : Option Nat) (n : Option Nat) (z : Value) (xs : List (Nat × AV)) (K : St → Prop) (st : St) (_ : Fix K) : Prop := match n with | some n => fillEnd d (fillA (fun i => some (i * n, n)) (z.cells.toList.map AV.v) xs) K st ⟨⟩ | none => False
@[go_sem] theorem buildAr_some (d : Option Nat) (n : Nat) (z : Value) (xs : List (Nat × AV)) (f : Fix K) : buildAr d (some n) z xs K st f = fillEnd d (fillA (fun i => some (i * n, n)) (z.cells.toList.map AV.v) xs) K st ⟨⟩ := rfl
@[go_sem] theorem buildS_ar (d : Option Nat) (len : Nat) (e : TypeId) (z : Value) (xs : List (Nat × AV)) (f : Fix K) : buildS P d (.ar len e) (some z) (some xs) K st f = buildAr d (szT P e) z xs K st ⟨⟩ := rfl
@[go_sem] theorem fillA_nil (place : Nat → Option (Nat × Nat)) (cells : List AV) : fillA place cells [] = some cells := rfl
def fillS (place : Nat → Option (Nat × Nat)) (cells : List AV) (x : AV) (p : Option (Nat × Nat)) (rest : List (Nat × AV)) : Option (List AV) :=
  match p with
  | none => none
  | some (off, size) => if x.cells.length ≠ size ∨ off + x.cells.length > cells.length then none else fillA place (splice cells off x.cells) rest
@[go_sem] theorem fillA_cons (place : Nat → Option (Nat × Nat)) (cells : List AV) (i : Nat) (x : AV) (rest : List (Nat × AV)) : fillA place cells ((i, x) :: rest) = fillS place cells x (place i) rest := rfl
@[go_sem] theorem fillS_some (place : Nat → Option (Nat × Nat)) (cells : List AV) (x : AV) (off size : Nat) (rest : List (Nat × AV)) : fillS place cells x (some (off, size)) rest = if x.cells.length ≠ size ∨ off + x.cells.length > cells.length then none else fillA place (splice cells off x.cells) rest := rfl
attribute [go_sem] splice List.cons_append List.nil_append List.append_nil

def litS (P : Program) (d : Option Nat) (len : Nat) (idx : List Nat) (k : KT) (xs : Option (List AV)) (K : St → Prop) (st : St) (_ : Fix K) : Prop :=
  match k with
  | .sl e => (match szT P e, zeroT P e, xs with
    | some sz, some z, some xs => z.cells.size = sz ∧ 0 < sz ∧ idx = List.range len ∧ len * sz ≤ 16777216 ∧ (∀ x ∈ xs, x.cells.length = sz) ∧ dstOk st d ∧
      if len = 0 then (∀ b : Nat, K ((st.setHp (st.hp.setSp ((e, sz, .slice (some ⟨b, 0, none⟩) 0 0) :: st.hp.sp))).putO d (.lst sz (.slice (some ⟨b, 0, none⟩) 0 0) xs)))
      else ∀ hd', K ((st.setHp (st.hp.setSp ((e, sz, hd') :: st.hp.sp))).putO d (.lst sz hd' xs))
    | _, _, _ => False)
  | _ => False
@[go_sem ↓] theorem litK_S (o : Oper) (t : TypeId) (len : Nat) (l : List (Nat × Operand)) : litK P o t len l.toArray K st = litS P o.dst len (l.map (·.1)) (kindT P t) (evL st (l.map (·.2))) K st ⟨⟩ := by
  have h : evs st (l.toArray.map (·.2)) = evL st (l.map (·.2)) := by rw [List.map_toArray, evs_evL]
  simp only [litK, litS, h]
  rfl
def litE (d : Option Nat) (len : Nat) (idx : List Nat) (e : TypeId) (sz : Option Nat) (z : Option Value) (xs : List AV) (K : St → Prop) (st : St) (_ : Fix K) : Prop :=
  match sz, z with
  | some sz, some z => z.cells.size = sz ∧ 0 < sz ∧ idx = List.range len ∧ len * sz ≤ 16777216 ∧ (∀ x ∈ xs, x.cells.length = sz) ∧ dstOk st d ∧
      if len = 0 then (∀ b : Nat, K ((st.setHp (st.hp.setSp ((e, sz, .slice (some ⟨b, 0, none⟩) 0 0) :: st.hp.sp))).putO d (.lst sz (.slice (some ⟨b, 0, none⟩) 0 0) xs)))
      else ∀ hd', K ((st.setHp (st.hp.setSp ((e, sz, hd') :: st.hp.sp))).putO d (.lst sz hd' xs))
  | _, _ => False
@[go_sem] theorem litS_sl (d : Option Nat) (len : Nat) (idx : List Nat) (e : TypeId) (xs : List AV) (f : Fix K) : litS P d len idx (.sl e) (some xs) K st f = litE d len idx e (szT P e) (zeroT P e) xs K st ⟨⟩ := by
  simp only [litS, litE]; cases szT P e <;> cases zeroT P e <;> rfl
@[go_sem] theorem litE_some (d : Option Nat) (len : Nat) (idx : List Nat) (e : TypeId) (sz : Nat) (z : Value) (xs : List AV) (f : Fix K) : litE d len idx e (some sz) (some z) xs K st f =
    (z.cells.size = sz ∧ 0 < sz ∧ idx = List.range len ∧ len * sz ≤ 16777216 ∧ (∀ x ∈ xs, x.cells.length = sz) ∧ dstOk st d ∧ if len = 0 then (∀ b : Nat, K ((st.setHp (st.hp.setSp ((e, sz, .slice (some ⟨b, 0, none⟩) 0 0) :: st.hp.sp))).putO d (.lst sz (.slice (some ⟨b, 0, none⟩) 0 0) xs))) else ∀ hd', K ((st.setHp (st.hp.setSp ((e, sz, hd') :: st.hp.sp))).putO d (.lst sz hd' xs))) := rfl

/-! ### Variables, stores -/
def boxS (mu : List Nat) (d : Option Nat) (t : TypeId) (x : Option AV) (K : St → Prop) (st : St) (_ : Fix K) : Prop :=
  withAV x fun y => dstOk st d ∧ if mu.contains (d.getD 0) = true then (∀ b, Fresh st.hp b → K ((st.setHp (st.hp.setBlk b t y.cells)).putO d (.v (.pointer (some ⟨b, 0, none⟩)))))
    else ∀ p, K (st.putO d (.ref p y.cells))
@[go_sem ↓] theorem boxK_S (o : Oper) (t : TypeId) (x : Operand) : boxK mu o t x K st = boxS mu o.dst t (st.ev x) K st ⟨⟩ := rfl
def boxM (m : Bool) (d : Option Nat) (t : TypeId) (y : AV) (K : St → Prop) (st : St) (_ : Fix K) : Prop := if m = true then (∀ b, Fresh st.hp b → K ((st.setHp (st.hp.setBlk b t y.cells)).putO d (.v (.pointer (some ⟨b, 0, none⟩))))) else ∀ p, K (st.putO d (.ref p y.cells))
@[go_sem] theorem boxS_some (d : Option Nat) (t : TypeId) (y : AV) (f : Fix K) : boxS mu d t (some y) K st f = (dstOk st d ∧ boxM (mu.contains (d.getD 0)) d t y K st ⟨⟩) := rfl
@[go_sem] theorem boxM_true (d : Option Nat) (t : TypeId) (y : AV) (f : Fix K) : boxM true d t y K st f = (∀ b, Fresh st.hp b → K ((st.setHp (st.hp.setBlk b t y.cells)).putO d (.v (.pointer (some ⟨b, 0, none⟩))))) := rfl
@[go_sem] theorem boxM_false (d : Option Nat) (t : TypeId) (y : AV) (f : Fix K) : boxM false d t y K st f = (∀ p, K (st.putO d (.ref p y.cells))) := by simp [boxM]

def allocS (d : Option Nat) (t : TypeId) (z : Option Value) (K : St → Prop) (st : St) (_ : Fix K) : Prop :=
  match z with
  | some z => dstOk st d ∧ ∀ b, Fresh st.hp b → K ((st.setHp (st.hp.setBlk b t (z.cells.toList.map AV.v))).putO d (.v (.pointer (some ⟨b, 0, none⟩))))
  | none => False
@[go_sem ↓] theorem allocK_S (o : Oper) (t : TypeId) : allocK P o t K st = allocS o.dst t (zeroT P t) K st ⟨⟩ := rfl
@[go_sem] theorem allocS_some (d : Option Nat) (t : TypeId) (z : Value) (f : Fix K) : allocS d t (some z) K st f = (dstOk st d ∧ ∀ b, Fresh st.hp b → K ((st.setHp (st.hp.setBlk b t (z.cells.toList.map AV.v))).putO d (.v (.pointer (some ⟨b, 0, none⟩))))) := rfl
@[go_sem] theorem Value.cells_agg (cs : Array Value) : Value.cells (.agg cs) = cs := rfl
@[go_sem] theorem Value.cells_int (k : IntKind) (n : Int) : Value.cells (.int k n) = #[.int k n] := rfl
@[go_sem] theorem Value.cells_bool (b : Bool) : Value.cells (.bool b) = #[.bool b] := rfl
@[go_sem] theorem Value.cells_string (b : ByteArray) : Value.cells (.string b) = #[.string b] := rfl
@[go_sem] theorem Value.cells_slice (a : Option Addr) (n c : Nat) : Value.cells (.slice a n c) = #[.slice a n c] := rfl
@[go_sem] theorem Value.cells_pointer (a : Option Addr) : Value.cells (.pointer a) = #[.pointer a] := rfl
@[go_sem] theorem Value.cells_map (a : Option Nat) : Value.cells (.map a) = #[.map a] := rfl
@[go_sem] theorem Value.cells_nilFunc : Value.cells .nilFunc = #[.nilFunc] := rfl
@[go_sem] theorem Value.cells_nilIface : Value.cells .nilIface = #[.nilIface] := rfl
attribute [go_sem] List.toList_toArray List.size_toArray
@[go_sem] theorem one_int (k : IntKind) (n : Int) : Value.oneCell' (.int k n) = true := rfl
@[go_sem] theorem one_bool (b : Bool) : Value.oneCell' (.bool b) = true := rfl
@[go_sem] theorem one_string (b : ByteArray) : Value.oneCell' (.string b) = true := rfl
@[go_sem] theorem one_slice (a : Option Addr) (n c : Nat) : Value.oneCell' (.slice a n c) = true := rfl
@[go_sem] theorem one_pointer (a : Option Addr) : Value.oneCell' (.pointer a) = true := rfl
@[go_sem] theorem one_map (a : Option Nat) : Value.oneCell' (.map a) = true := rfl
@[go_sem] theorem one_func (f : Fn) (a b : Array Value) : Value.oneCell' (.func f a b) = true := rfl
@[go_sem] theorem one_nilFunc : Value.oneCell' .nilFunc = true := rfl
@[go_sem] theorem one_iface (t : TypeId) (v : Value) : Value.oneCell' (.iface t v) = true := rfl
@[go_sem] theorem one_nilIface : Value.oneCell' .nilIface = true := rfl
attribute [go_sem] List.all_cons List.all_nil Bool.and_true Bool.true_and

def storeS (P : Program) (mu : List Nat) (p : Operand) (sz : Option Nat) (pv xv : Option AV) (K : St → Prop) (st : St) (_ : Fix K) : Prop :=
  match pv, xv with
  | some (.v (.pointer (some ⟨b, off, none⟩))), some y => (match st.hp.blk b, sz with
    | some (T, cs), some n => n = y.cells.length ∧ y.cells.all AV.one = true ∧
      (match p with
      | .tmp pn => if mu.contains pn = true then (off + y.cells.length ≤ cs.length ∧ K (st.setHp (st.hp.setBlk b T (splice cs off y.cells))))
          else if (off == 0 && y.cells.length == cs.length) = true then K ((st.setHp (st.hp.delBlk b)).put pn (.ref (.pointer (some ⟨b, 0, none⟩)) y.cells)) else (off + y.cells.length ≤ cs.length ∧ K (st.setHp (st.hp.setBlk b T (splice cs off y.cells))))
      | _ => off + y.cells.length ≤ cs.length ∧ K (st.setHp (st.hp.setBlk b T (splice cs off y.cells))))
    | _, _ => False)
  | _, _ => False
@[go_sem ↓] theorem storeK_S (ty : TypeId) (pos : String) (aft : Array Edge) (g : Option (Nat × Bool)) (op : Op) (t : TypeId) (p x : Operand) :
    storeK P mu ⟨none, op, ty, pos, aft, g⟩ t p x K st = storeS P mu p (szT P t) (st.ev p) (st.ev x) K st ⟨⟩ := by
  simp only [storeK, storeS, true_and]
  rfl
def storeB (mu : List Nat) (pn : Nat) (b off : Nat) (blk : Option (TypeId × List AV)) (sz : Option Nat) (y : AV) (K : St → Prop) (st : St) (_ : Fix K) : Prop :=
  match blk, sz with
  | some (T, cs), some n => n = y.cells.length ∧ y.cells.all AV.one = true ∧ (if mu.contains pn = true then (off + y.cells.length ≤ cs.length ∧ K (st.setHp (st.hp.setBlk b T (splice cs off y.cells))))
          else if (off == 0 && y.cells.length == cs.length) = true then K ((st.setHp (st.hp.delBlk b)).put pn (.ref (.pointer (some ⟨b, 0, none⟩)) y.cells)) else (off + y.cells.length ≤ cs.length ∧ K (st.setHp (st.hp.setBlk b T (splice cs off y.cells)))))
  | _, _ => False
@[go_sem] theorem storeS_ptr (pn : Nat) (sz : Option Nat) (b off : Nat) (y : AV) (f : Fix K) : storeS P mu (.tmp pn) sz (some (.v (.pointer (some ⟨b, off, none⟩)))) (some y) K st f = storeB mu pn b off (st.hp.blk b) sz y K st ⟨⟩ := by
  simp only [storeS, storeB]
def storeM (m w : Bool) (pn b off : Nat) (T : TypeId) (cs ys : List AV) (K : St → Prop) (st : St) (_ : Fix K) : Prop :=
  if m = true then (off + ys.length ≤ cs.length ∧ K (st.setHp (st.hp.setBlk b T (splice cs off ys)))) else if w = true then K ((st.setHp (st.hp.delBlk b)).put pn (.ref (.pointer (some ⟨b, 0, none⟩)) ys)) else (off + ys.length ≤ cs.length ∧ K (st.setHp (st.hp.setBlk b T (splice cs off ys))))
@[go_sem] theorem storeB_some (pn b off : Nat) (T : TypeId) (cs : List AV) (n : Nat) (y : AV) (f : Fix K) : storeB mu pn b off (some (T, cs)) (some n) y K st f =
    (n = y.cells.length ∧ y.cells.all AV.one = true ∧ storeM (mu.contains pn) (off == 0 && y.cells.length == cs.length) pn b off T cs y.cells K st ⟨⟩) := rfl
@[go_sem] theorem storeM_mut (w : Bool) (pn b off : Nat) (T : TypeId) (cs ys : List AV) (f : Fix K) : storeM true w pn b off T cs ys K st f = (off + ys.length ≤ cs.length ∧ K (st.setHp (st.hp.setBlk b T (splice cs off ys)))) := rfl
@[go_sem] theorem storeM_pub (pn b off : Nat) (T : TypeId) (cs ys : List AV) (f : Fix K) : storeM false true pn b off T cs ys K st f = K ((st.setHp (st.hp.delBlk b)).put pn (.ref (.pointer (some ⟨b, 0, none⟩)) ys)) := by simp [storeM]
@[go_sem] theorem storeM_part (pn b off : Nat) (T : TypeId) (cs ys : List AV) (f : Fix K) : storeM false false pn b off T cs ys K st f = (off + ys.length ≤ cs.length ∧ K (st.setHp (st.hp.setBlk b T (splice cs off ys)))) := by simp [storeM]
attribute [go_sem] List.contains_cons List.contains_nil Bool.or_false Bool.false_or Bool.or_true Bool.true_or Bool.and_false Bool.false_and

/-! ### Maps -/
def lkK (P : Program) (k : KT) (mv kv : AV) (ok : Bool) (hp : Hp) (K : AV → Prop) (_ : Fix K) : Prop :=
  match k, mv, kv with
  | .mp kt et, .v (.map (some b)), .v k => (match hp.mp b, zeroT P et with
    | some es, some z => keyOk (kindT P kt) k = true ∧ (∀ p ∈ es, keyOk (kindT P kt) p.1 = true) ∧
      K (if ok = true then .tup [(mfind k es).getD (.v z), .v (.bool (mfind k es).isSome)] else (mfind k es).getD (.v z))
    | _, _ => False)
  | _, _, _ => False
@[go_sem ↓] theorem lookupK_S (hp : Hp) (t : TypeId) (a b : AV) (ok : Bool) (K : AV → Prop) : lookupK P hp t a b ok K = lkK P (kindT P t) a b ok hp K ⟨⟩ := rfl
def lkM (P : Program) (kt : TypeId) (es : Option (List (Value × AV))) (z : Option Value) (k : Value) (ok : Bool) (K : AV → Prop) (_ : Fix K) : Prop :=
  match es, z with
  | some es, some z => keyOk (kindT P kt) k = true ∧ (∀ p ∈ es, keyOk (kindT P kt) p.1 = true) ∧ K (if ok = true then .tup [(mfind k es).getD (.v z), .v (.bool (mfind k es).isSome)] else (mfind k es).getD (.v z))
  | _, _ => False
@[go_sem] theorem lkK_mp (kt et : TypeId) (b : Nat) (k : Value) (ok : Bool) (hp : Hp) (K : AV → Prop) (f : Fix K) : lkK P (.mp kt et) (.v (.map (some b))) (.v k) ok hp K f = lkM P kt (hp.mp b) (zeroT P et) k ok K ⟨⟩ := rfl
@[go_sem] theorem lkM_one (kt : TypeId) (es : List (Value × AV)) (z k : Value) (K : AV → Prop) (f : Fix K) : lkM P kt (some es) (some z) k false K f = (keyOk (kindT P kt) k = true ∧ (∀ p ∈ es, keyOk (kindT P kt) p.1 = true) ∧ K ((mfind k es).getD (.v z))) := by simp [lkM]
@[go_sem] theorem lkM_two (kt : TypeId) (es : List (Value × AV)) (z k : Value) (K : AV → Prop) (f : Fix K) : lkM P kt (some es) (some z) k true K f = (keyOk (kindT P kt) k = true ∧ (∀ p ∈ es, keyOk (kindT P kt) p.1 = true) ∧ K (.tup [(mfind k es).getD (.v z), .v (.bool (mfind k es).isSome)])) := by simp [lkM]
@[go_sem] theorem keyOk_s (s : ByteArray) : keyOk .s (.string s) = true := rfl
@[go_sem] theorem keyOk_i (k : IntKind) (n : Int) : keyOk (.i k) (.int k n) = true := by simp [keyOk]

def muS (P : Program) (k : KT) (mv kv xv : Option AV) (K : St → Prop) (st : St) (_ : Fix K) : Prop :=
  match k, mv, kv, xv with
  | .mp kt _, some (.v (.map (some b))), some (.v k), some x => (match st.hp.mp b with
    | some es => keyOk (kindT P kt) k = true ∧ (∀ p ∈ es, keyOk (kindT P kt) p.1 = true) ∧ K (st.setHp (st.hp.setMp b (mset k x es)))
    | none => False)
  | _, _, _, _ => False
@[go_sem ↓] theorem mapUpdK_S (ty : TypeId) (pos : String) (aft : Array Edge) (g : Option (Nat × Bool)) (op : Op) (t : TypeId) (m k x : Operand) :
    mapUpdK P ⟨none, op, ty, pos, aft, g⟩ t m k x K st = muS P (kindT P t) (st.ev m) (st.ev k) (st.ev x) K st ⟨⟩ := by
  simp only [mapUpdK, muS, true_and]
  rfl
def muM (P : Program) (kt : TypeId) (b : Nat) (es : Option (List (Value × AV))) (k : Value) (x : AV) (K : St → Prop) (st : St) (_ : Fix K) : Prop :=
  match es with
  | some es => keyOk (kindT P kt) k = true ∧ (∀ p ∈ es, keyOk (kindT P kt) p.1 = true) ∧ K (st.setHp (st.hp.setMp b (mset k x es)))
  | none => False
@[go_sem] theorem muS_mp (kt et : TypeId) (b : Nat) (k : Value) (x : AV) (f : Fix K) : muS P (.mp kt et) (some (.v (.map (some b)))) (some (.v k)) (some x) K st f = muM P kt b (st.hp.mp b) k x K st ⟨⟩ := rfl
@[go_sem] theorem muM_some (kt : TypeId) (b : Nat) (es : List (Value × AV)) (k : Value) (x : AV) (f : Fix K) : muM P kt b (some es) k x K st f = (keyOk (kindT P kt) k = true ∧ (∀ p ∈ es, keyOk (kindT P kt) p.1 = true) ∧ K (st.setHp (st.hp.setMp b (mset k x es)))) := rfl

/-! ### Other values -/
def mkFnS (f : Fn) (a b : Option (List AV)) (K : AV → Prop) : Prop := match a, b with | some x, some y => K (.fn f x y) | _, _ => False
@[go_sem ↓] theorem mkFnK_S (f : Fn) (a b : List Operand) (K : AV → Prop) : mkFnK st f a.toArray b.toArray K = mkFnS f (evL st a) (evL st b) K := by simp only [mkFnK, mkFnS, evs_evL]; rfl
@[go_sem] theorem mkFnS_some (f : Fn) (x y : List AV) (K : AV → Prop) : mkFnS f (some x) (some y) K = K (.fn f x y) := rfl
def mkIfcKT (k : KT) (t : TypeId) (a : AV) (K : AV → Prop) : Prop := match k with | .ifc => False | .oth => False | _ => K (.ifc t a)
@[go_sem ↓] theorem mkIfcK_S (t : TypeId) (a : AV) (K : AV → Prop) : mkIfcK P t a K = mkIfcKT (kindT P t) t a K := rfl
def cvtS (k1 k2 : KT) (a : AV) (K : AV → Prop) : Prop := match k1, k2, a with | .i _, .i k, .v (.int _ n) => K (.v (.int k (k.wrap n))) | .s, .s, .v (.string x) => K (.v (.string x)) | _, _, _ => False
@[go_sem ↓] theorem cvtK_S (s d : TypeId) (a : AV) (K : AV → Prop) : cvtK P s d a K = cvtS (kindT P s) (kindT P d) a K := rfl
@[go_sem] theorem cvtS_int (k k' k2 : IntKind) (n : Int) (K : AV → Prop) : cvtS (.i k) (.i k') (.v (.int k2 n)) K = K (.v (.int k' (k'.wrap n))) := rfl
@[go_sem] theorem cvtS_str (x : ByteArray) (K : AV → Prop) : cvtS .s .s (.v (.string x)) K = K (.v (.string x)) := rfl

/-! ### The end -/
@[go_sem] theorem aret_ret (fn : Func) (R : AV → Hp → Prop) : aret P fn R .ret st = retsK P st fn.results.toList fun l => ∃ hp' r, Gives st.hp (oneOf l) hp' r ∧ R r hp' := rfl
@[go_sem] theorem aret_normal (fn : Func) (R : AV → Hp → Prop) : aret P fn R .normal st = retsK P st fn.results.toList fun l => ∃ hp' r, Gives st.hp (oneOf l) hp' r ∧ R r hp' := rfl
@[go_sem] theorem retsK_nil (K : List AV → Prop) : retsK P st [] K = K [] := rfl
@[go_sem] theorem retsK_tmp (t : Nat) (rs : List ResultVar) (K : List AV → Prop) : retsK P st (.tmp t :: rs) K = withAV (st.sl t) fun x => retsK P st rs (fun l => K (x :: l)) := rfl
@[go_sem] theorem retsK_cell (a : Nat) (t : TypeId) (rs : List ResultVar) (K : List AV → Prop) : retsK P st (.cell a t :: rs) K = withAV (st.sl a) fun p => loadK P st.hp t p fun x => retsK P st rs (fun l => K (x :: l)) := rfl

/-- What a function hands back, as the contract says it. -/
theorem ret_same {a : AV} {hp : Hp} {R : AV → Hp → Prop} (h : R a hp) : ∃ hp' r, Gives hp a hp' r ∧ R r hp' := ⟨hp, a, .le (Hp.le_refl hp), h⟩
theorem ret_le {a : AV} {hp hp' : Hp} {R : AV → Hp → Prop} (hl : hp'.le hp) (h : R a hp') : ∃ hp' r, Gives hp a hp' r ∧ R r hp' := ⟨hp', a, .le hl, h⟩
theorem ret_cast {a b : AV} {hp hp' : Hp} {R : AV → Hp → Prop} (hc : Cast a b) (hl : hp'.le hp) (h : R b hp') : ∃ hp' r, Gives hp a hp' r ∧ R r hp' := ⟨hp', b, .trans (.cast hc) (.le hl), h⟩

/-- Slots as a list. -/
def mkSl : List (Nat × AV) → Nat → Option AV
  | [], _ => none
  | (d, x) :: l, i => if i = d then some x else mkSl l i
@[go_sem] theorem mkSl_nil (i : Nat) : mkSl [] i = none := rfl
@[go_sem] theorem mkSl_cons (d : Nat) (x : AV) (l : List (Nat × AV)) (i : Nat) : mkSl ((d, x) :: l) i = if i = d then some x else mkSl l i := rfl

/-- Less is known. -/
structure St.le (s s' : St) : Prop where
  n : s.n = s'.n
  sl : ∀ i x, s.sl i = some x → ∃ y, s'.sl i = some y ∧ Cast y x
  hp : s.hp.le s'.hp

theorem Rel.weaken {F : Fr} {s s' : St} {a : Act} {w : World} (h : s.le s') (hr : Rel F s' a w) : Rel F s a w := by
  refine ⟨hr.lo, hr.df, by rw [h.n]; exact hr.n, ?_⟩
  obtain ⟨m, hm⟩ := hr.ex
  refine ⟨m, hm.le, hm.hp.weaken h.hp, fun i x hx => ?_⟩
  obtain ⟨y, hy, hc⟩ := h.sl i x hx
  obtain ⟨h1, h2⟩ := hm.sl i y hy
  exact ⟨by rw [h1, hc.1], hc.2 m h2⟩

theorem aw_weaken {c : Code} {Q : Exit → St → Prop} {s s' : St} (h : s.le s') (hw : AWp P c Q s) : AWp P c Q s' := fun F a w hr => hw F a w (hr.weaken h)

theorem le_mkSl {n : Nat} {l : List (Nat × AV)} {hp : Hp} {s' : St} (hn : n = s'.n) (hh : hp.le s'.hp) (hl : ∀ p ∈ l, s'.sl p.1 = some p.2) : St.le ⟨n, mkSl l, hp⟩ s' := by
  refine ⟨hn, fun i x hx => ?_, hh⟩
  have : s'.sl i = some x := by
    clear hn hh
    induction l with
    | nil => cases hx
    | cons p l ih =>
      obtain ⟨d, y⟩ := p
      simp only [mkSl] at hx
      split at hx
      · rename_i e; subst e; obtain rfl := Option.some.inj hx; exact hl (i, y) (by simp)
      · exact ih (fun q hq => hl q (by simp [hq])) hx
  exact ⟨x, this, Cast.refl x⟩

/-- A loop: at its head, where the ghost 'x' says how it stands, the slots are 'sl x', the heap 'hp x'. -/
theorem aw_loopX {α : Type} {c : Code} {Q : Exit → St → Prop} {fc : Fix (Code.loop c)} {fq : Fix Q} (n : Nat) (sl : α → List (Nat × AV)) (hp : α → Hp) (I : α → Prop) (μ : α → Nat) (x0 : α)
    (hI : I x0) (h0 : St.le ⟨n, mkSl (sl x0), hp x0⟩ st)
    (round : ∀ x, I x → AWp P c (thenA (fun st' => ∃ y, μ y < μ x ∧ I y ∧ St.le ⟨n, mkSl (sl y), hp y⟩ st') Q) ⟨n, mkSl (sl x), hp x⟩) : awpX P (.loop c) Q st fc fq := by
  refine aw_weaken h0 (aw_loop (fun x st => I x ∧ st = ⟨n, mkSl (sl x), hp x⟩) μ x0 ⟨hI, rfl⟩ ?_)
  rintro x st ⟨hIx, rfl⟩
  intro F a w hr
  refine Code.wp_mono ?_ (round x hIx F a w hr)
  rintro e a' w' ⟨st', q, r⟩
  cases e with
  | normal =>
    obtain ⟨y, hlt, hIy, hle⟩ := q
    exact ⟨_, ⟨y, hlt, hIy, rfl⟩, r.weaken hle⟩
  | _ => exact ⟨st', q, r⟩
end
end Go.AL
