/- The rules of the symbolic execution as equations, for simp. -/
import Derived.Test.YtfdlfcafcjhpmaaCAL12
set_option linter.unusedVariables false
namespace Go.AL
section
variable {P : Program} {mu : List Nat} {K : St → Prop} {Q : Exit → St → Prop} {st : St}

@[go_sem ↓] theorem awp_skip : awp P mu .skip Q st = Q .normal st := rfl
@[go_sem ↓] theorem awp_seq (x y : Code) : awp P mu (.seq x y) Q st = awp P mu x (thenA (awp P mu y Q) Q) st := rfl
@[go_sem ↓] theorem awp_block (id : Nat) (c : Code) : awp P mu (.block id c) Q st = awp P mu c (inBlk id Q) st := rfl
@[go_sem ↓] theorem awp_exit (id : Nat) : awp P mu (.exit id) Q st = Q (.exit id) st := rfl
@[go_sem ↓] theorem awp_ret : awp P mu .ret Q st = Q .ret st := rfl
@[go_sem ↓] theorem awp_loop (c : Code) : awp P mu (.loop c) Q st = awpX P (.loop c) Q st ⟨⟩ ⟨⟩ := rfl
def regK (P : Program) (mu : List Nat) (ds : List (Option Nat)) (K : St → Prop) (l : List Oper) (st : St) : Prop := aopsK P mu ds K l st
@[congr] theorem regK_congr {ds ds' : List (Option Nat)} {l : List Oper} {st' : St} (h : ds = ds') (h' : st = st') : regK P mu ds K l st = regK P mu ds' K l st' := by rw [h, h']
@[go_sem ↓] theorem awp_region (id : Nat) (l : List Oper) : awp P mu (.region id l.toArray false) Q st = regK P mu (l.map Oper.dst) (Q .normal) l st := rfl
@[go_sem] theorem regK_start (ds : List (Option Nat)) (l : List Oper) : regK P mu ds K l st = aopsK P mu ds K l st := rfl
@[go_sem ↓] theorem awp_draw (id : Nat) (ops : Array Oper) : awp P mu (.region id ops true) Q st = awpX P (.region id ops true) Q st ⟨⟩ ⟨⟩ := rfl
def condK (P : Program) (mu : List Nat) (o : Option AV) (x y : Code) (Q : Exit → St → Prop) (st : St) : Prop :=
  match o with
  | some (.v (.bool t)) => brK t (awp P mu x Q st) (awp P mu y Q st) ⟨⟩
  | _ => False
@[congr] theorem condK_congr {o o' : Option AV} {x y : Code} {st' : St} (h : o = o') (h' : st = st') : condK P mu o x y Q st = condK P mu o' x y Q st' := by rw [h, h']
@[go_sem ↓] theorem awp_cond (c : Operand) (x y : Code) : awp P mu (.cond c x y) Q st = condK P mu (st.ev c) x y Q st := rfl
@[go_sem] theorem condK_bool (t : Bool) (x y : Code) : condK P mu (some (.v (.bool t))) x y Q st = brK t (awp P mu x Q st) (awp P mu y Q st) ⟨⟩ := rfl

def guardK (P : Program) (mu : List Nat) (ds : List (Option Nat)) (K : St → Prop) (g : Option AV) (want : Bool) (o : Oper) (rest : List Oper) (st : St) : Prop :=
  match g with
  | some (.v (.bool b)) => brK (b == want) (aopK P mu o (aopsK P mu ds K rest) st) (dstOk st o.dst ∧ aopsK P mu ds K rest (st.putO o.dst (.v undef))) ⟨⟩
  | some (.v (.tuple _)) => dstOk st o.dst ∧ aopsK P mu ds K rest (st.putO o.dst (.v undef))
  | _ => False
@[congr] theorem guardK_congr {ds : List (Option Nat)} {g g' : Option AV} {want : Bool} {o : Oper} {rest : List Oper} {st' : St} (h : g = g') (h' : st = st') : guardK P mu ds K g want o rest st = guardK P mu ds K g' want o rest st' := by rw [h, h']
@[go_sem] theorem guardK_bool (ds : List (Option Nat)) (b want : Bool) (o : Oper) (rest : List Oper) : guardK P mu ds K (some (.v (.bool b))) want o rest st = brK (b == want) (aopK P mu o (aopsK P mu ds K rest) st) (dstOk st o.dst ∧ aopsK P mu ds K rest (st.putO o.dst (.v undef))) ⟨⟩ := rfl
@[go_sem] theorem guardK_undef (ds : List (Option Nat)) (want : Bool) (o : Oper) (rest : List Oper) : guardK P mu ds K (some (.v undef)) want o rest st = (dstOk st o.dst ∧ aopsK P mu ds K rest (st.putO o.dst (.v undef))) := rfl

@[go_sem ↓] theorem aopsK_nil (ds : List (Option Nat)) : aopsK P mu ds K [] st = K st := rfl
@[go_sem ↓] theorem aopsK_cons (ds : List (Option Nat)) (d : Option Nat) (op : Op) (ty : TypeId) (pos : String) (aft : Array Edge) (rest : List Oper) :
    aopsK P mu ds K (⟨d, op, ty, pos, aft, none⟩ :: rest) st = aopK P mu ⟨d, op, ty, pos, aft, none⟩ (aopsK P mu ds K rest) st := rfl
def slOf (st : St) (ds : List (Option Nat)) (j : Nat) : Option AV := match (ds[j]?).bind id with | some d => st.sl d | none => none
theorem aopsK_guard' (ds : List (Option Nat)) (d : Option Nat) (op : Op) (ty : TypeId) (pos : String) (aft : Array Edge) (j : Nat) (want : Bool) (rest : List Oper) :
    aopsK P mu ds K (⟨d, op, ty, pos, aft, some (j, want)⟩ :: rest) st = guardK P mu ds K (slOf st ds j) want ⟨d, op, ty, pos, aft, some (j, want)⟩ rest st := by
  rw [aopsK]
  simp only [slOf]
  cases (ds[j]?).bind id with
  | none => rfl
  | some d =>
    simp only [guardK]
    cases st.sl d with
    | none => rfl
    | some x => cases x with
      | v y => cases y <;> rfl
      | _ => rfl
@[go_sem ↓] theorem aopsK_guard (ds : List (Option Nat)) (d : Option Nat) (op : Op) (ty : TypeId) (pos : String) (aft : Array Edge) (j : Nat) (want : Bool) (rest : List Oper) :
    aopsK P mu ds K (⟨d, op, ty, pos, aft, some (j, want)⟩ :: rest) st = guardK P mu ds K (slOf st ds j) want ⟨d, op, ty, pos, aft, some (j, want)⟩ rest st := aopsK_guard' ds d op ty pos aft j want rest
@[go_sem] theorem slOf_zero (d : Nat) (ds : List (Option Nat)) : slOf st (some d :: ds) 0 = st.sl d := rfl
@[go_sem] theorem slOf_succ (d : Option Nat) (ds : List (Option Nat)) (j : Nat) : slOf st (d :: ds) (j + 1) = slOf st ds j := rfl

def sliceA (P : Program) (d : Option Nat) (k : KT) (a : AV) (l h m : Option Operand) (K : St → Prop) (st : St) : Prop :=
  match k, a with
  | .s, .v (.string s) => m = none ∧ dstOk st d ∧ bndK st h s.size fun hi => bndK st l 0 fun lo => 0 ≤ lo ∧ lo ≤ hi ∧ hi ≤ s.size ∧ K (st.putO d (.v (.string (s.extract lo.toNat hi.toNat))))
  | .sl e, .lst sz hd xs => szT P e = some sz ∧ dstOk st d ∧ bndK st h xs.length fun hi => bndK st l 0 fun lo => 0 ≤ lo ∧ lo ≤ hi ∧ hi ≤ xs.length ∧
    (match m with
    | none => ∀ a' c', K (st.putO d (.lst sz (.slice a' (hi.toNat - lo.toNat) c') ((xs.take hi.toNat).drop lo.toNat)))
    | some _ => h ≠ none ∧ bndK st m 0 fun mx => hi ≤ mx ∧ mx ≤ xs.length ∧ ∀ a', K (st.putO d (.lst sz (.slice a' (hi.toNat - lo.toNat) (mx.toNat - lo.toNat)) ((xs.take hi.toNat).drop lo.toNat))))
  | .sl e, .v (.slice a n c) => withN (szT P e) fun sz => dstOk st d ∧ bndK st h n fun hi => bndK st l 0 fun lo => 0 ≤ lo ∧ lo ≤ hi ∧
    (match m with
    | none => hi ≤ c ∧ K (st.putO d (rawSl a sz lo hi c))
    | some _ => h ≠ none ∧ bndK st m 0 fun mx => hi ≤ mx ∧ mx ≤ c ∧ K (st.putO d (rawSl a sz lo hi mx)))
  | _, _ => False
@[go_sem] theorem withN_some (n : Nat) (K : Nat → Prop) : withN (some n) K = K n := rfl
@[go_sem] theorem sliceA_r2 (d : Option Nat) (e : TypeId) (a : Option Addr) (n c : Nat) (l h : Option Operand) : sliceA P d (.sl e) (.v (.slice a n c)) l h none K st =
    withN (szT P e) fun sz => dstOk st d ∧ bndK st h n fun hi => bndK st l 0 fun lo => 0 ≤ lo ∧ lo ≤ hi ∧ hi ≤ c ∧ K (st.putO d (rawSl a sz lo hi c)) := rfl
@[go_sem] theorem sliceA_r3 (d : Option Nat) (e : TypeId) (a : Option Addr) (n c : Nat) (l : Option Operand) (h m : Operand) : sliceA P d (.sl e) (.v (.slice a n c)) l (some h) (some m) K st =
    withN (szT P e) fun sz => dstOk st d ∧ bndK st (some h) n fun hi => bndK st l 0 fun lo => 0 ≤ lo ∧ lo ≤ hi ∧ bndK st (some m) 0 fun mx => hi ≤ mx ∧ mx ≤ c ∧ K (st.putO d (rawSl a sz lo hi mx)) := by
  simp only [sliceA, ne_eq, reduceCtorEq, not_false_eq_true, true_and]
@[go_sem] theorem rawSl_full (a : Option Addr) (sz : Nat) (hi mx : Int) : rawSl a sz 0 hi mx = .v (.slice a hi.toNat mx.toNat) := by
  cases a with
  | none => simp [rawSl]
  | some a => obtain ⟨b, o, s⟩ := a; cases s <;> simp [rawSl, Addr.add]
@[go_sem] theorem sliceA_s (d : Option Nat) (s : ByteArray) (l h : Option Operand) : sliceA P d .s (.v (.string s)) l h none K st = (dstOk st d ∧ bndK st h s.size fun hi => bndK st l 0 fun lo => 0 ≤ lo ∧ lo ≤ hi ∧ hi ≤ s.size ∧ K (st.putO d (.v (.string (s.extract lo.toNat hi.toNat))))) := by
  simp only [sliceA, true_and]
@[go_sem] theorem sliceA_l2 (d : Option Nat) (e : TypeId) (sz : Nat) (hd : Value) (xs : List AV) (l h : Option Operand) : sliceA P d (.sl e) (.lst sz hd xs) l h none K st =
    (szT P e = some sz ∧ dstOk st d ∧ bndK st h xs.length fun hi => bndK st l 0 fun lo => 0 ≤ lo ∧ lo ≤ hi ∧ hi ≤ xs.length ∧
      ∀ a' c', K (st.putO d (.lst sz (.slice a' (hi.toNat - lo.toNat) c') ((xs.take hi.toNat).drop lo.toNat)))) := rfl
@[go_sem] theorem sliceA_l3 (d : Option Nat) (e : TypeId) (sz : Nat) (hd : Value) (xs : List AV) (l : Option Operand) (h m : Operand) : sliceA P d (.sl e) (.lst sz hd xs) l (some h) (some m) K st =
    (szT P e = some sz ∧ dstOk st d ∧ bndK st (some h) xs.length fun hi => bndK st l 0 fun lo => 0 ≤ lo ∧ lo ≤ hi ∧ hi ≤ xs.length ∧
      bndK st (some m) 0 fun mx => hi ≤ mx ∧ mx ≤ xs.length ∧ ∀ a', K (st.putO d (.lst sz (.slice a' (hi.toNat - lo.toNat) (mx.toNat - lo.toNat)) ((xs.take hi.toNat).drop lo.toNat)))) := by
  simp only [sliceA, ne_eq, reduceCtorEq, not_false_eq_true, true_and]
def bndE (o : Option AV) (K : Int → Prop) : Prop := match o with | some (.v (.int _ i)) => K i | _ => False
@[go_sem] theorem bndK_none (d : Int) (K : Int → Prop) : bndK st none d K = K d := rfl
@[go_sem ↓] theorem bndK_some (x : Operand) (d : Int) (K : Int → Prop) : bndK st (some x) d K = bndE (st.ev x) K := rfl
@[go_sem] theorem bndE_int (k : IntKind) (i : Int) (K : Int → Prop) : bndE (some (.v (.int k i))) K = K i := rfl
def mkSA (P : Program) (d : Option Nat) (k : KT) (n c : Option AV) (K : St → Prop) (st : St) : Prop :=
  match k, n, c with
  | .sl e, some (.v (.int _ n)), some (.v (.int _ c)) => (match szT P e, zeroT P e, bytesT P e with
    | some sz, some z, some by_ => z.cells.size = sz ∧ 0 ≤ n ∧ n ≤ c ∧ c ≤ maxLen ∧ c * by_ ≤ 140737488355328 ∧ dstOk st d ∧
      ∀ b, Fresh st.hp b → K ((st.setHp (st.hp.setBlk b e ((List.replicate c.toNat z.cells.toList).flatten.map AV.v))).putO d (.v (.slice (some ⟨b, 0, none⟩) n.toNat c.toNat)))
    | _, _, _ => False)
  | _, _, _ => False
def mkSB (d : Option Nat) (e : TypeId) (n c : Int) (sz : Option Nat) (z : Option Value) (by_ : Option Nat) (K : St → Prop) (st : St) : Prop :=
  match sz, z, by_ with
    | some sz, some z, some by_ => z.cells.size = sz ∧ 0 ≤ n ∧ n ≤ c ∧ c ≤ maxLen ∧ c * by_ ≤ 140737488355328 ∧ dstOk st d ∧
      ∀ b, Fresh st.hp b → K ((st.setHp (st.hp.setBlk b e ((List.replicate c.toNat z.cells.toList).flatten.map AV.v))).putO d (.v (.slice (some ⟨b, 0, none⟩) n.toNat c.toNat)))
    | _, _, _ => False
@[go_sem] theorem mkSA_int (d : Option Nat) (e : TypeId) (k k' : IntKind) (n c : Int) : mkSA P d (.sl e) (some (.v (.int k n))) (some (.v (.int k' c))) K st = mkSB d e n c (szT P e) (zeroT P e) (bytesT P e) K st := rfl
@[go_sem] theorem mkSB_some (d : Option Nat) (e : TypeId) (n c : Int) (sz : Nat) (z : Value) (by_ : Nat) : mkSB d e n c (some sz) (some z) (some by_) K st =
    (z.cells.size = sz ∧ 0 ≤ n ∧ n ≤ c ∧ c ≤ maxLen ∧ c * by_ ≤ 140737488355328 ∧ dstOk st d ∧
      ∀ b, Fresh st.hp b → K ((st.setHp (st.hp.setBlk b e ((List.replicate c.toNat z.cells.toList).flatten.map AV.v))).putO d (.v (.slice (some ⟨b, 0, none⟩) n.toNat c.toNat)))) := rfl

section
variable (d : Option Nat) (ty : TypeId) (pos : String) (aft : Array Edge) (g : Option (Nat × Bool))
@[go_sem ↓] theorem aopK_move (x : Operand) : aopK P mu ⟨d, .move x, ty, pos, aft, g⟩ K st = withAV (st.ev x) fun x => dstOk st d ∧ K (st.putO d x) := rfl
@[go_sem ↓] theorem aopK_assign (x : Operand) : aopK P mu ⟨d, .assign x, ty, pos, aft, g⟩ K st = withAV (st.ev x) fun x => dstOk st d ∧ K (st.putO d x) := rfl
@[go_sem ↓] theorem aopK_pick (c a b : Operand) : aopK P mu ⟨d, .pick c a b, ty, pos, aft, g⟩ K st = withAV (st.ev c) fun c => pickK c (st.ev a) (st.ev b) fun x => dstOk st d ∧ K (st.putO d x) := rfl
@[go_sem ↓] theorem aopK_bin (op : BinOp) (t t' : TypeId) (x y : Operand) : aopK P mu ⟨d, .binOp op t x y t', ty, pos, aft, g⟩ K st = withAV (st.ev x) fun a => withAV (st.ev y) fun b => binK P op t a b fun x => dstOk st d ∧ K (st.putO d x) := rfl
@[go_sem ↓] theorem aopK_un (op : UnOp) (t : TypeId) (x : Operand) : aopK P mu ⟨d, .unOp op t x, ty, pos, aft, g⟩ K st = withAV (st.ev x) fun a => unK op a fun x => dstOk st d ∧ K (st.putO d x) := rfl
@[go_sem ↓] theorem aopK_load (t : TypeId) (x : Operand) : aopK P mu ⟨d, .load t x, ty, pos, aft, g⟩ K st = withAV (st.ev x) fun a => loadK P st.hp t a fun x => dstOk st d ∧ K (st.putO d x) := rfl
@[go_sem ↓] theorem aopK_fieldAddr (t : TypeId) (x : Operand) (f : Nat) : aopK P mu ⟨d, .fieldAddr t x f, ty, pos, aft, g⟩ K st = withAV (st.ev x) fun a => fieldAddrK P t a f fun x => dstOk st d ∧ K (st.putO d x) := rfl
@[go_sem ↓] theorem aopK_indexAddr (t : TypeId) (x i : Operand) : aopK P mu ⟨d, .indexAddr t x i, ty, pos, aft, g⟩ K st = withAV (st.ev x) fun a => withAV (st.ev i) fun i => indexAddrK P t a i fun x => dstOk st d ∧ K (st.putO d x) := rfl
@[go_sem ↓] theorem aopK_index (t : TypeId) (x i : Operand) : aopK P mu ⟨d, .index t x i, ty, pos, aft, g⟩ K st = withAV (st.ev x) fun a => withAV (st.ev i) fun i => indexK P t a i fun x => dstOk st d ∧ K (st.putO d x) := rfl
@[go_sem ↓] theorem aopK_field (t : TypeId) (x : Operand) (f : Nat) : aopK P mu ⟨d, .field t x f, ty, pos, aft, g⟩ K st = withAV (st.ev x) fun a => fieldK P t a f fun x => dstOk st d ∧ K (st.putO d x) := rfl
@[go_sem ↓] theorem aopK_extract (x : Operand) (i : Nat) : aopK P mu ⟨d, .extract x i, ty, pos, aft, g⟩ K st = withAV (st.ev x) fun a => extractK a i fun x => dstOk st d ∧ K (st.putO d x) := rfl
@[go_sem ↓] theorem aopK_convert (s t : TypeId) (x : Operand) : aopK P mu ⟨d, .convert s t x, ty, pos, aft, g⟩ K st = withAV (st.ev x) fun a => cvtK P s t a fun x => dstOk st d ∧ K (st.putO d x) := rfl
@[go_sem ↓] theorem aopK_mkIfc (t : TypeId) (x : Operand) : aopK P mu ⟨d, .makeInterface t x, ty, pos, aft, g⟩ K st = withAV (st.ev x) fun a => mkIfcK P t a fun x => dstOk st d ∧ K (st.putO d x) := rfl
@[go_sem ↓] theorem aopK_mkFn (f : Fn) (a b : Array Operand) : aopK P mu ⟨d, .makeFunc f a b, ty, pos, aft, g⟩ K st = mkFnK st f a b fun x => dstOk st d ∧ K (st.putO d x) := rfl
@[go_sem ↓] theorem aopK_nilCheck (x : Operand) : aopK P mu ⟨d, .nilCheck x, ty, pos, aft, g⟩ K st = withAV (st.ev x) fun a => nilCheckK a fun x => dstOk st d ∧ K (st.putO d x) := rfl
@[go_sem ↓] theorem aopK_lookup (t : TypeId) (m k : Operand) (ok : Bool) : aopK P mu ⟨d, .lookup t m k ok, ty, pos, aft, g⟩ K st = withAV (st.ev m) fun a => withAV (st.ev k) fun b => lookupK P st.hp t a b ok fun x => dstOk st d ∧ K (st.putO d x) := rfl
@[go_sem ↓] theorem aopK_len (x : Operand) (t : TypeId) : aopK P mu ⟨d, .call { callee := .builtin .len, args := #[x], argTypes := #[t] }, ty, pos, aft, g⟩ K st = withAV (st.ev x) fun a => lenK P st.hp t a fun x => dstOk st d ∧ K (st.putO d x) := rfl
@[go_sem ↓] theorem aopK_alloc (t : TypeId) : aopK P mu ⟨d, .alloc t, ty, pos, aft, g⟩ K st = allocK P ⟨d, .alloc t, ty, pos, aft, g⟩ t K st := rfl
@[go_sem ↓] theorem aopK_box (t : TypeId) (x : Operand) : aopK P mu ⟨d, .box t x, ty, pos, aft, g⟩ K st = boxK mu ⟨d, .box t x, ty, pos, aft, g⟩ t x K st := rfl
@[go_sem ↓] theorem aopK_store (t : TypeId) (p x : Operand) : aopK P mu ⟨d, .store t p x, ty, pos, aft, g⟩ K st = storeK P mu ⟨d, .store t p x, ty, pos, aft, g⟩ t p x K st := rfl
@[go_sem ↓] theorem aopK_build (t : TypeId) (l : List (Nat × Operand)) : aopK P mu ⟨d, .build t l.toArray, ty, pos, aft, g⟩ K st = buildK P ⟨d, .build t l.toArray, ty, pos, aft, g⟩ t l.toArray K st := rfl
@[go_sem ↓] theorem aopK_lit (t : TypeId) (n : Nat) (l : List (Nat × Operand)) : aopK P mu ⟨d, .buildSlice t n l.toArray, ty, pos, aft, g⟩ K st = litK P ⟨d, .buildSlice t n l.toArray, ty, pos, aft, g⟩ t n l.toArray K st := rfl
@[go_sem ↓] theorem aopK_makeMap (t : TypeId) : aopK P mu ⟨d, .makeMap t none, ty, pos, aft, g⟩ K st = (dstOk st d ∧ ∀ b, Fresh st.hp b → K ((st.setHp (st.hp.setMp b [])).putO d (.v (.map (some b))))) := rfl
@[go_sem ↓] theorem aopK_mapUpdate (t : TypeId) (m k x : Operand) : aopK P mu ⟨d, .mapUpdate t m k x, ty, pos, aft, g⟩ K st = mapUpdK P ⟨d, .mapUpdate t m k x, ty, pos, aft, g⟩ t m k x K st := rfl
@[go_sem ↓] theorem aopK_call (f : Operand) (l : List Operand) (ts : Array TypeId) : aopK P mu ⟨d, .call { callee := .value f, args := l.toArray, argTypes := ts }, ty, pos, aft, g⟩ K st = aval P ⟨d, .call { callee := .value f, args := l.toArray, argTypes := ts }, ty, pos, aft, g⟩ f l.toArray K st := rfl
@[go_sem ↓] theorem aopK_append (l : List Operand) (ts : Array TypeId) : aopK P mu ⟨d, .call { callee := .builtin .append, args := l.toArray, argTypes := ts }, ty, pos, aft, g⟩ K st = aopX P ⟨d, .call { callee := .builtin .append, args := l.toArray, argTypes := ts }, ty, pos, aft, g⟩ K st ⟨⟩ ⟨⟩ := rfl
@[go_sem ↓] theorem aopK_slice (t : TypeId) (x : Operand) (lo hi mx : Option Operand) : aopK P mu ⟨d, .slice t x lo hi mx, ty, pos, aft, g⟩ K st = withAV (st.ev x) fun a => sliceA P d (kindT P t) a lo hi mx K st := rfl
@[go_sem ↓] theorem aopK_makeSlice (t : TypeId) (x y : Operand) : aopK P mu ⟨d, .makeSlice t x y, ty, pos, aft, g⟩ K st = mkSA P d (kindT P t) (st.ev x) (st.ev y) K st := rfl
@[go_sem ↓] theorem aopK_typeAssert (x : Operand) (s t : TypeId) (c : Bool) : aopK P mu ⟨d, .typeAssert x s t c, ty, pos, aft, g⟩ K st = aopX P ⟨d, .typeAssert x s t c, ty, pos, aft, g⟩ K st ⟨⟩ ⟨⟩ := rfl
end
end

/-! ### What simp may look into -/
def blkK (P : Program) (x : Option (TypeId × List AV)) (t : TypeId) (o : Nat) (K : AV → Prop) : Prop := match x with | some (_, cs) => readK P t (cs.drop o) K | none => False
section
variable {K : AV → Prop} {P : Program}
@[congr] theorem withAV_congr {o o' : Option AV} (h : o = o') : withAV o K = withAV o' K := by rw [h]
@[congr] theorem pickK_congr {c c' : AV} {a a' b b' : Option AV} (h : c = c') (h1 : a = a') (h2 : b = b') : pickK c a b K = pickK c' a' b' K := by rw [h, h1, h2]
@[congr] theorem readK_congr {t : TypeId} {cs cs' : List AV} (h : cs = cs') : readK P t cs K = readK P t cs' K := by rw [h]
@[congr] theorem loadK_congr {hp hp' : Hp} {t : TypeId} {a a' : AV} (h : hp = hp') (h1 : a = a') : loadK P hp t a K = loadK P hp' t a' K := by rw [h, h1]
@[congr] theorem blkK_congr {x x' : Option (TypeId × List AV)} {t : TypeId} {o o' : Nat} (h : x = x') (h1 : o = o') : blkK P x t o K = blkK P x' t o' K := by rw [h, h1]
@[congr] theorem fieldAddrK_congr {t : TypeId} {f : Nat} {a a' : AV} (h : a = a') : fieldAddrK P t a f K = fieldAddrK P t a' f K := by rw [h]
@[congr] theorem indexAddrK_congr {t : TypeId} {a a' i i' : AV} (h : a = a') (h1 : i = i') : indexAddrK P t a i K = indexAddrK P t a' i' K := by rw [h, h1]
@[congr] theorem indexK_congr {t : TypeId} {a a' i i' : AV} (h : a = a') (h1 : i = i') : indexK P t a i K = indexK P t a' i' K := by rw [h, h1]
@[congr] theorem lenK_congr {hp hp' : Hp} {t : TypeId} {a a' : AV} (h : hp = hp') (h1 : a = a') : lenK P hp t a K = lenK P hp' t a' K := by rw [h, h1]
@[congr] theorem extractK_congr {i : Nat} {a a' : AV} (h : a = a') : extractK a i K = extractK a' i K := by rw [h]
@[congr] theorem fieldK_congr {t : TypeId} {f : Nat} {a a' : AV} (h : a = a') : fieldK P t a f K = fieldK P t a' f K := by rw [h]
@[congr] theorem unK_congr {op : UnOp} {a a' : AV} (h : a = a') : unK op a K = unK op a' K := by rw [h]
@[congr] theorem intK_congr {op : BinOp} {k : IntKind} {x x' y y' : Int} (h : x = x') (h1 : y = y') : intK op k x y K = intK op k x' y' K := by rw [h, h1]
@[congr] theorem strK_congr {op : BinOp} {x x' y y' : ByteArray} (h : x = x') (h1 : y = y') : strK op x y K = strK op x' y' K := by rw [h, h1]
@[congr] theorem eqB_congr {op : BinOp} {r r' : Bool} (h : r = r') : eqB op r K = eqB op r' K := by rw [h]
@[congr] theorem binK_congr {op : BinOp} {t : TypeId} {a a' b b' : AV} (h : a = a') (h1 : b = b') : binK P op t a b K = binK P op t a' b' K := by rw [h, h1]
@[congr] theorem cvtK_congr {s d : TypeId} {a a' : AV} (h : a = a') : cvtK P s d a K = cvtK P s d a' K := by rw [h]
@[congr] theorem nilCheckK_congr {a a' : AV} (h : a = a') : nilCheckK a K = nilCheckK a' K := by rw [h]
@[congr] theorem mkIfcK_congr {t : TypeId} {a a' : AV} (h : a = a') : mkIfcK P t a K = mkIfcK P t a' K := by rw [h]
@[congr] theorem mkFnK_congr {st st' : St} {f : Fn} {a b : Array Operand} (h : st = st') : mkFnK st f a b K = mkFnK st' f a b K := by rw [h]
@[congr] theorem lookupK_congr {hp hp' : Hp} {t : TypeId} {ok : Bool} {a a' b b' : AV} (h : hp = hp') (h1 : a = a') (h2 : b = b') : lookupK P hp t a b ok K = lookupK P hp' t a' b' ok K := by rw [h, h1, h2]
end

section
variable {P : Program}
/-! ### The values -/
@[go_sem ↓] theorem pickK_true (a b : Option AV) (K : AV → Prop) : pickK (.v (.bool true)) a b K = withAV a K := rfl
@[go_sem ↓] theorem pickK_false (a b : Option AV) (K : AV → Prop) : pickK (.v (.bool false)) a b K = withAV b K := rfl
@[go_sem ↓] theorem pickK_bools (t x y : Bool) (K : AV → Prop) : pickK (.v (.bool t)) (some (.v (.bool x))) (some (.v (.bool y))) K = K (.v (.bool (if t = true then x else y))) := by cases t <;> rfl
@[go_sem ↓] theorem loadK_ref (hp : Hp) (t : TypeId) (p : Value) (cs : List AV) (K : AV → Prop) : loadK P hp t (.ref p cs) K = readK P t cs K := rfl
@[go_sem ↓] theorem loadK_ptr (hp : Hp) (t : TypeId) (b o : Nat) (K : AV → Prop) : loadK P hp t (.v (.pointer (some ⟨b, o, none⟩))) K = blkK P (hp.blk b) t o K := rfl
@[go_sem] theorem blkK_some (T t : TypeId) (cs : List AV) (o : Nat) (K : AV → Prop) : blkK P (some (T, cs)) t o K = readK P t (cs.drop o) K := rfl
@[go_sem ↓] theorem unK_not (b : Bool) (K : AV → Prop) : unK .not (.v (.bool b)) K = K (.v (.bool !b)) := rfl
@[go_sem ↓] theorem unK_neg (k : IntKind) (n : Int) (K : AV → Prop) : unK .neg (.v (.int k n)) K = K (.v (.int k (k.wrap (0 - n)))) := rfl
@[go_sem ↓] theorem binK_int (op : BinOp) (t : TypeId) (k : IntKind) (x y : Int) (K : AV → Prop) : binK P op t (.v (.int k x)) (.v (.int k y)) K = intK op k x y K := by simp [binK]
@[go_sem ↓] theorem binK_str (op : BinOp) (t : TypeId) (x y : ByteArray) (K : AV → Prop) : binK P op t (.v (.string x)) (.v (.string y)) K = strK op x y K := rfl
attribute [go_sem] intK strK eqB
def aggO (op : BinOp) (r : Option Bool) (K : AV → Prop) : Prop := match r with | some r => eqB op r K | none => False
def aggE (P : Program) (op : BinOp) (t : TypeId) (k : KT) (xs ys : List AV) (K : AV → Prop) : Prop :=
  match k with
  | .st fs => eqT P t = true ∧ (match eqS P fs xs ys with | some r => eqB op r K | none => False)
  | _ => False
def isB (k : KT) : Bool := match k with | .b => true | _ => false
def isP (k : KT) : Bool := match k with | .p _ => true | _ => false
def isI (k : KT) : Bool := match k with | .ifc => true | _ => false
@[go_sem ↓] theorem binK_bool (op : BinOp) (t : TypeId) (x y : Bool) (K : AV → Prop) : binK P op t (.v (.bool x)) (.v (.bool y)) K = if isB (kindT P t) = true then eqB op (x == y) K else False := by
  simp only [binK]; cases kindT P t <;> simp [isB]
@[go_sem ↓] theorem binK_refnil (op : BinOp) (t : TypeId) (p : Value) (cs : List AV) (K : AV → Prop) : binK P op t (.ref p cs) (.v (.pointer none)) K = if isP (kindT P t) = true then eqB op false K else False := by
  simp only [binK]; cases kindT P t <;> simp [isP]
@[go_sem ↓] theorem binK_nilnil (op : BinOp) (t : TypeId) (K : AV → Prop) : binK P op t (.v (.pointer none)) (.v (.pointer none)) K = if isP (kindT P t) = true then eqB op true K else False := by
  simp only [binK]; cases kindT P t <;> simp [isP]
@[go_sem ↓] theorem binK_ptrnil (op : BinOp) (t : TypeId) (a : Addr) (K : AV → Prop) : binK P op t (.v (.pointer (some a))) (.v (.pointer none)) K = if isP (kindT P t) = true then eqB op false K else False := by
  simp only [binK]; cases kindT P t <;> simp [isP]
@[go_sem ↓] theorem binK_ifcnil (op : BinOp) (t u : TypeId) (a : AV) (K : AV → Prop) : binK P op t (.ifc u a) (.v .nilIface) K = if isI (kindT P t) = true then eqB op false K else False := by
  simp only [binK]; cases kindT P t <;> simp [isI]
def isSl2 (k : KT) : Bool := match k with | .sl _ => true | _ => false
attribute [go_sem] isSl2 nilB
@[go_sem ↓] theorem binK_lstnil (op : BinOp) (t : TypeId) (sz : Nat) (h : Value) (xs : List AV) (K : AV → Prop) : binK P op t (.lst sz h xs) (.v (.slice none 0 0)) K = if isSl2 (kindT P t) = true then eqB op (nilB h) K else False := by
  simp only [binK]; cases kindT P t <;> simp [isSl2]
@[go_sem ↓] theorem binK_slnil (op : BinOp) (t : TypeId) (a : Option Addr) (n c : Nat) (K : AV → Prop) : binK P op t (.v (.slice a n c)) (.v (.slice none 0 0)) K = if isSl2 (kindT P t) = true then eqB op (nilB (.slice a n c)) K else False := by
  simp only [binK]; cases kindT P t <;> simp [isSl2]
@[go_sem ↓] theorem binK_agg (op : BinOp) (t : TypeId) (xs ys : List AV) (K : AV → Prop) : binK P op t (.agg xs) (.agg ys) K = aggE P op t (kindT P t) xs ys K := rfl
@[go_sem] theorem aggE_st (op : BinOp) (t : TypeId) (fs : List (Nat × TypeId × Nat)) (xs ys : List AV) (K : AV → Prop) : aggE P op t (.st fs) xs ys K = (eqT P t = true ∧ aggO op (eqS P fs xs ys) K) := rfl
@[go_sem] theorem aggO_some (op : BinOp) (r : Bool) (K : AV → Prop) : aggO op (some r) K = eqB op r K := rfl
@[go_sem] theorem eqS_nil : eqS P [] [] [] = some true := rfl
@[go_sem] theorem eqS_cons (f : Nat × TypeId × Nat) (fs : List (Nat × TypeId × Nat)) (x y : AV) (xs ys : List AV) : eqS P (f :: fs) (x :: xs) (y :: ys) = andO (eqF (kindT P f.2.1) x y) (eqS P fs xs ys) := rfl
@[go_sem] theorem andO_some (a b : Bool) : andO (some a) (some b) = some (a && b) := rfl
@[go_sem] theorem eqF_int (k k1 : IntKind) (a b : Int) : eqF (.i k) (.v (.int k1 a)) (.v (.int k1 b)) = some (decide (a = b)) := by simp [eqF]
@[go_sem] theorem eqF_bool (a b : Bool) : eqF .b (.v (.bool a)) (.v (.bool b)) = some (decide (a = b)) := rfl
@[go_sem] theorem eqF_str (a b : ByteArray) : eqF .s (.v (.string a)) (.v (.string b)) = some (decide (a = b)) := rfl
attribute [go_sem] isB isP isI nilCheckK extractK oneOf AV.cells List.getElem?_cons_zero List.getElem?_cons_succ List.length_cons List.length_nil List.map_cons List.map_nil List.drop_zero List.drop_succ_cons List.take_succ_cons List.take_zero List.drop_nil Option.getD_some Option.getD_none and_true true_and
attribute [go_sem] Option.map_some Option.map_none
def fldK (fs : List (Nat × TypeId × Nat)) (a : AV) (f : Nat) (K : AV → Prop) : Prop :=
  match fs[f]? with
  | some (off, _, n) => n ≠ 0 ∧ (match a with
    | .ref p cs => K (.ref (padd p off) (cs.drop off))
    | .v (.pointer (some ⟨b, o, none⟩)) => K (.v (.pointer (some ⟨b, o + off, none⟩)))
    | _ => False)
  | none => False
theorem fieldAddrK_st {s : TypeId} {fs : List (Nat × TypeId × Nat)} (h : kindT P s = .st fs) (a : AV) (f : Nat) (K : AV → Prop) : fieldAddrK P s a f K = fldK fs a f K := by
  simp only [fieldAddrK, h]; rfl
end
end Go.AL
namespace Go.AL
/-! ### Evaluations that depend on a type's kind -/
section
variable {P : Program} {K : AV → Prop}
/-- The kind is looked up first; then what hangs on it. -/
def fieldAddrKT (k : KT) (a : AV) (f : Nat) (K : AV → Prop) : Prop := match k with | .st fs => fldK fs a f K | _ => False
@[congr] theorem fieldAddrKT_congr {k k' : KT} {a : AV} {f : Nat} (h : k = k') : fieldAddrKT k a f K = fieldAddrKT k' a f K := by rw [h]
@[go_sem] theorem fieldAddrKT_st (fs : List (Nat × TypeId × Nat)) (a : AV) (f : Nat) : fieldAddrKT (.st fs) a f K = fldK fs a f K := rfl
@[go_sem ↓] theorem fieldAddrK_kt (s : TypeId) (a : AV) (f : Nat) : fieldAddrK P s a f K = fieldAddrKT (kindT P s) a f K := by
  simp only [fieldAddrK, fieldAddrKT]; cases kindT P s <;> rfl
def fldK1 (x : Option (Nat × TypeId × Nat)) (a : AV) (K : AV → Prop) : Prop :=
  match x with
  | some (off, _, n) => n ≠ 0 ∧ (match a with
    | .ref p cs => K (.ref (padd p off) (cs.drop off))
    | .v (.pointer (some ⟨b, o, none⟩)) => K (.v (.pointer (some ⟨b, o + off, none⟩)))
    | _ => False)
  | none => False
@[congr] theorem fldK1_congr {x x' : Option (Nat × TypeId × Nat)} {a : AV} (h : x = x') : fldK1 x a K = fldK1 x' a K := by rw [h]
@[go_sem ↓] theorem fldK_1 (fs : List (Nat × TypeId × Nat)) (a : AV) (f : Nat) : fldK fs a f K = fldK1 fs[f]? a K := rfl
@[go_sem] theorem fldK1_ref (off n : Nat) (t : TypeId) (p : Value) (cs : List AV) : fldK1 (some (off, t, n)) (.ref p cs) K = (n ≠ 0 ∧ K (.ref (padd p off) (cs.drop off))) := rfl
@[go_sem] theorem fldK1_ptr (off n : Nat) (t : TypeId) (b o : Nat) : fldK1 (some (off, t, n)) (.v (.pointer (some ⟨b, o, none⟩))) K = (n ≠ 0 ∧ K (.v (.pointer (some ⟨b, o + off, none⟩)))) := rfl

def fieldKT (P : Program) (k : KT) (a : AV) (f : Nat) (K : AV → Prop) : Prop := match k, a with
  | .st fs, .agg cs => (match fs[f]? with | some (off, t, _) => readK P t (cs.drop off) K | none => False)
  | _, _ => False
@[congr] theorem fieldKT_congr {k k' : KT} {a : AV} {f : Nat} (h : k = k') : fieldKT P k a f K = fieldKT P k' a f K := by rw [h]
@[go_sem ↓] theorem fieldK_kt (s : TypeId) (a : AV) (f : Nat) : fieldK P s a f K = fieldKT P (kindT P s) a f K := rfl
def fieldK1 (P : Program) (x : Option (Nat × TypeId × Nat)) (cs : List AV) (K : AV → Prop) : Prop := match x with | some (off, t, _) => readK P t (cs.drop off) K | none => False
@[congr] theorem fieldK1_congr {x x' : Option (Nat × TypeId × Nat)} {cs : List AV} (h : x = x') : fieldK1 P x cs K = fieldK1 P x' cs K := by rw [h]
@[go_sem] theorem fieldKT_st (fs : List (Nat × TypeId × Nat)) (cs : List AV) (f : Nat) : fieldKT P (.st fs) (.agg cs) f K = fieldK1 P fs[f]? cs K := rfl
@[go_sem] theorem fieldK1_some (off n : Nat) (t : TypeId) (cs : List AV) : fieldK1 P (some (off, t, n)) cs K = readK P t (cs.drop off) K := rfl

def readA (P : Program) (n : Option Nat) (cs : List AV) (K : AV → Prop) : Prop := match n with | some n => n ≤ cs.length ∧ K (.agg (cs.take n)) | none => False
def readC (cs : List AV) (K : AV → Prop) : Prop := match cs with | c :: _ => K c | [] => False
def readKT (P : Program) (k : KT) (t : TypeId) (cs : List AV) (K : AV → Prop) : Prop := match k with | .st _ => readA P (szT P t) cs K | .ar _ _ => readA P (szT P t) cs K | .oth => False | _ => readC cs K
@[congr] theorem readA_congr {n n' : Option Nat} {cs : List AV} (h : n = n') : readA P n cs K = readA P n' cs K := by rw [h]
@[congr] theorem readC_congr {cs cs' : List AV} (h : cs = cs') : readC cs K = readC cs' K := by rw [h]
@[congr] theorem readKT_congr {k k' : KT} {t : TypeId} {cs : List AV} (h : k = k') : readKT P k t cs K = readKT P k' t cs K := by rw [h]
@[go_sem ↓] theorem readK_kt (t : TypeId) (cs : List AV) : readK P t cs K = readKT P (kindT P t) t cs K := by
  unfold readK aggT readKT
  rcases hk : kindT P t <;> simp [readA, readC] <;> exact Iff.rfl
@[go_sem] theorem readKT_st (fs : List (Nat × TypeId × Nat)) (t : TypeId) (cs : List AV) : readKT P (.st fs) t cs K = readA P (szT P t) cs K := rfl
@[go_sem] theorem readKT_ar (n : Nat) (e : TypeId) (t : TypeId) (cs : List AV) : readKT P (.ar n e) t cs K = readA P (szT P t) cs K := rfl
@[go_sem] theorem readKT_b (t : TypeId) (cs : List AV) : readKT P .b t cs K = readC cs K := rfl
@[go_sem] theorem readKT_i (k : IntKind) (t : TypeId) (cs : List AV) : readKT P (.i k) t cs K = readC cs K := rfl
@[go_sem] theorem readKT_s (t : TypeId) (cs : List AV) : readKT P .s t cs K = readC cs K := rfl
@[go_sem] theorem readKT_p (e : TypeId) (t : TypeId) (cs : List AV) : readKT P (.p e) t cs K = readC cs K := rfl
@[go_sem] theorem readKT_sl (e : TypeId) (t : TypeId) (cs : List AV) : readKT P (.sl e) t cs K = readC cs K := rfl
@[go_sem] theorem readKT_mp (k e : TypeId) (t : TypeId) (cs : List AV) : readKT P (.mp k e) t cs K = readC cs K := rfl
@[go_sem] theorem readKT_ifc (t : TypeId) (cs : List AV) : readKT P .ifc t cs K = readC cs K := rfl
@[go_sem] theorem readKT_fnc (t : TypeId) (cs : List AV) : readKT P .fnc t cs K = readC cs K := rfl
@[go_sem] theorem readA_some (n : Nat) (cs : List AV) : readA P (some n) cs K = (n ≤ cs.length ∧ K (.agg (cs.take n))) := rfl
@[go_sem] theorem readC_cons (c : AV) (cs : List AV) : readC (c :: cs) K = K c := rfl

def getK (o : Option AV) (K : AV → Prop) : Prop := match o with | some x => K x | none => False
@[congr] theorem getK_congr {o o' : Option AV} (h : o = o') : getK o K = getK o' K := by rw [h]
@[go_sem] theorem getK_some (x : AV) : getK (some x) K = K x := rfl
/-- Indexing, the kind known. -/
def idxKT (P : Program) (k : KT) (n : TypeId → Option Nat) (a i : AV) (K : AV → Prop) : Prop :=
  match k, i with
  | .sl e, .v (.int _ i) => (match n e with
    | some n => (match a with
      | .lst sz h xs => sz = n ∧ 0 ≤ i ∧ getK xs[i.toNat]? (fun x => K (.ref (hadd h (i.toNat * n)) x.cells))
      | .v (.slice (some ⟨b, o, none⟩) len _) => 0 ≤ i ∧ i < len ∧ K (.v (.pointer (some ⟨b, o + i.toNat * n, none⟩)))
      | _ => False)
    | none => False)
  | .ar len e, .v (.int _ i) => (match n e with
    | some n => 0 ≤ i ∧ i < len ∧ (match a with
      | .ref p cs => K (.ref (padd p (i.toNat * n)) (cs.drop (i.toNat * n)))
      | .v (.pointer (some ⟨b, o, none⟩)) => K (.v (.pointer (some ⟨b, o + i.toNat * n, none⟩)))
      | _ => False)
    | none => False)
  | _, _ => False
@[congr] theorem idxKT_congr {k k' : KT} {a i : AV} (h : k = k') : idxKT P k (szT P) a i K = idxKT P k' (szT P) a i K := by rw [h]
@[go_sem ↓] theorem indexAddrK_kt (t : TypeId) (a i : AV) : indexAddrK P t a i K = idxKT P (kindT P t) (szT P) a i K := by
  simp only [indexAddrK, idxKT]
  rfl
def idxL (sz : Nat) (h : Value) (xs : List AV) (i : Int) (n : Option Nat) (K : AV → Prop) : Prop := match n with | some n => sz = n ∧ 0 ≤ i ∧ getK xs[i.toNat]? (fun x => K (.ref (hadd h (i.toNat * n)) x.cells)) | none => False
@[congr] theorem idxL_congr {sz : Nat} {h : Value} {xs : List AV} {i : Int} {n n' : Option Nat} (hn : n = n') : idxL sz h xs i n K = idxL sz h xs i n' K := by rw [hn]
@[go_sem] theorem idxKT_lst (e : TypeId) (sz : Nat) (h : Value) (xs : List AV) (k : IntKind) (i : Int) : idxKT P (.sl e) (szT P) (.lst sz h xs) (.v (.int k i)) K = idxL sz h xs i (szT P e) K := rfl
@[go_sem] theorem idxL_some (sz n : Nat) (h : Value) (xs : List AV) (i : Int) : idxL sz h xs i (some n) K = (sz = n ∧ 0 ≤ i ∧ getK xs[i.toNat]? (fun x => K (.ref (hadd h (i.toNat * n)) x.cells))) := rfl
def idxB (b o len : Nat) (i : Int) (n : Option Nat) (K : AV → Prop) : Prop := match n with | some n => 0 ≤ i ∧ i < len ∧ K (.v (.pointer (some ⟨b, o + i.toNat * n, none⟩))) | none => False
@[congr] theorem idxB_congr {b o len : Nat} {i : Int} {n n' : Option Nat} (hn : n = n') : idxB b o len i n K = idxB b o len i n' K := by rw [hn]
@[go_sem] theorem idxKT_blk (e : TypeId) (b o len cap : Nat) (k : IntKind) (i : Int) : idxKT P (.sl e) (szT P) (.v (.slice (some ⟨b, o, none⟩) len cap)) (.v (.int k i)) K = idxB b o len i (szT P e) K := rfl
@[go_sem] theorem idxKT_arp (e : TypeId) (b o len : Nat) (k : IntKind) (i : Int) : idxKT P (.ar len e) (szT P) (.v (.pointer (some ⟨b, o, none⟩))) (.v (.int k i)) K = idxB b o len i (szT P e) K := rfl
@[go_sem] theorem idxB_some (b o len n : Nat) (i : Int) : idxB b o len i (some n) K = (0 ≤ i ∧ i < len ∧ K (.v (.pointer (some ⟨b, o + i.toNat * n, none⟩)))) := rfl
def idxR (p : Value) (cs : List AV) (len : Nat) (i : Int) (n : Option Nat) (K : AV → Prop) : Prop := match n with | some n => 0 ≤ i ∧ i < len ∧ K (.ref (padd p (i.toNat * n)) (cs.drop (i.toNat * n))) | none => False
@[congr] theorem idxR_congr {p : Value} {cs : List AV} {len : Nat} {i : Int} {n n' : Option Nat} (hn : n = n') : idxR p cs len i n K = idxR p cs len i n' K := by rw [hn]
@[go_sem] theorem idxKT_arr (e : TypeId) (p : Value) (cs : List AV) (len : Nat) (k : IntKind) (i : Int) : idxKT P (.ar len e) (szT P) (.ref p cs) (.v (.int k i)) K = idxR p cs len i (szT P e) K := rfl
@[go_sem] theorem idxR_some (p : Value) (cs : List AV) (len n : Nat) (i : Int) : idxR p cs len i (some n) K = (0 ≤ i ∧ i < len ∧ K (.ref (padd p (i.toNat * n)) (cs.drop (i.toNat * n)))) := rfl

def bytK (o : Option UInt8) (K : AV → Prop) : Prop := match o with | some b => K (.v (.int .u8 b.toNat)) | none => False
@[congr] theorem bytK_congr {o o' : Option UInt8} (h : o = o') : bytK o K = bytK o' K := by rw [h]
@[go_sem] theorem bytK_some (b : UInt8) : bytK (some b) K = K (.v (.int .u8 b.toNat)) := rfl
def isS (k : KT) : Bool := match k with | .s => true | _ => false
@[go_sem] theorem isS_s : isS .s = true := rfl
@[go_sem ↓] theorem indexK_str (t : TypeId) (s : ByteArray) (k : IntKind) (i : Int) : indexK P t (.v (.string s)) (.v (.int k i)) K = (isS (kindT P t) = true ∧ 0 ≤ i ∧ bytK s[i.toNat]? K) := by
  simp only [indexK]; cases kindT P t <;> simp [isS, bytK] <;> (intro _; exact Iff.rfl)

def isSl (k : KT) : Bool := match k with | .sl _ => true | _ => false
@[go_sem] theorem isSl_sl (e : TypeId) : isSl (.sl e) = true := rfl
@[go_sem ↓] theorem lenK_str (hp : Hp) (t : TypeId) (s : ByteArray) : lenK P hp t (.v (.string s)) K = (isS (kindT P t) = true ∧ K (.v (.int .i64 s.size))) := by
  simp only [lenK]; cases kindT P t <;> simp [isS]
@[go_sem ↓] theorem lenK_lst (hp : Hp) (t : TypeId) (sz : Nat) (h : Value) (xs : List AV) : lenK P hp t (.lst sz h xs) K = (isSl (kindT P t) = true ∧ K (.v (.int .i64 xs.length))) := by
  simp only [lenK]; cases kindT P t <;> simp [isSl]
@[go_sem ↓] theorem lenK_slv (hp : Hp) (t : TypeId) (a : Option Addr) (n c : Nat) : lenK P hp t (.v (.slice a n c)) K = (isSl (kindT P t) = true ∧ K (.v (.int .i64 n))) := by
  simp only [lenK]; cases kindT P t <;> simp [isSl]
end
end Go.AL
