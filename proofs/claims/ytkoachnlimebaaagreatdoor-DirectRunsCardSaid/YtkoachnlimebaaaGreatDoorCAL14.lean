/- The rules of the symbolic execution as equations, for simp. -/
import Derived.Test.YtkoachnlimebaaaGreatDoorCAL12
set_option linter.unusedVariables false
namespace Go.AL
section
variable {P : Program} {mu : List Nat} {K : St → Prop} {Q : Exit → St → Prop} {st : St}

@[go_sem ↓] theorem awp_skip : awp P mu .skip Q st = Q .normal st := rfl
@[go_sem ↓] theorem awp_seq (x y : Code) : awp P mu (.seq x y) Q st = awp P mu x (thenA (awp P mu y Q) Q) st := rfl
@[go_sem ↓] theorem awp_block (id : Nat) (c : Code) : awp P mu (.block id c) Q st = awp P mu c (inBlk id Q) st := rfl
@[go_sem ↓] theorem awp_exit (id : Nat) : awp P mu (.exit id) Q st = Q (.exit id) st := rfl
@[go_sem ↓] theorem awp_ret : awp P mu .ret Q st = Q .ret st := rfl
@[go_sem ↓] theorem awp_loop (c : Code) : awp P mu (.loop c) Q st = awpX P (.loop c) Q st ⟨⟩ ⟨⟩ := rfl
def regK (P : Program) (mu : List Nat) (ds : List (Option Nat)) (K : St → Prop) (l : List Oper) (st : St) : Prop := aopsK P mu ds K l st
@[congr] theorem regK_congr {ds ds' : List (Option Nat)} {l : List Oper} {st' : St} (h : ds = ds') (h' : st = st') : regK P mu ds K l st = regK P mu ds' K l st' := by rw [h, h']
@[go_sem ↓] theorem awp_region (id : Nat) (l : List Oper) : awp P mu (.region id l.toArray false) Q st = regK P mu (l.map Oper.dst) (Q .normal) l st := rfl
@[go_sem] theorem regK_start (ds : List (Option Nat)) (l : List Oper) : regK P mu ds K l st = aopsK P mu ds K l st := rfl
@[go_sem ↓] theorem awp_draw (id : Nat) (ops : Array Oper) : awp P mu (.region id ops true) Q st = awpX P (.region id ops true) Q st ⟨⟩ ⟨⟩ := rfl
def condK (P : Program) (mu : List Nat) (o : Option AV) (x y : Code) (Q : Exit → St → Prop) (st : St) : Prop :=
  match o with
  | some (.v (.bool t)) => brK t (awp P mu x Q st) (awp P mu y Q st) ⟨⟩
  | _ => False
@[congr] theorem condK_congr {o o' : Option AV} {x y : Code} {st' : St} (h : o = o') (h' : st = st') : condK P mu o x y Q st = condK P mu o' x y Q st' := by rw [h, h']
@[go_sem ↓] theorem awp_cond (c : Operand) (x y : Code) : awp P mu (.cond c x y) Q st = condK P mu (st.ev c) x y Q st := rfl
@[go_sem] theorem condK_bool (t : Bool) (x y : Code) : condK P mu (some (.v (.bool t))) x y Q st = brK t (awp P mu x Q st) (awp P mu y Q st) ⟨⟩ := rfl

def guardK (P : Program) (mu : List Nat) (ds : List (Option Nat)) (K : St → Prop) (g : Option AV) (want : Bool) (o : Oper) (rest : List Oper) (st : St) : Prop :=
  match g with
  | some (.v (.bool b)) => brK (b == want) (aopK P mu o (aopsK P mu ds K rest) st) (dstOk st o.dst ∧ aopsK P mu ds K rest (st.putO o.dst (.v undef))) ⟨⟩
  | some (.v (.tuple _)) => dstOk st o.dst ∧ aopsK P mu ds K rest (st.putO o.dst (.v undef))
  | _ => False
@[congr] theorem guardK_congr {ds : List (Option Nat)} {g g' : Option AV} {want : Bool} {o : Oper} {rest : List Oper} {st' : St} (h : g = g') (h' : st = st') : guardK P mu ds K g want o rest st = guardK P mu ds K g' want o rest st' := by rw [h, h']
@[go_sem] theorem guardK_bool (ds : List (Option Nat)) (b want : Bool) (o : Oper) (rest : List Oper) : guardK P mu ds K (some (.v (.bool b))) want o rest st = brK (b == want) (aopK P mu o (aopsK P mu ds K rest) st) (dstOk st o.dst ∧ aopsK P mu ds K rest (st.putO o.dst (.v undef))) ⟨⟩ := rfl
@[go_sem] theorem guardK_undef (ds : List (Option Nat)) (want : Bool) (o : Oper) (rest : List Oper) : guardK P mu ds K (some (.v undef)) want o rest st = (dstOk st o.dst ∧ aopsK P mu ds K rest (st.putO o.dst (.v undef))) := rfl

@[go_sem ↓] theorem aopsK_nil (ds : List (Option Nat)) : aopsK P mu ds K [] st = K st := rfl
@[go_sem ↓] theorem aopsK_cons (ds : List (Option Nat)) (d : Option Nat) (op : Op) (ty : TypeId) (pos : String) (aft : Array Edge) (rest : List Oper) :
    aopsK P mu ds K (⟨d, op, ty, pos, aft, none⟩ :: rest) st = aopK P mu ⟨d, op, ty, pos, aft, none⟩ (aopsK P mu ds K rest) st := rfl
def slOf (st : St) (ds : List (Option Nat)) (j : Nat) : Option AV := match (ds[j]?).bind id with | some d => st.sl d | none => none
theorem aopsK_guard' (ds : List (Option Nat)) (d : Option Nat) (op : Op) (ty : TypeId) (pos : String) (aft : Array Edge) (j : Nat) (want : Bool) (rest : List Oper) :
    aopsK P mu ds K (⟨d, op, ty, pos, aft, some (j, want)⟩ :: rest) st = guardK P mu ds K (slOf st ds j) want ⟨d, op, ty, pos, aft, some (j, want)⟩ rest st := by
  rw [aopsK]
  simp only [slOf]
  cases (ds[j]?).bind id with
  | none => rfl
  | some d =>
    simp only [guardK]
    cases st.sl d with
    | none => rfl
    | some x => cases x with
      | v y => cases y <;> rfl
      | _ => rfl
@[go_sem ↓] theorem aopsK_guard (ds : List (Option Nat)) (d : Option Nat) (op : Op) (ty : TypeId) (pos : String) (aft : Array Edge) (j : Nat) (want : Bool) (rest : List Oper) :
    aopsK P mu ds K (⟨d, op, ty, pos, aft, some (j, want)⟩ :: rest) st = guardK P mu ds K (slOf st ds j) want ⟨d, op, ty, pos, aft, some (j, want)⟩ rest st := aopsK_guard' ds d op ty pos aft j want rest
@[go_sem] theorem slOf_zero (d : Nat) (ds : List (Option Nat)) : slOf st (some d :: ds) 0 = st.sl d := rfl
@[go_sem] theorem slOf_succ (d : Option Nat) (ds : List (Option Nat)) (j : Nat) : slOf st (d :: ds) (j + 1) = slOf st ds j := rfl

def sliceA (P : Program) (d : Option Nat) (k : KT) (a : AV) (l h m : Option Operand) (K : St → Prop) (st : St) : Prop :=
  match k, a with
  | .s, .v (.string s) => m = none ∧ dstOk st d ∧ bndK st h s.size fun hi => bndK st l 0 fun lo => 0 ≤ lo ∧ lo ≤ hi ∧ hi ≤ s.size ∧ K (st.putO d (.v (.string (s.extract lo.toNat hi.toNat))))
  | .sl e, .lst sz hd xs => szT P e = some sz ∧ dstOk st d ∧ bndK st h xs.length fun hi => bndK st l 0 fun lo => 0 ≤ lo ∧ lo ≤ hi ∧ hi ≤ xs.length ∧
    (match m with
    | none => ∀ a' c', K (st.putO d (.lst sz (.slice a' (hi.toNat - lo.toNat) c') ((xs.take hi.toNat).drop lo.toNat)))
    | some _ => h ≠ none ∧ bndK st m 0 fun mx => hi ≤ mx ∧ mx ≤ xs.length ∧ ∀ a', K (st.putO d (.lst sz (.slice a' (hi.toNat - lo.toNat) (mx.toNat - lo.toNat)) ((xs.take hi.toNat).drop lo.toNat))))
  | .sl e, .v (.slice a n c) => withN (szT P e) fun sz => dstOk st d ∧ bndK st h n fun hi => bndK st l 0 fun lo => 0 ≤ lo ∧ lo ≤ hi ∧
    (match m with
    | none => hi ≤ c ∧ K (st.putO d (rawSl a sz lo hi c))
    | some _ => h ≠ none ∧ bndK st m 0 fun mx => hi ≤ mx ∧ mx ≤ c ∧ K (st.putO d (rawSl a sz lo hi mx)))
  | _, _ => False
@[go_sem] theorem withN_some (n : Nat) (K : Nat → Prop) : withN (some n) K = K n := rfl
@[go_sem] theorem sliceA_r2 (d : Option Nat) (e : TypeId) (a : Option Addr) (n c : Nat) (l h : Option Operand) : sliceA P d (.sl e) (.v (.slice a n c)) l h none K st =
    withN (szT P e) fun sz => dstOk st d ∧ bndK st h n fun hi => bndK st l 0 fun lo => 0 ≤ lo ∧ lo ≤ hi ∧ hi ≤ c ∧ K (st.putO d (rawSl a sz lo hi c)) := rfl
@[go_sem] theorem sliceA_r3 (d : Option Nat) (e : TypeId) (a : Option Addr) (n c : Nat) (l : Option Operand) (h m : Operand) : sliceA P d (.sl e) (.v (.slice a n c)) l (some h) (some m) K st =
    withN (szT P e) fun sz => dstOk st d ∧ bndK st (some h) n fun hi => bndK st l 0 fun lo => 0 ≤ lo ∧ lo ≤ hi ∧ bndK st (some m) 0 fun mx => hi ≤ mx ∧ mx ≤ c ∧ K (st.putO d (rawSl a sz lo hi mx)) := by
  simp only [sliceA, ne_eq, reduceCtorEq, not_false_eq_true, true_and]
@[go_sem] theorem rawSl_full (a : Option Addr) (sz : Nat) (hi mx : Int) : rawSl a sz 0 hi mx = .v (.slice a hi.toNat mx.toNat) := by
  cases a with
  | none => simp [rawSl]
  | some a => obtain ⟨b, o, s⟩ := a; cases s <;> simp [rawSl, Addr.add]
@[go_sem] theorem sliceA_s (d : Option Nat) (s : ByteArray) (l h : Option Operand) : sliceA P d .s (.v (.string s)) l h none K st = (dstOk st d ∧ bndK st h s.size fun hi => bndK st l 0 fun lo => 0 ≤ lo ∧ lo ≤ hi ∧ hi ≤ s.size ∧ K (st.putO d (.v (.string (s.extract lo.toNat hi.toNat))))) := by
  simp only [sliceA, true_and]
@[go_sem] theorem sliceA_l2 (d : Option Nat) (e : TypeId) (sz : Nat) (hd : Value) (xs : List AV) (l h : Option Operand) : sliceA P d (.sl e) (.lst sz hd xs) l h none K st =
    (szT P e = some sz ∧ dstOk st d ∧ bndK st h xs.length fun hi => bndK st l 0 fun lo => 0 ≤ lo ∧ lo ≤ hi ∧ hi ≤ xs.length ∧
      ∀ a' c', K (st.putO d (.lst sz (.slice a' (hi.toNat - lo.toNat) c') ((xs.take hi.toNat).drop lo.toNat)))) := rfl
@[go_sem] theorem sliceA_l3 (d : Option Nat) (e : TypeId) (sz : Nat) (hd : Value) (xs : List AV) (l : Option Operand) (h m : Operand) : sliceA P d (.sl e) (.lst sz hd xs) l (some h) (some m) K st =
    (szT P e = some sz ∧ dstOk st d ∧ bndK st (some h) xs.length fun hi => bndK st l 0 fun lo => 0 ≤ lo ∧ lo ≤ hi ∧ hi ≤ xs.length ∧
      bndK st (some m) 0 fun mx => hi ≤ mx ∧ mx ≤ xs.length ∧ ∀ a', K (st.putO d (.lst sz (.slice a' (hi.toNat - lo.toNat) (mx.toNat - lo.toNat)) ((xs.take hi.toNat).drop lo.toNat)))) := by
  simp only [sliceA, ne_eq, reduceCtorEq, not_false_eq_true, true_and]
def bndE (o : Option AV) (K : Int → Prop) : Prop := match o with | some (.v (.int _ i)) => K i | _ => False
@[go_sem] theorem bndK_none (d : Int) (K : Int → Prop) : bndK st none d K = K d := rfl
@[go_sem ↓] theorem bndK_some (x : Operand) (d : Int) (K : Int → Prop) : bndK st (some x) d K = bndE (st.ev x) K := rfl
@[go_sem] theorem bndE_int (k : IntKind) (i : Int) (K : Int → Prop) : bndE (some (.v (.int k i))) K = K i := rfl
def mkSA (P : Program) (d : Option Nat) (k : KT) (n c : Option AV) (K : St → Prop) (st : St) : Prop :=
  match k, n, c with
  | .sl e, some (.v (.int _ n)), some (.v (.int _ c)) => (match szT P e, zeroT P e, bytesT P e with
    | some sz, some z, some by_ => z.cells.size = sz ∧ 0 ≤ n ∧ n ≤ c ∧ c ≤ maxLen ∧ c * by_ ≤ 140737488355328 ∧ dstOk st d ∧
      ∀ b, Fresh st.hp b → K ((st.setHp (st.hp.setBlk b e ((List.replicate c.toNat z.cells.toList).flatten.map AV.v))).putO d (.v (.slice (some ⟨b, 0, none⟩) n.toNat c.toNat)))
    | _, _, _ => False)
  | _, _, _ => False
def mkSB (d : Option Nat) (e : TypeId) (n c : Int) (sz : Option Nat) (z : Option Value) (by_ : Option Nat) (K : St → Prop) (st : St) : Prop :=
  match sz, z, by_ with
    | some sz, some z, some by_ => z.cells.size = sz ∧ 0 ≤ n ∧ n ≤ c ∧ c ≤ maxLen ∧ c * by_ ≤ 140737488355328 ∧ dstOk st d ∧
      ∀ b, Fresh st.hp b → K ((st.setHp (st.hp.setBlk b e ((List.replicate c.toNat z.cells.toList).flatten.map AV.v))).putO d (.v (.slice (some ⟨b, 0, none⟩) n.toNat c.toNat)))
    | _, _, _ => False
@[go_sem] theorem mkSA_int (d : Option Nat) (e : TypeId) (k k' : IntKind) (n c : Int) : mkSA P d (.sl e) (some (.v (.int k n))) (some (.v (.int k' c))) K st = mkSB d e n c (szT P e) (zeroT P e) (bytesT P e) K st := rfl
@[go_sem] theorem mkSB_some (d : Option Nat) (e : TypeId) (n c : Int) (sz : Nat) (z : Value) (by_ : Nat) : mkSB d e n c (some sz) (some z) (some by_) K st =
    (z.cells.size = sz ∧ 0 ≤ n ∧ n ≤ c ∧ c ≤ maxLen ∧ c * by_ ≤ 140737488355328 ∧ dstOk st d ∧
      ∀ b, Fresh st.hp b → K ((st.setHp (st.hp.setBlk b e ((List.replicate c.toNat z.cells.toList).flatten.map AV.v))).putO d (.v (.slice (some ⟨b, 0, none⟩) n.toNat c.toNat)))) := rfl

section
variable (d : Option Nat) (ty : TypeId) (pos : String) (aft : Array Edge) (g : Option (Nat × Bool))
@[go_sem ↓] theorem aopK_move (x : Operand) : aopK P mu ⟨d, .move x, ty, pos, aft, g⟩ K st = withAV (st.ev x) fun x => dstOk st d ∧ K (st.putO d x) := rfl
@[go_sem ↓] theorem aopK_assign (x : Operand) : aopK P mu ⟨d, .assign x, ty, pos, aft, g⟩ K st = withAV (st.ev x) fun x => dstOk st d ∧ K (st.putO d x) := rfl
@[go_sem ↓] theorem aopK_pick (c a b : Operand) : aopK P mu ⟨d, .pick c a b, ty, pos, aft, g⟩ K st = withAV (st.ev c) fun c => pickK c (st.ev a) (st.ev b) fun x => dstOk st d ∧ K (st.putO d x) := rfl
@[go_sem ↓] theorem aopK_bin (op : BinOp) (t t' : TypeId) (x y : Operand) : aopK P mu ⟨d, .binOp op t x y t', ty, pos, aft, g⟩ K st = withAV (st.ev x) fun a => withAV (st.ev y) fun b => binK P op t a b fun x => dstOk st d ∧ K (st.putO d x) := rfl
@[go_sem ↓] theorem aopK_un (op : UnOp) (t : TypeId) (x : Operand) : aopK P mu ⟨d, .unOp op t x, ty, pos, aft, g⟩ K st = withAV (st.ev x) fun a => unK op a fun x => dstOk st d ∧ K (st.putO d x) := rfl
@[go_sem ↓] theorem aopK_load (t : TypeId) (x : Operand) : aopK P mu ⟨d, .load t x, ty, pos, aft, g⟩ K st = withAV (st.ev x) fun a => loadK P st.hp t a fun x => dstOk st d ∧ K (st.putO d x) := rfl
@[go_sem ↓] theorem aopK_fieldAddr (t : TypeId) (x : Operand) (f : Nat) : aopK P mu ⟨d, .fieldAddr t x f, ty, pos, aft, g⟩ K st = withAV (st.ev x) fun a => fieldAddrK P t a f fun x => dstOk st d ∧ K (st.putO d x) := rfl
@[go_sem ↓] theorem aopK_indexAddr (t : TypeId) (x i : Operand) : aopK P mu ⟨d, .indexAddr t x i, ty, pos, aft, g⟩ K st = withAV (st.ev x) fun a => withAV (st.ev i) fun i => indexAddrK P t a i fun x => dstOk st d ∧ K (st.putO d x) := rfl
@[go_sem ↓] theorem aopK_index (t : TypeId) (x i : Operand) : aopK P mu ⟨d, .index t x i, ty, pos, aft, g⟩ K st = withAV (st.ev x) fun a => withAV (st.ev i) fun i => indexK P t a i fun x => dstOk st d ∧ K (st.putO d x) := rfl
@[go_sem ↓] theorem aopK_field (t : TypeId) (x : Operand) (f : Nat) : aopK P mu ⟨d, .field t x f, ty, pos, aft, g⟩ K st = withAV (st.ev x) fun a => fieldK P t a f fun x => dstOk st d ∧ K (st.putO d x) := rfl
@[go_sem ↓] theorem aopK_extract (x : Operand) (i : Nat) : aopK P mu ⟨d, .extract x i, ty, pos, aft, g⟩ K st = withAV (st.ev x) fun a => extractK a i fun x => dstOk st d ∧ K (st.putO d x) := rfl
@[go_sem ↓] theorem aopK_convert (s t : TypeId) (x : Operand) : aopK P mu ⟨d, .convert s t x, ty, pos, aft, g⟩ K st = withAV (st.ev x) fun a => cvtK P s t a fun x => dstOk st d ∧ K (st.putO d x) := rfl
@[go_sem ↓] theorem aopK_mkIfc (t : TypeId) (x : Operand) : aopK P mu ⟨d, .makeInterface t x, ty, pos, aft, g⟩ K st = withAV (st.ev x) fun a => mkIfcK P t a fun x => dstOk st d ∧ K (st.putO d x) := rfl
@[go_sem ↓] theorem aopK_mkFn (f : Fn) (a b : Array Operand) : aopK P mu ⟨d, .makeFunc f a b, ty, pos, aft, g⟩ K st = mkFnK st f a b fun x => dstOk st d ∧ K (st.putO d x) := rfl
@[go_sem ↓] theorem aopK_nilCheck (x : Operand) : aopK P mu ⟨d, .nilCheck x, ty, pos, aft, g⟩ K st = withAV (st.ev x) fun a => nilCheckK a fun x => dstOk st d ∧ K (st.putO d x) := rfl
@[go_sem ↓] theorem aopK_lookup (t : TypeId) (m k : Operand) (ok : Bool) : aopK P mu ⟨d, .lookup t m k ok, ty, pos, aft, g⟩ K st = withAV (st.ev m) fun a => withAV (st.ev k) fun b => lookupK P st.hp t a b ok fun x => dstOk st d ∧ K (st.putO d x) := rfl
@[go_sem ↓] theorem aopK_len (x : Operand) (t : TypeId) : aopK P mu ⟨d, .call { callee := .builtin .len, args := #[x], argTypes := #[t] }, ty, pos, aft, g⟩ K st = withAV (st.ev x) fun a => lenK P st.hp t a fun x => dstOk st d ∧ K (st.putO d x) := rfl
@[go_sem ↓] theorem aopK_alloc (t : TypeId) : aopK P mu ⟨d, .alloc t, ty, pos, aft, g⟩ K st = allocK P ⟨d, .alloc t, ty, pos, aft, g⟩ t K st := rfl
@[go_sem ↓] theorem aopK_box (t : TypeId) (x : Operand) : aopK P mu ⟨d, .box t x, ty, pos, aft, g⟩ K st = boxK mu ⟨d, .box t x, ty, pos, aft, g⟩ t x K st := rfl
@[go_sem ↓] theorem aopK_store (t : TypeId) (p x : Operand) : aopK P mu ⟨d, .store t p x, ty, pos, aft, g⟩ K st = storeK P mu ⟨d, .store t p x, ty, pos, aft, g⟩ t p x K st := rfl
@[go_sem ↓] theorem aopK_build (t : TypeId) (l : List (Nat × Operand)) : aopK P mu ⟨d, .build t l.toArray, ty, pos, aft, g⟩ K st = buildK P ⟨d, .build t l.toArray, ty, pos, aft, g⟩ t l.toArray K st := rfl
def litMX (P : Program) (m : Bool) (o : Oper) (t : TypeId) (len : Nat) (parts : Array (Nat × Operand)) (K : St → Prop) (st : St) (_ : Fix K) (_ : Fix o) : Prop := litM P m o t len parts K st
@[go_sem ↓] theorem aopK_lit (t : TypeId) (n : Nat) (l : List (Nat × Operand)) : aopK P mu ⟨d, .buildSlice t n l.toArray, ty, pos, aft, g⟩ K st = litMX P (mu.contains (d.getD 0)) ⟨d, .buildSlice t n l.toArray, ty, pos, aft, g⟩ t n l.toArray K st ⟨⟩ ⟨⟩ := rfl
@[go_sem ↓] theorem aopK_makeMap (t : TypeId) : aopK P mu ⟨d, .makeMap t none, ty, pos, aft, g⟩ K st = (dstOk st d ∧ ∀ b, Fresh st.hp b → K ((st.setHp (st.hp.setMp b [])).putO d (.v (.map (some b))))) := rfl
@[go_sem ↓] theorem aopK_insert (t : TypeId) (m k x : Operand) : aopK P mu ⟨d, .insert t m k x, ty, pos, aft, g⟩ K st = mapUpdK P ⟨d, .insert t m k x, ty, pos, aft, g⟩ t m k x K st := rfl
@[go_sem ↓] theorem aopK_mapUpdate (t : TypeId) (m k x : Operand) : aopK P mu ⟨d, .mapUpdate t m k x, ty, pos, aft, g⟩ K st = mapUpdK P ⟨d, .mapUpdate t m k x, ty, pos, aft, g⟩ t m k x K st := rfl
@[go_sem ↓] theorem aopK_call (f : Operand) (l : List Operand) (ts : Array TypeId) : aopK P mu ⟨d, .call { callee := .value f, args := l.toArray, argTypes := ts }, ty, pos, aft, g⟩ K st = aval P ⟨d, .call { callee := .value f, args := l.toArray, argTypes := ts }, ty, pos, aft, g⟩ f l.toArray K st := rfl
@[go_sem ↓] theorem aopK_append (l : List Operand) (ts : Array TypeId) : aopK P mu ⟨d, .call { callee := .builtin .append, args := l.toArray, argTypes := ts }, ty, pos, aft, g⟩ K st = aopX P ⟨d, .call { callee := .builtin .append, args := l.toArray, argTypes := ts }, ty, pos, aft, g⟩ K st ⟨⟩ ⟨⟩ := rfl
@[go_sem ↓] theorem aopK_slice (t : TypeId) (x : Operand) (lo hi mx : Option Operand) : aopK P mu ⟨d, .slice t x lo hi mx, ty, pos, aft, g⟩ K st = withAV (st.ev x) fun a => sliceA P d (kindT P t) a lo hi mx K st := rfl
@[go_sem ↓] theorem aopK_makeSlice (t : TypeId) (x y : Operand) : aopK P mu ⟨d, .makeSlice t x y, ty, pos, aft, g⟩ K st = mkSA P d (kindT P t) (st.ev x) (st.ev y) K st := rfl
@[go_sem ↓] theorem aopK_range (t : TypeId) (x : Operand) : aopK P mu ⟨d, .range t x, ty, pos, aft, g⟩ K st = aopX P ⟨d, .range t x, ty, pos, aft, g⟩ K st ⟨⟩ ⟨⟩ := rfl
@[go_sem ↓] theorem aopK_next (x : Operand) (b : Bool) : aopK P mu ⟨d, .next x b, ty, pos, aft, g⟩ K st = aopX P ⟨d, .next x b, ty, pos, aft, g⟩ K st ⟨⟩ ⟨⟩ := rfl
@[go_sem ↓] theorem aopK_typeAssert (x : Operand) (s t : TypeId) (c : Bool) : aopK P mu ⟨d, .typeAssert x s t c, ty, pos, aft, g⟩ K st = aopX P ⟨d, .typeAssert x s t c, ty, pos, aft, g⟩ K st ⟨⟩ ⟨⟩ := rfl
end
end

/-! ### What simp may look into -/
def blkK (P : Program) (x : Option (TypeId × List AV)) (t : TypeId) (o : Nat) (K : AV → Prop) : Prop := match x with | some (_, cs) => readK P t (cs.drop o) K | none => False
section
variable {K : AV → Prop} {P : Program}
@[congr] theorem withAV_congr {o o' : Option AV} (h : o = o') : withAV o K = withAV o' K := by rw [h]
@[congr] theorem pickK_congr {c c' : AV} {a a' b b' : Option AV} (h : c = c') (h1 : a = a') (h2 : b = b') : pickK c a b K = pickK c' a' b' K := by rw [h, h1, h2]
@[congr] theorem readK_congr {t : TypeId} {cs cs' : List AV} (h : cs = cs') : readK P t cs K = readK P t cs' K := by rw [h]
@[congr] theorem loadK_congr {hp hp' : Hp} {t : TypeId} {a a' : AV} (h : hp = hp') (h1 : a = a') : loadK P hp t a K = loadK P hp' t a' K := by rw [h, h1]
@[congr] theorem blkK_congr {x x' : Option (TypeId × List AV)} {t : TypeId} {o o' : Nat} (h : x = x') (h1 : o = o') : blkK P x t o K = blkK P x' t o' K := by rw [h, h1]
@[congr] theorem fieldAddrK_congr {t : TypeId} {f : Nat} {a a' : AV} (h : a = a') : fieldAddrK P t a f K = fieldAddrK P t a' f K := by rw [h]
@[congr] theorem indexAddrK_congr {t : TypeId} {a a' i i' : AV} (h : a = a') (h1 : i = i') : indexAddrK P t a i K = indexAddrK P t a' i' K := by rw [h, h1]
@[congr] theorem indexK_congr {t : TypeId} {a a' i i' : AV} (h : a = a') (h1 : i = i') : indexK P t a i K = indexK P t a' i' K := by rw [h, h1]
@[congr] theorem lenK_congr {hp hp' : Hp} {t : TypeId} {a a' : AV} (h : hp = hp') (h1 : a = a') : lenK P hp t a K = lenK P hp' t a' K := by rw [h, h1]
@[congr] theorem extractK_congr {i : Nat} {a a' : AV} (h : a = a') : extractK a i K = extractK a' i K := by rw [h]
@[congr] theorem fieldK_congr {t : TypeId} {f : Nat} {a a' : AV} (h : a = a') : fieldK P t a f K = fieldK P t a' f K := by rw [h]
@[congr] theorem unK_congr {op : UnOp} {a a' : AV} (h : a = a') : unK op a K = unK op a' K := by rw [h]
@[congr] theorem intK_congr {op : BinOp} {k : IntKind} {x x' y y' : Int} (h : x = x') (h1 : y = y') : intK op k x y K = intK op k x' y' K := by rw [h, h1]
@[congr] theorem strK_congr {op : BinOp} {x x' y y' : ByteArray} (h : x = x') (h1 : y = y') : strK op x y K = strK op x' y' K := by rw [h, h1]
@[congr] theorem eqB_congr {op : BinOp} {r r' : Bool} (h : r = r') : eqB op r K = eqB op r' K := by rw [h]
@[congr] theorem binK_congr {op : BinOp} {t : TypeId} {a a' b b' : AV} (h : a = a') (h1 : b = b') : binK P op t a b K = binK P op t a' b' K := by rw [h, h1]
@[congr] theorem cvtK_congr {s d : TypeId} {a a' : AV} (h : a = a') : cvtK P s d a K = cvtK P s d a' K := by rw [h]
@[congr] theorem nilCheckK_congr {a a' : AV} (h : a = a') : nilCheckK a K = nilCheckK a' K := by rw [h]
@[congr] theorem mkIfcK_congr {t : TypeId} {a a' : AV} (h : a = a') : mkIfcK P t a K = mkIfcK P t a' K := by rw [h]
@[congr] theorem mkFnK_congr {st st' : St} {f : Fn} {a b : Array Operand} (h : st = st') : mkFnK st f a b K = mkFnK st' f a b K := by rw [h]
@[congr] theorem lookupK_congr {hp hp' : Hp} {t : TypeId} {ok : Bool} {a a' b b' : AV} (h : hp = hp') (h1 : a = a') (h2 : b = b') : lookupK P hp t a b ok K = lookupK P hp' t a' b' ok K := by rw [h, h1, h2]
end

section
variable {P : Program}
/-! ### The values -/
@[go_sem ↓] theorem pickK_true (a b : Option AV) (K : AV → Prop) : pickK (.v (.bool true)) a b K = withAV a K := rfl
@[go_sem ↓] theorem pickK_false (a b : Option AV) (K : AV → Prop) : pickK (.v (.bool false)) a b K = withAV b K := rfl
@[go_sem ↓] theorem pickK_bools (t x y : Bool) (K : AV → Prop) : pickK (.v (.bool t)) (some (.v (.bool x))) (some (.v (.bool y))) K = K (.v (.bool (if t = true then x else y))) := by cases t <;> rfl
@[go_sem ↓] theorem loadK_ref (hp : Hp) (t : TypeId) (p : Value) (cs : List AV) (K : AV → Prop) : loadK P hp t (.ref p cs) K = readK P t cs K := rfl
@[go_sem ↓] theorem loadK_ptr (hp : Hp) (t : TypeId) (b o : Nat) (K : AV → Prop) : loadK P hp t (.v (.pointer (some ⟨b, o, none⟩))) K = blkK P (hp.blk b) t o K := rfl
@[go_sem] theorem blkK_some (T t : TypeId) (cs : List AV) (o : Nat) (K : AV → Prop) : blkK P (some (T, cs)) t o K = readK P t (cs.drop o) K := rfl
@[go_sem ↓] theorem unK_not (b : Bool) (K : AV → Prop) : unK .not (.v (.bool b)) K = K (.v (.bool !b)) := rfl
@[go_sem ↓] theorem unK_neg (k : IntKind) (n : Int) (K : AV → Prop) : unK .neg (.v (.int k n)) K = K (.v (.int k (k.wrap (0 - n)))) := rfl
@[go_sem ↓] theorem binK_int (op : BinOp) (t : TypeId) (k : IntKind) (x y : Int) (K : AV → Prop) : binK P op t (.v (.int k x)) (.v (.int k y)) K = intK op k x y K := by simp [binK]
@[go_sem ↓] theorem binK_str (op : BinOp) (t : TypeId) (x y : ByteArray) (K : AV → Prop) : binK P op t (.v (.string x)) (.v (.string y)) K = strK op x y K := rfl
attribute [go_sem] intK strK eqB
def aggO (op : BinOp) (r : Option Bool) (K : AV → Prop) : Prop := match r with | some r => eqB op r K | none => False
def aggE (P : Program) (op : BinOp) (t : TypeId) (k : KT) (xs ys : List AV) (K : AV → Prop) : Prop :=
  match k with
  | .st fs => eqT P t = true ∧ (match eqS P fs xs ys with | some r => eqB op r K | none => False)
  | _ => False
def isB (k : KT) : Bool := match k with | .b => true | _ => false
def isP (k : KT) : Bool := match k with | .p _ => true | _ => false
def isI (k : KT) : Bool := match k with | .ifc => true | _ => false
@[go_sem ↓] theorem binK_bool (op : BinOp) (t : TypeId) (x y : Bool) (K : AV → Prop) : binK P op t (.v (.bool x)) (.v (.bool y)) K = if isB (kindT P t) = true then eqB op (x == y) K else False := by
  simp only [binK]; cases kindT P t <;> simp [isB]
@[go_sem ↓] theorem binK_refnil (op : BinOp) (t : TypeId) (p : Value) (cs : List AV) (K : AV → Prop) : binK P op t (.ref p cs) (.v (.pointer none)) K = if isP (kindT P t) = true then eqB op false K else False := by
  simp only [binK]; cases kindT P t <;> simp [isP]
@[go_sem ↓] theorem binK_nilnil (op : BinOp) (t : TypeId) (K : AV → Prop) : binK P op t (.v (.pointer none)) (.v (.pointer none)) K = if isP (kindT P t) = true then eqB op true K else False := by
  simp only [binK]; cases kindT P t <;> simp [isP]
@[go_sem ↓] theorem binK_ptrnil (op : BinOp) (t : TypeId) (a : Addr) (K : AV → Prop) : binK P op t (.v (.pointer (some a))) (.v (.pointer none)) K = if isP (kindT P t) = true then eqB op false K else False := by
  simp only [binK]; cases kindT P t <;> simp [isP]
@[go_sem ↓] theorem binK_ifcnil (op : BinOp) (t u : TypeId) (a : AV) (K : AV → Prop) : binK P op t (.ifc u a) (.v .nilIface) K = if isI (kindT P t) = true then eqB op false K else False := by
  simp only [binK]; cases kindT P t <;> simp [isI]
def isSl2 (k : KT) : Bool := match k with | .sl _ => true | _ => false
attribute [go_sem] isSl2 nilB
@[go_sem ↓] theorem binK_lstnil (op : BinOp) (t : TypeId) (sz : Nat) (h : Value) (xs : List AV) (K : AV → Prop) : binK P op t (.lst sz h xs) (.v (.slice none 0 0)) K = if isSl2 (kindT P t) = true then eqB op (nilB h) K else False := by
  simp only [binK]; cases kindT P t <;> simp [isSl2]
@[go_sem ↓] theorem binK_slnil (op : BinOp) (t : TypeId) (a : Option Addr) (n c : Nat) (K : AV → Prop) : binK P op t (.v (.slice a n c)) (.v (.slice none 0 0)) K = if isSl2 (kindT P t) = true then eqB op (nilB (.slice a n c)) K else False := by
  simp only [binK]; cases kindT P t <;> simp [isSl2]
@[go_sem ↓] theorem binK_agg (op : BinOp) (t : TypeId) (xs ys : List AV) (K : AV → Prop) : binK P op t (.agg xs) (.agg ys) K = aggE P op t (kindT P t) xs ys K := rfl
@[go_sem] theorem aggE_st (op : BinOp) (t : TypeId) (fs : List (Nat × TypeId × Nat)) (xs ys : List AV) (K : AV → Prop) : aggE P op t (.st fs) xs ys K = (eqT P t = true ∧ aggO op (eqS P fs xs ys) K) := rfl
@[go_sem] theorem aggO_some (op : BinOp) (r : Bool) (K : AV → Prop) : aggO op (some r) K = eqB op r K := rfl
@[go_sem] theorem eqS_nil : eqS P [] [] [] = some true := rfl
@[go_sem] theorem eqS_cons (f : Nat × TypeId × Nat) (fs : List (Nat × TypeId × Nat)) (x y : AV) (xs ys : List AV) : eqS P (f :: fs) (x :: xs) (y :: ys) = andO (eqF (kindT P f.2.1) x y) (eqS P fs xs ys) := rfl
@[go_sem] theorem andO_some (a b : Bool) : andO (some a) (some b) = some (a && b) := rfl
@[go_sem] theorem eqF_int (k k1 : IntKind) (a b : Int) : eqF (.i k) (.v (.int k1 a)) (.v (.int k1 b)) = some (decide (a = b)) := by simp [eqF]
@[go_sem] theorem eqF_bool (a b : Bool) : eqF .b (.v (.bool a)) (.v (.bool b)) = some (decide (a = b)) := rfl
@[go_sem] theorem eqF_str (a b : ByteArray) : eqF .s (.v (.string a)) (.v (.string b)) = some (decide (a = b)) := rfl
@[go_sem ↓] theorem nilCheckK_ref (p : Value) (cs : List AV) (K : AV → Prop) : nilCheckK (.ref p cs) K = K (.ref p cs) := rfl
@[go_sem ↓] theorem nilCheckK_ptr (x : Addr) (K : AV → Prop) : nilCheckK (.v (.pointer (some x))) K = K (.v (.pointer (some x))) := rfl
@[go_sem ↓] theorem nilCheckK_ifc (t : TypeId) (a : AV) (K : AV → Prop) : nilCheckK (.ifc t a) K = K (.ifc t a) := rfl
attribute [go_sem] isB isP isI extractK oneOf AV.cells List.getElem?_cons_zero List.getElem?_cons_succ List.length_cons List.length_nil List.map_cons List.map_nil List.drop_zero List.drop_succ_cons List.take_succ_cons List.take_zero List.drop_nil Option.getD_some Option.getD_none and_true true_and
attribute [go_sem] Option.map_some Option.map_none
def fldK (fs : List (Nat × TypeId × Nat)) (a : AV) (f : Nat) (K : AV → Prop) : Prop :=
  match fs[f]? with
  | some (off, _, n) => n ≠ 0 ∧ (match a with
    | .ref p cs => K (.ref (padd p off) (cs.drop off))
    | .v (.pointer (some ⟨b, o, none⟩)) => K (.v (.pointer (some ⟨b, o + off, none⟩)))
    | _ => False)
  | none => False
end
end Go.AL
namespace Go.AL
/-! ### Evaluations that depend on a type's kind -/
section
variable {P : Program} {K : AV → Prop}
/-- The kind is looked up first; then what hangs on it. -/
def fieldAddrKT (k : KT) (a : AV) (f : Nat) (K : AV → Prop) : Prop := match k with | .st fs => fldK fs a f K | _ => False
@[congr] theorem fieldAddrKT_congr {k k' : KT} {a : AV} {f : Nat} (h : k = k') : fieldAddrKT k a f K = fieldAddrKT k' a f K := by rw [h]
@[go_sem] theorem fieldAddrKT_st (fs : List (Nat × TypeId × Nat)) (a : AV) (f : Nat) : fieldAddrKT (.st fs) a f K = fldK fs a f K := rfl
@[go_sem ↓] theorem fieldAddrK_kt (s : TypeId) (a : AV) (f : Nat) : fieldAddrK P s a f K = fieldAddrKT (kindT P s) a f K := by
  simp only [fieldAddrK, fieldAddrKT]; cases kindT P s <;> rfl
def fldK1 (x : Option (Nat × TypeId × Nat)) (a : AV) (K : AV → Prop) : Prop :=
  match x with
  | some (off, _, n) => n ≠ 0 ∧ (match a with
    | .ref p cs => K (.ref (padd p off) (cs.drop off))
    | .v (.pointer (some ⟨b, o, none⟩)) => K (.v (.pointer (some ⟨b, o + off, none⟩)))
    | _ => False)
  | none => False
@[congr] theorem fldK1_congr {x x' : Option (Nat × TypeId × Nat)} {a : AV} (h : x = x') : fldK1 x a K = fldK1 x' a K := by rw [h]
@[go_sem ↓] theorem fldK_1 (fs : List (Nat × TypeId × Nat)) (a : AV) (f : Nat) : fldK fs a f K = fldK1 fs[f]? a K := rfl
@[go_sem] theorem fldK1_ref (off n : Nat) (t : TypeId) (p : Value) (cs : List AV) : fldK1 (some (off, t, n)) (.ref p cs) K = (n ≠ 0 ∧ K (.ref (padd p off) (cs.drop off))) := rfl
@[go_sem] theorem fldK1_ptr (off n : Nat) (t : TypeId) (b o : Nat) : fldK1 (some (off, t, n)) (.v (.pointer (some ⟨b, o, none⟩))) K = (n ≠ 0 ∧ K (.v (.pointer (some ⟨b, o + off, none⟩)))) := rfl

def fieldKT (P : Program) (k : KT) (a : AV) (f : Nat) (K : AV → Prop) : Prop := match k, a with
  | .st fs, .agg cs => (match fs[f]? with | some (off, t, _) => readK P t (cs.drop off) K | none => False)
  | _, _ => False
@[congr] theorem fieldKT_congr {k k' : KT} {a : AV} {f : Nat} (h : k = k') : fieldKT P k a f K = fieldKT P k' a f K := by rw [h]
@[go_sem ↓] theorem fieldK_kt (s : TypeId) (a : AV) (f : Nat) : fieldK P s a f K = fieldKT P (kindT P s) a f K := rfl
def fieldK1 (P : Program) (x : Option (Nat × TypeId × Nat)) (cs : List AV) (K : AV → Prop) : Prop := match x with | some (off, t, _) => readK P t (cs.drop off) K | none => False
@[congr] theorem fieldK1_congr {x x' : Option (Nat × TypeId × Nat)} {cs : List AV} (h : x = x') : fieldK1 P x cs K = fieldK1 P x' cs K := by rw [h]
@[go_sem] theorem fieldKT_st (fs : List (Nat × TypeId × Nat)) (cs : List AV) (f : Nat) : fieldKT P (.st fs) (.agg cs) f K = fieldK1 P fs[f]? cs K := rfl
@[go_sem] theorem fieldK1_some (off n : Nat) (t : TypeId) (cs : List AV) : fieldK1 P (some (off, t, n)) cs K = readK P t (cs.drop off) K := rfl

def readA (P : Program) (n : Option Nat) (cs : List AV) (K : AV → Prop) : Prop := match n with | some n => n ≤ cs.length ∧ K (.agg (cs.take n)) | none => False
def readC (cs : List AV) (K : AV → Prop) : Prop := match cs with | c :: _ => K c | [] => False
def readKT (P : Program) (k : KT) (t : TypeId) (cs : List AV) (K : AV → Prop) : Prop := match k with | .st _ => readA P (szT P t) cs K | .ar _ _ => readA P (szT P t) cs K | .oth => False | _ => readC cs K
@[congr] theorem readA_congr {n n' : Option Nat} {cs : List AV} (h : n = n') : readA P n cs K = readA P n' cs K := by rw [h]
@[congr] theorem readC_congr {cs cs' : List AV} (h : cs = cs') : readC cs K = readC cs' K := by rw [h]
@[congr] theorem readKT_congr {k k' : KT} {t : TypeId} {cs : List AV} (h : k = k') : readKT P k t cs K = readKT P k' t cs K := by rw [h]
@[go_sem ↓] theorem readK_kt (t : TypeId) (cs : List AV) : readK P t cs K = readKT P (kindT P t) t cs K := by
  unfold readK aggT readKT
  rcases hk : kindT P t <;> simp [readA, readC] <;> exact Iff.rfl
@[go_sem] theorem readKT_st (fs : List (Nat × TypeId × Nat)) (t : TypeId) (cs : List AV) : readKT P (.st fs) t cs K = readA P (szT P t) cs K := rfl
@[go_sem] theorem readKT_ar (n : Nat) (e : TypeId) (t : TypeId) (cs : List AV) : readKT P (.ar n e) t cs K = readA P (szT P t) cs K := rfl
@[go_sem] theorem readKT_b (t : TypeId) (cs : List AV) : readKT P .b t cs K = readC cs K := rfl
@[go_sem] theorem readKT_i (k : IntKind) (t : TypeId) (cs : List AV) : readKT P (.i k) t cs K = readC cs K := rfl
@[go_sem] theorem readKT_s (t : TypeId) (cs : List AV) : readKT P .s t cs K = readC cs K := rfl
@[go_sem] theorem readKT_p (e : TypeId) (t : TypeId) (cs : List AV) : readKT P (.p e) t cs K = readC cs K := rfl
@[go_sem] theorem readKT_sl (e : TypeId) (t : TypeId) (cs : List AV) : readKT P (.sl e) t cs K = readC cs K := rfl
@[go_sem] theorem readKT_mp (k e : TypeId) (t : TypeId) (cs : List AV) : readKT P (.mp k e) t cs K = readC cs K := rfl
@[go_sem] theorem readKT_ifc (t : TypeId) (cs : List AV) : readKT P .ifc t cs K = readC cs K := rfl
@[go_sem] theorem readKT_fnc (t : TypeId) (cs : List AV) : readKT P .fnc t cs K = readC cs K := rfl
@[go_sem] theorem readA_some (n : Nat) (cs : List AV) : readA P (some n) cs K = (n ≤ cs.length ∧ K (.agg (cs.take n))) := rfl
@[go_sem] theorem readC_cons (c : AV) (cs : List AV) : readC (c :: cs) K = K c := rfl

def getK (o : Option AV) (K : AV → Prop) : Prop := match o with | some x => K x | none => False
@[congr] theorem getK_congr {o o' : Option AV} (h : o = o') : getK o K = getK o' K := by rw [h]
@[go_sem] theorem getK_some (x : AV) : getK (some x) K = K x := rfl
/-- Indexing, the kind known. -/
def idxKT (P : Program) (k : KT) (n : TypeId → Option Nat) (a i : AV) (K : AV → Prop) : Prop :=
  match k, i with
  | .sl e, .v (.int _ i) => (match n e with
    | some n => (match a with
      | .lst sz h xs => sz = n ∧ 0 ≤ i ∧ getK xs[i.toNat]? (fun x => K (.ref (hadd h (i.toNat * n)) x.cells))
      | .v (.slice (some ⟨b, o, none⟩) len _) => 0 ≤ i ∧ i < len ∧ K (.v (.pointer (some ⟨b, o + i.toNat * n, none⟩)))
      | _ => False)
    | none => False)
  | .ar len e, .v (.int _ i) => (match n e with
    | some n => 0 ≤ i ∧ i < len ∧ (match a with
      | .ref p cs => K (.ref (padd p (i.toNat * n)) (cs.drop (i.toNat * n)))
      | .v (.pointer (some ⟨b, o, none⟩)) => K (.v (.pointer (some ⟨b, o + i.toNat * n, none⟩)))
      | _ => False)
    | none => False)
  | _, _ => False
@[congr] theorem idxKT_congr {k k' : KT} {a i : AV} (h : k = k') : idxKT P k (szT P) a i K = idxKT P k' (szT P) a i K := by rw [h]
@[go_sem ↓] theorem indexAddrK_kt (t : TypeId) (a i : AV) : indexAddrK P t a i K = idxKT P (kindT P t) (szT P) a i K := by
  simp only [indexAddrK, idxKT]
  rfl
def idxL (sz : Nat) (h : Value) (xs : List AV) (i : Int) (n : Option Nat) (K : AV → Prop) : Prop := match n with | some n => sz = n ∧ 0 ≤ i ∧ getK xs[i.toNat]? (fun x => K (.ref (hadd h (i.toNat * n)) x.cells)) | none => False
@[congr] theorem idxL_congr {sz : Nat} {h : Value} {xs : List AV} {i : Int} {n n' : Option Nat} (hn : n = n') : idxL sz h xs i n K = idxL sz h xs i n' K := by rw [hn]
@[go_sem] theorem idxKT_lst (e : TypeId) (sz : Nat) (h : Value) (xs : List AV) (k : IntKind) (i : Int) : idxKT P (.sl e) (szT P) (.lst sz h xs) (.v (.int k i)) K = idxL sz h xs i (szT P e) K := rfl
@[go_sem] theorem idxL_some (sz n : Nat) (h : Value) (xs : List AV) (i : Int) : idxL sz h xs i (some n) K = (sz = n ∧ 0 ≤ i ∧ getK xs[i.toNat]? (fun x => K (.ref (hadd h (i.toNat * n)) x.cells))) := rfl
def idxB (b o len : Nat) (i : Int) (n : Option Nat) (K : AV → Prop) : Prop := match n with | some n => 0 ≤ i ∧ i < len ∧ K (.v (.pointer (some ⟨b, o + i.toNat * n, none⟩))) | none => False
@[congr] theorem idxB_congr {b o len : Nat} {i : Int} {n n' : Option Nat} (hn : n = n') : idxB b o len i n K = idxB b o len i n' K := by rw [hn]
@[go_sem] theorem idxKT_blk (e : TypeId) (b o len cap : Nat) (k : IntKind) (i : Int) : idxKT P (.sl e) (szT P) (.v (.slice (some ⟨b, o, none⟩) len cap)) (.v (.int k i)) K = idxB b o len i (szT P e) K := rfl
@[go_sem] theorem idxKT_arp (e : TypeId) (b o len : Nat) (k : IntKind) (i : Int) : idxKT P (.ar len e) (szT P) (.v (.pointer (some ⟨b, o, none⟩))) (.v (.int k i)) K = idxB b o len i (szT P e) K := rfl
@[go_sem] theorem idxB_some (b o len n : Nat) (i : Int) : idxB b o len i (some n) K = (0 ≤ i ∧ i < len ∧ K (.v (.pointer (some ⟨b, o + i.toNat * n, none⟩)))) := rfl
def idxR (p : Value) (cs : List AV) (len : Nat) (i : Int) (n : Option Nat) (K : AV → Prop) : Prop := match n with | some n => 0 ≤ i ∧ i < len ∧ K (.ref (padd p (i.toNat * n)) (cs.drop (i.toNat * n))) | none => False
@[congr] theorem idxR_congr {p : Value} {cs : List AV} {len : Nat} {i : Int} {n n' : Option Nat} (hn : n = n') : idxR p cs len i n K = idxR p cs len i n' K := by rw [hn]
@[go_sem] theorem idxKT_arr (e : TypeId) (p : Value) (cs : List AV) (len : Nat) (k : IntKind) (i : Int) : idxKT P (.ar len e) (szT P) (.ref p cs) (.v (.int k i)) K = idxR p cs len i (szT P e) K := rfl
@[go_sem] theorem idxR_some (p : Value) (cs : List AV) (len n : Nat) (i : Int) : idxR p cs len i (some n) K = (0 ≤ i ∧ i < len ∧ K (.ref (padd p (i.toNat * n)) (cs.drop (i.toNat * n)))) := rfl

def bytK (o : Option UInt8) (K : AV → Prop) : Prop := match o with | some b => K (.v (.int .u8 b.toNat)) | none => False
@[congr] theorem bytK_congr {o o' : Option UInt8} (h : o = o') : bytK o K = bytK o' K := by rw [h]
@[go_sem] theorem bytK_some (b : UInt8) : bytK (some b) K = K (.v (.int .u8 b.toNat)) := rfl
def isS (k : KT) : Bool := match k with | .s => true | _ => false
@[go_sem] theorem isS_s : isS .s = true := rfl
@[go_sem ↓] theorem indexK_str (t : TypeId) (s : ByteArray) (k : IntKind) (i : Int) : indexK P t (.v (.string s)) (.v (.int k i)) K = (isS (kindT P t) = true ∧ 0 ≤ i ∧ bytK s[i.toNat]? K) := by
  simp only [indexK]; cases kindT P t <;> simp [isS, bytK] <;> (intro _; exact Iff.rfl)

def isSl (k : KT) : Bool := match k with | .sl _ => true | _ => false
@[go_sem] theorem isSl_sl (e : TypeId) : isSl (.sl e) = true := rfl
@[go_sem ↓] theorem lenK_str (hp : Hp) (t : TypeId) (s : ByteArray) : lenK P hp t (.v (.string s)) K = (isS (kindT P t) = true ∧ K (.v (.int .i64 s.size))) := by
  simp only [lenK]; cases kindT P t <;> simp [isS]
@[go_sem ↓] theorem lenK_lst (hp : Hp) (t : TypeId) (sz : Nat) (h : Value) (xs : List AV) : lenK P hp t (.lst sz h xs) K = (isSl (kindT P t) = true ∧ K (.v (.int .i64 xs.length))) := by
  simp only [lenK]; cases kindT P t <;> simp [isSl]
@[go_sem ↓] theorem lenK_slv (hp : Hp) (t : TypeId) (a : Option Addr) (n c : Nat) : lenK P hp t (.v (.slice a n c)) K = (isSl (kindT P t) = true ∧ K (.v (.int .i64 n))) := by
  simp only [lenK]; cases kindT P t <;> simp [isSl]
end
end Go.AL
/- The rules as equations for simp: calls, literals, stores, maps, the end of a function. -/
set_option linter.unusedVariables false
namespace Go.AL
section
variable {P : Program} {mu : List Nat} {K : St → Prop} {st : St}

def consO (a : Option AV) (l : Option (List AV)) : Option (List AV) := match a, l with | some x, some l => some (x :: l) | _, _ => none
@[go_sem] theorem consO_some (x : AV) (l : List AV) : consO (some x) (some l) = some (x :: l) := rfl
def evL (st : St) : List Operand → Option (List AV)
  | [] => some []
  | o :: l => consO (st.ev o) (evL st l)
@[go_sem] theorem evL_nil : evL st [] = some [] := rfl
@[go_sem] theorem evL_cons (o : Operand) (l : List Operand) : evL st (o :: l) = consO (st.ev o) (evL st l) := rfl
theorem evL_mapM : ∀ (l : List Operand), l.mapM st.ev = evL st l
  | [] => rfl
  | o :: l => by
    rw [List.mapM_cons, evL_mapM l, evL]
    cases st.ev o <;> cases evL st l <;> rfl
theorem evs_evL (l : List Operand) : evs st l.toArray = evL st l := by simp [evs, evL_mapM]

/-! ### Calls -/
def avalS (P : Program) (d : Option Nat) (fv : Option AV) (xs : Option (List AV)) (K : St → Prop) (st : St) (_ : Fix K) : Prop :=
  match fv, xs with
  | some fv, some xs => (match calleeOf fv with
    | some (k, a, b) => dstOk st d ∧ callX P k (a ++ xs ++ b) st.hp (fun r hp' => K ((st.setHp hp').putO d r)) ⟨⟩
    | none => False)
  | _, _ => False
@[go_sem ↓] theorem aval_S (o : Oper) (f : Operand) (l : List Operand) : aval P o f l.toArray K st = avalS P o.dst (st.ev f) (evL st l) K st ⟨⟩ := by
  simp only [aval, avalS, evs_evL]
  rfl
@[go_sem] theorem avalS_fun (d : Option Nat) (k : FuncId) (xs : List AV) (f : Fix K) : avalS P d (some (.v (.func (.func k) #[] #[]))) (some xs) K st f = (dstOk st d ∧ callX P k xs st.hp (fun r hp' => K ((st.setHp hp').putO d r)) ⟨⟩) := by
  simp only [avalS, calleeOf]; simp
@[go_sem] theorem avalS_fn (d : Option Nat) (k : FuncId) (a b xs : List AV) (f : Fix K) : avalS P d (some (.fn (.func k) a b)) (some xs) K st f = (dstOk st d ∧ callX P k (a ++ xs ++ b) st.hp (fun r hp' => K ((st.setHp hp').putO d r)) ⟨⟩) := rfl

/-! ### Literals -/
def consP (i : Nat) (a : Option AV) (l : Option (List (Nat × AV))) : Option (List (Nat × AV)) := match a, l with | some x, some l => some ((i, x) :: l) | _, _ => none
@[go_sem] theorem consP_some (i : Nat) (x : AV) (l : List (Nat × AV)) : consP i (some x) (some l) = some ((i, x) :: l) := rfl
def evP (st : St) : List (Nat × Operand) → Option (List (Nat × AV))
  | [] => some []
  | (i, o) :: l => consP i (st.ev o) (evP st l)
@[go_sem] theorem evP_nil : evP st [] = some [] := rfl
@[go_sem] theorem evP_cons (i : Nat) (o : Operand) (l : List (Nat × Operand)) : evP st ((i, o) :: l) = consP i (st.ev o) (evP st l) := rfl
theorem evParts_evP : ∀ (l : List (Nat × Operand)), evParts st l = evP st l
  | [] => rfl
  | (i, o) :: l => by
    have := evParts_evP l
    simp only [evParts] at this ⊢
    rw [List.mapM_cons, this, evP]
    cases st.ev o <;> cases evP st l <;> rfl

def buildS (P : Program) (d : Option Nat) (k : KT) (z : Option Value) (xs : Option (List (Nat × AV))) (K : St → Prop) (st : St) (_ : Fix K) : Prop :=
  match k, z, xs with
  | .st fs, some z, some xs => fs.all (fun f => (szT P f.2.1).isSome) = true ∧ (match fillA (fun i => (fs[i]?).map fun f => (f.1, f.2.2)) (z.cells.toList.map AV.v) xs with
    | some cells => dstOk st d ∧ K (st.putO d (.agg cells))
    | none => False)
  | .ar _ e, some z, some xs => (match szT P e with
    | some n => (match fillA (fun i => some (i * n, n)) (z.cells.toList.map AV.v) xs with
      | some cells => dstOk st d ∧ K (st.putO d (.agg cells))
      | none => False)
    | none => False)
  | _, _, _ => False
@[go_sem ↓] theorem buildK_S (o : Oper) (t : TypeId) (l : List (Nat × Operand)) : buildK P o t l.toArray K st = buildS P o.dst (kindT P t) (zeroT P t) (evP st l) K st ⟨⟩ := by
  simp only [buildK, buildS, evParts_evP]
  rfl
def fillEnd (d : Option Nat) (c : Option (List AV)) (K : St → Prop) (st : St) (_ : Fix K) : Prop := match c with | some cells => dstOk st d ∧ K (st.putO d (.agg cells)) | none => False
@[go_sem] theorem fillEnd_some (d : Option Nat) (cells : List AV) (f : Fix K) : fillEnd d (some cells) K st f = (dstOk st d ∧ K (st.putO d (.agg cells))) := rfl
@[go_sem] theorem buildS_some (d : Option Nat) (fs : List (Nat × TypeId × Nat)) (z : Value) (xs : List (Nat × AV)) (f : Fix K) :
    buildS P d (.st fs) (some z) (some xs) K st f = (fs.all (fun f => (szT P f.2.1).isSome) = true ∧ fillEnd d (fillA (fun i => (fs[i]?).map fun f => (f.1, f.2.2)) (z.cells.toList.map AV.v) xs) K st ⟨⟩) := rfl
def buildAr (d : Option Nat) (n : Option Nat) (z : Value) (xs : List (Nat × AV)) (K : St → Prop) (st : St) (_ : Fix K) : Prop := match n with | some n => fillEnd d (fillA (fun i => some (i * n, n)) (z.cells.toList.map AV.v) xs) K st ⟨⟩ | none => False
@[go_sem] theorem buildAr_some (d : Option Nat) (n : Nat) (z : Value) (xs : List (Nat × AV)) (f : Fix K) : buildAr d (some n) z xs K st f = fillEnd d (fillA (fun i => some (i * n, n)) (z.cells.toList.map AV.v) xs) K st ⟨⟩ := rfl
@[go_sem] theorem buildS_ar (d : Option Nat) (len : Nat) (e : TypeId) (z : Value) (xs : List (Nat × AV)) (f : Fix K) : buildS P d (.ar len e) (some z) (some xs) K st f = buildAr d (szT P e) z xs K st ⟨⟩ := rfl
@[go_sem] theorem fillA_nil (place : Nat → Option (Nat × Nat)) (cells : List AV) : fillA place cells [] = some cells := rfl
def fillS (place : Nat → Option (Nat × Nat)) (cells : List AV) (x : AV) (p : Option (Nat × Nat)) (rest : List (Nat × AV)) : Option (List AV) :=
  match p with
  | none => none
  | some (off, size) => if x.cells.length ≠ size ∨ off + x.cells.length > cells.length then none else fillA place (splice cells off x.cells) rest
@[go_sem] theorem fillA_cons (place : Nat → Option (Nat × Nat)) (cells : List AV) (i : Nat) (x : AV) (rest : List (Nat × AV)) : fillA place cells ((i, x) :: rest) = fillS place cells x (place i) rest := rfl
@[go_sem] theorem fillS_some (place : Nat → Option (Nat × Nat)) (cells : List AV) (x : AV) (off size : Nat) (rest : List (Nat × AV)) : fillS place cells x (some (off, size)) rest = if x.cells.length ≠ size ∨ off + x.cells.length > cells.length then none else fillA place (splice cells off x.cells) rest := rfl
attribute [go_sem] splice List.cons_append List.nil_append List.append_nil

def litS (P : Program) (d : Option Nat) (len : Nat) (idx : List Nat) (k : KT) (xs : Option (List AV)) (K : St → Prop) (st : St) (_ : Fix K) : Prop :=
  match k with
  | .sl e => (match szT P e, zeroT P e, xs with
    | some sz, some z, some xs => z.cells.size = sz ∧ 0 < sz ∧ idx = List.range len ∧ len * sz ≤ 16777216 ∧ (∀ x ∈ xs, x.cells.length = sz) ∧ dstOk st d ∧
      if len = 0 then (∀ b : Nat, K ((st.setHp (st.hp.setSp ((e, sz, .slice (some ⟨b, 0, none⟩) 0 0) :: st.hp.sp))).putO d (.lst sz (.slice (some ⟨b, 0, none⟩) 0 0) xs)))
      else ∀ hd', K ((st.setHp (st.hp.setSp ((e, sz, hd') :: st.hp.sp))).putO d (.lst sz hd' xs))
    | _, _, _ => False)
  | _ => False
@[go_sem ↓] theorem litK_S (o : Oper) (t : TypeId) (len : Nat) (l : List (Nat × Operand)) : litK P o t len l.toArray K st = litS P o.dst len (l.map (·.1)) (kindT P t) (evL st (l.map (·.2))) K st ⟨⟩ := by
  have h : evs st (l.toArray.map (·.2)) = evL st (l.map (·.2)) := by rw [List.map_toArray, evs_evL]
  simp only [litK, litS, h]
  rfl
def litE (d : Option Nat) (len : Nat) (idx : List Nat) (e : TypeId) (sz : Option Nat) (z : Option Value) (xs : List AV) (K : St → Prop) (st : St) (_ : Fix K) : Prop :=
  match sz, z with
  | some sz, some z => z.cells.size = sz ∧ 0 < sz ∧ idx = List.range len ∧ len * sz ≤ 16777216 ∧ (∀ x ∈ xs, x.cells.length = sz) ∧ dstOk st d ∧
      if len = 0 then (∀ b : Nat, K ((st.setHp (st.hp.setSp ((e, sz, .slice (some ⟨b, 0, none⟩) 0 0) :: st.hp.sp))).putO d (.lst sz (.slice (some ⟨b, 0, none⟩) 0 0) xs)))
      else ∀ hd', K ((st.setHp (st.hp.setSp ((e, sz, hd') :: st.hp.sp))).putO d (.lst sz hd' xs))
  | _, _ => False
@[go_sem] theorem litS_sl (d : Option Nat) (len : Nat) (idx : List Nat) (e : TypeId) (xs : List AV) (f : Fix K) : litS P d len idx (.sl e) (some xs) K st f = litE d len idx e (szT P e) (zeroT P e) xs K st ⟨⟩ := by
  simp only [litS, litE]; cases szT P e <;> cases zeroT P e <;> rfl
@[go_sem] theorem litE_some (d : Option Nat) (len : Nat) (idx : List Nat) (e : TypeId) (sz : Nat) (z : Value) (xs : List AV) (f : Fix K) : litE d len idx e (some sz) (some z) xs K st f =
    (z.cells.size = sz ∧ 0 < sz ∧ idx = List.range len ∧ len * sz ≤ 16777216 ∧ (∀ x ∈ xs, x.cells.length = sz) ∧ dstOk st d ∧ if len = 0 then (∀ b : Nat, K ((st.setHp (st.hp.setSp ((e, sz, .slice (some ⟨b, 0, none⟩) 0 0) :: st.hp.sp))).putO d (.lst sz (.slice (some ⟨b, 0, none⟩) 0 0) xs))) else ∀ hd', K ((st.setHp (st.hp.setSp ((e, sz, hd') :: st.hp.sp))).putO d (.lst sz hd' xs))) := rfl

@[go_sem] theorem litMX_false (o : Oper) (t : TypeId) (len : Nat) (l : Array (Nat × Operand)) (f : Fix K) (g : Fix o) : litMX P false o t len l K st f g = litK P o t len l K st := by simp [litMX, litM]
def litBS (P : Program) (d : Option Nat) (len : Nat) (idx : List Nat) (k : KT) (xs : Option (List AV)) (K : St → Prop) (st : St) (_ : Fix K) : Prop :=
  match k with
  | .sl e => (match szT P e, zeroT P e, xs with
    | some sz, some z, some xs => z.cells.size = sz ∧ 0 < sz ∧ idx = List.range len ∧ len * sz ≤ 16777216 ∧ (∀ x ∈ xs, x.cells.length = sz) ∧ dstOk st d ∧
      ∀ b : Nat, Fresh st.hp b → K ((st.setHp (st.hp.setBlk b e (xs.flatMap AV.cells))).putO d (.v (.slice (some ⟨b, 0, none⟩) len len)))
    | _, _, _ => False)
  | _ => False
@[go_sem] theorem litMX_true (o : Oper) (t : TypeId) (len : Nat) (l : List (Nat × Operand)) (f : Fix K) (g : Fix o) : litMX P true o t len l.toArray K st f g = litBS P o.dst len (l.map (·.1)) (kindT P t) (evL st (l.map (·.2))) K st ⟨⟩ := by
  have h : evs st (l.toArray.map (·.2)) = evL st (l.map (·.2)) := by rw [List.map_toArray, evs_evL]
  simp only [litMX, litM, litBK, litBS, h, if_true]
  rfl
def litBE (d : Option Nat) (len : Nat) (idx : List Nat) (e : TypeId) (sz : Option Nat) (z : Option Value) (xs : List AV) (K : St → Prop) (st : St) (_ : Fix K) : Prop :=
  match sz, z with
  | some sz, some z => z.cells.size = sz ∧ 0 < sz ∧ idx = List.range len ∧ len * sz ≤ 16777216 ∧ (∀ x ∈ xs, x.cells.length = sz) ∧ dstOk st d ∧
      ∀ b : Nat, Fresh st.hp b → K ((st.setHp (st.hp.setBlk b e (xs.flatMap AV.cells))).putO d (.v (.slice (some ⟨b, 0, none⟩) len len)))
  | _, _ => False
@[go_sem] theorem litBS_sl (d : Option Nat) (len : Nat) (idx : List Nat) (e : TypeId) (xs : List AV) (f : Fix K) : litBS P d len idx (.sl e) (some xs) K st f = litBE d len idx e (szT P e) (zeroT P e) xs K st ⟨⟩ := by
  simp only [litBS, litBE]; cases szT P e <;> cases zeroT P e <;> rfl
@[go_sem] theorem litBE_some (d : Option Nat) (len : Nat) (idx : List Nat) (e : TypeId) (sz : Nat) (z : Value) (xs : List AV) (f : Fix K) : litBE d len idx e (some sz) (some z) xs K st f =
    (z.cells.size = sz ∧ 0 < sz ∧ idx = List.range len ∧ len * sz ≤ 16777216 ∧ (∀ x ∈ xs, x.cells.length = sz) ∧ dstOk st d ∧ ∀ b : Nat, Fresh st.hp b → K ((st.setHp (st.hp.setBlk b e (xs.flatMap AV.cells))).putO d (.v (.slice (some ⟨b, 0, none⟩) len len)))) := rfl

/-! ### Variables, stores -/
def boxS (mu : List Nat) (d : Option Nat) (t : TypeId) (x : Option AV) (K : St → Prop) (st : St) (_ : Fix K) : Prop :=
  withAV x fun y => dstOk st d ∧ if mu.contains (d.getD 0) = true then (∀ b, Fresh st.hp b → K ((st.setHp (st.hp.setBlk b t y.cells)).putO d (.v (.pointer (some ⟨b, 0, none⟩)))))
    else ∀ p, K (st.putO d (.ref p y.cells))
@[go_sem ↓] theorem boxK_S (o : Oper) (t : TypeId) (x : Operand) : boxK mu o t x K st = boxS mu o.dst t (st.ev x) K st ⟨⟩ := rfl
def boxM (m : Bool) (d : Option Nat) (t : TypeId) (y : AV) (K : St → Prop) (st : St) (_ : Fix K) : Prop := if m = true then (∀ b, Fresh st.hp b → K ((st.setHp (st.hp.setBlk b t y.cells)).putO d (.v (.pointer (some ⟨b, 0, none⟩))))) else ∀ p, K (st.putO d (.ref p y.cells))
@[go_sem] theorem boxS_some (d : Option Nat) (t : TypeId) (y : AV) (f : Fix K) : boxS mu d t (some y) K st f = (dstOk st d ∧ boxM (mu.contains (d.getD 0)) d t y K st ⟨⟩) := rfl
@[go_sem] theorem boxM_true (d : Option Nat) (t : TypeId) (y : AV) (f : Fix K) : boxM true d t y K st f = (∀ b, Fresh st.hp b → K ((st.setHp (st.hp.setBlk b t y.cells)).putO d (.v (.pointer (some ⟨b, 0, none⟩))))) := rfl
@[go_sem] theorem boxM_false (d : Option Nat) (t : TypeId) (y : AV) (f : Fix K) : boxM false d t y K st f = (∀ p, K (st.putO d (.ref p y.cells))) := by simp [boxM]

def allocS (d : Option Nat) (t : TypeId) (z : Option Value) (K : St → Prop) (st : St) (_ : Fix K) : Prop :=
  match z with
  | some z => dstOk st d ∧ ∀ b, Fresh st.hp b → K ((st.setHp (st.hp.setBlk b t (z.cells.toList.map AV.v))).putO d (.v (.pointer (some ⟨b, 0, none⟩))))
  | none => False
@[go_sem ↓] theorem allocK_S (o : Oper) (t : TypeId) : allocK P o t K st = allocS o.dst t (zeroT P t) K st ⟨⟩ := rfl
@[go_sem] theorem allocS_some (d : Option Nat) (t : TypeId) (z : Value) (f : Fix K) : allocS d t (some z) K st f = (dstOk st d ∧ ∀ b, Fresh st.hp b → K ((st.setHp (st.hp.setBlk b t (z.cells.toList.map AV.v))).putO d (.v (.pointer (some ⟨b, 0, none⟩))))) := rfl
@[go_sem] theorem Value.cells_agg (cs : Array Value) : Value.cells (.agg cs) = cs := rfl
@[go_sem] theorem Value.cells_int (k : IntKind) (n : Int) : Value.cells (.int k n) = #[.int k n] := rfl
@[go_sem] theorem Value.cells_bool (b : Bool) : Value.cells (.bool b) = #[.bool b] := rfl
@[go_sem] theorem Value.cells_string (b : ByteArray) : Value.cells (.string b) = #[.string b] := rfl
@[go_sem] theorem Value.cells_slice (a : Option Addr) (n c : Nat) : Value.cells (.slice a n c) = #[.slice a n c] := rfl
@[go_sem] theorem Value.cells_pointer (a : Option Addr) : Value.cells (.pointer a) = #[.pointer a] := rfl
@[go_sem] theorem Value.cells_map (a : Option Nat) : Value.cells (.map a) = #[.map a] := rfl
@[go_sem] theorem Value.cells_nilFunc : Value.cells .nilFunc = #[.nilFunc] := rfl
@[go_sem] theorem Value.cells_nilIface : Value.cells .nilIface = #[.nilIface] := rfl
attribute [go_sem] List.toList_toArray List.size_toArray
@[go_sem] theorem one_int (k : IntKind) (n : Int) : Value.oneCell' (.int k n) = true := rfl
@[go_sem] theorem one_bool (b : Bool) : Value.oneCell' (.bool b) = true := rfl
@[go_sem] theorem one_string (b : ByteArray) : Value.oneCell' (.string b) = true := rfl
@[go_sem] theorem one_slice (a : Option Addr) (n c : Nat) : Value.oneCell' (.slice a n c) = true := rfl
@[go_sem] theorem one_pointer (a : Option Addr) : Value.oneCell' (.pointer a) = true := rfl
@[go_sem] theorem one_map (a : Option Nat) : Value.oneCell' (.map a) = true := rfl
@[go_sem] theorem one_func (f : Fn) (a b : Array Value) : Value.oneCell' (.func f a b) = true := rfl
@[go_sem] theorem one_nilFunc : Value.oneCell' .nilFunc = true := rfl
@[go_sem] theorem one_iface (t : TypeId) (v : Value) : Value.oneCell' (.iface t v) = true := rfl
@[go_sem] theorem one_nilIface : Value.oneCell' .nilIface = true := rfl
attribute [go_sem] List.all_cons List.all_nil Bool.and_true Bool.true_and

def storeS (P : Program) (mu : List Nat) (p : Operand) (sz : Option Nat) (pv xv : Option AV) (K : St → Prop) (st : St) (_ : Fix K) : Prop :=
  match pv, xv with
  | some (.v (.pointer (some ⟨b, off, none⟩))), some y => (match st.hp.blk b, sz with
    | some (T, cs), some n => n = y.cells.length ∧ y.cells.all AV.one = true ∧
      (match p with
      | .tmp pn => if mu.contains pn = true then (off + y.cells.length ≤ cs.length ∧ K (st.setHp (st.hp.setBlk b T (splice cs off y.cells))))
          else if (off == 0 && y.cells.length == cs.length) = true then K ((st.setHp (st.hp.delBlk b)).put pn (.ref (.pointer (some ⟨b, 0, none⟩)) y.cells)) else (off + y.cells.length ≤ cs.length ∧ K (st.setHp (st.hp.setBlk b T (splice cs off y.cells))))
      | _ => off + y.cells.length ≤ cs.length ∧ K (st.setHp (st.hp.setBlk b T (splice cs off y.cells))))
    | _, _ => False)
  | _, _ => False
@[go_sem ↓] theorem storeK_S (ty : TypeId) (pos : String) (aft : Array Edge) (g : Option (Nat × Bool)) (op : Op) (t : TypeId) (p x : Operand) :
    storeK P mu ⟨none, op, ty, pos, aft, g⟩ t p x K st = storeS P mu p (szT P t) (st.ev p) (st.ev x) K st ⟨⟩ := by
  simp only [storeK, storeS, true_and]
  rfl
def storeB (mu : List Nat) (pn : Nat) (b off : Nat) (blk : Option (TypeId × List AV)) (sz : Option Nat) (y : AV) (K : St → Prop) (st : St) (_ : Fix K) : Prop :=
  match blk, sz with
  | some (T, cs), some n => n = y.cells.length ∧ y.cells.all AV.one = true ∧ (if mu.contains pn = true then (off + y.cells.length ≤ cs.length ∧ K (st.setHp (st.hp.setBlk b T (splice cs off y.cells))))
          else if (off == 0 && y.cells.length == cs.length) = true then K ((st.setHp (st.hp.delBlk b)).put pn (.ref (.pointer (some ⟨b, 0, none⟩)) y.cells)) else (off + y.cells.length ≤ cs.length ∧ K (st.setHp (st.hp.setBlk b T (splice cs off y.cells)))))
  | _, _ => False
@[go_sem] theorem storeS_ptr (pn : Nat) (sz : Option Nat) (b off : Nat) (y : AV) (f : Fix K) : storeS P mu (.tmp pn) sz (some (.v (.pointer (some ⟨b, off, none⟩)))) (some y) K st f = storeB mu pn b off (st.hp.blk b) sz y K st ⟨⟩ := by
  simp only [storeS, storeB]
def storeM (m w : Bool) (pn b off : Nat) (T : TypeId) (cs ys : List AV) (K : St → Prop) (st : St) (_ : Fix K) : Prop :=
  if m = true then (off + ys.length ≤ cs.length ∧ K (st.setHp (st.hp.setBlk b T (splice cs off ys)))) else if w = true then K ((st.setHp (st.hp.delBlk b)).put pn (.ref (.pointer (some ⟨b, 0, none⟩)) ys)) else (off + ys.length ≤ cs.length ∧ K (st.setHp (st.hp.setBlk b T (splice cs off ys))))
@[go_sem] theorem storeB_some (pn b off : Nat) (T : TypeId) (cs : List AV) (n : Nat) (y : AV) (f : Fix K) : storeB mu pn b off (some (T, cs)) (some n) y K st f =
    (n = y.cells.length ∧ y.cells.all AV.one = true ∧ storeM (mu.contains pn) (off == 0 && y.cells.length == cs.length) pn b off T cs y.cells K st ⟨⟩) := rfl
@[go_sem] theorem storeM_mut (w : Bool) (pn b off : Nat) (T : TypeId) (cs ys : List AV) (f : Fix K) : storeM true w pn b off T cs ys K st f = (off + ys.length ≤ cs.length ∧ K (st.setHp (st.hp.setBlk b T (splice cs off ys)))) := rfl
@[go_sem] theorem storeM_pub (pn b off : Nat) (T : TypeId) (cs ys : List AV) (f : Fix K) : storeM false true pn b off T cs ys K st f = K ((st.setHp (st.hp.delBlk b)).put pn (.ref (.pointer (some ⟨b, 0, none⟩)) ys)) := by simp [storeM]
@[go_sem] theorem storeM_part (pn b off : Nat) (T : TypeId) (cs ys : List AV) (f : Fix K) : storeM false false pn b off T cs ys K st f = (off + ys.length ≤ cs.length ∧ K (st.setHp (st.hp.setBlk b T (splice cs off ys)))) := by simp [storeM]
attribute [go_sem] List.contains_cons List.contains_nil Bool.or_false Bool.false_or Bool.or_true Bool.true_or Bool.and_false Bool.false_and

/-! ### Maps -/
def lkK (P : Program) (k : KT) (mv kv : AV) (ok : Bool) (hp : Hp) (K : AV → Prop) (_ : Fix K) : Prop :=
  match k, mv, kv with
  | .mp kt et, .v (.map (some b)), .v k => (match hp.mp b, zeroT P et with
    | some es, some z => keyOk (kindT P kt) k = true ∧ (∀ p ∈ es, keyOk (kindT P kt) p.1 = true) ∧
      K (if ok = true then .tup [(mfind k es).getD (.v z), .v (.bool (mfind k es).isSome)] else (mfind k es).getD (.v z))
    | _, _ => False)
  | _, _, _ => False
@[go_sem ↓] theorem lookupK_S (hp : Hp) (t : TypeId) (a b : AV) (ok : Bool) (K : AV → Prop) : lookupK P hp t a b ok K = lkK P (kindT P t) a b ok hp K ⟨⟩ := rfl
def lkM (P : Program) (kt : TypeId) (es : Option (List (Value × AV))) (z : Option Value) (k : Value) (ok : Bool) (K : AV → Prop) (_ : Fix K) : Prop :=
  match es, z with
  | some es, some z => keyOk (kindT P kt) k = true ∧ (∀ p ∈ es, keyOk (kindT P kt) p.1 = true) ∧ K (if ok = true then .tup [(mfind k es).getD (.v z), .v (.bool (mfind k es).isSome)] else (mfind k es).getD (.v z))
  | _, _ => False
@[go_sem] theorem lkK_mp (kt et : TypeId) (b : Nat) (k : Value) (ok : Bool) (hp : Hp) (K : AV → Prop) (f : Fix K) : lkK P (.mp kt et) (.v (.map (some b))) (.v k) ok hp K f = lkM P kt (hp.mp b) (zeroT P et) k ok K ⟨⟩ := rfl
@[go_sem] theorem lkM_one (kt : TypeId) (es : List (Value × AV)) (z k : Value) (K : AV → Prop) (f : Fix K) : lkM P kt (some es) (some z) k false K f = (keyOk (kindT P kt) k = true ∧ (∀ p ∈ es, keyOk (kindT P kt) p.1 = true) ∧ K ((mfind k es).getD (.v z))) := by simp [lkM]
@[go_sem] theorem lkM_two (kt : TypeId) (es : List (Value × AV)) (z k : Value) (K : AV → Prop) (f : Fix K) : lkM P kt (some es) (some z) k true K f = (keyOk (kindT P kt) k = true ∧ (∀ p ∈ es, keyOk (kindT P kt) p.1 = true) ∧ K (.tup [(mfind k es).getD (.v z), .v (.bool (mfind k es).isSome)])) := by simp [lkM]
@[go_sem] theorem keyOk_s (s : ByteArray) : keyOk .s (.string s) = true := rfl
@[go_sem] theorem keyOk_i (k : IntKind) (n : Int) : keyOk (.i k) (.int k n) = true := by simp [keyOk]

def muS (P : Program) (k : KT) (mv kv xv : Option AV) (K : St → Prop) (st : St) (_ : Fix K) : Prop :=
  match k, mv, kv, xv with
  | .mp kt _, some (.v (.map (some b))), some (.v k), some x => (match st.hp.mp b with
    | some es => keyOk (kindT P kt) k = true ∧ (∀ p ∈ es, keyOk (kindT P kt) p.1 = true) ∧ K (st.setHp (st.hp.setMp b (mset k x es)))
    | none => False)
  | _, _, _, _ => False
@[go_sem ↓] theorem mapUpdK_S (ty : TypeId) (pos : String) (aft : Array Edge) (g : Option (Nat × Bool)) (op : Op) (t : TypeId) (m k x : Operand) :
    mapUpdK P ⟨none, op, ty, pos, aft, g⟩ t m k x K st = muS P (kindT P t) (st.ev m) (st.ev k) (st.ev x) K st ⟨⟩ := by
  simp only [mapUpdK, muS, true_and]
  rfl
def muM (P : Program) (kt : TypeId) (b : Nat) (es : Option (List (Value × AV))) (k : Value) (x : AV) (K : St → Prop) (st : St) (_ : Fix K) : Prop :=
  match es with
  | some es => keyOk (kindT P kt) k = true ∧ (∀ p ∈ es, keyOk (kindT P kt) p.1 = true) ∧ K (st.setHp (st.hp.setMp b (mset k x es)))
  | none => False
@[go_sem] theorem muS_mp (kt et : TypeId) (b : Nat) (k : Value) (x : AV) (f : Fix K) : muS P (.mp kt et) (some (.v (.map (some b)))) (some (.v k)) (some x) K st f = muM P kt b (st.hp.mp b) k x K st ⟨⟩ := rfl
@[go_sem] theorem muM_some (kt : TypeId) (b : Nat) (es : List (Value × AV)) (k : Value) (x : AV) (f : Fix K) : muM P kt b (some es) k x K st f = (keyOk (kindT P kt) k = true ∧ (∀ p ∈ es, keyOk (kindT P kt) p.1 = true) ∧ K (st.setHp (st.hp.setMp b (mset k x es)))) := rfl

/-! ### Other values -/
def mkFnS (f : Fn) (a b : Option (List AV)) (K : AV → Prop) : Prop := match a, b with | some x, some y => K (.fn f x y) | _, _ => False
@[go_sem ↓] theorem mkFnK_S (f : Fn) (a b : List Operand) (K : AV → Prop) : mkFnK st f a.toArray b.toArray K = mkFnS f (evL st a) (evL st b) K := by simp only [mkFnK, mkFnS, evs_evL]; rfl
@[go_sem] theorem mkFnS_some (f : Fn) (x y : List AV) (K : AV → Prop) : mkFnS f (some x) (some y) K = K (.fn f x y) := rfl
def mkIfcKT (k : KT) (t : TypeId) (a : AV) (K : AV → Prop) : Prop := match k with | .ifc => False | .oth => False | _ => K (.ifc t a)
@[go_sem ↓] theorem mkIfcK_S (t : TypeId) (a : AV) (K : AV → Prop) : mkIfcK P t a K = mkIfcKT (kindT P t) t a K := rfl
def cvtS (k1 k2 : KT) (a : AV) (K : AV → Prop) : Prop := match k1, k2, a with | .i _, .i k, .v (.int _ n) => K (.v (.int k (k.wrap n))) | .s, .s, .v (.string x) => K (.v (.string x)) | .i _, .s, .v (.int _ n) => K (.v (.string (Utf8.encode n))) | _, _, _ => False
@[go_sem ↓] theorem cvtK_S (s d : TypeId) (a : AV) (K : AV → Prop) : cvtK P s d a K = cvtS (kindT P s) (kindT P d) a K := rfl
@[go_sem] theorem cvtS_int (k k' k2 : IntKind) (n : Int) (K : AV → Prop) : cvtS (.i k) (.i k') (.v (.int k2 n)) K = K (.v (.int k' (k'.wrap n))) := rfl
@[go_sem] theorem cvtS_chr (k k2 : IntKind) (n : Int) (K : AV → Prop) : cvtS (.i k) .s (.v (.int k2 n)) K = K (.v (.string (Utf8.encode n))) := rfl
@[go_sem] theorem cvtS_str (x : ByteArray) (K : AV → Prop) : cvtS .s .s (.v (.string x)) K = K (.v (.string x)) := rfl

/-! ### The end -/
@[go_sem] theorem aret_ret (fn : Func) (R : AV → Hp → Prop) : aret P fn R .ret st = retsK P st fn.results.toList fun l => ∃ hp' r, Gives st.hp (oneOf l) hp' r ∧ R r hp' := rfl
@[go_sem] theorem aret_normal (fn : Func) (R : AV → Hp → Prop) : aret P fn R .normal st = retsK P st fn.results.toList fun l => ∃ hp' r, Gives st.hp (oneOf l) hp' r ∧ R r hp' := rfl
@[go_sem] theorem retsK_nil (K : List AV → Prop) : retsK P st [] K = K [] := rfl
@[go_sem] theorem retsK_tmp (t : Nat) (rs : List ResultVar) (K : List AV → Prop) : retsK P st (.tmp t :: rs) K = withAV (st.sl t) fun x => retsK P st rs (fun l => K (x :: l)) := rfl
@[go_sem] theorem retsK_cell (a : Nat) (t : TypeId) (rs : List ResultVar) (K : List AV → Prop) : retsK P st (.cell a t :: rs) K = withAV (st.sl a) fun p => loadK P st.hp t p fun x => retsK P st rs (fun l => K (x :: l)) := rfl

/-- What a function hands back, as the contract says it. -/
theorem ret_same {a : AV} {hp : Hp} {R : AV → Hp → Prop} (h : R a hp) : ∃ hp' r, Gives hp a hp' r ∧ R r hp' := ⟨hp, a, .le (Hp.le_refl hp), h⟩
theorem ret_le {a : AV} {hp hp' : Hp} {R : AV → Hp → Prop} (hl : hp'.le hp) (h : R a hp') : ∃ hp' r, Gives hp a hp' r ∧ R r hp' := ⟨hp', a, .le hl, h⟩
theorem ret_cast {a b : AV} {hp hp' : Hp} {R : AV → Hp → Prop} (hc : Cast a b) (hl : hp'.le hp) (h : R b hp') : ∃ hp' r, Gives hp a hp' r ∧ R r hp' := ⟨hp', b, .trans (.cast hc) (.le hl), h⟩

/-- Slots as a list. -/
def mkSl : List (Nat × AV) → Nat → Option AV
  | [], _ => none
  | (d, x) :: l, i => if i = d then some x else mkSl l i
@[go_sem] theorem mkSl_nil (i : Nat) : mkSl [] i = none := rfl
@[go_sem] theorem mkSl_cons (d : Nat) (x : AV) (l : List (Nat × AV)) (i : Nat) : mkSl ((d, x) :: l) i = if i = d then some x else mkSl l i := rfl

/-- Less is known. -/
structure St.le (s s' : St) : Prop where
  n : s.n = s'.n
  sl : ∀ i x, s.sl i = some x → ∃ y, s'.sl i = some y ∧ Cast y x
  hp : s.hp.le s'.hp

theorem Rel.weaken {F : Fr} {s s' : St} {a : Act} {w : World} (h : s.le s') (hr : Rel F s' a w) : Rel F s a w := by
  refine ⟨hr.lo, hr.df, by rw [h.n]; exact hr.n, ?_⟩
  obtain ⟨m, hm⟩ := hr.ex
  refine ⟨m, hm.le, hm.hp.weaken h.hp, fun i x hx => ?_⟩
  obtain ⟨y, hy, hc⟩ := h.sl i x hx
  obtain ⟨h1, h2⟩ := hm.sl i y hy
  exact ⟨by rw [h1, hc.1], hc.2 m h2⟩

theorem aw_weaken {c : Code} {Q : Exit → St → Prop} {s s' : St} (h : s.le s') (hw : AWp P c Q s) : AWp P c Q s' := fun F a w hr => hw F a w (hr.weaken h)

theorem le_mkSl {n : Nat} {l : List (Nat × AV)} {hp : Hp} {s' : St} (hn : n = s'.n) (hh : hp.le s'.hp) (hl : ∀ p ∈ l, s'.sl p.1 = some p.2) : St.le ⟨n, mkSl l, hp⟩ s' := by
  refine ⟨hn, fun i x hx => ?_, hh⟩
  have : s'.sl i = some x := by
    clear hn hh
    induction l with
    | nil => cases hx
    | cons p l ih =>
      obtain ⟨d, y⟩ := p
      simp only [mkSl] at hx
      split at hx
      · rename_i e; subst e; obtain rfl := Option.some.inj hx; exact hl (i, y) (by simp)
      · exact ih (fun q hq => hl q (by simp [hq])) hx
  exact ⟨x, this, Cast.refl x⟩

/-- A loop: at its head, where the ghost 'x' says how it stands, the slots are 'sl x', the heap 'hp x'. -/
theorem aw_loopX {α : Type} {c : Code} {Q : Exit → St → Prop} {fc : Fix (Code.loop c)} {fq : Fix Q} (n : Nat) (sl : α → List (Nat × AV)) (hp : α → Hp) (I : α → Prop) (μ : α → Nat) (x0 : α)
    (hI : I x0) (h0 : St.le ⟨n, mkSl (sl x0), hp x0⟩ st)
    (round : ∀ x, I x → AWp P c (thenA (fun st' => ∃ y, μ y < μ x ∧ I y ∧ St.le ⟨n, mkSl (sl y), hp y⟩ st') Q) ⟨n, mkSl (sl x), hp x⟩) : awpX P (.loop c) Q st fc fq := by
  refine aw_weaken h0 (aw_loop (fun x st => I x ∧ st = ⟨n, mkSl (sl x), hp x⟩) μ x0 ⟨hI, rfl⟩ ?_)
  rintro x st ⟨hIx, rfl⟩
  intro F a w hr
  refine Code.wp_mono ?_ (round x hIx F a w hr)
  rintro e a' w' ⟨st', q, r⟩
  cases e with
  | normal =>
    obtain ⟨y, hlt, hIy, hle⟩ := q
    exact ⟨_, ⟨y, hlt, hIy, rfl⟩, r.weaken hle⟩
  | _ => exact ⟨st', q, r⟩
end
end Go.AL
