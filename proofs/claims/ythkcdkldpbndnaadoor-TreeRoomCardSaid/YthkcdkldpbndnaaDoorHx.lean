/- A library for walks: the weakest precondition of a Go function's code as a Lean function of the slots (an environment) and the world, that the kernel can compute; its soundness. No condition. -/
import Derived.Deep.AppendSrc
import Derived.WalkKit
import Derived.OrdersHeld
import Derived.Still
import Derived.Laws.StructEq
import Derived.KernelRfl
import Derived.Deep.LoopGhost
import Derived.RangeFuncLeaves
import Derived.RangeFuncOwn
import Derived.OrdersIn
set_option linter.unusedVariables false
namespace Go.Hx
open Go.RowKit

/-- The slots, and the calls that are deferred. -/
structure Env where
  v : Nat → Value
  d : List Deferred
instance : CoeFun Env (fun _ => Nat → Value) := ⟨Env.v⟩
def upd (ρ : Env) (d : Option Tmp) (v : Value) : Env := match d with
  | none => ρ
  | some d => ⟨fun i => cond (Nat.beq i d) v (ρ i), ρ.d⟩
def opd (ρ : Env) : Operand → Value
  | .tmp t => ρ t
  | .const v => v
  | .global g => .pointer (some ⟨g, 0, none⟩)
  | .func f => .func (.func f) #[] #[]

structure Rep (n : Nat) (a : Act) (ρ : Env) : Prop where
  size : a.tmps.size = n
  defers : a.defers = ρ.d
  get : ∀ i, a.tmps.getD i undef = ρ i
theorem Rep.eval {n : Nat} {a : Act} {ρ : Env} (h : Rep n a ρ) : a.eval = opd ρ := by
  funext x
  cases x <;> simp [Act.eval, opd]
  exact (by simpa using h.get _)
theorem Rep.put {n : Nat} {a : Act} {ρ : Env} (h : Rep n a ρ) (d : Option Tmp) (v : Value) (hd : ∀ t, d = some t → t < n) : Rep n (a.put d v) (upd ρ d v) := by
  cases d with
  | none => exact h
  | some t =>
    have ht := hd t rfl
    refine ⟨by simp [Act.put, h.size], by simp [Act.put, h.defers, upd], fun i => ?_⟩
    have hs := h.size
    have hg := h.get i
    simp only [Array.getD_eq_getD_getElem?] at hg ⊢
    simp only [Act.put, upd, Array.getElem?_setIfInBounds]
    by_cases e : t = i
    · subst e
      rw [if_pos rfl, if_pos (by rw [hs]; exact ht)]
      simp
    · rw [if_neg e]
      have : Nat.beq i t = false := by
        cases hb : Nat.beq i t with
        | false => rfl
        | true => exact absurd (Nat.eq_of_beq_eq_true hb).symm e
      rw [this]
      exact hg

def slotOf (ops : List Oper) (j : Nat) (ρ : Env) : Value := match ops[j]? with
  | some o => match o.dst with
    | some t => ρ t
    | none => .nilFunc
  | none => .nilFunc
/-- Does the guard's slot say what is wanted? -/
def sel (v : Value) (want : Bool) : Bool := match v with
  | .bool b => cond want b (!b)
  | _ => false
theorem sel_wanted {n : Nat} {a : Act} {ρ : Env} (h : Rep n a ρ) (ops : List Oper) (o : Oper) (j : Nat) (want : Bool) (hg : o.guard = some (j, want)) :
    Region.wanted o (yielded ops.toArray a.tmps) = sel (slotOf ops j ρ) want := by
  unfold Region.wanted slotOf
  simp only [hg]
  unfold yielded
  simp only [List.getElem?_toArray]
  cases ho : ops[j]? with
  | none => cases want <;> rfl
  | some o' =>
    cases hd : o'.dst with
    | none => simp [hd]; cases want <;> rfl
    | some t =>
      simp only [Option.bind_some, hd]
      have hget := h.get t
      simp only [Array.getD_eq_getD_getElem?] at hget
      cases ht : a.tmps[t]? with
      | none =>
        rw [ht] at hget
        simp only [Option.getD_none] at hget
        rw [← hget]
        cases want <;> rfl
      | some v =>
        rw [ht] at hget
        simp only [Option.getD_some] at hget
        subst hget
        clear ht
        generalize ρ t = v
        cases v
        case bool b => cases b <;> cases want <;> rfl
        all_goals (cases want <;> rfl)

/-! ### Reading operations -/
def RowAt (w : World) (a : Addr) (cs : Array Value) : Prop := ∀ (j : Nat) (v : Value), cs[j]? = some v → w.cell? (a.add j) = some v

/-- A pointer that is not nil. -/
def nlW (p : Option Addr) (K : Addr → Prop) : Prop := match p with
  | some a => K a
  | none => False
/-- There is a value of that type. -/
def exT (P : Program) (t : TypeId) (F : Value → Prop) : Prop := match P.underlying t with
  | some (.int k) => ∃ n : Int, F (.int k n)
  | some .bool => ∃ b : Bool, F (.bool b)
  | some .string => ∃ s : ByteArray, F (.string s)
  | some (.pointer _) => ∃ p : Option Addr, F (.pointer p)
  | some (.slice _) => ∃ (b : Option Addr) (l c : Nat), F (.slice b l c)
  | some (.struct _) => ∃ cs : Array Value, F (.agg cs)
  | some (.array _ _) => ∃ cs : Array Value, F (.agg cs)
  | some _ => ∃ v : Value, F v
  | none => False
def exTs (P : Program) : List TypeId → (List Value → Prop) → Prop
  | [], F => F []
  | t :: r, F => exT P t (fun v => exTs P r (fun vs => F (v :: vs)))
/-- A call's result of that type. -/
def exR (P : Program) (t : TypeId) (F : Value → Prop) : Prop := match P.underlying t with
  | some (.tuple ts) => exTs P ts.toList (fun vs => F (.tuple vs.toArray))
  | _ => exT P t F
def isAggB (P : Program) (t : TypeId) : Bool := match P.underlying t with
  | some (.struct _) => true
  | some (.array _ _) => true
  | _ => false
/-- What a load of that type finds. -/
def loadW (P : Program) (at_ : (World → Prop) → Prop) (t : TypeId) (x : Value) (K : Value → Prop) : Prop := match x with
  | .pointer p => nlW p fun a => cond (isAggB P t) (∃ cs : Array Value, cs.size = P.cellsOf t ∧ at_ (fun w => RowAt w a cs) ∧ K (.agg cs))
      (exT P t fun v => at_ (fun w => w.cell? a = some v) ∧ K v)
  | _ => False

def pickW (c a b : Value) (K : Value → Prop) : Prop := match c with
  | .bool t => K (cond t a b)
  | _ => False
def nilW (x : Value) (K : Value → Prop) : Prop := match x with
  | .pointer p => nlW p fun a => K (.pointer (some a))
  | .func (.func f) p q => K (.func (.func f) p q)
  | .iface t v => K (.iface t v)
  | _ => False
def binI (op : BinOp) (k : IntKind) (a b : Int) (K : Value → Prop) : Prop := match op with
  | .add => K (.int k (k.wrap (a + b)))
  | .sub => K (.int k (k.wrap (a - b)))
  | .mul => K (.int k (k.wrap (a * b)))
  | .quo => b ≠ 0 ∧ K (.int k (k.wrap (a.tdiv b)))
  | .rem => b ≠ 0 ∧ K (.int k (a.tmod b))
  | .and => K (.int k (k.wrap ((BitVec.ofInt k.bits a &&& BitVec.ofInt k.bits b).toNat)))
  | .or => K (.int k (k.wrap ((BitVec.ofInt k.bits a ||| BitVec.ofInt k.bits b).toNat)))
  | .xor => K (.int k (k.wrap ((BitVec.ofInt k.bits a ^^^ BitVec.ofInt k.bits b).toNat)))
  | .andNot => K (.int k (k.wrap ((BitVec.ofInt k.bits a &&& ~~~ (BitVec.ofInt k.bits b)).toNat)))
  | .shl => 0 ≤ b ∧ K (.int k (k.wrap (a * 2 ^ min b.toNat k.bits)))
  | .shr => 0 ≤ b ∧ K (.int k (a.fdiv (2 ^ min b.toNat k.bits)))
  | .eql => K (.bool (a == b))
  | .neq => K (.bool (a != b))
  | .lss => K (.bool (decide (a < b)))
  | .leq => K (.bool (decide (a ≤ b)))
  | .gtr => K (.bool (decide (a > b)))
  | .geq => K (.bool (decide (a ≥ b)))
def AggEq (P : Program) (t : TypeId) (xs ys : Array Value) (b : Bool) : Prop := ∀ w, (Op.equal t (.agg xs) (.agg ys)).run P w = .ok b w
def strEq (a b : ByteArray) : Bool := a.toList == b.toList
def strLt (a b : ByteArray) : Bool := Op.bytesLess a.toList b.toList
def binS (op : BinOp) (a b : ByteArray) (K : Value → Prop) : Prop := match op with
  | .eql => K (.bool (strEq a b))
  | .neq => K (.bool (!strEq a b))
  | .lss => K (.bool (strLt a b))
  | .leq => K (.bool (strLt a b || strEq a b))
  | .gtr => K (.bool (!(strLt a b || strEq a b)))
  | .geq => K (.bool (!strLt a b))
  | .add => a.size + b.size ≤ 9223372036854775807 ∧ K (.string (a ++ b))
  | _ => False
/-- A comparison whose outcome b is the same wherever it is made. -/
def eqK (op : BinOp) (b : Bool) (K : Value → Prop) : Prop := match op with
  | .eql => K (.bool b)
  | .neq => K (.bool (!b))
  | _ => False
def isNilI (v : Value) : Option Bool := match v with
  | .nilIface => some true
  | .iface _ _ => some false
  | _ => none
def binW (P : Program) (op : BinOp) (t : TypeId) (cy : Bool) (x y : Value) (K : Value → Prop) : Prop := match y with
  | .nilIface => match P.underlying t with
    | some (.interface _) => cond cy (∃ b, isNilI x = some b ∧ eqK op b K) False
    | _ => False
  | y => match x, y with
  | .int k a, .int k' b => match op with
    | .shl => binI .shl k a b K
    | .shr => binI .shr k a b K
    | op => cond (decide (k = k')) (binI op k a b K) False
  | .bool a, .bool b => match P.underlying t with
    | some .bool => eqK op (a == b) K
    | _ => False
  | .string a, .string b => binS op a b K
  | .pointer a, .pointer none => match P.underlying t with
    | some (.pointer _) => eqK op a.isNone K
    | _ => False
  | .slice a _ _, .slice none _ _ => match P.underlying t with
    | some (.slice _) => eqK op a.isNone K
    | _ => False
  | .agg xs, .agg ys => cond (P.eqGuardType P.depth t) False (∃ b, AggEq P t xs ys b ∧ eqK op b K)
  | _, _ => False
def isC (o : Operand) : Bool := match o with
  | .const _ => true
  | _ => false
def unW (op : UnOp) (x : Value) (K : Value → Prop) : Prop := match op, x with
  | .not, .bool b => K (.bool (!b))
  | .neg, .int k n => K (.int k (k.wrap (0 - n)))
  | .xor, .int k n => binI .xor k (if k.signed then -1 else k.max) n K
  | _, _ => False
def fieldOf (P : Program) (s : TypeId) (f : Nat) : Option Field := match P.underlying s with
  | some (.struct fs) => fs.toList[f]?
  | _ => none
def fadW (P : Program) (s : TypeId) (x : Value) (f : Nat) (K : Value → Prop) : Prop := match x with
  | .pointer p => nlW p fun a => match fieldOf P s f with
    | some fd => cond (Nat.beq (P.cellsOf fd.type) 0) False (K (.pointer (some (a.add fd.offset))))
    | none => False
  | _ => False
def partW (P : Program) (t : TypeId) (cs : Array Value) (off : Nat) (K : Value → Prop) : Prop :=
  cond (isAggB P t) (K (.agg (cs.extract off (off + P.cellsOf t)))) (exT P t fun v => cs[off]? = some v ∧ K v)
def fldW (P : Program) (s : TypeId) (x : Value) (f : Nat) (K : Value → Prop) : Prop := match x with
  | .agg cs => match fieldOf P s f with
    | some fd => partW P fd.type cs fd.offset K
    | none => False
  | _ => False
def iadW (P : Program) (t : TypeId) (x i : Value) (K : Value → Prop) : Prop := match i with
  | .int _ i => match P.underlying t with
    | some (.array len e) => match x with
      | .pointer p => nlW p fun a => cond (P.info? e).isSome ((0 ≤ i ∧ i < (len : Int)) ∧ K (.pointer (some (a.add (i.toNat * P.cellsOf e))))) False
      | _ => False
    | some (.slice e) => match x with
      | .slice b len _ => nlW b fun a => cond (P.info? e).isSome ((0 ≤ i ∧ i < (len : Int)) ∧ K (.pointer (some (a.add (i.toNat * P.cellsOf e))))) False
      | _ => False
    | _ => False
  | _ => False
def idxW (P : Program) (t : TypeId) (x i : Value) (K : Value → Prop) : Prop := match i with
  | .int _ i => match x with
    | .string s => match P.underlying t with
      | some .string => 0 ≤ i ∧ ∃ b, s[i.toNat]? = some b ∧ K (.int .u8 b.toNat)
      | _ => False
    | .agg cs => match P.underlying t with
      | some (.array len e) => (0 ≤ i ∧ i < (len : Int)) ∧ cond (P.info? e).isSome (partW P e cs (i.toNat * P.cellsOf e) K) False
      | _ => False
    | _ => False
  | _ => False
def extW (x : Value) (i : Nat) (K : Value → Prop) : Prop := match x with
  | .tuple vs => match vs.toList[i]? with
    | some v => K v
    | none => False
  | _ => False
def mkiW (P : Program) (t : TypeId) (x : Value) (K : Value → Prop) : Prop := match P.underlying t with
  | some (.interface _) => False
  | some _ => K (.iface t x)
  | none => False
def cnvW (P : Program) (s d : TypeId) (x : Value) (K : Value → Prop) : Prop := match x with
  | .int _ n => match P.underlying s, P.underlying d with
    | some (.int _), some (.int k) => K (.int k (k.wrap n))
    | _, _ => False
  | .string b => match P.underlying s, P.underlying d with
    | some .string, some .string => K (.string b)
    | _, _ => False
  | _ => False
def lenW (P : Program) (t : TypeId) (x : Value) (K : Value → Prop) : Prop := match P.underlying t with
  | some .string => match x with
    | .string s => K (.int .i64 s.size)
    | _ => False
  | some (.slice _) => match x with
    | .slice _ n _ => K (.int .i64 n)
    | _ => False
  | some (.array n _) => K (.int .i64 n)
  | _ => False

/-- The zero value of a type. -/
def zvO (P : Program) (t : TypeId) : Option Value := match P.info? t with
  | some i => i.zero
  | none => none
/-- x.(T) with its 'ok', T no interface. -/
def tasW (P : Program) (T : TypeId) (x : Value) (K : Value → Prop) : Prop := match P.underlying T with
  | some (.interface _) => False
  | some _ => match zvO P T with
    | some z => (x = .nilIface ∧ K (.tuple #[z, .bool false])) ∨
        (∃ (u : TypeId) (v : Value), x = .iface u v ∧ cond (Nat.beq u T) (exT P T fun v' => v = v' ∧ K (.tuple #[v', .bool true])) (K (.tuple #[z, .bool false])))
    | none => False
  | none => False
def bldP (P : Program) (t : TypeId) (parts : List (Nat × Value)) (v : Value) : Prop := ∀ w, (Instr.build t parts.toArray).run P w = .ok v w
/-- A struct's or an array's literal. -/
def bldW (P : Program) (t : TypeId) (parts : List (Nat × Value)) (K : Value → Prop) : Prop := ∃ cs : Array Value, bldP P t parts (.agg cs) ∧ K (.agg cs)

/-- What a computation that only reads comes to, whatever the world. -/
def evP (P : Program) (s : Sem Value) (v : Value) : Prop := ∀ w, s.run P w = .ok v w
/-- .. in this world. -/
def rdP (P : Program) (s : Sem Value) (v : Value) (w : World) : Prop := s.run P w = .ok v w
/-- What a computation comes to, and the world behind it. -/
def stP (P : Program) (s : Sem Value) (w : World) (v : Value) (w' : World) : Prop := s.run P w = .ok v w'
def stU (P : Program) (s : Sem Unit) (w w' : World) : Prop := s.run P w = .ok () w'
/-! Slices of slices, strings and arrays -/
def loW (lo : Option Value) (h : Nat) (K : Nat → Prop) : Prop := match lo with
  | none => K 0
  | some (.int _ l) => (0 ≤ l ∧ l ≤ (h : Int)) ∧ K l.toNat
  | _ => False
def hiW (hi : Option Value) (len m : Nat) (K : Nat → Prop) : Prop := match hi with
  | none => K len
  | some (.int _ h) => (0 ≤ h ∧ h ≤ (m : Int)) ∧ K h.toNat
  | _ => False
def slB (b : Option Addr) (l m size : Nat) : Option Addr := if m = l then b else b.map (fun a => a.add (l * size))
def slA (a : Addr) (l m size : Nat) : Addr := if m = l then a else a.add (l * size)
def slcW (P : Program) (t : TypeId) (x : Value) (lo hi mx : Option Value) (K : Value → Prop) : Prop := match mx with
  | none => match P.underlying t with
    | some .string => match x with
      | .string s => hiW hi s.size s.size fun h => loW lo h fun l => K (.string (s.extract l h))
      | _ => False
    | some (.slice e) => match x with
      | .slice b len c => cond (P.info? e).isSome (hiW hi len c fun h => loW lo h fun l => K (.slice (slB b l c (P.cellsOf e)) (h - l) (c - l))) False
      | _ => False
    | some (.array n e) => match x with
      | .pointer p => nlW p fun a => cond (P.info? e).isSome (hiW hi n n fun h => loW lo h fun l => K (.slice (some (slA a l n (P.cellsOf e))) (h - l) (n - l))) False
      | _ => False
    | _ => False
  | some m => match P.underlying t with
    | some (.slice e) => match x with
      | .slice b len c => cond (P.info? e).isSome (hiW (some m) len c fun m => match hi with
          | some h => hiW (some h) len m fun h => loW lo h fun l => K (.slice (slB b l m (P.cellsOf e)) (h - l) (m - l))
          | none => False) False
      | _ => False
    | _ => False
def capW (P : Program) (t : TypeId) (x : Value) (K : Value → Prop) : Prop := match P.underlying t with
  | some (.slice _) => match x with
    | .slice _ _ c => K (.int .i64 c)
    | _ => False
  | some (.array n _) => K (.int .i64 n)
  | _ => False
def isMapB (P : Program) (t : TypeId) : Bool := match P.underlying t with
  | some (.map _ _) => true
  | _ => false
/-- From a slice of bytes or runes to a string. -/
def isBackB (P : Program) (s d : TypeId) : Bool := match P.underlying s, P.underlying d with
  | some (.slice _), some .string => true
  | _, _ => false
/-- From a string, or a slice, to a slice. -/
def isSpreadB (P : Program) (s d : TypeId) : Bool := match P.underlying s, P.underlying d with
  | some .string, some (.slice _) => true
  | some (.slice _), some (.slice _) => true
  | _, _ => false
/-- min, max of two whole numbers. -/
def mnxL (mx : Bool) (k : IntKind) : List Value → Int → (Value → Prop) → Prop
  | [], a, K => K (.int k a)
  | .int k' b :: r, a, K => cond (decide (k = k')) (mnxL mx k r (cond mx (if b > a then b else a) (if b < a then b else a)) K) False
  | _ :: _, _, _ => False
def mnxW (mx : Bool) (xs : List Value) (K : Value → Prop) : Prop := match xs with
  | .int k a :: r => mnxL mx k r a K
  | _ => False
/-- A reading operation: its value is the same in all worlds of which 'at_' speaks. -/
def rOp (P : Program) (at_ : (World → Prop) → Prop) (ρ : Env) (o : Op) (ty : TypeId) (K : Value → Prop) : Prop := match o with
  | .move x => K (opd ρ x)
  | .assign x => K (opd ρ x)
  | .pick c a b => pickW (opd ρ c) (opd ρ a) (opd ρ b) K
  | .load t a => loadW P at_ t (opd ρ a) K
  | .nilCheck x => nilW (opd ρ x) K
  | .binOp op t x y _ => binW P op t (isC y) (opd ρ x) (opd ρ y) K
  | .unOp op _ x => unW op (opd ρ x) K
  | .fieldAddr s x f => fadW P s (opd ρ x) f K
  | .field s x f => fldW P s (opd ρ x) f K
  | .indexAddr t x i => iadW P t (opd ρ x) (opd ρ i) K
  | .index t x i => idxW P t (opd ρ x) (opd ρ i) K
  | .extract x i => extW (opd ρ x) i K
  | .makeInterface t x => mkiW P t (opd ρ x) K
  | .typeAssert x _ T ok => cond ok (tasW P T (opd ρ x) K) False
  | .makeFunc fn first cap => K (.func fn (first.toList.map (opd ρ)).toArray (cap.toList.map (opd ρ)).toArray)
  | .convert s d x => cond (isBackB P s d) (exT P ty fun v => at_ (rdP P (convert s d (opd ρ x)) v) ∧ K v) (cnvW P s d (opd ρ x) K)
  | .build t parts => bldW P t (parts.toList.map fun p => (p.1, opd ρ p.2)) K
  | .slice t x lo hi mx => slcW P t (opd ρ x) (lo.map (opd ρ)) (hi.map (opd ρ)) (mx.map (opd ρ)) K
  | .lookup t x i ok => exR P ty fun v => at_ (rdP P (Instr.lookup t (opd ρ x) (opd ρ i) ok) v) ∧ K v
  | .call { callee := .builtin .len, args, argTypes } => match args.toList, argTypes.toList with
    | [x], [t] => cond (isMapB P t) (exT P ty fun v => at_ (rdP P (Builtin.len_ #[t] ty #[opd ρ x]) v) ∧ K v) (lenW P t (opd ρ x) K)
    | _, _ => False
  | .call { callee := .builtin .cap, args, argTypes } => match args.toList, argTypes.toList with
    | [x], [t] => capW P t (opd ρ x) K
    | _, _ => False
  | .call { callee := .builtin .min, args, .. } => mnxW false (args.toList.map (opd ρ)) K
  | .call { callee := .builtin .max, args, .. } => mnxW true (args.toList.map (opd ρ)) K
  | _ => False
def isRead (P : Program) (o : Op) : Bool := match o with
  | .move _ | .assign _ | .pick .. | .load .. | .nilCheck _ | .binOp .. | .unOp .. | .fieldAddr .. | .field .. | .indexAddr .. | .index .. | .extract .. | .makeInterface .. | .makeFunc .. | .build .. | .typeAssert .. | .slice .. | .lookup .. => true
  | .convert s d _ => !isSpreadB P s d
  | .call { callee := .builtin .len, .. } => true
  | .call { callee := .builtin .cap, .. } => true
  | .call { callee := .builtin .min, .. } => true
  | .call { callee := .builtin .max, .. } => true
  | _ => false

/-! ### Operations that turn the world -/
/-- The cells of a type's zero value. -/
def zc (P : Program) (t : TypeId) : Array Value := match P.info? t with
  | some i => match i.zero with
    | some z => z.cells
    | none => #[]
  | none => #[]
def hasZ (P : Program) (t : TypeId) : Bool := match P.info? t with
  | some i => i.zero.isSome
  | none => false
def one (v : Value) : Bool := match v with
  | .agg _ => false
  | .tuple _ => false
  | _ => true
def stoL (a : Addr) : List Value → Nat → World → World
  | [], _, w => w
  | v :: r, i, w => stoL a r (i + 1) (w.setCell (a.add i) v)
/-- There is room for those cells. -/
def RoomAt (w : World) (a : Addr) (n : Nat) : Prop := ∀ i, i < n → (∃ v, w.cell? (a.add i) = some v) ∧ w.frozen? (a.add i) = false
/-- A store of a struct or an array. -/
def stA (n : Nat) (a : Addr) (cs : Array Value) (w : World) (K : World → Prop) : Prop := cs.size = n ∧ (∀ c ∈ cs.toList, one c = true) ∧ RoomAt w a cs.size ∧ K (stoL a cs.toList 0 w)
/-- A store into one cell. -/
def stC (a : Addr) (v : Value) (w : World) (K : World → Prop) : Prop := (∃ u, w.cell? a = some u) ∧ w.frozen? a = false ∧ K (w.setCell a v)
def stoW (P : Program) (t : TypeId) (x v : Value) (w : World) (K : Value → World → Prop) : Prop := match x with
  | .pointer p => nlW p fun a => match v with
    | .agg cs => cond (P.info? t).isSome (stA (P.cellsOf t) a cs w (K undef)) False
    | v => cond (Nat.beq (P.cellsOf t) 1 && one v) (stC a v w (K undef)) False
  | _ => False
def plainFn (P : Program) (f : FuncId) : Bool := match P.funcs.toList[f]? with
  | some fn => fn.body.isSome && !(fn.name == "runtime.NumGoroutine")
  | none => false
/-- A function of the library that has no Go body. -/
def bareFn (P : Program) (f : FuncId) : Bool := match P.funcs.toList[f]? with
  | some fn => fn.body.isNone
  | none => false
/-- What such a function comes to. -/
def extP (P : Program) (f : FuncId) (args : Array Value) (w : World) (v : Value) (w' : World) : Prop := (callFunc f args).run P w = .ok (.value v) w'
/-- A call of the body of a range over a function. -/
def YldAt (P : Program) (l : Nat) (args : Array Value) (w : World) (R : Ending → World → Prop) : Prop :=
  ∃ f tmps assign body, (Instr.yield l args).run P w = .ok (.round l f tmps assign body) w ∧ RoundIn Fence.wide 0 P l f tmps assign body w R
/-- A call of a Go function, or of a loop's body. -/
def calV (P : Program) (f : Value) (args : List Value) (w : World) (R : Ending → World → Prop) : Prop := match f with
  | .func (.func n) first captured => cond (plainFn P n) (Calls P n (first.toList ++ args ++ captured.toList).toArray w R)
      (cond (bareFn P n) (∃ (v : Value) (w' : World), extP P n (first.toList ++ args ++ captured.toList).toArray w v w' ∧ R (.returned v) w') False)
  | .func (.yield l) first _ => cond first.isEmpty (YldAt P l args.toArray w R) False
  | _ => False
def calW (P : Program) (ty : TypeId) (f : Value) (args : List Value) (w : World) (K : Value → World → Prop) : Prop :=
  calV P f args w (fun e w' => exR P ty (fun v => e = .returned v ∧ K v w'))
/-- A new block. -/
def newW (cs : Array Value) (t : TypeId) (w : World) (K : Addr → World → Prop) : Prop := K ⟨w.heap.size, 0, none⟩ (w.alloc (.cells cs t))
/-- A slice's literal: its cells. -/
def bslP (P : Program) (t : TypeId) (len : Nat) (parts : List (Nat × Value)) (cs : Array Value) (e : TypeId) : Prop :=
  ∀ w, (Instr.buildSlice t len parts.toArray).run P w = .ok (.slice (some ⟨w.heap.size, 0, none⟩) len len) (w.alloc (.cells cs e))
def bslW (P : Program) (t : TypeId) (len : Nat) (parts : List (Nat × Value)) (w : World) (K : Value → World → Prop) : Prop := ∃ cs : Array Value, bslP P t len parts cs (P.elem t) ∧ newW cs (P.elem t) w fun a w => K (.slice (some a) len len) w
/-- append: what the new slice is, whatever capacity a new block gets. -/
def apnW (P : Program) (t tx : TypeId) (s x : Value) (w : World) (K : Option Addr → Nat → Nat → World → Prop) : Prop := match P.underlying t with
  | some (.slice e) => match P.info? e with
    | some i => match i.zero with
      | some z => ∃ (b : Option Addr) (l c n : Nat) (news : List Value), s = .slice b l c ∧ Src P i.size tx x n news w ∧
          cond (Nat.ble (l + n) c)
            ((b = none ∧ news = [] ∧ K none (l + n) c w) ∨ ∃ a, b = some a ∧ RoomAt w (a.add (l * i.size)) news.length ∧ K (some a) (l + n) c (stoL (a.add (l * i.size)) news 0 w))
            (∃ olds : List Value, olds.length = l * i.size ∧ (∀ a, b = some a → RowAt w a olds.toArray) ∧ (b = none → l = 0) ∧ ((l + n : Nat) : Int) ≤ 9223372036854775807 ∧ Builtin.nextslicecap (l + n) c * i.bytes ≤ 281474976710656 ∧
              ∀ nc, l + n ≤ nc → (l + n ≤ maxLen → nc ≤ maxLen) → newW ((olds ++ news).toArray ++ Builtin.zeroCells z.cells (nc - (l + n))) e w.drew fun a w' => K (some a) (l + n) nc w')
      | none => False
    | none => False
  | _ => False
/-- make of a slice. -/
def mksW (P : Program) (t : TypeId) (l c : Value) (w : World) (K : Option Addr → Nat → Nat → World → Prop) : Prop := match P.underlying t with
  | some (.slice e) => match l, c with
    | .int _ l, .int _ c => match P.info? e with
      | some i => match i.zero with
        | some z => (0 ≤ l ∧ l ≤ c ∧ c ≤ 9223372036854775807 ∧ (i.bytes : Int) * c ≤ 281474976710656) ∧ newW ((Array.range (c.toNat * i.size)).map (z.cells[· % z.cells.size]!)) e w fun a w' => K (some a) l.toNat c.toNat w'
        | none => False
      | none => False
    | _, _ => False
  | _ => False
/-- copy. -/
def cpyW (P : Program) (t : TypeId) (d x : Value) (w : World) (K : Value → World → Prop) : Prop := match P.underlying t with
  | some (.slice e) => match P.info? e with
    | some i => match d with
      | .slice b l _ => ∃ (n : Nat) (news : List Value), (∀ w', (Builtin.lenOf x).run P w' = .ok n w') ∧ (Builtin.firstCells i.size (Nat.min n l) x).run P w = .ok news.toArray w ∧ (∀ u ∈ news, one u = true) ∧
          ((b = none ∧ K (.int .i64 ((Nat.min n l : Nat) : Int)) w) ∨ ∃ a, b = some a ∧ RoomAt w a news.length ∧ K (.int .i64 ((Nat.min n l : Nat) : Int)) (stoL a news 0 w))
      | _ => False
    | none => False
  | _ => False
/-- clear of a slice. -/
def clrW (P : Program) (t : TypeId) (x : Value) (w : World) (K : Value → World → Prop) : Prop := match P.underlying t with
  | some (.slice e) => match P.info? e with
    | some i => match i.zero with
      | some z => match x with
        | .slice b n _ => (n = 0 ∧ K (.tuple #[]) w) ∨ (b = none ∧ K (.tuple #[]) w) ∨ ∃ a, b = some a ∧ 0 < n ∧ (∀ u ∈ z.cells, one u = true) ∧ RoomAt w a (n * z.cells.size) ∧ K (.tuple #[]) (stoL a (Builtin.zeroCells z.cells n).toList 0 w)
        | _ => False
      | none => False
    | none => False
  | _ => False
def wOp (P : Program) (ρ : Env) (o : Op) (ty : TypeId) (w : World) (K : Value → World → Prop) : Prop := match o with
  | .alloc t => cond (hasZ P t) (newW (zc P t) t w fun a w => K (.pointer (some a)) w) False
  | .box t x => newW (opd ρ x).cells t w fun a w => K (.pointer (some a)) w
  | .store t a x => stoW P t (opd ρ a) (opd ρ x) w K
  | .buildSlice t len parts => bslW P t len (parts.toList.map fun p => (p.1, opd ρ p.2)) w K
  | .makeSlice t l c => mksW P t (opd ρ l) (opd ρ c) w fun b l c w' => K (.slice b l c) w'
  | .makeMap t none => ∃ v w', stP P (Instr.makeMap t none) w v w' ∧ K v w'
  | .makeMap t (some r) => ∃ v w', stP P (Instr.makeMap t (some (opd ρ r))) w v w' ∧ K v w'
  | .mapUpdate t m k v => ∃ w', stU P (Instr.mapUpdate t (opd ρ m) (opd ρ k) (opd ρ v)) w w' ∧ K undef w'
  | .insert t m k v => ∃ w', stU P (Instr.mapUpdate t (opd ρ m) (opd ρ k) (opd ρ v)) w w' ∧ K undef w'
  | .mapEntry t m k => exR P ty fun v => ∃ w', stP P (Instr.mapEntry t (opd ρ m) (opd ρ k)) w v w' ∧ K v w'
  | .entryStore t m s v => ∃ w', stU P (Instr.entryStore t (opd ρ m) (opd ρ s) (opd ρ v)) w w' ∧ K undef w'
  | .range t x => ∃ v w', stP P (Instr.range t (opd ρ x)) w v w' ∧ K v w'
  | .next it s => exR P ty fun v => ∃ w', stP P (Instr.next (opd ρ it) s ty) w v w' ∧ K v w'
  | .entry it => exR P ty fun v => ∃ w', stP P (Instr.entry (opd ρ it)) w v w' ∧ K v w'
  | .convert s d x => cond (isSpreadB P s d) (exT P ty fun v => ∃ w', stP P (convert s d (opd ρ x)) w v w' ∧ K v w') (rOp P (fun p => p w) ρ (.convert s d x) ty (fun v => K v w))
  | .call { callee := .value f, args, .. } => calW P ty (opd ρ f) (args.toList.map (opd ρ)) w K
  | .call { callee := .builtin .append, args, argTypes } => match args.toList, argTypes.toList with
    | [s, x], [t, tx] => apnW P t tx (opd ρ s) (opd ρ x) w fun b l c w' => K (.slice b l c) w'
    | _, _ => False
  | .call { callee := .builtin .copy, args, argTypes } => match args.toList, argTypes.toList with
    | [d, x], [t, _] => cpyW P t (opd ρ d) (opd ρ x) w K
    | _, _ => False
  | .call { callee := .builtin .clear, args, argTypes } => match args.toList, argTypes.toList with
    | [x], [t] => clrW P t (opd ρ x) w K
    | _, _ => False
  | .call { callee := .builtin .delete, args, argTypes } => match args.toList with
    | [m, k] => ∃ v w', stP P (Builtin.delete_ argTypes ty #[opd ρ m, opd ρ k]) w v w' ∧ K v w'
    | _ => False
  | o => rOp P (fun p => p w) ρ o ty (fun v => K v w)
/-- A defer statement's call. -/
def defW (P : Program) (f : Value) (args : List Value) (K : Deferred → Prop) : Prop := match f with
  | .func (.func n) first captured => cond (plainFn P n) (K { target := .fn (.func n) captured, args := (first.toList ++ args).toArray }) False
  | _ => False
/-- An operation, or a defer statement. -/
def wOpD (P : Program) (rd : Bool) (ρ : Env) (o : Oper) (w : World) (K : Env → World → Prop) : Prop := match o.op with
  | .defer { callee := .value f, args, .. } => cond rd False (defW P (opd ρ f) (args.toList.map (opd ρ)) fun d => K (upd ⟨ρ.v, d :: ρ.d⟩ o.dst undef) w)
  | .defer _ => False
  | op => wOp P ρ op o.type w (fun v w' => K (upd ρ o.dst v) w')
/-- A guarded operation: the guard is decided first, and known from there on. -/
def grd (ops : List Oper) (j : Nat) (want : Bool) (ρ : Env) (yes no : Env → Prop) : Prop := match ops[j]? with
  | some o => match o.dst with
    | some t => match ρ t with
      | .bool b => cond b (cond want (yes (upd ρ (some t) (.bool true))) (no (upd ρ (some t) (.bool true)))) (cond want (no (upd ρ (some t) (.bool false))) (yes (upd ρ (some t) (.bool false))))
      | _ => no ρ
    | none => no ρ
  | none => no ρ
/-- The operations of a region, one behind the other. -/
def wOps (P : Program) (rd : Bool) (ops : List Oper) (K : Env → World → Prop) : List Oper → Env → World → Prop
  | [], ρ, w => K ρ w
  | o :: rest, ρ, w => match o.guard with
    | none => wOpD P rd ρ o w (fun ρ' w' => wOps P rd ops K rest ρ' w')
    | some (j, want) => grd ops j want ρ (fun ρ => wOpD P rd ρ o w (fun ρ' w' => wOps P rd ops K rest ρ' w')) (fun ρ => wOps P rd ops K rest (upd ρ o.dst undef) w)
def findL (f : Nat → Bool) : List Nat → Option Nat
  | [] => none
  | i :: r => cond (f i) (some i) (findL f r)
def allL (f : Nat → Prop) : List Nat → Prop
  | [] => True
  | [i] => f i
  | i :: r => f i ∧ allL f r
def hasN (i : Nat) : List Nat → Bool
  | [] => false
  | j :: r => cond (Nat.beq i j) true (hasN i r)
def insN (i : Nat) (l : List Nat) : List Nat := cond (hasN i l) l (i :: l)
def uniN : List Nat → List Nat → List Nat
  | [], l => l
  | i :: r, l => uniN r (insN i l)
def getN : List (List Nat) → Nat → List Nat
  | [], _ => []
  | x :: _, 0 => x
  | _ :: r, n + 1 => getN r n
/-- What must have come up ahead of an operation with these edges. -/
def ancE (T : List (List Nat)) : List Edge → List Nat
  | [] => []
  | e :: r => cond (Region.binds .any e) (insN e.on (uniN (getN T e.on) (ancE T r))) (ancE T r)
def ancT : List Oper → List (List Nat) → List (List Nat)
  | [], T => T
  | o :: r, T => ancT r (T ++ [ancE T o.after.toList])
def dropN (A : List Nat) : List Nat → List Nat
  | [] => []
  | i :: r => cond (hasN i A) (dropN A r) (i :: dropN A r)
/-- Reads that hang on the world. -/
def isLd (P : Program) (o : Op) : Bool := match o with
  | .load .. => true
  | .lookup .. => true
  | .convert s d _ => isBackB P s d
  | .call { callee := .builtin .len, argTypes, .. } => match argTypes.toList with
    | [t] => isMapB P t
    | _ => true
  | _ => false
/-- Behind an operation: while loads that were taken first may still have to come up, the condition may only be told more narrowly; else there is none. -/
def behR (S : Option (World → Prop)) (pend : List Nat) (w : World) (K : Option (World → Prop) → List Nat → Prop) : Prop := match pend with
  | [] => K none []
  | p => match S with
    | some S => ∃ S' : World → Prop, (∀ w, S' w → S w) ∧ S' w ∧ K (some S') p
    | none => False
/-- The condition under which a load is taken first. -/
def undR (S : Option (World → Prop)) (w : World) (K : (World → Prop) → Prop) : Prop := match S with
  | some S => K S
  | none => ∃ S : World → Prop, S w ∧ K S
def isNilL : List Nat → Bool
  | [] => true
  | _ :: _ => false
/-- A read, taken first: where it is the only one that may come up (and none is pending), in the world at hand; a load else under a condition. -/
def rdR (P : Program) (one : Bool) (S : Option (World → Prop)) (pend : List Nat) (i : Nat) (ρ : Env) (o : Oper) (w : World) (K : Option (World → Prop) → List Nat → Value → Prop) : Prop :=
  cond (isLd P o.op) (cond (one && isNilL pend) (rOp P (fun p => p w) ρ o.op o.type fun v => K none [] v)
    (undR S w fun S => rOp P (fun p => ∀ w', S w' → p w') ρ o.op o.type fun v => K (some S) (i :: pend) v))
    (rOp P (fun p => p w) ρ o.op o.type fun v => K S pend v)
/-- A region that draws its order: what only reads comes as soon as it may. -/
def wHeldR (P : Program) (ops : List Oper) (T : List (List Nat)) (K : Env → World → Prop) : Nat → Option (World → Prop) → List Nat → Array Bool → Env → World → Prop
  | 0, _, _, listed, ρ, w => match Region.ready .any ops.toArray listed with
    | [] => K ρ w
    | _ => False
  | f + 1, S, pend, listed, ρ, w => match Region.ready .any ops.toArray listed with
    | [] => K ρ w
    | i0 :: rs => match findL (fun i => (match ops[i]? with | some o => isRead P o.op | none => false) && Region.free .any ops.toArray listed i) (i0 :: rs) with
      | some i => match ops[i]? with
        | some o => match o.guard with
          | none => rdR P (isNilL rs) S pend i ρ o w fun S pend v => wHeldR P ops T K f S pend (listed.setIfInBounds i true) (upd ρ o.dst v) w
          | some (j, want) => grd ops j want ρ (fun ρ => rdR P (isNilL rs) S pend i ρ o w fun S pend v => wHeldR P ops T K f S pend (listed.setIfInBounds i true) (upd ρ o.dst v) w)
              (fun ρ => wHeldR P ops T K f S pend (listed.setIfInBounds i true) (upd ρ o.dst undef) w)
        | none => False
      | none => allL (fun i => match ops[i]? with
        | some o => match o.guard with
          | none => wOp P ρ o.op o.type w (fun v w' => behR S (dropN (getN T i) pend) w' fun S pend => wHeldR P ops T K f S pend (listed.setIfInBounds i true) (upd ρ o.dst v) w')
          | some (j, want) => grd ops j want ρ (fun ρ => wOp P ρ o.op o.type w (fun v w' => behR S (dropN (getN T i) pend) w' fun S pend => wHeldR P ops T K f S pend (listed.setIfInBounds i true) (upd ρ o.dst v) w'))
              (fun ρ => behR S (dropN (getN T i) pend) w fun S pend => wHeldR P ops T K f S pend (listed.setIfInBounds i true) (upd ρ o.dst undef) w)
        | none => False) (i0 :: rs)
def allRead (P : Program) : List Oper → Bool
  | [] => true
  | o :: r => isRead P o.op && allRead P r
def wDraw (P : Program) (ops : List Oper) (K : Env → World → Prop) (ρ : Env) (w : World) : Prop :=
  cond (allRead P ops && Region.lexB .any ops.toArray) (wOps P true ops K ops ρ w.drew)
    (cond (Region.noSelect ops.toArray) (wHeldR P ops (ancT ops []) K ops.length none [] (Array.replicate ops.length false) ρ w.drew) False)

/-! ### Code -/
abbrev Post := Exit → Env → World → Prop
def thenE (next : Env → World → Prop) (Q : Post) : Post
  | .normal => next
  | e => Q e
def inE (id : Nat) (Q : Post) : Post
  | .exit id' => fun ρ w => cond (Nat.beq id' id) (Q .normal ρ w) (Q (.exit id') ρ w)
  | e => Q e
def cndW (v : Value) (A B : Prop) : Prop := match v with
  | .bool t => cond t A B
  | _ => False
/-- The kinds of slots that a cut tells. -/
inductive Kd where
  | int (k : IntKind) | bool | str | ptr | slice | agg | val
def Kd.T : Kd → Type
  | .int _ => Int
  | .bool => Bool
  | .str => ByteArray
  | .ptr => Option Addr
  | .slice => Option Addr × Nat × Nat
  | .agg => Array Value
  | .val => Value
def Kd.V : (k : Kd) → k.T → Value
  | .int k, n => .int k n
  | .bool, b => .bool b
  | .str, s => .string s
  | .ptr, p => .pointer p
  | .slice, s => .slice s.1 s.2.1 s.2.2
  | .agg, cs => .agg cs
  | .val, v => v
def Tup : List (Nat × Kd) → Type
  | [] => Unit
  | k :: r => k.2.T × Tup r
def tv : (L : List (Nat × Kd)) → Tup L → List Value
  | [], _ => []
  | k :: r, t => k.2.V t.1 :: tv r t.2
def slots (L : List (Nat × Kd)) (ρ : Env) : List Value := match L with
  | [] => []
  | k :: r => ρ k.1 :: slots r ρ
def elemN (i : Nat) : List Nat → Bool
  | [] => false
  | j :: r => cond (Nat.beq i j) true (elemN i r)
/-- The slots of L as told, those of A else of no known value, the rest as in ρ. -/
def ovr (ρ junk : Env) (A : List Nat) : (L : List (Nat × Kd)) → Tup L → Env
  | [], _ => ⟨fun i => cond (elemN i A) (junk i) (ρ i), ρ.d⟩
  | k :: r, t => ⟨fun i => cond (Nat.beq i k.1) (k.2.V t.1) (ovr ρ junk A r t.2 i), ρ.d⟩
/-- Where a code is cut, and which slots the cut tells (the first list: what may be written ahead of it). -/
inductive Plan where
  | z
  | n (a b : Plan)
  | cut (A : List Nat) (L : List (Nat × Kd)) (a b : Plan)
def Plan.l : Plan → Plan
  | .n a _ => a
  | .cut _ _ a _ => a
  | .z => .z
def Plan.r : Plan → Plan
  | .n _ b => b
  | .cut _ _ _ b => b
  | .z => .z
def Plan.isN : Plan → Bool
  | .n _ _ => true
  | _ => false
/-- What is asked at a round's end. -/
def rndE (kn kr : World → Prop) (kx : Nat → World → Prop) : Post
  | .normal => fun _ w => kn w
  | .ret => fun _ w => kr w
  | .exit id => fun _ w => kx id w
  | _ => fun _ _ => False
def noE : Post := fun _ _ _ => False
/-- Of a scope that is left by no goto. -/
def scE (Q : Post) : Post
  | .goto _ => fun _ _ => False
  | e => Q e
/-- The mark that a range over a function leaves among the deferred calls. -/
def markD (D : Nat) : Deferred := { target := .collected D, args := #[] }
/-- A range over a function: the iterator is called; a call of yield carries out the body. -/
def rgW (P : Program) (L : List (Nat × Kd)) (g : Value) (w : World) (body : Tup L → World → (World → (World → Prop) → Prop) → (World → Prop) → (World → Prop) → (Nat → World → Prop) → Prop) (Qn Qr : Nat → World → Prop) (Qx : Nat → Nat → World → Prop) : Prop := match g with
  | .func (.func f) first captured => cond (plainFn P f)
    (∀ r : LoopState → Option Code → Loop,
      (∀ (t : Tup L) (W : World) (R : Ending → World → Prop), W.heap[w.heap.size + 1]? = some (.loop (r .ready none)) →
        body t W (fun W' K => W'.heap[w.heap.size + 1]? = some (.loop (r .ready none)) ∧ K (W'.putObj (w.heap.size + 1) (.loop (r .busy none))))
          (fun W' => W'.heap[w.heap.size + 1]? = some (.loop (r .busy none)) ∧ R (.returned (.bool true)) (W'.putObj (w.heap.size + 1) (.loop (r .ready none))))
          (fun W' => W'.heap[w.heap.size + 1]? = some (.loop (r .busy none)) ∧ R (.returned (.bool false)) (W'.putObj (w.heap.size + 1) (.loop (r .done (some .ret)))))
          (fun id W' => W'.heap[w.heap.size + 1]? = some (.loop (r .busy none)) ∧ R (.returned (.bool false)) (W'.putObj (w.heap.size + 1) (.loop (r .done (some (.exit id)))))) →
        YldAt P (w.heap.size + 1) (tv L t).toArray W R) →
      Calls P f (first.toList ++ [Value.func (.yield (w.heap.size + 1)) #[] #[]] ++ captured.toList).toArray ((w.alloc (.deferred (some []))).alloc (.loop (r .ready none))) fun e W => ∃ v, e = .returned v ∧
        ((W.heap[w.heap.size + 1]? = some (.loop (r .ready none)) ∧ Qn w.heap.size (W.putObj (w.heap.size + 1) (.loop (r .exhausted none)))) ∨
          (W.heap[w.heap.size + 1]? = some (.loop (r .done (some .ret))) ∧ Qr w.heap.size (W.putObj (w.heap.size + 1) (.loop (r .exhausted (some .ret))))) ∨
          ∃ id, W.heap[w.heap.size + 1]? = some (.loop (r .done (some (.exit id)))) ∧ Qx w.heap.size id (W.putObj (w.heap.size + 1) (.loop (r .exhausted (some (.exit id))))))) False
  | _ => False
def wCode (P : Program) (rd : Bool) : Code → Plan → Post → Env → World → Prop
  | .skip, _, Q => Q .normal
  | .label _, _, Q => Q .normal
  | .exit id, _, Q => Q (.exit id)
  | .goto l, _, Q => Q (.goto l)
  | .ret, _, Q => Q .ret
  | .region _ ops draw, p, Q => fun ρ w => cond draw (wDraw P ops.toList (Q .normal) ρ w) (wOps P rd ops.toList (Q .normal) ops.toList ρ w)
  | .seq x y, p, Q => fun ρ w => match p with
    | .cut A L a b => ∃ J : Tup L → World → Prop, (∀ (junk : Env) (t : Tup L) (w : World), J t w → wCode P rd y b Q (ovr ρ junk A L t) w) ∧
        wCode P rd x a (thenE (fun ρ' w' => ∃ t : Tup L, slots L ρ' = tv L t ∧ J t w') Q) ρ w
    | p => wCode P rd x p.l (thenE (wCode P rd y p.r Q) Q) ρ w
  | .cond c x y, p, Q => fun ρ w => cndW (opd ρ c) (wCode P rd x p.l Q ρ w) (wCode P rd y p.r Q ρ w)
  | .block id c, p, Q => wCode P rd c p (inE id Q)
  | .scope c, p, Q => wCode P rd c p (scE Q)
  | .loop c, p, Q => fun ρ w => match p with
    | .cut A L a _ => ∃ (I : Tup L → World → Prop) (μ : Tup L → World → Nat), (∃ t : Tup L, slots L ρ = tv L t ∧ I t w) ∧
        ∀ (junk : Env) (t : Tup L) (w : World), I t w → wCode P rd c a (thenE (fun ρ' w' => ∃ t' : Tup L, slots L ρ' = tv L t' ∧ I t' w' ∧ μ t' w' < μ t w) Q) (ovr ρ junk A L t) w
    | _ => False
  | .rangeFunc g _ x y, p, Q => fun ρ w => match p with
    | .cut _ L a b => cond rd False (rgW P L (opd ρ g) w (fun t W bg kn kr kx => wCode P true x a (thenE (fun ρ' w' => bg w' (fun w'' => wCode P true y b (rndE kn kr kx) ρ' w'')) noE) ⟨(ovr ρ ρ [] L t).v, []⟩ W)
        (fun D w' => Q .normal ⟨ρ.v, markD D :: ρ.d⟩ w') (fun D w' => Q .ret ⟨ρ.v, markD D :: ρ.d⟩ w') (fun D id w' => Q (.exit id) ⟨ρ.v, markD D :: ρ.d⟩ w'))
    | _ => False
  | _, _, _ => fun _ _ => False

/-! ### A function -/
def resW (P : Program) (ρ : Env) (w : World) : List ResultVar → (List Value → Prop) → Prop
  | [], K => K []
  | .tmp t :: r, K => resW P ρ w r (fun vs => K (ρ t :: vs))
  | .cell a t :: r, K => loadW P (fun p => p w) t (ρ a) (fun v => resW P ρ w r (fun vs => K (v :: vs)))
def resK (vs : List Value) : Value := match vs with
  | [v] => v
  | vs => .tuple vs.toArray
/-- A deferred call of a function that returns. -/
def CallsR (P : Program) (f : FuncId) (args : Array Value) (w : World) (R : World → Prop) : Prop :=
  CallsDIn Fence.wide 0 P f args .returning w fun e u w' => (∃ v, e = .returned v) ∧ u = .returning ∧ R w'
/-- On its way out. -/
def leavesW (P : Program) (fn : Func) (Q : Value → World → Prop) (ρ : Env) : List Deferred → World → Prop
  | [], w => resW P ρ w fn.results.toList (fun vs => Q (resK vs) w)
  | d :: ds, w => match d.target with
    | .collected D => w.heap[D]? = some (.deferred (some [])) ∧ leavesW P fn Q ρ ds (w.putObj D (.deferred none))
    | .fn (.func f) cap => cond (plainFn P f) (CallsR P f (d.args.toList ++ cap.toList).toArray w fun w' => leavesW P fn Q ρ ds w') False
    | _ => False
def endE (P : Program) (fn : Func) (Q : Value → World → Prop) : Post
  | .normal => fun ρ w => leavesW P fn Q ρ ρ.d w
  | .ret => fun ρ w => leavesW P fn Q ρ ρ.d w
  | _ => fun _ _ => False
def args0 : List Value → Nat → Value
  | [], _ => undef
  | v :: _, 0 => v
  | _ :: r, i + 1 => args0 r i
def wFn (P : Program) (fn : Func) (p : Plan) (args : List Value) (w : World) (Q : Value → World → Prop) : Prop := match fn.body with
  | some c => wCode P false c p (endE P fn Q) ⟨args0 args, []⟩ w
  | none => False
/-- A function that is called as a deferred one, and defers nothing itself. -/
def endD (P : Program) (fn : Func) (Q : Value → World → Prop) : Post
  | .normal => fun ρ w => match ρ.d with
    | [] => resW P ρ w fn.results.toList (fun vs => Q (resK vs) w)
    | _ => False
  | .ret => fun ρ w => match ρ.d with
    | [] => resW P ρ w fn.results.toList (fun vs => Q (resK vs) w)
    | _ => False
  | _ => fun _ _ => False
def wFnD (P : Program) (fn : Func) (p : Plan) (args : List Value) (w : World) (Q : Value → World → Prop) : Prop := match fn.body with
  | some c => wCode P false c p (endD P fn Q) ⟨args0 args, []⟩ w
  | none => False
/-! ### What is asked of a code's form -/
def fitsOps (n : Nat) : List Oper → Bool
  | [] => true
  | o :: r => (match o.dst with | some d => Nat.blt d n | none => true) && fitsOps n r
def inAOps (A : List Nat) : List Oper → Bool
  | [] => true
  | o :: r => ((match o.dst with | some d => elemN d A | none => true) && (match o.op with | .defer _ => false | _ => true)) && inAOps A r
def subN (B : List Nat) : List Nat → Bool
  | [] => true
  | i :: r => elemN i B && subN B r
def subL (B : List Nat) : List (Nat × Kd) → Bool
  | [] => true
  | k :: r => elemN k.1 B && subL B r
def Plan.inB (B : List Nat) : Plan → Bool
  | .cut A L _ _ => subN B A && subL B L
  | _ => true
/-- All that the code writes, and what its cuts tell, is in B. -/
def inA (B : List Nat) : Code → Plan → Bool
  | .region _ ops _, _ => inAOps B ops.toList
  | .seq x y, p => p.inB B && (inA B x p.l && inA B y p.r)
  | .cond _ x y, p => inA B x p.l && inA B y p.r
  | .block _ c, p => inA B c p
  | .scope c, p => inA B c p
  | .loop c, p => p.inB B && inA B c p.l
  | .rangeFunc _ _ _ _, _ => false
  | _, _ => true
/-- The loop's left sides are told. -/
def okPs : List Tmp → List (Nat × Kd) → Bool
  | [], [] => true
  | t :: r, k :: s => Nat.beq t k.1 && okPs r s
  | _, _ => false
def ltL (n : Nat) : List (Nat × Kd) → Bool
  | [] => true
  | k :: r => Nat.blt k.1 n && ltL n r
def noDup : List (Nat × Kd) → Bool
  | [] => true
  | k :: r => !(r.any fun x => Nat.beq x.1 k.1) && noDup r
def fits (n : Nat) : Code → Plan → Bool
  | .region _ ops _, _ => fitsOps n ops.toList
  | .seq x y, p => (match p with | .cut A L a _ => subL A L && inA A x a | _ => true) && (fits n x p.l && fits n y p.r)
  | .cond _ x y, p => fits n x p.l && fits n y p.r
  | .block _ c, p => fits n c p
  | .scope c, p => fits n c p
  | .loop c, p => (match p with | .cut A L a _ => subL A L && inA A c a | _ => true) && fits n c p.l
  | .rangeFunc _ ps x y, p => (match p with | .cut _ L _ _ => okPs ps.toList L && ltL n L && noDup L | _ => true) && (fits n x p.l && fits n y p.r)
  | _, _ => true
def fitsFn (fn : Func) (p : Plan) : Bool := match fn.body with
  | some c => fits fn.ntmps c p
  | none => false
end Go.Hx
