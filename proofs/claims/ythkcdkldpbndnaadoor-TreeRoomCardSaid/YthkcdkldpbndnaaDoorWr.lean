/- The walk's functions of this seat, printed by a program of mine (wgen.py) out of Lean's own print of the loaded functions; each is tied to the loaded function by the kernel. No condition. -/
import Derived.Test.YthkcdkldpbndnaaDoorRows
import Derived.Test.YthkcdkldpbndnaaDoorHz
import Derived.Test.YthkcdkldpbndnaaDoorWn
set_option linter.unusedVariables false
namespace Go.Proofs.YthkcdkldpbndnaaDoor
open Go.RowKit Go.Hx
/-! ### 44: hartix/ram.New -/
def W44_plan : Plan := (.n .z (.n (.cut [6, 7, 8, 9, 10, 11] [(11, .bool)] .z .z) (.n .z (.n .z (.n (.n .z (.cut [5, 21, 22, 23, 24, 25, 26, 27, 28, 29, 30, 31] [(5, .int .i64)] .z .z)) .z)))))
def W44 (x0 : Int) (w : World) (Q : Value → World → Prop) : Prop :=
∃ J1 : (Bool × Unit) → World → Prop, (∀ (_ : Env) (t2 : Bool × Unit) (w : World), J1 t2 w →
cond t2.1 (
Calls Tryd.prog 95 #[.int .i64 (0 : Int), .int .i64 (60 : Int)] w fun e w =>
∃ v3 : Value, e = .returned (v3) ∧
Q (.tuple #[.pointer none, v3]) w) (
Calls Tryd.prog 96 #[.int .i64 x0] w fun e w =>
∃ p4 : Option Addr, e = .returned (.pointer p4) ∧
nlW p4 fun a5 =>
∃ (q6b : Option Addr) (q6l q6c : Nat), w.cell? a5 = some (.slice q6b q6l q6c) ∧
((0 ≤ (4 : Int) ∧ (4 : Int) ≤ ((q6c : Nat) : Int)) ∧
Calls Tryd.prog 97 #[.slice (slB q6b 0 q6c 1) (((4 : Int).toNat) - 0) (q6c - 0), .int .u32 (270532723 : Int)] w fun e w =>
e = .returned (.tuple #[]) ∧
∃ (I7 : (Int × Unit) → World → Prop) (m8 : (Int × Unit) → World → Nat), (∃ t : Int × Unit, ([.int .i64 (1 : Int)] : List Value) = tv [(5, .int .i64)] t ∧ I7 t w) ∧
∀ (_ : Env) (t9 : Int × Unit) (w10 : World), I7 t9 w10 →
(fun w : World =>
cond (decide (t9.1 < x0)) (
Calls Tryd.prog 98 #[.pointer p4, .int .u64 (IntKind.u64.wrap ((2147483648 : Int) + (IntKind.u64.wrap ((IntKind.u64.wrap t9.1) * (4096 : Int)))))] w fun e w =>
e = .returned (.tuple #[]) ∧
∃ t' : Int × Unit, ([.int .i64 (IntKind.i64.wrap (t9.1 + (1 : Int)))] : List Value) = tv [(5, .int .i64)] t' ∧ I7 t' w ∧ m8 t' w < m8 t9 w10) (
Q (.tuple #[.pointer p4, .nilIface]) w)) w10))) ∧
cond (decide (x0 < (1 : Int))) (
∃ t : Bool × Unit, ([.bool true] : List Value) = tv [(11, .bool)] t ∧ J1 t w) (
∃ t : Bool × Unit, ([.bool (decide (x0 > (4096 : Int)))] : List Value) = tv [(11, .bool)] t ∧ J1 t w)
set_option maxRecDepth 100000 in
theorem W44_eq (x0 : Int) (w : World) (Q : Value → World → Prop) : wFn Tryd.prog Tryd.f44 W44_plan [.int .i64 x0] w Q = W44 x0 w Q := by kernel_rfl
set_option maxRecDepth 100000 in
theorem W44_ok (x0 : Int) (w : World) (Q : Value → World → Prop) (h : W44 x0 w Q) : Calls Tryd.prog 44 #[.int .i64 x0] w (fun e w' => ∃ v, e = .returned v ∧ Q v w') :=
  calls_of_wFn mixed W44_plan Tryd.func44 (by kernel_rfl) ((W44_eq x0 w Q).mpr h)

/-! ### 68: (*hartix/ram.Ram).Count -/
def W68_plan : Plan := .z
def W68 (x0 : Option Addr) (w : World) (Q : Value → World → Prop) : Prop :=
Calls Tryd.prog 116 #[.pointer x0] w fun e w =>
∃ b1 : Bool, e = .returned (.bool b1) ∧
cond b1 (
Q (.int .i64 (0 : Int)) w) (
nlW x0 fun a2 =>
∃ n3 : Int, w.cell? (a2.add 3) = some (.int .i64 n3) ∧
Q (.int .i64 n3) w)
set_option maxRecDepth 100000 in
theorem W68_eq (x0 : Option Addr) (w : World) (Q : Value → World → Prop) : wFn Tryd.prog Tryd.f68 W68_plan [.pointer x0] w Q = W68 x0 w Q := by kernel_rfl
set_option maxRecDepth 100000 in
theorem W68_ok (x0 : Option Addr) (w : World) (Q : Value → World → Prop) (h : W68 x0 w Q) : Calls Tryd.prog 68 #[.pointer x0] w (fun e w' => ∃ v, e = .returned v ∧ Q v w') :=
  calls_of_wFn mixed W68_plan Tryd.func68 (by kernel_rfl) ((W68_eq x0 w Q).mpr h)

/-! ### 96: hartix/ram.bare -/
def W96_plan : Plan := (.n .z (.n .z (.n (.n .z (.cut [4, 12, 13, 14, 15, 16, 17, 18, 19, 20, 21, 22, 23, 24] [(12, .int .i64)] .z .z)) .z)))
def W96 (x0 : Int) (w : World) (Q : Value → World → Prop) : Prop :=
((0 ≤ (IntKind.i64.wrap (x0 * (4096 : Int))) ∧ (IntKind.i64.wrap (x0 * (4096 : Int))) ≤ (IntKind.i64.wrap (x0 * (4096 : Int))) ∧ (IntKind.i64.wrap (x0 * (4096 : Int))) ≤ 9223372036854775807 ∧ ((1 : Nat) : Int) * (IntKind.i64.wrap (x0 * (4096 : Int))) ≤ 281474976710656) ∧
newW ((Array.range ((IntKind.i64.wrap (x0 * (4096 : Int))).toNat * 1)).map (fun x => (#[.int .u8 0] : Array Value)[x % (#[.int .u8 0] : Array Value).size]!)) 5 w fun a1 w =>
∃ (v2 : Value) (w' : World), stP Tryd.prog (Instr.makeMap 135 none) w v2 w' ∧
(fun w : World =>
∃ g3 : Array Value, bldP Tryd.prog 137 [(0, .slice (some a1) ((IntKind.i64.wrap (x0 * (4096 : Int))).toNat) ((IntKind.i64.wrap (x0 * (4096 : Int))).toNat)), (1, v2)] (.agg g3) ∧
newW g3 137 w fun a4 w =>
∃ (I5 : (Int × Unit) → World → Prop) (m6 : (Int × Unit) → World → Nat), (∃ t : Int × Unit, ([.int .i64 (0 : Int)] : List Value) = tv [(12, .int .i64)] t ∧ I5 t w) ∧
∀ (_ : Env) (t7 : Int × Unit) (w8 : World), I5 t7 w8 →
(fun w : World =>
cond (decide (t7.1 < x0)) (
∃ v9 : Value, w.cell? (a4.add 1) = some (v9) ∧
∃ g10 : Array Value, bldP Tryd.prog 228 [] (.agg g10) ∧
∃ w' : World, stU Tryd.prog (Instr.mapUpdate 135 v9 (.int .u64 (IntKind.u64.wrap ((2147483648 : Int) + (IntKind.u64.wrap ((IntKind.u64.wrap t7.1) * (4096 : Int)))))) (.agg g10)) w w' ∧
(fun w : World =>
∃ t' : Int × Unit, ([.int .i64 (IntKind.i64.wrap (t7.1 + (1 : Int)))] : List Value) = tv [(12, .int .i64)] t' ∧ I5 t' w ∧ m6 t' w < m6 t7 w8) w') (
Q (.pointer (some a4)) w)) w8) w')
set_option maxRecDepth 100000 in
theorem W96_eq (x0 : Int) (w : World) (Q : Value → World → Prop) : wFn Tryd.prog Tryd.f96 W96_plan [.int .i64 x0] w Q = W96 x0 w Q := by kernel_rfl
set_option maxRecDepth 100000 in
theorem W96_ok (x0 : Int) (w : World) (Q : Value → World → Prop) (h : W96 x0 w Q) : Calls Tryd.prog 96 #[.int .i64 x0] w (fun e w' => ∃ v, e = .returned v ∧ Q v w') :=
  calls_of_wFn mixed W96_plan Tryd.func96 (by kernel_rfl) ((W96_eq x0 w Q).mpr h)

/-! ### 97: hartix/ram.put[uint32] -/
def W97_plan : Plan := (.n .z (.cut [1, 4, 7, 8, 9, 10, 11, 12, 13, 14, 15, 16, 17, 18, 19] [(1, .int .u32), (7, .int .i64)] .z .z))
def W97 (x0b : Option Addr) (x0l x0c : Nat) (x1 : Int) (w : World) (Q : Value → World → Prop) : Prop :=
∃ (I1 : (Int × Int × Unit) → World → Prop) (m2 : (Int × Int × Unit) → World → Nat), (∃ t : Int × Int × Unit, ([.int .u32 x1, .int .i64 (0 : Int)] : List Value) = tv [(1, .int .u32), (7, .int .i64)] t ∧ I1 t w) ∧
∀ (_ : Env) (t3 : Int × Int × Unit) (w4 : World), I1 t3 w4 →
(fun w : World =>
cond (decide (t3.2.1 < ((x0l : Nat) : Int))) (
nlW x0b fun a5 =>
((0 ≤ t3.2.1 ∧ t3.2.1 < ((x0l : Nat) : Int)) ∧
stC (a5.add (t3.2.1.toNat * 1)) (.int .u8 (IntKind.u8.wrap t3.1)) w fun w =>
(0 ≤ (8 : Int) ∧
∃ t' : Int × Int × Unit, ([.int .u32 (IntKind.u32.wrap ((IntKind.u64.wrap t3.1).fdiv (2 ^ min (8 : Int).toNat IntKind.u64.bits))), .int .i64 (IntKind.i64.wrap (t3.2.1 + (1 : Int)))] : List Value) = tv [(1, .int .u32), (7, .int .i64)] t' ∧ I1 t' w ∧ m2 t' w < m2 t3 w4))) (
Q (.tuple #[]) w)) w4
set_option maxRecDepth 100000 in
theorem W97_eq (x0b : Option Addr) (x0l x0c : Nat) (x1 : Int) (w : World) (Q : Value → World → Prop) : wFn Tryd.prog Tryd.f97 W97_plan [.slice x0b x0l x0c, .int .u32 x1] w Q = W97 x0b x0l x0c x1 w Q := by kernel_rfl
set_option maxRecDepth 100000 in
theorem W97_ok (x0b : Option Addr) (x0l x0c : Nat) (x1 : Int) (w : World) (Q : Value → World → Prop) (h : W97 x0b x0l x0c x1 w Q) : Calls Tryd.prog 97 #[.slice x0b x0l x0c, .int .u32 x1] w (fun e w' => ∃ v, e = .returned v ∧ Q v w') :=
  calls_of_wFn mixed W97_plan Tryd.func97 (by kernel_rfl) ((W97_eq x0b x0l x0c x1 w Q).mpr h)

/-! ### 98: (*hartix/ram.Ram).thread -/
def W98_plan : Plan := (.n .z (.n .z (.n (.n .z (.cut [5, 16, 17, 18, 19, 20, 21, 22] [(16, .int .i64)] .z .z)) .z)))
def W98 (x0 : Option Addr) (x1 : Int) (w : World) (Q : Value → World → Prop) : Prop :=
nlW x0 fun a1 =>
∃ v2 : Value, w.cell? (a1.add 1) = some (v2) ∧
∃ (v3 : Value) (w' : World), stP Tryd.prog (Builtin.delete_ #[135, 100] 0 #[v2, .int .u64 x1]) w v3 w' ∧
(fun w : World =>
Calls Tryd.prog 128 #[.pointer x0, .int .u64 x1] w fun e w =>
∃ (q4b : Option Addr) (q4l q4c : Nat), e = .returned (.slice q4b q4l q4c) ∧
∃ (I5 : (Int × Unit) → World → Prop) (m6 : (Int × Unit) → World → Nat), (∃ t : Int × Unit, ([.int .i64 (0 : Int)] : List Value) = tv [(16, .int .i64)] t ∧ I5 t w) ∧
∀ (_ : Env) (t7 : Int × Unit) (w8 : World), I5 t7 w8 →
(fun w : World =>
cond (decide (t7.1 < ((q4l : Nat) : Int))) (
nlW q4b fun a9 =>
((0 ≤ t7.1 ∧ t7.1 < ((q4l : Nat) : Int)) ∧
stC (a9.add (t7.1.toNat * 1)) (.int .u8 (5 : Int)) w fun w =>
∃ t' : Int × Unit, ([.int .i64 (IntKind.i64.wrap (t7.1 + (1 : Int)))] : List Value) = tv [(16, .int .i64)] t' ∧ I5 t' w ∧ m6 t' w < m6 t7 w8)) (
((0 ≤ (8 : Int) ∧ (8 : Int) ≤ ((q4c : Nat) : Int)) ∧
nlW x0 fun a10 =>
∃ n11 : Int, w.drew.cell? (a10.add 2) = some (.int .u64 n11) ∧
Calls Tryd.prog 129 #[.slice (slB q4b 0 q4c 1) (((8 : Int).toNat) - 0) (q4c - 0), .int .u64 n11] w.drew fun e w =>
e = .returned (.tuple #[]) ∧
nlW x0 fun a12 =>
stC (a12.add 2) (.int .u64 x1) w fun w =>
nlW x0 fun a13 =>
∃ n14 : Int, w.cell? (a13.add 3) = some (.int .i64 n14) ∧
nlW x0 fun a15 =>
stC (a15.add 3) (.int .i64 (IntKind.i64.wrap (n14 + (1 : Int)))) w fun w =>
Q (.tuple #[]) w))) w8) w'
set_option maxRecDepth 100000 in
theorem W98_eq (x0 : Option Addr) (x1 : Int) (w : World) (Q : Value → World → Prop) : wFn Tryd.prog Tryd.f98 W98_plan [.pointer x0, .int .u64 x1] w Q = W98 x0 x1 w Q := by kernel_rfl
set_option maxRecDepth 100000 in
theorem W98_ok (x0 : Option Addr) (x1 : Int) (w : World) (Q : Value → World → Prop) (h : W98 x0 x1 w Q) : Calls Tryd.prog 98 #[.pointer x0, .int .u64 x1] w (fun e w' => ∃ v, e = .returned v ∧ Q v w') :=
  calls_of_wFn mixed W98_plan Tryd.func98 (by kernel_rfl) ((W98_eq x0 x1 w Q).mpr h)

/-! ### 121: (*hartix/ram.Ram).Alloc -/
def W121_plan : Plan := (.n .z (.n (.cut [6, 7, 8, 9, 10, 11, 12, 13, 14] [(14, .bool)] .z .z) .z))
def W121 (x0 : Option Addr) (w : World) (Q : Value → World → Prop) : Prop :=
∃ J1 : (Bool × Unit) → World → Prop, (∀ (_ : Env) (t2 : Bool × Unit) (w : World), J1 t2 w →
cond t2.1 (
Q (.tuple #[.int .u64 (0 : Int), .bool false]) w) (
nlW x0 fun a3 =>
∃ n4 : Int, w.cell? (a3.add 2) = some (.int .u64 n4) ∧
Calls Tryd.prog 128 #[.pointer x0, .int .u64 n4] w fun e w =>
∃ (q5b : Option Addr) (q5l q5c : Nat), e = .returned (.slice q5b q5l q5c) ∧
((0 ≤ (8 : Int) ∧ (8 : Int) ≤ ((q5c : Nat) : Int)) ∧
Calls Tryd.prog 145 #[.slice (slB q5b 0 q5c 1) (((8 : Int).toNat) - 0) (q5c - 0)] w fun e w =>
∃ n6 : Int, e = .returned (.int .u64 n6) ∧
nlW x0 fun a7 =>
stC (a7.add 2) (.int .u64 n6) w fun w =>
((q5l = 0 ∧
nlW x0 fun a9 =>
∃ v10 : Value, w.cell? (a9.add 1) = some (v10) ∧
∃ g11 : Array Value, bldP Tryd.prog 228 [] (.agg g11) ∧
∃ w' : World, stU Tryd.prog (Instr.mapUpdate 135 v10 (.int .u64 n4) (.agg g11)) w w' ∧
(fun w : World =>
nlW x0 fun a12 =>
∃ n13 : Int, w.cell? (a12.add 3) = some (.int .i64 n13) ∧
nlW x0 fun a14 =>
stC (a14.add 3) (.int .i64 (IntKind.i64.wrap (n13 - (1 : Int)))) w fun w =>
Q (.tuple #[.int .u64 n4, .bool true]) w) w') ∨ ((q5b : Option Addr) = none ∧
nlW x0 fun a15 =>
∃ v16 : Value, w.cell? (a15.add 1) = some (v16) ∧
∃ g17 : Array Value, bldP Tryd.prog 228 [] (.agg g17) ∧
∃ w' : World, stU Tryd.prog (Instr.mapUpdate 135 v16 (.int .u64 n4) (.agg g17)) w w' ∧
(fun w : World =>
nlW x0 fun a18 =>
∃ n19 : Int, w.cell? (a18.add 3) = some (.int .i64 n19) ∧
nlW x0 fun a20 =>
stC (a20.add 3) (.int .i64 (IntKind.i64.wrap (n19 - (1 : Int)))) w fun w =>
Q (.tuple #[.int .u64 n4, .bool true]) w) w') ∨ ∃ a8 : Addr, (q5b : Option Addr) = some a8 ∧ 0 < q5l ∧ (∀ u ∈ (#[.int .u8 0] : Array Value), one u = true) ∧ RoomAt w a8 (q5l * (#[.int .u8 0] : Array Value).size) ∧
(fun w : World =>
nlW x0 fun a21 =>
∃ v22 : Value, w.cell? (a21.add 1) = some (v22) ∧
∃ g23 : Array Value, bldP Tryd.prog 228 [] (.agg g23) ∧
∃ w' : World, stU Tryd.prog (Instr.mapUpdate 135 v22 (.int .u64 n4) (.agg g23)) w w' ∧
(fun w : World =>
nlW x0 fun a24 =>
∃ n25 : Int, w.cell? (a24.add 3) = some (.int .i64 n25) ∧
nlW x0 fun a26 =>
stC (a26.add 3) (.int .i64 (IntKind.i64.wrap (n25 - (1 : Int)))) w fun w =>
Q (.tuple #[.int .u64 n4, .bool true]) w) w') (stoL a8 (Builtin.zeroCells (#[.int .u8 0] : Array Value) q5l).toList 0 w))))) ∧
Calls Tryd.prog 116 #[.pointer x0] w fun e w =>
∃ b27 : Bool, e = .returned (.bool b27) ∧
cond b27 (
∃ t : Bool × Unit, ([.bool true] : List Value) = tv [(14, .bool)] t ∧ J1 t w) (
nlW x0 fun a28 =>
∃ n29 : Int, w.cell? (a28.add 2) = some (.int .u64 n29) ∧
∃ t : Bool × Unit, ([.bool (n29 == (0 : Int))] : List Value) = tv [(14, .bool)] t ∧ J1 t w)
set_option maxRecDepth 100000 in
theorem W121_eq (x0 : Option Addr) (w : World) (Q : Value → World → Prop) : wFn Tryd.prog Tryd.f121 W121_plan [.pointer x0] w Q = W121 x0 w Q := by kernel_rfl
set_option maxRecDepth 100000 in
theorem W121_ok (x0 : Option Addr) (w : World) (Q : Value → World → Prop) (h : W121 x0 w Q) : Calls Tryd.prog 121 #[.pointer x0] w (fun e w' => ∃ v, e = .returned v ∧ Q v w') :=
  calls_of_wFn mixed W121_plan Tryd.func121 (by kernel_rfl) ((W121_eq x0 w Q).mpr h)

/-! ### 122: (*hartix/ram.Ram).Write -/
def W122_plan : Plan := .z
def W122 (x0 : Option Addr) (x1 : Int) (x2b : Option Addr) (x2l x2c : Nat) (w : World) (Q : Value → World → Prop) : Prop :=
Calls Tryd.prog 146 #[.pointer x0, .int .u64 x1, .int .i64 ((x2l : Nat) : Int)] w fun e w =>
∃ (q1b : Option Addr) (q1l q1c : Nat), ∃ b2 : Bool, e = .returned (.tuple #[.slice q1b q1l q1c, .bool b2]) ∧
cond b2 (
∃ (n4 : Nat) (u5 : List Value), (∀ w', (Builtin.lenOf (.slice x2b x2l x2c)).run Tryd.prog w' = .ok n4 w') ∧ (Builtin.firstCells 1 (Nat.min n4 q1l) (.slice x2b x2l x2c)).run Tryd.prog w = .ok u5.toArray w ∧ (∀ u ∈ u5, one u = true) ∧
(((q1b : Option Addr) = none ∧
Q (.bool b2) w) ∨ ∃ a6 : Addr, (q1b : Option Addr) = some a6 ∧ RoomAt w a6 u5.length ∧
(fun w : World =>
Q (.bool b2) w) (stoL a6 u5 0 w))) (
Q (.bool b2) w)
set_option maxRecDepth 100000 in
theorem W122_eq (x0 : Option Addr) (x1 : Int) (x2b : Option Addr) (x2l x2c : Nat) (w : World) (Q : Value → World → Prop) : wFn Tryd.prog Tryd.f122 W122_plan [.pointer x0, .int .u64 x1, .slice x2b x2l x2c] w Q = W122 x0 x1 x2b x2l x2c w Q := by kernel_rfl
set_option maxRecDepth 100000 in
theorem W122_ok (x0 : Option Addr) (x1 : Int) (x2b : Option Addr) (x2l x2c : Nat) (w : World) (Q : Value → World → Prop) (h : W122 x0 x1 x2b x2l x2c w Q) : Calls Tryd.prog 122 #[.pointer x0, .int .u64 x1, .slice x2b x2l x2c] w (fun e w' => ∃ v, e = .returned v ∧ Q v w') :=
  calls_of_wFn mixed W122_plan Tryd.func122 (by kernel_rfl) ((W122_eq x0 x1 x2b x2l x2c w Q).mpr h)

/-! ### 123: (*hartix/ram.Ram).Read -/
def W123_plan : Plan := .z
def W123 (x0 : Option Addr) (x1 : Int) (x2 : Int) (w : World) (Q : Value → World → Prop) : Prop :=
Calls Tryd.prog 146 #[.pointer x0, .int .u64 x1, .int .i64 x2] w fun e w =>
∃ (q1b : Option Addr) (q1l q1c : Nat), ∃ b2 : Bool, e = .returned (.tuple #[.slice q1b q1l q1c, .bool b2]) ∧
apnW Tryd.prog 24 24 (.slice none 0 0) (.slice q1b q1l q1c) w fun q3b q3l q3c w =>
Q (.tuple #[.slice q3b q3l q3c, .bool b2]) w
set_option maxRecDepth 100000 in
theorem W123_eq (x0 : Option Addr) (x1 : Int) (x2 : Int) (w : World) (Q : Value → World → Prop) : wFn Tryd.prog Tryd.f123 W123_plan [.pointer x0, .int .u64 x1, .int .i64 x2] w Q = W123 x0 x1 x2 w Q := by kernel_rfl
set_option maxRecDepth 100000 in
theorem W123_ok (x0 : Option Addr) (x1 : Int) (x2 : Int) (w : World) (Q : Value → World → Prop) (h : W123 x0 x1 x2 w Q) : Calls Tryd.prog 123 #[.pointer x0, .int .u64 x1, .int .i64 x2] w (fun e w' => ∃ v, e = .returned v ∧ Q v w') :=
  calls_of_wFn mixed W123_plan Tryd.func123 (by kernel_rfl) ((W123_eq x0 x1 x2 w Q).mpr h)

/-! ### 128: (*hartix/ram.Ram).bytes -/
def W128_plan : Plan := .z
def W128 (x0 : Option Addr) (x1 : Int) (w : World) (Q : Value → World → Prop) : Prop :=
nlW x0 fun a1 =>
∃ (q2b : Option Addr) (q2l q2c : Nat), w.cell? a1 = some (.slice q2b q2l q2c) ∧
((0 ≤ (IntKind.u64.wrap ((IntKind.u64.wrap (x1 - (2147483648 : Int))) + (4096 : Int))) ∧ (IntKind.u64.wrap ((IntKind.u64.wrap (x1 - (2147483648 : Int))) + (4096 : Int))) ≤ ((q2c : Nat) : Int)) ∧
((0 ≤ (IntKind.u64.wrap (x1 - (2147483648 : Int))) ∧ (IntKind.u64.wrap (x1 - (2147483648 : Int))) ≤ (((IntKind.u64.wrap ((IntKind.u64.wrap (x1 - (2147483648 : Int))) + (4096 : Int))).toNat : Nat) : Int)) ∧
Q (.slice (slB q2b ((IntKind.u64.wrap (x1 - (2147483648 : Int))).toNat) q2c 1) (((IntKind.u64.wrap ((IntKind.u64.wrap (x1 - (2147483648 : Int))) + (4096 : Int))).toNat) - ((IntKind.u64.wrap (x1 - (2147483648 : Int))).toNat)) (q2c - ((IntKind.u64.wrap (x1 - (2147483648 : Int))).toNat))) w))
set_option maxRecDepth 100000 in
theorem W128_eq (x0 : Option Addr) (x1 : Int) (w : World) (Q : Value → World → Prop) : wFn Tryd.prog Tryd.f128 W128_plan [.pointer x0, .int .u64 x1] w Q = W128 x0 x1 w Q := by kernel_rfl
set_option maxRecDepth 100000 in
theorem W128_ok (x0 : Option Addr) (x1 : Int) (w : World) (Q : Value → World → Prop) (h : W128 x0 x1 w Q) : Calls Tryd.prog 128 #[.pointer x0, .int .u64 x1] w (fun e w' => ∃ v, e = .returned v ∧ Q v w') :=
  calls_of_wFn mixed W128_plan Tryd.func128 (by kernel_rfl) ((W128_eq x0 x1 w Q).mpr h)

/-! ### 129: hartix/ram.put[uint64] -/
def W129_plan : Plan := (.n .z (.cut [1, 4, 7, 8, 9, 10, 11, 12, 13, 14, 15, 16, 17] [(1, .int .u64), (7, .int .i64)] .z .z))
def W129 (x0b : Option Addr) (x0l x0c : Nat) (x1 : Int) (w : World) (Q : Value → World → Prop) : Prop :=
∃ (I1 : (Int × Int × Unit) → World → Prop) (m2 : (Int × Int × Unit) → World → Nat), (∃ t : Int × Int × Unit, ([.int .u64 x1, .int .i64 (0 : Int)] : List Value) = tv [(1, .int .u64), (7, .int .i64)] t ∧ I1 t w) ∧
∀ (_ : Env) (t3 : Int × Int × Unit) (w4 : World), I1 t3 w4 →
(fun w : World =>
cond (decide (t3.2.1 < ((x0l : Nat) : Int))) (
nlW x0b fun a5 =>
((0 ≤ t3.2.1 ∧ t3.2.1 < ((x0l : Nat) : Int)) ∧
stC (a5.add (t3.2.1.toNat * 1)) (.int .u8 (IntKind.u8.wrap t3.1)) w fun w =>
(0 ≤ (8 : Int) ∧
∃ t' : Int × Int × Unit, ([.int .u64 (t3.1.fdiv (2 ^ min (8 : Int).toNat IntKind.u64.bits)), .int .i64 (IntKind.i64.wrap (t3.2.1 + (1 : Int)))] : List Value) = tv [(1, .int .u64), (7, .int .i64)] t' ∧ I1 t' w ∧ m2 t' w < m2 t3 w4))) (
Q (.tuple #[]) w)) w4
set_option maxRecDepth 100000 in
theorem W129_eq (x0b : Option Addr) (x0l x0c : Nat) (x1 : Int) (w : World) (Q : Value → World → Prop) : wFn Tryd.prog Tryd.f129 W129_plan [.slice x0b x0l x0c, .int .u64 x1] w Q = W129 x0b x0l x0c x1 w Q := by kernel_rfl
set_option maxRecDepth 100000 in
theorem W129_ok (x0b : Option Addr) (x0l x0c : Nat) (x1 : Int) (w : World) (Q : Value → World → Prop) (h : W129 x0b x0l x0c x1 w Q) : Calls Tryd.prog 129 #[.slice x0b x0l x0c, .int .u64 x1] w (fun e w' => ∃ v, e = .returned v ∧ Q v w') :=
  calls_of_wFn mixed W129_plan Tryd.func129 (by kernel_rfl) ((W129_eq x0b x0l x0c x1 w Q).mpr h)

/-! ### 138: (*hartix/ram.Ram).Free -/
def W138_plan : Plan := (.n .z (.n (.n .z (.n .z (.cut [8, 9, 10, 11, 12, 13, 14, 15, 16] [(8, .bool)] .z .z))) .z))
def W138 (x0 : Option Addr) (x1 : Int) (w : World) (Q : Value → World → Prop) : Prop :=
Calls Tryd.prog 116 #[.pointer x0] w fun e w =>
∃ b1 : Bool, e = .returned (.bool b1) ∧
cond b1 (
Q (.int .i64 (3 : Int)) w) (
∃ J2 : (Bool × Unit) → World → Prop, (∀ (_ : Env) (t3 : Bool × Unit) (w : World), J2 t3 w →
cond t3.1 (
Q (.int .i64 (61 : Int)) w) (
Calls Tryd.prog 156 #[.pointer x0, .int .u64 x1] w fun e w =>
∃ b4 : Bool, e = .returned (.bool b4) ∧
cond b4 (
Q (.int .i64 (62 : Int)) w) (
Calls Tryd.prog 98 #[.pointer x0, .int .u64 x1] w fun e w =>
e = .returned (.tuple #[]) ∧
Q (.int .i64 (0 : Int)) w))) ∧
Calls Tryd.prog 155 #[.pointer x0, .int .u64 x1] w fun e w =>
∃ b5 : Bool, e = .returned (.bool b5) ∧
cond (!b5) (
∃ t : Bool × Unit, ([.bool true] : List Value) = tv [(8, .bool)] t ∧ J2 t w) (
∃ t : Bool × Unit, ([.bool (x1 == (2147483648 : Int))] : List Value) = tv [(8, .bool)] t ∧ J2 t w))
set_option maxRecDepth 100000 in
theorem W138_eq (x0 : Option Addr) (x1 : Int) (w : World) (Q : Value → World → Prop) : wFn Tryd.prog Tryd.f138 W138_plan [.pointer x0, .int .u64 x1] w Q = W138 x0 x1 w Q := by kernel_rfl
set_option maxRecDepth 100000 in
theorem W138_ok (x0 : Option Addr) (x1 : Int) (w : World) (Q : Value → World → Prop) (h : W138 x0 x1 w Q) : Calls Tryd.prog 138 #[.pointer x0, .int .u64 x1] w (fun e w' => ∃ v, e = .returned v ∧ Q v w') :=
  calls_of_wFn mixed W138_plan Tryd.func138 (by kernel_rfl) ((W138_eq x0 x1 w Q).mpr h)

/-! ### 145: hartix/ram.get[uint64] -/
def W145_plan : Plan := (.n .z (.n .z (.n (.n .z (.cut [3, 4, 8, 9, 10, 11, 12, 13, 14, 15, 16, 17, 18, 19] [(3, .int .u64), (4, .int .i64)] .z .z)) .z)))
def W145 (x0b : Option Addr) (x0l x0c : Nat) (w : World) (Q : Value → World → Prop) : Prop :=
∃ (I1 : (Int × Int × Unit) → World → Prop) (m2 : (Int × Int × Unit) → World → Nat), (∃ t : Int × Int × Unit, ([.int .u64 (0 : Int), .int .i64 (IntKind.i64.wrap (((x0l : Nat) : Int) - (1 : Int)))] : List Value) = tv [(3, .int .u64), (4, .int .i64)] t ∧ I1 t w) ∧
∀ (_ : Env) (t3 : Int × Int × Unit) (w4 : World), I1 t3 w4 →
(fun w : World =>
cond (decide (t3.2.1 ≥ (0 : Int))) (
(0 ≤ (8 : Int) ∧
nlW x0b fun a5 =>
((0 ≤ t3.2.1 ∧ t3.2.1 < ((x0l : Nat) : Int)) ∧
∃ n6 : Int, w.cell? (a5.add (t3.2.1.toNat * 1)) = some (.int .u8 n6) ∧
∃ t' : Int × Int × Unit, ([.int .u64 (IntKind.u64.wrap (((BitVec.ofInt IntKind.u64.bits (IntKind.u64.wrap (t3.1 * 2 ^ min (8 : Int).toNat IntKind.u64.bits)) ||| BitVec.ofInt IntKind.u64.bits (IntKind.u64.wrap n6)).toNat : Nat))), .int .i64 (IntKind.i64.wrap (t3.2.1 - (1 : Int)))] : List Value) = tv [(3, .int .u64), (4, .int .i64)] t' ∧ I1 t' w ∧ m2 t' w < m2 t3 w4))) (
Q (.int .u64 t3.1) w)) w4
set_option maxRecDepth 100000 in
theorem W145_eq (x0b : Option Addr) (x0l x0c : Nat) (w : World) (Q : Value → World → Prop) : wFn Tryd.prog Tryd.f145 W145_plan [.slice x0b x0l x0c] w Q = W145 x0b x0l x0c w Q := by kernel_rfl
set_option maxRecDepth 100000 in
theorem W145_ok (x0b : Option Addr) (x0l x0c : Nat) (w : World) (Q : Value → World → Prop) (h : W145 x0b x0l x0c w Q) : Calls Tryd.prog 145 #[.slice x0b x0l x0c] w (fun e w' => ∃ v, e = .returned v ∧ Q v w') :=
  calls_of_wFn mixed W145_plan Tryd.func145 (by kernel_rfl) ((W145_eq x0b x0l x0c w Q).mpr h)

/-! ### 146: (*hartix/ram.Ram).reach -/
def W146_plan : Plan := (.n .z (.n (.cut [13, 14, 15, 16, 17, 18] [(18, .bool)] .z .z) (.n .z (.n .z (.n (.cut [23, 24, 25, 26, 27, 28, 29, 30, 31, 32, 33, 34, 35, 36, 37, 38, 39, 40, 41, 42, 43, 44, 45, 46, 47] [(47, .bool)] .z .z) (.n .z (.n (.n .z (.cut [6, 7, 10, 11, 12, 56, 57, 58, 59, 60, 61, 62, 63, 64, 65, 66, 67, 68, 69, 70, 71, 72] [(10, .int .u64)] .z .z)) .z)))))))
def W146 (x0 : Option Addr) (x1 : Int) (x2 : Int) (w : World) (Q : Value → World → Prop) : Prop :=
∃ J1 : (Bool × Unit) → World → Prop, (∀ (_ : Env) (t2 : Bool × Unit) (w : World), J1 t2 w →
cond t2.1 (
Q (.tuple #[.slice none 0 0, .bool false]) w) (
cond (x2 == (0 : Int)) (
Q (.tuple #[.slice none 0 0, .bool true]) w) (
∃ J3 : (Bool × Unit) → World → Prop, (∀ (_ : Env) (t4 : Bool × Unit) (w : World), J3 t4 w →
cond t4.1 (
Q (.tuple #[.slice none 0 0, .bool false]) w) (
((4096 : Int) ≠ 0 ∧
((4096 : Int) ≠ 0 ∧
∃ (I5 : (Int × Unit) → World → Prop) (m6 : (Int × Unit) → World → Nat), (∃ t : Int × Unit, ([.int .u64 (IntKind.u64.wrap (x1.tdiv (4096 : Int)))] : List Value) = tv [(10, .int .u64)] t ∧ I5 t w) ∧
∀ (_ : Env) (t7 : Int × Unit) (w8 : World), I5 t7 w8 →
(fun w : World =>
cond (decide (t7.1 ≤ (IntKind.u64.wrap ((IntKind.u64.wrap ((IntKind.u64.wrap (x1 + (IntKind.u64.wrap x2))) - (1 : Int))).tdiv (4096 : Int))))) (
nlW x0 fun a9 =>
∃ v10 : Value, w.cell? (a9.add 1) = some (v10) ∧
∃ g11 : Array Value, ∃ b12 : Bool, rdP Tryd.prog (Instr.lookup 135 v10 (.int .u64 (IntKind.u64.wrap (t7.1 * (4096 : Int)))) true) (.tuple #[.agg g11, .bool b12]) w ∧
newW #[] 228 w fun a13 w =>
stA 0 a13 g11 w fun w =>
cond (!b12) (
Q (.tuple #[.slice none 0 0, .bool false]) w) (
∃ t' : Int × Unit, ([.int .u64 (IntKind.u64.wrap (t7.1 + (1 : Int)))] : List Value) = tv [(10, .int .u64)] t' ∧ I5 t' w ∧ m6 t' w < m6 t7 w8)) (
nlW x0 fun a14 =>
∃ (q15b : Option Addr) (q15l q15c : Nat), w.cell? a14 = some (.slice q15b q15l q15c) ∧
((0 ≤ (IntKind.u64.wrap ((IntKind.u64.wrap (x1 - (2147483648 : Int))) + (IntKind.u64.wrap x2))) ∧ (IntKind.u64.wrap ((IntKind.u64.wrap (x1 - (2147483648 : Int))) + (IntKind.u64.wrap x2))) ≤ ((q15c : Nat) : Int)) ∧
((0 ≤ (IntKind.u64.wrap (x1 - (2147483648 : Int))) ∧ (IntKind.u64.wrap (x1 - (2147483648 : Int))) ≤ (((IntKind.u64.wrap ((IntKind.u64.wrap (x1 - (2147483648 : Int))) + (IntKind.u64.wrap x2))).toNat : Nat) : Int)) ∧
Q (.tuple #[.slice (slB q15b ((IntKind.u64.wrap (x1 - (2147483648 : Int))).toNat) q15c 1) (((IntKind.u64.wrap ((IntKind.u64.wrap (x1 - (2147483648 : Int))) + (IntKind.u64.wrap x2))).toNat) - ((IntKind.u64.wrap (x1 - (2147483648 : Int))).toNat)) (q15c - ((IntKind.u64.wrap (x1 - (2147483648 : Int))).toNat)), .bool true]) w)))) w8)))) ∧
cond (decide (x1 < (2147483648 : Int))) (
∃ t : Bool × Unit, ([.bool true] : List Value) = tv [(47, .bool)] t ∧ J3 t w) (
nlW x0 fun a16 =>
∃ (q17b : Option Addr) (q17l q17c : Nat), w.cell? a16 = some (.slice q17b q17l q17c) ∧
cond (decide ((IntKind.u64.wrap (x1 - (2147483648 : Int))) ≥ (IntKind.u64.wrap ((q17l : Nat) : Int)))) (
∃ t : Bool × Unit, ([.bool true] : List Value) = tv [(47, .bool)] t ∧ J3 t w) (
nlW x0 fun a18 =>
∃ (q19b : Option Addr) (q19l q19c : Nat), w.cell? a18 = some (.slice q19b q19l q19c) ∧
∃ t : Bool × Unit, ([.bool (decide ((IntKind.u64.wrap x2) > (IntKind.u64.wrap ((IntKind.u64.wrap ((q19l : Nat) : Int)) - (IntKind.u64.wrap (x1 - (2147483648 : Int)))))))] : List Value) = tv [(47, .bool)] t ∧ J3 t w))))) ∧
Calls Tryd.prog 116 #[.pointer x0] w fun e w =>
∃ b20 : Bool, e = .returned (.bool b20) ∧
cond b20 (
∃ t : Bool × Unit, ([.bool true] : List Value) = tv [(18, .bool)] t ∧ J1 t w) (
∃ t : Bool × Unit, ([.bool (decide (x2 < (0 : Int)))] : List Value) = tv [(18, .bool)] t ∧ J1 t w)
set_option maxRecDepth 100000 in
theorem W146_eq (x0 : Option Addr) (x1 : Int) (x2 : Int) (w : World) (Q : Value → World → Prop) : wFn Tryd.prog Tryd.f146 W146_plan [.pointer x0, .int .u64 x1, .int .i64 x2] w Q = W146 x0 x1 x2 w Q := by kernel_rfl
set_option maxRecDepth 100000 in
theorem W146_ok (x0 : Option Addr) (x1 : Int) (x2 : Int) (w : World) (Q : Value → World → Prop) (h : W146 x0 x1 x2 w Q) : Calls Tryd.prog 146 #[.pointer x0, .int .u64 x1, .int .i64 x2] w (fun e w' => ∃ v, e = .returned v ∧ Q v w') :=
  calls_of_wFn mixed W146_plan Tryd.func146 (by kernel_rfl) ((W146_eq x0 x1 x2 w Q).mpr h)

/-! ### 155: (*hartix/ram.Ram).frame -/
def W155_plan : Plan := .z
def W155 (x0 : Option Addr) (x1 : Int) (w : World) (Q : Value → World → Prop) : Prop :=
cond (decide (x1 ≥ (2147483648 : Int))) (
((4096 : Int) ≠ 0 ∧
cond ((x1.tmod (4096 : Int)) == (0 : Int)) (
nlW x0 fun a1 =>
∃ (q2b : Option Addr) (q2l q2c : Nat), w.cell? a1 = some (.slice q2b q2l q2c) ∧
Q (.bool (decide ((IntKind.u64.wrap (x1 - (2147483648 : Int))) < (IntKind.u64.wrap ((q2l : Nat) : Int))))) w) (
Q (.bool false) w))) (
Q (.bool false) w)
set_option maxRecDepth 100000 in
theorem W155_eq (x0 : Option Addr) (x1 : Int) (w : World) (Q : Value → World → Prop) : wFn Tryd.prog Tryd.f155 W155_plan [.pointer x0, .int .u64 x1] w Q = W155 x0 x1 w Q := by kernel_rfl
set_option maxRecDepth 100000 in
theorem W155_ok (x0 : Option Addr) (x1 : Int) (w : World) (Q : Value → World → Prop) (h : W155 x0 x1 w Q) : Calls Tryd.prog 155 #[.pointer x0, .int .u64 x1] w (fun e w' => ∃ v, e = .returned v ∧ Q v w') :=
  calls_of_wFn mixed W155_plan Tryd.func155 (by kernel_rfl) ((W155_eq x0 x1 w Q).mpr h)

/-! ### 156: (*hartix/ram.Ram).IsFree -/
def W156_plan : Plan := .z
def W156 (x0 : Option Addr) (x1 : Int) (w : World) (Q : Value → World → Prop) : Prop :=
Calls Tryd.prog 116 #[.pointer x0] w fun e w =>
∃ b1 : Bool, e = .returned (.bool b1) ∧
cond b1 (
Q (.bool false) w) (
Calls Tryd.prog 155 #[.pointer x0, .int .u64 x1] w fun e w =>
∃ b2 : Bool, e = .returned (.bool b2) ∧
cond (!b2) (
Q (.bool false) w) (
nlW x0 fun a3 =>
∃ v4 : Value, w.cell? (a3.add 1) = some (v4) ∧
∃ g5 : Array Value, ∃ b6 : Bool, rdP Tryd.prog (Instr.lookup 135 v4 (.int .u64 x1) true) (.tuple #[.agg g5, .bool b6]) w ∧
newW #[] 228 w fun a7 w =>
stA 0 a7 g5 w fun w =>
Q (.bool (!b6)) w))
set_option maxRecDepth 100000 in
theorem W156_eq (x0 : Option Addr) (x1 : Int) (w : World) (Q : Value → World → Prop) : wFn Tryd.prog Tryd.f156 W156_plan [.pointer x0, .int .u64 x1] w Q = W156 x0 x1 w Q := by kernel_rfl
set_option maxRecDepth 100000 in
theorem W156_ok (x0 : Option Addr) (x1 : Int) (w : World) (Q : Value → World → Prop) (h : W156 x0 x1 w Q) : Calls Tryd.prog 156 #[.pointer x0, .int .u64 x1] w (fun e w' => ∃ v, e = .returned v ∧ Q v w') :=
  calls_of_wFn mixed W156_plan Tryd.func156 (by kernel_rfl) ((W156_eq x0 x1 w Q).mpr h)

/-! ### 95: hartix/ram.refuse -/
def W95_plan : Plan := .z
def W95 (x0 : Int) (x1 : Int) (w : World) (Q : Value → World → Prop) : Prop :=
∃ g1 : Array Value, bldP Tryd.prog 227 [(0, .string (⟨#[114, 97, 109]⟩ : ByteArray)), (1, .int .i64 x0), (2, .iface 43 (.int .i64 x1))] (.agg g1) ∧
newW g1 227 w fun a2 w =>
Q (.iface 225 (.pointer (some a2))) w
set_option maxRecDepth 100000 in
theorem W95_eq (x0 : Int) (x1 : Int) (w : World) (Q : Value → World → Prop) : wFn Tryd.prog Tryd.f95 W95_plan [.int .i64 x0, .int .i64 x1] w Q = W95 x0 x1 w Q := by kernel_rfl
set_option maxRecDepth 100000 in
theorem W95_ok (x0 : Int) (x1 : Int) (w : World) (Q : Value → World → Prop) (h : W95 x0 x1 w Q) : Calls Tryd.prog 95 #[.int .i64 x0, .int .i64 x1] w (fun e w' => ∃ v, e = .returned v ∧ Q v w') :=
  calls_of_wFn mixed W95_plan Tryd.func95 (by kernel_rfl) ((W95_eq x0 x1 w Q).mpr h)

end Go.Proofs.YthkcdkldpbndnaaDoor
