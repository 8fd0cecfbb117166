/- The walk's functions of this seat, printed by a program of mine (wgen.py) out of Lean's own print of the loaded functions; each is tied to the loaded function by the kernel. No condition. -/
import Derived.Test.YthihjppjollekaaRows
import Derived.Test.YthihjppjollekaaHz
set_option linter.unusedVariables false
namespace Go.Proofs.Ythihjppjollekaa
open Go.RowKit Go.Hx
theorem mixed : Try.prog.follows .mixedOrders = true := by kernel_rfl
/-! ### 3: hartix/hartixlaw13.ProcFroms -/
def W3_plan : Plan := (.n .z (.n .z (.n .z (.n .z (.n (.n .z .z) .z)))))
def W3 (x0 : Array Value) (w : World) (Q : Value → World → Prop) : Prop :=
newW x0 24 w fun a1 w =>
∃ g2 : Array Value, g2.size = 2 ∧ RowAt w a1 g2 ∧
Calls Try.prog 11 #[.agg g2] w fun e w =>
∃ g3 : Array Value, e = .returned (.agg g3) ∧
newW (zc Try.prog 31) 31 w fun a4 w =>
stA 449 a4 g3 w fun w =>
∃ g5 : Array Value, g5.size = 449 ∧ RowAt w a4 g5 ∧
Calls Try.prog 12 #[.agg g5] w fun e w =>
∃ p6 : Option Addr, ∃ b7 : Bool, e = .returned (.tuple #[.pointer p6, .bool b7]) ∧
cond p6.isNone (
Q (.bool b7) w) (
∃ S8 : World → Prop, S8 w.drew ∧
nlW p6 fun a9 =>
∃ p10 : Option Addr, (∀ w', S8 w' → w'.cell? a9 = some (.pointer p10)) ∧
∃ g11 : Array Value, g11.size = 449 ∧ (∀ w', S8 w' → RowAt w' a4 g11) ∧
Calls Try.prog 13 #[.pointer p10] w.drew fun e w =>
∃ g12 : Array Value, e = .returned (.agg g12) ∧
∃ S13 : World → Prop, (∀ w', S13 w' → S8 w') ∧ S13 w ∧
∃ b14 : Bool, AggEq Try.prog 31 g12 g11 b14 ∧
Q (.bool b14) w)
set_option maxRecDepth 100000 in
theorem W3_eq (x0 : Array Value) (w : World) (Q : Value → World → Prop) : wFn Try.prog Try.f3 W3_plan [.agg x0] w Q = W3 x0 w Q := by kernel_rfl
set_option maxRecDepth 100000 in
theorem W3_ok (x0 : Array Value) (w : World) (Q : Value → World → Prop) (h : W3 x0 w Q) : Calls Try.prog 3 #[.agg x0] w (fun e w' => ∃ v, e = .returned v ∧ Q v w') :=
  calls_of_wFn mixed W3_plan Try.func3 (by kernel_rfl) ((W3_eq x0 w Q).mpr h)

/-! ### 4: hartix/hartixlaw13.ProcWakes -/
def W4_plan : Plan := (.n .z (.n .z (.n .z (.cut [6, 16, 17, 18, 19, 20, 21, 22, 23, 24, 25, 26, 27, 28, 29, 30, 31] [] (.n .z (.cut [6, 16, 17, 18, 19, 20, 21, 22, 23, 24, 25, 26, 27, 28, 29, 30, 31] [(6, .int .i64)] .z .z)) (.n .z (.n .z (.n .z (.n .z (.n (.n .z (.cut [4, 10, 11, 12, 39, 40, 41, 42, 43, 44, 45, 46, 47, 48, 49, 50, 51, 52, 53, 54, 55, 56, 57, 58, 59, 60, 61, 62, 63, 64, 65, 66] [(10, .int .i64), (11, .int .i64)] (.n .z (.n (.n .z (.cut [10, 47, 48, 49, 50, 51, 52, 53, 54, 55, 56, 57, 58, 59, 60] [(10, .int .i64)] (.cut [47, 48, 49, 50, 51, 52, 53, 54, 55] [(55, .bool)] .z .z) .z)) .z)) .z)) .z)))))))))
def W4 (x0b : Option Addr) (x0l x0c : Nat) (x1 : Array Value) (w : World) (Q : Value → World → Prop) : Prop :=
newW x1 26 w fun a1 w =>
Calls Try.prog 14 #[] w fun e w =>
∃ p2 : Option Addr, e = .returned (.pointer p2) ∧
cond p2.isNone (
Q (.bool false) w) (
∃ J3 : (Unit) → World → Prop, (∀ (_ : Env) (t4 : Unit) (w : World), J3 t4 w →
Calls Try.prog 13 #[.pointer p2] w fun e w =>
∃ g5 : Array Value, e = .returned (.agg g5) ∧
newW (zc Try.prog 31) 31 w fun a6 w =>
stA 449 a6 g5 w fun w =>
∃ g7 : Array Value, g7.size = 2 ∧ RowAt w a1 g7 ∧
Calls Try.prog 16 #[.pointer p2, .agg g7] w fun e w =>
∃ n8 : Int, e = .returned (.int .i64 n8) ∧
Calls Try.prog 13 #[.pointer p2] w fun e w =>
∃ g9 : Array Value, e = .returned (.agg g9) ∧
newW (zc Try.prog 31) 31 w fun a10 w =>
stA 449 a10 g9 w fun w =>
∃ (I11 : (Int × Int × Unit) → World → Prop) (m12 : (Int × Int × Unit) → World → Nat), (∃ t : Int × Int × Unit, ([.int .i64 (0 : Int), .int .i64 (0 : Int)] : List Value) = tv [(10, .int .i64), (11, .int .i64)] t ∧ I11 t w) ∧
∀ (_ : Env) (t13 : Int × Int × Unit) (w14 : World), I11 t13 w14 →
(fun w : World =>
cond (decide (t13.2.1 < (64 : Int))) (
((0 ≤ t13.2.1 ∧ t13.2.1 < ((64 : Nat) : Int)) ∧
∃ g15 : Array Value, g15.size = 7 ∧ RowAt w (a6.add (t13.2.1.toNat * 7)) g15 ∧
newW #[.int .i64 0, .int .i64 0, .int .i64 0, .int .i64 0, .int .i64 0, .bool false, .int .i32 0] 28 w fun a16 w =>
stA 7 a16 g15 w fun w =>
∃ J17 : (Int × Unit) → World → Prop, (∀ (_ : Env) (t18 : Int × Unit) (w : World), J17 t18 w →
((0 ≤ t13.2.1 ∧ t13.2.1 < ((64 : Nat) : Int)) ∧
∃ g19 : Array Value, g19.size = 7 ∧ RowAt w.drew (a10.add (t13.2.1.toNat * 7)) g19 ∧
∃ g20 : Array Value, g20.size = 7 ∧ RowAt w.drew a16 g20 ∧
∃ b21 : Bool, AggEq Try.prog 28 g19 g20 b21 ∧
cond (!b21) (
Q (.bool false) w.drew) (
∃ t' : Int × Int × Unit, ([.int .i64 t18.1, .int .i64 (IntKind.i64.wrap (t13.2.1 + (1 : Int)))] : List Value) = tv [(10, .int .i64), (11, .int .i64)] t' ∧ I11 t' w.drew ∧ m12 t' w.drew < m12 t13 w14))) ∧
∃ J22 : (Bool × Unit) → World → Prop, (∀ (_ : Env) (t23 : Bool × Unit) (w : World), J22 t23 w →
cond t23.1 (
stC (a16.add 1) (.int .i64 (1 : Int)) w fun w =>
∃ g24 : Array Value, bldP Try.prog 26 [] (.agg g24) ∧
stA 2 (a16.add 3) g24 w fun w =>
∃ t : Int × Unit, ([.int .i64 (IntKind.i64.wrap (t13.1 + (1 : Int)))] : List Value) = tv [(10, .int .i64)] t ∧ J17 t w) (
∃ t : Int × Unit, ([.int .i64 t13.1] : List Value) = tv [(10, .int .i64)] t ∧ J17 t w)) ∧
∃ n25 : Int, w.cell? (a16.add 1) = some (.int .i64 n25) ∧
cond (n25 == (2 : Int)) (
∃ g26 : Array Value, g26.size = 2 ∧ RowAt w (a16.add 3) g26 ∧
∃ g27 : Array Value, g27.size = 2 ∧ RowAt w a1 g27 ∧
∃ b28 : Bool, AggEq Try.prog 26 g26 g27 b28 ∧
∃ t : Bool × Unit, ([.bool b28] : List Value) = tv [(55, .bool)] t ∧ J22 t w) (
∃ t : Bool × Unit, ([.bool false] : List Value) = tv [(55, .bool)] t ∧ J22 t w))) (
cond (t13.1 == n8) (
∃ n29 : Int, w.cell? (a10.add 448) = some (.int .i64 n29) ∧
∃ n30 : Int, w.cell? (a6.add 448) = some (.int .i64 n30) ∧
Q (.bool (n29 == n30)) w) (
Q (.bool false) w))) w14) ∧
∃ (I31 : (Int × Unit) → World → Prop) (m32 : (Int × Unit) → World → Nat), (∃ t : Int × Unit, ([.int .i64 (0 : Int)] : List Value) = tv [(6, .int .i64)] t ∧ I31 t w) ∧
∀ (_ : Env) (t33 : Int × Unit) (w34 : World), I31 t33 w34 →
(fun w : World =>
cond (decide (t33.1 < ((x0l : Nat) : Int))) (
cond (decide (t33.1 < (400 : Int))) (
nlW x0b fun a35 =>
((0 ≤ t33.1 ∧ t33.1 < ((x0l : Nat) : Int)) ∧
∃ g36 : Array Value, g36.size = 5 ∧ RowAt w (a35.add (t33.1.toNat * 5)) g36 ∧
Calls Try.prog 15 #[.pointer p2, .agg g36] w fun e w =>
e = .returned (.tuple #[]) ∧
∃ t' : Int × Unit, ([.int .i64 (IntKind.i64.wrap (t33.1 + (1 : Int)))] : List Value) = tv [(6, .int .i64)] t' ∧ I31 t' w ∧ m32 t' w < m32 t33 w34)) (
∃ t : Unit, ([] : List Value) = tv [] t ∧ J3 t w)) (
∃ t : Unit, ([] : List Value) = tv [] t ∧ J3 t w)) w34)
set_option maxRecDepth 100000 in
theorem W4_eq (x0b : Option Addr) (x0l x0c : Nat) (x1 : Array Value) (w : World) (Q : Value → World → Prop) : wFn Try.prog Try.f4 W4_plan [.slice x0b x0l x0c, .agg x1] w Q = W4 x0b x0l x0c x1 w Q := by kernel_rfl
set_option maxRecDepth 100000 in
theorem W4_ok (x0b : Option Addr) (x0l x0c : Nat) (x1 : Array Value) (w : World) (Q : Value → World → Prop) (h : W4 x0b x0l x0c x1 w Q) : Calls Try.prog 4 #[.slice x0b x0l x0c, .agg x1] w (fun e w' => ∃ v, e = .returned v ∧ Q v w') :=
  calls_of_wFn mixed W4_plan Try.func4 (by kernel_rfl) ((W4_eq x0b x0l x0c x1 w Q).mpr h)

/-! ### 5: hartix/hartixlaw13.ProcTree -/
def W5_plan : Plan := (.n .z (.n .z (.n .z (.n (.n .z (.cut [2, 4, 13, 14, 15, 16, 17, 18, 19, 20, 21, 22, 23, 24, 25, 26, 27, 28, 29, 30, 31] [(4, .int .i64)] .z .z)) .z))))
def W5 (x0b : Option Addr) (x0l x0c : Nat) (w : World) (Q : Value → World → Prop) : Prop :=
Calls Try.prog 14 #[] w fun e w =>
∃ p1 : Option Addr, e = .returned (.pointer p1) ∧
cond p1.isNone (
Q (.bool false) w) (
Calls Try.prog 17 #[.pointer p1] w fun e w =>
∃ b2 : Bool, e = .returned (.bool b2) ∧
cond (!b2) (
Q (.bool false) w) (
∃ (I3 : (Int × Unit) → World → Prop) (m4 : (Int × Unit) → World → Nat), (∃ t : Int × Unit, ([.int .i64 (0 : Int)] : List Value) = tv [(4, .int .i64)] t ∧ I3 t w) ∧
∀ (_ : Env) (t5 : Int × Unit) (w6 : World), I3 t5 w6 →
(fun w : World =>
cond (decide (t5.1 < ((x0l : Nat) : Int))) (
cond (decide (t5.1 < (400 : Int))) (
nlW x0b fun a7 =>
((0 ≤ t5.1 ∧ t5.1 < ((x0l : Nat) : Int)) ∧
∃ g8 : Array Value, g8.size = 5 ∧ RowAt w (a7.add (t5.1.toNat * 5)) g8 ∧
Calls Try.prog 15 #[.pointer p1, .agg g8] w fun e w =>
e = .returned (.tuple #[]) ∧
Calls Try.prog 17 #[.pointer p1] w fun e w =>
∃ b9 : Bool, e = .returned (.bool b9) ∧
cond (!b9) (
Q (.bool false) w) (
∃ t' : Int × Unit, ([.int .i64 (IntKind.i64.wrap (t5.1 + (1 : Int)))] : List Value) = tv [(4, .int .i64)] t' ∧ I3 t' w ∧ m4 t' w < m4 t5 w6))) (
Q (.bool true) w)) (
Q (.bool true) w)) w6))
set_option maxRecDepth 100000 in
theorem W5_eq (x0b : Option Addr) (x0l x0c : Nat) (w : World) (Q : Value → World → Prop) : wFn Try.prog Try.f5 W5_plan [.slice x0b x0l x0c] w Q = W5 x0b x0l x0c w Q := by kernel_rfl
set_option maxRecDepth 100000 in
theorem W5_ok (x0b : Option Addr) (x0l x0c : Nat) (w : World) (Q : Value → World → Prop) (h : W5 x0b x0l x0c w Q) : Calls Try.prog 5 #[.slice x0b x0l x0c] w (fun e w' => ∃ v, e = .returned v ∧ Q v w') :=
  calls_of_wFn mixed W5_plan Try.func5 (by kernel_rfl) ((W5_eq x0b x0l x0c w Q).mpr h)

/-! ### 6: hartix/hartixlaw13.ProcTurns -/
def W6_plan : Plan := (.n .z (.n .z (.n .z (.cut [6, 18, 19, 20, 21, 22, 23, 24, 25, 26, 27, 28, 29, 30, 31, 32, 33] [] (.n .z (.cut [6, 18, 19, 20, 21, 22, 23, 24, 25, 26, 27, 28, 29, 30, 31, 32, 33] [(6, .int .i64)] .z .z)) (.n .z (.n (.n .z (.cut [7, 8, 34, 35, 36, 37, 38, 39, 40, 41, 42, 43, 44] [(7, .int .i64), (8, .int .i64)] .z .z)) (.n .z (.n (.n .z (.cut [1, 4, 10, 11, 12, 45, 46, 47, 48, 49, 50, 51, 52, 53, 54, 55, 56, 57, 58, 59, 60, 61, 62, 63, 64, 65, 66, 67, 68, 69, 70, 71, 72, 73, 74, 75, 76, 77, 78, 79, 80, 81, 82, 83, 84] [(1, .int .i64), (10, .int .i64)] .z .z)) .z))))))))
def W6 (x0b : Option Addr) (x0l x0c : Nat) (x1 : Int) (w : World) (Q : Value → World → Prop) : Prop :=
Calls Try.prog 14 #[] w fun e w =>
∃ p1 : Option Addr, e = .returned (.pointer p1) ∧
cond p1.isNone (
Q (.bool false) w) (
∃ J2 : (Unit) → World → Prop, (∀ (_ : Env) (t3 : Unit) (w : World), J2 t3 w →
∃ (I4 : (Int × Int × Unit) → World → Prop) (m5 : (Int × Int × Unit) → World → Nat), (∃ t : Int × Int × Unit, ([.int .i64 (0 : Int), .int .i64 (0 : Int)] : List Value) = tv [(7, .int .i64), (8, .int .i64)] t ∧ I4 t w) ∧
∀ (_ : Env) (t6 : Int × Int × Unit) (w7 : World), I4 t6 w7 →
(fun w : World =>
cond (decide (t6.2.1 < (64 : Int))) (
Calls Try.prog 18 #[.pointer p1, .int .i64 t6.2.1] w fun e w =>
∃ g8 : Array Value, e = .returned (.agg g8) ∧
∃ n9 : Int, g8[1]? = some (.int .i64 n9) ∧
cond (n9 == (1 : Int)) (
∃ t' : Int × Int × Unit, ([.int .i64 (IntKind.i64.wrap (t6.1 + (1 : Int))), .int .i64 (IntKind.i64.wrap (t6.2.1 + (1 : Int)))] : List Value) = tv [(7, .int .i64), (8, .int .i64)] t' ∧ I4 t' w ∧ m5 t' w < m5 t6 w7) (
∃ t' : Int × Int × Unit, ([.int .i64 t6.1, .int .i64 (IntKind.i64.wrap (t6.2.1 + (1 : Int)))] : List Value) = tv [(7, .int .i64), (8, .int .i64)] t' ∧ I4 t' w ∧ m5 t' w < m5 t6 w7)) (
newW (zc Try.prog 52) 52 w fun a10 w =>
∃ (I11 : (Int × Int × Unit) → World → Prop) (m12 : (Int × Int × Unit) → World → Nat), (∃ t : Int × Int × Unit, ([.int .i64 x1, .int .i64 (0 : Int)] : List Value) = tv [(1, .int .i64), (10, .int .i64)] t ∧ I11 t w) ∧
∀ (_ : Env) (t13 : Int × Int × Unit) (w14 : World), I11 t13 w14 →
(fun w : World =>
cond (decide (t13.2.1 < t6.1)) (
Calls Try.prog 19 #[.pointer p1, .int .i64 t13.1] w fun e w =>
∃ n15 : Int, ∃ b16 : Bool, e = .returned (.tuple #[.int .i64 n15, .bool b16]) ∧
cond (!b16) (
Q (.bool false) w) (
cond (decide (n15 < (0 : Int))) (
Q (.bool false) w) (
cond (decide (n15 ≥ (64 : Int))) (
Q (.bool false) w) (
((0 ≤ n15 ∧ n15 < ((64 : Nat) : Int)) ∧
∃ n17 : Int, w.cell? (a10.add (n15.toNat * 1)) = some (.int .i64 n17) ∧
cond (decide (n17 > (0 : Int))) (
Q (.bool false) w) (
Calls Try.prog 18 #[.pointer p1, .int .i64 n15] w fun e w =>
∃ g18 : Array Value, e = .returned (.agg g18) ∧
∃ n19 : Int, g18[1]? = some (.int .i64 n19) ∧
cond (n19 != (1 : Int)) (
Q (.bool false) w) (
((0 ≤ n15 ∧ n15 < ((64 : Nat) : Int)) ∧
∃ n20 : Int, w.cell? (a10.add (n15.toNat * 1)) = some (.int .i64 n20) ∧
((0 ≤ n15 ∧ n15 < ((64 : Nat) : Int)) ∧
stC (a10.add (n15.toNat * 1)) (.int .i64 (IntKind.i64.wrap (n20 + (1 : Int)))) w fun w =>
∃ t' : Int × Int × Unit, ([.int .i64 n15, .int .i64 (IntKind.i64.wrap (t13.2.1 + (1 : Int)))] : List Value) = tv [(1, .int .i64), (10, .int .i64)] t' ∧ I11 t' w ∧ m12 t' w < m12 t13 w14))))))))) (
Calls Try.prog 19 #[.pointer p1, .int .i64 t13.1] w fun e w =>
∃ n21 : Int, ∃ b22 : Bool, e = .returned (.tuple #[.int .i64 n21, .bool b22]) ∧
cond (t6.1 == (0 : Int)) (
cond (!b22) (
Q (.bool (n21 == (-1 : Int))) w) (
Q (.bool false) w)) (
cond b22 (
((0 ≤ n21 ∧ n21 < ((64 : Nat) : Int)) ∧
∃ n23 : Int, w.cell? (a10.add (n21.toNat * 1)) = some (.int .i64 n23) ∧
Q (.bool (n23 == (1 : Int))) w)) (
Q (.bool false) w)))) w14)) w7) ∧
∃ (I24 : (Int × Unit) → World → Prop) (m25 : (Int × Unit) → World → Nat), (∃ t : Int × Unit, ([.int .i64 (0 : Int)] : List Value) = tv [(6, .int .i64)] t ∧ I24 t w) ∧
∀ (_ : Env) (t26 : Int × Unit) (w27 : World), I24 t26 w27 →
(fun w : World =>
cond (decide (t26.1 < ((x0l : Nat) : Int))) (
cond (decide (t26.1 < (400 : Int))) (
nlW x0b fun a28 =>
((0 ≤ t26.1 ∧ t26.1 < ((x0l : Nat) : Int)) ∧
∃ g29 : Array Value, g29.size = 5 ∧ RowAt w (a28.add (t26.1.toNat * 5)) g29 ∧
Calls Try.prog 15 #[.pointer p1, .agg g29] w fun e w =>
e = .returned (.tuple #[]) ∧
∃ t' : Int × Unit, ([.int .i64 (IntKind.i64.wrap (t26.1 + (1 : Int)))] : List Value) = tv [(6, .int .i64)] t' ∧ I24 t' w ∧ m25 t' w < m25 t26 w27)) (
∃ t : Unit, ([] : List Value) = tv [] t ∧ J2 t w)) (
∃ t : Unit, ([] : List Value) = tv [] t ∧ J2 t w)) w27)
set_option maxRecDepth 100000 in
theorem W6_eq (x0b : Option Addr) (x0l x0c : Nat) (x1 : Int) (w : World) (Q : Value → World → Prop) : wFn Try.prog Try.f6 W6_plan [.slice x0b x0l x0c, .int .i64 x1] w Q = W6 x0b x0l x0c x1 w Q := by kernel_rfl
set_option maxRecDepth 100000 in
theorem W6_ok (x0b : Option Addr) (x0l x0c : Nat) (x1 : Int) (w : World) (Q : Value → World → Prop) (h : W6 x0b x0l x0c x1 w Q) : Calls Try.prog 6 #[.slice x0b x0l x0c, .int .i64 x1] w (fun e w' => ∃ v, e = .returned v ∧ Q v w') :=
  calls_of_wFn mixed W6_plan Try.func6 (by kernel_rfl) ((W6_eq x0b x0l x0c x1 w Q).mpr h)

/-! ### 7: hartix/hartixlaw13.ProcEnds -/
def W7_plan : Plan := (.n .z (.n .z (.n .z (.cut [8, 24, 25, 26, 27, 28, 29, 30, 31, 32, 33, 34, 35, 36, 37, 38, 39] [] (.n .z (.cut [8, 24, 25, 26, 27, 28, 29, 30, 31, 32, 33, 34, 35, 36, 37, 38, 39] [(8, .int .i64)] .z .z)) (.n .z (.n .z (.n .z (.n (.cut [52, 53, 54, 55, 56, 57, 58, 59] [(59, .bool)] .z (.n (.n .z (.cut [13, 60, 61, 62] [(13, .int .i64)] .z .z)) .z)) (.n .z (.n .z (.n .z (.n (.n .z (.cut [6, 15, 16, 17, 18, 112, 113, 114, 115, 116, 117, 118, 119, 120, 121, 122, 123, 124, 125, 126, 127, 128, 129, 130, 131, 132, 133, 134, 135, 136, 137, 138, 139, 140, 141, 142, 143, 144, 145, 146, 147, 148] [(15, .bool), (16, .int .i64)] (.n .z (.n (.n .z (.n .z (.n .z (.cut [15, 131, 132, 133, 134, 135, 136, 137, 138, 139, 140, 141, 142, 143, 144, 145] [(15, .bool)] (.cut [131, 132, 133, 134, 135, 136, 137, 138] [(138, .bool)] .z .z) .z)))) .z)) .z)) .z))))))))))))
def W7 (x0b : Option Addr) (x0l x0c : Nat) (x1 : Int) (x2 : Int) (w : World) (Q : Value → World → Prop) : Prop :=
Calls Try.prog 14 #[] w fun e w =>
∃ p1 : Option Addr, e = .returned (.pointer p1) ∧
cond p1.isNone (
Q (.bool false) w) (
∃ J2 : (Unit) → World → Prop, (∀ (_ : Env) (t3 : Unit) (w : World), J2 t3 w →
Calls Try.prog 13 #[.pointer p1] w fun e w =>
∃ g4 : Array Value, e = .returned (.agg g4) ∧
newW (zc Try.prog 31) 31 w fun a5 w =>
stA 449 a5 g4 w fun w =>
Calls Try.prog 18 #[.pointer p1, .int .i64 x1] w fun e w =>
∃ g6 : Array Value, e = .returned (.agg g6) ∧
newW #[.int .i64 0, .int .i64 0, .int .i64 0, .int .i64 0, .int .i64 0, .bool false, .int .i32 0] 28 w fun a7 w =>
stA 7 a7 g6 w fun w =>
Calls Try.prog 20 #[.pointer p1, .int .i64 x1, .int .i32 x2] w fun e w =>
∃ b8 : Bool, ∃ n9 : Int, e = .returned (.tuple #[.bool b8, .int .i64 n9]) ∧
∃ J10 : (Bool × Unit) → World → Prop, (∀ (_ : Env) (t11 : Bool × Unit) (w : World), J10 t11 w →
cond t11.1 (
∃ J12 : (Int × Unit) → World → Prop, (∀ (_ : Env) (t13 : Int × Unit) (w : World), J12 t13 w →
∃ S14 : World → Prop, S14 w.drew ∧
cond (n9 == t13.1) (
cond (!b8) (
∃ g15 : Array Value, g15.size = 449 ∧ (∀ w', S14 w' → RowAt w' a5 g15) ∧
Calls Try.prog 13 #[.pointer p1] w.drew fun e w =>
∃ g16 : Array Value, e = .returned (.agg g16) ∧
(S14 w ∧
∃ b17 : Bool, AggEq Try.prog 31 g16 g15 b17 ∧
Q (.bool b17) w)) (
(S14 w.drew ∧
Q (.bool false) w.drew))) (
(S14 w.drew ∧
Q (.bool false) w.drew))) ∧
∃ n18 : Int, w.cell? (a7.add 1) = some (.int .i64 n18) ∧
cond (n18 == (3 : Int)) (
∃ t : Int × Unit, ([.int .i64 (265 : Int)] : List Value) = tv [(13, .int .i64)] t ∧ J12 t w) (
∃ t : Int × Unit, ([.int .i64 (260 : Int)] : List Value) = tv [(13, .int .i64)] t ∧ J12 t w)) (
Calls Try.prog 18 #[.pointer p1, .int .i64 x1] w fun e w =>
∃ g19 : Array Value, e = .returned (.agg g19) ∧
newW #[.int .i64 0, .int .i64 0, .int .i64 0, .int .i64 0, .int .i64 0, .bool false, .int .i32 0] 28 w fun a20 w =>
stA 7 a20 g19 w fun w =>
cond (n9 != (0 : Int)) (
Q (.bool false) w) (
∃ n21 : Int, w.cell? (a20.add 1) = some (.int .i64 n21) ∧
cond (n21 != (3 : Int)) (
Q (.bool false) w) (
∃ n22 : Int, w.cell? (a20.add 6) = some (.int .i32 n22) ∧
cond (n22 != x2) (
Q (.bool false) w) (
∃ n23 : Int, w.cell? a20 = some (.int .i64 n23) ∧
∃ n24 : Int, w.cell? a7 = some (.int .i64 n24) ∧
cond (n23 != n24) (
Q (.bool false) w) (
∃ n25 : Int, w.cell? (a20.add 2) = some (.int .i64 n25) ∧
∃ n26 : Int, w.cell? (a7.add 2) = some (.int .i64 n26) ∧
cond (n25 != n26) (
Q (.bool false) w) (
∃ g27 : Array Value, g27.size = 2 ∧ RowAt w (a20.add 3) g27 ∧
∃ g28 : Array Value, bldP Try.prog 26 [] (.agg g28) ∧
∃ b29 : Bool, AggEq Try.prog 26 g27 g28 b29 ∧
cond (!b29) (
Q (.bool false) w) (
∃ (I30 : (Bool × Int × Unit) → World → Prop) (m31 : (Bool × Int × Unit) → World → Nat), (∃ t : Bool × Int × Unit, ([.bool false, .int .i64 (1 : Int)] : List Value) = tv [(15, .bool), (16, .int .i64)] t ∧ I30 t w) ∧
∀ (_ : Env) (t32 : Bool × Int × Unit) (w33 : World), I30 t32 w33 →
(fun w : World =>
cond (decide (t32.2.1 < (64 : Int))) (
((0 ≤ t32.2.1 ∧ t32.2.1 < ((64 : Nat) : Int)) ∧
∃ g34 : Array Value, g34.size = 7 ∧ RowAt w (a5.add (t32.2.1.toNat * 7)) g34 ∧
newW #[.int .i64 0, .int .i64 0, .int .i64 0, .int .i64 0, .int .i64 0, .bool false, .int .i32 0] 28 w fun a35 w =>
stA 7 a35 g34 w fun w =>
Calls Try.prog 18 #[.pointer p1, .int .i64 t32.2.1] w fun e w =>
∃ g36 : Array Value, e = .returned (.agg g36) ∧
newW #[.int .i64 0, .int .i64 0, .int .i64 0, .int .i64 0, .int .i64 0, .bool false, .int .i32 0] 28 w fun a37 w =>
stA 7 a37 g36 w fun w =>
cond (t32.2.1 == x1) (
∃ t' : Bool × Int × Unit, ([.bool t32.1, .int .i64 (IntKind.i64.wrap (t32.2.1 + (1 : Int)))] : List Value) = tv [(15, .bool), (16, .int .i64)] t' ∧ I30 t' w ∧ m31 t' w < m31 t32 w33) (
∃ n38 : Int, w.cell? (a35.add 1) = some (.int .i64 n38) ∧
cond (n38 == (0 : Int)) (
∃ t' : Bool × Int × Unit, ([.bool t32.1, .int .i64 (IntKind.i64.wrap (t32.2.1 + (1 : Int)))] : List Value) = tv [(15, .bool), (16, .int .i64)] t' ∧ I30 t' w ∧ m31 t' w < m31 t32 w33) (
∃ J39 : (Bool × Unit) → World → Prop, (∀ (_ : Env) (t40 : Bool × Unit) (w : World), J39 t40 w →
∃ g41 : Array Value, g41.size = 7 ∧ RowAt w a37 g41 ∧
∃ g42 : Array Value, g42.size = 7 ∧ RowAt w a35 g42 ∧
∃ b43 : Bool, AggEq Try.prog 28 g41 g42 b43 ∧
cond (!b43) (
Q (.bool false) w) (
∃ t' : Bool × Int × Unit, ([.bool t40.1, .int .i64 (IntKind.i64.wrap (t32.2.1 + (1 : Int)))] : List Value) = tv [(15, .bool), (16, .int .i64)] t' ∧ I30 t' w ∧ m31 t' w < m31 t32 w33)) ∧
∃ J44 : (Bool × Unit) → World → Prop, (∀ (_ : Env) (t45 : Bool × Unit) (w : World), J44 t45 w →
cond t45.1 (
cond t32.1 (
stC (a35.add 2) (.int .i64 (0 : Int)) w fun w =>
∃ t : Bool × Unit, ([.bool true] : List Value) = tv [(15, .bool)] t ∧ J39 t w) (
∃ n46 : Int, w.cell? (a35.add 1) = some (.int .i64 n46) ∧
stC (a35.add 2) (.int .i64 (0 : Int)) w fun w =>
∃ t : Bool × Unit, ([.bool (n46 == (3 : Int))] : List Value) = tv [(15, .bool)] t ∧ J39 t w)) (
∃ t : Bool × Unit, ([.bool t32.1] : List Value) = tv [(15, .bool)] t ∧ J39 t w)) ∧
cond (x1 != (0 : Int)) (
∃ n47 : Int, w.cell? (a35.add 2) = some (.int .i64 n47) ∧
∃ t : Bool × Unit, ([.bool (n47 == x1)] : List Value) = tv [(138, .bool)] t ∧ J44 t w) (
∃ t : Bool × Unit, ([.bool false] : List Value) = tv [(138, .bool)] t ∧ J44 t w))))) (
cond (!(b8 == t32.1)) (
Q (.bool false) w) (
cond (x1 == (0 : Int)) (
Calls Try.prog 21 #[.pointer p1, .int .i64 (0 : Int)] w fun e w =>
∃ n48 : Int, e = .returned (.int .i64 n48) ∧
Q (.bool (n48 == (260 : Int))) w) (
∃ n49 : Int, w.cell? (a7.add 2) = some (.int .i64 n49) ∧
Calls Try.prog 22 #[.pointer p1, .int .i64 n49] w fun e w =>
∃ n50 : Int, ∃ b51 : Bool, e = .returned (.tuple #[.int .i64 n50, .bool b51]) ∧
∃ S52 : World → Prop, S52 w.drew ∧
cond (!b51) (
(S52 w.drew ∧
(S52 w.drew ∧
Q (.bool false) w.drew))) (
cond (decide (n50 < (1 : Int))) (
(S52 w.drew ∧
(S52 w.drew ∧
Q (.bool false) w.drew))) (
cond (decide (n50 > x1)) (
(S52 w.drew ∧
(S52 w.drew ∧
Q (.bool false) w.drew))) (
Calls Try.prog 18 #[.pointer p1, .int .i64 n50] w.drew fun e w =>
∃ g53 : Array Value, e = .returned (.agg g53) ∧
(S52 w ∧
∃ n54 : Int, g53[1]? = some (.int .i64 n54) ∧
cond (n54 != (3 : Int)) (
(S52 w ∧
Q (.bool false) w)) (
∃ n55 : Int, (∀ w', S52 w' → w'.cell? (a7.add 2) = some (.int .i64 n55)) ∧
Calls Try.prog 18 #[.pointer p1, .int .i64 n50] w fun e w =>
∃ g56 : Array Value, e = .returned (.agg g56) ∧
(S52 w ∧
∃ n57 : Int, g56[2]? = some (.int .i64 n57) ∧
cond (n57 != n55) (
Q (.bool false) w) (
Calls Try.prog 21 #[.pointer p1, .int .i64 x1] w fun e w =>
∃ n58 : Int, e = .returned (.int .i64 n58) ∧
cond (n58 == (0 : Int)) (
Calls Try.prog 18 #[.pointer p1, .int .i64 x1] w fun e w =>
∃ g59 : Array Value, e = .returned (.agg g59) ∧
∃ g60 : Array Value, bldP Try.prog 28 [] (.agg g60) ∧
∃ b61 : Bool, AggEq Try.prog 28 g59 g60 b61 ∧
cond b61 (
∃ n62 : Int, w.cell? a7 = some (.int .i64 n62) ∧
Calls Try.prog 23 #[.pointer p1, .int .i64 n62] w fun e w =>
∃ n63 : Int, e = .returned (.int .i64 n63) ∧
Q (.bool (n63 == (266 : Int))) w) (
Q (.bool false) w)) (
Q (.bool false) w)))))))))))) w33)))))))) ∧
∃ n64 : Int, w.cell? (a7.add 1) = some (.int .i64 n64) ∧
cond (n64 == (0 : Int)) (
∃ t : Bool × Unit, ([.bool true] : List Value) = tv [(59, .bool)] t ∧ J10 t w) (
∃ n65 : Int, w.cell? (a7.add 1) = some (.int .i64 n65) ∧
∃ t : Bool × Unit, ([.bool (n65 == (3 : Int))] : List Value) = tv [(59, .bool)] t ∧ J10 t w)) ∧
∃ (I66 : (Int × Unit) → World → Prop) (m67 : (Int × Unit) → World → Nat), (∃ t : Int × Unit, ([.int .i64 (0 : Int)] : List Value) = tv [(8, .int .i64)] t ∧ I66 t w) ∧
∀ (_ : Env) (t68 : Int × Unit) (w69 : World), I66 t68 w69 →
(fun w : World =>
cond (decide (t68.1 < ((x0l : Nat) : Int))) (
cond (decide (t68.1 < (400 : Int))) (
nlW x0b fun a70 =>
((0 ≤ t68.1 ∧ t68.1 < ((x0l : Nat) : Int)) ∧
∃ g71 : Array Value, g71.size = 5 ∧ RowAt w (a70.add (t68.1.toNat * 5)) g71 ∧
Calls Try.prog 15 #[.pointer p1, .agg g71] w fun e w =>
e = .returned (.tuple #[]) ∧
∃ t' : Int × Unit, ([.int .i64 (IntKind.i64.wrap (t68.1 + (1 : Int)))] : List Value) = tv [(8, .int .i64)] t' ∧ I66 t' w ∧ m67 t' w < m67 t68 w69)) (
∃ t : Unit, ([] : List Value) = tv [] t ∧ J2 t w)) (
∃ t : Unit, ([] : List Value) = tv [] t ∧ J2 t w)) w69)
set_option maxRecDepth 100000 in
theorem W7_eq (x0b : Option Addr) (x0l x0c : Nat) (x1 : Int) (x2 : Int) (w : World) (Q : Value → World → Prop) : wFn Try.prog Try.f7 W7_plan [.slice x0b x0l x0c, .int .i64 x1, .int .i32 x2] w Q = W7 x0b x0l x0c x1 x2 w Q := by kernel_rfl
set_option maxRecDepth 100000 in
theorem W7_ok (x0b : Option Addr) (x0l x0c : Nat) (x1 : Int) (x2 : Int) (w : World) (Q : Value → World → Prop) (h : W7 x0b x0l x0c x1 x2 w Q) : Calls Try.prog 7 #[.slice x0b x0l x0c, .int .i64 x1, .int .i32 x2] w (fun e w' => ∃ v, e = .returned v ∧ Q v w') :=
  calls_of_wFn mixed W7_plan Try.func7 (by kernel_rfl) ((W7_eq x0b x0l x0c x1 x2 w Q).mpr h)

/-! ### 8: hartix/hartixlaw13.ProcNobody -/
def W8_plan : Plan := (.n .z (.n .z (.n (.n .z (.cut [6, 8, 9, 10, 11, 12, 13, 14, 15, 16, 17, 18, 22, 23, 24, 25, 26, 27, 28, 29, 30, 31, 32, 33, 34, 35, 36, 37, 38, 39, 40, 41, 42, 43, 44, 45, 46, 47, 48, 49, 50, 51, 52, 53, 54, 55, 56, 57, 58, 59, 60, 61, 62, 63, 64, 65, 66, 67, 68, 69, 70, 71, 72, 73, 74, 75, 76, 77, 78, 79, 80, 81, 82, 83, 84, 85, 86, 87, 88, 89, 90, 91, 92, 93, 94, 95, 96, 97, 98, 99, 100, 101, 102, 103, 104, 105, 106, 107, 108, 109, 110, 111, 112, 113, 114, 115, 116, 117, 118, 119, 120, 121, 122, 123, 124, 125, 126, 127, 128, 129, 130] [(8, .int .i64)] .z .z)) .z)))
def W8 (x0 : Int) (x1 : Array Value) (x2 : Int) (w : World) (Q : Value → World → Prop) : Prop :=
newW x1 26 w fun a1 w =>
∃ g2 : Array Value, bldP Try.prog 63 [] (.agg g2) ∧
newW g2 63 w fun a3 w =>
∃ g4 : Array Value, bslP Try.prog 64 2 [(0, .pointer none), (1, .pointer (some a3))] g4 36 ∧
newW g4 36 w fun a5 w =>
∃ (I6 : (Int × Unit) → World → Prop) (m7 : (Int × Unit) → World → Nat), (∃ t : Int × Unit, ([.int .i64 (0 : Int)] : List Value) = tv [(8, .int .i64)] t ∧ I6 t w) ∧
∀ (_ : Env) (t8 : Int × Unit) (w9 : World), I6 t8 w9 →
(fun w : World =>
cond (decide (t8.1 < (2 : Int))) (
nlW (some a5) fun a10 =>
((0 ≤ t8.1 ∧ t8.1 < ((2 : Nat) : Int)) ∧
∃ p11 : Option Addr, w.cell? (a10.add (t8.1.toNat * 1)) = some (.pointer p11) ∧
Calls Try.prog 24 #[.pointer p11, .int .i64 x0] w fun e w =>
∃ n12 : Int, ∃ n13 : Int, ∃ n14 : Int, e = .returned (.tuple #[.int .i64 n12, .int .i64 n13, .int .i64 n14]) ∧
Calls Try.prog 19 #[.pointer p11, .int .i64 x0] w fun e w =>
∃ n15 : Int, ∃ b16 : Bool, e = .returned (.tuple #[.int .i64 n15, .bool b16]) ∧
Calls Try.prog 20 #[.pointer p11, .int .i64 x0, .int .i32 x2] w fun e w =>
∃ b17 : Bool, ∃ n18 : Int, e = .returned (.tuple #[.bool b17, .int .i64 n18]) ∧
Calls Try.prog 22 #[.pointer p11, .int .i64 x0] w fun e w =>
∃ n19 : Int, ∃ b20 : Bool, e = .returned (.tuple #[.int .i64 n19, .bool b20]) ∧
cond (n12 != (-1 : Int)) (
Q (.bool false) w) (
cond (n13 != (-1 : Int)) (
Q (.bool false) w) (
cond (n14 != (3 : Int)) (
Q (.bool false) w) (
cond (n15 != (-1 : Int)) (
Q (.bool false) w) (
cond b16 (
Q (.bool false) w) (
cond b17 (
Q (.bool false) w) (
cond (n18 != (3 : Int)) (
Q (.bool false) w) (
cond (n19 != (-1 : Int)) (
Q (.bool false) w) (
cond b20 (
Q (.bool false) w) (
∃ g21 : Array Value, g21.size = 2 ∧ RowAt w a1 g21 ∧
Calls Try.prog 25 #[.pointer p11, .int .i64 x0, .agg g21] w fun e w =>
∃ n22 : Int, e = .returned (.int .i64 n22) ∧
cond (n22 != (3 : Int)) (
Q (.bool false) w) (
∃ g23 : Array Value, g23.size = 2 ∧ RowAt w a1 g23 ∧
Calls Try.prog 16 #[.pointer p11, .agg g23] w fun e w =>
∃ n24 : Int, e = .returned (.int .i64 n24) ∧
cond (n24 != (0 : Int)) (
Q (.bool false) w) (
Calls Try.prog 26 #[.pointer p11, .int .i64 x0] w fun e w =>
∃ n25 : Int, e = .returned (.int .i64 n25) ∧
cond (n25 != (3 : Int)) (
Q (.bool false) w) (
Calls Try.prog 23 #[.pointer p11, .int .i64 x0] w fun e w =>
∃ n26 : Int, e = .returned (.int .i64 n26) ∧
cond (n26 != (3 : Int)) (
Q (.bool false) w) (
Calls Try.prog 21 #[.pointer p11, .int .i64 x0] w fun e w =>
∃ n27 : Int, e = .returned (.int .i64 n27) ∧
cond (n27 != (3 : Int)) (
Q (.bool false) w) (
Calls Try.prog 27 #[.pointer p11] w fun e w =>
∃ b28 : Bool, e = .returned (.bool b28) ∧
cond b28 (
Q (.bool false) w) (
Calls Try.prog 18 #[.pointer p11, .int .i64 x0] w fun e w =>
∃ g29 : Array Value, e = .returned (.agg g29) ∧
∃ g30 : Array Value, bldP Try.prog 28 [] (.agg g30) ∧
∃ b31 : Bool, AggEq Try.prog 28 g29 g30 b31 ∧
cond (!b31) (
Q (.bool false) w) (
Calls Try.prog 13 #[.pointer p11] w fun e w =>
∃ g32 : Array Value, e = .returned (.agg g32) ∧
∃ g33 : Array Value, bldP Try.prog 31 [] (.agg g33) ∧
∃ b34 : Bool, AggEq Try.prog 31 g32 g33 b34 ∧
cond (!b34) (
Q (.bool false) w) (
∃ t' : Int × Unit, ([.int .i64 (IntKind.i64.wrap (t8.1 + (1 : Int)))] : List Value) = tv [(8, .int .i64)] t' ∧ I6 t' w ∧ m7 t' w < m7 t8 w9))))))))))))))))))) (
Q (.bool true) w)) w9
set_option maxRecDepth 100000 in
theorem W8_eq (x0 : Int) (x1 : Array Value) (x2 : Int) (w : World) (Q : Value → World → Prop) : wFn Try.prog Try.f8 W8_plan [.int .i64 x0, .agg x1, .int .i32 x2] w Q = W8 x0 x1 x2 w Q := by kernel_rfl
set_option maxRecDepth 100000 in
theorem W8_ok (x0 : Int) (x1 : Array Value) (x2 : Int) (w : World) (Q : Value → World → Prop) (h : W8 x0 x1 x2 w Q) : Calls Try.prog 8 #[.int .i64 x0, .agg x1, .int .i32 x2] w (fun e w' => ∃ v, e = .returned v ∧ Q v w') :=
  calls_of_wFn mixed W8_plan Try.func8 (by kernel_rfl) ((W8_eq x0 x1 x2 w Q).mpr h)

/-! ### 9: hartix/hartixlaw13.ProcPlays -/
def W9_plan : Plan := (.n .z (.n .z (.n .z (.n (.n .z (.cut [4, 7, 17, 18, 19, 20, 21, 22, 23, 24, 25, 26, 27, 28, 29, 30, 31, 32, 33, 34, 35, 36, 37, 38, 39, 40, 41, 42, 43, 44, 45, 46, 47, 48, 49, 50, 51, 52, 53, 54, 55, 56, 57] [(7, .int .i64)] (.n .z (.n (.n (.n .z .z) .z) .z)) .z)) .z))))
def W9 (x0 : Array Value) (x1b : Option Addr) (x1l x1c : Nat) (w : World) (Q : Value → World → Prop) : Prop :=
newW x0 24 w fun a1 w =>
∃ g2 : Array Value, g2.size = 2 ∧ RowAt w a1 g2 ∧
Calls Try.prog 11 #[.agg g2] w fun e w =>
∃ g3 : Array Value, e = .returned (.agg g3) ∧
Calls Try.prog 12 #[.agg g3] w fun e w =>
∃ p4 : Option Addr, ∃ b5 : Bool, e = .returned (.tuple #[.pointer p4, .bool b5]) ∧
cond p4.isNone (
Q (.bool b5) w) (
∃ (I6 : (Int × Unit) → World → Prop) (m7 : (Int × Unit) → World → Nat), (∃ t : Int × Unit, ([.int .i64 (0 : Int)] : List Value) = tv [(7, .int .i64)] t ∧ I6 t w) ∧
∀ (_ : Env) (t8 : Int × Unit) (w9 : World), I6 t8 w9 →
(fun w : World =>
cond (decide (t8.1 < ((x1l : Nat) : Int))) (
cond (decide (t8.1 < (400 : Int))) (
∃ S10 : World → Prop, S10 w.drew ∧
nlW x1b fun a11 =>
((0 ≤ t8.1 ∧ t8.1 < ((x1l : Nat) : Int)) ∧
∃ g12 : Array Value, g12.size = 5 ∧ (∀ w', S10 w' → RowAt w' (a11.add (t8.1.toNat * 5)) g12) ∧
Calls Try.prog 28 #[.pointer p4, .agg g12] w.drew fun e w =>
∃ b13 : Bool, e = .returned (.bool b13) ∧
∃ S14 : World → Prop, S14 w ∧
cond (!b13) (
∃ S15 : World → Prop, S15 w ∧
∃ S16 : World → Prop, S16 w ∧
∃ S17 : World → Prop, S17 w ∧
Q (.bool false) w) (
nlW p4 fun a18 =>
∃ p19 : Option Addr, (∀ w', S14 w' → w'.cell? a18 = some (.pointer p19)) ∧
nlW p4 fun a20 =>
∃ p21 : Option Addr, (∀ w', S14 w' → w'.cell? (a20.add 1) = some (.pointer p21)) ∧
Calls Try.prog 13 #[.pointer p19] w fun e w =>
∃ g22 : Array Value, e = .returned (.agg g22) ∧
∃ S23 : World → Prop, (∀ w', S23 w' → S14 w') ∧ S23 w ∧
Calls Try.prog 29 #[.pointer p21] w fun e w =>
∃ g24 : Array Value, e = .returned (.agg g24) ∧
∃ S25 : World → Prop, S25 w ∧
∃ b26 : Bool, AggEq Try.prog 31 g22 g24 b26 ∧
cond (!b26) (
∃ S27 : World → Prop, S27 w ∧
Q (.bool false) w) (
nlW x1b fun a28 =>
((0 ≤ t8.1 ∧ t8.1 < ((x1l : Nat) : Int)) ∧
∃ n29 : Int, (∀ w', S25 w' → w'.cell? ((a28.add (t8.1.toNat * 5)).add 1) = some (.int .i64 n29)) ∧
∃ g30 : Array Value, bldP Try.prog 46 [(0, .int .i64 (10 : Int)), (1, .int .i64 n29)] (.agg g30) ∧
Calls Try.prog 28 #[.pointer p4, .agg g30] w fun e w =>
∃ b31 : Bool, e = .returned (.bool b31) ∧
∃ S32 : World → Prop, S32 w ∧
cond (!b31) (
Q (.bool false) w) (
∃ t' : Int × Unit, ([.int .i64 (IntKind.i64.wrap (t8.1 + (1 : Int)))] : List Value) = tv [(7, .int .i64)] t' ∧ I6 t' w ∧ m7 t' w < m7 t8 w9)))))) (
Q (.bool true) w)) (
Q (.bool true) w)) w9)
set_option maxRecDepth 100000 in
theorem W9_eq (x0 : Array Value) (x1b : Option Addr) (x1l x1c : Nat) (w : World) (Q : Value → World → Prop) : wFn Try.prog Try.f9 W9_plan [.agg x0, .slice x1b x1l x1c] w Q = W9 x0 x1b x1l x1c w Q := by kernel_rfl
set_option maxRecDepth 100000 in
theorem W9_ok (x0 : Array Value) (x1b : Option Addr) (x1l x1c : Nat) (w : World) (Q : Value → World → Prop) (h : W9 x0 x1b x1l x1c w Q) : Calls Try.prog 9 #[.agg x0, .slice x1b x1l x1c] w (fun e w' => ∃ v, e = .returned v ∧ Q v w') :=
  calls_of_wFn mixed W9_plan Try.func9 (by kernel_rfl) ((W9_eq x0 x1b x1l x1c w Q).mpr h)

/-! ### 10: hartix/hartixlaw13.ProcBegins -/
def W10_plan : Plan := (.n .z (.n .z (.n .z (.n .z (.n (.n (.n .z .z) .z) (.n (.n .z (.cut [2, 5, 24, 25, 26, 27, 28, 29, 30, 31, 32, 33, 34, 35, 36, 37, 38, 39, 40, 41, 42, 43, 44, 45, 46, 47, 48, 49, 50, 51, 52, 53] [(5, .int .i64)] (.n .z (.n (.n (.n .z .z) .z) .z)) .z)) .z))))))
def W10 (x0b : Option Addr) (x0l x0c : Nat) (w : World) (Q : Value → World → Prop) : Prop :=
Calls Try.prog 14 #[] w fun e w =>
∃ p1 : Option Addr, e = .returned (.pointer p1) ∧
cond p1.isNone (
Q (.bool false) w) (
Calls Try.prog 30 #[] w fun e w =>
∃ p2 : Option Addr, e = .returned (.pointer p2) ∧
∃ g3 : Array Value, bldP Try.prog 39 [(0, .pointer p1), (1, .pointer p2)] (.agg g3) ∧
newW g3 39 w fun a4 w =>
∃ S5 : World → Prop, S5 w.drew ∧
∃ p6 : Option Addr, (∀ w', S5 w' → w'.cell? a4 = some (.pointer p6)) ∧
∃ p7 : Option Addr, (∀ w', S5 w' → w'.cell? (a4.add 1) = some (.pointer p7)) ∧
Calls Try.prog 13 #[.pointer p6] w.drew fun e w =>
∃ g8 : Array Value, e = .returned (.agg g8) ∧
∃ S9 : World → Prop, (∀ w', S9 w' → S5 w') ∧ S9 w ∧
Calls Try.prog 29 #[.pointer p7] w fun e w =>
∃ g10 : Array Value, e = .returned (.agg g10) ∧
∃ S11 : World → Prop, S11 w ∧
∃ b12 : Bool, AggEq Try.prog 31 g8 g10 b12 ∧
cond (!b12) (
Q (.bool false) w) (
∃ (I13 : (Int × Unit) → World → Prop) (m14 : (Int × Unit) → World → Nat), (∃ t : Int × Unit, ([.int .i64 (0 : Int)] : List Value) = tv [(5, .int .i64)] t ∧ I13 t w) ∧
∀ (_ : Env) (t15 : Int × Unit) (w16 : World), I13 t15 w16 →
(fun w : World =>
cond (decide (t15.1 < ((x0l : Nat) : Int))) (
cond (decide (t15.1 < (400 : Int))) (
∃ S17 : World → Prop, S17 w.drew ∧
nlW x0b fun a18 =>
((0 ≤ t15.1 ∧ t15.1 < ((x0l : Nat) : Int)) ∧
∃ g19 : Array Value, g19.size = 5 ∧ (∀ w', S17 w' → RowAt w' (a18.add (t15.1.toNat * 5)) g19) ∧
Calls Try.prog 28 #[.pointer (some a4), .agg g19] w.drew fun e w =>
∃ b20 : Bool, e = .returned (.bool b20) ∧
∃ S21 : World → Prop, S21 w ∧
cond (!b20) (
∃ S22 : World → Prop, S22 w ∧
∃ S23 : World → Prop, S23 w ∧
Q (.bool false) w) (
∃ p24 : Option Addr, (∀ w', S21 w' → w'.cell? a4 = some (.pointer p24)) ∧
∃ p25 : Option Addr, (∀ w', S21 w' → w'.cell? (a4.add 1) = some (.pointer p25)) ∧
Calls Try.prog 13 #[.pointer p24] w fun e w =>
∃ g26 : Array Value, e = .returned (.agg g26) ∧
∃ S27 : World → Prop, (∀ w', S27 w' → S21 w') ∧ S27 w ∧
Calls Try.prog 29 #[.pointer p25] w fun e w =>
∃ g28 : Array Value, e = .returned (.agg g28) ∧
∃ S29 : World → Prop, S29 w ∧
∃ b30 : Bool, AggEq Try.prog 31 g26 g28 b30 ∧
cond (!b30) (
Q (.bool false) w) (
∃ t' : Int × Unit, ([.int .i64 (IntKind.i64.wrap (t15.1 + (1 : Int)))] : List Value) = tv [(5, .int .i64)] t' ∧ I13 t' w ∧ m14 t' w < m14 t15 w16)))) (
Q (.bool true) w)) (
Q (.bool true) w)) w16))
set_option maxRecDepth 100000 in
theorem W10_eq (x0b : Option Addr) (x0l x0c : Nat) (w : World) (Q : Value → World → Prop) : wFn Try.prog Try.f10 W10_plan [.slice x0b x0l x0c] w Q = W10 x0b x0l x0c w Q := by kernel_rfl
set_option maxRecDepth 100000 in
theorem W10_ok (x0b : Option Addr) (x0l x0c : Nat) (w : World) (Q : Value → World → Prop) (h : W10 x0b x0l x0c w Q) : Calls Try.prog 10 #[.slice x0b x0l x0c] w (fun e w' => ∃ v, e = .returned v ∧ Q v w') :=
  calls_of_wFn mixed W10_plan Try.func10 (by kernel_rfl) ((W10_eq x0b x0l x0c w Q).mpr h)

/-! ### 11: hartix/hartixlaw13.table -/
def W11_plan : Plan := (.n .z (.n .z (.n (.n .z (.cut [4, 8, 9, 10, 11, 12, 13, 14, 15, 16, 17, 18, 19, 20, 21, 22, 23, 24, 25, 26, 27, 28, 29, 30, 31, 32, 33, 34, 35, 36, 37, 38, 39, 40, 41, 42, 43, 44] [(4, .int .i64)] (.n .z (.n (.cut [15, 16, 17, 18, 19, 20, 21, 22, 23, 24, 25, 26, 27, 28, 29, 30] [(30, .bool)] .z .z) .z)) .z)) .z)))
def W11 (x0 : Array Value) (w : World) (Q : Value → World → Prop) : Prop :=
newW x0 24 w fun a1 w =>
newW (zc Try.prog 31) 31 w fun a2 w =>
∃ n3 : Int, w.cell? (a1.add 1) = some (.int .i64 n3) ∧
∃ g4 : Array Value, bldP Try.prog 31 [(1, .int .i64 n3)] (.agg g4) ∧
newW (zc Try.prog 31) 31 w fun a5 w =>
stA 449 a5 g4 w fun w =>
∃ (I6 : (Int × Unit) → World → Prop) (m7 : (Int × Unit) → World → Nat), (∃ t : Int × Unit, ([.int .i64 (0 : Int)] : List Value) = tv [(4, .int .i64)] t ∧ I6 t w) ∧
∀ (_ : Env) (t8 : Int × Unit) (w9 : World), I6 t8 w9 →
(fun w : World =>
∃ (q10b : Option Addr) (q10l q10c : Nat), w.cell? a1 = some (.slice q10b q10l q10c) ∧
cond (decide (t8.1 < ((q10l : Nat) : Int))) (
∃ J11 : (Bool × Unit) → World → Prop, (∀ (_ : Env) (t12 : Bool × Unit) (w : World), J11 t12 w →
cond t12.1 (
∃ S13 : World → Prop, S13 w.drew ∧
∃ (q14b : Option Addr) (q14l q14c : Nat), (∀ w', S13 w' → w'.cell? a1 = some (.slice q14b q14l q14c)) ∧
nlW q14b fun a15 =>
((0 ≤ t8.1 ∧ t8.1 < ((q14l : Nat) : Int)) ∧
∃ n16 : Int, (∀ w', S13 w' → w'.cell? (a15.add (t8.1.toNat * 8)) = some (.int .i64 n16)) ∧
∃ (q17b : Option Addr) (q17l q17c : Nat), (∀ w', S13 w' → w'.cell? a1 = some (.slice q17b q17l q17c)) ∧
nlW q17b fun a18 =>
((0 ≤ t8.1 ∧ t8.1 < ((q17l : Nat) : Int)) ∧
∃ g19 : Array Value, g19.size = 7 ∧ (∀ w', S13 w' → RowAt w' ((a18.add (t8.1.toNat * 8)).add 1) g19) ∧
((0 ≤ n16 ∧ n16 < ((64 : Nat) : Int)) ∧
stA 7 (a5.add (n16.toNat * 7)) g19 w.drew fun w =>
(S13 w ∧
∃ t' : Int × Unit, ([.int .i64 (IntKind.i64.wrap (t8.1 + (1 : Int)))] : List Value) = tv [(4, .int .i64)] t' ∧ I6 t' w ∧ m7 t' w < m7 t8 w9))))) (
∃ t' : Int × Unit, ([.int .i64 (IntKind.i64.wrap (t8.1 + (1 : Int)))] : List Value) = tv [(4, .int .i64)] t' ∧ I6 t' w ∧ m7 t' w < m7 t8 w9)) ∧
∃ (q20b : Option Addr) (q20l q20c : Nat), w.cell? a1 = some (.slice q20b q20l q20c) ∧
nlW q20b fun a21 =>
((0 ≤ t8.1 ∧ t8.1 < ((q20l : Nat) : Int)) ∧
∃ n22 : Int, w.cell? (a21.add (t8.1.toNat * 8)) = some (.int .i64 n22) ∧
cond (decide (n22 ≥ (0 : Int))) (
∃ (q23b : Option Addr) (q23l q23c : Nat), w.cell? a1 = some (.slice q23b q23l q23c) ∧
nlW q23b fun a24 =>
((0 ≤ t8.1 ∧ t8.1 < ((q23l : Nat) : Int)) ∧
∃ n25 : Int, w.cell? (a24.add (t8.1.toNat * 8)) = some (.int .i64 n25) ∧
∃ t : Bool × Unit, ([.bool (decide (n25 < (64 : Int)))] : List Value) = tv [(30, .bool)] t ∧ J11 t w)) (
∃ t : Bool × Unit, ([.bool false] : List Value) = tv [(30, .bool)] t ∧ J11 t w))) (
∃ g26 : Array Value, g26.size = 449 ∧ RowAt w a5 g26 ∧
stA 449 a2 g26 w fun w =>
∃ g27 : Array Value, g27.size = 449 ∧ RowAt w a2 g27 ∧
Q (.agg g27) w)) w9
set_option maxRecDepth 100000 in
theorem W11_eq (x0 : Array Value) (w : World) (Q : Value → World → Prop) : wFn Try.prog Try.f11 W11_plan [.agg x0] w Q = W11 x0 w Q := by kernel_rfl
set_option maxRecDepth 100000 in
theorem W11_ok (x0 : Array Value) (w : World) (Q : Value → World → Prop) (h : W11 x0 w Q) : Calls Try.prog 11 #[.agg x0] w (fun e w' => ∃ v, e = .returned v ∧ Q v w') :=
  calls_of_wFn mixed W11_plan Try.func11 (by kernel_rfl) ((W11_eq x0 w Q).mpr h)

/-! ### 12: hartix/hartixlaw13.from -/
def W12_plan : Plan := (.n .z (.n .z (.n .z (.n .z (.n (.cut [28, 29, 30, 31, 32, 33] [(33, .bool)] .z .z) .z)))))
def W12 (x0 : Array Value) (w : World) (Q : Value → World → Prop) : Prop :=
newW x0 31 w fun a1 w =>
∃ g2 : Array Value, g2.size = 449 ∧ RowAt w a1 g2 ∧
Calls Try.prog 31 #[.agg g2] w fun e w =>
∃ p3 : Option Addr, ∃ v4 : Value, e = .returned (.tuple #[.pointer p3, v4]) ∧
∃ g5 : Array Value, g5.size = 449 ∧ RowAt w a1 g5 ∧
Calls Try.prog 32 #[.agg g5] w fun e w =>
∃ p6 : Option Addr, ∃ n7 : Int, e = .returned (.tuple #[.pointer p6, .int .i64 n7]) ∧
cond p6.isNone (
cond p3.isNone (
Calls Try.prog 34 #[.string ⟨#[112, 114, 111, 99]⟩, .int .i64 n7, .int .i64 (4 : Int)] w fun e w =>
∃ g8 : Array Value, e = .returned (.agg g8) ∧
Calls Try.prog 33 #[v4, .agg g8] w fun e w =>
∃ b9 : Bool, e = .returned (.bool b9) ∧
Q (.tuple #[.pointer none, .bool b9]) w) (
Q (.tuple #[.pointer none, .bool false]) w)) (
∃ J10 : (Bool × Unit) → World → Prop, (∀ (_ : Env) (t11 : Bool × Unit) (w : World), J10 t11 w →
cond t11.1 (
Q (.tuple #[.pointer none, .bool false]) w) (
∃ g12 : Array Value, bldP Try.prog 39 [(0, .pointer p3), (1, .pointer p6)] (.agg g12) ∧
newW g12 39 w fun a13 w =>
Q (.tuple #[.pointer (some a13), .bool true]) w)) ∧
cond p3.isNone (
∃ t : Bool × Unit, ([.bool true] : List Value) = tv [(33, .bool)] t ∧ J10 t w) (
∃ b14 : Bool, isNilI v4 = some b14 ∧
∃ t : Bool × Unit, ([.bool (!b14)] : List Value) = tv [(33, .bool)] t ∧ J10 t w))
set_option maxRecDepth 100000 in
theorem W12_eq (x0 : Array Value) (w : World) (Q : Value → World → Prop) : wFn Try.prog Try.f12 W12_plan [.agg x0] w Q = W12 x0 w Q := by kernel_rfl
set_option maxRecDepth 100000 in
theorem W12_ok (x0 : Array Value) (w : World) (Q : Value → World → Prop) (h : W12 x0 w Q) : Calls Try.prog 12 #[.agg x0] w (fun e w' => ∃ v, e = .returned v ∧ Q v w') :=
  calls_of_wFn mixed W12_plan Try.func12 (by kernel_rfl) ((W12_eq x0 w Q).mpr h)

/-! ### 13: (*hartix/proc.Table).State -/
def W13_plan : Plan := .z
def W13 (x0 : Option Addr) (w : World) (Q : Value → World → Prop) : Prop :=
newW (zc Try.prog 31) 31 w fun a1 w =>
Calls Try.prog 35 #[.pointer x0] w fun e w =>
∃ b2 : Bool, e = .returned (.bool b2) ∧
cond b2 (
∃ g3 : Array Value, bldP Try.prog 31 [] (.agg g3) ∧
stA 449 a1 g3 w fun w =>
∃ g4 : Array Value, g4.size = 449 ∧ RowAt w a1 g4 ∧
Q (.agg g4) w) (
∃ S5 : World → Prop, S5 w.drew ∧
nlW x0 fun a6 =>
∃ g7 : Array Value, g7.size = 448 ∧ (∀ w', S5 w' → RowAt w' a6 g7) ∧
nlW x0 fun a8 =>
∃ n9 : Int, (∀ w', S5 w' → w'.cell? (a8.add 448) = some (.int .i64 n9)) ∧
∃ g10 : Array Value, bldP Try.prog 31 [(0, .agg g7), (1, .int .i64 n9)] (.agg g10) ∧
stA 449 a1 g10 w.drew fun w =>
(S5 w ∧
∃ g11 : Array Value, g11.size = 449 ∧ RowAt w a1 g11 ∧
Q (.agg g11) w))
set_option maxRecDepth 100000 in
theorem W13_eq (x0 : Option Addr) (w : World) (Q : Value → World → Prop) : wFn Try.prog Try.f13 W13_plan [.pointer x0] w Q = W13 x0 w Q := by kernel_rfl
set_option maxRecDepth 100000 in
theorem W13_ok (x0 : Option Addr) (w : World) (Q : Value → World → Prop) (h : W13 x0 w Q) : Calls Try.prog 13 #[.pointer x0] w (fun e w' => ∃ v, e = .returned v ∧ Q v w') :=
  calls_of_wFn mixed W13_plan Try.func13 (by kernel_rfl) ((W13_eq x0 w Q).mpr h)

/-! ### 14: hartix/proc.New -/
def W14_plan : Plan := .z
def W14  (w : World) (Q : Value → World → Prop) : Prop :=
∃ g1 : Array Value, bldP Try.prog 63 [(1, .int .i64 (1 : Int))] (.agg g1) ∧
newW g1 63 w fun a2 w =>
Q (.pointer (some a2)) w
set_option maxRecDepth 100000 in
theorem W14_eq  (w : World) (Q : Value → World → Prop) : wFn Try.prog Try.f14 W14_plan [] w Q = W14  w Q := by kernel_rfl
set_option maxRecDepth 100000 in
theorem W14_ok  (w : World) (Q : Value → World → Prop) (h : W14  w Q) : Calls Try.prog 14 #[] w (fun e w' => ∃ v, e = .returned v ∧ Q v w') :=
  calls_of_wFn mixed W14_plan Try.func14 (by kernel_rfl) ((W14_eq  w Q).mpr h)

/-! ### 15: hartix/hartixlaw13.do -/
def W15_plan : Plan := .z
def W15 (x0 : Option Addr) (x1 : Array Value) (w : World) (Q : Value → World → Prop) : Prop :=
newW x1 46 w fun a1 w =>
∃ n2 : Int, w.cell? a1 = some (.int .i64 n2) ∧
cond (n2 == (1 : Int)) (
∃ n3 : Int, w.cell? (a1.add 1) = some (.int .i64 n3) ∧
Calls Try.prog 24 #[.pointer x0, .int .i64 n3] w fun e w =>
∃ n4 : Int, ∃ n5 : Int, ∃ n6 : Int, e = .returned (.tuple #[.int .i64 n4, .int .i64 n5, .int .i64 n6]) ∧
Q (.tuple #[]) w) (
cond (n2 == (3 : Int)) (
∃ n7 : Int, w.cell? (a1.add 1) = some (.int .i64 n7) ∧
∃ g8 : Array Value, g8.size = 2 ∧ RowAt w (a1.add 2) g8 ∧
Calls Try.prog 25 #[.pointer x0, .int .i64 n7, .agg g8] w fun e w =>
∃ n9 : Int, e = .returned (.int .i64 n9) ∧
Q (.tuple #[]) w) (
cond (n2 == (4 : Int)) (
∃ g10 : Array Value, g10.size = 2 ∧ RowAt w (a1.add 2) g10 ∧
Calls Try.prog 16 #[.pointer x0, .agg g10] w fun e w =>
∃ n11 : Int, e = .returned (.int .i64 n11) ∧
Q (.tuple #[]) w) (
cond (n2 == (5 : Int)) (
∃ n12 : Int, w.cell? (a1.add 1) = some (.int .i64 n12) ∧
Calls Try.prog 26 #[.pointer x0, .int .i64 n12] w fun e w =>
∃ n13 : Int, e = .returned (.int .i64 n13) ∧
Q (.tuple #[]) w) (
cond (n2 == (6 : Int)) (
∃ n14 : Int, w.cell? (a1.add 1) = some (.int .i64 n14) ∧
Calls Try.prog 23 #[.pointer x0, .int .i64 n14] w fun e w =>
∃ n15 : Int, e = .returned (.int .i64 n15) ∧
Q (.tuple #[]) w) (
cond (n2 == (7 : Int)) (
∃ n16 : Int, w.cell? (a1.add 1) = some (.int .i64 n16) ∧
∃ n17 : Int, w.cell? (a1.add 4) = some (.int .i32 n17) ∧
Calls Try.prog 20 #[.pointer x0, .int .i64 n16, .int .i32 n17] w fun e w =>
∃ b18 : Bool, ∃ n19 : Int, e = .returned (.tuple #[.bool b18, .int .i64 n19]) ∧
Q (.tuple #[]) w) (
cond (n2 == (9 : Int)) (
∃ n20 : Int, w.cell? (a1.add 1) = some (.int .i64 n20) ∧
Calls Try.prog 21 #[.pointer x0, .int .i64 n20] w fun e w =>
∃ n21 : Int, e = .returned (.int .i64 n21) ∧
Q (.tuple #[]) w) (
Q (.tuple #[]) w)))))))
set_option maxRecDepth 100000 in
theorem W15_eq (x0 : Option Addr) (x1 : Array Value) (w : World) (Q : Value → World → Prop) : wFn Try.prog Try.f15 W15_plan [.pointer x0, .agg x1] w Q = W15 x0 x1 w Q := by kernel_rfl
set_option maxRecDepth 100000 in
theorem W15_ok (x0 : Option Addr) (x1 : Array Value) (w : World) (Q : Value → World → Prop) (h : W15 x0 x1 w Q) : Calls Try.prog 15 #[.pointer x0, .agg x1] w (fun e w' => ∃ v, e = .returned v ∧ Q v w') :=
  calls_of_wFn mixed W15_plan Try.func15 (by kernel_rfl) ((W15_eq x0 x1 w Q).mpr h)

/-! ### 16: (*hartix/proc.Table).Wake -/
def W16_plan : Plan := (.n .z (.n .z (.n .z (.n (.n .z (.cut [5, 6, 7, 11, 12, 13, 14, 15, 16, 17, 18, 19, 20, 21, 22, 23, 24, 25, 26, 27, 28, 29, 30, 31, 32, 33, 34, 35, 36] [(5, .int .i64), (11, .int .i64)] (.n .z (.n .z (.n (.n .z (.n .z (.cut [19, 20, 21, 22, 23, 24, 25, 26, 27, 28, 29, 30, 31] [(31, .bool)] .z .z))) .z))) .z)) .z))))
def W16 (x0 : Option Addr) (x1 : Array Value) (w : World) (Q : Value → World → Prop) : Prop :=
newW x1 26 w fun a1 w =>
Calls Try.prog 35 #[.pointer x0] w fun e w =>
∃ b2 : Bool, e = .returned (.bool b2) ∧
cond b2 (
Q (.int .i64 (0 : Int)) w) (
∃ (I3 : (Int × Int × Unit) → World → Prop) (m4 : (Int × Int × Unit) → World → Nat), (∃ t : Int × Int × Unit, ([.int .i64 (0 : Int), .int .i64 (0 : Int)] : List Value) = tv [(5, .int .i64), (11, .int .i64)] t ∧ I3 t w) ∧
∀ (_ : Env) (t5 : Int × Int × Unit) (w6 : World), I3 t5 w6 →
(fun w : World =>
cond (decide (t5.2.1 < (64 : Int))) (
nlW x0 fun a7 =>
((0 ≤ t5.2.1 ∧ t5.2.1 < ((64 : Nat) : Int)) ∧
∃ J8 : (Bool × Unit) → World → Prop, (∀ (_ : Env) (t9 : Bool × Unit) (w : World), J8 t9 w →
cond t9.1 (
Calls Try.prog 36 #[.pointer (some (a7.add (t5.2.1.toNat * 7)))] w fun e w =>
e = .returned (.tuple #[]) ∧
∃ t' : Int × Int × Unit, ([.int .i64 (IntKind.i64.wrap (t5.1 + (1 : Int))), .int .i64 (IntKind.i64.wrap (t5.2.1 + (1 : Int)))] : List Value) = tv [(5, .int .i64), (11, .int .i64)] t' ∧ I3 t' w ∧ m4 t' w < m4 t5 w6) (
∃ t' : Int × Int × Unit, ([.int .i64 t5.1, .int .i64 (IntKind.i64.wrap (t5.2.1 + (1 : Int)))] : List Value) = tv [(5, .int .i64), (11, .int .i64)] t' ∧ I3 t' w ∧ m4 t' w < m4 t5 w6)) ∧
∃ n10 : Int, w.drew.cell? ((a7.add (t5.2.1.toNat * 7)).add 1) = some (.int .i64 n10) ∧
cond (n10 == (2 : Int)) (
∃ g11 : Array Value, g11.size = 2 ∧ RowAt w.drew ((a7.add (t5.2.1.toNat * 7)).add 3) g11 ∧
∃ g12 : Array Value, g12.size = 2 ∧ RowAt w.drew a1 g12 ∧
∃ b13 : Bool, AggEq Try.prog 26 g11 g12 b13 ∧
∃ t : Bool × Unit, ([.bool b13] : List Value) = tv [(31, .bool)] t ∧ J8 t w.drew) (
∃ t : Bool × Unit, ([.bool false] : List Value) = tv [(31, .bool)] t ∧ J8 t w.drew))) (
Q (.int .i64 t5.1) w)) w6)
set_option maxRecDepth 100000 in
theorem W16_eq (x0 : Option Addr) (x1 : Array Value) (w : World) (Q : Value → World → Prop) : wFn Try.prog Try.f16 W16_plan [.pointer x0, .agg x1] w Q = W16 x0 x1 w Q := by kernel_rfl
set_option maxRecDepth 100000 in
theorem W16_ok (x0 : Option Addr) (x1 : Array Value) (w : World) (Q : Value → World → Prop) (h : W16 x0 x1 w Q) : Calls Try.prog 16 #[.pointer x0, .agg x1] w (fun e w' => ∃ v, e = .returned v ∧ Q v w') :=
  calls_of_wFn mixed W16_plan Try.func16 (by kernel_rfl) ((W16_eq x0 x1 w Q).mpr h)

/-! ### 17: hartix/hartixlaw13.sound -/
def W17_plan : Plan := (.n .z (.n .z (.n (.n .z (.cut [2, 4, 5, 6, 9, 10, 11, 12, 13, 14, 15, 16, 17, 18, 19, 20, 21, 22, 23, 24, 25, 26, 27, 28, 29, 30, 31, 32, 33, 34, 35, 36, 37, 38, 39, 40, 41, 42, 43, 44, 45, 46, 47, 48, 49, 50, 51, 52, 53, 54, 55, 56, 57, 58, 59, 60, 61, 62, 63, 64, 65, 66, 67, 68, 69, 70, 71, 72, 73, 74, 75, 76, 77, 78] [(4, .int .i64)] (.n .z (.n (.n .z (.n .z (.n .z (.cut [2, 28, 29, 30, 31, 32, 33, 34, 35, 36, 37, 38, 39, 40, 41, 42, 43, 44, 45, 46, 47, 48, 49, 50, 51, 52, 53] [] .z (.n (.n .z (.cut [2, 6, 54, 55, 56, 57, 58, 59, 60, 61, 62, 63, 64, 65, 66, 67, 68, 69, 70, 71, 72, 73, 74] [(6, .int .i64)] .z .z)) .z))))) .z)) .z)) .z)))
def W17 (x0 : Option Addr) (w : World) (Q : Value → World → Prop) : Prop :=
Calls Try.prog 13 #[.pointer x0] w fun e w =>
∃ g1 : Array Value, e = .returned (.agg g1) ∧
newW (zc Try.prog 31) 31 w fun a2 w =>
stA 449 a2 g1 w fun w =>
∃ (I3 : (Int × Unit) → World → Prop) (m4 : (Int × Unit) → World → Nat), (∃ t : Int × Unit, ([.int .i64 (0 : Int)] : List Value) = tv [(4, .int .i64)] t ∧ I3 t w) ∧
∀ (_ : Env) (t5 : Int × Unit) (w6 : World), I3 t5 w6 →
(fun w : World =>
cond (decide (t5.1 < (64 : Int))) (
Calls Try.prog 18 #[.pointer x0, .int .i64 t5.1] w fun e w =>
∃ g7 : Array Value, e = .returned (.agg g7) ∧
newW #[.int .i64 0, .int .i64 0, .int .i64 0, .int .i64 0, .int .i64 0, .bool false, .int .i32 0] 28 w fun a8 w =>
stA 7 a8 g7 w fun w =>
∃ g9 : Array Value, g9.size = 7 ∧ RowAt w.drew a8 g9 ∧
((0 ≤ t5.1 ∧ t5.1 < ((64 : Nat) : Int)) ∧
∃ g10 : Array Value, g10.size = 7 ∧ RowAt w.drew (a2.add (t5.1.toNat * 7)) g10 ∧
∃ b11 : Bool, AggEq Try.prog 28 g9 g10 b11 ∧
cond (!b11) (
Q (.bool false) w.drew) (
∃ n12 : Int, w.drew.cell? (a8.add 1) = some (.int .i64 n12) ∧
cond (n12 == (0 : Int)) (
∃ g13 : Array Value, g13.size = 7 ∧ RowAt w.drew a8 g13 ∧
∃ g14 : Array Value, bldP Try.prog 28 [] (.agg g14) ∧
∃ b15 : Bool, AggEq Try.prog 28 g13 g14 b15 ∧
cond (!b15) (
Q (.bool false) w.drew) (
∃ t' : Int × Unit, ([.int .i64 (IntKind.i64.wrap (t5.1 + (1 : Int)))] : List Value) = tv [(4, .int .i64)] t' ∧ I3 t' w.drew ∧ m4 t' w.drew < m4 t5 w6)) (
∃ J16 : (Unit) → World → Prop, (∀ (_ : Env) (t17 : Unit) (w : World), J16 t17 w →
∃ (I18 : (Int × Unit) → World → Prop) (m19 : (Int × Unit) → World → Nat), (∃ t : Int × Unit, ([.int .i64 (0 : Int)] : List Value) = tv [(6, .int .i64)] t ∧ I18 t w) ∧
∀ (_ : Env) (t20 : Int × Unit) (w21 : World), I18 t20 w21 →
(fun w : World =>
cond (decide (t20.1 < t5.1)) (
((0 ≤ t20.1 ∧ t20.1 < ((64 : Nat) : Int)) ∧
∃ n22 : Int, w.drew.cell? ((a2.add (t20.1.toNat * 7)).add 1) = some (.int .i64 n22) ∧
cond (n22 != (0 : Int)) (
((0 ≤ t20.1 ∧ t20.1 < ((64 : Nat) : Int)) ∧
∃ n23 : Int, w.drew.cell? (a2.add (t20.1.toNat * 7)) = some (.int .i64 n23) ∧
∃ n24 : Int, w.drew.cell? a8 = some (.int .i64 n24) ∧
cond (n23 == n24) (
Q (.bool false) w.drew) (
∃ t' : Int × Unit, ([.int .i64 (IntKind.i64.wrap (t20.1 + (1 : Int)))] : List Value) = tv [(6, .int .i64)] t' ∧ I18 t' w.drew ∧ m19 t' w.drew < m19 t20 w21))) (
∃ t' : Int × Unit, ([.int .i64 (IntKind.i64.wrap (t20.1 + (1 : Int)))] : List Value) = tv [(6, .int .i64)] t' ∧ I18 t' w.drew ∧ m19 t' w.drew < m19 t20 w21))) (
∃ g25 : Array Value, g25.size = 449 ∧ RowAt w a2 g25 ∧
Calls Try.prog 37 #[.agg g25, .int .i64 t5.1] w fun e w =>
∃ b26 : Bool, e = .returned (.bool b26) ∧
cond (!b26) (
Q (.bool false) w) (
∃ t' : Int × Unit, ([.int .i64 (IntKind.i64.wrap (t5.1 + (1 : Int)))] : List Value) = tv [(4, .int .i64)] t' ∧ I3 t' w ∧ m4 t' w < m4 t5 w6))) w21) ∧
∃ n27 : Int, w.drew.cell? a8 = some (.int .i64 n27) ∧
cond (decide (n27 < (1 : Int))) (
Q (.bool false) w.drew) (
∃ n28 : Int, w.drew.cell? a8 = some (.int .i64 n28) ∧
∃ n29 : Int, w.drew.cell? (a2.add 448) = some (.int .i64 n29) ∧
cond (decide (n28 ≥ n29)) (
Q (.bool false) w.drew) (
((0 ≤ (0 : Int) ∧ (0 : Int) < ((64 : Nat) : Int)) ∧
∃ n30 : Int, w.drew.cell? (a2.add ((0 : Int).toNat * 7)) = some (.int .i64 n30) ∧
cond (n30 != (1 : Int)) (
Q (.bool false) w.drew) (
∃ n31 : Int, w.drew.cell? (a8.add 1) = some (.int .i64 n31) ∧
cond (n31 == (2 : Int)) (
∃ b32 : Bool, w.drew.cell? (a8.add 5) = some (.bool b32) ∧
cond b32 (
Q (.bool false) w.drew) (
∃ t : Unit, ([] : List Value) = tv [] t ∧ J16 t w.drew)) (
∃ t : Unit, ([] : List Value) = tv [] t ∧ J16 t w.drew))))))))) (
Q (.bool true) w)) w6
set_option maxRecDepth 100000 in
theorem W17_eq (x0 : Option Addr) (w : World) (Q : Value → World → Prop) : wFn Try.prog Try.f17 W17_plan [.pointer x0] w Q = W17 x0 w Q := by kernel_rfl
set_option maxRecDepth 100000 in
theorem W17_ok (x0 : Option Addr) (w : World) (Q : Value → World → Prop) (h : W17 x0 w Q) : Calls Try.prog 17 #[.pointer x0] w (fun e w' => ∃ v, e = .returned v ∧ Q v w') :=
  calls_of_wFn mixed W17_plan Try.func17 (by kernel_rfl) ((W17_eq x0 w Q).mpr h)

/-! ### 18: (*hartix/proc.Table).Look -/
def W18_plan : Plan := (.n .z (.n (.cut [5, 6, 7, 8, 9, 10, 11, 12] [(12, .bool)] .z .z) .z))
def W18 (x0 : Option Addr) (x1 : Int) (w : World) (Q : Value → World → Prop) : Prop :=
newW #[.int .i64 0, .int .i64 0, .int .i64 0, .int .i64 0, .int .i64 0, .bool false, .int .i32 0] 28 w fun a1 w =>
∃ J2 : (Bool × Unit) → World → Prop, (∀ (_ : Env) (t3 : Bool × Unit) (w : World), J2 t3 w →
cond t3.1 (
∃ g4 : Array Value, bldP Try.prog 28 [] (.agg g4) ∧
stA 7 a1 g4 w fun w =>
∃ g5 : Array Value, g5.size = 7 ∧ RowAt w a1 g5 ∧
Q (.agg g5) w) (
Calls Try.prog 38 #[.pointer x0, .int .i64 x1] w fun e w =>
∃ p6 : Option Addr, e = .returned (.pointer p6) ∧
nlW p6 fun a7 =>
∃ g8 : Array Value, g8.size = 7 ∧ RowAt w a7 g8 ∧
stA 7 a1 g8 w fun w =>
∃ g9 : Array Value, g9.size = 7 ∧ RowAt w a1 g9 ∧
Q (.agg g9) w)) ∧
Calls Try.prog 35 #[.pointer x0] w fun e w =>
∃ b10 : Bool, e = .returned (.bool b10) ∧
cond b10 (
∃ t : Bool × Unit, ([.bool true] : List Value) = tv [(12, .bool)] t ∧ J2 t w) (
Calls Try.prog 38 #[.pointer x0, .int .i64 x1] w fun e w =>
∃ p11 : Option Addr, e = .returned (.pointer p11) ∧
∃ t : Bool × Unit, ([.bool p11.isNone] : List Value) = tv [(12, .bool)] t ∧ J2 t w)
set_option maxRecDepth 100000 in
theorem W18_eq (x0 : Option Addr) (x1 : Int) (w : World) (Q : Value → World → Prop) : wFn Try.prog Try.f18 W18_plan [.pointer x0, .int .i64 x1] w Q = W18 x0 x1 w Q := by kernel_rfl
set_option maxRecDepth 100000 in
theorem W18_ok (x0 : Option Addr) (x1 : Int) (w : World) (Q : Value → World → Prop) (h : W18 x0 x1 w Q) : Calls Try.prog 18 #[.pointer x0, .int .i64 x1] w (fun e w' => ∃ v, e = .returned v ∧ Q v w') :=
  calls_of_wFn mixed W18_plan Try.func18 (by kernel_rfl) ((W18_eq x0 x1 w Q).mpr h)

/-! ### 19: (*hartix/proc.Table).Pick -/
def W19_plan : Plan := (.n .z (.n .z (.cut [10, 11, 12, 13, 14, 15] [] .z .z)))
def W19 (x0 : Option Addr) (x1 : Int) (w : World) (Q : Value → World → Prop) : Prop :=
newW #[.pointer x0] 36 w fun a1 w =>
newW #[.int .i64 x1] 3 w fun a2 w =>
∃ p3 : Option Addr, w.cell? a1 = some (.pointer p3) ∧
Calls Try.prog 35 #[.pointer p3] w fun e w =>
∃ b4 : Bool, e = .returned (.bool b4) ∧
cond b4 (
Q (.tuple #[.int .i64 (-1 : Int), .bool false]) w) (
∃ J5 : (Unit) → World → Prop, (∀ (_ : Env) (t6 : Unit) (w : World), J5 t6 w →
Calls Try.prog 39 #[.func (.func 40) #[] #[.pointer (some a1), .pointer (some a2)]] w fun e w =>
∃ n7 : Int, ∃ b8 : Bool, e = .returned (.tuple #[.int .i64 n7, .bool b8]) ∧
cond (!b8) (
Q (.tuple #[.int .i64 (-1 : Int), .bool false]) w) (
∃ n9 : Int, w.cell? a2 = some (.int .i64 n9) ∧
((64 : Int) ≠ 0 ∧
Q (.tuple #[.int .i64 ((IntKind.i64.wrap ((IntKind.i64.wrap (n9 + (1 : Int))) + n7)).tmod (64 : Int)), .bool true]) w))) ∧
∃ n10 : Int, w.cell? a2 = some (.int .i64 n10) ∧
cond (decide (n10 < (0 : Int))) (
stC a2 (.int .i64 (63 : Int)) w fun w =>
∃ t : Unit, ([] : List Value) = tv [] t ∧ J5 t w) (
∃ n11 : Int, w.cell? a2 = some (.int .i64 n11) ∧
cond (decide (n11 ≥ (64 : Int))) (
stC a2 (.int .i64 (63 : Int)) w fun w =>
∃ t : Unit, ([] : List Value) = tv [] t ∧ J5 t w) (
∃ t : Unit, ([] : List Value) = tv [] t ∧ J5 t w)))
set_option maxRecDepth 100000 in
theorem W19_eq (x0 : Option Addr) (x1 : Int) (w : World) (Q : Value → World → Prop) : wFn Try.prog Try.f19 W19_plan [.pointer x0, .int .i64 x1] w Q = W19 x0 x1 w Q := by kernel_rfl
set_option maxRecDepth 100000 in
theorem W19_ok (x0 : Option Addr) (x1 : Int) (w : World) (Q : Value → World → Prop) (h : W19 x0 x1 w Q) : Calls Try.prog 19 #[.pointer x0, .int .i64 x1] w (fun e w' => ∃ v, e = .returned v ∧ Q v w') :=
  calls_of_wFn mixed W19_plan Try.func19 (by kernel_rfl) ((W19_eq x0 x1 w Q).mpr h)

/-! ### 20: (*hartix/proc.Table).End -/
def W20_plan : Plan := .z
def W20 (x0 : Option Addr) (x1 : Int) (x2 : Int) (w : World) (Q : Value → World → Prop) : Prop :=
newW #[.pointer x0] 36 w fun a1 w =>
∃ p2 : Option Addr, w.cell? a1 = some (.pointer p2) ∧
Calls Try.prog 35 #[.pointer p2] w fun e w =>
∃ b3 : Bool, e = .returned (.bool b3) ∧
cond b3 (
Q (.tuple #[.bool false, .int .i64 (3 : Int)]) w) (
∃ p4 : Option Addr, w.cell? a1 = some (.pointer p4) ∧
Calls Try.prog 38 #[.pointer p4, .int .i64 x1] w fun e w =>
∃ p5 : Option Addr, e = .returned (.pointer p5) ∧
cond p5.isNone (
Q (.tuple #[.bool false, .int .i64 (260 : Int)]) w) (
nlW p5 fun a6 =>
∃ n7 : Int, w.cell? (a6.add 1) = some (.int .i64 n7) ∧
cond (n7 == (3 : Int)) (
Q (.tuple #[.bool false, .int .i64 (265 : Int)]) w) (
Calls Try.prog 36 #[.pointer p5] w fun e w =>
e = .returned (.tuple #[]) ∧
nlW p5 fun a8 =>
stC (a8.add 1) (.int .i64 (3 : Int)) w fun w =>
nlW p5 fun a9 =>
stC (a9.add 6) (.int .i32 x2) w fun w =>
newW #[.bool false] 4 w fun a10 w =>
stC a10 (.bool false) w fun w =>
cond (x1 != (0 : Int)) (
∃ p11 : Option Addr, w.cell? a1 = some (.pointer p11) ∧
Calls Try.prog 41 #[.pointer p11, .int .i64 x1, .func (.func 42) #[] #[.pointer (some a1), .pointer (some a10)]] w fun e w =>
e = .returned (.tuple #[]) ∧
∃ b12 : Bool, w.cell? a10 = some (.bool b12) ∧
Q (.tuple #[.bool b12, .int .i64 (0 : Int)]) w) (
∃ b13 : Bool, w.cell? a10 = some (.bool b13) ∧
Q (.tuple #[.bool b13, .int .i64 (0 : Int)]) w))))
set_option maxRecDepth 100000 in
theorem W20_eq (x0 : Option Addr) (x1 : Int) (x2 : Int) (w : World) (Q : Value → World → Prop) : wFn Try.prog Try.f20 W20_plan [.pointer x0, .int .i64 x1, .int .i32 x2] w Q = W20 x0 x1 x2 w Q := by kernel_rfl
set_option maxRecDepth 100000 in
theorem W20_ok (x0 : Option Addr) (x1 : Int) (x2 : Int) (w : World) (Q : Value → World → Prop) (h : W20 x0 x1 x2 w Q) : Calls Try.prog 20 #[.pointer x0, .int .i64 x1, .int .i32 x2] w (fun e w' => ∃ v, e = .returned v ∧ Q v w') :=
  calls_of_wFn mixed W20_plan Try.func20 (by kernel_rfl) ((W20_eq x0 x1 x2 w Q).mpr h)

/-! ### 21: (*hartix/proc.Table).Free -/
def W21_plan : Plan := .z
def W21 (x0 : Option Addr) (x1 : Int) (w : World) (Q : Value → World → Prop) : Prop :=
Calls Try.prog 35 #[.pointer x0] w fun e w =>
∃ b1 : Bool, e = .returned (.bool b1) ∧
cond b1 (
Q (.int .i64 (3 : Int)) w) (
Calls Try.prog 38 #[.pointer x0, .int .i64 x1] w fun e w =>
∃ p2 : Option Addr, e = .returned (.pointer p2) ∧
cond p2.isNone (
Q (.int .i64 (260 : Int)) w) (
cond (x1 == (0 : Int)) (
Q (.int .i64 (260 : Int)) w) (
nlW p2 fun a3 =>
∃ n4 : Int, w.cell? (a3.add 1) = some (.int .i64 n4) ∧
cond (n4 != (3 : Int)) (
Q (.int .i64 (265 : Int)) w) (
∃ g5 : Array Value, bldP Try.prog 28 [] (.agg g5) ∧
nlW p2 fun a6 =>
stA 7 a6 g5 w fun w =>
Q (.int .i64 (0 : Int)) w))))
set_option maxRecDepth 100000 in
theorem W21_eq (x0 : Option Addr) (x1 : Int) (w : World) (Q : Value → World → Prop) : wFn Try.prog Try.f21 W21_plan [.pointer x0, .int .i64 x1] w Q = W21 x0 x1 w Q := by kernel_rfl
set_option maxRecDepth 100000 in
theorem W21_ok (x0 : Option Addr) (x1 : Int) (w : World) (Q : Value → World → Prop) (h : W21 x0 x1 w Q) : Calls Try.prog 21 #[.pointer x0, .int .i64 x1] w (fun e w' => ∃ v, e = .returned v ∧ Q v w') :=
  calls_of_wFn mixed W21_plan Try.func21 (by kernel_rfl) ((W21_eq x0 x1 w Q).mpr h)

/-! ### 22: (*hartix/proc.Table).Zombie -/
def W22_plan : Plan := (.n .z (.n .z (.n (.cut [6, 7, 8, 9, 10, 11, 12, 13] [(13, .bool)] .z .z) .z)))
def W22 (x0 : Option Addr) (x1 : Int) (w : World) (Q : Value → World → Prop) : Prop :=
newW #[.pointer x0] 36 w fun a1 w =>
newW #[.int .i64 0] 3 w fun a2 w =>
newW #[.bool false] 4 w fun a3 w =>
stC a2 (.int .i64 (-1 : Int)) w fun w =>
∃ J4 : (Bool × Unit) → World → Prop, (∀ (_ : Env) (t5 : Bool × Unit) (w : World), J4 t5 w →
cond t5.1 (
∃ n6 : Int, w.cell? a2 = some (.int .i64 n6) ∧
stC a2 (.int .i64 n6) w fun w =>
stC a3 (.bool false) w fun w =>
∃ n7 : Int, w.cell? a2 = some (.int .i64 n7) ∧
∃ b8 : Bool, w.cell? a3 = some (.bool b8) ∧
Q (.tuple #[.int .i64 n7, .bool b8]) w) (
∃ p9 : Option Addr, w.cell? a1 = some (.pointer p9) ∧
Calls Try.prog 41 #[.pointer p9, .int .i64 x1, .func (.func 43) #[] #[.pointer (some a3), .pointer (some a1), .pointer (some a2)]] w fun e w =>
e = .returned (.tuple #[]) ∧
∃ S10 : World → Prop, S10 w.drew ∧
∃ n11 : Int, (∀ w', S10 w' → w'.cell? a2 = some (.int .i64 n11)) ∧
∃ b12 : Bool, (∀ w', S10 w' → w'.cell? a3 = some (.bool b12)) ∧
stC a2 (.int .i64 n11) w.drew fun w =>
(S10 w ∧
stC a3 (.bool b12) w fun w =>
(S10 w ∧
∃ n13 : Int, w.cell? a2 = some (.int .i64 n13) ∧
∃ b14 : Bool, w.cell? a3 = some (.bool b14) ∧
Q (.tuple #[.int .i64 n13, .bool b14]) w)))) ∧
∃ p15 : Option Addr, w.cell? a1 = some (.pointer p15) ∧
Calls Try.prog 35 #[.pointer p15] w fun e w =>
∃ b16 : Bool, e = .returned (.bool b16) ∧
cond b16 (
∃ t : Bool × Unit, ([.bool true] : List Value) = tv [(13, .bool)] t ∧ J4 t w) (
∃ p17 : Option Addr, w.cell? a1 = some (.pointer p17) ∧
Calls Try.prog 38 #[.pointer p17, .int .i64 x1] w fun e w =>
∃ p18 : Option Addr, e = .returned (.pointer p18) ∧
∃ t : Bool × Unit, ([.bool p18.isNone] : List Value) = tv [(13, .bool)] t ∧ J4 t w)
set_option maxRecDepth 100000 in
theorem W22_eq (x0 : Option Addr) (x1 : Int) (w : World) (Q : Value → World → Prop) : wFn Try.prog Try.f22 W22_plan [.pointer x0, .int .i64 x1] w Q = W22 x0 x1 w Q := by kernel_rfl
set_option maxRecDepth 100000 in
theorem W22_ok (x0 : Option Addr) (x1 : Int) (w : World) (Q : Value → World → Prop) (h : W22 x0 x1 w Q) : Calls Try.prog 22 #[.pointer x0, .int .i64 x1] w (fun e w' => ∃ v, e = .returned v ∧ Q v w') :=
  calls_of_wFn mixed W22_plan Try.func22 (by kernel_rfl) ((W22_eq x0 x1 w Q).mpr h)

/-! ### 23: (*hartix/proc.Table).Kill -/
def W23_plan : Plan := (.n .z (.n .z (.n .z (.n .z (.n .z (.cut [22, 23, 24, 25, 26, 27, 28, 29] [] .z .z))))))
def W23 (x0 : Option Addr) (x1 : Int) (w : World) (Q : Value → World → Prop) : Prop :=
newW #[.pointer x0] 36 w fun a1 w =>
newW #[.int .i64 x1] 3 w fun a2 w =>
∃ p3 : Option Addr, w.cell? a1 = some (.pointer p3) ∧
Calls Try.prog 35 #[.pointer p3] w fun e w =>
∃ b4 : Bool, e = .returned (.bool b4) ∧
cond b4 (
Q (.int .i64 (3 : Int)) w) (
Calls Try.prog 39 #[.func (.func 44) #[] #[.pointer (some a1), .pointer (some a2)]] w fun e w =>
∃ n5 : Int, ∃ b6 : Bool, e = .returned (.tuple #[.int .i64 n5, .bool b6]) ∧
cond (!b6) (
Q (.int .i64 (266 : Int)) w) (
∃ p7 : Option Addr, w.cell? a1 = some (.pointer p7) ∧
nlW p7 fun a8 =>
((0 ≤ n5 ∧ n5 < ((64 : Nat) : Int)) ∧
∃ J9 : (Unit) → World → Prop, (∀ (_ : Env) (t10 : Unit) (w : World), J9 t10 w →
∃ n11 : Int, w.cell? ((a8.add (n5.toNat * 7)).add 1) = some (.int .i64 n11) ∧
cond (n11 == (2 : Int)) (
Calls Try.prog 36 #[.pointer (some (a8.add (n5.toNat * 7)))] w fun e w =>
e = .returned (.tuple #[]) ∧
Q (.int .i64 (0 : Int)) w) (
Q (.int .i64 (0 : Int)) w)) ∧
∃ n12 : Int, w.cell? ((a8.add (n5.toNat * 7)).add 1) = some (.int .i64 n12) ∧
cond (n12 != (3 : Int)) (
stC ((a8.add (n5.toNat * 7)).add 5) (.bool true) w fun w =>
∃ t : Unit, ([] : List Value) = tv [] t ∧ J9 t w) (
∃ t : Unit, ([] : List Value) = tv [] t ∧ J9 t w))))
set_option maxRecDepth 100000 in
theorem W23_eq (x0 : Option Addr) (x1 : Int) (w : World) (Q : Value → World → Prop) : wFn Try.prog Try.f23 W23_plan [.pointer x0, .int .i64 x1] w Q = W23 x0 x1 w Q := by kernel_rfl
set_option maxRecDepth 100000 in
theorem W23_ok (x0 : Option Addr) (x1 : Int) (w : World) (Q : Value → World → Prop) (h : W23 x0 x1 w Q) : Calls Try.prog 23 #[.pointer x0, .int .i64 x1] w (fun e w' => ∃ v, e = .returned v ∧ Q v w') :=
  calls_of_wFn mixed W23_plan Try.func23 (by kernel_rfl) ((W23_eq x0 x1 w Q).mpr h)

/-! ### 24: (*hartix/proc.Table).Add -/
def W24_plan : Plan := (.n .z (.n .z (.cut [1, 4, 5, 6, 7, 8, 9, 13, 14, 15, 16, 17, 18, 19, 20, 21, 22, 23, 24, 25, 26, 27, 28, 29, 30, 31] [(1, .int .i64)] (.n .z (.n .z (.n .z (.n .z (.cut [23, 24, 25, 26, 27, 28, 29, 30, 31] [(31, .bool)] .z .z))))) .z)))
def W24 (x0 : Option Addr) (x1 : Int) (w : World) (Q : Value → World → Prop) : Prop :=
newW #[.pointer x0] 36 w fun a1 w =>
∃ p2 : Option Addr, w.cell? a1 = some (.pointer p2) ∧
Calls Try.prog 35 #[.pointer p2] w fun e w =>
∃ b3 : Bool, e = .returned (.bool b3) ∧
cond b3 (
Q (.tuple #[.int .i64 (-1 : Int), .int .i64 (-1 : Int), .int .i64 (3 : Int)]) w) (
∃ J4 : (Int × Unit) → World → Prop, (∀ (_ : Env) (t5 : Int × Unit) (w : World), J4 t5 w →
∃ p6 : Option Addr, w.cell? a1 = some (.pointer p6) ∧
nlW p6 fun a7 =>
∃ n8 : Int, w.cell? (a7.add 448) = some (.int .i64 n8) ∧
cond (decide (n8 > (2147483647 : Int))) (
Q (.tuple #[.int .i64 (-1 : Int), .int .i64 (-1 : Int), .int .i64 (262 : Int)]) w) (
∃ p9 : Option Addr, w.cell? a1 = some (.pointer p9) ∧
nlW p9 fun a10 =>
Calls Try.prog 46 #[.pointer (some a10)] w fun e w =>
∃ n11 : Int, ∃ b12 : Bool, e = .returned (.tuple #[.int .i64 n11, .bool b12]) ∧
cond (!b12) (
Q (.tuple #[.int .i64 (-1 : Int), .int .i64 (-1 : Int), .int .i64 (263 : Int)]) w) (
∃ p13 : Option Addr, w.cell? a1 = some (.pointer p13) ∧
nlW p13 fun a14 =>
∃ n15 : Int, w.cell? (a14.add 448) = some (.int .i64 n15) ∧
∃ p16 : Option Addr, w.cell? a1 = some (.pointer p16) ∧
∃ g17 : Array Value, bldP Try.prog 28 [(0, .int .i64 n15), (1, .int .i64 (1 : Int)), (2, .int .i64 t5.1)] (.agg g17) ∧
nlW p16 fun a18 =>
((0 ≤ n11 ∧ n11 < ((64 : Nat) : Int)) ∧
stA 7 (a18.add (n11.toNat * 7)) g17 w fun w =>
∃ p19 : Option Addr, w.cell? a1 = some (.pointer p19) ∧
nlW p19 fun a20 =>
∃ n21 : Int, w.cell? (a20.add 448) = some (.int .i64 n21) ∧
nlW p19 fun a22 =>
stC (a22.add 448) (.int .i64 (IntKind.i64.wrap (n21 + (1 : Int)))) w fun w =>
Q (.tuple #[.int .i64 n11, .int .i64 n15, .int .i64 (0 : Int)]) w)))) ∧
Calls Try.prog 39 #[.func (.func 45) #[] #[.pointer (some a1)]] w fun e w =>
∃ n23 : Int, ∃ b24 : Bool, e = .returned (.tuple #[.int .i64 n23, .bool b24]) ∧
cond (!b24) (
∃ t : Int × Unit, ([.int .i64 (0 : Int)] : List Value) = tv [(1, .int .i64)] t ∧ J4 t w) (
∃ p25 : Option Addr, w.cell? a1 = some (.pointer p25) ∧
Calls Try.prog 38 #[.pointer p25, .int .i64 x1] w fun e w =>
∃ p26 : Option Addr, e = .returned (.pointer p26) ∧
∃ J27 : (Bool × Unit) → World → Prop, (∀ (_ : Env) (t28 : Bool × Unit) (w : World), J27 t28 w →
cond t28.1 (
Q (.tuple #[.int .i64 (-1 : Int), .int .i64 (-1 : Int), .int .i64 (261 : Int)]) w) (
∃ t : Int × Unit, ([.int .i64 x1] : List Value) = tv [(1, .int .i64)] t ∧ J4 t w)) ∧
cond p26.isNone (
∃ t : Bool × Unit, ([.bool true] : List Value) = tv [(31, .bool)] t ∧ J27 t w) (
nlW p26 fun a29 =>
∃ n30 : Int, w.cell? (a29.add 1) = some (.int .i64 n30) ∧
∃ t : Bool × Unit, ([.bool (n30 == (3 : Int))] : List Value) = tv [(31, .bool)] t ∧ J27 t w)))
set_option maxRecDepth 100000 in
theorem W24_eq (x0 : Option Addr) (x1 : Int) (w : World) (Q : Value → World → Prop) : wFn Try.prog Try.f24 W24_plan [.pointer x0, .int .i64 x1] w Q = W24 x0 x1 w Q := by kernel_rfl
set_option maxRecDepth 100000 in
theorem W24_ok (x0 : Option Addr) (x1 : Int) (w : World) (Q : Value → World → Prop) (h : W24 x0 x1 w Q) : Calls Try.prog 24 #[.pointer x0, .int .i64 x1] w (fun e w' => ∃ v, e = .returned v ∧ Q v w') :=
  calls_of_wFn mixed W24_plan Try.func24 (by kernel_rfl) ((W24_eq x0 x1 w Q).mpr h)

/-! ### 25: (*hartix/proc.Table).Sleep -/
def W25_plan : Plan := (.n .z (.n .z (.n .z (.n (.n .z (.n .z (.cut [16, 17, 18, 19, 20, 21, 22, 23, 24, 25, 26, 27] [(16, .bool)] .z .z))) .z))))
def W25 (x0 : Option Addr) (x1 : Int) (x2 : Array Value) (w : World) (Q : Value → World → Prop) : Prop :=
newW x2 26 w fun a1 w =>
Calls Try.prog 35 #[.pointer x0] w fun e w =>
∃ b2 : Bool, e = .returned (.bool b2) ∧
cond b2 (
Q (.int .i64 (3 : Int)) w) (
Calls Try.prog 38 #[.pointer x0, .int .i64 x1] w fun e w =>
∃ p3 : Option Addr, e = .returned (.pointer p3) ∧
cond p3.isNone (
Q (.int .i64 (260 : Int)) w) (
∃ J4 : (Bool × Unit) → World → Prop, (∀ (_ : Env) (t5 : Bool × Unit) (w : World), J4 t5 w →
cond t5.1 (
Q (.int .i64 (265 : Int)) w) (
∃ g6 : Array Value, g6.size = 2 ∧ RowAt w a1 g6 ∧
Calls Try.prog 47 #[.agg g6] w fun e w =>
∃ b7 : Bool, e = .returned (.bool b7) ∧
cond (!b7) (
Q (.int .i64 (264 : Int)) w) (
∃ S8 : World → Prop, S8 w.drew ∧
∃ g9 : Array Value, g9.size = 2 ∧ (∀ w', S8 w' → RowAt w' a1 g9) ∧
nlW p3 fun a10 =>
stC (a10.add 1) (.int .i64 (2 : Int)) w.drew fun w =>
(S8 w ∧
nlW p3 fun a11 =>
stA 2 (a11.add 3) g9 w fun w =>
(S8 w ∧
Q (.int .i64 (0 : Int)) w))))) ∧
nlW p3 fun a12 =>
∃ n13 : Int, w.cell? (a12.add 1) = some (.int .i64 n13) ∧
cond (n13 != (1 : Int)) (
∃ t : Bool × Unit, ([.bool true] : List Value) = tv [(16, .bool)] t ∧ J4 t w) (
nlW p3 fun a14 =>
∃ b15 : Bool, w.cell? (a14.add 5) = some (.bool b15) ∧
∃ t : Bool × Unit, ([.bool b15] : List Value) = tv [(16, .bool)] t ∧ J4 t w)))
set_option maxRecDepth 100000 in
theorem W25_eq (x0 : Option Addr) (x1 : Int) (x2 : Array Value) (w : World) (Q : Value → World → Prop) : wFn Try.prog Try.f25 W25_plan [.pointer x0, .int .i64 x1, .agg x2] w Q = W25 x0 x1 x2 w Q := by kernel_rfl
set_option maxRecDepth 100000 in
theorem W25_ok (x0 : Option Addr) (x1 : Int) (x2 : Array Value) (w : World) (Q : Value → World → Prop) (h : W25 x0 x1 x2 w Q) : Calls Try.prog 25 #[.pointer x0, .int .i64 x1, .agg x2] w (fun e w' => ∃ v, e = .returned v ∧ Q v w') :=
  calls_of_wFn mixed W25_plan Try.func25 (by kernel_rfl) ((W25_eq x0 x1 x2 w Q).mpr h)

/-! ### 26: (*hartix/proc.Table).WakeOne -/
def W26_plan : Plan := .z
def W26 (x0 : Option Addr) (x1 : Int) (w : World) (Q : Value → World → Prop) : Prop :=
Calls Try.prog 35 #[.pointer x0] w fun e w =>
∃ b1 : Bool, e = .returned (.bool b1) ∧
cond b1 (
Q (.int .i64 (3 : Int)) w) (
Calls Try.prog 38 #[.pointer x0, .int .i64 x1] w fun e w =>
∃ p2 : Option Addr, e = .returned (.pointer p2) ∧
cond p2.isNone (
Q (.int .i64 (260 : Int)) w) (
nlW p2 fun a3 =>
∃ n4 : Int, w.cell? (a3.add 1) = some (.int .i64 n4) ∧
cond (n4 != (2 : Int)) (
Q (.int .i64 (265 : Int)) w) (
Calls Try.prog 36 #[.pointer p2] w fun e w =>
e = .returned (.tuple #[]) ∧
Q (.int .i64 (0 : Int)) w)))
set_option maxRecDepth 100000 in
theorem W26_eq (x0 : Option Addr) (x1 : Int) (w : World) (Q : Value → World → Prop) : wFn Try.prog Try.f26 W26_plan [.pointer x0, .int .i64 x1] w Q = W26 x0 x1 w Q := by kernel_rfl
set_option maxRecDepth 100000 in
theorem W26_ok (x0 : Option Addr) (x1 : Int) (w : World) (Q : Value → World → Prop) (h : W26 x0 x1 w Q) : Calls Try.prog 26 #[.pointer x0, .int .i64 x1] w (fun e w' => ∃ v, e = .returned v ∧ Q v w') :=
  calls_of_wFn mixed W26_plan Try.func26 (by kernel_rfl) ((W26_eq x0 x1 w Q).mpr h)

/-! ### 27: (*hartix/proc.Table).Room -/
def W27_plan : Plan := .z
def W27 (x0 : Option Addr) (w : World) (Q : Value → World → Prop) : Prop :=
Calls Try.prog 35 #[.pointer x0] w fun e w =>
∃ b1 : Bool, e = .returned (.bool b1) ∧
cond b1 (
Q (.bool false) w) (
nlW x0 fun a2 =>
Calls Try.prog 46 #[.pointer (some a2)] w fun e w =>
∃ n3 : Int, ∃ b4 : Bool, e = .returned (.tuple #[.int .i64 n3, .bool b4]) ∧
cond b4 (
nlW x0 fun a5 =>
∃ n6 : Int, w.cell? (a5.add 448) = some (.int .i64 n6) ∧
Q (.bool (decide (n6 ≤ (2147483647 : Int)))) w) (
Q (.bool false) w))
set_option maxRecDepth 100000 in
theorem W27_eq (x0 : Option Addr) (w : World) (Q : Value → World → Prop) : wFn Try.prog Try.f27 W27_plan [.pointer x0] w Q = W27 x0 w Q := by kernel_rfl
set_option maxRecDepth 100000 in
theorem W27_ok (x0 : Option Addr) (w : World) (Q : Value → World → Prop) (h : W27 x0 w Q) : Calls Try.prog 27 #[.pointer x0] w (fun e w' => ∃ v, e = .returned v ∧ Q v w') :=
  calls_of_wFn mixed W27_plan Try.func27 (by kernel_rfl) ((W27_eq x0 w Q).mpr h)

/-! ### 28: (*hartix/hartixlaw13.Pair).step -/
def W28_plan : Plan := .z
def W28 (x0 : Option Addr) (x1 : Array Value) (w : World) (Q : Value → World → Prop) : Prop :=
newW x1 46 w fun a1 w =>
∃ n2 : Int, w.cell? a1 = some (.int .i64 n2) ∧
cond (n2 == (1 : Int)) (
∃ S3 : World → Prop, S3 w.drew ∧
nlW x0 fun a4 =>
∃ p5 : Option Addr, (∀ w', S3 w' → w'.cell? a4 = some (.pointer p5)) ∧
∃ n6 : Int, (∀ w', S3 w' → w'.cell? (a1.add 1) = some (.int .i64 n6)) ∧
Calls Try.prog 24 #[.pointer p5, .int .i64 n6] w.drew fun e w =>
∃ n7 : Int, ∃ n8 : Int, ∃ n9 : Int, e = .returned (.tuple #[.int .i64 n7, .int .i64 n8, .int .i64 n9]) ∧
(S3 w ∧
∃ S10 : World → Prop, S10 w.drew ∧
nlW x0 fun a11 =>
∃ p12 : Option Addr, (∀ w', S10 w' → w'.cell? (a11.add 1) = some (.pointer p12)) ∧
∃ n13 : Int, (∀ w', S10 w' → w'.cell? (a1.add 1) = some (.int .i64 n13)) ∧
Calls Try.prog 48 #[.pointer p12, .int .i64 n13] w.drew fun e w =>
∃ n14 : Int, ∃ n15 : Int, ∃ n16 : Int, e = .returned (.tuple #[.int .i64 n14, .int .i64 n15, .int .i64 n16]) ∧
(S10 w ∧
cond (n7 == n14) (
cond (n8 == n15) (
Q (.bool (n9 == n16)) w) (
Q (.bool false) w)) (
Q (.bool false) w)))) (
cond (n2 == (2 : Int)) (
∃ S17 : World → Prop, S17 w.drew ∧
nlW x0 fun a18 =>
∃ p19 : Option Addr, (∀ w', S17 w' → w'.cell? a18 = some (.pointer p19)) ∧
∃ n20 : Int, (∀ w', S17 w' → w'.cell? (a1.add 1) = some (.int .i64 n20)) ∧
Calls Try.prog 19 #[.pointer p19, .int .i64 n20] w.drew fun e w =>
∃ n21 : Int, ∃ b22 : Bool, e = .returned (.tuple #[.int .i64 n21, .bool b22]) ∧
(S17 w ∧
∃ S23 : World → Prop, S23 w.drew ∧
nlW x0 fun a24 =>
∃ p25 : Option Addr, (∀ w', S23 w' → w'.cell? (a24.add 1) = some (.pointer p25)) ∧
∃ n26 : Int, (∀ w', S23 w' → w'.cell? (a1.add 1) = some (.int .i64 n26)) ∧
Calls Try.prog 49 #[.pointer p25, .int .i64 n26] w.drew fun e w =>
∃ n27 : Int, ∃ b28 : Bool, e = .returned (.tuple #[.int .i64 n27, .bool b28]) ∧
(S23 w ∧
cond (n21 == n27) (
Q (.bool (b22 == b28)) w) (
Q (.bool false) w)))) (
cond (n2 == (3 : Int)) (
∃ S29 : World → Prop, S29 w.drew ∧
nlW x0 fun a30 =>
∃ p31 : Option Addr, (∀ w', S29 w' → w'.cell? a30 = some (.pointer p31)) ∧
∃ n32 : Int, (∀ w', S29 w' → w'.cell? (a1.add 1) = some (.int .i64 n32)) ∧
∃ g33 : Array Value, g33.size = 2 ∧ (∀ w', S29 w' → RowAt w' (a1.add 2) g33) ∧
nlW x0 fun a34 =>
∃ p35 : Option Addr, (∀ w', S29 w' → w'.cell? (a34.add 1) = some (.pointer p35)) ∧
∃ n36 : Int, (∀ w', S29 w' → w'.cell? (a1.add 1) = some (.int .i64 n36)) ∧
∃ g37 : Array Value, g37.size = 2 ∧ (∀ w', S29 w' → RowAt w' (a1.add 2) g37) ∧
Calls Try.prog 25 #[.pointer p31, .int .i64 n32, .agg g33] w.drew fun e w =>
∃ n38 : Int, e = .returned (.int .i64 n38) ∧
(S29 w ∧
Calls Try.prog 50 #[.pointer p35, .int .i64 n36, .agg g37] w fun e w =>
∃ n39 : Int, e = .returned (.int .i64 n39) ∧
(S29 w ∧
Q (.bool (n38 == n39)) w))) (
cond (n2 == (4 : Int)) (
∃ S40 : World → Prop, S40 w.drew ∧
nlW x0 fun a41 =>
∃ p42 : Option Addr, (∀ w', S40 w' → w'.cell? a41 = some (.pointer p42)) ∧
∃ g43 : Array Value, g43.size = 2 ∧ (∀ w', S40 w' → RowAt w' (a1.add 2) g43) ∧
nlW x0 fun a44 =>
∃ p45 : Option Addr, (∀ w', S40 w' → w'.cell? (a44.add 1) = some (.pointer p45)) ∧
∃ g46 : Array Value, g46.size = 2 ∧ (∀ w', S40 w' → RowAt w' (a1.add 2) g46) ∧
Calls Try.prog 16 #[.pointer p42, .agg g43] w.drew fun e w =>
∃ n47 : Int, e = .returned (.int .i64 n47) ∧
(S40 w ∧
Calls Try.prog 51 #[.pointer p45, .agg g46] w fun e w =>
∃ n48 : Int, e = .returned (.int .i64 n48) ∧
(S40 w ∧
Q (.bool (n47 == n48)) w))) (
cond (n2 == (5 : Int)) (
∃ S49 : World → Prop, S49 w.drew ∧
nlW x0 fun a50 =>
∃ p51 : Option Addr, (∀ w', S49 w' → w'.cell? a50 = some (.pointer p51)) ∧
∃ n52 : Int, (∀ w', S49 w' → w'.cell? (a1.add 1) = some (.int .i64 n52)) ∧
nlW x0 fun a53 =>
∃ p54 : Option Addr, (∀ w', S49 w' → w'.cell? (a53.add 1) = some (.pointer p54)) ∧
∃ n55 : Int, (∀ w', S49 w' → w'.cell? (a1.add 1) = some (.int .i64 n55)) ∧
Calls Try.prog 26 #[.pointer p51, .int .i64 n52] w.drew fun e w =>
∃ n56 : Int, e = .returned (.int .i64 n56) ∧
(S49 w ∧
Calls Try.prog 52 #[.pointer p54, .int .i64 n55] w fun e w =>
∃ n57 : Int, e = .returned (.int .i64 n57) ∧
(S49 w ∧
Q (.bool (n56 == n57)) w))) (
cond (n2 == (6 : Int)) (
∃ S58 : World → Prop, S58 w.drew ∧
nlW x0 fun a59 =>
∃ p60 : Option Addr, (∀ w', S58 w' → w'.cell? a59 = some (.pointer p60)) ∧
∃ n61 : Int, (∀ w', S58 w' → w'.cell? (a1.add 1) = some (.int .i64 n61)) ∧
nlW x0 fun a62 =>
∃ p63 : Option Addr, (∀ w', S58 w' → w'.cell? (a62.add 1) = some (.pointer p63)) ∧
∃ n64 : Int, (∀ w', S58 w' → w'.cell? (a1.add 1) = some (.int .i64 n64)) ∧
Calls Try.prog 23 #[.pointer p60, .int .i64 n61] w.drew fun e w =>
∃ n65 : Int, e = .returned (.int .i64 n65) ∧
(S58 w ∧
Calls Try.prog 53 #[.pointer p63, .int .i64 n64] w fun e w =>
∃ n66 : Int, e = .returned (.int .i64 n66) ∧
(S58 w ∧
Q (.bool (n65 == n66)) w))) (
cond (n2 == (7 : Int)) (
∃ S67 : World → Prop, S67 w.drew ∧
nlW x0 fun a68 =>
∃ p69 : Option Addr, (∀ w', S67 w' → w'.cell? a68 = some (.pointer p69)) ∧
∃ n70 : Int, (∀ w', S67 w' → w'.cell? (a1.add 1) = some (.int .i64 n70)) ∧
∃ n71 : Int, (∀ w', S67 w' → w'.cell? (a1.add 4) = some (.int .i32 n71)) ∧
Calls Try.prog 20 #[.pointer p69, .int .i64 n70, .int .i32 n71] w.drew fun e w =>
∃ b72 : Bool, ∃ n73 : Int, e = .returned (.tuple #[.bool b72, .int .i64 n73]) ∧
(S67 w ∧
∃ S74 : World → Prop, S74 w.drew ∧
nlW x0 fun a75 =>
∃ p76 : Option Addr, (∀ w', S74 w' → w'.cell? (a75.add 1) = some (.pointer p76)) ∧
∃ n77 : Int, (∀ w', S74 w' → w'.cell? (a1.add 1) = some (.int .i64 n77)) ∧
∃ n78 : Int, (∀ w', S74 w' → w'.cell? (a1.add 4) = some (.int .i32 n78)) ∧
Calls Try.prog 54 #[.pointer p76, .int .i64 n77, .int .i32 n78] w.drew fun e w =>
∃ b79 : Bool, ∃ n80 : Int, e = .returned (.tuple #[.bool b79, .int .i64 n80]) ∧
(S74 w ∧
cond (b72 == b79) (
Q (.bool (n73 == n80)) w) (
Q (.bool false) w)))) (
cond (n2 == (8 : Int)) (
∃ S81 : World → Prop, S81 w.drew ∧
nlW x0 fun a82 =>
∃ p83 : Option Addr, (∀ w', S81 w' → w'.cell? a82 = some (.pointer p83)) ∧
∃ n84 : Int, (∀ w', S81 w' → w'.cell? (a1.add 1) = some (.int .i64 n84)) ∧
Calls Try.prog 22 #[.pointer p83, .int .i64 n84] w.drew fun e w =>
∃ n85 : Int, ∃ b86 : Bool, e = .returned (.tuple #[.int .i64 n85, .bool b86]) ∧
(S81 w ∧
∃ S87 : World → Prop, S87 w.drew ∧
nlW x0 fun a88 =>
∃ p89 : Option Addr, (∀ w', S87 w' → w'.cell? (a88.add 1) = some (.pointer p89)) ∧
∃ n90 : Int, (∀ w', S87 w' → w'.cell? (a1.add 1) = some (.int .i64 n90)) ∧
Calls Try.prog 55 #[.pointer p89, .int .i64 n90] w.drew fun e w =>
∃ n91 : Int, ∃ b92 : Bool, e = .returned (.tuple #[.int .i64 n91, .bool b92]) ∧
(S87 w ∧
cond (n85 == n91) (
Q (.bool (b86 == b92)) w) (
Q (.bool false) w)))) (
cond (n2 == (9 : Int)) (
∃ S93 : World → Prop, S93 w.drew ∧
nlW x0 fun a94 =>
∃ p95 : Option Addr, (∀ w', S93 w' → w'.cell? a94 = some (.pointer p95)) ∧
∃ n96 : Int, (∀ w', S93 w' → w'.cell? (a1.add 1) = some (.int .i64 n96)) ∧
nlW x0 fun a97 =>
∃ p98 : Option Addr, (∀ w', S93 w' → w'.cell? (a97.add 1) = some (.pointer p98)) ∧
∃ n99 : Int, (∀ w', S93 w' → w'.cell? (a1.add 1) = some (.int .i64 n99)) ∧
Calls Try.prog 21 #[.pointer p95, .int .i64 n96] w.drew fun e w =>
∃ n100 : Int, e = .returned (.int .i64 n100) ∧
(S93 w ∧
Calls Try.prog 56 #[.pointer p98, .int .i64 n99] w fun e w =>
∃ n101 : Int, e = .returned (.int .i64 n101) ∧
(S93 w ∧
Q (.bool (n100 == n101)) w))) (
cond (n2 == (10 : Int)) (
∃ S102 : World → Prop, S102 w.drew ∧
nlW x0 fun a103 =>
∃ p104 : Option Addr, (∀ w', S102 w' → w'.cell? a103 = some (.pointer p104)) ∧
∃ n105 : Int, (∀ w', S102 w' → w'.cell? (a1.add 1) = some (.int .i64 n105)) ∧
nlW x0 fun a106 =>
∃ p107 : Option Addr, (∀ w', S102 w' → w'.cell? (a106.add 1) = some (.pointer p107)) ∧
∃ n108 : Int, (∀ w', S102 w' → w'.cell? (a1.add 1) = some (.int .i64 n108)) ∧
Calls Try.prog 18 #[.pointer p104, .int .i64 n105] w.drew fun e w =>
∃ g109 : Array Value, e = .returned (.agg g109) ∧
(S102 w ∧
Calls Try.prog 57 #[.pointer p107, .int .i64 n108] w fun e w =>
∃ g110 : Array Value, e = .returned (.agg g110) ∧
(S102 w ∧
∃ b111 : Bool, AggEq Try.prog 28 g109 g110 b111 ∧
cond b111 (
nlW x0 fun a112 =>
∃ p113 : Option Addr, (∀ w', S102 w' → w'.cell? a112 = some (.pointer p113)) ∧
nlW x0 fun a114 =>
∃ p115 : Option Addr, (∀ w', S102 w' → w'.cell? (a114.add 1) = some (.pointer p115)) ∧
Calls Try.prog 27 #[.pointer p113] w fun e w =>
∃ b116 : Bool, e = .returned (.bool b116) ∧
(S102 w ∧
Calls Try.prog 58 #[.pointer p115] w fun e w =>
∃ b117 : Bool, e = .returned (.bool b117) ∧
(S102 w ∧
Q (.bool (b116 == b117)) w))) (
(S102 w ∧
(S102 w ∧
Q (.bool false) w)))))) (
cond (n2 == (11 : Int)) (
nlW x0 fun a118 =>
∃ p119 : Option Addr, w.cell? a118 = some (.pointer p119) ∧
Calls Try.prog 13 #[.pointer p119] w fun e w =>
∃ g120 : Array Value, e = .returned (.agg g120) ∧
Calls Try.prog 31 #[.agg g120] w fun e w =>
∃ p121 : Option Addr, ∃ v122 : Value, e = .returned (.tuple #[.pointer p121, v122]) ∧
cond p121.isNone (
Q (.bool false) w) (
∃ b123 : Bool, isNilI v122 = some b123 ∧
cond (!b123) (
Q (.bool false) w) (
nlW x0 fun a124 =>
stC a124 (.pointer p121) w fun w =>
Q (.bool true) w))) (
Q (.bool true) w)))))))))))
set_option maxRecDepth 100000 in
theorem W28_eq (x0 : Option Addr) (x1 : Array Value) (w : World) (Q : Value → World → Prop) : wFn Try.prog Try.f28 W28_plan [.pointer x0, .agg x1] w Q = W28 x0 x1 w Q := by kernel_rfl
set_option maxRecDepth 100000 in
theorem W28_ok (x0 : Option Addr) (x1 : Array Value) (w : World) (Q : Value → World → Prop) (h : W28 x0 x1 w Q) : Calls Try.prog 28 #[.pointer x0, .agg x1] w (fun e w' => ∃ v, e = .returned v ∧ Q v w') :=
  calls_of_wFn mixed W28_plan Try.func28 (by kernel_rfl) ((W28_eq x0 x1 w Q).mpr h)

/-! ### 29: (*hartix/hartixref13.Table).State -/
def W29_plan : Plan := .z
def W29 (x0 : Option Addr) (w : World) (Q : Value → World → Prop) : Prop :=
newW (zc Try.prog 31) 31 w fun a1 w =>
Calls Try.prog 59 #[.pointer x0] w fun e w =>
∃ b2 : Bool, e = .returned (.bool b2) ∧
cond b2 (
∃ g3 : Array Value, bldP Try.prog 31 [] (.agg g3) ∧
stA 449 a1 g3 w fun w =>
∃ g4 : Array Value, g4.size = 449 ∧ RowAt w a1 g4 ∧
Q (.agg g4) w) (
∃ S5 : World → Prop, S5 w.drew ∧
nlW x0 fun a6 =>
∃ g7 : Array Value, g7.size = 448 ∧ (∀ w', S5 w' → RowAt w' a6 g7) ∧
nlW x0 fun a8 =>
∃ n9 : Int, (∀ w', S5 w' → w'.cell? (a8.add 448) = some (.int .i64 n9)) ∧
∃ g10 : Array Value, bldP Try.prog 31 [(0, .agg g7), (1, .int .i64 n9)] (.agg g10) ∧
stA 449 a1 g10 w.drew fun w =>
(S5 w ∧
∃ g11 : Array Value, g11.size = 449 ∧ RowAt w a1 g11 ∧
Q (.agg g11) w))
set_option maxRecDepth 100000 in
theorem W29_eq (x0 : Option Addr) (w : World) (Q : Value → World → Prop) : wFn Try.prog Try.f29 W29_plan [.pointer x0] w Q = W29 x0 w Q := by kernel_rfl
set_option maxRecDepth 100000 in
theorem W29_ok (x0 : Option Addr) (w : World) (Q : Value → World → Prop) (h : W29 x0 w Q) : Calls Try.prog 29 #[.pointer x0] w (fun e w' => ∃ v, e = .returned v ∧ Q v w') :=
  calls_of_wFn mixed W29_plan Try.func29 (by kernel_rfl) ((W29_eq x0 w Q).mpr h)

/-! ### 30: hartix/hartixref13.New -/
def W30_plan : Plan := .z
def W30  (w : World) (Q : Value → World → Prop) : Prop :=
∃ g1 : Array Value, bldP Try.prog 102 [(1, .int .i64 (1 : Int))] (.agg g1) ∧
newW g1 102 w fun a2 w =>
Q (.pointer (some a2)) w
set_option maxRecDepth 100000 in
theorem W30_eq  (w : World) (Q : Value → World → Prop) : wFn Try.prog Try.f30 W30_plan [] w Q = W30  w Q := by kernel_rfl
set_option maxRecDepth 100000 in
theorem W30_ok  (w : World) (Q : Value → World → Prop) (h : W30  w Q) : Calls Try.prog 30 #[] w (fun e w' => ∃ v, e = .returned v ∧ Q v w') :=
  calls_of_wFn mixed W30_plan Try.func30 (by kernel_rfl) ((W30_eq  w Q).mpr h)

/-! ### 31: hartix/proc.From -/
def W31_plan : Plan := (.n .z (.n .z (.n .z (.n (.cut [14, 15, 16, 17, 18, 19, 20, 21, 22, 23, 24, 25, 26, 27, 28] [(28, .bool)] .z .z) .z))))
def W31 (x0 : Array Value) (w : World) (Q : Value → World → Prop) : Prop :=
newW x0 31 w fun a1 w =>
Calls Try.prog 39 #[.func (.func 61) #[] #[.pointer (some a1)]] w fun e w =>
∃ n2 : Int, ∃ b3 : Bool, e = .returned (.tuple #[.int .i64 n2, .bool b3]) ∧
newW #[.bool false] 4 w fun a4 w =>
stC a4 (.bool b3) w fun w =>
∃ J5 : (Bool × Unit) → World → Prop, (∀ (_ : Env) (t6 : Bool × Unit) (w : World), J5 t6 w →
cond t6.1 (
Calls Try.prog 60 #[.int .i64 (64 : Int)] w fun e w =>
∃ p7 : Option Addr, ∃ v8 : Value, e = .returned (.tuple #[.pointer p7, v8]) ∧
Q (.tuple #[.pointer p7, v8]) w) (
Calls Try.prog 39 #[.func (.func 62) #[] #[.pointer (some a1), .pointer (some a4)]] w fun e w =>
∃ n9 : Int, ∃ b10 : Bool, e = .returned (.tuple #[.int .i64 n9, .bool b10]) ∧
cond b10 (
Calls Try.prog 60 #[.int .i64 n9] w fun e w =>
∃ p11 : Option Addr, ∃ v12 : Value, e = .returned (.tuple #[.pointer p11, v12]) ∧
Q (.tuple #[.pointer p11, v12]) w) (
∃ g13 : Array Value, g13.size = 448 ∧ RowAt w a1 g13 ∧
∃ n14 : Int, w.cell? (a1.add 448) = some (.int .i64 n14) ∧
∃ g15 : Array Value, bldP Try.prog 63 [(0, .agg g13), (1, .int .i64 n14)] (.agg g15) ∧
newW g15 63 w fun a16 w =>
Q (.tuple #[.pointer (some a16), .nilIface]) w))) ∧
∃ n17 : Int, w.cell? (a1.add 448) = some (.int .i64 n17) ∧
cond (decide (n17 < (1 : Int))) (
∃ t : Bool × Unit, ([.bool true] : List Value) = tv [(28, .bool)] t ∧ J5 t w) (
∃ n18 : Int, w.cell? (a1.add 448) = some (.int .i64 n18) ∧
cond (decide (n18 > (2147483648 : Int))) (
∃ t : Bool × Unit, ([.bool true] : List Value) = tv [(28, .bool)] t ∧ J5 t w) (
∃ n19 : Int, w.cell? (a1.add 448) = some (.int .i64 n19) ∧
∃ b20 : Bool, w.cell? a4 = some (.bool b20) ∧
∃ t : Bool × Unit, ([.bool ((n19 == (1 : Int)) == b20)] : List Value) = tv [(28, .bool)] t ∧ J5 t w))
set_option maxRecDepth 100000 in
theorem W31_eq (x0 : Array Value) (w : World) (Q : Value → World → Prop) : wFn Try.prog Try.f31 W31_plan [.agg x0] w Q = W31 x0 w Q := by kernel_rfl
set_option maxRecDepth 100000 in
theorem W31_ok (x0 : Array Value) (w : World) (Q : Value → World → Prop) (h : W31 x0 w Q) : Calls Try.prog 31 #[.agg x0] w (fun e w' => ∃ v, e = .returned v ∧ Q v w') :=
  calls_of_wFn mixed W31_plan Try.func31 (by kernel_rfl) ((W31_eq x0 w Q).mpr h)

/-! ### 32: hartix/hartixref13.From -/
def W32_plan : Plan := (.n .z (.n .z (.n (.n .z (.cut [4, 5, 8, 9, 10, 11, 12, 13, 14, 15, 16, 17, 18, 19, 20] [(4, .bool), (5, .int .i64)] .z .z)) (.n (.cut [21, 22, 23, 24, 25, 26, 27, 28, 29, 30, 31, 32, 33, 34, 35] [(35, .bool)] .z .z) (.n (.n .z (.cut [2, 3, 6, 7, 36, 37, 38, 39, 40, 41, 42, 43, 44, 45, 46] [(6, .int .i64)] .z .z)) .z)))))
def W32 (x0 : Array Value) (w : World) (Q : Value → World → Prop) : Prop :=
newW x0 31 w fun a1 w =>
∃ (I2 : (Bool × Int × Unit) → World → Prop) (m3 : (Bool × Int × Unit) → World → Nat), (∃ t : Bool × Int × Unit, ([.bool false, .int .i64 (0 : Int)] : List Value) = tv [(4, .bool), (5, .int .i64)] t ∧ I2 t w) ∧
∀ (_ : Env) (t4 : Bool × Int × Unit) (w5 : World), I2 t4 w5 →
(fun w : World =>
cond (decide (t4.2.1 < (64 : Int))) (
cond t4.1 (
∃ t' : Bool × Int × Unit, ([.bool true, .int .i64 (IntKind.i64.wrap (t4.2.1 + (1 : Int)))] : List Value) = tv [(4, .bool), (5, .int .i64)] t' ∧ I2 t' w ∧ m3 t' w < m3 t4 w5) (
((0 ≤ t4.2.1 ∧ t4.2.1 < ((64 : Nat) : Int)) ∧
∃ n6 : Int, w.cell? ((a1.add (t4.2.1.toNat * 7)).add 1) = some (.int .i64 n6) ∧
∃ t' : Bool × Int × Unit, ([.bool (n6 != (0 : Int)), .int .i64 (IntKind.i64.wrap (t4.2.1 + (1 : Int)))] : List Value) = tv [(4, .bool), (5, .int .i64)] t' ∧ I2 t' w ∧ m3 t' w < m3 t4 w5))) (
∃ J7 : (Bool × Unit) → World → Prop, (∀ (_ : Env) (t8 : Bool × Unit) (w : World), J7 t8 w →
cond t8.1 (
Q (.tuple #[.pointer none, .int .i64 (64 : Int)]) w) (
∃ (I9 : (Int × Unit) → World → Prop) (m10 : (Int × Unit) → World → Nat), (∃ t : Int × Unit, ([.int .i64 (0 : Int)] : List Value) = tv [(6, .int .i64)] t ∧ I9 t w) ∧
∀ (_ : Env) (t11 : Int × Unit) (w12 : World), I9 t11 w12 →
(fun w : World =>
cond (decide (t11.1 < (64 : Int))) (
∃ g13 : Array Value, g13.size = 449 ∧ RowAt w a1 g13 ∧
Calls Try.prog 64 #[.agg g13, .int .i64 t11.1, .bool t4.1] w fun e w =>
∃ b14 : Bool, e = .returned (.bool b14) ∧
cond (!b14) (
Q (.tuple #[.pointer none, .int .i64 t11.1]) w) (
∃ t' : Int × Unit, ([.int .i64 (IntKind.i64.wrap (t11.1 + (1 : Int)))] : List Value) = tv [(6, .int .i64)] t' ∧ I9 t' w ∧ m10 t' w < m10 t11 w12)) (
∃ g15 : Array Value, g15.size = 448 ∧ RowAt w a1 g15 ∧
∃ n16 : Int, w.cell? (a1.add 448) = some (.int .i64 n16) ∧
∃ g17 : Array Value, bldP Try.prog 102 [(0, .agg g15), (1, .int .i64 n16)] (.agg g17) ∧
newW g17 102 w fun a18 w =>
Q (.tuple #[.pointer (some a18), .int .i64 (-1 : Int)]) w)) w12)) ∧
∃ n19 : Int, w.cell? (a1.add 448) = some (.int .i64 n19) ∧
cond (decide (n19 < (1 : Int))) (
∃ t : Bool × Unit, ([.bool true] : List Value) = tv [(35, .bool)] t ∧ J7 t w) (
∃ n20 : Int, w.cell? (a1.add 448) = some (.int .i64 n20) ∧
cond (decide (n20 > (2147483648 : Int))) (
∃ t : Bool × Unit, ([.bool true] : List Value) = tv [(35, .bool)] t ∧ J7 t w) (
∃ n21 : Int, w.cell? (a1.add 448) = some (.int .i64 n21) ∧
∃ t : Bool × Unit, ([.bool ((n21 == (1 : Int)) == t4.1)] : List Value) = tv [(35, .bool)] t ∧ J7 t w)))) w5
set_option maxRecDepth 100000 in
theorem W32_eq (x0 : Array Value) (w : World) (Q : Value → World → Prop) : wFn Try.prog Try.f32 W32_plan [.agg x0] w Q = W32 x0 w Q := by kernel_rfl
set_option maxRecDepth 100000 in
theorem W32_ok (x0 : Array Value) (w : World) (Q : Value → World → Prop) (h : W32 x0 w Q) : Calls Try.prog 32 #[.agg x0] w (fun e w' => ∃ v, e = .returned v ∧ Q v w') :=
  calls_of_wFn mixed W32_plan Try.func32 (by kernel_rfl) ((W32_eq x0 w Q).mpr h)

/-! ### 33: hartix/hartixlaw0.Is -/
def W33_plan : Plan := .z
def W33 (x0 : Value) (x1 : Array Value) (w : World) (Q : Value → World → Prop) : Prop :=
newW x1 84 w fun a1 w =>
Calls Try.prog 65 #[x0] w fun e w =>
∃ g2 : Array Value, ∃ b3 : Bool, e = .returned (.tuple #[.agg g2, .bool b3]) ∧
newW #[.slice none 0 0, .int .i64 0] 84 w fun a4 w =>
stA 2 a4 g2 w fun w =>
cond b3 (
∃ g5 : Array Value, g5.size = 2 ∧ RowAt w a1 g5 ∧
∃ g6 : Array Value, g6.size = 2 ∧ RowAt w a4 g6 ∧
Calls Try.prog 66 #[.agg g5, .agg g6] w fun e w =>
∃ b7 : Bool, e = .returned (.bool b7) ∧
Q (.bool b7) w) (
Q (.bool false) w)
set_option maxRecDepth 100000 in
theorem W33_eq (x0 : Value) (x1 : Array Value) (w : World) (Q : Value → World → Prop) : wFn Try.prog Try.f33 W33_plan [x0, .agg x1] w Q = W33 x0 x1 w Q := by kernel_rfl
set_option maxRecDepth 100000 in
theorem W33_ok (x0 : Value) (x1 : Array Value) (w : World) (Q : Value → World → Prop) (h : W33 x0 x1 w Q) : Calls Try.prog 33 #[x0, .agg x1] w (fun e w' => ∃ v, e = .returned v ∧ Q v w') :=
  calls_of_wFn mixed W33_plan Try.func33 (by kernel_rfl) ((W33_eq x0 x1 w Q).mpr h)

/-! ### 34: hartix/hartixref0.New -/
def W34_plan : Plan := .z
def W34 (x0 : ByteArray) (x1 : Int) (x2 : Int) (w : World) (Q : Value → World → Prop) : Prop :=
newW #[.slice none 0 0, .int .i64 0] 84 w fun a1 w =>
∃ g2 : Array Value, bldP Try.prog 112 [(0, .string x0), (1, .int .i64 x1)] (.agg g2) ∧
∃ g3 : Array Value, bslP Try.prog 82 1 [(0, .agg g2)] g3 112 ∧
newW g3 112 w fun a4 w =>
∃ g5 : Array Value, bldP Try.prog 84 [(0, .slice (some a4) 1 1), (1, .int .i64 x2)] (.agg g5) ∧
stA 2 a1 g5 w fun w =>
∃ g6 : Array Value, g6.size = 2 ∧ RowAt w a1 g6 ∧
Q (.agg g6) w
set_option maxRecDepth 100000 in
theorem W34_eq (x0 : ByteArray) (x1 : Int) (x2 : Int) (w : World) (Q : Value → World → Prop) : wFn Try.prog Try.f34 W34_plan [.string x0, .int .i64 x1, .int .i64 x2] w Q = W34 x0 x1 x2 w Q := by kernel_rfl
set_option maxRecDepth 100000 in
theorem W34_ok (x0 : ByteArray) (x1 : Int) (x2 : Int) (w : World) (Q : Value → World → Prop) (h : W34 x0 x1 x2 w Q) : Calls Try.prog 34 #[.string x0, .int .i64 x1, .int .i64 x2] w (fun e w' => ∃ v, e = .returned v ∧ Q v w') :=
  calls_of_wFn mixed W34_plan Try.func34 (by kernel_rfl) ((W34_eq x0 x1 x2 w Q).mpr h)

/-! ### 35: (*hartix/proc.Table).none -/
def W35_plan : Plan := .z
def W35 (x0 : Option Addr) (w : World) (Q : Value → World → Prop) : Prop :=
cond x0.isNone (
Q (.bool true) w) (
nlW x0 fun a1 =>
∃ n2 : Int, w.cell? (a1.add 448) = some (.int .i64 n2) ∧
Q (.bool (n2 == (0 : Int))) w)
set_option maxRecDepth 100000 in
theorem W35_eq (x0 : Option Addr) (w : World) (Q : Value → World → Prop) : wFn Try.prog Try.f35 W35_plan [.pointer x0] w Q = W35 x0 w Q := by kernel_rfl
set_option maxRecDepth 100000 in
theorem W35_ok (x0 : Option Addr) (w : World) (Q : Value → World → Prop) (h : W35 x0 w Q) : Calls Try.prog 35 #[.pointer x0] w (fun e w' => ∃ v, e = .returned v ∧ Q v w') :=
  calls_of_wFn mixed W35_plan Try.func35 (by kernel_rfl) ((W35_eq x0 w Q).mpr h)

/-! ### 36: hartix/proc.rouse -/
def W36_plan : Plan := .z
def W36 (x0 : Option Addr) (w : World) (Q : Value → World → Prop) : Prop :=
∃ g1 : Array Value, bldP Try.prog 26 [] (.agg g1) ∧
nlW x0 fun a2 =>
stC (a2.add 1) (.int .i64 (1 : Int)) w fun w =>
nlW x0 fun a3 =>
stA 2 (a3.add 3) g1 w fun w =>
Q (.tuple #[]) w
set_option maxRecDepth 100000 in
theorem W36_eq (x0 : Option Addr) (w : World) (Q : Value → World → Prop) : wFn Try.prog Try.f36 W36_plan [.pointer x0] w Q = W36 x0 w Q := by kernel_rfl
set_option maxRecDepth 100000 in
theorem W36_ok (x0 : Option Addr) (w : World) (Q : Value → World → Prop) (h : W36 x0 w Q) : Calls Try.prog 36 #[.pointer x0] w (fun e w' => ∃ v, e = .returned v ∧ Q v w') :=
  calls_of_wFn mixed W36_plan Try.func36 (by kernel_rfl) ((W36_eq x0 w Q).mpr h)

/-! ### 37: hartix/hartixlaw13.chain -/
def W37_plan : Plan := (.n .z (.n (.n .z (.cut [1, 4, 5, 6, 7, 8, 9, 10, 11, 12, 13, 14, 15, 16, 17, 18, 19, 20, 21, 22, 23, 24, 25, 26, 27, 28, 29, 30, 31, 32, 33, 34, 35, 36, 37, 38, 39, 40, 41, 42, 43, 44, 45, 46, 47] [(1, .int .i64), (5, .int .i64)] .z .z)) .z))
def W37 (x0 : Array Value) (x1 : Int) (w : World) (Q : Value → World → Prop) : Prop :=
newW x0 31 w fun a1 w =>
∃ (I2 : (Int × Int × Unit) → World → Prop) (m3 : (Int × Int × Unit) → World → Nat), (∃ t : Int × Int × Unit, ([.int .i64 x1, .int .i64 (0 : Int)] : List Value) = tv [(1, .int .i64), (5, .int .i64)] t ∧ I2 t w) ∧
∀ (_ : Env) (t4 : Int × Int × Unit) (w5 : World), I2 t4 w5 →
(fun w : World =>
cond (decide (t4.2.1 < (64 : Int))) (
cond (t4.1 == (0 : Int)) (
((0 ≤ (0 : Int) ∧ (0 : Int) < ((64 : Nat) : Int)) ∧
∃ n6 : Int, w.cell? ((a1.add ((0 : Int).toNat * 7)).add 2) = some (.int .i64 n6) ∧
Q (.bool (n6 == (0 : Int))) w)) (
((0 ≤ t4.1 ∧ t4.1 < ((64 : Nat) : Int)) ∧
∃ n7 : Int, w.cell? ((a1.add (t4.1.toNat * 7)).add 2) = some (.int .i64 n7) ∧
cond (decide (n7 < (0 : Int))) (
Q (.bool false) w) (
cond (decide (n7 ≥ (64 : Int))) (
Q (.bool false) w) (
((0 ≤ n7 ∧ n7 < ((64 : Nat) : Int)) ∧
∃ n8 : Int, w.cell? ((a1.add (n7.toNat * 7)).add 1) = some (.int .i64 n8) ∧
cond (n8 == (0 : Int)) (
Q (.bool false) w) (
cond (n7 != (0 : Int)) (
((0 ≤ n7 ∧ n7 < ((64 : Nat) : Int)) ∧
∃ n9 : Int, w.cell? ((a1.add (n7.toNat * 7)).add 1) = some (.int .i64 n9) ∧
cond (n9 == (3 : Int)) (
Q (.bool false) w) (
∃ t' : Int × Int × Unit, ([.int .i64 n7, .int .i64 (IntKind.i64.wrap (t4.2.1 + (1 : Int)))] : List Value) = tv [(1, .int .i64), (5, .int .i64)] t' ∧ I2 t' w ∧ m3 t' w < m3 t4 w5))) (
∃ t' : Int × Int × Unit, ([.int .i64 n7, .int .i64 (IntKind.i64.wrap (t4.2.1 + (1 : Int)))] : List Value) = tv [(1, .int .i64), (5, .int .i64)] t' ∧ I2 t' w ∧ m3 t' w < m3 t4 w5)))))))) (
Q (.bool false) w)) w5
set_option maxRecDepth 100000 in
theorem W37_eq (x0 : Array Value) (x1 : Int) (w : World) (Q : Value → World → Prop) : wFn Try.prog Try.f37 W37_plan [.agg x0, .int .i64 x1] w Q = W37 x0 x1 w Q := by kernel_rfl
set_option maxRecDepth 100000 in
theorem W37_ok (x0 : Array Value) (x1 : Int) (w : World) (Q : Value → World → Prop) (h : W37 x0 x1 w Q) : Calls Try.prog 37 #[.agg x0, .int .i64 x1] w (fun e w' => ∃ v, e = .returned v ∧ Q v w') :=
  calls_of_wFn mixed W37_plan Try.func37 (by kernel_rfl) ((W37_eq x0 x1 w Q).mpr h)

/-! ### 38: (*hartix/proc.Table).at -/
def W38_plan : Plan := .z
def W38 (x0 : Option Addr) (x1 : Int) (w : World) (Q : Value → World → Prop) : Prop :=
cond (decide (x1 < (0 : Int))) (
Q (.pointer none) w) (
cond (decide (x1 ≥ (64 : Int))) (
Q (.pointer none) w) (
nlW x0 fun a1 =>
((0 ≤ x1 ∧ x1 < ((64 : Nat) : Int)) ∧
∃ n2 : Int, w.cell? ((a1.add (x1.toNat * 7)).add 1) = some (.int .i64 n2) ∧
cond (n2 == (0 : Int)) (
Q (.pointer none) w) (
nlW x0 fun a3 =>
((0 ≤ x1 ∧ x1 < ((64 : Nat) : Int)) ∧
Q (.pointer (some (a3.add (x1.toNat * 7)))) w)))))
set_option maxRecDepth 100000 in
theorem W38_eq (x0 : Option Addr) (x1 : Int) (w : World) (Q : Value → World → Prop) : wFn Try.prog Try.f38 W38_plan [.pointer x0, .int .i64 x1] w Q = W38 x0 x1 w Q := by kernel_rfl
set_option maxRecDepth 100000 in
theorem W38_ok (x0 : Option Addr) (x1 : Int) (w : World) (Q : Value → World → Prop) (h : W38 x0 x1 w Q) : Calls Try.prog 38 #[.pointer x0, .int .i64 x1] w (fun e w' => ∃ v, e = .returned v ∧ Q v w') :=
  calls_of_wFn mixed W38_plan Try.func38 (by kernel_rfl) ((W38_eq x0 x1 w Q).mpr h)

/-! ### 39: hartix/proc.first -/
def W39_plan : Plan := (.n .z (.n (.n .z (.cut [2, 3, 4, 5, 6, 7, 8, 9, 10, 11, 12] [(5, .int .i64)] .z .z)) .z))
def W39 (x0 : Value) (w : World) (Q : Value → World → Prop) : Prop :=
∃ (I1 : (Int × Unit) → World → Prop) (m2 : (Int × Unit) → World → Nat), (∃ t : Int × Unit, ([.int .i64 (0 : Int)] : List Value) = tv [(5, .int .i64)] t ∧ I1 t w) ∧
∀ (_ : Env) (t3 : Int × Unit) (w4 : World), I1 t3 w4 →
(fun w : World =>
cond (decide (t3.1 < (64 : Int))) (
calV Try.prog x0 [.int .i64 t3.1] w fun e w =>
∃ b5 : Bool, e = .returned (.bool b5) ∧
cond b5 (
Q (.tuple #[.int .i64 t3.1, .bool true]) w) (
∃ t' : Int × Unit, ([.int .i64 (IntKind.i64.wrap (t3.1 + (1 : Int)))] : List Value) = tv [(5, .int .i64)] t' ∧ I1 t' w ∧ m2 t' w < m2 t3 w4)) (
Q (.tuple #[.int .i64 (-1 : Int), .bool false]) w)) w4
set_option maxRecDepth 100000 in
theorem W39_eq (x0 : Value) (w : World) (Q : Value → World → Prop) : wFn Try.prog Try.f39 W39_plan [x0] w Q = W39 x0 w Q := by kernel_rfl
set_option maxRecDepth 100000 in
theorem W39_ok (x0 : Value) (w : World) (Q : Value → World → Prop) (h : W39 x0 w Q) : Calls Try.prog 39 #[x0] w (fun e w' => ∃ v, e = .returned v ∧ Q v w') :=
  calls_of_wFn mixed W39_plan Try.func39 (by kernel_rfl) ((W39_eq x0 w Q).mpr h)

/-! ### 40: (*hartix/proc.Table).Pick$1 -/
def W40_plan : Plan := .z
def W40 (x0 : Int) (x1 : Addr) (x2 : Addr) (w : World) (Q : Value → World → Prop) : Prop :=
∃ p1 : Option Addr, w.drew.cell? x1 = some (.pointer p1) ∧
∃ n2 : Int, w.drew.cell? x2 = some (.int .i64 n2) ∧
((64 : Int) ≠ 0 ∧
nlW p1 fun a3 =>
((0 ≤ ((IntKind.i64.wrap ((IntKind.i64.wrap (n2 + (1 : Int))) + x0)).tmod (64 : Int)) ∧ ((IntKind.i64.wrap ((IntKind.i64.wrap (n2 + (1 : Int))) + x0)).tmod (64 : Int)) < ((64 : Nat) : Int)) ∧
∃ n4 : Int, w.drew.cell? ((a3.add (((IntKind.i64.wrap ((IntKind.i64.wrap (n2 + (1 : Int))) + x0)).tmod (64 : Int)).toNat * 7)).add 1) = some (.int .i64 n4) ∧
Q (.bool (n4 == (1 : Int))) w.drew))
set_option maxRecDepth 100000 in
theorem W40_eq (x0 : Int) (x1 : Addr) (x2 : Addr) (w : World) (Q : Value → World → Prop) : wFn Try.prog Try.f40 W40_plan [.int .i64 x0, .pointer (some x1), .pointer (some x2)] w Q = W40 x0 x1 x2 w Q := by kernel_rfl
set_option maxRecDepth 100000 in
theorem W40_ok (x0 : Int) (x1 : Addr) (x2 : Addr) (w : World) (Q : Value → World → Prop) (h : W40 x0 x1 x2 w Q) : Calls Try.prog 40 #[.int .i64 x0, .pointer (some x1), .pointer (some x2)] w (fun e w' => ∃ v, e = .returned v ∧ Q v w') :=
  calls_of_wFn mixed W40_plan Try.func40 (by kernel_rfl) ((W40_eq x0 x1 x2 w Q).mpr h)

/-! ### 41: (*hartix/proc.Table).children -/
def W41_plan : Plan := (.n .z (.cut [6, 7, 8, 9, 10, 11, 12, 13, 14, 15, 16, 17, 18, 19, 20, 21, 22, 23, 24, 25, 26, 27, 28, 29, 30, 31, 32, 33, 34, 35, 36, 37, 38, 39, 40] [(7, .int .i64)] .z .z))
def W41 (x0 : Option Addr) (x1 : Int) (x2 : Value) (w : World) (Q : Value → World → Prop) : Prop :=
∃ (I1 : (Int × Unit) → World → Prop) (m2 : (Int × Unit) → World → Nat), (∃ t : Int × Unit, ([.int .i64 (0 : Int)] : List Value) = tv [(7, .int .i64)] t ∧ I1 t w) ∧
∀ (_ : Env) (t3 : Int × Unit) (w4 : World), I1 t3 w4 →
(fun w : World =>
cond (decide (t3.1 < (64 : Int))) (
cond (t3.1 != x1) (
Calls Try.prog 38 #[.pointer x0, .int .i64 t3.1] w fun e w =>
∃ p5 : Option Addr, e = .returned (.pointer p5) ∧
cond (!p5.isNone) (
cond (t3.1 != (0 : Int)) (
nlW x0 fun a6 =>
((0 ≤ t3.1 ∧ t3.1 < ((64 : Nat) : Int)) ∧
∃ n7 : Int, w.cell? ((a6.add (t3.1.toNat * 7)).add 2) = some (.int .i64 n7) ∧
cond (n7 == x1) (
calV Try.prog x2 [.int .i64 t3.1] w fun e w =>
∃ b8 : Bool, e = .returned (.bool b8) ∧
cond (!b8) (
Q (.tuple #[]) w) (
∃ t' : Int × Unit, ([.int .i64 (IntKind.i64.wrap (t3.1 + (1 : Int)))] : List Value) = tv [(7, .int .i64)] t' ∧ I1 t' w ∧ m2 t' w < m2 t3 w4)) (
∃ t' : Int × Unit, ([.int .i64 (IntKind.i64.wrap (t3.1 + (1 : Int)))] : List Value) = tv [(7, .int .i64)] t' ∧ I1 t' w ∧ m2 t' w < m2 t3 w4))) (
∃ t' : Int × Unit, ([.int .i64 (IntKind.i64.wrap (t3.1 + (1 : Int)))] : List Value) = tv [(7, .int .i64)] t' ∧ I1 t' w ∧ m2 t' w < m2 t3 w4)) (
∃ t' : Int × Unit, ([.int .i64 (IntKind.i64.wrap (t3.1 + (1 : Int)))] : List Value) = tv [(7, .int .i64)] t' ∧ I1 t' w ∧ m2 t' w < m2 t3 w4)) (
∃ t' : Int × Unit, ([.int .i64 (IntKind.i64.wrap (t3.1 + (1 : Int)))] : List Value) = tv [(7, .int .i64)] t' ∧ I1 t' w ∧ m2 t' w < m2 t3 w4)) (
Q (.tuple #[]) w)) w4
set_option maxRecDepth 100000 in
theorem W41_eq (x0 : Option Addr) (x1 : Int) (x2 : Value) (w : World) (Q : Value → World → Prop) : wFn Try.prog Try.f41 W41_plan [.pointer x0, .int .i64 x1, x2] w Q = W41 x0 x1 x2 w Q := by kernel_rfl
set_option maxRecDepth 100000 in
theorem W41_ok (x0 : Option Addr) (x1 : Int) (x2 : Value) (w : World) (Q : Value → World → Prop) (h : W41 x0 x1 x2 w Q) : Calls Try.prog 41 #[.pointer x0, .int .i64 x1, x2] w (fun e w' => ∃ v, e = .returned v ∧ Q v w') :=
  calls_of_wFn mixed W41_plan Try.func41 (by kernel_rfl) ((W41_eq x0 x1 x2 w Q).mpr h)

/-! ### 42: (*hartix/proc.Table).End$1 -/
def W42_plan : Plan := .z
def W42 (x0 : Int) (x1 : Addr) (x2 : Addr) (w : World) (Q : Value → World → Prop) : Prop :=
∃ p1 : Option Addr, w.cell? x1 = some (.pointer p1) ∧
nlW p1 fun a2 =>
((0 ≤ x0 ∧ x0 < ((64 : Nat) : Int)) ∧
stC ((a2.add (x0.toNat * 7)).add 2) (.int .i64 (0 : Int)) w fun w =>
∃ b3 : Bool, w.cell? x2 = some (.bool b3) ∧
cond b3 (
stC x2 (.bool true) w fun w =>
Q (.bool true) w) (
∃ p4 : Option Addr, w.cell? x1 = some (.pointer p4) ∧
nlW p4 fun a5 =>
((0 ≤ x0 ∧ x0 < ((64 : Nat) : Int)) ∧
∃ n6 : Int, w.cell? ((a5.add (x0.toNat * 7)).add 1) = some (.int .i64 n6) ∧
stC x2 (.bool (n6 == (3 : Int))) w fun w =>
Q (.bool true) w)))
set_option maxRecDepth 100000 in
theorem W42_eq (x0 : Int) (x1 : Addr) (x2 : Addr) (w : World) (Q : Value → World → Prop) : wFn Try.prog Try.f42 W42_plan [.int .i64 x0, .pointer (some x1), .pointer (some x2)] w Q = W42 x0 x1 x2 w Q := by kernel_rfl
set_option maxRecDepth 100000 in
theorem W42_ok (x0 : Int) (x1 : Addr) (x2 : Addr) (w : World) (Q : Value → World → Prop) (h : W42 x0 x1 x2 w Q) : Calls Try.prog 42 #[.int .i64 x0, .pointer (some x1), .pointer (some x2)] w (fun e w' => ∃ v, e = .returned v ∧ Q v w') :=
  calls_of_wFn mixed W42_plan Try.func42 (by kernel_rfl) ((W42_eq x0 x1 x2 w Q).mpr h)

/-! ### 43: (*hartix/proc.Table).Zombie$1 -/
def W43_plan : Plan := .z
def W43 (x0 : Int) (x1 : Addr) (x2 : Addr) (x3 : Addr) (w : World) (Q : Value → World → Prop) : Prop :=
stC x1 (.bool true) w fun w =>
∃ p1 : Option Addr, w.cell? x2 = some (.pointer p1) ∧
nlW p1 fun a2 =>
((0 ≤ x0 ∧ x0 < ((64 : Nat) : Int)) ∧
∃ n3 : Int, w.cell? ((a2.add (x0.toNat * 7)).add 1) = some (.int .i64 n3) ∧
cond (n3 == (3 : Int)) (
stC x3 (.int .i64 x0) w fun w =>
∃ n4 : Int, w.cell? x3 = some (.int .i64 n4) ∧
Q (.bool (decide (n4 < (0 : Int)))) w) (
∃ n5 : Int, w.cell? x3 = some (.int .i64 n5) ∧
Q (.bool (decide (n5 < (0 : Int)))) w))
set_option maxRecDepth 100000 in
theorem W43_eq (x0 : Int) (x1 : Addr) (x2 : Addr) (x3 : Addr) (w : World) (Q : Value → World → Prop) : wFn Try.prog Try.f43 W43_plan [.int .i64 x0, .pointer (some x1), .pointer (some x2), .pointer (some x3)] w Q = W43 x0 x1 x2 x3 w Q := by kernel_rfl
set_option maxRecDepth 100000 in
theorem W43_ok (x0 : Int) (x1 : Addr) (x2 : Addr) (x3 : Addr) (w : World) (Q : Value → World → Prop) (h : W43 x0 x1 x2 x3 w Q) : Calls Try.prog 43 #[.int .i64 x0, .pointer (some x1), .pointer (some x2), .pointer (some x3)] w (fun e w' => ∃ v, e = .returned v ∧ Q v w') :=
  calls_of_wFn mixed W43_plan Try.func43 (by kernel_rfl) ((W43_eq x0 x1 x2 x3 w Q).mpr h)

/-! ### 44: (*hartix/proc.Table).Kill$1 -/
def W44_plan : Plan := .z
def W44 (x0 : Int) (x1 : Addr) (x2 : Addr) (w : World) (Q : Value → World → Prop) : Prop :=
∃ S1 : World → Prop, S1 w.drew ∧
∃ p2 : Option Addr, (∀ w', S1 w' → w'.cell? x1 = some (.pointer p2)) ∧
Calls Try.prog 38 #[.pointer p2, .int .i64 x0] w.drew fun e w =>
∃ p3 : Option Addr, e = .returned (.pointer p3) ∧
(S1 w ∧
cond (!p3.isNone) (
∃ p4 : Option Addr, (∀ w', S1 w' → w'.cell? x1 = some (.pointer p4)) ∧
nlW p4 fun a5 =>
((0 ≤ x0 ∧ x0 < ((64 : Nat) : Int)) ∧
∃ n6 : Int, (∀ w', S1 w' → w'.cell? (a5.add (x0.toNat * 7)) = some (.int .i64 n6)) ∧
∃ n7 : Int, (∀ w', S1 w' → w'.cell? x2 = some (.int .i64 n7)) ∧
Q (.bool (n6 == n7)) w)) (
Q (.bool false) w))
set_option maxRecDepth 100000 in
theorem W44_eq (x0 : Int) (x1 : Addr) (x2 : Addr) (w : World) (Q : Value → World → Prop) : wFn Try.prog Try.f44 W44_plan [.int .i64 x0, .pointer (some x1), .pointer (some x2)] w Q = W44 x0 x1 x2 w Q := by kernel_rfl
set_option maxRecDepth 100000 in
theorem W44_ok (x0 : Int) (x1 : Addr) (x2 : Addr) (w : World) (Q : Value → World → Prop) (h : W44 x0 x1 x2 w Q) : Calls Try.prog 44 #[.int .i64 x0, .pointer (some x1), .pointer (some x2)] w (fun e w' => ∃ v, e = .returned v ∧ Q v w') :=
  calls_of_wFn mixed W44_plan Try.func44 (by kernel_rfl) ((W44_eq x0 x1 x2 w Q).mpr h)

/-! ### 45: (*hartix/proc.Table).Add$1 -/
def W45_plan : Plan := .z
def W45 (x0 : Int) (x1 : Addr) (w : World) (Q : Value → World → Prop) : Prop :=
∃ p1 : Option Addr, w.cell? x1 = some (.pointer p1) ∧
Calls Try.prog 38 #[.pointer p1, .int .i64 x0] w fun e w =>
∃ p2 : Option Addr, e = .returned (.pointer p2) ∧
Q (.bool (!p2.isNone)) w
set_option maxRecDepth 100000 in
theorem W45_eq (x0 : Int) (x1 : Addr) (w : World) (Q : Value → World → Prop) : wFn Try.prog Try.f45 W45_plan [.int .i64 x0, .pointer (some x1)] w Q = W45 x0 x1 w Q := by kernel_rfl
set_option maxRecDepth 100000 in
theorem W45_ok (x0 : Int) (x1 : Addr) (w : World) (Q : Value → World → Prop) (h : W45 x0 x1 w Q) : Calls Try.prog 45 #[.int .i64 x0, .pointer (some x1)] w (fun e w' => ∃ v, e = .returned v ∧ Q v w') :=
  calls_of_wFn mixed W45_plan Try.func45 (by kernel_rfl) ((W45_eq x0 x1 w Q).mpr h)

/-! ### 46: hartix/proc.least[hartix/api.Proc] -/
def W46_plan : Plan := .z
def W46 (x0 : Option Addr) (w : World) (Q : Value → World → Prop) : Prop :=
newW #[.pointer x0] 94 w fun a1 w =>
Calls Try.prog 39 #[.func (.func 67) #[] #[.pointer (some a1)]] w fun e w =>
∃ n2 : Int, ∃ b3 : Bool, e = .returned (.tuple #[.int .i64 n2, .bool b3]) ∧
Q (.tuple #[.int .i64 n2, .bool b3]) w
set_option maxRecDepth 100000 in
theorem W46_eq (x0 : Option Addr) (w : World) (Q : Value → World → Prop) : wFn Try.prog Try.f46 W46_plan [.pointer x0] w Q = W46 x0 w Q := by kernel_rfl
set_option maxRecDepth 100000 in
theorem W46_ok (x0 : Option Addr) (w : World) (Q : Value → World → Prop) (h : W46 x0 w Q) : Calls Try.prog 46 #[.pointer x0] w (fun e w' => ∃ v, e = .returned v ∧ Q v w') :=
  calls_of_wFn mixed W46_plan Try.func46 (by kernel_rfl) ((W46_eq x0 w Q).mpr h)

/-! ### 47: hartix/proc.channel -/
def W47_plan : Plan := .z
def W47 (x0 : Array Value) (w : World) (Q : Value → World → Prop) : Prop :=
newW x0 26 w fun a1 w =>
∃ n2 : Int, w.cell? a1 = some (.int .i64 n2) ∧
cond (decide (n2 ≥ (1 : Int))) (
∃ n3 : Int, w.cell? a1 = some (.int .i64 n3) ∧
cond (decide (n3 ≤ (5 : Int))) (
∃ n4 : Int, w.cell? (a1.add 1) = some (.int .i64 n4) ∧
Q (.bool (decide (n4 ≥ (0 : Int)))) w) (
Q (.bool false) w)) (
Q (.bool false) w)
set_option maxRecDepth 100000 in
theorem W47_eq (x0 : Array Value) (w : World) (Q : Value → World → Prop) : wFn Try.prog Try.f47 W47_plan [.agg x0] w Q = W47 x0 w Q := by kernel_rfl
set_option maxRecDepth 100000 in
theorem W47_ok (x0 : Array Value) (w : World) (Q : Value → World → Prop) (h : W47 x0 w Q) : Calls Try.prog 47 #[.agg x0] w (fun e w' => ∃ v, e = .returned v ∧ Q v w') :=
  calls_of_wFn mixed W47_plan Try.func47 (by kernel_rfl) ((W47_eq x0 w Q).mpr h)

/-! ### 48: (*hartix/hartixref13.Table).Add -/
def W48_plan : Plan := (.n .z (.n .z (.n .z (.cut [1, 4, 5, 6, 8, 15, 16, 17, 18, 19, 20, 21, 22, 23, 24, 25, 26, 27, 28, 29, 30] [(1, .int .i64)] (.n .z (.n (.n .z (.cut [19, 20, 21, 22, 23, 24, 25, 26, 27, 28, 29, 30] [(30, .bool)] .z .z)) .z)) .z))))
def W48 (x0 : Option Addr) (x1 : Int) (w : World) (Q : Value → World → Prop) : Prop :=
Calls Try.prog 59 #[.pointer x0] w fun e w =>
∃ b1 : Bool, e = .returned (.bool b1) ∧
cond b1 (
Q (.tuple #[.int .i64 (-1 : Int), .int .i64 (-1 : Int), .int .i64 (3 : Int)]) w) (
Calls Try.prog 68 #[.pointer x0, .int .i64 (0 : Int)] w fun e w =>
∃ b2 : Bool, e = .returned (.bool b2) ∧
∃ J3 : (Int × Unit) → World → Prop, (∀ (_ : Env) (t4 : Int × Unit) (w : World), J3 t4 w →
nlW x0 fun a5 =>
∃ n6 : Int, w.cell? (a5.add 448) = some (.int .i64 n6) ∧
cond (decide (n6 > (2147483647 : Int))) (
Q (.tuple #[.int .i64 (-1 : Int), .int .i64 (-1 : Int), .int .i64 (262 : Int)]) w) (
Calls Try.prog 69 #[.pointer x0] w fun e w =>
∃ n7 : Int, e = .returned (.int .i64 n7) ∧
cond (decide (n7 < (0 : Int))) (
Q (.tuple #[.int .i64 (-1 : Int), .int .i64 (-1 : Int), .int .i64 (263 : Int)]) w) (
nlW x0 fun a8 =>
∃ n9 : Int, w.cell? (a8.add 448) = some (.int .i64 n9) ∧
nlW x0 fun a10 =>
∃ n11 : Int, w.cell? (a10.add 448) = some (.int .i64 n11) ∧
nlW x0 fun a12 =>
stC (a12.add 448) (.int .i64 (IntKind.i64.wrap (n11 + (1 : Int)))) w fun w =>
∃ g13 : Array Value, bldP Try.prog 28 [(0, .int .i64 n9), (1, .int .i64 (1 : Int)), (2, .int .i64 t4.1)] (.agg g13) ∧
nlW x0 fun a14 =>
((0 ≤ n7 ∧ n7 < ((64 : Nat) : Int)) ∧
stA 7 (a14.add (n7.toNat * 7)) g13 w fun w =>
Q (.tuple #[.int .i64 n7, .int .i64 n9, .int .i64 (0 : Int)]) w)))) ∧
cond b2 (
Calls Try.prog 68 #[.pointer x0, .int .i64 x1] w fun e w =>
∃ b15 : Bool, e = .returned (.bool b15) ∧
∃ J16 : (Bool × Unit) → World → Prop, (∀ (_ : Env) (t17 : Bool × Unit) (w : World), J16 t17 w →
cond t17.1 (
Q (.tuple #[.int .i64 (-1 : Int), .int .i64 (-1 : Int), .int .i64 (261 : Int)]) w) (
∃ t : Int × Unit, ([.int .i64 x1] : List Value) = tv [(1, .int .i64)] t ∧ J3 t w)) ∧
cond (!b15) (
∃ t : Bool × Unit, ([.bool true] : List Value) = tv [(30, .bool)] t ∧ J16 t w) (
nlW x0 fun a18 =>
((0 ≤ x1 ∧ x1 < ((64 : Nat) : Int)) ∧
∃ n19 : Int, w.cell? ((a18.add (x1.toNat * 7)).add 1) = some (.int .i64 n19) ∧
∃ t : Bool × Unit, ([.bool (n19 == (3 : Int))] : List Value) = tv [(30, .bool)] t ∧ J16 t w))) (
∃ t : Int × Unit, ([.int .i64 (0 : Int)] : List Value) = tv [(1, .int .i64)] t ∧ J3 t w))
set_option maxRecDepth 100000 in
theorem W48_eq (x0 : Option Addr) (x1 : Int) (w : World) (Q : Value → World → Prop) : wFn Try.prog Try.f48 W48_plan [.pointer x0, .int .i64 x1] w Q = W48 x0 x1 w Q := by kernel_rfl
set_option maxRecDepth 100000 in
theorem W48_ok (x0 : Option Addr) (x1 : Int) (w : World) (Q : Value → World → Prop) (h : W48 x0 x1 w Q) : Calls Try.prog 48 #[.pointer x0, .int .i64 x1] w (fun e w' => ∃ v, e = .returned v ∧ Q v w') :=
  calls_of_wFn mixed W48_plan Try.func48 (by kernel_rfl) ((W48_eq x0 x1 w Q).mpr h)

/-! ### 49: (*hartix/hartixref13.Table).Pick -/
def W49_plan : Plan := (.n .z (.n .z (.cut [1, 10, 11, 12, 13, 14, 15] [(1, .int .i64)] .z (.n (.n .z (.cut [4, 5, 6, 7, 16, 17, 18, 19, 20, 21, 22, 23, 24, 25, 26, 27, 28, 29, 30, 31, 32] [(6, .int .i64)] .z .z)) .z))))
def W49 (x0 : Option Addr) (x1 : Int) (w : World) (Q : Value → World → Prop) : Prop :=
Calls Try.prog 59 #[.pointer x0] w fun e w =>
∃ b1 : Bool, e = .returned (.bool b1) ∧
cond b1 (
Q (.tuple #[.int .i64 (-1 : Int), .bool false]) w) (
∃ J2 : (Int × Unit) → World → Prop, (∀ (_ : Env) (t3 : Int × Unit) (w : World), J2 t3 w →
∃ (I4 : (Int × Unit) → World → Prop) (m5 : (Int × Unit) → World → Nat), (∃ t : Int × Unit, ([.int .i64 (1 : Int)] : List Value) = tv [(6, .int .i64)] t ∧ I4 t w) ∧
∀ (_ : Env) (t6 : Int × Unit) (w7 : World), I4 t6 w7 →
(fun w : World =>
cond (decide (t6.1 ≤ (64 : Int))) (
((64 : Int) ≠ 0 ∧
nlW x0 fun a8 =>
((0 ≤ ((IntKind.i64.wrap (t3.1 + t6.1)).tmod (64 : Int)) ∧ ((IntKind.i64.wrap (t3.1 + t6.1)).tmod (64 : Int)) < ((64 : Nat) : Int)) ∧
∃ n9 : Int, w.cell? ((a8.add (((IntKind.i64.wrap (t3.1 + t6.1)).tmod (64 : Int)).toNat * 7)).add 1) = some (.int .i64 n9) ∧
cond (n9 == (1 : Int)) (
Q (.tuple #[.int .i64 ((IntKind.i64.wrap (t3.1 + t6.1)).tmod (64 : Int)), .bool true]) w) (
∃ t' : Int × Unit, ([.int .i64 (IntKind.i64.wrap (t6.1 + (1 : Int)))] : List Value) = tv [(6, .int .i64)] t' ∧ I4 t' w ∧ m5 t' w < m5 t6 w7)))) (
Q (.tuple #[.int .i64 (-1 : Int), .bool false]) w)) w7) ∧
cond (decide (x1 < (0 : Int))) (
∃ t : Int × Unit, ([.int .i64 (63 : Int)] : List Value) = tv [(1, .int .i64)] t ∧ J2 t w) (
cond (decide (x1 ≥ (64 : Int))) (
∃ t : Int × Unit, ([.int .i64 (63 : Int)] : List Value) = tv [(1, .int .i64)] t ∧ J2 t w) (
∃ t : Int × Unit, ([.int .i64 x1] : List Value) = tv [(1, .int .i64)] t ∧ J2 t w)))
set_option maxRecDepth 100000 in
theorem W49_eq (x0 : Option Addr) (x1 : Int) (w : World) (Q : Value → World → Prop) : wFn Try.prog Try.f49 W49_plan [.pointer x0, .int .i64 x1] w Q = W49 x0 x1 w Q := by kernel_rfl
set_option maxRecDepth 100000 in
theorem W49_ok (x0 : Option Addr) (x1 : Int) (w : World) (Q : Value → World → Prop) (h : W49 x0 x1 w Q) : Calls Try.prog 49 #[.pointer x0, .int .i64 x1] w (fun e w' => ∃ v, e = .returned v ∧ Q v w') :=
  calls_of_wFn mixed W49_plan Try.func49 (by kernel_rfl) ((W49_eq x0 x1 w Q).mpr h)

/-! ### 50: (*hartix/hartixref13.Table).Sleep -/
def W50_plan : Plan := .z
def W50 (x0 : Option Addr) (x1 : Int) (x2 : Array Value) (w : World) (Q : Value → World → Prop) : Prop :=
newW x2 26 w fun a1 w =>
Calls Try.prog 59 #[.pointer x0] w fun e w =>
∃ b2 : Bool, e = .returned (.bool b2) ∧
cond b2 (
Q (.int .i64 (3 : Int)) w) (
Calls Try.prog 68 #[.pointer x0, .int .i64 x1] w fun e w =>
∃ b3 : Bool, e = .returned (.bool b3) ∧
cond (!b3) (
Q (.int .i64 (260 : Int)) w) (
nlW x0 fun a4 =>
((0 ≤ x1 ∧ x1 < ((64 : Nat) : Int)) ∧
∃ n5 : Int, w.cell? ((a4.add (x1.toNat * 7)).add 1) = some (.int .i64 n5) ∧
cond (n5 != (1 : Int)) (
Q (.int .i64 (265 : Int)) w) (
nlW x0 fun a6 =>
((0 ≤ x1 ∧ x1 < ((64 : Nat) : Int)) ∧
∃ b7 : Bool, w.cell? ((a6.add (x1.toNat * 7)).add 5) = some (.bool b7) ∧
cond b7 (
Q (.int .i64 (265 : Int)) w) (
∃ g8 : Array Value, g8.size = 2 ∧ RowAt w a1 g8 ∧
Calls Try.prog 70 #[.agg g8] w fun e w =>
∃ b9 : Bool, e = .returned (.bool b9) ∧
cond (!b9) (
Q (.int .i64 (264 : Int)) w) (
nlW x0 fun a10 =>
((0 ≤ x1 ∧ x1 < ((64 : Nat) : Int)) ∧
stC ((a10.add (x1.toNat * 7)).add 1) (.int .i64 (2 : Int)) w fun w =>
∃ S11 : World → Prop, S11 w.drew ∧
∃ g12 : Array Value, g12.size = 2 ∧ (∀ w', S11 w' → RowAt w' a1 g12) ∧
nlW x0 fun a13 =>
((0 ≤ x1 ∧ x1 < ((64 : Nat) : Int)) ∧
stA 2 ((a13.add (x1.toNat * 7)).add 3) g12 w.drew fun w =>
(S11 w ∧
Q (.int .i64 (0 : Int)) w))))))))))
set_option maxRecDepth 100000 in
theorem W50_eq (x0 : Option Addr) (x1 : Int) (x2 : Array Value) (w : World) (Q : Value → World → Prop) : wFn Try.prog Try.f50 W50_plan [.pointer x0, .int .i64 x1, .agg x2] w Q = W50 x0 x1 x2 w Q := by kernel_rfl
set_option maxRecDepth 100000 in
theorem W50_ok (x0 : Option Addr) (x1 : Int) (x2 : Array Value) (w : World) (Q : Value → World → Prop) (h : W50 x0 x1 x2 w Q) : Calls Try.prog 50 #[.pointer x0, .int .i64 x1, .agg x2] w (fun e w' => ∃ v, e = .returned v ∧ Q v w') :=
  calls_of_wFn mixed W50_plan Try.func50 (by kernel_rfl) ((W50_eq x0 x1 x2 w Q).mpr h)

/-! ### 51: (*hartix/hartixref13.Table).Wake -/
def W51_plan : Plan := (.n .z (.n .z (.n .z (.n (.n .z (.cut [5, 6, 9, 10, 11, 12, 13, 14, 15, 16, 17, 18, 19, 20, 21, 22, 23, 24, 25, 26, 27, 28, 29, 30, 31, 32, 33, 34, 35, 36, 37, 38, 39, 40, 41, 42, 43, 44, 45, 46, 47, 48, 49, 50, 51] [(5, .int .i64), (6, .int .i64)] (.n .z (.n (.cut [13, 14, 15, 16, 17, 18, 19, 20, 21, 22, 23, 24, 25, 26, 27, 28, 29, 30, 31, 32, 33, 34, 35, 36, 37, 38, 39, 40, 41, 42, 43, 44, 45, 46] [(46, .bool)] .z .z) .z)) .z)) .z))))
def W51 (x0 : Option Addr) (x1 : Array Value) (w : World) (Q : Value → World → Prop) : Prop :=
newW x1 26 w fun a1 w =>
Calls Try.prog 59 #[.pointer x0] w fun e w =>
∃ b2 : Bool, e = .returned (.bool b2) ∧
cond b2 (
Q (.int .i64 (0 : Int)) w) (
∃ (I3 : (Int × Int × Unit) → World → Prop) (m4 : (Int × Int × Unit) → World → Nat), (∃ t : Int × Int × Unit, ([.int .i64 (0 : Int), .int .i64 (0 : Int)] : List Value) = tv [(5, .int .i64), (6, .int .i64)] t ∧ I3 t w) ∧
∀ (_ : Env) (t5 : Int × Int × Unit) (w6 : World), I3 t5 w6 →
(fun w : World =>
cond (decide (t5.2.1 < (64 : Int))) (
∃ J7 : (Bool × Unit) → World → Prop, (∀ (_ : Env) (t8 : Bool × Unit) (w : World), J7 t8 w →
cond t8.1 (
Calls Try.prog 71 #[.pointer x0, .int .i64 t5.2.1] w fun e w =>
e = .returned (.tuple #[]) ∧
∃ t' : Int × Int × Unit, ([.int .i64 (IntKind.i64.wrap (t5.1 + (1 : Int))), .int .i64 (IntKind.i64.wrap (t5.2.1 + (1 : Int)))] : List Value) = tv [(5, .int .i64), (6, .int .i64)] t' ∧ I3 t' w ∧ m4 t' w < m4 t5 w6) (
∃ t' : Int × Int × Unit, ([.int .i64 t5.1, .int .i64 (IntKind.i64.wrap (t5.2.1 + (1 : Int)))] : List Value) = tv [(5, .int .i64), (6, .int .i64)] t' ∧ I3 t' w ∧ m4 t' w < m4 t5 w6)) ∧
nlW x0 fun a9 =>
((0 ≤ t5.2.1 ∧ t5.2.1 < ((64 : Nat) : Int)) ∧
∃ n10 : Int, w.drew.cell? ((a9.add (t5.2.1.toNat * 7)).add 1) = some (.int .i64 n10) ∧
cond (n10 == (2 : Int)) (
nlW x0 fun a11 =>
((0 ≤ t5.2.1 ∧ t5.2.1 < ((64 : Nat) : Int)) ∧
∃ n12 : Int, w.drew.cell? ((a11.add (t5.2.1.toNat * 7)).add 3) = some (.int .i64 n12) ∧
∃ n13 : Int, w.drew.cell? a1 = some (.int .i64 n13) ∧
cond (n12 == n13) (
nlW x0 fun a14 =>
((0 ≤ t5.2.1 ∧ t5.2.1 < ((64 : Nat) : Int)) ∧
∃ n15 : Int, w.drew.cell? (((a14.add (t5.2.1.toNat * 7)).add 3).add 1) = some (.int .i64 n15) ∧
∃ n16 : Int, w.drew.cell? (a1.add 1) = some (.int .i64 n16) ∧
∃ t : Bool × Unit, ([.bool (n15 == n16)] : List Value) = tv [(46, .bool)] t ∧ J7 t w.drew)) (
∃ t : Bool × Unit, ([.bool false] : List Value) = tv [(46, .bool)] t ∧ J7 t w.drew))) (
∃ t : Bool × Unit, ([.bool false] : List Value) = tv [(46, .bool)] t ∧ J7 t w.drew))) (
Q (.int .i64 t5.1) w)) w6)
set_option maxRecDepth 100000 in
theorem W51_eq (x0 : Option Addr) (x1 : Array Value) (w : World) (Q : Value → World → Prop) : wFn Try.prog Try.f51 W51_plan [.pointer x0, .agg x1] w Q = W51 x0 x1 w Q := by kernel_rfl
set_option maxRecDepth 100000 in
theorem W51_ok (x0 : Option Addr) (x1 : Array Value) (w : World) (Q : Value → World → Prop) (h : W51 x0 x1 w Q) : Calls Try.prog 51 #[.pointer x0, .agg x1] w (fun e w' => ∃ v, e = .returned v ∧ Q v w') :=
  calls_of_wFn mixed W51_plan Try.func51 (by kernel_rfl) ((W51_eq x0 x1 w Q).mpr h)

/-! ### 52: (*hartix/hartixref13.Table).WakeOne -/
def W52_plan : Plan := .z
def W52 (x0 : Option Addr) (x1 : Int) (w : World) (Q : Value → World → Prop) : Prop :=
Calls Try.prog 59 #[.pointer x0] w fun e w =>
∃ b1 : Bool, e = .returned (.bool b1) ∧
cond b1 (
Q (.int .i64 (3 : Int)) w) (
Calls Try.prog 68 #[.pointer x0, .int .i64 x1] w fun e w =>
∃ b2 : Bool, e = .returned (.bool b2) ∧
cond (!b2) (
Q (.int .i64 (260 : Int)) w) (
nlW x0 fun a3 =>
((0 ≤ x1 ∧ x1 < ((64 : Nat) : Int)) ∧
∃ n4 : Int, w.cell? ((a3.add (x1.toNat * 7)).add 1) = some (.int .i64 n4) ∧
cond (n4 != (2 : Int)) (
Q (.int .i64 (265 : Int)) w) (
Calls Try.prog 71 #[.pointer x0, .int .i64 x1] w fun e w =>
e = .returned (.tuple #[]) ∧
Q (.int .i64 (0 : Int)) w))))
set_option maxRecDepth 100000 in
theorem W52_eq (x0 : Option Addr) (x1 : Int) (w : World) (Q : Value → World → Prop) : wFn Try.prog Try.f52 W52_plan [.pointer x0, .int .i64 x1] w Q = W52 x0 x1 w Q := by kernel_rfl
set_option maxRecDepth 100000 in
theorem W52_ok (x0 : Option Addr) (x1 : Int) (w : World) (Q : Value → World → Prop) (h : W52 x0 x1 w Q) : Calls Try.prog 52 #[.pointer x0, .int .i64 x1] w (fun e w' => ∃ v, e = .returned v ∧ Q v w') :=
  calls_of_wFn mixed W52_plan Try.func52 (by kernel_rfl) ((W52_eq x0 x1 w Q).mpr h)

/-! ### 53: (*hartix/hartixref13.Table).Kill -/
def W53_plan : Plan := (.n .z (.n .z (.n (.n .z (.cut [4, 5, 8, 9, 10, 11, 12, 13, 14, 15, 16, 17, 18, 19, 20, 21, 22, 23, 24, 25, 26, 27, 28, 29, 30, 31, 32, 33, 34, 35, 36, 37, 38, 39, 40, 41, 42, 43, 44, 45, 46, 47, 48, 49, 50, 51, 52, 53, 54, 55] [(5, .int .i64)] .z .z)) .z)))
def W53 (x0 : Option Addr) (x1 : Int) (w : World) (Q : Value → World → Prop) : Prop :=
Calls Try.prog 59 #[.pointer x0] w fun e w =>
∃ b1 : Bool, e = .returned (.bool b1) ∧
cond b1 (
Q (.int .i64 (3 : Int)) w) (
∃ (I2 : (Int × Unit) → World → Prop) (m3 : (Int × Unit) → World → Nat), (∃ t : Int × Unit, ([.int .i64 (0 : Int)] : List Value) = tv [(5, .int .i64)] t ∧ I2 t w) ∧
∀ (_ : Env) (t4 : Int × Unit) (w5 : World), I2 t4 w5 →
(fun w : World =>
cond (decide (t4.1 < (64 : Int))) (
nlW x0 fun a6 =>
((0 ≤ t4.1 ∧ t4.1 < ((64 : Nat) : Int)) ∧
∃ n7 : Int, w.cell? ((a6.add (t4.1.toNat * 7)).add 1) = some (.int .i64 n7) ∧
cond (n7 == (0 : Int)) (
∃ t' : Int × Unit, ([.int .i64 (IntKind.i64.wrap (t4.1 + (1 : Int)))] : List Value) = tv [(5, .int .i64)] t' ∧ I2 t' w ∧ m3 t' w < m3 t4 w5) (
nlW x0 fun a8 =>
((0 ≤ t4.1 ∧ t4.1 < ((64 : Nat) : Int)) ∧
∃ n9 : Int, w.cell? (a8.add (t4.1.toNat * 7)) = some (.int .i64 n9) ∧
cond (n9 != x1) (
∃ t' : Int × Unit, ([.int .i64 (IntKind.i64.wrap (t4.1 + (1 : Int)))] : List Value) = tv [(5, .int .i64)] t' ∧ I2 t' w ∧ m3 t' w < m3 t4 w5) (
nlW x0 fun a10 =>
((0 ≤ t4.1 ∧ t4.1 < ((64 : Nat) : Int)) ∧
∃ n11 : Int, w.cell? ((a10.add (t4.1.toNat * 7)).add 1) = some (.int .i64 n11) ∧
cond (n11 == (3 : Int)) (
Q (.int .i64 (0 : Int)) w) (
nlW x0 fun a12 =>
((0 ≤ t4.1 ∧ t4.1 < ((64 : Nat) : Int)) ∧
stC ((a12.add (t4.1.toNat * 7)).add 5) (.bool true) w fun w =>
nlW x0 fun a13 =>
((0 ≤ t4.1 ∧ t4.1 < ((64 : Nat) : Int)) ∧
∃ n14 : Int, w.cell? ((a13.add (t4.1.toNat * 7)).add 1) = some (.int .i64 n14) ∧
cond (n14 == (2 : Int)) (
Calls Try.prog 71 #[.pointer x0, .int .i64 t4.1] w fun e w =>
e = .returned (.tuple #[]) ∧
Q (.int .i64 (0 : Int)) w) (
Q (.int .i64 (0 : Int)) w)))))))))) (
Q (.int .i64 (266 : Int)) w)) w5)
set_option maxRecDepth 100000 in
theorem W53_eq (x0 : Option Addr) (x1 : Int) (w : World) (Q : Value → World → Prop) : wFn Try.prog Try.f53 W53_plan [.pointer x0, .int .i64 x1] w Q = W53 x0 x1 w Q := by kernel_rfl
set_option maxRecDepth 100000 in
theorem W53_ok (x0 : Option Addr) (x1 : Int) (w : World) (Q : Value → World → Prop) (h : W53 x0 x1 w Q) : Calls Try.prog 53 #[.pointer x0, .int .i64 x1] w (fun e w' => ∃ v, e = .returned v ∧ Q v w') :=
  calls_of_wFn mixed W53_plan Try.func53 (by kernel_rfl) ((W53_eq x0 x1 w Q).mpr h)

/-! ### 54: (*hartix/hartixref13.Table).End -/
def W54_plan : Plan := (.n .z (.n .z (.n .z (.n .z (.n .z (.n .z (.n .z (.n .z (.n .z (.n (.n .z (.cut [8, 9, 10, 46, 47, 48, 49, 50, 51, 52, 53, 54, 55, 56, 57, 58, 59, 60, 61, 62, 63, 64, 65, 66, 67, 68, 69, 70, 71, 72, 73, 74, 75] [(9, .bool), (10, .int .i64)] .z .z)) .z))))))))))
def W54 (x0 : Option Addr) (x1 : Int) (x2 : Int) (w : World) (Q : Value → World → Prop) : Prop :=
Calls Try.prog 59 #[.pointer x0] w fun e w =>
∃ b1 : Bool, e = .returned (.bool b1) ∧
cond b1 (
Q (.tuple #[.bool false, .int .i64 (3 : Int)]) w) (
Calls Try.prog 68 #[.pointer x0, .int .i64 x1] w fun e w =>
∃ b2 : Bool, e = .returned (.bool b2) ∧
cond (!b2) (
Q (.tuple #[.bool false, .int .i64 (260 : Int)]) w) (
nlW x0 fun a3 =>
((0 ≤ x1 ∧ x1 < ((64 : Nat) : Int)) ∧
∃ n4 : Int, w.cell? ((a3.add (x1.toNat * 7)).add 1) = some (.int .i64 n4) ∧
cond (n4 == (3 : Int)) (
Q (.tuple #[.bool false, .int .i64 (265 : Int)]) w) (
nlW x0 fun a5 =>
((0 ≤ x1 ∧ x1 < ((64 : Nat) : Int)) ∧
stC ((a5.add (x1.toNat * 7)).add 1) (.int .i64 (3 : Int)) w fun w =>
∃ g6 : Array Value, bldP Try.prog 26 [] (.agg g6) ∧
nlW x0 fun a7 =>
((0 ≤ x1 ∧ x1 < ((64 : Nat) : Int)) ∧
stA 2 ((a7.add (x1.toNat * 7)).add 3) g6 w fun w =>
nlW x0 fun a8 =>
((0 ≤ x1 ∧ x1 < ((64 : Nat) : Int)) ∧
stC ((a8.add (x1.toNat * 7)).add 6) (.int .i32 x2) w fun w =>
∃ (I9 : (Bool × Int × Unit) → World → Prop) (m10 : (Bool × Int × Unit) → World → Nat), (∃ t : Bool × Int × Unit, ([.bool false, .int .i64 (1 : Int)] : List Value) = tv [(9, .bool), (10, .int .i64)] t ∧ I9 t w) ∧
∀ (_ : Env) (t11 : Bool × Int × Unit) (w12 : World), I9 t11 w12 →
(fun w : World =>
cond (decide (t11.2.1 < (64 : Int))) (
cond (x1 != (0 : Int)) (
Calls Try.prog 72 #[.pointer x0, .int .i64 t11.2.1, .int .i64 x1] w fun e w =>
∃ b13 : Bool, e = .returned (.bool b13) ∧
cond b13 (
nlW x0 fun a14 =>
((0 ≤ t11.2.1 ∧ t11.2.1 < ((64 : Nat) : Int)) ∧
stC ((a14.add (t11.2.1.toNat * 7)).add 2) (.int .i64 (0 : Int)) w fun w =>
cond t11.1 (
∃ t' : Bool × Int × Unit, ([.bool true, .int .i64 (IntKind.i64.wrap (t11.2.1 + (1 : Int)))] : List Value) = tv [(9, .bool), (10, .int .i64)] t' ∧ I9 t' w ∧ m10 t' w < m10 t11 w12) (
nlW x0 fun a15 =>
((0 ≤ t11.2.1 ∧ t11.2.1 < ((64 : Nat) : Int)) ∧
∃ n16 : Int, w.cell? ((a15.add (t11.2.1.toNat * 7)).add 1) = some (.int .i64 n16) ∧
∃ t' : Bool × Int × Unit, ([.bool (n16 == (3 : Int)), .int .i64 (IntKind.i64.wrap (t11.2.1 + (1 : Int)))] : List Value) = tv [(9, .bool), (10, .int .i64)] t' ∧ I9 t' w ∧ m10 t' w < m10 t11 w12)))) (
∃ t' : Bool × Int × Unit, ([.bool t11.1, .int .i64 (IntKind.i64.wrap (t11.2.1 + (1 : Int)))] : List Value) = tv [(9, .bool), (10, .int .i64)] t' ∧ I9 t' w ∧ m10 t' w < m10 t11 w12)) (
Q (.tuple #[.bool t11.1, .int .i64 (0 : Int)]) w)) (
Q (.tuple #[.bool t11.1, .int .i64 (0 : Int)]) w)) w12)))))))
set_option maxRecDepth 100000 in
theorem W54_eq (x0 : Option Addr) (x1 : Int) (x2 : Int) (w : World) (Q : Value → World → Prop) : wFn Try.prog Try.f54 W54_plan [.pointer x0, .int .i64 x1, .int .i32 x2] w Q = W54 x0 x1 x2 w Q := by kernel_rfl
set_option maxRecDepth 100000 in
theorem W54_ok (x0 : Option Addr) (x1 : Int) (x2 : Int) (w : World) (Q : Value → World → Prop) (h : W54 x0 x1 x2 w Q) : Calls Try.prog 54 #[.pointer x0, .int .i64 x1, .int .i32 x2] w (fun e w' => ∃ v, e = .returned v ∧ Q v w') :=
  calls_of_wFn mixed W54_plan Try.func54 (by kernel_rfl) ((W54_eq x0 x1 x2 w Q).mpr h)

/-! ### 55: (*hartix/hartixref13.Table).Zombie -/
def W55_plan : Plan := (.n .z (.n .z (.n .z (.n .z (.n .z (.n (.n .z (.cut [4, 5, 6, 7, 8, 16, 17, 18, 19, 20, 21, 22, 23, 24, 25, 26, 27, 28, 29, 30, 31, 32, 33, 34, 35, 36, 37, 38, 39] [(7, .bool), (8, .int .i64)] (.n .z (.n (.n .z (.n (.cut [24, 25, 26, 27, 28, 29, 30, 31, 32, 33, 34] [(34, .bool)] .z .z) .z)) .z)) .z)) .z))))))
def W55 (x0 : Option Addr) (x1 : Int) (w : World) (Q : Value → World → Prop) : Prop :=
Calls Try.prog 59 #[.pointer x0] w fun e w =>
∃ b1 : Bool, e = .returned (.bool b1) ∧
cond b1 (
Q (.tuple #[.int .i64 (-1 : Int), .bool false]) w) (
Calls Try.prog 68 #[.pointer x0, .int .i64 x1] w fun e w =>
∃ b2 : Bool, e = .returned (.bool b2) ∧
cond (!b2) (
Q (.tuple #[.int .i64 (-1 : Int), .bool false]) w) (
∃ (I3 : (Bool × Int × Unit) → World → Prop) (m4 : (Bool × Int × Unit) → World → Nat), (∃ t : Bool × Int × Unit, ([.bool false, .int .i64 (1 : Int)] : List Value) = tv [(7, .bool), (8, .int .i64)] t ∧ I3 t w) ∧
∀ (_ : Env) (t5 : Bool × Int × Unit) (w6 : World), I3 t5 w6 →
(fun w : World =>
cond (decide (t5.2.1 < (64 : Int))) (
Calls Try.prog 72 #[.pointer x0, .int .i64 t5.2.1, .int .i64 x1] w fun e w =>
∃ b7 : Bool, e = .returned (.bool b7) ∧
∃ J8 : (Bool × Unit) → World → Prop, (∀ (_ : Env) (t9 : Bool × Unit) (w : World), J8 t9 w →
cond t9.1 (
Q (.tuple #[.int .i64 t5.2.1, .bool true]) w) (
cond t5.1 (
∃ t' : Bool × Int × Unit, ([.bool true, .int .i64 (IntKind.i64.wrap (t5.2.1 + (1 : Int)))] : List Value) = tv [(7, .bool), (8, .int .i64)] t' ∧ I3 t' w ∧ m4 t' w < m4 t5 w6) (
∃ t' : Bool × Int × Unit, ([.bool b7, .int .i64 (IntKind.i64.wrap (t5.2.1 + (1 : Int)))] : List Value) = tv [(7, .bool), (8, .int .i64)] t' ∧ I3 t' w ∧ m4 t' w < m4 t5 w6))) ∧
cond b7 (
nlW x0 fun a10 =>
((0 ≤ t5.2.1 ∧ t5.2.1 < ((64 : Nat) : Int)) ∧
∃ n11 : Int, w.cell? ((a10.add (t5.2.1.toNat * 7)).add 1) = some (.int .i64 n11) ∧
∃ t : Bool × Unit, ([.bool (n11 == (3 : Int))] : List Value) = tv [(34, .bool)] t ∧ J8 t w)) (
∃ t : Bool × Unit, ([.bool false] : List Value) = tv [(34, .bool)] t ∧ J8 t w)) (
Q (.tuple #[.int .i64 (-1 : Int), .bool t5.1]) w)) w6))
set_option maxRecDepth 100000 in
theorem W55_eq (x0 : Option Addr) (x1 : Int) (w : World) (Q : Value → World → Prop) : wFn Try.prog Try.f55 W55_plan [.pointer x0, .int .i64 x1] w Q = W55 x0 x1 w Q := by kernel_rfl
set_option maxRecDepth 100000 in
theorem W55_ok (x0 : Option Addr) (x1 : Int) (w : World) (Q : Value → World → Prop) (h : W55 x0 x1 w Q) : Calls Try.prog 55 #[.pointer x0, .int .i64 x1] w (fun e w' => ∃ v, e = .returned v ∧ Q v w') :=
  calls_of_wFn mixed W55_plan Try.func55 (by kernel_rfl) ((W55_eq x0 x1 w Q).mpr h)

/-! ### 56: (*hartix/hartixref13.Table).Free -/
def W56_plan : Plan := .z
def W56 (x0 : Option Addr) (x1 : Int) (w : World) (Q : Value → World → Prop) : Prop :=
Calls Try.prog 59 #[.pointer x0] w fun e w =>
∃ b1 : Bool, e = .returned (.bool b1) ∧
cond b1 (
Q (.int .i64 (3 : Int)) w) (
Calls Try.prog 68 #[.pointer x0, .int .i64 x1] w fun e w =>
∃ b2 : Bool, e = .returned (.bool b2) ∧
cond (!b2) (
Q (.int .i64 (260 : Int)) w) (
cond (x1 == (0 : Int)) (
Q (.int .i64 (260 : Int)) w) (
nlW x0 fun a3 =>
((0 ≤ x1 ∧ x1 < ((64 : Nat) : Int)) ∧
∃ n4 : Int, w.cell? ((a3.add (x1.toNat * 7)).add 1) = some (.int .i64 n4) ∧
cond (n4 != (3 : Int)) (
Q (.int .i64 (265 : Int)) w) (
∃ g5 : Array Value, bldP Try.prog 28 [] (.agg g5) ∧
nlW x0 fun a6 =>
((0 ≤ x1 ∧ x1 < ((64 : Nat) : Int)) ∧
stA 7 (a6.add (x1.toNat * 7)) g5 w fun w =>
Q (.int .i64 (0 : Int)) w))))))
set_option maxRecDepth 100000 in
theorem W56_eq (x0 : Option Addr) (x1 : Int) (w : World) (Q : Value → World → Prop) : wFn Try.prog Try.f56 W56_plan [.pointer x0, .int .i64 x1] w Q = W56 x0 x1 w Q := by kernel_rfl
set_option maxRecDepth 100000 in
theorem W56_ok (x0 : Option Addr) (x1 : Int) (w : World) (Q : Value → World → Prop) (h : W56 x0 x1 w Q) : Calls Try.prog 56 #[.pointer x0, .int .i64 x1] w (fun e w' => ∃ v, e = .returned v ∧ Q v w') :=
  calls_of_wFn mixed W56_plan Try.func56 (by kernel_rfl) ((W56_eq x0 x1 w Q).mpr h)

/-! ### 57: (*hartix/hartixref13.Table).Look -/
def W57_plan : Plan := .z
def W57 (x0 : Option Addr) (x1 : Int) (w : World) (Q : Value → World → Prop) : Prop :=
newW #[.int .i64 0, .int .i64 0, .int .i64 0, .int .i64 0, .int .i64 0, .bool false, .int .i32 0] 28 w fun a1 w =>
Calls Try.prog 59 #[.pointer x0] w fun e w =>
∃ b2 : Bool, e = .returned (.bool b2) ∧
cond b2 (
∃ g3 : Array Value, bldP Try.prog 28 [] (.agg g3) ∧
stA 7 a1 g3 w fun w =>
∃ g4 : Array Value, g4.size = 7 ∧ RowAt w a1 g4 ∧
Q (.agg g4) w) (
Calls Try.prog 68 #[.pointer x0, .int .i64 x1] w fun e w =>
∃ b5 : Bool, e = .returned (.bool b5) ∧
cond (!b5) (
∃ g6 : Array Value, bldP Try.prog 28 [] (.agg g6) ∧
stA 7 a1 g6 w fun w =>
∃ g7 : Array Value, g7.size = 7 ∧ RowAt w a1 g7 ∧
Q (.agg g7) w) (
nlW x0 fun a8 =>
((0 ≤ x1 ∧ x1 < ((64 : Nat) : Int)) ∧
∃ g9 : Array Value, g9.size = 7 ∧ RowAt w (a8.add (x1.toNat * 7)) g9 ∧
stA 7 a1 g9 w fun w =>
∃ g10 : Array Value, g10.size = 7 ∧ RowAt w a1 g10 ∧
Q (.agg g10) w)))
set_option maxRecDepth 100000 in
theorem W57_eq (x0 : Option Addr) (x1 : Int) (w : World) (Q : Value → World → Prop) : wFn Try.prog Try.f57 W57_plan [.pointer x0, .int .i64 x1] w Q = W57 x0 x1 w Q := by kernel_rfl
set_option maxRecDepth 100000 in
theorem W57_ok (x0 : Option Addr) (x1 : Int) (w : World) (Q : Value → World → Prop) (h : W57 x0 x1 w Q) : Calls Try.prog 57 #[.pointer x0, .int .i64 x1] w (fun e w' => ∃ v, e = .returned v ∧ Q v w') :=
  calls_of_wFn mixed W57_plan Try.func57 (by kernel_rfl) ((W57_eq x0 x1 w Q).mpr h)

/-! ### 58: (*hartix/hartixref13.Table).Room -/
def W58_plan : Plan := .z
def W58 (x0 : Option Addr) (w : World) (Q : Value → World → Prop) : Prop :=
Calls Try.prog 59 #[.pointer x0] w fun e w =>
∃ b1 : Bool, e = .returned (.bool b1) ∧
cond (!b1) (
nlW x0 fun a2 =>
∃ n3 : Int, w.cell? (a2.add 448) = some (.int .i64 n3) ∧
cond (decide (n3 ≤ (2147483647 : Int))) (
Calls Try.prog 69 #[.pointer x0] w fun e w =>
∃ n4 : Int, e = .returned (.int .i64 n4) ∧
Q (.bool (decide (n4 ≥ (0 : Int)))) w) (
Q (.bool false) w)) (
Q (.bool false) w)
set_option maxRecDepth 100000 in
theorem W58_eq (x0 : Option Addr) (w : World) (Q : Value → World → Prop) : wFn Try.prog Try.f58 W58_plan [.pointer x0] w Q = W58 x0 w Q := by kernel_rfl
set_option maxRecDepth 100000 in
theorem W58_ok (x0 : Option Addr) (w : World) (Q : Value → World → Prop) (h : W58 x0 w Q) : Calls Try.prog 58 #[.pointer x0] w (fun e w' => ∃ v, e = .returned v ∧ Q v w') :=
  calls_of_wFn mixed W58_plan Try.func58 (by kernel_rfl) ((W58_eq x0 w Q).mpr h)

/-! ### 59: (*hartix/hartixref13.Table).none -/
def W59_plan : Plan := .z
def W59 (x0 : Option Addr) (w : World) (Q : Value → World → Prop) : Prop :=
cond x0.isNone (
Q (.bool true) w) (
nlW x0 fun a1 =>
∃ n2 : Int, w.cell? (a1.add 448) = some (.int .i64 n2) ∧
Q (.bool (n2 == (0 : Int))) w)
set_option maxRecDepth 100000 in
theorem W59_eq (x0 : Option Addr) (w : World) (Q : Value → World → Prop) : wFn Try.prog Try.f59 W59_plan [.pointer x0] w Q = W59 x0 w Q := by kernel_rfl
set_option maxRecDepth 100000 in
theorem W59_ok (x0 : Option Addr) (w : World) (Q : Value → World → Prop) (h : W59 x0 w Q) : Calls Try.prog 59 #[.pointer x0] w (fun e w' => ∃ v, e = .returned v ∧ Q v w') :=
  calls_of_wFn mixed W59_plan Try.func59 (by kernel_rfl) ((W59_eq x0 w Q).mpr h)

/-! ### 60: hartix/proc.From$1 -/
def W60_plan : Plan := .z
def W60 (x0 : Int) (w : World) (Q : Value → World → Prop) : Prop :=
∃ g1 : Array Value, bldP Try.prog 105 [(0, .string ⟨#[112, 114, 111, 99]⟩), (1, .int .i64 x0), (2, .iface 56 (.int .i64 (4 : Int)))] (.agg g1) ∧
newW g1 105 w fun a2 w =>
Q (.tuple #[.pointer none, .iface 103 (.pointer (some a2))]) w
set_option maxRecDepth 100000 in
theorem W60_eq (x0 : Int) (w : World) (Q : Value → World → Prop) : wFn Try.prog Try.f60 W60_plan [.int .i64 x0] w Q = W60 x0 w Q := by kernel_rfl
set_option maxRecDepth 100000 in
theorem W60_ok (x0 : Int) (w : World) (Q : Value → World → Prop) (h : W60 x0 w Q) : Calls Try.prog 60 #[.int .i64 x0] w (fun e w' => ∃ v, e = .returned v ∧ Q v w') :=
  calls_of_wFn mixed W60_plan Try.func60 (by kernel_rfl) ((W60_eq x0 w Q).mpr h)

/-! ### 61: hartix/proc.From$2 -/
def W61_plan : Plan := .z
def W61 (x0 : Int) (x1 : Addr) (w : World) (Q : Value → World → Prop) : Prop :=
((0 ≤ x0 ∧ x0 < ((64 : Nat) : Int)) ∧
∃ n1 : Int, w.cell? ((x1.add (x0.toNat * 7)).add 1) = some (.int .i64 n1) ∧
Q (.bool (n1 != (0 : Int))) w)
set_option maxRecDepth 100000 in
theorem W61_eq (x0 : Int) (x1 : Addr) (w : World) (Q : Value → World → Prop) : wFn Try.prog Try.f61 W61_plan [.int .i64 x0, .pointer (some x1)] w Q = W61 x0 x1 w Q := by kernel_rfl
set_option maxRecDepth 100000 in
theorem W61_ok (x0 : Int) (x1 : Addr) (w : World) (Q : Value → World → Prop) (h : W61 x0 x1 w Q) : Calls Try.prog 61 #[.int .i64 x0, .pointer (some x1)] w (fun e w' => ∃ v, e = .returned v ∧ Q v w') :=
  calls_of_wFn mixed W61_plan Try.func61 (by kernel_rfl) ((W61_eq x0 x1 w Q).mpr h)

/-! ### 62: hartix/proc.From$3 -/
def W62_plan : Plan := .z
def W62 (x0 : Int) (x1 : Addr) (x2 : Addr) (w : World) (Q : Value → World → Prop) : Prop :=
∃ g1 : Array Value, g1.size = 449 ∧ RowAt w x1 g1 ∧
∃ b2 : Bool, w.cell? x2 = some (.bool b2) ∧
Calls Try.prog 63 #[.agg g1, .int .i64 x0, .bool b2] w fun e w =>
∃ b3 : Bool, e = .returned (.bool b3) ∧
Q (.bool (!b3)) w
set_option maxRecDepth 100000 in
theorem W62_eq (x0 : Int) (x1 : Addr) (x2 : Addr) (w : World) (Q : Value → World → Prop) : wFn Try.prog Try.f62 W62_plan [.int .i64 x0, .pointer (some x1), .pointer (some x2)] w Q = W62 x0 x1 x2 w Q := by kernel_rfl
set_option maxRecDepth 100000 in
theorem W62_ok (x0 : Int) (x1 : Addr) (x2 : Addr) (w : World) (Q : Value → World → Prop) (h : W62 x0 x1 x2 w Q) : Calls Try.prog 62 #[.int .i64 x0, .pointer (some x1), .pointer (some x2)] w (fun e w' => ∃ v, e = .returned v ∧ Q v w') :=
  calls_of_wFn mixed W62_plan Try.func62 (by kernel_rfl) ((W62_eq x0 x1 x2 w Q).mpr h)

/-! ### 63: hartix/proc.sound -/
def W63_plan : Plan := (.n .z (.n .z (.n .z (.n .z (.n (.n .z (.cut [6, 8, 49, 50, 51, 52, 53, 54, 55, 56, 57, 58, 59, 60] [(49, .int .i64)] .z .z)) (.cut [6, 9, 61, 62, 63, 64, 65, 66, 67, 68, 69, 70, 71, 72, 73, 74, 75, 76, 77, 78, 79, 80, 81, 82, 83, 84, 85, 86, 87, 88, 89, 90, 91, 92, 93, 94, 95, 96, 97, 98, 99, 100, 101, 102, 103] [] .z (.cut [6, 104, 105, 106, 107, 108, 109, 110, 111, 112, 113, 114, 115, 116, 117, 118] [] .z .z)))))))
def W63 (x0 : Array Value) (x1 : Int) (x2 : Bool) (w : World) (Q : Value → World → Prop) : Prop :=
newW x0 31 w fun a1 w =>
((0 ≤ x1 ∧ x1 < ((64 : Nat) : Int)) ∧
∃ g2 : Array Value, g2.size = 7 ∧ RowAt w (a1.add (x1.toNat * 7)) g2 ∧
newW #[.int .i64 0, .int .i64 0, .int .i64 0, .int .i64 0, .int .i64 0, .bool false, .int .i32 0] 28 w fun a3 w =>
stA 7 a3 g2 w fun w =>
∃ n4 : Int, w.cell? (a3.add 1) = some (.int .i64 n4) ∧
cond (n4 == (0 : Int)) (
∃ g5 : Array Value, g5.size = 7 ∧ RowAt w a3 g5 ∧
∃ g6 : Array Value, bldP Try.prog 28 [] (.agg g6) ∧
∃ b7 : Bool, AggEq Try.prog 28 g5 g6 b7 ∧
cond b7 (
cond (x1 != (0 : Int)) (
Q (.bool true) w) (
Q (.bool (!x2)) w)) (
Q (.bool false) w)) (
∃ n8 : Int, w.cell? (a3.add 1) = some (.int .i64 n8) ∧
cond (decide (n8 < (0 : Int))) (
Q (.bool false) w) (
∃ n9 : Int, w.cell? (a3.add 1) = some (.int .i64 n9) ∧
cond (decide (n9 > (3 : Int))) (
Q (.bool false) w) (
∃ n10 : Int, w.cell? a3 = some (.int .i64 n10) ∧
cond (decide (n10 < (1 : Int))) (
Q (.bool false) w) (
∃ n11 : Int, w.cell? a3 = some (.int .i64 n11) ∧
∃ n12 : Int, w.cell? (a1.add 448) = some (.int .i64 n12) ∧
cond (decide (n11 ≥ n12)) (
Q (.bool false) w) (
∃ (I13 : (Int × Unit) → World → Prop) (m14 : (Int × Unit) → World → Nat), (∃ t : Int × Unit, ([.int .i64 (0 : Int)] : List Value) = tv [(49, .int .i64)] t ∧ I13 t w) ∧
∀ (_ : Env) (t15 : Int × Unit) (w16 : World), I13 t15 w16 →
(fun w : World =>
cond (decide (t15.1 < x1)) (
((0 ≤ t15.1 ∧ t15.1 < ((64 : Nat) : Int)) ∧
∃ n17 : Int, w.drew.cell? (a1.add (t15.1.toNat * 7)) = some (.int .i64 n17) ∧
∃ n18 : Int, w.drew.cell? a3 = some (.int .i64 n18) ∧
cond (n17 == n18) (
Q (.bool false) w.drew) (
∃ t' : Int × Unit, ([.int .i64 (IntKind.i64.wrap (t15.1 + (1 : Int)))] : List Value) = tv [(49, .int .i64)] t' ∧ I13 t' w.drew ∧ m14 t' w.drew < m14 t15 w16))) (
∃ J19 : (Unit) → World → Prop, (∀ (_ : Env) (t20 : Unit) (w : World), J19 t20 w →
∃ J21 : (Unit) → World → Prop, (∀ (_ : Env) (t22 : Unit) (w : World), J21 t22 w →
∃ n23 : Int, w.cell? (a3.add 1) = some (.int .i64 n23) ∧
cond (n23 == (3 : Int)) (
Q (.bool true) w) (
∃ n24 : Int, w.cell? (a3.add 6) = some (.int .i32 n24) ∧
Q (.bool (n24 == (0 : Int))) w)) ∧
∃ n25 : Int, w.cell? (a3.add 1) = some (.int .i64 n25) ∧
cond (n25 == (2 : Int)) (
∃ g26 : Array Value, g26.size = 2 ∧ RowAt w (a3.add 3) g26 ∧
Calls Try.prog 47 #[.agg g26] w fun e w =>
∃ b27 : Bool, e = .returned (.bool b27) ∧
cond (!b27) (
Q (.bool false) w) (
∃ b28 : Bool, w.cell? (a3.add 5) = some (.bool b28) ∧
cond b28 (
Q (.bool false) w) (
∃ t : Unit, ([] : List Value) = tv [] t ∧ J21 t w))) (
∃ g29 : Array Value, g29.size = 2 ∧ RowAt w (a3.add 3) g29 ∧
∃ g30 : Array Value, bldP Try.prog 26 [] (.agg g30) ∧
∃ b31 : Bool, AggEq Try.prog 26 g29 g30 b31 ∧
cond (!b31) (
Q (.bool false) w) (
∃ t : Unit, ([] : List Value) = tv [] t ∧ J21 t w))) ∧
cond (x1 == (0 : Int)) (
∃ n32 : Int, w.cell? (a3.add 2) = some (.int .i64 n32) ∧
cond (n32 != (0 : Int)) (
Q (.bool false) w) (
∃ n33 : Int, w.cell? a3 = some (.int .i64 n33) ∧
cond (n33 != (1 : Int)) (
Q (.bool false) w) (
∃ t : Unit, ([] : List Value) = tv [] t ∧ J19 t w))) (
∃ n34 : Int, w.cell? (a3.add 2) = some (.int .i64 n34) ∧
cond (decide (n34 < (0 : Int))) (
Q (.bool false) w) (
∃ n35 : Int, w.cell? (a3.add 2) = some (.int .i64 n35) ∧
cond (decide (n35 ≥ (64 : Int))) (
Q (.bool false) w) (
∃ n36 : Int, w.cell? (a3.add 2) = some (.int .i64 n36) ∧
((0 ≤ n36 ∧ n36 < ((64 : Nat) : Int)) ∧
∃ g37 : Array Value, g37.size = 7 ∧ RowAt w (a1.add (n36.toNat * 7)) g37 ∧
newW #[.int .i64 0, .int .i64 0, .int .i64 0, .int .i64 0, .int .i64 0, .bool false, .int .i32 0] 28 w fun a38 w =>
stA 7 a38 g37 w fun w =>
∃ n39 : Int, w.cell? (a38.add 1) = some (.int .i64 n39) ∧
cond (n39 == (0 : Int)) (
Q (.bool false) w) (
∃ n40 : Int, w.cell? a38 = some (.int .i64 n40) ∧
∃ n41 : Int, w.cell? a3 = some (.int .i64 n41) ∧
cond (decide (n40 ≥ n41)) (
Q (.bool false) w) (
∃ n42 : Int, w.cell? (a38.add 1) = some (.int .i64 n42) ∧
cond (n42 == (3 : Int)) (
∃ n43 : Int, w.cell? (a3.add 2) = some (.int .i64 n43) ∧
cond (n43 != (0 : Int)) (
Q (.bool false) w) (
∃ t : Unit, ([] : List Value) = tv [] t ∧ J19 t w)) (
∃ t : Unit, ([] : List Value) = tv [] t ∧ J19 t w))))))))) w16))))))
set_option maxRecDepth 100000 in
theorem W63_eq (x0 : Array Value) (x1 : Int) (x2 : Bool) (w : World) (Q : Value → World → Prop) : wFn Try.prog Try.f63 W63_plan [.agg x0, .int .i64 x1, .bool x2] w Q = W63 x0 x1 x2 w Q := by kernel_rfl
set_option maxRecDepth 100000 in
theorem W63_ok (x0 : Array Value) (x1 : Int) (x2 : Bool) (w : World) (Q : Value → World → Prop) (h : W63 x0 x1 x2 w Q) : Calls Try.prog 63 #[.agg x0, .int .i64 x1, .bool x2] w (fun e w' => ∃ v, e = .returned v ∧ Q v w') :=
  calls_of_wFn mixed W63_plan Try.func63 (by kernel_rfl) ((W63_eq x0 x1 x2 w Q).mpr h)

/-! ### 64: hartix/hartixref13.fine -/
def W64_plan : Plan := (.n .z (.n .z (.n .z (.n .z (.n (.n .z (.cut [6, 8, 48, 49, 50, 51, 52, 53, 54, 55, 56, 57, 58, 59, 60, 61, 62, 63, 64, 65, 66, 67, 68] [(8, .int .i64)] .z .z)) (.n .z (.n .z (.n .z (.cut [6, 77, 78, 79, 80, 81, 82, 83, 84, 85, 86, 87] [] .z (.cut [6, 88, 89, 90, 91, 92, 93, 94, 95, 96] [] .z .z))))))))))
def W64 (x0 : Array Value) (x1 : Int) (x2 : Bool) (w : World) (Q : Value → World → Prop) : Prop :=
newW x0 31 w fun a1 w =>
((0 ≤ x1 ∧ x1 < ((64 : Nat) : Int)) ∧
∃ g2 : Array Value, g2.size = 7 ∧ RowAt w (a1.add (x1.toNat * 7)) g2 ∧
newW #[.int .i64 0, .int .i64 0, .int .i64 0, .int .i64 0, .int .i64 0, .bool false, .int .i32 0] 28 w fun a3 w =>
stA 7 a3 g2 w fun w =>
∃ n4 : Int, w.cell? (a3.add 1) = some (.int .i64 n4) ∧
cond (n4 == (0 : Int)) (
∃ g5 : Array Value, g5.size = 7 ∧ RowAt w a3 g5 ∧
∃ g6 : Array Value, bldP Try.prog 28 [] (.agg g6) ∧
∃ b7 : Bool, AggEq Try.prog 28 g5 g6 b7 ∧
cond b7 (
cond (x1 != (0 : Int)) (
Q (.bool true) w) (
Q (.bool (!x2)) w)) (
Q (.bool false) w)) (
∃ n8 : Int, w.cell? (a3.add 1) = some (.int .i64 n8) ∧
cond (decide (n8 < (1 : Int))) (
Q (.bool false) w) (
∃ n9 : Int, w.cell? (a3.add 1) = some (.int .i64 n9) ∧
cond (decide (n9 > (3 : Int))) (
Q (.bool false) w) (
∃ n10 : Int, w.cell? a3 = some (.int .i64 n10) ∧
cond (decide (n10 < (1 : Int))) (
Q (.bool false) w) (
∃ n11 : Int, w.cell? a3 = some (.int .i64 n11) ∧
∃ n12 : Int, w.cell? (a1.add 448) = some (.int .i64 n12) ∧
cond (decide (n11 ≥ n12)) (
Q (.bool false) w) (
∃ (I13 : (Int × Unit) → World → Prop) (m14 : (Int × Unit) → World → Nat), (∃ t : Int × Unit, ([.int .i64 (0 : Int)] : List Value) = tv [(8, .int .i64)] t ∧ I13 t w) ∧
∀ (_ : Env) (t15 : Int × Unit) (w16 : World), I13 t15 w16 →
(fun w : World =>
cond (decide (t15.1 < x1)) (
((0 ≤ t15.1 ∧ t15.1 < ((64 : Nat) : Int)) ∧
∃ n17 : Int, w.drew.cell? ((a1.add (t15.1.toNat * 7)).add 1) = some (.int .i64 n17) ∧
cond (n17 != (0 : Int)) (
((0 ≤ t15.1 ∧ t15.1 < ((64 : Nat) : Int)) ∧
∃ n18 : Int, w.drew.cell? (a1.add (t15.1.toNat * 7)) = some (.int .i64 n18) ∧
∃ n19 : Int, w.drew.cell? a3 = some (.int .i64 n19) ∧
cond (n18 == n19) (
Q (.bool false) w.drew) (
∃ t' : Int × Unit, ([.int .i64 (IntKind.i64.wrap (t15.1 + (1 : Int)))] : List Value) = tv [(8, .int .i64)] t' ∧ I13 t' w.drew ∧ m14 t' w.drew < m14 t15 w16))) (
∃ t' : Int × Unit, ([.int .i64 (IntKind.i64.wrap (t15.1 + (1 : Int)))] : List Value) = tv [(8, .int .i64)] t' ∧ I13 t' w.drew ∧ m14 t' w.drew < m14 t15 w16))) (
∃ g20 : Array Value, g20.size = 449 ∧ RowAt w a1 g20 ∧
Calls Try.prog 73 #[.agg g20, .int .i64 x1] w fun e w =>
∃ b21 : Bool, e = .returned (.bool b21) ∧
cond (!b21) (
Q (.bool false) w) (
∃ g22 : Array Value, g22.size = 2 ∧ RowAt w (a3.add 3) g22 ∧
Calls Try.prog 70 #[.agg g22] w fun e w =>
∃ b23 : Bool, e = .returned (.bool b23) ∧
∃ J24 : (Unit) → World → Prop, (∀ (_ : Env) (t25 : Unit) (w : World), J24 t25 w →
∃ J26 : (Unit) → World → Prop, (∀ (_ : Env) (t27 : Unit) (w : World), J26 t27 w →
∃ n28 : Int, w.cell? (a3.add 1) = some (.int .i64 n28) ∧
cond (n28 == (3 : Int)) (
Q (.bool true) w) (
∃ n29 : Int, w.cell? (a3.add 6) = some (.int .i32 n29) ∧
Q (.bool (n29 == (0 : Int))) w)) ∧
∃ n30 : Int, w.cell? (a3.add 1) = some (.int .i64 n30) ∧
cond (n30 != (2 : Int)) (
∃ g31 : Array Value, g31.size = 2 ∧ RowAt w (a3.add 3) g31 ∧
∃ g32 : Array Value, bldP Try.prog 26 [] (.agg g32) ∧
∃ b33 : Bool, AggEq Try.prog 26 g31 g32 b33 ∧
cond (!b33) (
Q (.bool false) w) (
∃ t : Unit, ([] : List Value) = tv [] t ∧ J26 t w)) (
∃ t : Unit, ([] : List Value) = tv [] t ∧ J26 t w)) ∧
∃ n34 : Int, w.cell? (a3.add 1) = some (.int .i64 n34) ∧
cond (n34 == (2 : Int)) (
cond (!b23) (
Q (.bool false) w) (
∃ b35 : Bool, w.cell? (a3.add 5) = some (.bool b35) ∧
cond b35 (
Q (.bool false) w) (
∃ t : Unit, ([] : List Value) = tv [] t ∧ J24 t w))) (
∃ t : Unit, ([] : List Value) = tv [] t ∧ J24 t w)))) w16))))))
set_option maxRecDepth 100000 in
theorem W64_eq (x0 : Array Value) (x1 : Int) (x2 : Bool) (w : World) (Q : Value → World → Prop) : wFn Try.prog Try.f64 W64_plan [.agg x0, .int .i64 x1, .bool x2] w Q = W64 x0 x1 x2 w Q := by kernel_rfl
set_option maxRecDepth 100000 in
theorem W64_ok (x0 : Array Value) (x1 : Int) (x2 : Bool) (w : World) (Q : Value → World → Prop) (h : W64 x0 x1 x2 w Q) : Calls Try.prog 64 #[.agg x0, .int .i64 x1, .bool x2] w (fun e w' => ∃ v, e = .returned v ∧ Q v w') :=
  calls_of_wFn mixed W64_plan Try.func64 (by kernel_rfl) ((W64_eq x0 x1 x2 w Q).mpr h)

/-! ### 65: hartix/hartixlaw0.Told -/
def W65_plan : Plan := (.n .z (.n .z (.n (.n .z (.cut [0, 3, 5, 6, 7, 8, 9, 11, 12, 13, 14, 15, 16, 17, 18, 19, 20, 21, 22, 23, 24, 25, 26, 27, 28, 29, 30, 31, 32, 33, 34, 35, 36, 37, 38, 39, 40, 41, 42, 43, 44, 45, 46, 47, 48, 49, 50, 51, 52, 53, 54, 55, 56, 57, 58, 59, 60, 61] [(0, .val), (5, .int .i64)] (.n .z (.n (.n .z (.n .z (.n (.n .z (.n (.n .z .z) .z)) (.n .z (.n (.n .z (.n .z (.n (.n .z .z) .z))) (.n .z (.n (.n .z (.n .z (.n (.n .z .z) .z))) .z))))))) .z)) .z)) .z)))
def W65 (x0 : Value) (w : World) (Q : Value → World → Prop) : Prop :=
newW #[.slice none 0 0, .int .i64 0] 84 w fun a1 w =>
∃ g2 : Array Value, bldP Try.prog 84 [] (.agg g2) ∧
newW #[.slice none 0 0, .int .i64 0] 84 w fun a3 w =>
stA 2 a3 g2 w fun w =>
∃ (I4 : (Value × Int × Unit) → World → Prop) (m5 : (Value × Int × Unit) → World → Nat), (∃ t : Value × Int × Unit, ([x0, .int .i64 (0 : Int)] : List Value) = tv [(0, .val), (5, .int .i64)] t ∧ I4 t w) ∧
∀ (_ : Env) (t6 : Value × Int × Unit) (w7 : World), I4 t6 w7 →
(fun w : World =>
cond (decide (t6.2.1 < (12 : Int))) (
∃ b8 : Bool, isNilI t6.1 = some b8 ∧
cond b8 (
∃ S9 : World → Prop, S9 w.drew ∧
∃ g10 : Array Value, g10.size = 2 ∧ (∀ w', S9 w' → RowAt w' a3 g10) ∧
∃ (q11b : Option Addr) (q11l q11c : Nat), (∀ w', S9 w' → w'.cell? a3 = some (.slice q11b q11l q11c)) ∧
stA 2 a1 g10 w.drew fun w =>
∃ S12 : World → Prop, (∀ w', S12 w' → S9 w') ∧ S12 w ∧
∃ g13 : Array Value, g13.size = 2 ∧ RowAt w a1 g13 ∧
Q (.tuple #[.agg g13, .bool (((q11l : Nat) : Int) == (0 : Int))]) w) (
(((t6.1 : Value) = .nilIface ∧
(((t6.1 : Value) = .nilIface ∧
∃ g20 : Array Value, g20.size = 2 ∧ RowAt w a3 g20 ∧
stA 2 a1 g20 w fun w =>
∃ g21 : Array Value, g21.size = 2 ∧ RowAt w a1 g21 ∧
Q (.tuple #[.agg g21, .bool false]) w) ∨
∃ (u17 : TypeId) (v18 : Value), (t6.1 : Value) = .iface u17 v18 ∧
cond (Nat.beq u17 56) (
∃ n19 : Int, v18 = .int .i64 n19 ∧
stC (a3.add 1) (.int .i64 n19) w fun w =>
∃ S22 : World → Prop, S22 w.drew ∧
∃ g23 : Array Value, g23.size = 2 ∧ (∀ w', S22 w' → RowAt w' a3 g23) ∧
∃ (q24b : Option Addr) (q24l q24c : Nat), (∀ w', S22 w' → w'.cell? a3 = some (.slice q24b q24l q24c)) ∧
cond (decide (((q24l : Nat) : Int) > (0 : Int))) (
∃ n25 : Int, (∀ w', S22 w' → w'.cell? (a3.add 1) = some (.int .i64 n25)) ∧
stA 2 a1 g23 w.drew fun w =>
∃ S26 : World → Prop, (∀ w', S26 w' → S22 w') ∧ S26 w ∧
∃ g27 : Array Value, g27.size = 2 ∧ RowAt w a1 g27 ∧
Q (.tuple #[.agg g27, .bool (n25 != (0 : Int))]) w) (
stA 2 a1 g23 w.drew fun w =>
∃ S28 : World → Prop, S28 w ∧
∃ g29 : Array Value, g29.size = 2 ∧ RowAt w a1 g29 ∧
Q (.tuple #[.agg g29, .bool false]) w)) (
∃ g30 : Array Value, g30.size = 2 ∧ RowAt w a3 g30 ∧
stA 2 a1 g30 w fun w =>
∃ g31 : Array Value, g31.size = 2 ∧ RowAt w a1 g31 ∧
Q (.tuple #[.agg g31, .bool false]) w))) ∨
∃ (u14 : TypeId) (v15 : Value), (t6.1 : Value) = .iface u14 v15 ∧
cond (Nat.beq u14 103) (
∃ p16 : Option Addr, v15 = .pointer p16 ∧
cond p16.isNone (
∃ g32 : Array Value, g32.size = 2 ∧ RowAt w a3 g32 ∧
stA 2 a1 g32 w fun w =>
∃ g33 : Array Value, g33.size = 2 ∧ RowAt w a1 g33 ∧
Q (.tuple #[.agg g33, .bool false]) w) (
∃ S34 : World → Prop, S34 w.drew ∧
∃ (q35b : Option Addr) (q35l q35c : Nat), (∀ w', S34 w' → w'.cell? a3 = some (.slice q35b q35l q35c)) ∧
nlW p16 fun a36 =>
∃ s37 : ByteArray, (∀ w', S34 w' → w'.cell? a36 = some (.string s37)) ∧
nlW p16 fun a38 =>
∃ n39 : Int, (∀ w', S34 w' → w'.cell? (a38.add 1) = some (.int .i64 n39)) ∧
∃ g40 : Array Value, bldP Try.prog 112 [(0, .string s37), (1, .int .i64 n39)] (.agg g40) ∧
∃ g41 : Array Value, bslP Try.prog 82 1 [(0, .agg g40)] g41 112 ∧
newW g41 112 w.drew fun a42 w =>
∃ S43 : World → Prop, (∀ w', S43 w' → S34 w') ∧ S43 w ∧
apnW Try.prog 82 82 (.slice q35b q35l q35c) (.slice (some a42) 1 1) w fun q44b q44l q44c w =>
∃ S45 : World → Prop, S45 w ∧
stC a3 (.slice q44b q44l q44c) w fun w =>
∃ S46 : World → Prop, S46 w ∧
nlW p16 fun a47 =>
∃ v48 : Value, w.cell? (a47.add 2) = some (v48) ∧
∃ t' : Value × Int × Unit, ([v48, .int .i64 (IntKind.i64.wrap (t6.2.1 + (1 : Int)))] : List Value) = tv [(0, .val), (5, .int .i64)] t' ∧ I4 t' w ∧ m5 t' w < m5 t6 w7)) (
(((t6.1 : Value) = .nilIface ∧
∃ g52 : Array Value, g52.size = 2 ∧ RowAt w a3 g52 ∧
stA 2 a1 g52 w fun w =>
∃ g53 : Array Value, g53.size = 2 ∧ RowAt w a1 g53 ∧
Q (.tuple #[.agg g53, .bool false]) w) ∨
∃ (u49 : TypeId) (v50 : Value), (t6.1 : Value) = .iface u49 v50 ∧
cond (Nat.beq u49 56) (
∃ n51 : Int, v50 = .int .i64 n51 ∧
stC (a3.add 1) (.int .i64 n51) w fun w =>
∃ S54 : World → Prop, S54 w.drew ∧
∃ g55 : Array Value, g55.size = 2 ∧ (∀ w', S54 w' → RowAt w' a3 g55) ∧
∃ (q56b : Option Addr) (q56l q56c : Nat), (∀ w', S54 w' → w'.cell? a3 = some (.slice q56b q56l q56c)) ∧
cond (decide (((q56l : Nat) : Int) > (0 : Int))) (
∃ n57 : Int, (∀ w', S54 w' → w'.cell? (a3.add 1) = some (.int .i64 n57)) ∧
stA 2 a1 g55 w.drew fun w =>
∃ S58 : World → Prop, (∀ w', S58 w' → S54 w') ∧ S58 w ∧
∃ g59 : Array Value, g59.size = 2 ∧ RowAt w a1 g59 ∧
Q (.tuple #[.agg g59, .bool (n57 != (0 : Int))]) w) (
stA 2 a1 g55 w.drew fun w =>
∃ S60 : World → Prop, S60 w ∧
∃ g61 : Array Value, g61.size = 2 ∧ RowAt w a1 g61 ∧
Q (.tuple #[.agg g61, .bool false]) w)) (
∃ g62 : Array Value, g62.size = 2 ∧ RowAt w a3 g62 ∧
stA 2 a1 g62 w fun w =>
∃ g63 : Array Value, g63.size = 2 ∧ RowAt w a1 g63 ∧
Q (.tuple #[.agg g63, .bool false]) w)))))) (
∃ g64 : Array Value, g64.size = 2 ∧ RowAt w a3 g64 ∧
stA 2 a1 g64 w fun w =>
∃ g65 : Array Value, g65.size = 2 ∧ RowAt w a1 g65 ∧
Q (.tuple #[.agg g65, .bool false]) w)) w7
set_option maxRecDepth 100000 in
theorem W65_eq (x0 : Value) (w : World) (Q : Value → World → Prop) : wFn Try.prog Try.f65 W65_plan [x0] w Q = W65 x0 w Q := by kernel_rfl
set_option maxRecDepth 100000 in
theorem W65_ok (x0 : Value) (w : World) (Q : Value → World → Prop) (h : W65 x0 w Q) : Calls Try.prog 65 #[x0] w (fun e w' => ∃ v, e = .returned v ∧ Q v w') :=
  calls_of_wFn mixed W65_plan Try.func65 (by kernel_rfl) ((W65_eq x0 w Q).mpr h)

/-! ### 66: hartix/hartixref0.Same -/
def W66_plan : Plan := (.n .z (.n .z (.n (.n .z (.cut [4, 5, 20, 21, 22, 23, 24, 25, 26, 27, 28, 29, 30, 31, 32, 33, 34, 35, 36, 37, 38, 39, 40, 41, 42, 43, 44, 45, 46, 47, 48, 49, 50, 51, 52, 53, 54] [(5, .int .i64)] .z .z)) .z)))
def W66 (x0 : Array Value) (x1 : Array Value) (w : World) (Q : Value → World → Prop) : Prop :=
newW x0 84 w fun a1 w =>
newW x1 84 w fun a2 w =>
∃ n3 : Int, w.cell? (a1.add 1) = some (.int .i64 n3) ∧
∃ n4 : Int, w.cell? (a2.add 1) = some (.int .i64 n4) ∧
cond (n3 != n4) (
Q (.bool false) w) (
∃ (q5b : Option Addr) (q5l q5c : Nat), w.cell? a1 = some (.slice q5b q5l q5c) ∧
∃ (q6b : Option Addr) (q6l q6c : Nat), w.cell? a2 = some (.slice q6b q6l q6c) ∧
cond (((q5l : Nat) : Int) != ((q6l : Nat) : Int)) (
Q (.bool false) w) (
∃ (I7 : (Int × Unit) → World → Prop) (m8 : (Int × Unit) → World → Nat), (∃ t : Int × Unit, ([.int .i64 (0 : Int)] : List Value) = tv [(5, .int .i64)] t ∧ I7 t w) ∧
∀ (_ : Env) (t9 : Int × Unit) (w10 : World), I7 t9 w10 →
(fun w : World =>
∃ (q11b : Option Addr) (q11l q11c : Nat), w.cell? a1 = some (.slice q11b q11l q11c) ∧
cond (decide (t9.1 < ((q11l : Nat) : Int))) (
∃ (q12b : Option Addr) (q12l q12c : Nat), w.drew.cell? a1 = some (.slice q12b q12l q12c) ∧
nlW q12b fun a13 =>
((0 ≤ t9.1 ∧ t9.1 < ((q12l : Nat) : Int)) ∧
∃ s14 : ByteArray, w.drew.cell? (a13.add (t9.1.toNat * 2)) = some (.string s14) ∧
∃ (q15b : Option Addr) (q15l q15c : Nat), w.drew.cell? a2 = some (.slice q15b q15l q15c) ∧
nlW q15b fun a16 =>
((0 ≤ t9.1 ∧ t9.1 < ((q15l : Nat) : Int)) ∧
∃ s17 : ByteArray, w.drew.cell? (a16.add (t9.1.toNat * 2)) = some (.string s17) ∧
cond (!strEq s14 s17) (
Q (.bool false) w.drew) (
∃ (q18b : Option Addr) (q18l q18c : Nat), w.drew.cell? a1 = some (.slice q18b q18l q18c) ∧
nlW q18b fun a19 =>
((0 ≤ t9.1 ∧ t9.1 < ((q18l : Nat) : Int)) ∧
∃ n20 : Int, w.drew.cell? ((a19.add (t9.1.toNat * 2)).add 1) = some (.int .i64 n20) ∧
∃ (q21b : Option Addr) (q21l q21c : Nat), w.drew.cell? a2 = some (.slice q21b q21l q21c) ∧
nlW q21b fun a22 =>
((0 ≤ t9.1 ∧ t9.1 < ((q21l : Nat) : Int)) ∧
∃ n23 : Int, w.drew.cell? ((a22.add (t9.1.toNat * 2)).add 1) = some (.int .i64 n23) ∧
cond (n20 != n23) (
Q (.bool false) w.drew) (
∃ t' : Int × Unit, ([.int .i64 (IntKind.i64.wrap (t9.1 + (1 : Int)))] : List Value) = tv [(5, .int .i64)] t' ∧ I7 t' w.drew ∧ m8 t' w.drew < m8 t9 w10))))))) (
Q (.bool true) w)) w10))
set_option maxRecDepth 100000 in
theorem W66_eq (x0 : Array Value) (x1 : Array Value) (w : World) (Q : Value → World → Prop) : wFn Try.prog Try.f66 W66_plan [.agg x0, .agg x1] w Q = W66 x0 x1 w Q := by kernel_rfl
set_option maxRecDepth 100000 in
theorem W66_ok (x0 : Array Value) (x1 : Array Value) (w : World) (Q : Value → World → Prop) (h : W66 x0 x1 w Q) : Calls Try.prog 66 #[.agg x0, .agg x1] w (fun e w' => ∃ v, e = .returned v ∧ Q v w') :=
  calls_of_wFn mixed W66_plan Try.func66 (by kernel_rfl) ((W66_eq x0 x1 w Q).mpr h)

/-! ### 67: hartix/proc.least[hartix/api.Proc]$1 -/
def W67_plan : Plan := .z
def W67 (x0 : Int) (x1 : Addr) (w : World) (Q : Value → World → Prop) : Prop :=
newW #[.int .i64 0, .int .i64 0, .int .i64 0, .int .i64 0, .int .i64 0, .bool false, .int .i32 0] 28 w fun a1 w =>
∃ p2 : Option Addr, w.drew.cell? x1 = some (.pointer p2) ∧
nlW p2 fun a3 =>
((0 ≤ x0 ∧ x0 < ((64 : Nat) : Int)) ∧
∃ g4 : Array Value, g4.size = 7 ∧ RowAt w.drew (a3.add (x0.toNat * 7)) g4 ∧
∃ g5 : Array Value, g5.size = 7 ∧ RowAt w.drew a1 g5 ∧
∃ b6 : Bool, AggEq Try.prog 28 g4 g5 b6 ∧
Q (.bool b6) w.drew)
set_option maxRecDepth 100000 in
theorem W67_eq (x0 : Int) (x1 : Addr) (w : World) (Q : Value → World → Prop) : wFn Try.prog Try.f67 W67_plan [.int .i64 x0, .pointer (some x1)] w Q = W67 x0 x1 w Q := by kernel_rfl
set_option maxRecDepth 100000 in
theorem W67_ok (x0 : Int) (x1 : Addr) (w : World) (Q : Value → World → Prop) (h : W67 x0 x1 w Q) : Calls Try.prog 67 #[.int .i64 x0, .pointer (some x1)] w (fun e w' => ∃ v, e = .returned v ∧ Q v w') :=
  calls_of_wFn mixed W67_plan Try.func67 (by kernel_rfl) ((W67_eq x0 x1 w Q).mpr h)

/-! ### 68: (*hartix/hartixref13.Table).there -/
def W68_plan : Plan := .z
def W68 (x0 : Option Addr) (x1 : Int) (w : World) (Q : Value → World → Prop) : Prop :=
cond (decide (x1 ≥ (0 : Int))) (
cond (decide (x1 < (64 : Int))) (
nlW x0 fun a1 =>
((0 ≤ x1 ∧ x1 < ((64 : Nat) : Int)) ∧
∃ n2 : Int, w.cell? ((a1.add (x1.toNat * 7)).add 1) = some (.int .i64 n2) ∧
Q (.bool (n2 != (0 : Int))) w)) (
Q (.bool false) w)) (
Q (.bool false) w)
set_option maxRecDepth 100000 in
theorem W68_eq (x0 : Option Addr) (x1 : Int) (w : World) (Q : Value → World → Prop) : wFn Try.prog Try.f68 W68_plan [.pointer x0, .int .i64 x1] w Q = W68 x0 x1 w Q := by kernel_rfl
set_option maxRecDepth 100000 in
theorem W68_ok (x0 : Option Addr) (x1 : Int) (w : World) (Q : Value → World → Prop) (h : W68 x0 x1 w Q) : Calls Try.prog 68 #[.pointer x0, .int .i64 x1] w (fun e w' => ∃ v, e = .returned v ∧ Q v w') :=
  calls_of_wFn mixed W68_plan Try.func68 (by kernel_rfl) ((W68_eq x0 x1 w Q).mpr h)

/-! ### 69: (*hartix/hartixref13.Table).least -/
def W69_plan : Plan := (.n .z (.n (.n .z (.cut [2, 3, 4, 5, 6, 7, 8, 9, 10, 11, 12, 13, 14, 15, 16] [(3, .int .i64)] .z .z)) .z))
def W69 (x0 : Option Addr) (w : World) (Q : Value → World → Prop) : Prop :=
∃ (I1 : (Int × Unit) → World → Prop) (m2 : (Int × Unit) → World → Nat), (∃ t : Int × Unit, ([.int .i64 (0 : Int)] : List Value) = tv [(3, .int .i64)] t ∧ I1 t w) ∧
∀ (_ : Env) (t3 : Int × Unit) (w4 : World), I1 t3 w4 →
(fun w : World =>
cond (decide (t3.1 < (64 : Int))) (
nlW x0 fun a5 =>
((0 ≤ t3.1 ∧ t3.1 < ((64 : Nat) : Int)) ∧
∃ n6 : Int, w.cell? ((a5.add (t3.1.toNat * 7)).add 1) = some (.int .i64 n6) ∧
cond (n6 == (0 : Int)) (
Q (.int .i64 t3.1) w) (
∃ t' : Int × Unit, ([.int .i64 (IntKind.i64.wrap (t3.1 + (1 : Int)))] : List Value) = tv [(3, .int .i64)] t' ∧ I1 t' w ∧ m2 t' w < m2 t3 w4))) (
Q (.int .i64 (-1 : Int)) w)) w4
set_option maxRecDepth 100000 in
theorem W69_eq (x0 : Option Addr) (w : World) (Q : Value → World → Prop) : wFn Try.prog Try.f69 W69_plan [.pointer x0] w Q = W69 x0 w Q := by kernel_rfl
set_option maxRecDepth 100000 in
theorem W69_ok (x0 : Option Addr) (w : World) (Q : Value → World → Prop) (h : W69 x0 w Q) : Calls Try.prog 69 #[.pointer x0] w (fun e w' => ∃ v, e = .returned v ∧ Q v w') :=
  calls_of_wFn mixed W69_plan Try.func69 (by kernel_rfl) ((W69_eq x0 w Q).mpr h)

/-! ### 70: hartix/hartixref13.channel -/
def W70_plan : Plan := .z
def W70 (x0 : Array Value) (w : World) (Q : Value → World → Prop) : Prop :=
newW x0 26 w fun a1 w =>
∃ n2 : Int, w.cell? a1 = some (.int .i64 n2) ∧
cond (decide (n2 ≥ (1 : Int))) (
∃ n3 : Int, w.cell? a1 = some (.int .i64 n3) ∧
cond (decide (n3 ≤ (5 : Int))) (
∃ n4 : Int, w.cell? (a1.add 1) = some (.int .i64 n4) ∧
Q (.bool (decide (n4 ≥ (0 : Int)))) w) (
Q (.bool false) w)) (
Q (.bool false) w)
set_option maxRecDepth 100000 in
theorem W70_eq (x0 : Array Value) (w : World) (Q : Value → World → Prop) : wFn Try.prog Try.f70 W70_plan [.agg x0] w Q = W70 x0 w Q := by kernel_rfl
set_option maxRecDepth 100000 in
theorem W70_ok (x0 : Array Value) (w : World) (Q : Value → World → Prop) (h : W70 x0 w Q) : Calls Try.prog 70 #[.agg x0] w (fun e w' => ∃ v, e = .returned v ∧ Q v w') :=
  calls_of_wFn mixed W70_plan Try.func70 (by kernel_rfl) ((W70_eq x0 w Q).mpr h)

/-! ### 71: (*hartix/hartixref13.Table).up -/
def W71_plan : Plan := .z
def W71 (x0 : Option Addr) (x1 : Int) (w : World) (Q : Value → World → Prop) : Prop :=
nlW x0 fun a1 =>
((0 ≤ x1 ∧ x1 < ((64 : Nat) : Int)) ∧
stC ((a1.add (x1.toNat * 7)).add 1) (.int .i64 (1 : Int)) w fun w =>
∃ g2 : Array Value, bldP Try.prog 26 [] (.agg g2) ∧
nlW x0 fun a3 =>
((0 ≤ x1 ∧ x1 < ((64 : Nat) : Int)) ∧
stA 2 ((a3.add (x1.toNat * 7)).add 3) g2 w fun w =>
Q (.tuple #[]) w))
set_option maxRecDepth 100000 in
theorem W71_eq (x0 : Option Addr) (x1 : Int) (w : World) (Q : Value → World → Prop) : wFn Try.prog Try.f71 W71_plan [.pointer x0, .int .i64 x1] w Q = W71 x0 x1 w Q := by kernel_rfl
set_option maxRecDepth 100000 in
theorem W71_ok (x0 : Option Addr) (x1 : Int) (w : World) (Q : Value → World → Prop) (h : W71 x0 x1 w Q) : Calls Try.prog 71 #[.pointer x0, .int .i64 x1] w (fun e w' => ∃ v, e = .returned v ∧ Q v w') :=
  calls_of_wFn mixed W71_plan Try.func71 (by kernel_rfl) ((W71_eq x0 x1 w Q).mpr h)

/-! ### 72: (*hartix/hartixref13.Table).child -/
def W72_plan : Plan := .z
def W72 (x0 : Option Addr) (x1 : Int) (x2 : Int) (w : World) (Q : Value → World → Prop) : Prop :=
cond (x1 != (0 : Int)) (
nlW x0 fun a1 =>
((0 ≤ x1 ∧ x1 < ((64 : Nat) : Int)) ∧
∃ n2 : Int, w.cell? ((a1.add (x1.toNat * 7)).add 1) = some (.int .i64 n2) ∧
cond (n2 != (0 : Int)) (
nlW x0 fun a3 =>
((0 ≤ x1 ∧ x1 < ((64 : Nat) : Int)) ∧
∃ n4 : Int, w.cell? ((a3.add (x1.toNat * 7)).add 2) = some (.int .i64 n4) ∧
Q (.bool (n4 == x2)) w)) (
Q (.bool false) w))) (
Q (.bool false) w)
set_option maxRecDepth 100000 in
theorem W72_eq (x0 : Option Addr) (x1 : Int) (x2 : Int) (w : World) (Q : Value → World → Prop) : wFn Try.prog Try.f72 W72_plan [.pointer x0, .int .i64 x1, .int .i64 x2] w Q = W72 x0 x1 x2 w Q := by kernel_rfl
set_option maxRecDepth 100000 in
theorem W72_ok (x0 : Option Addr) (x1 : Int) (x2 : Int) (w : World) (Q : Value → World → Prop) (h : W72 x0 x1 x2 w Q) : Calls Try.prog 72 #[.pointer x0, .int .i64 x1, .int .i64 x2] w (fun e w' => ∃ v, e = .returned v ∧ Q v w') :=
  calls_of_wFn mixed W72_plan Try.func72 (by kernel_rfl) ((W72_eq x0 x1 x2 w Q).mpr h)

/-! ### 73: hartix/hartixref13.parented -/
def W73_plan : Plan := .z
def W73 (x0 : Array Value) (x1 : Int) (w : World) (Q : Value → World → Prop) : Prop :=
newW x0 31 w fun a1 w =>
((0 ≤ x1 ∧ x1 < ((64 : Nat) : Int)) ∧
∃ g2 : Array Value, g2.size = 7 ∧ RowAt w (a1.add (x1.toNat * 7)) g2 ∧
newW #[.int .i64 0, .int .i64 0, .int .i64 0, .int .i64 0, .int .i64 0, .bool false, .int .i32 0] 28 w fun a3 w =>
stA 7 a3 g2 w fun w =>
cond (x1 == (0 : Int)) (
∃ n4 : Int, w.cell? (a3.add 2) = some (.int .i64 n4) ∧
cond (n4 == (0 : Int)) (
∃ n5 : Int, w.cell? a3 = some (.int .i64 n5) ∧
Q (.bool (n5 == (1 : Int))) w) (
Q (.bool false) w)) (
∃ n6 : Int, w.cell? (a3.add 2) = some (.int .i64 n6) ∧
cond (decide (n6 < (0 : Int))) (
Q (.bool false) w) (
∃ n7 : Int, w.cell? (a3.add 2) = some (.int .i64 n7) ∧
cond (decide (n7 ≥ (64 : Int))) (
Q (.bool false) w) (
∃ n8 : Int, w.cell? (a3.add 2) = some (.int .i64 n8) ∧
((0 ≤ n8 ∧ n8 < ((64 : Nat) : Int)) ∧
∃ g9 : Array Value, g9.size = 7 ∧ RowAt w (a1.add (n8.toNat * 7)) g9 ∧
newW #[.int .i64 0, .int .i64 0, .int .i64 0, .int .i64 0, .int .i64 0, .bool false, .int .i32 0] 28 w fun a10 w =>
stA 7 a10 g9 w fun w =>
∃ n11 : Int, w.cell? (a10.add 1) = some (.int .i64 n11) ∧
cond (n11 == (0 : Int)) (
Q (.bool false) w) (
∃ n12 : Int, w.cell? a10 = some (.int .i64 n12) ∧
∃ n13 : Int, w.cell? a3 = some (.int .i64 n13) ∧
cond (decide (n12 ≥ n13)) (
Q (.bool false) w) (
∃ n14 : Int, w.cell? (a3.add 2) = some (.int .i64 n14) ∧
cond (n14 == (0 : Int)) (
Q (.bool true) w) (
∃ n15 : Int, w.cell? (a10.add 1) = some (.int .i64 n15) ∧
Q (.bool (n15 != (3 : Int))) w))))))))
set_option maxRecDepth 100000 in
theorem W73_eq (x0 : Array Value) (x1 : Int) (w : World) (Q : Value → World → Prop) : wFn Try.prog Try.f73 W73_plan [.agg x0, .int .i64 x1] w Q = W73 x0 x1 w Q := by kernel_rfl
set_option maxRecDepth 100000 in
theorem W73_ok (x0 : Array Value) (x1 : Int) (w : World) (Q : Value → World → Prop) (h : W73 x0 x1 w Q) : Calls Try.prog 73 #[.agg x0, .int .i64 x1] w (fun e w' => ∃ v, e = .returned v ∧ Q v w') :=
  calls_of_wFn mixed W73_plan Try.func73 (by kernel_rfl) ((W73_eq x0 x1 w Q).mpr h)

end Go.Proofs.Ythihjppjollekaa
