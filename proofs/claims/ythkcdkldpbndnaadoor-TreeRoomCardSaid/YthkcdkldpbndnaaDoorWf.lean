/- The walk's functions of this seat, printed by a program of mine (wgen.py) out of Lean's own print of the loaded functions; each is tied to the loaded function by the kernel. No condition. -/
import Derived.Test.YthkcdkldpbndnaaDoorRows
import Derived.Test.YthkcdkldpbndnaaDoorHz
import Derived.Test.YthkcdkldpbndnaaDoorWt
set_option linter.unusedVariables false
namespace Go.Proofs.YthkcdkldpbndnaaDoor
open Go.RowKit Go.Hx
/-! ### 29: hartix/hartixlaw12.desk -/
def W29_plan : Plan := (.n .z (.n .z (.n (.cut [12, 13, 14, 15, 16, 17] [(17, .bool)] .z .z) .z)))
def W29  (w : World) (Q : Value → World → Prop) : Prop :=
Calls Tryd.prog 44 #[.int .i64 (200 : Int)] w fun e w =>
∃ p1 : Option Addr, ∃ v2 : Value, e = .returned (.tuple #[.pointer p1, v2]) ∧
∃ J3 : (Bool × Unit) → World → Prop, (∀ (_ : Env) (t4 : Bool × Unit) (w : World), J3 t4 w →
cond t4.1 (
Q (.tuple #[.pointer none, .pointer none, .pointer none]) w) (
Calls Tryd.prog 45 #[.pointer p1] w fun e w =>
∃ p5 : Option Addr, ∃ n6 : Int, e = .returned (.tuple #[.pointer p5, .int .i64 n6]) ∧
cond (n6 != (0 : Int)) (
Q (.tuple #[.pointer none, .pointer none, .pointer none]) w) (
Calls Tryd.prog 47 #[] w fun e w =>
∃ p7 : Option Addr, e = .returned (.pointer p7) ∧
Calls Tryd.prog 46 #[.pointer p5, .pointer p7] w fun e w =>
∃ p8 : Option Addr, e = .returned (.pointer p8) ∧
Q (.tuple #[.pointer p5, .pointer p7, .pointer p8]) w))) ∧
∃ b9 : Bool, isNilI v2 = some b9 ∧
cond (!b9) (
∃ t : Bool × Unit, ([.bool true] : List Value) = tv [(17, .bool)] t ∧ J3 t w) (
∃ t : Bool × Unit, ([.bool p1.isNone] : List Value) = tv [(17, .bool)] t ∧ J3 t w)
set_option maxRecDepth 100000 in
theorem W29_eq  (w : World) (Q : Value → World → Prop) : wFn Tryd.prog Tryd.f29 W29_plan [] w Q = W29  w Q := by kernel_rfl
set_option maxRecDepth 100000 in
theorem W29_ok  (w : World) (Q : Value → World → Prop) (h : W29  w Q) : Calls Tryd.prog 29 #[] w (fun e w' => ∃ v, e = .returned v ∧ Q v w') :=
  calls_of_wFn mixed W29_plan Tryd.func29 (by kernel_rfl) ((W29_eq  w Q).mpr h)

/-! ### 30: (*hartix/file.Files).Pipe -/
def W30_plan : Plan := .z
def W30 (x0 : Option Addr) (w : World) (Q : Value → World → Prop) : Prop :=
Calls Tryd.prog 85 #[.pointer x0] w fun e w =>
∃ b1 : Bool, e = .returned (.bool b1) ∧
cond b1 (
Q (.tuple #[.int .i64 (0 : Int), .int .i64 (0 : Int), .int .i64 (3 : Int)]) w) (
nlW x0 fun a2 =>
Calls Tryd.prog 86 #[.pointer (some (a2.add 2))] w fun e w =>
∃ n3 : Int, e = .returned (.int .i64 n3) ∧
cond (decide (n3 < (2 : Int))) (
Q (.tuple #[.int .i64 (0 : Int), .int .i64 (0 : Int), .int .i64 (241 : Int)]) w) (
nlW x0 fun a4 =>
Calls Tryd.prog 87 #[.pointer (some (a4.add 3))] w fun e w =>
∃ n5 : Int, e = .returned (.int .i64 n5) ∧
cond (n5 == (0 : Int)) (
Q (.tuple #[.int .i64 (0 : Int), .int .i64 (0 : Int), .int .i64 (242 : Int)]) w) (
nlW x0 fun a6 =>
Calls Tryd.prog 89 #[] w.drew fun e w =>
∃ p7 : Option Addr, e = .returned (.pointer p7) ∧
Calls Tryd.prog 88 #[.pointer (some (a6.add 3)), .pointer p7] w fun e w =>
∃ n8 : Int, e = .returned (.int .i64 n8) ∧
∃ g9 : Array Value, bldP Tryd.prog 61 [(1, .int .i64 (2 : Int)), (3, .bool true), (7, .int .i64 n8)] (.agg g9) ∧
Calls Tryd.prog 90 #[.pointer x0, .agg g9] w fun e w =>
∃ n10 : Int, e = .returned (.int .i64 n10) ∧
∃ g11 : Array Value, bldP Tryd.prog 61 [(1, .int .i64 (3 : Int)), (4, .bool true), (7, .int .i64 n8)] (.agg g11) ∧
Calls Tryd.prog 90 #[.pointer x0, .agg g11] w fun e w =>
∃ n12 : Int, e = .returned (.int .i64 n12) ∧
Q (.tuple #[.int .i64 n10, .int .i64 n12, .int .i64 (0 : Int)]) w)))
set_option maxRecDepth 100000 in
theorem W30_eq (x0 : Option Addr) (w : World) (Q : Value → World → Prop) : wFn Tryd.prog Tryd.f30 W30_plan [.pointer x0] w Q = W30 x0 w Q := by kernel_rfl
set_option maxRecDepth 100000 in
theorem W30_ok (x0 : Option Addr) (w : World) (Q : Value → World → Prop) (h : W30 x0 w Q) : Calls Tryd.prog 30 #[.pointer x0] w (fun e w' => ∃ v, e = .returned v ∧ Q v w') :=
  calls_of_wFn mixed W30_plan Tryd.func30 (by kernel_rfl) ((W30_eq x0 w Q).mpr h)

/-! ### 31: (*hartix/file.Files).Look -/
def W31_plan : Plan := .z
def W31 (x0 : Option Addr) (x1 : Int) (w : World) (Q : Value → World → Prop) : Prop :=
newW #[.int .i64 0, .int .i64 0, .int .i64 0, .bool false, .bool false, .int .i64 0, .int .i64 0, .int .i64 0] 61 w fun a1 w =>
Calls Tryd.prog 91 #[.pointer x0, .int .i64 x1] w fun e w =>
∃ p2 : Option Addr, ∃ n3 : Int, e = .returned (.tuple #[.pointer p2, .int .i64 n3]) ∧
cond (n3 != (0 : Int)) (
∃ g4 : Array Value, bldP Tryd.prog 61 [] (.agg g4) ∧
stA 8 a1 g4 w fun w =>
∃ g5 : Array Value, g5.size = 8 ∧ RowAt w a1 g5 ∧
Q (.agg g5) w) (
nlW p2 fun a6 =>
∃ g7 : Array Value, g7.size = 8 ∧ RowAt w a6 g7 ∧
stA 8 a1 g7 w fun w =>
∃ g8 : Array Value, g8.size = 8 ∧ RowAt w a1 g8 ∧
Q (.agg g8) w)
set_option maxRecDepth 100000 in
theorem W31_eq (x0 : Option Addr) (x1 : Int) (w : World) (Q : Value → World → Prop) : wFn Tryd.prog Tryd.f31 W31_plan [.pointer x0, .int .i64 x1] w Q = W31 x0 x1 w Q := by kernel_rfl
set_option maxRecDepth 100000 in
theorem W31_ok (x0 : Option Addr) (x1 : Int) (w : World) (Q : Value → World → Prop) (h : W31 x0 x1 w Q) : Calls Tryd.prog 31 #[.pointer x0, .int .i64 x1] w (fun e w' => ∃ v, e = .returned v ∧ Q v w') :=
  calls_of_wFn mixed W31_plan Tryd.func31 (by kernel_rfl) ((W31_eq x0 x1 w Q).mpr h)

/-! ### 32: (*hartix/file.Files).Write -/
def W32_plan : Plan := (.n .z (.n .z (.n (.cut [15, 16, 17, 18, 19, 20, 21, 22, 23, 24] [(24, .bool)] .z .z) .z)))
def W32 (x0 : Option Addr) (x1 : Int) (x2b : Option Addr) (x2l x2c : Nat) (w : World) (Q : Value → World → Prop) : Prop :=
newW #[.int .i64 0, .int .i64 0, .slice none 0 0, .int .i64 0, .int .i64 0, .slice none 0 0] 67 w fun a1 w =>
Calls Tryd.prog 91 #[.pointer x0, .int .i64 x1] w fun e w =>
∃ p2 : Option Addr, ∃ n3 : Int, e = .returned (.tuple #[.pointer p2, .int .i64 n3]) ∧
∃ J4 : (Bool × Unit) → World → Prop, (∀ (_ : Env) (t5 : Bool × Unit) (w : World), J4 t5 w →
cond t5.1 (
∃ g6 : Array Value, bldP Tryd.prog 67 [(0, .int .i64 (3 : Int))] (.agg g6) ∧
stA 6 a1 g6 w fun w =>
∃ g7 : Array Value, g7.size = 6 ∧ RowAt w a1 g7 ∧
Q (.agg g7) w) (
nlW p2 fun a8 =>
∃ p9 : Option Addr, w.cell? (a8.add 8) = some (.pointer p9) ∧
nlW p9 fun a10 =>
∃ v11 : Value, w.cell? (a10.add 1) = some (v11) ∧
calV Tryd.prog v11 [.pointer x0, .pointer p2, .slice x2b x2l x2c] w fun e w =>
∃ g12 : Array Value, e = .returned (.agg g12) ∧
stA 6 a1 g12 w fun w =>
∃ g13 : Array Value, g13.size = 6 ∧ RowAt w a1 g13 ∧
Q (.agg g13) w)) ∧
cond (n3 != (0 : Int)) (
∃ t : Bool × Unit, ([.bool true] : List Value) = tv [(24, .bool)] t ∧ J4 t w) (
nlW p2 fun a14 =>
∃ b15 : Bool, w.cell? (a14.add 4) = some (.bool b15) ∧
∃ t : Bool × Unit, ([.bool (!b15)] : List Value) = tv [(24, .bool)] t ∧ J4 t w)
set_option maxRecDepth 100000 in
theorem W32_eq (x0 : Option Addr) (x1 : Int) (x2b : Option Addr) (x2l x2c : Nat) (w : World) (Q : Value → World → Prop) : wFn Tryd.prog Tryd.f32 W32_plan [.pointer x0, .int .i64 x1, .slice x2b x2l x2c] w Q = W32 x0 x1 x2b x2l x2c w Q := by kernel_rfl
set_option maxRecDepth 100000 in
theorem W32_ok (x0 : Option Addr) (x1 : Int) (x2b : Option Addr) (x2l x2c : Nat) (w : World) (Q : Value → World → Prop) (h : W32 x0 x1 x2b x2l x2c w Q) : Calls Tryd.prog 32 #[.pointer x0, .int .i64 x1, .slice x2b x2l x2c] w (fun e w' => ∃ v, e = .returned v ∧ Q v w') :=
  calls_of_wFn mixed W32_plan Tryd.func32 (by kernel_rfl) ((W32_eq x0 x1 x2b x2l x2c w Q).mpr h)

/-! ### 33: hartix/hartixlaw12.chans -/
def W33_plan : Plan := (.n .z (.n .z (.n (.n .z (.cut [4, 5, 11, 12, 13, 14, 15, 16, 17, 18, 19, 20, 21, 22, 23, 24, 25] [(5, .int .i64)] .z .z)) .z)))
def W33 (x0b : Option Addr) (x0l x0c : Nat) (x1b : Option Addr) (x1l x1c : Nat) (w : World) (Q : Value → World → Prop) : Prop :=
cond (((x0l : Nat) : Int) != ((x1l : Nat) : Int)) (
Q (.bool false) w) (
∃ (I1 : (Int × Unit) → World → Prop) (m2 : (Int × Unit) → World → Nat), (∃ t : Int × Unit, ([.int .i64 (0 : Int)] : List Value) = tv [(5, .int .i64)] t ∧ I1 t w) ∧
∀ (_ : Env) (t3 : Int × Unit) (w4 : World), I1 t3 w4 →
(fun w : World =>
cond (decide (t3.1 < ((x0l : Nat) : Int))) (
nlW x0b fun a5 =>
((0 ≤ t3.1 ∧ t3.1 < ((x0l : Nat) : Int)) ∧
∃ g6 : Array Value, g6.size = 2 ∧ RowAt w.drew (a5.add (t3.1.toNat * 2)) g6 ∧
nlW x1b fun a7 =>
((0 ≤ t3.1 ∧ t3.1 < ((x1l : Nat) : Int)) ∧
∃ g8 : Array Value, g8.size = 2 ∧ RowAt w.drew (a7.add (t3.1.toNat * 2)) g8 ∧
∃ b9 : Bool, AggEq Tryd.prog 64 g6 g8 b9 ∧
cond (!b9) (
Q (.bool false) w.drew) (
∃ t' : Int × Unit, ([.int .i64 (IntKind.i64.wrap (t3.1 + (1 : Int)))] : List Value) = tv [(5, .int .i64)] t' ∧ I1 t' w.drew ∧ m2 t' w.drew < m2 t3 w4)))) (
Q (.bool true) w)) w4)
set_option maxRecDepth 100000 in
theorem W33_eq (x0b : Option Addr) (x0l x0c : Nat) (x1b : Option Addr) (x1l x1c : Nat) (w : World) (Q : Value → World → Prop) : wFn Tryd.prog Tryd.f33 W33_plan [.slice x0b x0l x0c, .slice x1b x1l x1c] w Q = W33 x0b x0l x0c x1b x1l x1c w Q := by kernel_rfl
set_option maxRecDepth 100000 in
theorem W33_ok (x0b : Option Addr) (x0l x0c : Nat) (x1b : Option Addr) (x1l x1c : Nat) (w : World) (Q : Value → World → Prop) (h : W33 x0b x0l x0c x1b x1l x1c w Q) : Calls Tryd.prog 33 #[.slice x0b x0l x0c, .slice x1b x1l x1c] w (fun e w' => ∃ v, e = .returned v ∧ Q v w') :=
  calls_of_wFn mixed W33_plan Tryd.func33 (by kernel_rfl) ((W33_eq x0b x0l x0c x1b x1l x1c w Q).mpr h)

/-! ### 34: (*hartix/file.Files).Peek -/
def W34_plan : Plan := .z
def W34 (x0 : Option Addr) (x1 : Int) (x2 : Int) (w : World) (Q : Value → World → Prop) : Prop :=
newW #[.int .i64 0, .slice none 0 0, .int .i64 0, .int .i64 0, .slice none 0 0] 71 w fun a1 w =>
Calls Tryd.prog 92 #[.pointer x0, .int .i64 x1, .int .i64 x2, .bool false] w fun e w =>
∃ g2 : Array Value, e = .returned (.agg g2) ∧
stA 5 a1 g2 w fun w =>
∃ g3 : Array Value, g3.size = 5 ∧ RowAt w a1 g3 ∧
Q (.agg g3) w
set_option maxRecDepth 100000 in
theorem W34_eq (x0 : Option Addr) (x1 : Int) (x2 : Int) (w : World) (Q : Value → World → Prop) : wFn Tryd.prog Tryd.f34 W34_plan [.pointer x0, .int .i64 x1, .int .i64 x2] w Q = W34 x0 x1 x2 w Q := by kernel_rfl
set_option maxRecDepth 100000 in
theorem W34_ok (x0 : Option Addr) (x1 : Int) (x2 : Int) (w : World) (Q : Value → World → Prop) (h : W34 x0 x1 x2 w Q) : Calls Tryd.prog 34 #[.pointer x0, .int .i64 x1, .int .i64 x2] w (fun e w' => ∃ v, e = .returned v ∧ Q v w') :=
  calls_of_wFn mixed W34_plan Tryd.func34 (by kernel_rfl) ((W34_eq x0 x1 x2 w Q).mpr h)

/-! ### 35: (*hartix/file.Files).Read -/
def W35_plan : Plan := .z
def W35 (x0 : Option Addr) (x1 : Int) (x2 : Int) (w : World) (Q : Value → World → Prop) : Prop :=
newW #[.int .i64 0, .slice none 0 0, .int .i64 0, .int .i64 0, .slice none 0 0] 71 w fun a1 w =>
Calls Tryd.prog 92 #[.pointer x0, .int .i64 x1, .int .i64 x2, .bool true] w fun e w =>
∃ g2 : Array Value, e = .returned (.agg g2) ∧
stA 5 a1 g2 w fun w =>
∃ g3 : Array Value, g3.size = 5 ∧ RowAt w a1 g3 ∧
Q (.agg g3) w
set_option maxRecDepth 100000 in
theorem W35_eq (x0 : Option Addr) (x1 : Int) (x2 : Int) (w : World) (Q : Value → World → Prop) : wFn Tryd.prog Tryd.f35 W35_plan [.pointer x0, .int .i64 x1, .int .i64 x2] w Q = W35 x0 x1 x2 w Q := by kernel_rfl
set_option maxRecDepth 100000 in
theorem W35_ok (x0 : Option Addr) (x1 : Int) (x2 : Int) (w : World) (Q : Value → World → Prop) (h : W35 x0 x1 x2 w Q) : Calls Tryd.prog 35 #[.pointer x0, .int .i64 x1, .int .i64 x2] w (fun e w' => ∃ v, e = .returned v ∧ Q v w') :=
  calls_of_wFn mixed W35_plan Tryd.func35 (by kernel_rfl) ((W35_eq x0 x1 x2 w Q).mpr h)

/-! ### 36: hartix/hartixlaw12.got -/
def W36_plan : Plan := .z
def W36 (x0 : Array Value) (x1 : Array Value) (w : World) (Q : Value → World → Prop) : Prop :=
newW x0 71 w fun a1 w =>
newW x1 71 w fun a2 w =>
∃ n3 : Int, w.cell? a1 = some (.int .i64 n3) ∧
∃ n4 : Int, w.cell? a2 = some (.int .i64 n4) ∧
cond (n3 == n4) (
∃ g5 : Array Value, g5.size = 2 ∧ RowAt w (a1.add 2) g5 ∧
∃ g6 : Array Value, g6.size = 2 ∧ RowAt w (a2.add 2) g6 ∧
∃ b7 : Bool, AggEq Tryd.prog 64 g5 g6 b7 ∧
cond b7 (
∃ (q8b : Option Addr) (q8l q8c : Nat), w.cell? (a1.add 1) = some (.slice q8b q8l q8c) ∧
∃ (q9b : Option Addr) (q9l q9c : Nat), w.cell? (a2.add 1) = some (.slice q9b q9l q9c) ∧
Calls Tryd.prog 21 #[.slice q8b q8l q8c, .slice q9b q9l q9c] w fun e w =>
∃ b10 : Bool, e = .returned (.bool b10) ∧
cond b10 (
∃ (q11b : Option Addr) (q11l q11c : Nat), w.cell? (a1.add 4) = some (.slice q11b q11l q11c) ∧
∃ (q12b : Option Addr) (q12l q12c : Nat), w.cell? (a2.add 4) = some (.slice q12b q12l q12c) ∧
Calls Tryd.prog 33 #[.slice q11b q11l q11c, .slice q12b q12l q12c] w fun e w =>
∃ b13 : Bool, e = .returned (.bool b13) ∧
Q (.bool b13) w) (
Q (.bool false) w)) (
Q (.bool false) w)) (
Q (.bool false) w)
set_option maxRecDepth 100000 in
theorem W36_eq (x0 : Array Value) (x1 : Array Value) (w : World) (Q : Value → World → Prop) : wFn Tryd.prog Tryd.f36 W36_plan [.agg x0, .agg x1] w Q = W36 x0 x1 w Q := by kernel_rfl
set_option maxRecDepth 100000 in
theorem W36_ok (x0 : Array Value) (x1 : Array Value) (w : World) (Q : Value → World → Prop) (h : W36 x0 x1 w Q) : Calls Tryd.prog 36 #[.agg x0, .agg x1] w (fun e w' => ∃ v, e = .returned v ∧ Q v w') :=
  calls_of_wFn mixed W36_plan Tryd.func36 (by kernel_rfl) ((W36_eq x0 x1 w Q).mpr h)

/-! ### 37: (*hartix/file.Files).Drop -/
def W37_plan : Plan := .z
def W37 (x0 : Option Addr) (x1 : Int) (w : World) (Q : Value → World → Prop) : Prop :=
Calls Tryd.prog 91 #[.pointer x0, .int .i64 x1] w fun e w =>
∃ p1 : Option Addr, ∃ n2 : Int, e = .returned (.tuple #[.pointer p1, .int .i64 n2]) ∧
cond (n2 != (0 : Int)) (
Q (.tuple #[.slice none 0 0, .int .i64 n2]) w) (
nlW p1 fun a3 =>
∃ n4 : Int, w.cell? (a3.add 2) = some (.int .i64 n4) ∧
nlW p1 fun a5 =>
stC (a5.add 2) (.int .i64 (IntKind.i64.wrap (n4 - (1 : Int)))) w fun w =>
nlW p1 fun a6 =>
∃ n7 : Int, w.cell? (a6.add 2) = some (.int .i64 n7) ∧
cond (decide (n7 > (0 : Int))) (
Q (.tuple #[.slice none 0 0, .int .i64 (0 : Int)]) w) (
nlW x0 fun a8 =>
∃ (q9b : Option Addr) (q9l q9c : Nat), w.cell? (a8.add 2) = some (.slice q9b q9l q9c) ∧
nlW q9b fun a10 =>
((0 ≤ x1 ∧ x1 < ((q9l : Nat) : Int)) ∧
stC (a10.add (x1.toNat * 1)) (.pointer none) w fun w =>
nlW p1 fun a11 =>
∃ p12 : Option Addr, w.cell? (a11.add 8) = some (.pointer p12) ∧
nlW p12 fun a13 =>
∃ v14 : Value, w.cell? (a13.add 2) = some (v14) ∧
calV Tryd.prog v14 [.pointer x0, .pointer p1] w fun e w =>
∃ (q15b : Option Addr) (q15l q15c : Nat), e = .returned (.slice q15b q15l q15c) ∧
Q (.tuple #[.slice q15b q15l q15c, .int .i64 (0 : Int)]) w)))
set_option maxRecDepth 100000 in
theorem W37_eq (x0 : Option Addr) (x1 : Int) (w : World) (Q : Value → World → Prop) : wFn Tryd.prog Tryd.f37 W37_plan [.pointer x0, .int .i64 x1] w Q = W37 x0 x1 w Q := by kernel_rfl
set_option maxRecDepth 100000 in
theorem W37_ok (x0 : Option Addr) (x1 : Int) (w : World) (Q : Value → World → Prop) (h : W37 x0 x1 w Q) : Calls Tryd.prog 37 #[.pointer x0, .int .i64 x1] w (fun e w' => ∃ v, e = .returned v ∧ Q v w') :=
  calls_of_wFn mixed W37_plan Tryd.func37 (by kernel_rfl) ((W37_eq x0 x1 w Q).mpr h)

/-! ### 38: (*hartix/file.Files).Pipes -/
def W38_plan : Plan := (.n .z (.n (.cut [6, 7, 8, 9, 10, 11, 12, 13, 14, 15] [(15, .bool)] .z .z) .z))
def W38 (x0 : Option Addr) (x1 : Int) (w : World) (Q : Value → World → Prop) : Prop :=
newW #[.int .i64 0, .slice none 0 0, .int .u32 0, .int .u32 0, .bool false, .bool false] 80 w fun a1 w =>
∃ J2 : (Bool × Unit) → World → Prop, (∀ (_ : Env) (t3 : Bool × Unit) (w : World), J2 t3 w →
cond t3.1 (
∃ g4 : Array Value, bldP Tryd.prog 80 [] (.agg g4) ∧
stA 6 a1 g4 w fun w =>
∃ g5 : Array Value, g5.size = 6 ∧ RowAt w a1 g5 ∧
Q (.tuple #[.agg g5, .bool false]) w) (
nlW x0 fun a6 =>
Calls Tryd.prog 93 #[.pointer (some (a6.add 3)), .int .i64 x1] w fun e w =>
∃ p7 : Option Addr, e = .returned (.pointer p7) ∧
Calls Tryd.prog 94 #[.pointer p7] w fun e w =>
∃ g8 : Array Value, e = .returned (.agg g8) ∧
∃ g9 : Array Value, bldP Tryd.prog 80 [(0, .int .i64 x1), (1, .agg g8)] (.agg g9) ∧
stA 6 a1 g9 w fun w =>
∃ g10 : Array Value, g10.size = 6 ∧ RowAt w a1 g10 ∧
Q (.tuple #[.agg g10, .bool true]) w)) ∧
Calls Tryd.prog 85 #[.pointer x0] w fun e w =>
∃ b11 : Bool, e = .returned (.bool b11) ∧
cond b11 (
∃ t : Bool × Unit, ([.bool true] : List Value) = tv [(15, .bool)] t ∧ J2 t w) (
nlW x0 fun a12 =>
Calls Tryd.prog 93 #[.pointer (some (a12.add 3)), .int .i64 x1] w fun e w =>
∃ p13 : Option Addr, e = .returned (.pointer p13) ∧
∃ t : Bool × Unit, ([.bool p13.isNone] : List Value) = tv [(15, .bool)] t ∧ J2 t w)
set_option maxRecDepth 100000 in
theorem W38_eq (x0 : Option Addr) (x1 : Int) (w : World) (Q : Value → World → Prop) : wFn Tryd.prog Tryd.f38 W38_plan [.pointer x0, .int .i64 x1] w Q = W38 x0 x1 w Q := by kernel_rfl
set_option maxRecDepth 100000 in
theorem W38_ok (x0 : Option Addr) (x1 : Int) (w : World) (Q : Value → World → Prop) (h : W38 x0 x1 w Q) : Calls Tryd.prog 38 #[.pointer x0, .int .i64 x1] w (fun e w' => ∃ v, e = .returned v ∧ Q v w') :=
  calls_of_wFn mixed W38_plan Tryd.func38 (by kernel_rfl) ((W38_eq x0 x1 w Q).mpr h)

/-! ### 39: (*hartix/file.Files).Open -/
def W39_plan : Plan := (.n .z (.n .z (.n (.n .z (.cut [20, 21, 22, 23, 24, 25, 26, 27] [(20, .bool)] .z .z)) .z)))
def W39 (x0 : Option Addr) (x1 : Int) (x2 : Bool) (x3 : Bool) (w : World) (Q : Value → World → Prop) : Prop :=
Calls Tryd.prog 85 #[.pointer x0] w fun e w =>
∃ b1 : Bool, e = .returned (.bool b1) ∧
cond b1 (
Q (.tuple #[.int .i64 (0 : Int), .int .i64 (3 : Int)]) w) (
nlW x0 fun a2 =>
∃ p3 : Option Addr, w.cell? a2 = some (.pointer p3) ∧
Calls Tryd.prog 54 #[.pointer p3, .int .i64 x1] w fun e w =>
∃ g4 : Array Value, e = .returned (.agg g4) ∧
∃ n5 : Int, g4[2]? = some (.int .i16 n5) ∧
∃ J6 : (Bool × Unit) → World → Prop, (∀ (_ : Env) (t7 : Bool × Unit) (w : World), J6 t7 w →
cond t7.1 (
Q (.tuple #[.int .i64 (0 : Int), .int .i64 (243 : Int)]) w) (
nlW x0 fun a8 =>
Calls Tryd.prog 86 #[.pointer (some (a8.add 2))] w fun e w =>
∃ n9 : Int, e = .returned (.int .i64 n9) ∧
cond (n9 == (0 : Int)) (
Q (.tuple #[.int .i64 (0 : Int), .int .i64 (241 : Int)]) w) (
nlW x0 fun a10 =>
∃ p11 : Option Addr, w.cell? a10 = some (.pointer p11) ∧
Calls Tryd.prog 52 #[.pointer p11, .int .i64 x1] w fun e w =>
∃ n12 : Int, e = .returned (.int .i64 n12) ∧
cond (n12 != (0 : Int)) (
Q (.tuple #[.int .i64 (0 : Int), .int .i64 (243 : Int)]) w) (
∃ g13 : Array Value, bldP Tryd.prog 61 [(1, .int .i64 (1 : Int)), (3, .bool x2), (4, .bool x3), (5, .int .i64 x1)] (.agg g13) ∧
Calls Tryd.prog 90 #[.pointer x0, .agg g13] w fun e w =>
∃ n14 : Int, e = .returned (.int .i64 n14) ∧
Q (.tuple #[.int .i64 n14, .int .i64 (0 : Int)]) w)))) ∧
cond (n5 == (0 : Int)) (
∃ t : Bool × Unit, ([.bool (n5 == (0 : Int))] : List Value) = tv [(20, .bool)] t ∧ J6 t w) (
cond (n5 == (1 : Int)) (
∃ t : Bool × Unit, ([.bool x3] : List Value) = tv [(20, .bool)] t ∧ J6 t w) (
∃ t : Bool × Unit, ([.bool false] : List Value) = tv [(20, .bool)] t ∧ J6 t w)))
set_option maxRecDepth 100000 in
theorem W39_eq (x0 : Option Addr) (x1 : Int) (x2 : Bool) (x3 : Bool) (w : World) (Q : Value → World → Prop) : wFn Tryd.prog Tryd.f39 W39_plan [.pointer x0, .int .i64 x1, .bool x2, .bool x3] w Q = W39 x0 x1 x2 x3 w Q := by kernel_rfl
set_option maxRecDepth 100000 in
theorem W39_ok (x0 : Option Addr) (x1 : Int) (x2 : Bool) (x3 : Bool) (w : World) (Q : Value → World → Prop) (h : W39 x0 x1 x2 x3 w Q) : Calls Tryd.prog 39 #[.pointer x0, .int .i64 x1, .bool x2, .bool x3] w (fun e w' => ∃ v, e = .returned v ∧ Q v w') :=
  calls_of_wFn mixed W39_plan Tryd.func39 (by kernel_rfl) ((W39_eq x0 x1 x2 x3 w Q).mpr h)

/-! ### 40: (*hartix/file.Files).Stat -/
def W40_plan : Plan := .z
def W40 (x0 : Option Addr) (x1 : Int) (w : World) (Q : Value → World → Prop) : Prop :=
newW #[.int .i32 0, .int .u32 0, .int .i16 0, .int .i16 0, .int .u64 0] 102 w fun a1 w =>
Calls Tryd.prog 91 #[.pointer x0, .int .i64 x1] w fun e w =>
∃ p2 : Option Addr, ∃ n3 : Int, e = .returned (.tuple #[.pointer p2, .int .i64 n3]) ∧
cond (n3 != (0 : Int)) (
∃ g4 : Array Value, bldP Tryd.prog 102 [] (.agg g4) ∧
stA 5 a1 g4 w fun w =>
∃ g5 : Array Value, g5.size = 5 ∧ RowAt w a1 g5 ∧
Q (.tuple #[.agg g5, .int .i64 n3]) w) (
nlW p2 fun a6 =>
∃ n7 : Int, w.cell? (a6.add 1) = some (.int .i64 n7) ∧
cond (n7 != (1 : Int)) (
∃ g8 : Array Value, bldP Tryd.prog 102 [] (.agg g8) ∧
stA 5 a1 g8 w fun w =>
∃ g9 : Array Value, g9.size = 5 ∧ RowAt w a1 g9 ∧
Q (.tuple #[.agg g9, .int .i64 (245 : Int)]) w) (
nlW x0 fun a10 =>
∃ S11 : World → Prop, S11 w.drew ∧
∃ p12 : Option Addr, (∀ w', S11 w' → w'.cell? a10 = some (.pointer p12)) ∧
nlW p2 fun a13 =>
∃ n14 : Int, (∀ w', S11 w' → w'.cell? (a13.add 5) = some (.int .i64 n14)) ∧
Calls Tryd.prog 54 #[.pointer p12, .int .i64 n14] w.drew fun e w =>
∃ g15 : Array Value, e = .returned (.agg g15) ∧
stA 5 a1 g15 w fun w =>
∃ g16 : Array Value, g16.size = 5 ∧ RowAt w a1 g16 ∧
Q (.tuple #[.agg g16, .int .i64 (0 : Int)]) w))
set_option maxRecDepth 100000 in
theorem W40_eq (x0 : Option Addr) (x1 : Int) (w : World) (Q : Value → World → Prop) : wFn Tryd.prog Tryd.f40 W40_plan [.pointer x0, .int .i64 x1] w Q = W40 x0 x1 w Q := by kernel_rfl
set_option maxRecDepth 100000 in
theorem W40_ok (x0 : Option Addr) (x1 : Int) (w : World) (Q : Value → World → Prop) (h : W40 x0 x1 w Q) : Calls Tryd.prog 40 #[.pointer x0, .int .i64 x1] w (fun e w' => ∃ v, e = .returned v ∧ Q v w') :=
  calls_of_wFn mixed W40_plan Tryd.func40 (by kernel_rfl) ((W40_eq x0 x1 w Q).mpr h)

/-! ### 41: (*hartix/file.Files).Left -/
def W41_plan : Plan := .z
def W41 (x0 : Option Addr) (w : World) (Q : Value → World → Prop) : Prop :=
Calls Tryd.prog 85 #[.pointer x0] w fun e w =>
∃ b1 : Bool, e = .returned (.bool b1) ∧
cond b1 (
Q (.tuple #[.int .i64 (0 : Int), .int .i64 (0 : Int)]) w) (
nlW x0 fun a2 =>
nlW x0 fun a3 =>
Calls Tryd.prog 86 #[.pointer (some (a2.add 2))] w.drew fun e w =>
∃ n4 : Int, e = .returned (.int .i64 n4) ∧
Calls Tryd.prog 87 #[.pointer (some (a3.add 3))] w fun e w =>
∃ n5 : Int, e = .returned (.int .i64 n5) ∧
Q (.tuple #[.int .i64 n4, .int .i64 n5]) w)
set_option maxRecDepth 100000 in
theorem W41_eq (x0 : Option Addr) (w : World) (Q : Value → World → Prop) : wFn Tryd.prog Tryd.f41 W41_plan [.pointer x0] w Q = W41 x0 w Q := by kernel_rfl
set_option maxRecDepth 100000 in
theorem W41_ok (x0 : Option Addr) (w : World) (Q : Value → World → Prop) (h : W41 x0 w Q) : Calls Tryd.prog 41 #[.pointer x0] w (fun e w' => ∃ v, e = .returned v ∧ Q v w') :=
  calls_of_wFn mixed W41_plan Tryd.func41 (by kernel_rfl) ((W41_eq x0 w Q).mpr h)

/-! ### 42: (*hartix/file.Files).Hold -/
def W42_plan : Plan := .z
def W42 (x0 : Option Addr) (x1 : Int) (w : World) (Q : Value → World → Prop) : Prop :=
Calls Tryd.prog 91 #[.pointer x0, .int .i64 x1] w fun e w =>
∃ p1 : Option Addr, ∃ n2 : Int, e = .returned (.tuple #[.pointer p1, .int .i64 n2]) ∧
cond (n2 != (0 : Int)) (
Q (.int .i64 n2) w) (
nlW p1 fun a3 =>
∃ n4 : Int, w.cell? (a3.add 2) = some (.int .i64 n4) ∧
cond (decide (n4 ≥ (2147483647 : Int))) (
Q (.int .i64 (244 : Int)) w) (
nlW p1 fun a5 =>
∃ n6 : Int, w.cell? (a5.add 2) = some (.int .i64 n6) ∧
nlW p1 fun a7 =>
stC (a7.add 2) (.int .i64 (IntKind.i64.wrap (n6 + (1 : Int)))) w fun w =>
Q (.int .i64 (0 : Int)) w))
set_option maxRecDepth 100000 in
theorem W42_eq (x0 : Option Addr) (x1 : Int) (w : World) (Q : Value → World → Prop) : wFn Tryd.prog Tryd.f42 W42_plan [.pointer x0, .int .i64 x1] w Q = W42 x0 x1 w Q := by kernel_rfl
set_option maxRecDepth 100000 in
theorem W42_ok (x0 : Option Addr) (x1 : Int) (w : World) (Q : Value → World → Prop) (h : W42 x0 x1 w Q) : Calls Tryd.prog 42 #[.pointer x0, .int .i64 x1] w (fun e w' => ∃ v, e = .returned v ∧ Q v w') :=
  calls_of_wFn mixed W42_plan Tryd.func42 (by kernel_rfl) ((W42_eq x0 x1 w Q).mpr h)

/-! ### 43: hartix/hartixlaw12.sent -/
def W43_plan : Plan := .z
def W43 (x0 : Array Value) (x1 : Array Value) (w : World) (Q : Value → World → Prop) : Prop :=
newW x0 67 w fun a1 w =>
newW x1 67 w fun a2 w =>
∃ n3 : Int, w.cell? a1 = some (.int .i64 n3) ∧
∃ n4 : Int, w.cell? a2 = some (.int .i64 n4) ∧
cond (n3 == n4) (
∃ n5 : Int, w.cell? (a1.add 1) = some (.int .i64 n5) ∧
∃ n6 : Int, w.cell? (a2.add 1) = some (.int .i64 n6) ∧
cond (n5 == n6) (
∃ g7 : Array Value, g7.size = 2 ∧ RowAt w (a1.add 3) g7 ∧
∃ g8 : Array Value, g8.size = 2 ∧ RowAt w (a2.add 3) g8 ∧
∃ b9 : Bool, AggEq Tryd.prog 64 g7 g8 b9 ∧
cond b9 (
∃ (q10b : Option Addr) (q10l q10c : Nat), w.cell? (a1.add 2) = some (.slice q10b q10l q10c) ∧
∃ (q11b : Option Addr) (q11l q11c : Nat), w.cell? (a2.add 2) = some (.slice q11b q11l q11c) ∧
Calls Tryd.prog 21 #[.slice q10b q10l q10c, .slice q11b q11l q11c] w fun e w =>
∃ b12 : Bool, e = .returned (.bool b12) ∧
cond b12 (
∃ (q13b : Option Addr) (q13l q13c : Nat), w.cell? (a1.add 5) = some (.slice q13b q13l q13c) ∧
∃ (q14b : Option Addr) (q14l q14c : Nat), w.cell? (a2.add 5) = some (.slice q14b q14l q14c) ∧
Calls Tryd.prog 33 #[.slice q13b q13l q13c, .slice q14b q14l q14c] w fun e w =>
∃ b15 : Bool, e = .returned (.bool b15) ∧
Q (.bool b15) w) (
Q (.bool false) w)) (
Q (.bool false) w)) (
Q (.bool false) w)) (
Q (.bool false) w)
set_option maxRecDepth 100000 in
theorem W43_eq (x0 : Array Value) (x1 : Array Value) (w : World) (Q : Value → World → Prop) : wFn Tryd.prog Tryd.f43 W43_plan [.agg x0, .agg x1] w Q = W43 x0 x1 w Q := by kernel_rfl
set_option maxRecDepth 100000 in
theorem W43_ok (x0 : Array Value) (x1 : Array Value) (w : World) (Q : Value → World → Prop) (h : W43 x0 x1 w Q) : Calls Tryd.prog 43 #[.agg x0, .agg x1] w (fun e w' => ∃ v, e = .returned v ∧ Q v w') :=
  calls_of_wFn mixed W43_plan Tryd.func43 (by kernel_rfl) ((W43_eq x0 x1 w Q).mpr h)

/-! ### 46: hartix/file.New -/
def W46_plan : Plan := .z
def W46 (x0 : Option Addr) (x1 : Option Addr) (w : World) (Q : Value → World → Prop) : Prop :=
cond x0.isNone (
Q (.pointer none) w) (
cond x1.isNone (
Q (.pointer none) w) (
Calls Tryd.prog 54 #[.pointer x0, .int .i64 (1 : Int)] w fun e w =>
∃ g1 : Array Value, e = .returned (.agg g1) ∧
∃ n2 : Int, g1[2]? = some (.int .i16 n2) ∧
cond (n2 == (0 : Int)) (
Q (.pointer none) w) (
Calls Tryd.prog 100 #[.pointer x1] w fun e w =>
∃ b3 : Bool, e = .returned (.bool b3) ∧
cond (!b3) (
Q (.pointer none) w) (
Calls Tryd.prog 101 #[.int .i64 (100 : Int)] w fun e w =>
∃ g4 : Array Value, e = .returned (.agg g4) ∧
Calls Tryd.prog 102 #[.int .i64 (32 : Int)] w fun e w =>
∃ g5 : Array Value, e = .returned (.agg g5) ∧
∃ g6 : Array Value, bldP Tryd.prog 97 [(0, .pointer x0), (1, .pointer x1), (2, .agg g4), (3, .agg g5)] (.agg g6) ∧
newW g6 97 w fun a7 w =>
∃ g8 : Array Value, bldP Tryd.prog 94 [(0, .func (.func 103) #[] #[]), (1, .func (.func 104) #[] #[]), (2, .func (.func 105) #[] #[])] (.agg g8) ∧
∃ g9 : Array Value, bldP Tryd.prog 94 [(0, .func (.func 106) #[] #[]), (1, .nilFunc), (2, .func (.func 107) #[] #[])] (.agg g9) ∧
∃ g10 : Array Value, bldP Tryd.prog 94 [(0, .nilFunc), (1, .func (.func 108) #[] #[]), (2, .func (.func 107) #[] #[])] (.agg g10) ∧
∃ g11 : Array Value, bldP Tryd.prog 95 [(1, .agg g8), (2, .agg g9), (3, .agg g10)] (.agg g11) ∧
stA 12 (a7.add 4) g11 w fun w =>
Q (.pointer (some a7)) w))))
set_option maxRecDepth 100000 in
theorem W46_eq (x0 : Option Addr) (x1 : Option Addr) (w : World) (Q : Value → World → Prop) : wFn Tryd.prog Tryd.f46 W46_plan [.pointer x0, .pointer x1] w Q = W46 x0 x1 w Q := by kernel_rfl
set_option maxRecDepth 100000 in
theorem W46_ok (x0 : Option Addr) (x1 : Option Addr) (w : World) (Q : Value → World → Prop) (h : W46 x0 x1 w Q) : Calls Tryd.prog 46 #[.pointer x0, .pointer x1] w (fun e w' => ∃ v, e = .returned v ∧ Q v w') :=
  calls_of_wFn mixed W46_plan Tryd.func46 (by kernel_rfl) ((W46_eq x0 x1 w Q).mpr h)

/-! ### 47: hartix/console.New -/
def W47_plan : Plan := .z
def W47  (w : World) (Q : Value → World → Prop) : Prop :=
∃ g1 : Array Value, bldP Tryd.prog 202 [(0, .bool true)] (.agg g1) ∧
newW g1 202 w fun a2 w =>
Q (.pointer (some a2)) w
set_option maxRecDepth 100000 in
theorem W47_eq  (w : World) (Q : Value → World → Prop) : wFn Tryd.prog Tryd.f47 W47_plan [] w Q = W47  w Q := by kernel_rfl
set_option maxRecDepth 100000 in
theorem W47_ok  (w : World) (Q : Value → World → Prop) (h : W47  w Q) : Calls Tryd.prog 47 #[] w (fun e w' => ∃ v, e = .returned v ∧ Q v w') :=
  calls_of_wFn mixed W47_plan Tryd.func47 (by kernel_rfl) ((W47_eq  w Q).mpr h)

/-! ### 85: (*hartix/file.Files).none -/
def W85_plan : Plan := .z
def W85 (x0 : Option Addr) (w : World) (Q : Value → World → Prop) : Prop :=
cond x0.isNone (
Q (.bool true) w) (
nlW x0 fun a1 =>
∃ p2 : Option Addr, w.cell? a1 = some (.pointer p2) ∧
Q (.bool p2.isNone) w)
set_option maxRecDepth 100000 in
theorem W85_eq (x0 : Option Addr) (w : World) (Q : Value → World → Prop) : wFn Tryd.prog Tryd.f85 W85_plan [.pointer x0] w Q = W85 x0 w Q := by kernel_rfl
set_option maxRecDepth 100000 in
theorem W85_ok (x0 : Option Addr) (w : World) (Q : Value → World → Prop) (h : W85 x0 w Q) : Calls Tryd.prog 85 #[.pointer x0] w (fun e w' => ∃ v, e = .returned v ∧ Q v w') :=
  calls_of_wFn mixed W85_plan Tryd.func85 (by kernel_rfl) ((W85_eq x0 w Q).mpr h)

/-! ### 86: (*hartix/file.places[hartix/file.open]).left -/
def W86_plan : Plan := (.n .z (.n .z (.n (.n .z (.cut [3, 5, 11, 12, 13, 14, 15, 16, 17, 18, 19] [(3, .int .i64), (11, .int .i64)] .z .z)) .z)))
def W86 (x0 : Option Addr) (w : World) (Q : Value → World → Prop) : Prop :=
nlW x0 fun a1 =>
∃ (q2b : Option Addr) (q2l q2c : Nat), w.cell? a1 = some (.slice q2b q2l q2c) ∧
∃ (I3 : (Int × Int × Unit) → World → Prop) (m4 : (Int × Int × Unit) → World → Nat), (∃ t : Int × Int × Unit, ([.int .i64 (0 : Int), .int .i64 (0 : Int)] : List Value) = tv [(3, .int .i64), (11, .int .i64)] t ∧ I3 t w) ∧
∀ (_ : Env) (t5 : Int × Int × Unit) (w6 : World), I3 t5 w6 →
(fun w : World =>
cond (decide (t5.2.1 < ((q2l : Nat) : Int))) (
nlW q2b fun a7 =>
((0 ≤ t5.2.1 ∧ t5.2.1 < ((q2l : Nat) : Int)) ∧
∃ p8 : Option Addr, w.cell? (a7.add (t5.2.1.toNat * 1)) = some (.pointer p8) ∧
cond p8.isNone (
∃ t' : Int × Int × Unit, ([.int .i64 (IntKind.i64.wrap (t5.1 + (1 : Int))), .int .i64 (IntKind.i64.wrap (t5.2.1 + (1 : Int)))] : List Value) = tv [(3, .int .i64), (11, .int .i64)] t' ∧ I3 t' w ∧ m4 t' w < m4 t5 w6) (
∃ t' : Int × Int × Unit, ([.int .i64 t5.1, .int .i64 (IntKind.i64.wrap (t5.2.1 + (1 : Int)))] : List Value) = tv [(3, .int .i64), (11, .int .i64)] t' ∧ I3 t' w ∧ m4 t' w < m4 t5 w6))) (
Q (.int .i64 t5.1) w)) w6
set_option maxRecDepth 100000 in
theorem W86_eq (x0 : Option Addr) (w : World) (Q : Value → World → Prop) : wFn Tryd.prog Tryd.f86 W86_plan [.pointer x0] w Q = W86 x0 w Q := by kernel_rfl
set_option maxRecDepth 100000 in
theorem W86_ok (x0 : Option Addr) (w : World) (Q : Value → World → Prop) (h : W86 x0 w Q) : Calls Tryd.prog 86 #[.pointer x0] w (fun e w' => ∃ v, e = .returned v ∧ Q v w') :=
  calls_of_wFn mixed W86_plan Tryd.func86 (by kernel_rfl) ((W86_eq x0 w Q).mpr h)

/-! ### 87: (*hartix/file.places[hartix/pipe.Pipe]).left -/
def W87_plan : Plan := (.n .z (.n .z (.n (.n .z (.cut [3, 5, 11, 12, 13, 14, 15, 16, 17, 18, 19] [(3, .int .i64), (11, .int .i64)] .z .z)) .z)))
def W87 (x0 : Option Addr) (w : World) (Q : Value → World → Prop) : Prop :=
nlW x0 fun a1 =>
∃ (q2b : Option Addr) (q2l q2c : Nat), w.cell? a1 = some (.slice q2b q2l q2c) ∧
∃ (I3 : (Int × Int × Unit) → World → Prop) (m4 : (Int × Int × Unit) → World → Nat), (∃ t : Int × Int × Unit, ([.int .i64 (0 : Int), .int .i64 (0 : Int)] : List Value) = tv [(3, .int .i64), (11, .int .i64)] t ∧ I3 t w) ∧
∀ (_ : Env) (t5 : Int × Int × Unit) (w6 : World), I3 t5 w6 →
(fun w : World =>
cond (decide (t5.2.1 < ((q2l : Nat) : Int))) (
nlW q2b fun a7 =>
((0 ≤ t5.2.1 ∧ t5.2.1 < ((q2l : Nat) : Int)) ∧
∃ p8 : Option Addr, w.cell? (a7.add (t5.2.1.toNat * 1)) = some (.pointer p8) ∧
cond p8.isNone (
∃ t' : Int × Int × Unit, ([.int .i64 (IntKind.i64.wrap (t5.1 + (1 : Int))), .int .i64 (IntKind.i64.wrap (t5.2.1 + (1 : Int)))] : List Value) = tv [(3, .int .i64), (11, .int .i64)] t' ∧ I3 t' w ∧ m4 t' w < m4 t5 w6) (
∃ t' : Int × Int × Unit, ([.int .i64 t5.1, .int .i64 (IntKind.i64.wrap (t5.2.1 + (1 : Int)))] : List Value) = tv [(3, .int .i64), (11, .int .i64)] t' ∧ I3 t' w ∧ m4 t' w < m4 t5 w6))) (
Q (.int .i64 t5.1) w)) w6
set_option maxRecDepth 100000 in
theorem W87_eq (x0 : Option Addr) (w : World) (Q : Value → World → Prop) : wFn Tryd.prog Tryd.f87 W87_plan [.pointer x0] w Q = W87 x0 w Q := by kernel_rfl
set_option maxRecDepth 100000 in
theorem W87_ok (x0 : Option Addr) (w : World) (Q : Value → World → Prop) (h : W87 x0 w Q) : Calls Tryd.prog 87 #[.pointer x0] w (fun e w' => ∃ v, e = .returned v ∧ Q v w') :=
  calls_of_wFn mixed W87_plan Tryd.func87 (by kernel_rfl) ((W87_eq x0 w Q).mpr h)

/-! ### 88: (*hartix/file.places[hartix/pipe.Pipe]).put -/
def W88_plan : Plan := (.n .z (.n (.n .z (.cut [4, 5, 6, 12, 13, 14, 15, 16, 17, 18, 19, 20, 21, 22, 23, 24, 25, 26, 27] [(12, .int .i64)] .z .z)) .z))
def W88 (x0 : Option Addr) (x1 : Option Addr) (w : World) (Q : Value → World → Prop) : Prop :=
nlW x0 fun a1 =>
∃ (q2b : Option Addr) (q2l q2c : Nat), w.cell? a1 = some (.slice q2b q2l q2c) ∧
∃ (I3 : (Int × Unit) → World → Prop) (m4 : (Int × Unit) → World → Nat), (∃ t : Int × Unit, ([.int .i64 (0 : Int)] : List Value) = tv [(12, .int .i64)] t ∧ I3 t w) ∧
∀ (_ : Env) (t5 : Int × Unit) (w6 : World), I3 t5 w6 →
(fun w : World =>
cond (decide (t5.1 < ((q2l : Nat) : Int))) (
nlW q2b fun a7 =>
((0 ≤ t5.1 ∧ t5.1 < ((q2l : Nat) : Int)) ∧
∃ p8 : Option Addr, w.cell? (a7.add (t5.1.toNat * 1)) = some (.pointer p8) ∧
cond p8.isNone (
nlW x0 fun a9 =>
∃ (q10b : Option Addr) (q10l q10c : Nat), w.cell? a9 = some (.slice q10b q10l q10c) ∧
nlW q10b fun a11 =>
((0 ≤ t5.1 ∧ t5.1 < ((q10l : Nat) : Int)) ∧
stC (a11.add (t5.1.toNat * 1)) (.pointer x1) w fun w =>
Q (.int .i64 t5.1) w)) (
∃ t' : Int × Unit, ([.int .i64 (IntKind.i64.wrap (t5.1 + (1 : Int)))] : List Value) = tv [(12, .int .i64)] t' ∧ I3 t' w ∧ m4 t' w < m4 t5 w6))) (
Q (.int .i64 (-1 : Int)) w)) w6
set_option maxRecDepth 100000 in
theorem W88_eq (x0 : Option Addr) (x1 : Option Addr) (w : World) (Q : Value → World → Prop) : wFn Tryd.prog Tryd.f88 W88_plan [.pointer x0, .pointer x1] w Q = W88 x0 x1 w Q := by kernel_rfl
set_option maxRecDepth 100000 in
theorem W88_ok (x0 : Option Addr) (x1 : Option Addr) (w : World) (Q : Value → World → Prop) (h : W88 x0 x1 w Q) : Calls Tryd.prog 88 #[.pointer x0, .pointer x1] w (fun e w' => ∃ v, e = .returned v ∧ Q v w') :=
  calls_of_wFn mixed W88_plan Tryd.func88 (by kernel_rfl) ((W88_eq x0 x1 w Q).mpr h)

/-! ### 89: hartix/pipe.New -/
def W89_plan : Plan := .z
def W89  (w : World) (Q : Value → World → Prop) : Prop :=
∃ g1 : Array Value, bldP Tryd.prog 182 [(0, .bool true)] (.agg g1) ∧
newW g1 182 w fun a2 w =>
Q (.pointer (some a2)) w
set_option maxRecDepth 100000 in
theorem W89_eq  (w : World) (Q : Value → World → Prop) : wFn Tryd.prog Tryd.f89 W89_plan [] w Q = W89  w Q := by kernel_rfl
set_option maxRecDepth 100000 in
theorem W89_ok  (w : World) (Q : Value → World → Prop) (h : W89  w Q) : Calls Tryd.prog 89 #[] w (fun e w' => ∃ v, e = .returned v ∧ Q v w') :=
  calls_of_wFn mixed W89_plan Tryd.func89 (by kernel_rfl) ((W89_eq  w Q).mpr h)

/-! ### 90: (*hartix/file.Files).add -/
def W90_plan : Plan := .z
def W90 (x0 : Option Addr) (x1 : Array Value) (w : World) (Q : Value → World → Prop) : Prop :=
newW x1 61 w fun a1 w =>
∃ S2 : World → Prop, S2 w.drew ∧
∃ g3 : Array Value, g3.size = 8 ∧ (∀ w', S2 w' → RowAt w' a1 g3) ∧
∃ n4 : Int, (∀ w', S2 w' → w'.cell? (a1.add 1) = some (.int .i64 n4)) ∧
nlW x0 fun a5 =>
((0 ≤ n4 ∧ n4 < ((4 : Nat) : Int)) ∧
∃ g6 : Array Value, bldP Tryd.prog 178 [(0, .agg g3), (1, .pointer (some ((a5.add 4).add (n4.toNat * 3))))] (.agg g6) ∧
newW g6 178 w.drew fun a7 w =>
nlW x0 fun a8 =>
Calls Tryd.prog 124 #[.pointer (some (a8.add 2)), .pointer (some a7)] w fun e w =>
∃ n9 : Int, e = .returned (.int .i64 n9) ∧
stC a7 (.int .i64 n9) w fun w =>
stC (a7.add 2) (.int .i64 (1 : Int)) w fun w =>
Q (.int .i64 n9) w)
set_option maxRecDepth 100000 in
theorem W90_eq (x0 : Option Addr) (x1 : Array Value) (w : World) (Q : Value → World → Prop) : wFn Tryd.prog Tryd.f90 W90_plan [.pointer x0, .agg x1] w Q = W90 x0 x1 w Q := by kernel_rfl
set_option maxRecDepth 100000 in
theorem W90_ok (x0 : Option Addr) (x1 : Array Value) (w : World) (Q : Value → World → Prop) (h : W90 x0 x1 w Q) : Calls Tryd.prog 90 #[.pointer x0, .agg x1] w (fun e w' => ∃ v, e = .returned v ∧ Q v w') :=
  calls_of_wFn mixed W90_plan Tryd.func90 (by kernel_rfl) ((W90_eq x0 x1 w Q).mpr h)

/-! ### 91: (*hartix/file.Files).file -/
def W91_plan : Plan := .z
def W91 (x0 : Option Addr) (x1 : Int) (w : World) (Q : Value → World → Prop) : Prop :=
Calls Tryd.prog 85 #[.pointer x0] w fun e w =>
∃ b1 : Bool, e = .returned (.bool b1) ∧
cond b1 (
Q (.tuple #[.pointer none, .int .i64 (3 : Int)]) w) (
nlW x0 fun a2 =>
Calls Tryd.prog 125 #[.pointer (some (a2.add 2)), .int .i64 x1] w fun e w =>
∃ p3 : Option Addr, e = .returned (.pointer p3) ∧
cond p3.isNone (
Q (.tuple #[.pointer none, .int .i64 (240 : Int)]) w) (
Q (.tuple #[.pointer p3, .int .i64 (0 : Int)]) w))
set_option maxRecDepth 100000 in
theorem W91_eq (x0 : Option Addr) (x1 : Int) (w : World) (Q : Value → World → Prop) : wFn Tryd.prog Tryd.f91 W91_plan [.pointer x0, .int .i64 x1] w Q = W91 x0 x1 w Q := by kernel_rfl
set_option maxRecDepth 100000 in
theorem W91_ok (x0 : Option Addr) (x1 : Int) (w : World) (Q : Value → World → Prop) (h : W91 x0 x1 w Q) : Calls Tryd.prog 91 #[.pointer x0, .int .i64 x1] w (fun e w' => ∃ v, e = .returned v ∧ Q v w') :=
  calls_of_wFn mixed W91_plan Tryd.func91 (by kernel_rfl) ((W91_eq x0 x1 w Q).mpr h)

/-! ### 92: (*hartix/file.Files).got -/
def W92_plan : Plan := (.n .z (.n .z (.n (.cut [17, 18, 19, 20, 21, 22, 23, 24, 25, 26, 27, 28, 29, 30] [(30, .bool)] .z .z) .z)))
def W92 (x0 : Option Addr) (x1 : Int) (x2 : Int) (x3 : Bool) (w : World) (Q : Value → World → Prop) : Prop :=
newW #[.int .i64 0, .slice none 0 0, .int .i64 0, .int .i64 0, .slice none 0 0] 71 w fun a1 w =>
Calls Tryd.prog 91 #[.pointer x0, .int .i64 x1] w fun e w =>
∃ p2 : Option Addr, ∃ n3 : Int, e = .returned (.tuple #[.pointer p2, .int .i64 n3]) ∧
∃ J4 : (Bool × Unit) → World → Prop, (∀ (_ : Env) (t5 : Bool × Unit) (w : World), J4 t5 w →
cond t5.1 (
∃ g6 : Array Value, bldP Tryd.prog 71 [(0, .int .i64 (3 : Int))] (.agg g6) ∧
stA 5 a1 g6 w fun w =>
∃ g7 : Array Value, g7.size = 5 ∧ RowAt w a1 g7 ∧
Q (.agg g7) w) (
nlW p2 fun a8 =>
∃ p9 : Option Addr, w.cell? (a8.add 8) = some (.pointer p9) ∧
nlW p9 fun a10 =>
∃ v11 : Value, w.cell? a10 = some (v11) ∧
calV Tryd.prog v11 [.pointer x0, .pointer p2, .int .i64 x2, .bool x3] w fun e w =>
∃ g12 : Array Value, e = .returned (.agg g12) ∧
stA 5 a1 g12 w fun w =>
∃ g13 : Array Value, g13.size = 5 ∧ RowAt w a1 g13 ∧
Q (.agg g13) w)) ∧
cond (n3 != (0 : Int)) (
∃ t : Bool × Unit, ([.bool true] : List Value) = tv [(30, .bool)] t ∧ J4 t w) (
nlW p2 fun a14 =>
∃ b15 : Bool, w.cell? (a14.add 3) = some (.bool b15) ∧
cond (!b15) (
∃ t : Bool × Unit, ([.bool true] : List Value) = tv [(30, .bool)] t ∧ J4 t w) (
∃ t : Bool × Unit, ([.bool (decide (x2 < (0 : Int)))] : List Value) = tv [(30, .bool)] t ∧ J4 t w))
set_option maxRecDepth 100000 in
theorem W92_eq (x0 : Option Addr) (x1 : Int) (x2 : Int) (x3 : Bool) (w : World) (Q : Value → World → Prop) : wFn Tryd.prog Tryd.f92 W92_plan [.pointer x0, .int .i64 x1, .int .i64 x2, .bool x3] w Q = W92 x0 x1 x2 x3 w Q := by kernel_rfl
set_option maxRecDepth 100000 in
theorem W92_ok (x0 : Option Addr) (x1 : Int) (x2 : Int) (x3 : Bool) (w : World) (Q : Value → World → Prop) (h : W92 x0 x1 x2 x3 w Q) : Calls Tryd.prog 92 #[.pointer x0, .int .i64 x1, .int .i64 x2, .bool x3] w (fun e w' => ∃ v, e = .returned v ∧ Q v w') :=
  calls_of_wFn mixed W92_plan Tryd.func92 (by kernel_rfl) ((W92_eq x0 x1 x2 x3 w Q).mpr h)

/-! ### 93: (*hartix/file.places[hartix/pipe.Pipe]).get -/
def W93_plan : Plan := .z
def W93 (x0 : Option Addr) (x1 : Int) (w : World) (Q : Value → World → Prop) : Prop :=
cond (decide (x1 < (0 : Int))) (
Q (.pointer none) w) (
nlW x0 fun a1 =>
∃ (q2b : Option Addr) (q2l q2c : Nat), w.cell? a1 = some (.slice q2b q2l q2c) ∧
cond (decide (x1 ≥ ((q2l : Nat) : Int))) (
Q (.pointer none) w) (
nlW x0 fun a3 =>
∃ (q4b : Option Addr) (q4l q4c : Nat), w.cell? a3 = some (.slice q4b q4l q4c) ∧
nlW q4b fun a5 =>
((0 ≤ x1 ∧ x1 < ((q4l : Nat) : Int)) ∧
∃ p6 : Option Addr, w.cell? (a5.add (x1.toNat * 1)) = some (.pointer p6) ∧
Q (.pointer p6) w)))
set_option maxRecDepth 100000 in
theorem W93_eq (x0 : Option Addr) (x1 : Int) (w : World) (Q : Value → World → Prop) : wFn Tryd.prog Tryd.f93 W93_plan [.pointer x0, .int .i64 x1] w Q = W93 x0 x1 w Q := by kernel_rfl
set_option maxRecDepth 100000 in
theorem W93_ok (x0 : Option Addr) (x1 : Int) (w : World) (Q : Value → World → Prop) (h : W93 x0 x1 w Q) : Calls Tryd.prog 93 #[.pointer x0, .int .i64 x1] w (fun e w' => ∃ v, e = .returned v ∧ Q v w') :=
  calls_of_wFn mixed W93_plan Tryd.func93 (by kernel_rfl) ((W93_eq x0 x1 w Q).mpr h)

/-! ### 94: (*hartix/pipe.Pipe).State -/
def W94_plan : Plan := .z
def W94 (x0 : Option Addr) (w : World) (Q : Value → World → Prop) : Prop :=
newW #[.slice none 0 0, .int .u32 0, .int .u32 0, .bool false, .bool false] 78 w fun a1 w =>
Calls Tryd.prog 126 #[.pointer x0] w fun e w =>
∃ b2 : Bool, e = .returned (.bool b2) ∧
cond (!b2) (
∃ g3 : Array Value, bldP Tryd.prog 78 [] (.agg g3) ∧
stA 5 a1 g3 w fun w =>
∃ g4 : Array Value, g4.size = 5 ∧ RowAt w a1 g4 ∧
Q (.agg g4) w) (
nlW x0 fun a5 =>
∃ S6 : World → Prop, S6 w.drew ∧
∃ n7 : Int, (∀ w', S6 w' → w'.cell? (a5.add 514) = some (.int .i64 n7)) ∧
nlW x0 fun a8 =>
∃ n9 : Int, (∀ w', S6 w' → w'.cell? (a8.add 515) = some (.int .u32 n9)) ∧
nlW x0 fun a10 =>
∃ n11 : Int, (∀ w', S6 w' → w'.cell? (a10.add 516) = some (.int .u32 n11)) ∧
nlW x0 fun a12 =>
((0 ≤ (0 : Int) ∧ (0 : Int) < ((2 : Nat) : Int)) ∧
∃ b13 : Bool, (∀ w', S6 w' → w'.cell? ((a12.add 517).add ((0 : Int).toNat * 1)) = some (.bool b13)) ∧
nlW x0 fun a14 =>
((0 ≤ (1 : Int) ∧ (1 : Int) < ((2 : Nat) : Int)) ∧
∃ b15 : Bool, (∀ w', S6 w' → w'.cell? ((a14.add 517).add ((1 : Int).toNat * 1)) = some (.bool b15)) ∧
Calls Tryd.prog 127 #[.pointer x0, .int .i64 n7] w.drew fun e w =>
∃ (q16b : Option Addr) (q16l q16c : Nat), e = .returned (.slice q16b q16l q16c) ∧
∃ S17 : World → Prop, (∀ w', S17 w' → S6 w') ∧ S17 w ∧
∃ g18 : Array Value, bldP Tryd.prog 78 [(0, .slice q16b q16l q16c), (1, .int .u32 n9), (2, .int .u32 n11), (3, .bool (!b13)), (4, .bool (!b15))] (.agg g18) ∧
stA 5 a1 g18 w fun w =>
∃ g19 : Array Value, g19.size = 5 ∧ RowAt w a1 g19 ∧
Q (.agg g19) w)))
set_option maxRecDepth 100000 in
theorem W94_eq (x0 : Option Addr) (w : World) (Q : Value → World → Prop) : wFn Tryd.prog Tryd.f94 W94_plan [.pointer x0] w Q = W94 x0 w Q := by kernel_rfl
set_option maxRecDepth 100000 in
theorem W94_ok (x0 : Option Addr) (w : World) (Q : Value → World → Prop) (h : W94 x0 w Q) : Calls Tryd.prog 94 #[.pointer x0] w (fun e w' => ∃ v, e = .returned v ∧ Q v w') :=
  calls_of_wFn mixed W94_plan Tryd.func94 (by kernel_rfl) ((W94_eq x0 w Q).mpr h)

/-! ### 100: hartix/file.lives -/
def W100_plan : Plan := .z
def W100 (x0 : Option Addr) (w : World) (Q : Value → World → Prop) : Prop :=
Calls Tryd.prog 130 #[.pointer x0] w fun e w =>
∃ g1 : Array Value, e = .returned (.agg g1) ∧
newW #[.slice none 0 0, .slice none 0 0] 232 w fun a2 w =>
stA 2 a2 g1 w fun w =>
∃ (q3b : Option Addr) (q3l q3c : Nat), w.cell? a2 = some (.slice q3b q3l q3c) ∧
∃ (q4b : Option Addr) (q4l q4c : Nat), w.cell? (a2.add 1) = some (.slice q4b q4l q4c) ∧
cond (decide ((IntKind.i64.wrap (((q3l : Nat) : Int) + ((q4l : Nat) : Int))) > (0 : Int))) (
Q (.bool true) w) (
Calls Tryd.prog 131 #[.pointer x0, .int .u8 (97 : Int)] w fun e w =>
∃ (q5b : Option Addr) (q5l q5c : Nat), ∃ b6 : Bool, e = .returned (.tuple #[.slice q5b q5l q5c, .bool b6]) ∧
Calls Tryd.prog 131 #[.pointer x0, .int .u8 (8 : Int)] w fun e w =>
∃ (q7b : Option Addr) (q7l q7c : Nat), ∃ b8 : Bool, e = .returned (.tuple #[.slice q7b q7l q7c, .bool b8]) ∧
Q (.bool (decide (((q5l : Nat) : Int) > (0 : Int)))) w)
set_option maxRecDepth 100000 in
theorem W100_eq (x0 : Option Addr) (w : World) (Q : Value → World → Prop) : wFn Tryd.prog Tryd.f100 W100_plan [.pointer x0] w Q = W100 x0 w Q := by kernel_rfl
set_option maxRecDepth 100000 in
theorem W100_ok (x0 : Option Addr) (w : World) (Q : Value → World → Prop) (h : W100 x0 w Q) : Calls Tryd.prog 100 #[.pointer x0] w (fun e w' => ∃ v, e = .returned v ∧ Q v w') :=
  calls_of_wFn mixed W100_plan Tryd.func100 (by kernel_rfl) ((W100_eq x0 w Q).mpr h)

/-! ### 101: hartix/file.newPlaces[hartix/file.open] -/
def W101_plan : Plan := .z
def W101 (x0 : Int) (w : World) (Q : Value → World → Prop) : Prop :=
newW #[.slice none 0 0] 86 w fun a1 w =>
((0 ≤ x0 ∧ x0 ≤ x0 ∧ x0 ≤ 9223372036854775807 ∧ ((8 : Nat) : Int) * x0 ≤ 281474976710656) ∧
newW ((Array.range (x0.toNat * 1)).map (fun x => (#[.pointer none] : Array Value)[x % (#[.pointer none] : Array Value).size]!)) 187 w fun a2 w =>
∃ g3 : Array Value, bldP Tryd.prog 86 [(0, .slice (some a2) x0.toNat x0.toNat)] (.agg g3) ∧
stA 1 a1 g3 w fun w =>
∃ g4 : Array Value, g4.size = 1 ∧ RowAt w a1 g4 ∧
Q (.agg g4) w)
set_option maxRecDepth 100000 in
theorem W101_eq (x0 : Int) (w : World) (Q : Value → World → Prop) : wFn Tryd.prog Tryd.f101 W101_plan [.int .i64 x0] w Q = W101 x0 w Q := by kernel_rfl
set_option maxRecDepth 100000 in
theorem W101_ok (x0 : Int) (w : World) (Q : Value → World → Prop) (h : W101 x0 w Q) : Calls Tryd.prog 101 #[.int .i64 x0] w (fun e w' => ∃ v, e = .returned v ∧ Q v w') :=
  calls_of_wFn mixed W101_plan Tryd.func101 (by kernel_rfl) ((W101_eq x0 w Q).mpr h)

/-! ### 102: hartix/file.newPlaces[hartix/pipe.Pipe] -/
def W102_plan : Plan := .z
def W102 (x0 : Int) (w : World) (Q : Value → World → Prop) : Prop :=
newW #[.slice none 0 0] 89 w fun a1 w =>
((0 ≤ x0 ∧ x0 ≤ x0 ∧ x0 ≤ 9223372036854775807 ∧ ((8 : Nat) : Int) * x0 ≤ 281474976710656) ∧
newW ((Array.range (x0.toNat * 1)).map (fun x => (#[.pointer none] : Array Value)[x % (#[.pointer none] : Array Value).size]!)) 184 w fun a2 w =>
∃ g3 : Array Value, bldP Tryd.prog 89 [(0, .slice (some a2) x0.toNat x0.toNat)] (.agg g3) ∧
stA 1 a1 g3 w fun w =>
∃ g4 : Array Value, g4.size = 1 ∧ RowAt w a1 g4 ∧
Q (.agg g4) w)
set_option maxRecDepth 100000 in
theorem W102_eq (x0 : Int) (w : World) (Q : Value → World → Prop) : wFn Tryd.prog Tryd.f102 W102_plan [.int .i64 x0] w Q = W102 x0 w Q := by kernel_rfl
set_option maxRecDepth 100000 in
theorem W102_ok (x0 : Int) (w : World) (Q : Value → World → Prop) (h : W102 x0 w Q) : Calls Tryd.prog 102 #[.int .i64 x0] w (fun e w' => ∃ v, e = .returned v ∧ Q v w') :=
  calls_of_wFn mixed W102_plan Tryd.func102 (by kernel_rfl) ((W102_eq x0 w Q).mpr h)

/-! ### 103: hartix/file.readIno -/
def W103_plan : Plan := .z
def W103 (x0 : Option Addr) (x1 : Option Addr) (x2 : Int) (x3 : Bool) (w : World) (Q : Value → World → Prop) : Prop :=
newW #[.int .i64 0, .slice none 0 0, .int .i64 0, .int .i64 0, .slice none 0 0] 71 w fun a1 w =>
nlW x0 fun a2 =>
∃ S3 : World → Prop, S3 w.drew ∧
∃ p4 : Option Addr, (∀ w', S3 w' → w'.cell? a2 = some (.pointer p4)) ∧
nlW x1 fun a5 =>
∃ n6 : Int, (∀ w', S3 w' → w'.cell? (a5.add 5) = some (.int .i64 n6)) ∧
((Calls Tryd.prog 27 #[.pointer p4, .int .i64 n6] w.drew fun e w =>
∃ g7 : Array Value, e = .returned (.agg g7) ∧
newW #[.int .i64 0, .int .i64 0, .int .i16 0, .int .i16 0, .int .i64 0, .int .i64 0, .int .i64 0, .slice none 0 0] 50 w fun a8 w =>
stA 8 a8 g7 w fun w =>
∃ n9 : Int, w.cell? (a8.add 1) = some (.int .i64 n9) ∧
cond (n9 == (3 : Int)) (
∃ n10 : Int, w.cell? (a8.add 2) = some (.int .i16 n10) ∧
Calls Tryd.prog 132 #[.pointer x0, .int .i64 (IntKind.i64.wrap n10), .int .i64 x2, .bool x3] w fun e w =>
∃ g11 : Array Value, e = .returned (.agg g11) ∧
stA 5 a1 g11 w fun w =>
∃ g12 : Array Value, g12.size = 5 ∧ RowAt w a1 g12 ∧
Q (.agg g12) w) (
nlW x0 fun a13 =>
∃ S14 : World → Prop, S14 w.drew ∧
∃ p15 : Option Addr, (∀ w', S14 w' → w'.cell? a13 = some (.pointer p15)) ∧
nlW x1 fun a16 =>
∃ n17 : Int, (∀ w', S14 w' → w'.cell? (a16.add 5) = some (.int .i64 n17)) ∧
nlW x1 fun a18 =>
∃ n19 : Int, (∀ w', S14 w' → w'.cell? (a18.add 6) = some (.int .i64 n19)) ∧
Calls Tryd.prog 28 #[.pointer p15, .int .i64 n17, .int .i64 n19, .int .i64 x2] w.drew fun e w =>
∃ (q20b : Option Addr) (q20l q20c : Nat), e = .returned (.slice q20b q20l q20c) ∧
cond x3 (
nlW x1 fun a21 =>
∃ n22 : Int, w.cell? (a21.add 6) = some (.int .i64 n22) ∧
nlW x1 fun a23 =>
stC (a23.add 6) (.int .i64 (IntKind.i64.wrap (n22 + ((q20l : Nat) : Int)))) w fun w =>
∃ g24 : Array Value, bldP Tryd.prog 71 [(0, .int .i64 (1 : Int)), (1, .slice q20b q20l q20c)] (.agg g24) ∧
stA 5 a1 g24 w fun w =>
∃ g25 : Array Value, g25.size = 5 ∧ RowAt w a1 g25 ∧
Q (.agg g25) w) (
∃ g26 : Array Value, bldP Tryd.prog 71 [(0, .int .i64 (1 : Int)), (1, .slice q20b q20l q20c)] (.agg g26) ∧
stA 5 a1 g26 w fun w =>
∃ g27 : Array Value, g27.size = 5 ∧ RowAt w a1 g27 ∧
Q (.agg g27) w))) ∧
(newW #[.int .i64 0, .int .i64 0, .int .i16 0, .int .i16 0, .int .i64 0, .int .i64 0, .int .i64 0, .slice none 0 0] 50 w.drew fun a28 w =>
∃ S29 : World → Prop, (∀ w', S29 w' → S3 w') ∧ S29 w ∧
Calls Tryd.prog 27 #[.pointer p4, .int .i64 n6] w fun e w =>
∃ g30 : Array Value, e = .returned (.agg g30) ∧
stA 8 a28 g30 w fun w =>
∃ n31 : Int, w.cell? (a28.add 1) = some (.int .i64 n31) ∧
cond (n31 == (3 : Int)) (
∃ n32 : Int, w.cell? (a28.add 2) = some (.int .i16 n32) ∧
Calls Tryd.prog 132 #[.pointer x0, .int .i64 (IntKind.i64.wrap n32), .int .i64 x2, .bool x3] w fun e w =>
∃ g33 : Array Value, e = .returned (.agg g33) ∧
stA 5 a1 g33 w fun w =>
∃ g34 : Array Value, g34.size = 5 ∧ RowAt w a1 g34 ∧
Q (.agg g34) w) (
nlW x0 fun a35 =>
∃ S36 : World → Prop, S36 w.drew ∧
∃ p37 : Option Addr, (∀ w', S36 w' → w'.cell? a35 = some (.pointer p37)) ∧
nlW x1 fun a38 =>
∃ n39 : Int, (∀ w', S36 w' → w'.cell? (a38.add 5) = some (.int .i64 n39)) ∧
nlW x1 fun a40 =>
∃ n41 : Int, (∀ w', S36 w' → w'.cell? (a40.add 6) = some (.int .i64 n41)) ∧
Calls Tryd.prog 28 #[.pointer p37, .int .i64 n39, .int .i64 n41, .int .i64 x2] w.drew fun e w =>
∃ (q42b : Option Addr) (q42l q42c : Nat), e = .returned (.slice q42b q42l q42c) ∧
cond x3 (
nlW x1 fun a43 =>
∃ n44 : Int, w.cell? (a43.add 6) = some (.int .i64 n44) ∧
nlW x1 fun a45 =>
stC (a45.add 6) (.int .i64 (IntKind.i64.wrap (n44 + ((q42l : Nat) : Int)))) w fun w =>
∃ g46 : Array Value, bldP Tryd.prog 71 [(0, .int .i64 (1 : Int)), (1, .slice q42b q42l q42c)] (.agg g46) ∧
stA 5 a1 g46 w fun w =>
∃ g47 : Array Value, g47.size = 5 ∧ RowAt w a1 g47 ∧
Q (.agg g47) w) (
∃ g48 : Array Value, bldP Tryd.prog 71 [(0, .int .i64 (1 : Int)), (1, .slice q42b q42l q42c)] (.agg g48) ∧
stA 5 a1 g48 w fun w =>
∃ g49 : Array Value, g49.size = 5 ∧ RowAt w a1 g49 ∧
Q (.agg g49) w))))
set_option maxRecDepth 100000 in
theorem W103_eq (x0 : Option Addr) (x1 : Option Addr) (x2 : Int) (x3 : Bool) (w : World) (Q : Value → World → Prop) : wFn Tryd.prog Tryd.f103 W103_plan [.pointer x0, .pointer x1, .int .i64 x2, .bool x3] w Q = W103 x0 x1 x2 x3 w Q := by kernel_rfl
set_option maxRecDepth 100000 in
theorem W103_ok (x0 : Option Addr) (x1 : Option Addr) (x2 : Int) (x3 : Bool) (w : World) (Q : Value → World → Prop) (h : W103 x0 x1 x2 x3 w Q) : Calls Tryd.prog 103 #[.pointer x0, .pointer x1, .int .i64 x2, .bool x3] w (fun e w' => ∃ v, e = .returned v ∧ Q v w') :=
  calls_of_wFn mixed W103_plan Tryd.func103 (by kernel_rfl) ((W103_eq x0 x1 x2 x3 w Q).mpr h)

/-! ### 104: hartix/file.writeIno -/
def W104_plan : Plan := .z
def W104 (x0 : Option Addr) (x1 : Option Addr) (x2b : Option Addr) (x2l x2c : Nat) (w : World) (Q : Value → World → Prop) : Prop :=
newW #[.int .i64 0, .int .i64 0, .slice none 0 0, .int .i64 0, .int .i64 0, .slice none 0 0] 67 w fun a1 w =>
nlW x0 fun a2 =>
∃ S3 : World → Prop, S3 w.drew ∧
∃ p4 : Option Addr, (∀ w', S3 w' → w'.cell? a2 = some (.pointer p4)) ∧
nlW x1 fun a5 =>
∃ n6 : Int, (∀ w', S3 w' → w'.cell? (a5.add 5) = some (.int .i64 n6)) ∧
((Calls Tryd.prog 27 #[.pointer p4, .int .i64 n6] w.drew fun e w =>
∃ g7 : Array Value, e = .returned (.agg g7) ∧
newW #[.int .i64 0, .int .i64 0, .int .i16 0, .int .i16 0, .int .i64 0, .int .i64 0, .int .i64 0, .slice none 0 0] 50 w fun a8 w =>
stA 8 a8 g7 w fun w =>
∃ n9 : Int, w.cell? (a8.add 1) = some (.int .i64 n9) ∧
cond (n9 == (3 : Int)) (
∃ n10 : Int, w.cell? (a8.add 2) = some (.int .i16 n10) ∧
cond (n10 != (1 : Int)) (
∃ g11 : Array Value, bldP Tryd.prog 67 [(0, .int .i64 (3 : Int))] (.agg g11) ∧
stA 6 a1 g11 w fun w =>
∃ g12 : Array Value, g12.size = 6 ∧ RowAt w a1 g12 ∧
Q (.agg g12) w) (
apnW Tryd.prog 24 24 (.slice none 0 0) (.slice x2b x2l x2c) w fun q13b q13l q13c w =>
∃ g14 : Array Value, bldP Tryd.prog 67 [(0, .int .i64 (1 : Int)), (1, .int .i64 ((x2l : Nat) : Int)), (2, .slice q13b q13l q13c)] (.agg g14) ∧
stA 6 a1 g14 w fun w =>
∃ g15 : Array Value, g15.size = 6 ∧ RowAt w a1 g15 ∧
Q (.agg g15) w)) (
nlW x0 fun a16 =>
∃ S17 : World → Prop, S17 w.drew ∧
∃ p18 : Option Addr, (∀ w', S17 w' → w'.cell? a16 = some (.pointer p18)) ∧
nlW x1 fun a19 =>
∃ n20 : Int, (∀ w', S17 w' → w'.cell? (a19.add 5) = some (.int .i64 n20)) ∧
nlW x1 fun a21 =>
∃ n22 : Int, (∀ w', S17 w' → w'.cell? (a21.add 6) = some (.int .i64 n22)) ∧
Calls Tryd.prog 25 #[.pointer p18, .int .i64 n20, .int .i64 n22, .slice x2b x2l x2c] w.drew fun e w =>
∃ n23 : Int, e = .returned (.int .i64 n23) ∧
cond (decide (n23 < (0 : Int))) (
∃ g24 : Array Value, bldP Tryd.prog 67 [(0, .int .i64 (3 : Int))] (.agg g24) ∧
stA 6 a1 g24 w fun w =>
∃ g25 : Array Value, g25.size = 6 ∧ RowAt w a1 g25 ∧
Q (.agg g25) w) (
nlW x1 fun a26 =>
∃ n27 : Int, w.cell? (a26.add 6) = some (.int .i64 n27) ∧
nlW x1 fun a28 =>
stC (a28.add 6) (.int .i64 (IntKind.i64.wrap (n27 + n23))) w fun w =>
∃ g29 : Array Value, bldP Tryd.prog 67 [(0, .int .i64 (1 : Int)), (1, .int .i64 n23)] (.agg g29) ∧
stA 6 a1 g29 w fun w =>
∃ g30 : Array Value, g30.size = 6 ∧ RowAt w a1 g30 ∧
Q (.agg g30) w))) ∧
(newW #[.int .i64 0, .int .i64 0, .int .i16 0, .int .i16 0, .int .i64 0, .int .i64 0, .int .i64 0, .slice none 0 0] 50 w.drew fun a31 w =>
∃ S32 : World → Prop, (∀ w', S32 w' → S3 w') ∧ S32 w ∧
Calls Tryd.prog 27 #[.pointer p4, .int .i64 n6] w fun e w =>
∃ g33 : Array Value, e = .returned (.agg g33) ∧
stA 8 a31 g33 w fun w =>
∃ n34 : Int, w.cell? (a31.add 1) = some (.int .i64 n34) ∧
cond (n34 == (3 : Int)) (
∃ n35 : Int, w.cell? (a31.add 2) = some (.int .i16 n35) ∧
cond (n35 != (1 : Int)) (
∃ g36 : Array Value, bldP Tryd.prog 67 [(0, .int .i64 (3 : Int))] (.agg g36) ∧
stA 6 a1 g36 w fun w =>
∃ g37 : Array Value, g37.size = 6 ∧ RowAt w a1 g37 ∧
Q (.agg g37) w) (
apnW Tryd.prog 24 24 (.slice none 0 0) (.slice x2b x2l x2c) w fun q38b q38l q38c w =>
∃ g39 : Array Value, bldP Tryd.prog 67 [(0, .int .i64 (1 : Int)), (1, .int .i64 ((x2l : Nat) : Int)), (2, .slice q38b q38l q38c)] (.agg g39) ∧
stA 6 a1 g39 w fun w =>
∃ g40 : Array Value, g40.size = 6 ∧ RowAt w a1 g40 ∧
Q (.agg g40) w)) (
nlW x0 fun a41 =>
∃ S42 : World → Prop, S42 w.drew ∧
∃ p43 : Option Addr, (∀ w', S42 w' → w'.cell? a41 = some (.pointer p43)) ∧
nlW x1 fun a44 =>
∃ n45 : Int, (∀ w', S42 w' → w'.cell? (a44.add 5) = some (.int .i64 n45)) ∧
nlW x1 fun a46 =>
∃ n47 : Int, (∀ w', S42 w' → w'.cell? (a46.add 6) = some (.int .i64 n47)) ∧
Calls Tryd.prog 25 #[.pointer p43, .int .i64 n45, .int .i64 n47, .slice x2b x2l x2c] w.drew fun e w =>
∃ n48 : Int, e = .returned (.int .i64 n48) ∧
cond (decide (n48 < (0 : Int))) (
∃ g49 : Array Value, bldP Tryd.prog 67 [(0, .int .i64 (3 : Int))] (.agg g49) ∧
stA 6 a1 g49 w fun w =>
∃ g50 : Array Value, g50.size = 6 ∧ RowAt w a1 g50 ∧
Q (.agg g50) w) (
nlW x1 fun a51 =>
∃ n52 : Int, w.cell? (a51.add 6) = some (.int .i64 n52) ∧
nlW x1 fun a53 =>
stC (a53.add 6) (.int .i64 (IntKind.i64.wrap (n52 + n48))) w fun w =>
∃ g54 : Array Value, bldP Tryd.prog 67 [(0, .int .i64 (1 : Int)), (1, .int .i64 n48)] (.agg g54) ∧
stA 6 a1 g54 w fun w =>
∃ g55 : Array Value, g55.size = 6 ∧ RowAt w a1 g55 ∧
Q (.agg g55) w))))
set_option maxRecDepth 100000 in
theorem W104_eq (x0 : Option Addr) (x1 : Option Addr) (x2b : Option Addr) (x2l x2c : Nat) (w : World) (Q : Value → World → Prop) : wFn Tryd.prog Tryd.f104 W104_plan [.pointer x0, .pointer x1, .slice x2b x2l x2c] w Q = W104 x0 x1 x2b x2l x2c w Q := by kernel_rfl
set_option maxRecDepth 100000 in
theorem W104_ok (x0 : Option Addr) (x1 : Option Addr) (x2b : Option Addr) (x2l x2c : Nat) (w : World) (Q : Value → World → Prop) (h : W104 x0 x1 x2b x2l x2c w Q) : Calls Tryd.prog 104 #[.pointer x0, .pointer x1, .slice x2b x2l x2c] w (fun e w' => ∃ v, e = .returned v ∧ Q v w') :=
  calls_of_wFn mixed W104_plan Tryd.func104 (by kernel_rfl) ((W104_eq x0 x1 x2b x2l x2c w Q).mpr h)

/-! ### 105: hartix/file.shutIno -/
def W105_plan : Plan := .z
def W105 (x0 : Option Addr) (x1 : Option Addr) (w : World) (Q : Value → World → Prop) : Prop :=
nlW x0 fun a1 =>
∃ S2 : World → Prop, S2 w.drew ∧
∃ p3 : Option Addr, (∀ w', S2 w' → w'.cell? a1 = some (.pointer p3)) ∧
nlW x1 fun a4 =>
∃ n5 : Int, (∀ w', S2 w' → w'.cell? (a4.add 5) = some (.int .i64 n5)) ∧
Calls Tryd.prog 53 #[.pointer p3, .int .i64 n5] w.drew fun e w =>
∃ n6 : Int, e = .returned (.int .i64 n6) ∧
Q (.slice none 0 0) w
set_option maxRecDepth 100000 in
theorem W105_eq (x0 : Option Addr) (x1 : Option Addr) (w : World) (Q : Value → World → Prop) : wFn Tryd.prog Tryd.f105 W105_plan [.pointer x0, .pointer x1] w Q = W105 x0 x1 w Q := by kernel_rfl
set_option maxRecDepth 100000 in
theorem W105_ok (x0 : Option Addr) (x1 : Option Addr) (w : World) (Q : Value → World → Prop) (h : W105 x0 x1 w Q) : Calls Tryd.prog 105 #[.pointer x0, .pointer x1] w (fun e w' => ∃ v, e = .returned v ∧ Q v w') :=
  calls_of_wFn mixed W105_plan Tryd.func105 (by kernel_rfl) ((W105_eq x0 x1 w Q).mpr h)

/-! ### 106: hartix/file.readPipe -/
def W106_plan : Plan := (.n .z (.n .z (.cut [9, 22, 23, 24, 25, 26, 27, 28, 29] [(9, .ptr)] .z .z)))
def W106 (x0 : Option Addr) (x1 : Option Addr) (x2 : Int) (x3 : Bool) (w : World) (Q : Value → World → Prop) : Prop :=
newW #[.int .i64 0, .slice none 0 0, .int .i64 0, .int .i64 0, .slice none 0 0] 71 w fun a1 w =>
nlW x0 fun a2 =>
nlW x1 fun a3 =>
∃ n4 : Int, w.drew.cell? (a3.add 7) = some (.int .i64 n4) ∧
Calls Tryd.prog 93 #[.pointer (some (a2.add 3)), .int .i64 n4] w.drew fun e w =>
∃ p5 : Option Addr, e = .returned (.pointer p5) ∧
∃ J6 : (Option Addr × Unit) → World → Prop, (∀ (_ : Env) (t7 : Option Addr × Unit) (w : World), J6 t7 w →
Calls Tryd.prog 134 #[.pointer t7.1, .int .i64 x2] w fun e w =>
∃ (q8b : Option Addr) (q8l q8c : Nat), ∃ n9 : Int, e = .returned (.tuple #[.slice q8b q8l q8c, .int .i64 n9]) ∧
cond (n9 == (2 : Int)) (
nlW x1 fun a10 =>
∃ n11 : Int, w.cell? (a10.add 7) = some (.int .i64 n11) ∧
∃ g12 : Array Value, bldP Tryd.prog 64 [(0, .int .i64 (4 : Int)), (1, .int .i64 n11)] (.agg g12) ∧
∃ g13 : Array Value, bldP Tryd.prog 71 [(0, .int .i64 (2 : Int)), (2, .agg g12)] (.agg g13) ∧
stA 5 a1 g13 w fun w =>
∃ g14 : Array Value, g14.size = 5 ∧ RowAt w a1 g14 ∧
Q (.agg g14) w) (
∃ g15 : Array Value, bldP Tryd.prog 71 [(0, .int .i64 (1 : Int)), (1, .slice q8b q8l q8c)] (.agg g15) ∧
newW #[.int .i64 0, .slice none 0 0, .int .i64 0, .int .i64 0, .slice none 0 0] 71 w fun a16 w =>
stA 5 a16 g15 w fun w =>
cond (decide (((q8l : Nat) : Int) > (0 : Int))) (
nlW x1 fun a17 =>
∃ n18 : Int, w.cell? (a17.add 7) = some (.int .i64 n18) ∧
∃ g19 : Array Value, bldP Tryd.prog 64 [(0, .int .i64 (5 : Int)), (1, .int .i64 n18)] (.agg g19) ∧
∃ g20 : Array Value, bslP Tryd.prog 65 1 [(0, .agg g19)] g20 64 ∧
newW g20 64 w fun a21 w =>
stC (a16.add 4) (.slice (some a21) 1 1) w fun w =>
∃ g22 : Array Value, g22.size = 5 ∧ RowAt w a16 g22 ∧
stA 5 a1 g22 w fun w =>
∃ g23 : Array Value, g23.size = 5 ∧ RowAt w a1 g23 ∧
Q (.agg g23) w) (
∃ g24 : Array Value, g24.size = 5 ∧ RowAt w a16 g24 ∧
stA 5 a1 g24 w fun w =>
∃ g25 : Array Value, g25.size = 5 ∧ RowAt w a1 g25 ∧
Q (.agg g25) w))) ∧
cond (!x3) (
Calls Tryd.prog 94 #[.pointer p5] w fun e w =>
∃ g26 : Array Value, e = .returned (.agg g26) ∧
Calls Tryd.prog 133 #[.agg g26] w fun e w =>
∃ p27 : Option Addr, ∃ v28 : Value, e = .returned (.tuple #[.pointer p27, v28]) ∧
∃ t : Option Addr × Unit, ([.pointer p27] : List Value) = tv [(9, .ptr)] t ∧ J6 t w) (
∃ t : Option Addr × Unit, ([.pointer p5] : List Value) = tv [(9, .ptr)] t ∧ J6 t w)
set_option maxRecDepth 100000 in
theorem W106_eq (x0 : Option Addr) (x1 : Option Addr) (x2 : Int) (x3 : Bool) (w : World) (Q : Value → World → Prop) : wFn Tryd.prog Tryd.f106 W106_plan [.pointer x0, .pointer x1, .int .i64 x2, .bool x3] w Q = W106 x0 x1 x2 x3 w Q := by kernel_rfl
set_option maxRecDepth 100000 in
theorem W106_ok (x0 : Option Addr) (x1 : Option Addr) (x2 : Int) (x3 : Bool) (w : World) (Q : Value → World → Prop) (h : W106 x0 x1 x2 x3 w Q) : Calls Tryd.prog 106 #[.pointer x0, .pointer x1, .int .i64 x2, .bool x3] w (fun e w' => ∃ v, e = .returned v ∧ Q v w') :=
  calls_of_wFn mixed W106_plan Tryd.func106 (by kernel_rfl) ((W106_eq x0 x1 x2 x3 w Q).mpr h)

/-! ### 107: hartix/file.shutPipe -/
def W107_plan : Plan := (.n .z (.n .z (.n .z (.n (.n .z (.cut [26, 27, 28, 29, 30, 31, 32, 33, 34] [(26, .bool)] .z .z)) .z))))
def W107 (x0 : Option Addr) (x1 : Option Addr) (w : World) (Q : Value → World → Prop) : Prop :=
nlW x0 fun a1 =>
nlW x1 fun a2 =>
∃ n3 : Int, w.drew.cell? (a2.add 7) = some (.int .i64 n3) ∧
Calls Tryd.prog 93 #[.pointer (some (a1.add 3)), .int .i64 n3] w.drew fun e w =>
∃ p4 : Option Addr, e = .returned (.pointer p4) ∧
nlW x1 fun a5 =>
∃ n6 : Int, w.cell? (a5.add 1) = some (.int .i64 n6) ∧
Calls Tryd.prog 135 #[.pointer p4, .bool (n6 == (2 : Int))] w fun e w =>
e = .returned (.tuple #[]) ∧
Calls Tryd.prog 94 #[.pointer p4] w fun e w =>
∃ g7 : Array Value, e = .returned (.agg g7) ∧
newW #[.slice none 0 0, .int .u32 0, .int .u32 0, .bool false, .bool false] 78 w fun a8 w =>
stA 5 a8 g7 w fun w =>
∃ J9 : (Bool × Unit) → World → Prop, (∀ (_ : Env) (t10 : Bool × Unit) (w : World), J9 t10 w →
cond t10.1 (
nlW x0 fun a11 =>
∃ S12 : World → Prop, S12 w.drew ∧
∃ (q13b : Option Addr) (q13l q13c : Nat), (∀ w', S12 w' → w'.cell? (a11.add 3) = some (.slice q13b q13l q13c)) ∧
nlW x1 fun a14 =>
∃ n15 : Int, (∀ w', S12 w' → w'.cell? (a14.add 7) = some (.int .i64 n15)) ∧
nlW q13b fun a16 =>
((0 ≤ n15 ∧ n15 < ((q13l : Nat) : Int)) ∧
stC (a16.add (n15.toNat * 1)) (.pointer none) w.drew fun w =>
Q (.slice none 0 0) w)) (
nlW x1 fun a17 =>
∃ n18 : Int, w.cell? (a17.add 1) = some (.int .i64 n18) ∧
cond (n18 == (2 : Int)) (
nlW x1 fun a19 =>
∃ n20 : Int, w.cell? (a19.add 7) = some (.int .i64 n20) ∧
∃ g21 : Array Value, bldP Tryd.prog 64 [(0, .int .i64 (5 : Int)), (1, .int .i64 n20)] (.agg g21) ∧
∃ g22 : Array Value, bslP Tryd.prog 65 1 [(0, .agg g21)] g22 64 ∧
newW g22 64 w fun a23 w =>
Q (.slice (some a23) 1 1) w) (
nlW x1 fun a24 =>
∃ n25 : Int, w.cell? (a24.add 7) = some (.int .i64 n25) ∧
∃ g26 : Array Value, bldP Tryd.prog 64 [(0, .int .i64 (4 : Int)), (1, .int .i64 n25)] (.agg g26) ∧
∃ g27 : Array Value, bslP Tryd.prog 65 1 [(0, .agg g26)] g27 64 ∧
newW g27 64 w fun a28 w =>
Q (.slice (some a28) 1 1) w))) ∧
∃ b29 : Bool, w.cell? (a8.add 3) = some (.bool b29) ∧
cond (!b29) (
∃ b30 : Bool, w.cell? (a8.add 4) = some (.bool b30) ∧
∃ t : Bool × Unit, ([.bool (!b30)] : List Value) = tv [(26, .bool)] t ∧ J9 t w) (
∃ t : Bool × Unit, ([.bool false] : List Value) = tv [(26, .bool)] t ∧ J9 t w)
set_option maxRecDepth 100000 in
theorem W107_eq (x0 : Option Addr) (x1 : Option Addr) (w : World) (Q : Value → World → Prop) : wFn Tryd.prog Tryd.f107 W107_plan [.pointer x0, .pointer x1] w Q = W107 x0 x1 w Q := by kernel_rfl
set_option maxRecDepth 100000 in
theorem W107_ok (x0 : Option Addr) (x1 : Option Addr) (w : World) (Q : Value → World → Prop) (h : W107 x0 x1 w Q) : Calls Tryd.prog 107 #[.pointer x0, .pointer x1] w (fun e w' => ∃ v, e = .returned v ∧ Q v w') :=
  calls_of_wFn mixed W107_plan Tryd.func107 (by kernel_rfl) ((W107_eq x0 x1 w Q).mpr h)

/-! ### 108: hartix/file.writePipe -/
def W108_plan : Plan := (.n .z (.n .z (.n .z (.n .z (.cut [29, 30, 31, 32, 33, 34, 35, 36, 37, 38] [] .z .z)))))
def W108 (x0 : Option Addr) (x1 : Option Addr) (x2b : Option Addr) (x2l x2c : Nat) (w : World) (Q : Value → World → Prop) : Prop :=
newW #[.int .i64 0, .int .i64 0, .slice none 0 0, .int .i64 0, .int .i64 0, .slice none 0 0] 67 w fun a1 w =>
nlW x0 fun a2 =>
nlW x1 fun a3 =>
∃ S4 : World → Prop, S4 w.drew ∧
∃ n5 : Int, (∀ w', S4 w' → w'.cell? (a3.add 7) = some (.int .i64 n5)) ∧
Calls Tryd.prog 93 #[.pointer (some (a2.add 3)), .int .i64 n5] w.drew fun e w =>
∃ p6 : Option Addr, e = .returned (.pointer p6) ∧
Calls Tryd.prog 136 #[.pointer p6, .slice x2b x2l x2c] w fun e w =>
∃ n7 : Int, ∃ n8 : Int, e = .returned (.tuple #[.int .i64 n7, .int .i64 n8]) ∧
cond (n8 == (3 : Int)) (
∃ g9 : Array Value, bldP Tryd.prog 67 [(0, .int .i64 (3 : Int))] (.agg g9) ∧
stA 6 a1 g9 w fun w =>
∃ g10 : Array Value, g10.size = 6 ∧ RowAt w a1 g10 ∧
Q (.agg g10) w) (
∃ g11 : Array Value, bldP Tryd.prog 67 [(0, .int .i64 (1 : Int)), (1, .int .i64 n7)] (.agg g11) ∧
newW #[.int .i64 0, .int .i64 0, .slice none 0 0, .int .i64 0, .int .i64 0, .slice none 0 0] 67 w fun a12 w =>
stA 6 a12 g11 w fun w =>
∃ J13 : (Unit) → World → Prop, (∀ (_ : Env) (t14 : Unit) (w : World), J13 t14 w →
cond (decide (n7 > (0 : Int))) (
nlW x1 fun a15 =>
∃ n16 : Int, w.cell? (a15.add 7) = some (.int .i64 n16) ∧
∃ g17 : Array Value, bldP Tryd.prog 64 [(0, .int .i64 (4 : Int)), (1, .int .i64 n16)] (.agg g17) ∧
∃ g18 : Array Value, bslP Tryd.prog 65 1 [(0, .agg g17)] g18 64 ∧
newW g18 64 w fun a19 w =>
stC (a12.add 5) (.slice (some a19) 1 1) w fun w =>
∃ g20 : Array Value, g20.size = 6 ∧ RowAt w a12 g20 ∧
stA 6 a1 g20 w fun w =>
∃ g21 : Array Value, g21.size = 6 ∧ RowAt w a1 g21 ∧
Q (.agg g21) w) (
∃ g22 : Array Value, g22.size = 6 ∧ RowAt w a12 g22 ∧
stA 6 a1 g22 w fun w =>
∃ g23 : Array Value, g23.size = 6 ∧ RowAt w a1 g23 ∧
Q (.agg g23) w)) ∧
cond (n8 == (2 : Int)) (
nlW x1 fun a24 =>
∃ S25 : World → Prop, S25 w.drew ∧
∃ n26 : Int, (∀ w', S25 w' → w'.cell? (a24.add 7) = some (.int .i64 n26)) ∧
∃ g27 : Array Value, bldP Tryd.prog 64 [(0, .int .i64 (5 : Int)), (1, .int .i64 n26)] (.agg g27) ∧
stC a12 (.int .i64 (2 : Int)) w.drew fun w =>
∃ S28 : World → Prop, (∀ w', S28 w' → S25 w') ∧ S28 w ∧
stA 2 (a12.add 3) g27 w fun w =>
∃ t : Unit, ([] : List Value) = tv [] t ∧ J13 t w) (
∃ t : Unit, ([] : List Value) = tv [] t ∧ J13 t w))
set_option maxRecDepth 100000 in
theorem W108_eq (x0 : Option Addr) (x1 : Option Addr) (x2b : Option Addr) (x2l x2c : Nat) (w : World) (Q : Value → World → Prop) : wFn Tryd.prog Tryd.f108 W108_plan [.pointer x0, .pointer x1, .slice x2b x2l x2c] w Q = W108 x0 x1 x2b x2l x2c w Q := by kernel_rfl
set_option maxRecDepth 100000 in
theorem W108_ok (x0 : Option Addr) (x1 : Option Addr) (x2b : Option Addr) (x2l x2c : Nat) (w : World) (Q : Value → World → Prop) (h : W108 x0 x1 x2b x2l x2c w Q) : Calls Tryd.prog 108 #[.pointer x0, .pointer x1, .slice x2b x2l x2c] w (fun e w' => ∃ v, e = .returned v ∧ Q v w') :=
  calls_of_wFn mixed W108_plan Tryd.func108 (by kernel_rfl) ((W108_eq x0 x1 x2b x2l x2c w Q).mpr h)

/-! ### 124: (*hartix/file.places[hartix/file.open]).put -/
def W124_plan : Plan := (.n .z (.n (.n .z (.cut [4, 5, 6, 12, 13, 14, 15, 16, 17, 18, 19, 20, 21, 22, 23, 24, 25, 26, 27] [(12, .int .i64)] .z .z)) .z))
def W124 (x0 : Option Addr) (x1 : Option Addr) (w : World) (Q : Value → World → Prop) : Prop :=
nlW x0 fun a1 =>
∃ (q2b : Option Addr) (q2l q2c : Nat), w.cell? a1 = some (.slice q2b q2l q2c) ∧
∃ (I3 : (Int × Unit) → World → Prop) (m4 : (Int × Unit) → World → Nat), (∃ t : Int × Unit, ([.int .i64 (0 : Int)] : List Value) = tv [(12, .int .i64)] t ∧ I3 t w) ∧
∀ (_ : Env) (t5 : Int × Unit) (w6 : World), I3 t5 w6 →
(fun w : World =>
cond (decide (t5.1 < ((q2l : Nat) : Int))) (
nlW q2b fun a7 =>
((0 ≤ t5.1 ∧ t5.1 < ((q2l : Nat) : Int)) ∧
∃ p8 : Option Addr, w.cell? (a7.add (t5.1.toNat * 1)) = some (.pointer p8) ∧
cond p8.isNone (
nlW x0 fun a9 =>
∃ (q10b : Option Addr) (q10l q10c : Nat), w.cell? a9 = some (.slice q10b q10l q10c) ∧
nlW q10b fun a11 =>
((0 ≤ t5.1 ∧ t5.1 < ((q10l : Nat) : Int)) ∧
stC (a11.add (t5.1.toNat * 1)) (.pointer x1) w fun w =>
Q (.int .i64 t5.1) w)) (
∃ t' : Int × Unit, ([.int .i64 (IntKind.i64.wrap (t5.1 + (1 : Int)))] : List Value) = tv [(12, .int .i64)] t' ∧ I3 t' w ∧ m4 t' w < m4 t5 w6))) (
Q (.int .i64 (-1 : Int)) w)) w6
set_option maxRecDepth 100000 in
theorem W124_eq (x0 : Option Addr) (x1 : Option Addr) (w : World) (Q : Value → World → Prop) : wFn Tryd.prog Tryd.f124 W124_plan [.pointer x0, .pointer x1] w Q = W124 x0 x1 w Q := by kernel_rfl
set_option maxRecDepth 100000 in
theorem W124_ok (x0 : Option Addr) (x1 : Option Addr) (w : World) (Q : Value → World → Prop) (h : W124 x0 x1 w Q) : Calls Tryd.prog 124 #[.pointer x0, .pointer x1] w (fun e w' => ∃ v, e = .returned v ∧ Q v w') :=
  calls_of_wFn mixed W124_plan Tryd.func124 (by kernel_rfl) ((W124_eq x0 x1 w Q).mpr h)

/-! ### 125: (*hartix/file.places[hartix/file.open]).get -/
def W125_plan : Plan := .z
def W125 (x0 : Option Addr) (x1 : Int) (w : World) (Q : Value → World → Prop) : Prop :=
cond (decide (x1 < (0 : Int))) (
Q (.pointer none) w) (
nlW x0 fun a1 =>
∃ (q2b : Option Addr) (q2l q2c : Nat), w.cell? a1 = some (.slice q2b q2l q2c) ∧
cond (decide (x1 ≥ ((q2l : Nat) : Int))) (
Q (.pointer none) w) (
nlW x0 fun a3 =>
∃ (q4b : Option Addr) (q4l q4c : Nat), w.cell? a3 = some (.slice q4b q4l q4c) ∧
nlW q4b fun a5 =>
((0 ≤ x1 ∧ x1 < ((q4l : Nat) : Int)) ∧
∃ p6 : Option Addr, w.cell? (a5.add (x1.toNat * 1)) = some (.pointer p6) ∧
Q (.pointer p6) w)))
set_option maxRecDepth 100000 in
theorem W125_eq (x0 : Option Addr) (x1 : Int) (w : World) (Q : Value → World → Prop) : wFn Tryd.prog Tryd.f125 W125_plan [.pointer x0, .int .i64 x1] w Q = W125 x0 x1 w Q := by kernel_rfl
set_option maxRecDepth 100000 in
theorem W125_ok (x0 : Option Addr) (x1 : Int) (w : World) (Q : Value → World → Prop) (h : W125 x0 x1 w Q) : Calls Tryd.prog 125 #[.pointer x0, .int .i64 x1] w (fun e w' => ∃ v, e = .returned v ∧ Q v w') :=
  calls_of_wFn mixed W125_plan Tryd.func125 (by kernel_rfl) ((W125_eq x0 x1 w Q).mpr h)

/-! ### 126: (*hartix/pipe.Pipe).is -/
def W126_plan : Plan := .z
def W126 (x0 : Option Addr) (w : World) (Q : Value → World → Prop) : Prop :=
cond (!x0.isNone) (
nlW x0 fun a1 =>
∃ b2 : Bool, w.cell? a1 = some (.bool b2) ∧
Q (.bool b2) w) (
Q (.bool false) w)
set_option maxRecDepth 100000 in
theorem W126_eq (x0 : Option Addr) (w : World) (Q : Value → World → Prop) : wFn Tryd.prog Tryd.f126 W126_plan [.pointer x0] w Q = W126 x0 w Q := by kernel_rfl
set_option maxRecDepth 100000 in
theorem W126_ok (x0 : Option Addr) (w : World) (Q : Value → World → Prop) (h : W126 x0 w Q) : Calls Tryd.prog 126 #[.pointer x0] w (fun e w' => ∃ v, e = .returned v ∧ Q v w') :=
  calls_of_wFn mixed W126_plan Tryd.func126 (by kernel_rfl) ((W126_eq x0 w Q).mpr h)

/-! ### 127: (*hartix/pipe.Pipe).front -/
def W127_plan : Plan := .z
def W127 (x0 : Option Addr) (x1 : Int) (w : World) (Q : Value → World → Prop) : Prop :=
cond (x1 == (0 : Int)) (
Q (.slice none 0 0) w) (
((0 ≤ x1 ∧ x1 ≤ x1 ∧ x1 ≤ 9223372036854775807 ∧ ((1 : Nat) : Int) * x1 ≤ 281474976710656) ∧
newW ((Array.range (x1.toNat * 1)).map (fun x => (#[.int .u8 0] : Array Value)[x % (#[.int .u8 0] : Array Value).size]!)) 5 w fun a1 w =>
nlW x0 fun a2 =>
nlW x0 fun a3 =>
∃ n4 : Int, w.drew.cell? (a3.add 513) = some (.int .i64 n4) ∧
((0 ≤ n4 ∧ n4 ≤ ((512 : Nat) : Int)) ∧
∃ (n6 : Nat) (u7 : List Value), (∀ w', (Builtin.lenOf (.slice (some (slA (a2.add 1) n4.toNat 512 1)) (512 - n4.toNat) (512 - n4.toNat))).run Tryd.prog w' = .ok n6 w') ∧ (Builtin.firstCells 1 (Nat.min n6 x1.toNat) (.slice (some (slA (a2.add 1) n4.toNat 512 1)) (512 - n4.toNat) (512 - n4.toNat))).run Tryd.prog w.drew = .ok u7.toArray w.drew ∧ (∀ u ∈ u7, one u = true) ∧
((((some a1) : Option Addr) = none ∧
((0 ≤ ((Nat.min n6 x1.toNat : Nat) : Int) ∧ ((Nat.min n6 x1.toNat : Nat) : Int) ≤ ((x1.toNat : Nat) : Int)) ∧
nlW x0 fun a9 =>
∃ (n11 : Nat) (u12 : List Value), (∀ w', (Builtin.lenOf (.slice (some (slA (a9.add 1) 0 512 1)) (512 - 0) (512 - 0))).run Tryd.prog w' = .ok n11 w') ∧ (Builtin.firstCells 1 (Nat.min n11 (x1.toNat - (((Nat.min n6 x1.toNat : Nat) : Int).toNat))) (.slice (some (slA (a9.add 1) 0 512 1)) (512 - 0) (512 - 0))).run Tryd.prog w.drew.drew = .ok u12.toArray w.drew.drew ∧ (∀ u ∈ u12, one u = true) ∧
((((slB (some a1) (((Nat.min n6 x1.toNat : Nat) : Int).toNat) x1.toNat 1) : Option Addr) = none ∧
Q (.slice (some a1) x1.toNat x1.toNat) w.drew.drew) ∨ ∃ a13 : Addr, ((slB (some a1) (((Nat.min n6 x1.toNat : Nat) : Int).toNat) x1.toNat 1) : Option Addr) = some a13 ∧ RoomAt w.drew.drew a13 u12.length ∧
(fun w : World =>
Q (.slice (some a1) x1.toNat x1.toNat) w) (stoL a13 u12 0 w.drew.drew)))) ∨ ∃ a8 : Addr, ((some a1) : Option Addr) = some a8 ∧ RoomAt w.drew a8 u7.length ∧
(fun w : World =>
((0 ≤ ((Nat.min n6 x1.toNat : Nat) : Int) ∧ ((Nat.min n6 x1.toNat : Nat) : Int) ≤ ((x1.toNat : Nat) : Int)) ∧
nlW x0 fun a14 =>
∃ (n16 : Nat) (u17 : List Value), (∀ w', (Builtin.lenOf (.slice (some (slA (a14.add 1) 0 512 1)) (512 - 0) (512 - 0))).run Tryd.prog w' = .ok n16 w') ∧ (Builtin.firstCells 1 (Nat.min n16 (x1.toNat - (((Nat.min n6 x1.toNat : Nat) : Int).toNat))) (.slice (some (slA (a14.add 1) 0 512 1)) (512 - 0) (512 - 0))).run Tryd.prog w.drew = .ok u17.toArray w.drew ∧ (∀ u ∈ u17, one u = true) ∧
((((slB (some a1) (((Nat.min n6 x1.toNat : Nat) : Int).toNat) x1.toNat 1) : Option Addr) = none ∧
Q (.slice (some a1) x1.toNat x1.toNat) w.drew) ∨ ∃ a18 : Addr, ((slB (some a1) (((Nat.min n6 x1.toNat : Nat) : Int).toNat) x1.toNat 1) : Option Addr) = some a18 ∧ RoomAt w.drew a18 u17.length ∧
(fun w : World =>
Q (.slice (some a1) x1.toNat x1.toNat) w) (stoL a18 u17 0 w.drew)))) (stoL a8 u7 0 w.drew)))))
set_option maxRecDepth 100000 in
theorem W127_eq (x0 : Option Addr) (x1 : Int) (w : World) (Q : Value → World → Prop) : wFn Tryd.prog Tryd.f127 W127_plan [.pointer x0, .int .i64 x1] w Q = W127 x0 x1 w Q := by kernel_rfl
set_option maxRecDepth 100000 in
theorem W127_ok (x0 : Option Addr) (x1 : Int) (w : World) (Q : Value → World → Prop) (h : W127 x0 x1 w Q) : Calls Tryd.prog 127 #[.pointer x0, .int .i64 x1] w (fun e w' => ∃ v, e = .returned v ∧ Q v w') :=
  calls_of_wFn mixed W127_plan Tryd.func127 (by kernel_rfl) ((W127_eq x0 x1 w Q).mpr h)

/-! ### 130: (*hartix/console.Console).State -/
def W130_plan : Plan := .z
def W130 (x0 : Option Addr) (w : World) (Q : Value → World → Prop) : Prop :=
newW #[.slice none 0 0, .slice none 0 0] 232 w fun a1 w =>
Calls Tryd.prog 147 #[.pointer x0] w fun e w =>
∃ b2 : Bool, e = .returned (.bool b2) ∧
cond b2 (
∃ g3 : Array Value, bldP Tryd.prog 232 [] (.agg g3) ∧
stA 2 a1 g3 w fun w =>
∃ g4 : Array Value, g4.size = 2 ∧ RowAt w a1 g4 ∧
Q (.agg g4) w) (
nlW x0 fun a5 =>
nlW x0 fun a6 =>
∃ S7 : World → Prop, S7 w.drew ∧
∃ n8 : Int, (∀ w', S7 w' → w'.cell? (a6.add 129) = some (.int .i64 n8)) ∧
((0 ≤ n8 ∧ n8 ≤ ((128 : Nat) : Int)) ∧
nlW x0 fun a9 =>
nlW x0 fun a10 =>
∃ n11 : Int, (∀ w', S7 w' → w'.cell? (a10.add 129) = some (.int .i64 n11)) ∧
nlW x0 fun a12 =>
∃ n13 : Int, (∀ w', S7 w' → w'.cell? (a12.add 130) = some (.int .i64 n13)) ∧
((0 ≤ n13 ∧ n13 ≤ ((128 : Nat) : Int)) ∧
((0 ≤ n11 ∧ n11 ≤ ((n13.toNat : Nat) : Int)) ∧
Calls Tryd.prog 148 #[.slice (some (slA (a5.add 1) 0 128 1)) (n8.toNat - 0) (128 - 0)] w.drew fun e w =>
∃ (q14b : Option Addr) (q14l q14c : Nat), e = .returned (.slice q14b q14l q14c) ∧
∃ S15 : World → Prop, (∀ w', S15 w' → S7 w') ∧ S15 w ∧
Calls Tryd.prog 148 #[.slice (some (slA (a9.add 1) n11.toNat 128 1)) (n13.toNat - n11.toNat) (128 - n11.toNat)] w fun e w =>
∃ (q16b : Option Addr) (q16l q16c : Nat), e = .returned (.slice q16b q16l q16c) ∧
∃ g17 : Array Value, bldP Tryd.prog 232 [(0, .slice q14b q14l q14c), (1, .slice q16b q16l q16c)] (.agg g17) ∧
stA 2 a1 g17 w fun w =>
∃ g18 : Array Value, g18.size = 2 ∧ RowAt w a1 g18 ∧
Q (.agg g18) w))))
set_option maxRecDepth 100000 in
theorem W130_eq (x0 : Option Addr) (w : World) (Q : Value → World → Prop) : wFn Tryd.prog Tryd.f130 W130_plan [.pointer x0] w Q = W130 x0 w Q := by kernel_rfl
set_option maxRecDepth 100000 in
theorem W130_ok (x0 : Option Addr) (w : World) (Q : Value → World → Prop) (h : W130 x0 w Q) : Calls Tryd.prog 130 #[.pointer x0] w (fun e w' => ∃ v, e = .returned v ∧ Q v w') :=
  calls_of_wFn mixed W130_plan Tryd.func130 (by kernel_rfl) ((W130_eq x0 w Q).mpr h)

/-! ### 131: (*hartix/console.Console).Type -/
def W131_plan : Plan := (.n .z (.n .z (.n (.n .z (.n (.cut [4, 5, 11, 12, 13, 14, 15, 16, 17, 18, 19, 20, 21, 22, 23, 24, 25, 26, 27, 28, 29, 30, 31] [] .z .z) .z)) (.cut [1, 51, 52] [(1, .int .u8)] .z (.n .z (.cut [4, 61, 62, 63] [(4, .slice)] .z .z))))))
def W131 (x0 : Option Addr) (x1 : Int) (w : World) (Q : Value → World → Prop) : Prop :=
Calls Tryd.prog 147 #[.pointer x0] w fun e w =>
∃ b1 : Bool, e = .returned (.bool b1) ∧
cond b1 (
Q (.tuple #[.slice none 0 0, .bool false]) w) (
Calls Tryd.prog 149 #[.int .u8 x1] w fun e w =>
∃ n2 : Int, e = .returned (.int .i64 n2) ∧
∃ J3 : (Unit) → World → Prop, (∀ (_ : Env) (t4 : Unit) (w : World), J3 t4 w →
nlW x0 fun a5 =>
∃ S6 : World → Prop, S6 w.drew ∧
∃ n7 : Int, (∀ w', S6 w' → w'.cell? (a5.add 130) = some (.int .i64 n7)) ∧
nlW x0 fun a8 =>
∃ n9 : Int, (∀ w', S6 w' → w'.cell? (a8.add 129) = some (.int .i64 n9)) ∧
Calls Tryd.prog 150 #[.pointer x0, .int .i64 (if (IntKind.i64.wrap (n7 - n9)) < (1 : Int) then (IntKind.i64.wrap (n7 - n9)) else (1 : Int))] w.drew fun e w =>
∃ (q10b : Option Addr) (q10l q10c : Nat), e = .returned (.slice q10b q10l q10c) ∧
Q (.tuple #[.slice q10b q10l q10c, .bool false]) w) ∧
cond (n2 == (1 : Int)) (
Q (.tuple #[.slice none 0 0, .bool false]) w) (
cond (n2 == (2 : Int)) (
nlW x0 fun a11 =>
∃ S12 : World → Prop, S12 w.drew ∧
∃ n13 : Int, (∀ w', S12 w' → w'.cell? (a11.add 130) = some (.int .i64 n13)) ∧
nlW x0 fun a14 =>
∃ n15 : Int, (∀ w', S12 w' → w'.cell? (a14.add 129) = some (.int .i64 n15)) ∧
Calls Tryd.prog 150 #[.pointer x0, .int .i64 (IntKind.i64.wrap (n13 - n15))] w.drew fun e w =>
∃ (q16b : Option Addr) (q16l q16c : Nat), e = .returned (.slice q16b q16l q16c) ∧
Q (.tuple #[.slice q16b q16l q16c, .bool false]) w) (
cond (n2 == (3 : Int)) (
∃ t : Unit, ([] : List Value) = tv [] t ∧ J3 t w) (
cond (n2 == (4 : Int)) (
∃ t : Unit, ([] : List Value) = tv [] t ∧ J3 t w) (
cond (n2 == (5 : Int)) (
Calls Tryd.prog 151 #[.pointer x0, .int .u8 x1, .bool true] w fun e w =>
∃ b17 : Bool, ∃ b18 : Bool, e = .returned (.tuple #[.bool b17, .bool b18]) ∧
Q (.tuple #[.slice none 0 0, .bool b18]) w) (
∃ J19 : (Int × Unit) → World → Prop, (∀ (_ : Env) (t20 : Int × Unit) (w : World), J19 t20 w →
Calls Tryd.prog 151 #[.pointer x0, .int .u8 t20.1, .bool (t20.1 == (10 : Int))] w fun e w =>
∃ b21 : Bool, ∃ b22 : Bool, e = .returned (.tuple #[.bool b21, .bool b22]) ∧
∃ J23 : ((Option Addr × Nat × Nat) × Unit) → World → Prop, (∀ (_ : Env) (t24 : (Option Addr × Nat × Nat) × Unit) (w : World), J23 t24 w →
Q (.tuple #[.slice t24.1.1 t24.1.2.1 t24.1.2.2, .bool b22]) w) ∧
cond b21 (
∃ g25 : Array Value, bslP Tryd.prog 24 1 [(0, .int .u8 t20.1)] g25 5 ∧
newW g25 5 w fun a26 w =>
∃ t : (Option Addr × Nat × Nat) × Unit, ([.slice (some a26) 1 1] : List Value) = tv [(4, .slice)] t ∧ J23 t w) (
∃ t : (Option Addr × Nat × Nat) × Unit, ([.slice none 0 0] : List Value) = tv [(4, .slice)] t ∧ J23 t w)) ∧
cond (x1 == (13 : Int)) (
∃ t : Int × Unit, ([.int .u8 (10 : Int)] : List Value) = tv [(1, .int .u8)] t ∧ J19 t w) (
∃ t : Int × Unit, ([.int .u8 x1] : List Value) = tv [(1, .int .u8)] t ∧ J19 t w)))))))
set_option maxRecDepth 100000 in
theorem W131_eq (x0 : Option Addr) (x1 : Int) (w : World) (Q : Value → World → Prop) : wFn Tryd.prog Tryd.f131 W131_plan [.pointer x0, .int .u8 x1] w Q = W131 x0 x1 w Q := by kernel_rfl
set_option maxRecDepth 100000 in
theorem W131_ok (x0 : Option Addr) (x1 : Int) (w : World) (Q : Value → World → Prop) (h : W131 x0 x1 w Q) : Calls Tryd.prog 131 #[.pointer x0, .int .u8 x1] w (fun e w' => ∃ v, e = .returned v ∧ Q v w') :=
  calls_of_wFn mixed W131_plan Tryd.func131 (by kernel_rfl) ((W131_eq x0 x1 w Q).mpr h)

/-! ### 132: (*hartix/file.Files).typed -/
def W132_plan : Plan := (.n .z (.n .z (.cut [9, 17, 18, 19, 20, 21, 22] [(9, .val)] .z .z)))
def W132 (x0 : Option Addr) (x1 : Int) (x2 : Int) (x3 : Bool) (w : World) (Q : Value → World → Prop) : Prop :=
newW #[.int .i64 0, .slice none 0 0, .int .i64 0, .int .i64 0, .slice none 0 0] 71 w fun a1 w =>
nlW x0 fun a2 =>
∃ p3 : Option Addr, w.cell? (a2.add 1) = some (.pointer p3) ∧
∃ J4 : (Value × Unit) → World → Prop, (∀ (_ : Env) (t5 : Value × Unit) (w : World), J4 t5 w →
cond (x1 != (1 : Int)) (
∃ g6 : Array Value, bldP Tryd.prog 71 [(0, .int .i64 (3 : Int))] (.agg g6) ∧
stA 5 a1 g6 w fun w =>
∃ g7 : Array Value, g7.size = 5 ∧ RowAt w a1 g7 ∧
Q (.agg g7) w) (
cond (x2 == (0 : Int)) (
∃ g8 : Array Value, bldP Tryd.prog 71 [(0, .int .i64 (1 : Int))] (.agg g8) ∧
stA 5 a1 g8 w fun w =>
∃ g9 : Array Value, g9.size = 5 ∧ RowAt w a1 g9 ∧
Q (.agg g9) w) (
nlW x0 fun a10 =>
∃ p11 : Option Addr, w.cell? (a10.add 1) = some (.pointer p11) ∧
Calls Tryd.prog 154 #[.pointer p11] w fun e w =>
∃ b12 : Bool, e = .returned (.bool b12) ∧
cond (!b12) (
∃ g13 : Array Value, bldP Tryd.prog 64 [(0, .int .i64 (3 : Int))] (.agg g13) ∧
∃ g14 : Array Value, bldP Tryd.prog 71 [(0, .int .i64 (2 : Int)), (2, .agg g13)] (.agg g14) ∧
stA 5 a1 g14 w fun w =>
∃ g15 : Array Value, g15.size = 5 ∧ RowAt w a1 g15 ∧
Q (.agg g15) w) (
calV Tryd.prog t5.1 [.int .i64 x2] w fun e w =>
∃ (q16b : Option Addr) (q16l q16c : Nat), ∃ b17 : Bool, e = .returned (.tuple #[.slice q16b q16l q16c, .bool b17]) ∧
∃ g18 : Array Value, bldP Tryd.prog 71 [(0, .int .i64 (1 : Int)), (1, .slice q16b q16l q16c)] (.agg g18) ∧
stA 5 a1 g18 w fun w =>
∃ g19 : Array Value, g19.size = 5 ∧ RowAt w a1 g19 ∧
Q (.agg g19) w)))) ∧
cond x3 (
nlW x0 fun a20 =>
∃ p21 : Option Addr, w.cell? (a20.add 1) = some (.pointer p21) ∧
∃ t : Value × Unit, ([.func (.func 153) #[.pointer p21] #[]] : List Value) = tv [(9, .val)] t ∧ J4 t w) (
∃ t : Value × Unit, ([.func (.func 152) #[.pointer p3] #[]] : List Value) = tv [(9, .val)] t ∧ J4 t w)
set_option maxRecDepth 100000 in
theorem W132_eq (x0 : Option Addr) (x1 : Int) (x2 : Int) (x3 : Bool) (w : World) (Q : Value → World → Prop) : wFn Tryd.prog Tryd.f132 W132_plan [.pointer x0, .int .i64 x1, .int .i64 x2, .bool x3] w Q = W132 x0 x1 x2 x3 w Q := by kernel_rfl
set_option maxRecDepth 100000 in
theorem W132_ok (x0 : Option Addr) (x1 : Int) (x2 : Int) (x3 : Bool) (w : World) (Q : Value → World → Prop) (h : W132 x0 x1 x2 x3 w Q) : Calls Tryd.prog 132 #[.pointer x0, .int .i64 x1, .int .i64 x2, .bool x3] w (fun e w' => ∃ v, e = .returned v ∧ Q v w') :=
  calls_of_wFn mixed W132_plan Tryd.func132 (by kernel_rfl) ((W132_eq x0 x1 x2 x3 w Q).mpr h)

/-! ### 133: hartix/pipe.From -/
def W133_plan : Plan := (.n .z (.n (.cut [5, 6, 7, 8, 9, 10, 11, 12, 13, 14, 15, 16, 17, 18, 19, 20] [(20, .bool)] .z .z) .z))
def W133 (x0 : Array Value) (w : World) (Q : Value → World → Prop) : Prop :=
newW x0 78 w fun a1 w =>
∃ J2 : (Bool × Unit) → World → Prop, (∀ (_ : Env) (t3 : Bool × Unit) (w : World), J2 t3 w →
cond t3.1 (
∃ g4 : Array Value, bldP Tryd.prog 227 [(0, .string (⟨#[112, 105, 112, 101]⟩ : ByteArray)), (2, .iface 43 (.int .i64 (4 : Int)))] (.agg g4) ∧
newW g4 227 w fun a5 w =>
Q (.tuple #[.pointer none, .iface 225 (.pointer (some a5))]) w) (
Calls Tryd.prog 89 #[] w fun e w =>
∃ p6 : Option Addr, e = .returned (.pointer p6) ∧
nlW p6 fun a7 =>
∃ (q8b : Option Addr) (q8l q8c : Nat), w.drew.cell? a1 = some (.slice q8b q8l q8c) ∧
∃ (n10 : Nat) (u11 : List Value), (∀ w', (Builtin.lenOf (.slice q8b q8l q8c)).run Tryd.prog w' = .ok n10 w') ∧ (Builtin.firstCells 1 (Nat.min n10 (512 - 0)) (.slice q8b q8l q8c)).run Tryd.prog w.drew = .ok u11.toArray w.drew ∧ (∀ u ∈ u11, one u = true) ∧
((((some (slA (a7.add 1) 0 512 1)) : Option Addr) = none ∧
nlW p6 fun a13 =>
stC (a13.add 514) (.int .i64 ((Nat.min n10 (512 - 0) : Nat) : Int)) w.drew fun w =>
∃ S14 : World → Prop, S14 w.drew ∧
∃ n15 : Int, (∀ w', S14 w' → w'.cell? (a1.add 1) = some (.int .u32 n15)) ∧
∃ n16 : Int, (∀ w', S14 w' → w'.cell? (a1.add 2) = some (.int .u32 n16)) ∧
nlW p6 fun a17 =>
stC (a17.add 515) (.int .u32 n15) w.drew fun w =>
∃ S18 : World → Prop, (∀ w', S18 w' → S14 w') ∧ S18 w ∧
nlW p6 fun a19 =>
stC (a19.add 516) (.int .u32 n16) w fun w =>
∃ b20 : Bool, w.cell? (a1.add 3) = some (.bool b20) ∧
∃ b21 : Bool, w.cell? (a1.add 4) = some (.bool b21) ∧
∃ g22 : Array Value, bldP Tryd.prog 180 [(0, .bool (!b20)), (1, .bool (!b21))] (.agg g22) ∧
nlW p6 fun a23 =>
stA 2 (a23.add 517) g22 w fun w =>
Q (.tuple #[.pointer p6, .nilIface]) w) ∨ ∃ a12 : Addr, ((some (slA (a7.add 1) 0 512 1)) : Option Addr) = some a12 ∧ RoomAt w.drew a12 u11.length ∧
(fun w : World =>
nlW p6 fun a24 =>
stC (a24.add 514) (.int .i64 ((Nat.min n10 (512 - 0) : Nat) : Int)) w fun w =>
∃ S25 : World → Prop, S25 w.drew ∧
∃ n26 : Int, (∀ w', S25 w' → w'.cell? (a1.add 1) = some (.int .u32 n26)) ∧
∃ n27 : Int, (∀ w', S25 w' → w'.cell? (a1.add 2) = some (.int .u32 n27)) ∧
nlW p6 fun a28 =>
stC (a28.add 515) (.int .u32 n26) w.drew fun w =>
∃ S29 : World → Prop, (∀ w', S29 w' → S25 w') ∧ S29 w ∧
nlW p6 fun a30 =>
stC (a30.add 516) (.int .u32 n27) w fun w =>
∃ b31 : Bool, w.cell? (a1.add 3) = some (.bool b31) ∧
∃ b32 : Bool, w.cell? (a1.add 4) = some (.bool b32) ∧
∃ g33 : Array Value, bldP Tryd.prog 180 [(0, .bool (!b31)), (1, .bool (!b32))] (.agg g33) ∧
nlW p6 fun a34 =>
stA 2 (a34.add 517) g33 w fun w =>
Q (.tuple #[.pointer p6, .nilIface]) w) (stoL a12 u11 0 w.drew)))) ∧
∃ (q35b : Option Addr) (q35l q35c : Nat), w.cell? a1 = some (.slice q35b q35l q35c) ∧
cond (decide (((q35l : Nat) : Int) > (512 : Int))) (
∃ t : Bool × Unit, ([.bool true] : List Value) = tv [(20, .bool)] t ∧ J2 t w) (
∃ n36 : Int, w.cell? (a1.add 2) = some (.int .u32 n36) ∧
∃ n37 : Int, w.cell? (a1.add 1) = some (.int .u32 n37) ∧
∃ (q38b : Option Addr) (q38l q38c : Nat), w.cell? a1 = some (.slice q38b q38l q38c) ∧
∃ t : Bool × Unit, ([.bool ((IntKind.u32.wrap (n36 - n37)) != (IntKind.u32.wrap ((q38l : Nat) : Int)))] : List Value) = tv [(20, .bool)] t ∧ J2 t w)
set_option maxRecDepth 100000 in
theorem W133_eq (x0 : Array Value) (w : World) (Q : Value → World → Prop) : wFn Tryd.prog Tryd.f133 W133_plan [.agg x0] w Q = W133 x0 w Q := by kernel_rfl
set_option maxRecDepth 100000 in
theorem W133_ok (x0 : Array Value) (w : World) (Q : Value → World → Prop) (h : W133 x0 w Q) : Calls Tryd.prog 133 #[.agg x0] w (fun e w' => ∃ v, e = .returned v ∧ Q v w') :=
  calls_of_wFn mixed W133_plan Tryd.func133 (by kernel_rfl) ((W133_eq x0 w Q).mpr h)

/-! ### 134: (*hartix/pipe.Pipe).Take -/
def W134_plan : Plan := (.n .z (.n (.cut [6, 7, 8, 9, 10, 11, 12, 13] [(6, .bool)] .z (.n .z (.cut [14, 15, 16, 17, 18, 19, 20, 21, 22, 23, 24, 25, 26, 27] [(14, .bool)] .z .z))) .z))
def W134 (x0 : Option Addr) (x1 : Int) (w : World) (Q : Value → World → Prop) : Prop :=
∃ J1 : (Bool × Unit) → World → Prop, (∀ (_ : Env) (t2 : Bool × Unit) (w : World), J1 t2 w →
cond t2.1 (
Q (.tuple #[.slice none 0 0, .int .i64 (1 : Int)]) w) (
∃ J3 : (Bool × Unit) → World → Prop, (∀ (_ : Env) (t4 : Bool × Unit) (w : World), J3 t4 w →
cond t4.1 (
Q (.tuple #[.slice none 0 0, .int .i64 (2 : Int)]) w) (
nlW x0 fun a5 =>
∃ n6 : Int, w.cell? (a5.add 514) = some (.int .i64 n6) ∧
cond (n6 == (0 : Int)) (
Q (.tuple #[.slice none 0 0, .int .i64 (1 : Int)]) w) (
nlW x0 fun a7 =>
∃ n8 : Int, w.cell? (a7.add 514) = some (.int .i64 n8) ∧
Calls Tryd.prog 127 #[.pointer x0, .int .i64 (if n8 < x1 then n8 else x1)] w fun e w =>
∃ (q9b : Option Addr) (q9l q9c : Nat), e = .returned (.slice q9b q9l q9c) ∧
nlW x0 fun a10 =>
∃ n11 : Int, w.cell? (a10.add 513) = some (.int .i64 n11) ∧
((512 : Int) ≠ 0 ∧
nlW x0 fun a12 =>
stC (a12.add 513) (.int .i64 ((IntKind.i64.wrap (n11 + ((q9l : Nat) : Int))).tmod (512 : Int))) w fun w =>
nlW x0 fun a13 =>
∃ n14 : Int, w.cell? (a13.add 514) = some (.int .i64 n14) ∧
nlW x0 fun a15 =>
stC (a15.add 514) (.int .i64 (IntKind.i64.wrap (n14 - ((q9l : Nat) : Int)))) w fun w =>
nlW x0 fun a16 =>
∃ n17 : Int, w.cell? (a16.add 515) = some (.int .u32 n17) ∧
nlW x0 fun a18 =>
stC (a18.add 515) (.int .u32 (IntKind.u32.wrap (n17 + (IntKind.u32.wrap ((q9l : Nat) : Int))))) w fun w =>
Q (.tuple #[.slice q9b q9l q9c, .int .i64 (1 : Int)]) w)))) ∧
nlW x0 fun a19 =>
∃ n20 : Int, w.cell? (a19.add 514) = some (.int .i64 n20) ∧
cond (n20 == (0 : Int)) (
nlW x0 fun a21 =>
((0 ≤ (1 : Int) ∧ (1 : Int) < ((2 : Nat) : Int)) ∧
∃ b22 : Bool, w.cell? ((a21.add 517).add ((1 : Int).toNat * 1)) = some (.bool b22) ∧
∃ t : Bool × Unit, ([.bool (!b22)] : List Value) = tv [(14, .bool)] t ∧ J3 t w)) (
∃ t : Bool × Unit, ([.bool false] : List Value) = tv [(14, .bool)] t ∧ J3 t w))) ∧
Calls Tryd.prog 126 #[.pointer x0] w fun e w =>
∃ b23 : Bool, e = .returned (.bool b23) ∧
cond (!b23) (
∃ t : Bool × Unit, ([.bool true] : List Value) = tv [(6, .bool)] t ∧ J1 t w) (
∃ t : Bool × Unit, ([.bool (decide (x1 < (1 : Int)))] : List Value) = tv [(6, .bool)] t ∧ J1 t w)
set_option maxRecDepth 100000 in
theorem W134_eq (x0 : Option Addr) (x1 : Int) (w : World) (Q : Value → World → Prop) : wFn Tryd.prog Tryd.f134 W134_plan [.pointer x0, .int .i64 x1] w Q = W134 x0 x1 w Q := by kernel_rfl
set_option maxRecDepth 100000 in
theorem W134_ok (x0 : Option Addr) (x1 : Int) (w : World) (Q : Value → World → Prop) (h : W134 x0 x1 w Q) : Calls Tryd.prog 134 #[.pointer x0, .int .i64 x1] w (fun e w' => ∃ v, e = .returned v ∧ Q v w') :=
  calls_of_wFn mixed W134_plan Tryd.func134 (by kernel_rfl) ((W134_eq x0 x1 w Q).mpr h)

/-! ### 135: (*hartix/pipe.Pipe).Shut -/
def W135_plan : Plan := .z
def W135 (x0 : Option Addr) (x1 : Bool) (w : World) (Q : Value → World → Prop) : Prop :=
Calls Tryd.prog 126 #[.pointer x0] w fun e w =>
∃ b1 : Bool, e = .returned (.bool b1) ∧
cond (!b1) (
Q (.tuple #[]) w) (
cond x1 (
nlW x0 fun a2 =>
((0 ≤ (0 : Int) ∧ (0 : Int) < ((2 : Nat) : Int)) ∧
stC ((a2.add 517).add ((0 : Int).toNat * 1)) (.bool true) w fun w =>
Q (.tuple #[]) w)) (
nlW x0 fun a3 =>
((0 ≤ (1 : Int) ∧ (1 : Int) < ((2 : Nat) : Int)) ∧
stC ((a3.add 517).add ((1 : Int).toNat * 1)) (.bool true) w fun w =>
Q (.tuple #[]) w)))
set_option maxRecDepth 100000 in
theorem W135_eq (x0 : Option Addr) (x1 : Bool) (w : World) (Q : Value → World → Prop) : wFn Tryd.prog Tryd.f135 W135_plan [.pointer x0, .bool x1] w Q = W135 x0 x1 w Q := by kernel_rfl
set_option maxRecDepth 100000 in
theorem W135_ok (x0 : Option Addr) (x1 : Bool) (w : World) (Q : Value → World → Prop) (h : W135 x0 x1 w Q) : Calls Tryd.prog 135 #[.pointer x0, .bool x1] w (fun e w' => ∃ v, e = .returned v ∧ Q v w') :=
  calls_of_wFn mixed W135_plan Tryd.func135 (by kernel_rfl) ((W135_eq x0 x1 w Q).mpr h)

/-! ### 136: (*hartix/pipe.Pipe).Put -/
def W136_plan : Plan := .z
def W136 (x0 : Option Addr) (x1b : Option Addr) (x1l x1c : Nat) (w : World) (Q : Value → World → Prop) : Prop :=
Calls Tryd.prog 126 #[.pointer x0] w fun e w =>
∃ b1 : Bool, e = .returned (.bool b1) ∧
cond (!b1) (
Q (.tuple #[.int .i64 (0 : Int), .int .i64 (3 : Int)]) w) (
cond (((x1l : Nat) : Int) == (0 : Int)) (
Q (.tuple #[.int .i64 (0 : Int), .int .i64 (1 : Int)]) w) (
nlW x0 fun a2 =>
((0 ≤ (0 : Int) ∧ (0 : Int) < ((2 : Nat) : Int)) ∧
∃ b3 : Bool, w.cell? ((a2.add 517).add ((0 : Int).toNat * 1)) = some (.bool b3) ∧
cond b3 (
Q (.tuple #[.int .i64 (0 : Int), .int .i64 (3 : Int)]) w) (
nlW x0 fun a4 =>
∃ n5 : Int, w.cell? (a4.add 514) = some (.int .i64 n5) ∧
nlW x0 fun a6 =>
nlW x0 fun a7 =>
∃ S8 : World → Prop, S8 w.drew ∧
∃ n9 : Int, (∀ w', S8 w' → w'.cell? (a7.add 513) = some (.int .i64 n9)) ∧
nlW x0 fun a10 =>
∃ n11 : Int, (∀ w', S8 w' → w'.cell? (a10.add 514) = some (.int .i64 n11)) ∧
((512 : Int) ≠ 0 ∧
((0 ≤ ((IntKind.i64.wrap (n9 + n11)).tmod (512 : Int)) ∧ ((IntKind.i64.wrap (n9 + n11)).tmod (512 : Int)) ≤ ((512 : Nat) : Int)) ∧
((0 ≤ (if (IntKind.i64.wrap ((512 : Int) - n5)) < ((x1l : Nat) : Int) then (IntKind.i64.wrap ((512 : Int) - n5)) else ((x1l : Nat) : Int)) ∧ (if (IntKind.i64.wrap ((512 : Int) - n5)) < ((x1l : Nat) : Int) then (IntKind.i64.wrap ((512 : Int) - n5)) else ((x1l : Nat) : Int)) ≤ ((x1c : Nat) : Int)) ∧
∃ (n13 : Nat) (u14 : List Value), (∀ w', (Builtin.lenOf (.slice (slB x1b 0 x1c 1) (((if (IntKind.i64.wrap ((512 : Int) - n5)) < ((x1l : Nat) : Int) then (IntKind.i64.wrap ((512 : Int) - n5)) else ((x1l : Nat) : Int)).toNat) - 0) (x1c - 0))).run Tryd.prog w' = .ok n13 w') ∧ (Builtin.firstCells 1 (Nat.min n13 (512 - (((IntKind.i64.wrap (n9 + n11)).tmod (512 : Int)).toNat))) (.slice (slB x1b 0 x1c 1) (((if (IntKind.i64.wrap ((512 : Int) - n5)) < ((x1l : Nat) : Int) then (IntKind.i64.wrap ((512 : Int) - n5)) else ((x1l : Nat) : Int)).toNat) - 0) (x1c - 0))).run Tryd.prog w.drew = .ok u14.toArray w.drew ∧ (∀ u ∈ u14, one u = true) ∧
((((some (slA (a6.add 1) (((IntKind.i64.wrap (n9 + n11)).tmod (512 : Int)).toNat) 512 1)) : Option Addr) = none ∧
nlW x0 fun a16 =>
((0 ≤ (if (IntKind.i64.wrap ((512 : Int) - n5)) < ((x1l : Nat) : Int) then (IntKind.i64.wrap ((512 : Int) - n5)) else ((x1l : Nat) : Int)) ∧ (if (IntKind.i64.wrap ((512 : Int) - n5)) < ((x1l : Nat) : Int) then (IntKind.i64.wrap ((512 : Int) - n5)) else ((x1l : Nat) : Int)) ≤ ((x1c : Nat) : Int)) ∧
((0 ≤ ((Nat.min n13 (512 - (((IntKind.i64.wrap (n9 + n11)).tmod (512 : Int)).toNat)) : Nat) : Int) ∧ ((Nat.min n13 (512 - (((IntKind.i64.wrap (n9 + n11)).tmod (512 : Int)).toNat)) : Nat) : Int) ≤ (((if (IntKind.i64.wrap ((512 : Int) - n5)) < ((x1l : Nat) : Int) then (IntKind.i64.wrap ((512 : Int) - n5)) else ((x1l : Nat) : Int)).toNat : Nat) : Int)) ∧
∃ (n18 : Nat) (u19 : List Value), (∀ w', (Builtin.lenOf (.slice (slB x1b (((Nat.min n13 (512 - (((IntKind.i64.wrap (n9 + n11)).tmod (512 : Int)).toNat)) : Nat) : Int).toNat) x1c 1) (((if (IntKind.i64.wrap ((512 : Int) - n5)) < ((x1l : Nat) : Int) then (IntKind.i64.wrap ((512 : Int) - n5)) else ((x1l : Nat) : Int)).toNat) - (((Nat.min n13 (512 - (((IntKind.i64.wrap (n9 + n11)).tmod (512 : Int)).toNat)) : Nat) : Int).toNat)) (x1c - (((Nat.min n13 (512 - (((IntKind.i64.wrap (n9 + n11)).tmod (512 : Int)).toNat)) : Nat) : Int).toNat)))).run Tryd.prog w' = .ok n18 w') ∧ (Builtin.firstCells 1 (Nat.min n18 (512 - 0)) (.slice (slB x1b (((Nat.min n13 (512 - (((IntKind.i64.wrap (n9 + n11)).tmod (512 : Int)).toNat)) : Nat) : Int).toNat) x1c 1) (((if (IntKind.i64.wrap ((512 : Int) - n5)) < ((x1l : Nat) : Int) then (IntKind.i64.wrap ((512 : Int) - n5)) else ((x1l : Nat) : Int)).toNat) - (((Nat.min n13 (512 - (((IntKind.i64.wrap (n9 + n11)).tmod (512 : Int)).toNat)) : Nat) : Int).toNat)) (x1c - (((Nat.min n13 (512 - (((IntKind.i64.wrap (n9 + n11)).tmod (512 : Int)).toNat)) : Nat) : Int).toNat)))).run Tryd.prog w.drew.drew = .ok u19.toArray w.drew.drew ∧ (∀ u ∈ u19, one u = true) ∧
((((some (slA (a16.add 1) 0 512 1)) : Option Addr) = none ∧
nlW x0 fun a21 =>
∃ n22 : Int, w.drew.drew.cell? (a21.add 514) = some (.int .i64 n22) ∧
nlW x0 fun a23 =>
stC (a23.add 514) (.int .i64 (IntKind.i64.wrap (n22 + (if (IntKind.i64.wrap ((512 : Int) - n5)) < ((x1l : Nat) : Int) then (IntKind.i64.wrap ((512 : Int) - n5)) else ((x1l : Nat) : Int))))) w.drew.drew fun w =>
nlW x0 fun a24 =>
∃ n25 : Int, w.cell? (a24.add 516) = some (.int .u32 n25) ∧
nlW x0 fun a26 =>
stC (a26.add 516) (.int .u32 (IntKind.u32.wrap (n25 + (IntKind.u32.wrap (if (IntKind.i64.wrap ((512 : Int) - n5)) < ((x1l : Nat) : Int) then (IntKind.i64.wrap ((512 : Int) - n5)) else ((x1l : Nat) : Int)))))) w fun w =>
cond (decide ((if (IntKind.i64.wrap ((512 : Int) - n5)) < ((x1l : Nat) : Int) then (IntKind.i64.wrap ((512 : Int) - n5)) else ((x1l : Nat) : Int)) < ((x1l : Nat) : Int))) (
Q (.tuple #[.int .i64 (if (IntKind.i64.wrap ((512 : Int) - n5)) < ((x1l : Nat) : Int) then (IntKind.i64.wrap ((512 : Int) - n5)) else ((x1l : Nat) : Int)), .int .i64 (2 : Int)]) w) (
Q (.tuple #[.int .i64 (if (IntKind.i64.wrap ((512 : Int) - n5)) < ((x1l : Nat) : Int) then (IntKind.i64.wrap ((512 : Int) - n5)) else ((x1l : Nat) : Int)), .int .i64 (1 : Int)]) w)) ∨ ∃ a20 : Addr, ((some (slA (a16.add 1) 0 512 1)) : Option Addr) = some a20 ∧ RoomAt w.drew.drew a20 u19.length ∧
(fun w : World =>
nlW x0 fun a27 =>
∃ n28 : Int, w.cell? (a27.add 514) = some (.int .i64 n28) ∧
nlW x0 fun a29 =>
stC (a29.add 514) (.int .i64 (IntKind.i64.wrap (n28 + (if (IntKind.i64.wrap ((512 : Int) - n5)) < ((x1l : Nat) : Int) then (IntKind.i64.wrap ((512 : Int) - n5)) else ((x1l : Nat) : Int))))) w fun w =>
nlW x0 fun a30 =>
∃ n31 : Int, w.cell? (a30.add 516) = some (.int .u32 n31) ∧
nlW x0 fun a32 =>
stC (a32.add 516) (.int .u32 (IntKind.u32.wrap (n31 + (IntKind.u32.wrap (if (IntKind.i64.wrap ((512 : Int) - n5)) < ((x1l : Nat) : Int) then (IntKind.i64.wrap ((512 : Int) - n5)) else ((x1l : Nat) : Int)))))) w fun w =>
cond (decide ((if (IntKind.i64.wrap ((512 : Int) - n5)) < ((x1l : Nat) : Int) then (IntKind.i64.wrap ((512 : Int) - n5)) else ((x1l : Nat) : Int)) < ((x1l : Nat) : Int))) (
Q (.tuple #[.int .i64 (if (IntKind.i64.wrap ((512 : Int) - n5)) < ((x1l : Nat) : Int) then (IntKind.i64.wrap ((512 : Int) - n5)) else ((x1l : Nat) : Int)), .int .i64 (2 : Int)]) w) (
Q (.tuple #[.int .i64 (if (IntKind.i64.wrap ((512 : Int) - n5)) < ((x1l : Nat) : Int) then (IntKind.i64.wrap ((512 : Int) - n5)) else ((x1l : Nat) : Int)), .int .i64 (1 : Int)]) w)) (stoL a20 u19 0 w.drew.drew))))) ∨ ∃ a15 : Addr, ((some (slA (a6.add 1) (((IntKind.i64.wrap (n9 + n11)).tmod (512 : Int)).toNat) 512 1)) : Option Addr) = some a15 ∧ RoomAt w.drew a15 u14.length ∧
(fun w : World =>
nlW x0 fun a33 =>
((0 ≤ (if (IntKind.i64.wrap ((512 : Int) - n5)) < ((x1l : Nat) : Int) then (IntKind.i64.wrap ((512 : Int) - n5)) else ((x1l : Nat) : Int)) ∧ (if (IntKind.i64.wrap ((512 : Int) - n5)) < ((x1l : Nat) : Int) then (IntKind.i64.wrap ((512 : Int) - n5)) else ((x1l : Nat) : Int)) ≤ ((x1c : Nat) : Int)) ∧
((0 ≤ ((Nat.min n13 (512 - (((IntKind.i64.wrap (n9 + n11)).tmod (512 : Int)).toNat)) : Nat) : Int) ∧ ((Nat.min n13 (512 - (((IntKind.i64.wrap (n9 + n11)).tmod (512 : Int)).toNat)) : Nat) : Int) ≤ (((if (IntKind.i64.wrap ((512 : Int) - n5)) < ((x1l : Nat) : Int) then (IntKind.i64.wrap ((512 : Int) - n5)) else ((x1l : Nat) : Int)).toNat : Nat) : Int)) ∧
∃ (n35 : Nat) (u36 : List Value), (∀ w', (Builtin.lenOf (.slice (slB x1b (((Nat.min n13 (512 - (((IntKind.i64.wrap (n9 + n11)).tmod (512 : Int)).toNat)) : Nat) : Int).toNat) x1c 1) (((if (IntKind.i64.wrap ((512 : Int) - n5)) < ((x1l : Nat) : Int) then (IntKind.i64.wrap ((512 : Int) - n5)) else ((x1l : Nat) : Int)).toNat) - (((Nat.min n13 (512 - (((IntKind.i64.wrap (n9 + n11)).tmod (512 : Int)).toNat)) : Nat) : Int).toNat)) (x1c - (((Nat.min n13 (512 - (((IntKind.i64.wrap (n9 + n11)).tmod (512 : Int)).toNat)) : Nat) : Int).toNat)))).run Tryd.prog w' = .ok n35 w') ∧ (Builtin.firstCells 1 (Nat.min n35 (512 - 0)) (.slice (slB x1b (((Nat.min n13 (512 - (((IntKind.i64.wrap (n9 + n11)).tmod (512 : Int)).toNat)) : Nat) : Int).toNat) x1c 1) (((if (IntKind.i64.wrap ((512 : Int) - n5)) < ((x1l : Nat) : Int) then (IntKind.i64.wrap ((512 : Int) - n5)) else ((x1l : Nat) : Int)).toNat) - (((Nat.min n13 (512 - (((IntKind.i64.wrap (n9 + n11)).tmod (512 : Int)).toNat)) : Nat) : Int).toNat)) (x1c - (((Nat.min n13 (512 - (((IntKind.i64.wrap (n9 + n11)).tmod (512 : Int)).toNat)) : Nat) : Int).toNat)))).run Tryd.prog w.drew = .ok u36.toArray w.drew ∧ (∀ u ∈ u36, one u = true) ∧
((((some (slA (a33.add 1) 0 512 1)) : Option Addr) = none ∧
nlW x0 fun a38 =>
∃ n39 : Int, w.drew.cell? (a38.add 514) = some (.int .i64 n39) ∧
nlW x0 fun a40 =>
stC (a40.add 514) (.int .i64 (IntKind.i64.wrap (n39 + (if (IntKind.i64.wrap ((512 : Int) - n5)) < ((x1l : Nat) : Int) then (IntKind.i64.wrap ((512 : Int) - n5)) else ((x1l : Nat) : Int))))) w.drew fun w =>
nlW x0 fun a41 =>
∃ n42 : Int, w.cell? (a41.add 516) = some (.int .u32 n42) ∧
nlW x0 fun a43 =>
stC (a43.add 516) (.int .u32 (IntKind.u32.wrap (n42 + (IntKind.u32.wrap (if (IntKind.i64.wrap ((512 : Int) - n5)) < ((x1l : Nat) : Int) then (IntKind.i64.wrap ((512 : Int) - n5)) else ((x1l : Nat) : Int)))))) w fun w =>
cond (decide ((if (IntKind.i64.wrap ((512 : Int) - n5)) < ((x1l : Nat) : Int) then (IntKind.i64.wrap ((512 : Int) - n5)) else ((x1l : Nat) : Int)) < ((x1l : Nat) : Int))) (
Q (.tuple #[.int .i64 (if (IntKind.i64.wrap ((512 : Int) - n5)) < ((x1l : Nat) : Int) then (IntKind.i64.wrap ((512 : Int) - n5)) else ((x1l : Nat) : Int)), .int .i64 (2 : Int)]) w) (
Q (.tuple #[.int .i64 (if (IntKind.i64.wrap ((512 : Int) - n5)) < ((x1l : Nat) : Int) then (IntKind.i64.wrap ((512 : Int) - n5)) else ((x1l : Nat) : Int)), .int .i64 (1 : Int)]) w)) ∨ ∃ a37 : Addr, ((some (slA (a33.add 1) 0 512 1)) : Option Addr) = some a37 ∧ RoomAt w.drew a37 u36.length ∧
(fun w : World =>
nlW x0 fun a44 =>
∃ n45 : Int, w.cell? (a44.add 514) = some (.int .i64 n45) ∧
nlW x0 fun a46 =>
stC (a46.add 514) (.int .i64 (IntKind.i64.wrap (n45 + (if (IntKind.i64.wrap ((512 : Int) - n5)) < ((x1l : Nat) : Int) then (IntKind.i64.wrap ((512 : Int) - n5)) else ((x1l : Nat) : Int))))) w fun w =>
nlW x0 fun a47 =>
∃ n48 : Int, w.cell? (a47.add 516) = some (.int .u32 n48) ∧
nlW x0 fun a49 =>
stC (a49.add 516) (.int .u32 (IntKind.u32.wrap (n48 + (IntKind.u32.wrap (if (IntKind.i64.wrap ((512 : Int) - n5)) < ((x1l : Nat) : Int) then (IntKind.i64.wrap ((512 : Int) - n5)) else ((x1l : Nat) : Int)))))) w fun w =>
cond (decide ((if (IntKind.i64.wrap ((512 : Int) - n5)) < ((x1l : Nat) : Int) then (IntKind.i64.wrap ((512 : Int) - n5)) else ((x1l : Nat) : Int)) < ((x1l : Nat) : Int))) (
Q (.tuple #[.int .i64 (if (IntKind.i64.wrap ((512 : Int) - n5)) < ((x1l : Nat) : Int) then (IntKind.i64.wrap ((512 : Int) - n5)) else ((x1l : Nat) : Int)), .int .i64 (2 : Int)]) w) (
Q (.tuple #[.int .i64 (if (IntKind.i64.wrap ((512 : Int) - n5)) < ((x1l : Nat) : Int) then (IntKind.i64.wrap ((512 : Int) - n5)) else ((x1l : Nat) : Int)), .int .i64 (1 : Int)]) w)) (stoL a37 u36 0 w.drew))))) (stoL a15 u14 0 w.drew)))))))))
set_option maxRecDepth 100000 in
theorem W136_eq (x0 : Option Addr) (x1b : Option Addr) (x1l x1c : Nat) (w : World) (Q : Value → World → Prop) : wFn Tryd.prog Tryd.f136 W136_plan [.pointer x0, .slice x1b x1l x1c] w Q = W136 x0 x1b x1l x1c w Q := by kernel_rfl
set_option maxRecDepth 100000 in
theorem W136_ok (x0 : Option Addr) (x1b : Option Addr) (x1l x1c : Nat) (w : World) (Q : Value → World → Prop) (h : W136 x0 x1b x1l x1c w Q) : Calls Tryd.prog 136 #[.pointer x0, .slice x1b x1l x1c] w (fun e w' => ∃ v, e = .returned v ∧ Q v w') :=
  calls_of_wFn mixed W136_plan Tryd.func136 (by kernel_rfl) ((W136_eq x0 x1b x1l x1c w Q).mpr h)

/-! ### 147: (*hartix/console.Console).none -/
def W147_plan : Plan := .z
def W147 (x0 : Option Addr) (w : World) (Q : Value → World → Prop) : Prop :=
cond x0.isNone (
Q (.bool true) w) (
nlW x0 fun a1 =>
∃ b2 : Bool, w.cell? a1 = some (.bool b2) ∧
Q (.bool (!b2)) w)
set_option maxRecDepth 100000 in
theorem W147_eq (x0 : Option Addr) (w : World) (Q : Value → World → Prop) : wFn Tryd.prog Tryd.f147 W147_plan [.pointer x0] w Q = W147 x0 w Q := by kernel_rfl
set_option maxRecDepth 100000 in
theorem W147_ok (x0 : Option Addr) (w : World) (Q : Value → World → Prop) (h : W147 x0 w Q) : Calls Tryd.prog 147 #[.pointer x0] w (fun e w' => ∃ v, e = .returned v ∧ Q v w') :=
  calls_of_wFn mixed W147_plan Tryd.func147 (by kernel_rfl) ((W147_eq x0 w Q).mpr h)

/-! ### 148: hartix/console.out -/
def W148_plan : Plan := .z
def W148 (x0b : Option Addr) (x0l x0c : Nat) (w : World) (Q : Value → World → Prop) : Prop :=
cond (((x0l : Nat) : Int) == (0 : Int)) (
Q (.slice none 0 0) w) (
((0 ≤ ((x0l : Nat) : Int) ∧ ((x0l : Nat) : Int) ≤ ((x0l : Nat) : Int) ∧ ((x0l : Nat) : Int) ≤ 9223372036854775807 ∧ ((1 : Nat) : Int) * ((x0l : Nat) : Int) ≤ 281474976710656) ∧
newW ((Array.range (((x0l : Nat) : Int).toNat * 1)).map (fun x => (#[.int .u8 0] : Array Value)[x % (#[.int .u8 0] : Array Value).size]!)) 5 w fun a1 w =>
∃ (n3 : Nat) (u4 : List Value), (∀ w', (Builtin.lenOf (.slice x0b x0l x0c)).run Tryd.prog w' = .ok n3 w') ∧ (Builtin.firstCells 1 (Nat.min n3 (((x0l : Nat) : Int).toNat)) (.slice x0b x0l x0c)).run Tryd.prog w = .ok u4.toArray w ∧ (∀ u ∈ u4, one u = true) ∧
((((some a1) : Option Addr) = none ∧
Q (.slice (some a1) (((x0l : Nat) : Int).toNat) (((x0l : Nat) : Int).toNat)) w) ∨ ∃ a5 : Addr, ((some a1) : Option Addr) = some a5 ∧ RoomAt w a5 u4.length ∧
(fun w : World =>
Q (.slice (some a1) (((x0l : Nat) : Int).toNat) (((x0l : Nat) : Int).toNat)) w) (stoL a5 u4 0 w))))
set_option maxRecDepth 100000 in
theorem W148_eq (x0b : Option Addr) (x0l x0c : Nat) (w : World) (Q : Value → World → Prop) : wFn Tryd.prog Tryd.f148 W148_plan [.slice x0b x0l x0c] w Q = W148 x0b x0l x0c w Q := by kernel_rfl
set_option maxRecDepth 100000 in
theorem W148_ok (x0b : Option Addr) (x0l x0c : Nat) (w : World) (Q : Value → World → Prop) (h : W148 x0b x0l x0c w Q) : Calls Tryd.prog 148 #[.slice x0b x0l x0c] w (fun e w' => ∃ v, e = .returned v ∧ Q v w') :=
  calls_of_wFn mixed W148_plan Tryd.func148 (by kernel_rfl) ((W148_eq x0b x0l x0c w Q).mpr h)

/-! ### 149: hartix/console.key -/
def W149_plan : Plan := (.n .z (.n (.n .z (.cut [2, 4, 6, 7, 8, 9, 10, 11, 12, 13, 14, 15, 16] [(6, .int .i64)] .z .z)) .z))
def W149 (x0 : Int) (w : World) (Q : Value → World → Prop) : Prop :=
∃ g1 : Array Value, g1.size = 12 ∧ RowAt w (⟨1, 0, none⟩ : Addr) g1 ∧
∃ (I2 : (Int × Unit) → World → Prop) (m3 : (Int × Unit) → World → Nat), (∃ t : Int × Unit, ([.int .i64 (0 : Int)] : List Value) = tv [(6, .int .i64)] t ∧ I2 t w) ∧
∀ (_ : Env) (t4 : Int × Unit) (w5 : World), I2 t4 w5 →
(fun w : World =>
cond (decide (t4.1 < (6 : Int))) (
((0 ≤ t4.1 ∧ t4.1 < ((6 : Nat) : Int)) ∧
newW #[.int .i64 0, .int .i64 0] 257 w fun a6 w =>
stA 2 a6 (g1.extract (t4.1.toNat * 2) ((t4.1.toNat * 2) + 2)) w fun w =>
∃ n7 : Int, w.cell? a6 = some (.int .i64 n7) ∧
cond (n7 == (IntKind.i64.wrap x0)) (
∃ n8 : Int, w.cell? (a6.add 1) = some (.int .i64 n8) ∧
Q (.int .i64 n8) w) (
∃ t' : Int × Unit, ([.int .i64 (IntKind.i64.wrap (t4.1 + (1 : Int)))] : List Value) = tv [(6, .int .i64)] t' ∧ I2 t' w ∧ m3 t' w < m3 t4 w5))) (
Q (.int .i64 (0 : Int)) w)) w5
set_option maxRecDepth 100000 in
theorem W149_eq (x0 : Int) (w : World) (Q : Value → World → Prop) : wFn Tryd.prog Tryd.f149 W149_plan [.int .u8 x0] w Q = W149 x0 w Q := by kernel_rfl
set_option maxRecDepth 100000 in
theorem W149_ok (x0 : Int) (w : World) (Q : Value → World → Prop) (h : W149 x0 w Q) : Calls Tryd.prog 149 #[.int .u8 x0] w (fun e w' => ∃ v, e = .returned v ∧ Q v w') :=
  calls_of_wFn mixed W149_plan Tryd.func149 (by kernel_rfl) ((W149_eq x0 w Q).mpr h)

/-! ### 150: (*hartix/console.Console).back -/
def W150_plan : Plan := (.n .z (.n .z (.n .z (.n (.n .z (.cut [5, 15, 16, 17, 18, 19, 20] [(5, .slice), (15, .int .i64)] .z .z)) .z))))
def W150 (x0 : Option Addr) (x1 : Int) (w : World) (Q : Value → World → Prop) : Prop :=
nlW x0 fun a1 =>
∃ n2 : Int, w.cell? (a1.add 130) = some (.int .i64 n2) ∧
nlW x0 fun a3 =>
stC (a3.add 130) (.int .i64 (IntKind.i64.wrap (n2 - x1))) w fun w =>
∃ (I4 : ((Option Addr × Nat × Nat) × Int × Unit) → World → Prop) (m5 : ((Option Addr × Nat × Nat) × Int × Unit) → World → Nat), (∃ t : (Option Addr × Nat × Nat) × Int × Unit, ([.slice none 0 0, .int .i64 (0 : Int)] : List Value) = tv [(5, .slice), (15, .int .i64)] t ∧ I4 t w) ∧
∀ (_ : Env) (t6 : (Option Addr × Nat × Nat) × Int × Unit) (w7 : World), I4 t6 w7 →
(fun w : World =>
cond (decide (t6.2.1 < x1)) (
∃ g8 : Array Value, bslP Tryd.prog 24 3 [(0, .int .u8 (8 : Int)), (1, .int .u8 (32 : Int)), (2, .int .u8 (8 : Int))] g8 5 ∧
newW g8 5 w fun a9 w =>
apnW Tryd.prog 24 24 (.slice t6.1.1 t6.1.2.1 t6.1.2.2) (.slice (some a9) 3 3) w fun q10b q10l q10c w =>
∃ t' : (Option Addr × Nat × Nat) × Int × Unit, ([.slice q10b q10l q10c, .int .i64 (IntKind.i64.wrap (t6.2.1 + (1 : Int)))] : List Value) = tv [(5, .slice), (15, .int .i64)] t' ∧ I4 t' w ∧ m5 t' w < m5 t6 w7) (
Q (.slice t6.1.1 t6.1.2.1 t6.1.2.2) w)) w7
set_option maxRecDepth 100000 in
theorem W150_eq (x0 : Option Addr) (x1 : Int) (w : World) (Q : Value → World → Prop) : wFn Tryd.prog Tryd.f150 W150_plan [.pointer x0, .int .i64 x1] w Q = W150 x0 x1 w Q := by kernel_rfl
set_option maxRecDepth 100000 in
theorem W150_ok (x0 : Option Addr) (x1 : Int) (w : World) (Q : Value → World → Prop) (h : W150 x0 x1 w Q) : Calls Tryd.prog 150 #[.pointer x0, .int .i64 x1] w (fun e w' => ∃ v, e = .returned v ∧ Q v w') :=
  calls_of_wFn mixed W150_plan Tryd.func150 (by kernel_rfl) ((W150_eq x0 x1 w Q).mpr h)

/-! ### 151: (*hartix/console.Console).put -/
def W151_plan : Plan := (.n .z (.n .z (.n .z (.n .z (.n (.cut [29, 30, 31, 32, 33, 34, 35, 36, 37] [(37, .bool)] .z .z) .z)))))
def W151 (x0 : Option Addr) (x1 : Int) (x2 : Bool) (w : World) (Q : Value → World → Prop) : Prop :=
nlW x0 fun a1 =>
∃ n2 : Int, w.cell? (a1.add 130) = some (.int .i64 n2) ∧
cond (n2 == (128 : Int)) (
Q (.tuple #[.bool false, .bool false]) w) (
nlW x0 fun a3 =>
∃ S4 : World → Prop, S4 w.drew ∧
∃ n5 : Int, (∀ w', S4 w' → w'.cell? (a3.add 130) = some (.int .i64 n5)) ∧
nlW x0 fun a6 =>
((0 ≤ n5 ∧ n5 < ((128 : Nat) : Int)) ∧
stC ((a6.add 1).add (n5.toNat * 1)) (.int .u8 x1) w.drew fun w =>
nlW x0 fun a7 =>
∃ n8 : Int, w.cell? (a7.add 130) = some (.int .i64 n8) ∧
nlW x0 fun a9 =>
stC (a9.add 130) (.int .i64 (IntKind.i64.wrap (n8 + (1 : Int)))) w fun w =>
∃ J10 : (Bool × Unit) → World → Prop, (∀ (_ : Env) (t11 : Bool × Unit) (w : World), J10 t11 w →
cond t11.1 (
Q (.tuple #[.bool true, .bool false]) w) (
nlW x0 fun a12 =>
∃ n13 : Int, w.cell? (a12.add 130) = some (.int .i64 n13) ∧
nlW x0 fun a14 =>
stC (a14.add 129) (.int .i64 n13) w fun w =>
Q (.tuple #[.bool true, .bool true]) w)) ∧
cond (!x2) (
nlW x0 fun a15 =>
∃ n16 : Int, w.cell? (a15.add 130) = some (.int .i64 n16) ∧
∃ t : Bool × Unit, ([.bool (decide (n16 < (128 : Int)))] : List Value) = tv [(37, .bool)] t ∧ J10 t w) (
∃ t : Bool × Unit, ([.bool false] : List Value) = tv [(37, .bool)] t ∧ J10 t w)))
set_option maxRecDepth 100000 in
theorem W151_eq (x0 : Option Addr) (x1 : Int) (x2 : Bool) (w : World) (Q : Value → World → Prop) : wFn Tryd.prog Tryd.f151 W151_plan [.pointer x0, .int .u8 x1, .bool x2] w Q = W151 x0 x1 x2 w Q := by kernel_rfl
set_option maxRecDepth 100000 in
theorem W151_ok (x0 : Option Addr) (x1 : Int) (x2 : Bool) (w : World) (Q : Value → World → Prop) (h : W151 x0 x1 x2 w Q) : Calls Tryd.prog 151 #[.pointer x0, .int .u8 x1, .bool x2] w (fun e w' => ∃ v, e = .returned v ∧ Q v w') :=
  calls_of_wFn mixed W151_plan Tryd.func151 (by kernel_rfl) ((W151_eq x0 x1 x2 w Q).mpr h)

/-! ### 152: (*hartix/console.Console).Peek -/
def W152_plan : Plan := .z
def W152 (x0 : Option Addr) (x1 : Int) (w : World) (Q : Value → World → Prop) : Prop :=
Calls Tryd.prog 154 #[.pointer x0] w fun e w =>
∃ b1 : Bool, e = .returned (.bool b1) ∧
cond (!b1) (
Q (.tuple #[.slice none 0 0, .bool false]) w) (
Calls Tryd.prog 163 #[.pointer x0, .int .i64 x1] w fun e w =>
∃ n2 : Int, ∃ n3 : Int, e = .returned (.tuple #[.int .i64 n2, .int .i64 n3]) ∧
nlW x0 fun a4 =>
((0 ≤ n2 ∧ n2 ≤ ((128 : Nat) : Int)) ∧
Calls Tryd.prog 148 #[.slice (some (slA (a4.add 1) 0 128 1)) (n2.toNat - 0) (128 - 0)] w fun e w =>
∃ (q5b : Option Addr) (q5l q5c : Nat), e = .returned (.slice q5b q5l q5c) ∧
Q (.tuple #[.slice q5b q5l q5c, .bool true]) w))
set_option maxRecDepth 100000 in
theorem W152_eq (x0 : Option Addr) (x1 : Int) (w : World) (Q : Value → World → Prop) : wFn Tryd.prog Tryd.f152 W152_plan [.pointer x0, .int .i64 x1] w Q = W152 x0 x1 w Q := by kernel_rfl
set_option maxRecDepth 100000 in
theorem W152_ok (x0 : Option Addr) (x1 : Int) (w : World) (Q : Value → World → Prop) (h : W152 x0 x1 w Q) : Calls Tryd.prog 152 #[.pointer x0, .int .i64 x1] w (fun e w' => ∃ v, e = .returned v ∧ Q v w') :=
  calls_of_wFn mixed W152_plan Tryd.func152 (by kernel_rfl) ((W152_eq x0 x1 w Q).mpr h)

/-! ### 153: (*hartix/console.Console).Take -/
def W153_plan : Plan := .z
def W153 (x0 : Option Addr) (x1 : Int) (w : World) (Q : Value → World → Prop) : Prop :=
Calls Tryd.prog 154 #[.pointer x0] w fun e w =>
∃ b1 : Bool, e = .returned (.bool b1) ∧
cond (!b1) (
Q (.tuple #[.slice none 0 0, .bool false]) w) (
Calls Tryd.prog 163 #[.pointer x0, .int .i64 x1] w fun e w =>
∃ n2 : Int, ∃ n3 : Int, e = .returned (.tuple #[.int .i64 n2, .int .i64 n3]) ∧
nlW x0 fun a4 =>
((0 ≤ n2 ∧ n2 ≤ ((128 : Nat) : Int)) ∧
Calls Tryd.prog 148 #[.slice (some (slA (a4.add 1) 0 128 1)) (n2.toNat - 0) (128 - 0)] w fun e w =>
∃ (q5b : Option Addr) (q5l q5c : Nat), e = .returned (.slice q5b q5l q5c) ∧
nlW x0 fun a6 =>
nlW x0 fun a7 =>
nlW x0 fun a8 =>
∃ n9 : Int, w.drew.cell? (a8.add 130) = some (.int .i64 n9) ∧
((0 ≤ n9 ∧ n9 ≤ ((128 : Nat) : Int)) ∧
((0 ≤ n3 ∧ n3 ≤ ((n9.toNat : Nat) : Int)) ∧
∃ (n11 : Nat) (u12 : List Value), (∀ w', (Builtin.lenOf (.slice (some (slA (a7.add 1) n3.toNat 128 1)) (n9.toNat - n3.toNat) (128 - n3.toNat))).run Tryd.prog w' = .ok n11 w') ∧ (Builtin.firstCells 1 (Nat.min n11 (128 - 0)) (.slice (some (slA (a7.add 1) n3.toNat 128 1)) (n9.toNat - n3.toNat) (128 - n3.toNat))).run Tryd.prog w.drew = .ok u12.toArray w.drew ∧ (∀ u ∈ u12, one u = true) ∧
((((some (slA (a6.add 1) 0 128 1)) : Option Addr) = none ∧
nlW x0 fun a14 =>
∃ n15 : Int, w.drew.cell? (a14.add 129) = some (.int .i64 n15) ∧
nlW x0 fun a16 =>
stC (a16.add 129) (.int .i64 (IntKind.i64.wrap (n15 - n3))) w.drew fun w =>
nlW x0 fun a17 =>
∃ n18 : Int, w.cell? (a17.add 130) = some (.int .i64 n18) ∧
nlW x0 fun a19 =>
stC (a19.add 130) (.int .i64 (IntKind.i64.wrap (n18 - n3))) w fun w =>
Q (.tuple #[.slice q5b q5l q5c, .bool true]) w) ∨ ∃ a13 : Addr, ((some (slA (a6.add 1) 0 128 1)) : Option Addr) = some a13 ∧ RoomAt w.drew a13 u12.length ∧
(fun w : World =>
nlW x0 fun a20 =>
∃ n21 : Int, w.cell? (a20.add 129) = some (.int .i64 n21) ∧
nlW x0 fun a22 =>
stC (a22.add 129) (.int .i64 (IntKind.i64.wrap (n21 - n3))) w fun w =>
nlW x0 fun a23 =>
∃ n24 : Int, w.cell? (a23.add 130) = some (.int .i64 n24) ∧
nlW x0 fun a25 =>
stC (a25.add 130) (.int .i64 (IntKind.i64.wrap (n24 - n3))) w fun w =>
Q (.tuple #[.slice q5b q5l q5c, .bool true]) w) (stoL a13 u12 0 w.drew))))))
set_option maxRecDepth 100000 in
theorem W153_eq (x0 : Option Addr) (x1 : Int) (w : World) (Q : Value → World → Prop) : wFn Tryd.prog Tryd.f153 W153_plan [.pointer x0, .int .i64 x1] w Q = W153 x0 x1 w Q := by kernel_rfl
set_option maxRecDepth 100000 in
theorem W153_ok (x0 : Option Addr) (x1 : Int) (w : World) (Q : Value → World → Prop) (h : W153 x0 x1 w Q) : Calls Tryd.prog 153 #[.pointer x0, .int .i64 x1] w (fun e w' => ∃ v, e = .returned v ∧ Q v w') :=
  calls_of_wFn mixed W153_plan Tryd.func153 (by kernel_rfl) ((W153_eq x0 x1 w Q).mpr h)

/-! ### 154: (*hartix/console.Console).Ready -/
def W154_plan : Plan := .z
def W154 (x0 : Option Addr) (w : World) (Q : Value → World → Prop) : Prop :=
Calls Tryd.prog 147 #[.pointer x0] w fun e w =>
∃ b1 : Bool, e = .returned (.bool b1) ∧
cond (!b1) (
nlW x0 fun a2 =>
∃ n3 : Int, w.cell? (a2.add 129) = some (.int .i64 n3) ∧
Q (.bool (decide (n3 > (0 : Int)))) w) (
Q (.bool false) w)
set_option maxRecDepth 100000 in
theorem W154_eq (x0 : Option Addr) (w : World) (Q : Value → World → Prop) : wFn Tryd.prog Tryd.f154 W154_plan [.pointer x0] w Q = W154 x0 w Q := by kernel_rfl
set_option maxRecDepth 100000 in
theorem W154_ok (x0 : Option Addr) (w : World) (Q : Value → World → Prop) (h : W154 x0 w Q) : Calls Tryd.prog 154 #[.pointer x0] w (fun e w' => ∃ v, e = .returned v ∧ Q v w') :=
  calls_of_wFn mixed W154_plan Tryd.func154 (by kernel_rfl) ((W154_eq x0 w Q).mpr h)

/-! ### 163: (*hartix/console.Console).given -/
def W163_plan : Plan := .z
def W163 (x0 : Option Addr) (x1 : Int) (w : World) (Q : Value → World → Prop) : Prop :=
cond (decide (x1 < (1 : Int))) (
Q (.tuple #[.int .i64 (0 : Int), .int .i64 (0 : Int)]) w) (
nlW x0 fun a1 =>
((0 ≤ (0 : Int) ∧ (0 : Int) < ((128 : Nat) : Int)) ∧
∃ n2 : Int, w.cell? ((a1.add 1).add ((0 : Int).toNat * 1)) = some (.int .u8 n2) ∧
cond (n2 == (4 : Int)) (
Q (.tuple #[.int .i64 (0 : Int), .int .i64 (1 : Int)]) w) (
nlW x0 fun a3 =>
∃ S4 : World → Prop, S4 w.drew ∧
∃ n5 : Int, (∀ w', S4 w' → w'.cell? (a3.add 129) = some (.int .i64 n5)) ∧
Calls Tryd.prog 166 #[.pointer x0, .int .u8 (10 : Int)] w.drew fun e w =>
∃ n6 : Int, e = .returned (.int .i64 n6) ∧
∃ S7 : World → Prop, (∀ w', S7 w' → S4 w') ∧ S7 w ∧
Calls Tryd.prog 166 #[.pointer x0, .int .u8 (4 : Int)] w fun e w =>
∃ n8 : Int, e = .returned (.int .i64 n8) ∧
∃ S9 : World → Prop, (∀ w', S9 w' → S7 w') ∧ S9 w ∧
Q (.tuple #[.int .i64 (if n5 < (if n8 < (if (IntKind.i64.wrap (n6 + (1 : Int))) < x1 then (IntKind.i64.wrap (n6 + (1 : Int))) else x1) then n8 else (if (IntKind.i64.wrap (n6 + (1 : Int))) < x1 then (IntKind.i64.wrap (n6 + (1 : Int))) else x1)) then n5 else (if n8 < (if (IntKind.i64.wrap (n6 + (1 : Int))) < x1 then (IntKind.i64.wrap (n6 + (1 : Int))) else x1) then n8 else (if (IntKind.i64.wrap (n6 + (1 : Int))) < x1 then (IntKind.i64.wrap (n6 + (1 : Int))) else x1))), .int .i64 (if n5 < (if n8 < (if (IntKind.i64.wrap (n6 + (1 : Int))) < x1 then (IntKind.i64.wrap (n6 + (1 : Int))) else x1) then n8 else (if (IntKind.i64.wrap (n6 + (1 : Int))) < x1 then (IntKind.i64.wrap (n6 + (1 : Int))) else x1)) then n5 else (if n8 < (if (IntKind.i64.wrap (n6 + (1 : Int))) < x1 then (IntKind.i64.wrap (n6 + (1 : Int))) else x1) then n8 else (if (IntKind.i64.wrap (n6 + (1 : Int))) < x1 then (IntKind.i64.wrap (n6 + (1 : Int))) else x1)))]) w)))
set_option maxRecDepth 100000 in
theorem W163_eq (x0 : Option Addr) (x1 : Int) (w : World) (Q : Value → World → Prop) : wFn Tryd.prog Tryd.f163 W163_plan [.pointer x0, .int .i64 x1] w Q = W163 x0 x1 w Q := by kernel_rfl
set_option maxRecDepth 100000 in
theorem W163_ok (x0 : Option Addr) (x1 : Int) (w : World) (Q : Value → World → Prop) (h : W163 x0 x1 w Q) : Calls Tryd.prog 163 #[.pointer x0, .int .i64 x1] w (fun e w' => ∃ v, e = .returned v ∧ Q v w') :=
  calls_of_wFn mixed W163_plan Tryd.func163 (by kernel_rfl) ((W163_eq x0 x1 w Q).mpr h)

/-! ### 166: (*hartix/console.Console).first -/
def W166_plan : Plan := (.n .z (.n (.n .z (.cut [4, 5, 10, 11, 12, 13, 14, 15, 16, 17, 18, 19, 20, 21, 22] [(10, .int .i64)] .z .z)) .z))
def W166 (x0 : Option Addr) (x1 : Int) (w : World) (Q : Value → World → Prop) : Prop :=
nlW x0 fun a1 =>
∃ n2 : Int, w.cell? (a1.add 129) = some (.int .i64 n2) ∧
∃ (I3 : (Int × Unit) → World → Prop) (m4 : (Int × Unit) → World → Nat), (∃ t : Int × Unit, ([.int .i64 (0 : Int)] : List Value) = tv [(10, .int .i64)] t ∧ I3 t w) ∧
∀ (_ : Env) (t5 : Int × Unit) (w6 : World), I3 t5 w6 →
(fun w : World =>
cond (decide (t5.1 < n2)) (
nlW x0 fun a7 =>
((0 ≤ t5.1 ∧ t5.1 < ((128 : Nat) : Int)) ∧
∃ n8 : Int, w.cell? ((a7.add 1).add (t5.1.toNat * 1)) = some (.int .u8 n8) ∧
cond (n8 == x1) (
Q (.int .i64 t5.1) w) (
∃ t' : Int × Unit, ([.int .i64 (IntKind.i64.wrap (t5.1 + (1 : Int)))] : List Value) = tv [(10, .int .i64)] t' ∧ I3 t' w ∧ m4 t' w < m4 t5 w6))) (
nlW x0 fun a9 =>
∃ n10 : Int, w.cell? (a9.add 129) = some (.int .i64 n10) ∧
Q (.int .i64 n10) w)) w6
set_option maxRecDepth 100000 in
theorem W166_eq (x0 : Option Addr) (x1 : Int) (w : World) (Q : Value → World → Prop) : wFn Tryd.prog Tryd.f166 W166_plan [.pointer x0, .int .u8 x1] w Q = W166 x0 x1 w Q := by kernel_rfl
set_option maxRecDepth 100000 in
theorem W166_ok (x0 : Option Addr) (x1 : Int) (w : World) (Q : Value → World → Prop) (h : W166 x0 x1 w Q) : Calls Tryd.prog 166 #[.pointer x0, .int .u8 x1] w (fun e w' => ∃ v, e = .returned v ∧ Q v w') :=
  calls_of_wFn mixed W166_plan Tryd.func166 (by kernel_rfl) ((W166_eq x0 x1 w Q).mpr h)

end Go.Proofs.YthkcdkldpbndnaaDoor
