/- The walk's functions of this seat, printed by a program of mine (wgen.py) out of Lean's own print of the loaded functions; each is tied to the loaded function by the kernel. No condition. -/
import Derived.Test.YthkcdkldpbndnaaDoorRows
import Derived.Test.YthkcdkldpbndnaaDoorHz
set_option linter.unusedVariables false
namespace Go.Proofs.YthkcdkldpbndnaaDoor
open Go.RowKit Go.Hx
theorem mixed : Tryd.prog.follows .mixedOrders = true := by kernel_rfl
/-! ### 14: hartix/hartixlaw0.Lend -/
def W14_plan : Plan := (.n .z (.n .z (.n (.n .z (.cut [3, 4, 10, 11, 12, 13, 14, 15, 16, 17, 18, 19, 20, 21, 22] [(3, .slice), (4, .int .i64)] .z .z)) (.n (.n .z (.cut [3, 5, 23, 24, 25, 26, 27, 28, 29, 30, 31, 32] [(3, .slice), (5, .int .i64)] .z .z)) .z))))
def W14 (x0b : Option Addr) (x0l x0c : Nat) (w : World) (Q : Value → World → Prop) : Prop :=
((0 ≤ (0 : Int) ∧ (0 : Int) ≤ (IntKind.i64.wrap (((x0l : Nat) : Int) + (64 : Int))) ∧ (IntKind.i64.wrap (((x0l : Nat) : Int) + (64 : Int))) ≤ 9223372036854775807 ∧ ((1 : Nat) : Int) * (IntKind.i64.wrap (((x0l : Nat) : Int) + (64 : Int))) ≤ 281474976710656) ∧
newW ((Array.range ((IntKind.i64.wrap (((x0l : Nat) : Int) + (64 : Int))).toNat * 1)).map (fun x => (#[.int .u8 0] : Array Value)[x % (#[.int .u8 0] : Array Value).size]!)) 5 w fun a1 w =>
∃ (I2 : ((Option Addr × Nat × Nat) × Int × Unit) → World → Prop) (m3 : ((Option Addr × Nat × Nat) × Int × Unit) → World → Nat), (∃ t : (Option Addr × Nat × Nat) × Int × Unit, ([.slice (some a1) ((0 : Int).toNat) ((IntKind.i64.wrap (((x0l : Nat) : Int) + (64 : Int))).toNat), .int .i64 (0 : Int)] : List Value) = tv [(3, .slice), (4, .int .i64)] t ∧ I2 t w) ∧
∀ (_ : Env) (t4 : (Option Addr × Nat × Nat) × Int × Unit) (w5 : World), I2 t4 w5 →
(fun w : World =>
cond (decide (t4.2.1 < ((x0l : Nat) : Int))) (
nlW x0b fun a6 =>
((0 ≤ t4.2.1 ∧ t4.2.1 < ((x0l : Nat) : Int)) ∧
∃ n7 : Int, w.cell? (a6.add (t4.2.1.toNat * 1)) = some (.int .u8 n7) ∧
∃ g8 : Array Value, bslP Tryd.prog 24 1 [(0, .int .u8 n7)] g8 5 ∧
newW g8 5 w fun a9 w =>
apnW Tryd.prog 24 24 (.slice t4.1.1 t4.1.2.1 t4.1.2.2) (.slice (some a9) 1 1) w fun q10b q10l q10c w =>
∃ t' : (Option Addr × Nat × Nat) × Int × Unit, ([.slice q10b q10l q10c, .int .i64 (IntKind.i64.wrap (t4.2.1 + (1 : Int)))] : List Value) = tv [(3, .slice), (4, .int .i64)] t' ∧ I2 t' w ∧ m3 t' w < m3 t4 w5)) (
∃ (I11 : ((Option Addr × Nat × Nat) × Int × Unit) → World → Prop) (m12 : ((Option Addr × Nat × Nat) × Int × Unit) → World → Nat), (∃ t : (Option Addr × Nat × Nat) × Int × Unit, ([.slice t4.1.1 t4.1.2.1 t4.1.2.2, .int .i64 (0 : Int)] : List Value) = tv [(3, .slice), (5, .int .i64)] t ∧ I11 t w) ∧
∀ (_ : Env) (t13 : (Option Addr × Nat × Nat) × Int × Unit) (w14 : World), I11 t13 w14 →
(fun w : World =>
cond (decide (t13.2.1 < (64 : Int))) (
∃ g15 : Array Value, bslP Tryd.prog 24 1 [(0, .int .u8 (IntKind.u8.wrap (IntKind.i64.wrap ((160 : Int) + t13.2.1))))] g15 5 ∧
newW g15 5 w fun a16 w =>
apnW Tryd.prog 24 24 (.slice t13.1.1 t13.1.2.1 t13.1.2.2) (.slice (some a16) 1 1) w fun q17b q17l q17c w =>
∃ t' : (Option Addr × Nat × Nat) × Int × Unit, ([.slice q17b q17l q17c, .int .i64 (IntKind.i64.wrap (t13.2.1 + (1 : Int)))] : List Value) = tv [(3, .slice), (5, .int .i64)] t' ∧ I11 t' w ∧ m12 t' w < m12 t13 w14) (
((0 ≤ ((x0l : Nat) : Int) ∧ ((x0l : Nat) : Int) ≤ ((t13.1.2.2 : Nat) : Int)) ∧
Q (.slice (slB t13.1.1 0 t13.1.2.2 1) ((((x0l : Nat) : Int).toNat) - 0) (t13.1.2.2 - 0)) w))) w14)) w5)
set_option maxRecDepth 100000 in
theorem W14_eq (x0b : Option Addr) (x0l x0c : Nat) (w : World) (Q : Value → World → Prop) : wFn Tryd.prog Tryd.f14 W14_plan [.slice x0b x0l x0c] w Q = W14 x0b x0l x0c w Q := by kernel_rfl
set_option maxRecDepth 100000 in
theorem W14_ok (x0b : Option Addr) (x0l x0c : Nat) (w : World) (Q : Value → World → Prop) (h : W14 x0b x0l x0c w Q) : Calls Tryd.prog 14 #[.slice x0b x0l x0c] w (fun e w' => ∃ v, e = .returned v ∧ Q v w') :=
  calls_of_wFn mixed W14_plan Tryd.func14 (by kernel_rfl) ((W14_eq x0b x0l x0c w Q).mpr h)

/-! ### 18: hartix/hartixlaw0.Kept -/
def W18_plan : Plan := (.n .z (.n .z (.n .z (.n (.n .z (.cut [4, 6, 16, 17, 18, 19, 20, 21, 22, 23, 24, 25, 26, 27, 28, 29, 30] [(6, .int .i64)] .z .z)) .z))))
def W18 (x0b : Option Addr) (x0l x0c : Nat) (x1b : Option Addr) (x1l x1c : Nat) (w : World) (Q : Value → World → Prop) : Prop :=
Calls Tryd.prog 21 #[.slice x0b x0l x0c, .slice x1b x1l x1c] w fun e w =>
∃ b1 : Bool, e = .returned (.bool b1) ∧
cond (!b1) (
Q (.bool false) w) (
((0 ≤ (IntKind.i64.wrap (((x1l : Nat) : Int) + (64 : Int))) ∧ (IntKind.i64.wrap (((x1l : Nat) : Int) + (64 : Int))) ≤ ((x0c : Nat) : Int)) ∧
∃ (I2 : (Int × Unit) → World → Prop) (m3 : (Int × Unit) → World → Nat), (∃ t : Int × Unit, ([.int .i64 (0 : Int)] : List Value) = tv [(6, .int .i64)] t ∧ I2 t w) ∧
∀ (_ : Env) (t4 : Int × Unit) (w5 : World), I2 t4 w5 →
(fun w : World =>
cond (decide (t4.1 < (64 : Int))) (
nlW (slB x0b 0 x0c 1) fun a6 =>
((0 ≤ (IntKind.i64.wrap (((x1l : Nat) : Int) + t4.1)) ∧ (IntKind.i64.wrap (((x1l : Nat) : Int) + t4.1)) < (((((IntKind.i64.wrap (((x1l : Nat) : Int) + (64 : Int))).toNat) - 0) : Nat) : Int)) ∧
∃ n7 : Int, w.cell? (a6.add ((IntKind.i64.wrap (((x1l : Nat) : Int) + t4.1)).toNat * 1)) = some (.int .u8 n7) ∧
cond (n7 != (IntKind.u8.wrap (IntKind.i64.wrap ((160 : Int) + t4.1)))) (
Q (.bool false) w) (
∃ t' : Int × Unit, ([.int .i64 (IntKind.i64.wrap (t4.1 + (1 : Int)))] : List Value) = tv [(6, .int .i64)] t' ∧ I2 t' w ∧ m3 t' w < m3 t4 w5))) (
Q (.bool true) w)) w5))
set_option maxRecDepth 100000 in
theorem W18_eq (x0b : Option Addr) (x0l x0c : Nat) (x1b : Option Addr) (x1l x1c : Nat) (w : World) (Q : Value → World → Prop) : wFn Tryd.prog Tryd.f18 W18_plan [.slice x0b x0l x0c, .slice x1b x1l x1c] w Q = W18 x0b x0l x0c x1b x1l x1c w Q := by kernel_rfl
set_option maxRecDepth 100000 in
theorem W18_ok (x0b : Option Addr) (x0l x0c : Nat) (x1b : Option Addr) (x1l x1c : Nat) (w : World) (Q : Value → World → Prop) (h : W18 x0b x0l x0c x1b x1l x1c w Q) : Calls Tryd.prog 18 #[.slice x0b x0l x0c, .slice x1b x1l x1c] w (fun e w' => ∃ v, e = .returned v ∧ Q v w') :=
  calls_of_wFn mixed W18_plan Tryd.func18 (by kernel_rfl) ((W18_eq x0b x0l x0c x1b x1l x1c w Q).mpr h)

/-! ### 26: hartix/hartixlaw0.CopyBytes -/
def W26_plan : Plan := (.n .z (.n .z (.n (.n .z (.cut [3, 4, 5, 6, 7, 8, 9, 10, 11, 12, 13, 14, 15, 16, 17] [(3, .slice), (4, .int .i64)] .z .z)) .z)))
def W26 (x0b : Option Addr) (x0l x0c : Nat) (w : World) (Q : Value → World → Prop) : Prop :=
∃ (I1 : ((Option Addr × Nat × Nat) × Int × Unit) → World → Prop) (m2 : ((Option Addr × Nat × Nat) × Int × Unit) → World → Nat), (∃ t : (Option Addr × Nat × Nat) × Int × Unit, ([.slice none 0 0, .int .i64 (0 : Int)] : List Value) = tv [(3, .slice), (4, .int .i64)] t ∧ I1 t w) ∧
∀ (_ : Env) (t3 : (Option Addr × Nat × Nat) × Int × Unit) (w4 : World), I1 t3 w4 →
(fun w : World =>
cond (decide (t3.2.1 < ((x0l : Nat) : Int))) (
nlW x0b fun a5 =>
((0 ≤ t3.2.1 ∧ t3.2.1 < ((x0l : Nat) : Int)) ∧
∃ n6 : Int, w.cell? (a5.add (t3.2.1.toNat * 1)) = some (.int .u8 n6) ∧
∃ g7 : Array Value, bslP Tryd.prog 24 1 [(0, .int .u8 n6)] g7 5 ∧
newW g7 5 w fun a8 w =>
apnW Tryd.prog 24 24 (.slice t3.1.1 t3.1.2.1 t3.1.2.2) (.slice (some a8) 1 1) w fun q9b q9l q9c w =>
∃ t' : (Option Addr × Nat × Nat) × Int × Unit, ([.slice q9b q9l q9c, .int .i64 (IntKind.i64.wrap (t3.2.1 + (1 : Int)))] : List Value) = tv [(3, .slice), (4, .int .i64)] t' ∧ I1 t' w ∧ m2 t' w < m2 t3 w4)) (
Q (.slice t3.1.1 t3.1.2.1 t3.1.2.2) w)) w4
set_option maxRecDepth 100000 in
theorem W26_eq (x0b : Option Addr) (x0l x0c : Nat) (w : World) (Q : Value → World → Prop) : wFn Tryd.prog Tryd.f26 W26_plan [.slice x0b x0l x0c] w Q = W26 x0b x0l x0c w Q := by kernel_rfl
set_option maxRecDepth 100000 in
theorem W26_ok (x0b : Option Addr) (x0l x0c : Nat) (w : World) (Q : Value → World → Prop) (h : W26 x0b x0l x0c w Q) : Calls Tryd.prog 26 #[.slice x0b x0l x0c] w (fun e w' => ∃ v, e = .returned v ∧ Q v w') :=
  calls_of_wFn mixed W26_plan Tryd.func26 (by kernel_rfl) ((W26_eq x0b x0l x0c w Q).mpr h)

/-! ### 21: hartix/hartixlaw0.Bytes -/
def W21_plan : Plan := (.n .z (.n .z (.n (.n .z (.cut [4, 5, 11, 12, 13, 14, 15, 16, 17, 18, 19, 20, 21, 22, 23, 24, 25] [(5, .int .i64)] .z .z)) .z)))
def W21 (x0b : Option Addr) (x0l x0c : Nat) (x1b : Option Addr) (x1l x1c : Nat) (w : World) (Q : Value → World → Prop) : Prop :=
cond (((x0l : Nat) : Int) != ((x1l : Nat) : Int)) (
Q (.bool false) w) (
∃ (I1 : (Int × Unit) → World → Prop) (m2 : (Int × Unit) → World → Nat), (∃ t : Int × Unit, ([.int .i64 (0 : Int)] : List Value) = tv [(5, .int .i64)] t ∧ I1 t w) ∧
∀ (_ : Env) (t3 : Int × Unit) (w4 : World), I1 t3 w4 →
(fun w : World =>
cond (decide (t3.1 < ((x0l : Nat) : Int))) (
nlW x0b fun a5 =>
((0 ≤ t3.1 ∧ t3.1 < ((x0l : Nat) : Int)) ∧
∃ n6 : Int, w.drew.cell? (a5.add (t3.1.toNat * 1)) = some (.int .u8 n6) ∧
nlW x1b fun a7 =>
((0 ≤ t3.1 ∧ t3.1 < ((x1l : Nat) : Int)) ∧
∃ n8 : Int, w.drew.cell? (a7.add (t3.1.toNat * 1)) = some (.int .u8 n8) ∧
cond (n6 != n8) (
Q (.bool false) w.drew) (
∃ t' : Int × Unit, ([.int .i64 (IntKind.i64.wrap (t3.1 + (1 : Int)))] : List Value) = tv [(5, .int .i64)] t' ∧ I1 t' w.drew ∧ m2 t' w.drew < m2 t3 w4)))) (
Q (.bool true) w)) w4)
set_option maxRecDepth 100000 in
theorem W21_eq (x0b : Option Addr) (x0l x0c : Nat) (x1b : Option Addr) (x1l x1c : Nat) (w : World) (Q : Value → World → Prop) : wFn Tryd.prog Tryd.f21 W21_plan [.slice x0b x0l x0c, .slice x1b x1l x1c] w Q = W21 x0b x0l x0c x1b x1l x1c w Q := by kernel_rfl
set_option maxRecDepth 100000 in
theorem W21_ok (x0b : Option Addr) (x0l x0c : Nat) (x1b : Option Addr) (x1l x1c : Nat) (w : World) (Q : Value → World → Prop) (h : W21 x0b x0l x0c x1b x1l x1c w Q) : Calls Tryd.prog 21 #[.slice x0b x0l x0c, .slice x1b x1l x1c] w (fun e w' => ∃ v, e = .returned v ∧ Q v w') :=
  calls_of_wFn mixed W21_plan Tryd.func21 (by kernel_rfl) ((W21_eq x0b x0l x0c x1b x1l x1c w Q).mpr h)

/-! ### 22: hartix/hartixlaw0.Free -/
def W22_plan : Plan := (.n .z (.n (.n .z (.cut [3, 4, 13, 14, 15, 16, 17, 18, 19, 20, 21, 22, 23, 24, 25, 26, 27, 28, 29, 30, 31, 32, 33, 34, 35, 36] [(3, .int .i64)] (.n .z (.n (.n .z (.cut [4, 19, 20, 21, 22, 23, 24, 25, 26, 27, 28, 29, 30, 31, 32, 33, 34, 35, 36] [(4, .int .i64)] .z .z)) .z)) .z)) (.n .z (.n (.n .z (.cut [5, 6, 7, 8, 37, 38, 39, 40, 41, 42, 43, 44, 45, 46, 47, 48, 49, 50, 51, 52, 53, 54, 55, 56, 57, 58, 59, 60, 61] [(5, .slice), (6, .int .i64)] (.n .z (.n (.n .z (.n (.n .z (.cut [7, 8, 47, 48, 49, 50, 51, 52, 53, 54, 55, 56, 57] [(7, .slice), (8, .int .i64)] .z .z)) .z)) .z)) .z)) (.n (.n .z (.cut [2, 9, 10, 11, 12, 62, 63, 64, 65, 66, 67, 68, 69, 70, 71, 72, 73, 74, 75, 76, 77, 78, 79, 80, 81, 82, 83, 84, 85, 86, 87, 88, 89, 90, 91, 92, 93, 94, 95, 96, 97, 98, 99, 100, 101, 102, 103, 104, 105, 106] [(9, .int .i64)] (.n .z (.n (.n .z (.n (.n .z (.cut [2, 11, 73, 74, 75, 76, 77, 78, 79, 80, 81, 82, 83, 84, 85, 86, 87, 88] [(11, .int .i64)] .z .z)) (.n .z (.cut [2, 12, 89, 90, 91, 92, 93, 94, 95, 96, 97, 98, 99, 100, 101, 102, 103, 104, 105, 106] [(12, .int .i64)] .z .z)))) .z)) .z)) .z)))))
def W22 (x0b : Option Addr) (x0l x0c : Nat) (w : World) (Q : Value → World → Prop) : Prop :=
∃ (I1 : (Int × Unit) → World → Prop) (m2 : (Int × Unit) → World → Nat), (∃ t : Int × Unit, ([.int .i64 (0 : Int)] : List Value) = tv [(3, .int .i64)] t ∧ I1 t w) ∧
∀ (_ : Env) (t3 : Int × Unit) (w4 : World), I1 t3 w4 →
(fun w : World =>
cond (decide (t3.1 < ((x0l : Nat) : Int))) (
∃ (I5 : (Int × Unit) → World → Prop) (m6 : (Int × Unit) → World → Nat), (∃ t : Int × Unit, ([.int .i64 (0 : Int)] : List Value) = tv [(4, .int .i64)] t ∧ I5 t w) ∧
∀ (_ : Env) (t7 : Int × Unit) (w8 : World), I5 t7 w8 →
(fun w : World =>
nlW x0b fun a9 =>
((0 ≤ t3.1 ∧ t3.1 < ((x0l : Nat) : Int)) ∧
∃ (q10b : Option Addr) (q10l q10c : Nat), w.cell? (a9.add (t3.1.toNat * 1)) = some (.slice q10b q10l q10c) ∧
cond (decide (t7.1 < ((q10l : Nat) : Int))) (
nlW x0b fun a11 =>
((0 ≤ t3.1 ∧ t3.1 < ((x0l : Nat) : Int)) ∧
∃ (q12b : Option Addr) (q12l q12c : Nat), w.cell? (a11.add (t3.1.toNat * 1)) = some (.slice q12b q12l q12c) ∧
((100 : Int) ≠ 0 ∧
nlW q12b fun a13 =>
((0 ≤ t7.1 ∧ t7.1 < ((q12l : Nat) : Int)) ∧
stC (a13.add (t7.1.toNat * 1)) (.int .u8 (IntKind.u8.wrap (t3.1.tmod (100 : Int)))) w fun w =>
∃ t' : Int × Unit, ([.int .i64 (IntKind.i64.wrap (t7.1 + (1 : Int)))] : List Value) = tv [(4, .int .i64)] t' ∧ I5 t' w ∧ m6 t' w < m6 t7 w8)))) (
∃ t' : Int × Unit, ([.int .i64 (IntKind.i64.wrap (t3.1 + (1 : Int)))] : List Value) = tv [(3, .int .i64)] t' ∧ I1 t' w ∧ m2 t' w < m2 t3 w4))) w8) (
∃ (I14 : ((Option Addr × Nat × Nat) × Int × Unit) → World → Prop) (m15 : ((Option Addr × Nat × Nat) × Int × Unit) → World → Nat), (∃ t : (Option Addr × Nat × Nat) × Int × Unit, ([.slice none 0 0, .int .i64 (0 : Int)] : List Value) = tv [(5, .slice), (6, .int .i64)] t ∧ I14 t w) ∧
∀ (_ : Env) (t16 : (Option Addr × Nat × Nat) × Int × Unit) (w17 : World), I14 t16 w17 →
(fun w : World =>
cond (decide (t16.2.1 < ((x0l : Nat) : Int))) (
nlW x0b fun a18 =>
((0 ≤ t16.2.1 ∧ t16.2.1 < ((x0l : Nat) : Int)) ∧
∃ (q19b : Option Addr) (q19l q19c : Nat), w.cell? (a18.add (t16.2.1.toNat * 1)) = some (.slice q19b q19l q19c) ∧
∃ (I20 : ((Option Addr × Nat × Nat) × Int × Unit) → World → Prop) (m21 : ((Option Addr × Nat × Nat) × Int × Unit) → World → Nat), (∃ t : (Option Addr × Nat × Nat) × Int × Unit, ([.slice q19b q19l q19c, .int .i64 (0 : Int)] : List Value) = tv [(7, .slice), (8, .int .i64)] t ∧ I20 t w) ∧
∀ (_ : Env) (t22 : (Option Addr × Nat × Nat) × Int × Unit) (w23 : World), I20 t22 w23 →
(fun w : World =>
cond (decide (t22.2.1 < (64 : Int))) (
((100 : Int) ≠ 0 ∧
∃ g24 : Array Value, bslP Tryd.prog 24 1 [(0, .int .u8 (IntKind.u8.wrap (IntKind.i64.wrap ((128 : Int) + (t16.2.1.tmod (100 : Int))))))] g24 5 ∧
newW g24 5 w fun a25 w =>
apnW Tryd.prog 24 24 (.slice t22.1.1 t22.1.2.1 t22.1.2.2) (.slice (some a25) 1 1) w fun q26b q26l q26c w =>
∃ t' : (Option Addr × Nat × Nat) × Int × Unit, ([.slice q26b q26l q26c, .int .i64 (IntKind.i64.wrap (t22.2.1 + (1 : Int)))] : List Value) = tv [(7, .slice), (8, .int .i64)] t' ∧ I20 t' w ∧ m21 t' w < m21 t22 w23)) (
∃ g27 : Array Value, bslP Tryd.prog 36 1 [(0, .slice t22.1.1 t22.1.2.1 t22.1.2.2)] g27 24 ∧
newW g27 24 w fun a28 w =>
apnW Tryd.prog 36 36 (.slice t16.1.1 t16.1.2.1 t16.1.2.2) (.slice (some a28) 1 1) w fun q29b q29l q29c w =>
∃ t' : (Option Addr × Nat × Nat) × Int × Unit, ([.slice q29b q29l q29c, .int .i64 (IntKind.i64.wrap (t16.2.1 + (1 : Int)))] : List Value) = tv [(5, .slice), (6, .int .i64)] t' ∧ I14 t' w ∧ m15 t' w < m15 t16 w17)) w23)) (
∃ (I30 : (Int × Unit) → World → Prop) (m31 : (Int × Unit) → World → Nat), (∃ t : Int × Unit, ([.int .i64 (0 : Int)] : List Value) = tv [(9, .int .i64)] t ∧ I30 t w) ∧
∀ (_ : Env) (t32 : Int × Unit) (w33 : World), I30 t32 w33 →
(fun w : World =>
cond (decide (t32.1 < ((x0l : Nat) : Int))) (
nlW x0b fun a34 =>
((0 ≤ t32.1 ∧ t32.1 < ((x0l : Nat) : Int)) ∧
∃ (q35b : Option Addr) (q35l q35c : Nat), w.cell? (a34.add (t32.1.toNat * 1)) = some (.slice q35b q35l q35c) ∧
∃ (I36 : (Int × Unit) → World → Prop) (m37 : (Int × Unit) → World → Nat), (∃ t : Int × Unit, ([.int .i64 (0 : Int)] : List Value) = tv [(11, .int .i64)] t ∧ I36 t w) ∧
∀ (_ : Env) (t38 : Int × Unit) (w39 : World), I36 t38 w39 →
(fun w : World =>
cond (decide (t38.1 < ((q35l : Nat) : Int))) (
nlW x0b fun a40 =>
((0 ≤ t32.1 ∧ t32.1 < ((x0l : Nat) : Int)) ∧
∃ (q41b : Option Addr) (q41l q41c : Nat), w.cell? (a40.add (t32.1.toNat * 1)) = some (.slice q41b q41l q41c) ∧
nlW q41b fun a42 =>
((0 ≤ t38.1 ∧ t38.1 < ((q41l : Nat) : Int)) ∧
∃ n43 : Int, w.cell? (a42.add (t38.1.toNat * 1)) = some (.int .u8 n43) ∧
((100 : Int) ≠ 0 ∧
cond (n43 != (IntKind.u8.wrap (t32.1.tmod (100 : Int)))) (
Q (.bool false) w) (
∃ t' : Int × Unit, ([.int .i64 (IntKind.i64.wrap (t38.1 + (1 : Int)))] : List Value) = tv [(11, .int .i64)] t' ∧ I36 t' w ∧ m37 t' w < m37 t38 w39))))) (
∃ (I44 : (Int × Unit) → World → Prop) (m45 : (Int × Unit) → World → Nat), (∃ t : Int × Unit, ([.int .i64 (0 : Int)] : List Value) = tv [(12, .int .i64)] t ∧ I44 t w) ∧
∀ (_ : Env) (t46 : Int × Unit) (w47 : World), I44 t46 w47 →
(fun w : World =>
cond (decide (t46.1 < (64 : Int))) (
nlW t16.1.1 fun a48 =>
((0 ≤ t32.1 ∧ t32.1 < ((t16.1.2.1 : Nat) : Int)) ∧
∃ (q49b : Option Addr) (q49l q49c : Nat), w.cell? (a48.add (t32.1.toNat * 1)) = some (.slice q49b q49l q49c) ∧
nlW q49b fun a50 =>
((0 ≤ (IntKind.i64.wrap (((q35l : Nat) : Int) + t46.1)) ∧ (IntKind.i64.wrap (((q35l : Nat) : Int) + t46.1)) < ((q49l : Nat) : Int)) ∧
∃ n51 : Int, w.cell? (a50.add ((IntKind.i64.wrap (((q35l : Nat) : Int) + t46.1)).toNat * 1)) = some (.int .u8 n51) ∧
((100 : Int) ≠ 0 ∧
cond (n51 != (IntKind.u8.wrap (IntKind.i64.wrap ((128 : Int) + (t32.1.tmod (100 : Int)))))) (
Q (.bool false) w) (
∃ t' : Int × Unit, ([.int .i64 (IntKind.i64.wrap (t46.1 + (1 : Int)))] : List Value) = tv [(12, .int .i64)] t' ∧ I44 t' w ∧ m45 t' w < m45 t46 w47))))) (
∃ t' : Int × Unit, ([.int .i64 (IntKind.i64.wrap (t32.1 + (1 : Int)))] : List Value) = tv [(9, .int .i64)] t' ∧ I30 t' w ∧ m31 t' w < m31 t32 w33)) w47)) w39)) (
Q (.bool true) w)) w33)) w17)) w4
set_option maxRecDepth 100000 in
theorem W22_eq (x0b : Option Addr) (x0l x0c : Nat) (w : World) (Q : Value → World → Prop) : wFn Tryd.prog Tryd.f22 W22_plan [.slice x0b x0l x0c] w Q = W22 x0b x0l x0c w Q := by kernel_rfl
set_option maxRecDepth 100000 in
theorem W22_ok (x0b : Option Addr) (x0l x0c : Nat) (w : World) (Q : Value → World → Prop) (h : W22 x0b x0l x0c w Q) : Calls Tryd.prog 22 #[.slice x0b x0l x0c] w (fun e w' => ∃ v, e = .returned v ∧ Q v w') :=
  calls_of_wFn mixed W22_plan Tryd.func22 (by kernel_rfl) ((W22_eq x0b x0l x0c w Q).mpr h)

/-! ### 17: hartix/hartixlaw0.Texts -/
def W17_plan : Plan := (.n .z (.n .z (.n (.n .z (.cut [4, 5, 11, 12, 13, 14, 15, 16, 17, 18, 19, 20, 21, 22, 23, 24, 25] [(5, .int .i64)] .z .z)) .z)))
def W17 (x0b : Option Addr) (x0l x0c : Nat) (x1b : Option Addr) (x1l x1c : Nat) (w : World) (Q : Value → World → Prop) : Prop :=
cond (((x0l : Nat) : Int) != ((x1l : Nat) : Int)) (
Q (.bool false) w) (
∃ (I1 : (Int × Unit) → World → Prop) (m2 : (Int × Unit) → World → Nat), (∃ t : Int × Unit, ([.int .i64 (0 : Int)] : List Value) = tv [(5, .int .i64)] t ∧ I1 t w) ∧
∀ (_ : Env) (t3 : Int × Unit) (w4 : World), I1 t3 w4 →
(fun w : World =>
cond (decide (t3.1 < ((x0l : Nat) : Int))) (
nlW x0b fun a5 =>
((0 ≤ t3.1 ∧ t3.1 < ((x0l : Nat) : Int)) ∧
∃ s6 : ByteArray, w.drew.cell? (a5.add (t3.1.toNat * 1)) = some (.string s6) ∧
nlW x1b fun a7 =>
((0 ≤ t3.1 ∧ t3.1 < ((x1l : Nat) : Int)) ∧
∃ s8 : ByteArray, w.drew.cell? (a7.add (t3.1.toNat * 1)) = some (.string s8) ∧
cond (!strEq s6 s8) (
Q (.bool false) w.drew) (
∃ t' : Int × Unit, ([.int .i64 (IntKind.i64.wrap (t3.1 + (1 : Int)))] : List Value) = tv [(5, .int .i64)] t' ∧ I1 t' w.drew ∧ m2 t' w.drew < m2 t3 w4)))) (
Q (.bool true) w)) w4)
set_option maxRecDepth 100000 in
theorem W17_eq (x0b : Option Addr) (x0l x0c : Nat) (x1b : Option Addr) (x1l x1c : Nat) (w : World) (Q : Value → World → Prop) : wFn Tryd.prog Tryd.f17 W17_plan [.slice x0b x0l x0c, .slice x1b x1l x1c] w Q = W17 x0b x0l x0c x1b x1l x1c w Q := by kernel_rfl
set_option maxRecDepth 100000 in
theorem W17_ok (x0b : Option Addr) (x0l x0c : Nat) (x1b : Option Addr) (x1l x1c : Nat) (w : World) (Q : Value → World → Prop) (h : W17 x0b x0l x0c x1b x1l x1c w Q) : Calls Tryd.prog 17 #[.slice x0b x0l x0c, .slice x1b x1l x1c] w (fun e w' => ∃ v, e = .returned v ∧ Q v w') :=
  calls_of_wFn mixed W17_plan Tryd.func17 (by kernel_rfl) ((W17_eq x0b x0l x0c x1b x1l x1c w Q).mpr h)

end Go.Proofs.YthkcdkldpbndnaaDoor
