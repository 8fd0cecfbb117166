/- The walk's functions of this seat, printed by a program of mine (wgen.py) out of Lean's own print of the loaded functions; each is tied to the loaded function by the kernel. No condition. -/
import Derived.Test.YtceciiemnagdoaaRows
import Derived.Test.YtceciiemnagdoaaHz
set_option linter.unusedVariables false
namespace Go.Proofs.Ytceciiemnagdoaa
open Go.RowKit Go.Hx
theorem mixed : Try.prog.follows .mixedOrders = true := by kernel_rfl
/-! ### 11: hartix/hartixlaw0.Lend -/
def W11_plan : Plan := (.n .z (.n .z (.n (.n .z (.cut [3, 4, 10, 11, 12, 13, 14, 15, 16, 17, 18, 19, 20, 21, 22] [(3, .slice), (4, .int .i64)] .z .z)) (.n (.n .z (.cut [3, 5, 23, 24, 25, 26, 27, 28, 29, 30, 31, 32] [(3, .slice), (5, .int .i64)] .z .z)) .z))))
def W11 (x0b : Option Addr) (x0l x0c : Nat) (w : World) (Q : Value → World → Prop) : Prop :=
((0 ≤ (0 : Int) ∧ (0 : Int) ≤ (IntKind.i64.wrap (((x0l : Nat) : Int) + (64 : Int))) ∧ (IntKind.i64.wrap (((x0l : Nat) : Int) + (64 : Int))) ≤ 9223372036854775807 ∧ ((1 : Nat) : Int) * (IntKind.i64.wrap (((x0l : Nat) : Int) + (64 : Int))) ≤ 281474976710656) ∧
newW ((Array.range ((IntKind.i64.wrap (((x0l : Nat) : Int) + (64 : Int))).toNat * 1)).map (fun x => (#[.int .u8 0] : Array Value)[x % (#[.int .u8 0] : Array Value).size]!)) 5 w fun a1 w =>
∃ (I2 : ((Option Addr × Nat × Nat) × Int × Unit) → World → Prop) (m3 : ((Option Addr × Nat × Nat) × Int × Unit) → World → Nat), (∃ t : (Option Addr × Nat × Nat) × Int × Unit, ([.slice (some a1) ((0 : Int).toNat) ((IntKind.i64.wrap (((x0l : Nat) : Int) + (64 : Int))).toNat), .int .i64 (0 : Int)] : List Value) = tv [(3, .slice), (4, .int .i64)] t ∧ I2 t w) ∧
∀ (_ : Env) (t4 : (Option Addr × Nat × Nat) × Int × Unit) (w5 : World), I2 t4 w5 →
(fun w : World =>
cond (decide (t4.2.1 < ((x0l : Nat) : Int))) (
nlW x0b fun a6 =>
((0 ≤ t4.2.1 ∧ t4.2.1 < ((x0l : Nat) : Int)) ∧
∃ n7 : Int, w.cell? (a6.add (t4.2.1.toNat * 1)) = some (.int .u8 n7) ∧
∃ g8 : Array Value, bslP Try.prog 23 1 [(0, .int .u8 n7)] g8 5 ∧
newW g8 5 w fun a9 w =>
apnW Try.prog 23 23 (.slice t4.1.1 t4.1.2.1 t4.1.2.2) (.slice (some a9) 1 1) w fun q10b q10l q10c w =>
∃ t' : (Option Addr × Nat × Nat) × Int × Unit, ([.slice q10b q10l q10c, .int .i64 (IntKind.i64.wrap (t4.2.1 + (1 : Int)))] : List Value) = tv [(3, .slice), (4, .int .i64)] t' ∧ I2 t' w ∧ m3 t' w < m3 t4 w5)) (
∃ (I11 : ((Option Addr × Nat × Nat) × Int × Unit) → World → Prop) (m12 : ((Option Addr × Nat × Nat) × Int × Unit) → World → Nat), (∃ t : (Option Addr × Nat × Nat) × Int × Unit, ([.slice t4.1.1 t4.1.2.1 t4.1.2.2, .int .i64 (0 : Int)] : List Value) = tv [(3, .slice), (5, .int .i64)] t ∧ I11 t w) ∧
∀ (_ : Env) (t13 : (Option Addr × Nat × Nat) × Int × Unit) (w14 : World), I11 t13 w14 →
(fun w : World =>
cond (decide (t13.2.1 < (64 : Int))) (
∃ g15 : Array Value, bslP Try.prog 23 1 [(0, .int .u8 (IntKind.u8.wrap (IntKind.i64.wrap ((160 : Int) + t13.2.1))))] g15 5 ∧
newW g15 5 w fun a16 w =>
apnW Try.prog 23 23 (.slice t13.1.1 t13.1.2.1 t13.1.2.2) (.slice (some a16) 1 1) w fun q17b q17l q17c w =>
∃ t' : (Option Addr × Nat × Nat) × Int × Unit, ([.slice q17b q17l q17c, .int .i64 (IntKind.i64.wrap (t13.2.1 + (1 : Int)))] : List Value) = tv [(3, .slice), (5, .int .i64)] t' ∧ I11 t' w ∧ m12 t' w < m12 t13 w14) (
((0 ≤ ((x0l : Nat) : Int) ∧ ((x0l : Nat) : Int) ≤ ((t13.1.2.2 : Nat) : Int)) ∧
Q (.slice (slB t13.1.1 0 t13.1.2.2 1) ((((x0l : Nat) : Int).toNat) - 0) (t13.1.2.2 - 0)) w))) w14)) w5)
set_option maxRecDepth 100000 in
theorem W11_eq (x0b : Option Addr) (x0l x0c : Nat) (w : World) (Q : Value → World → Prop) : wFn Try.prog Try.f11 W11_plan [.slice x0b x0l x0c] w Q = W11 x0b x0l x0c w Q := by kernel_rfl
set_option maxRecDepth 100000 in
theorem W11_ok (x0b : Option Addr) (x0l x0c : Nat) (w : World) (Q : Value → World → Prop) (h : W11 x0b x0l x0c w Q) : Calls Try.prog 11 #[.slice x0b x0l x0c] w (fun e w' => ∃ v, e = .returned v ∧ Q v w') :=
  calls_of_wFn mixed W11_plan Try.func11 (by kernel_rfl) ((W11_eq x0b x0l x0c w Q).mpr h)

/-! ### 15: hartix/hartixlaw0.Kept -/
def W15_plan : Plan := (.n .z (.n .z (.n .z (.n (.n .z (.cut [4, 6, 16, 17, 18, 19, 20, 21, 22, 23, 24, 25, 26, 27, 28, 29, 30] [(6, .int .i64)] .z .z)) .z))))
def W15 (x0b : Option Addr) (x0l x0c : Nat) (x1b : Option Addr) (x1l x1c : Nat) (w : World) (Q : Value → World → Prop) : Prop :=
Calls Try.prog 19 #[.slice x0b x0l x0c, .slice x1b x1l x1c] w fun e w =>
∃ b1 : Bool, e = .returned (.bool b1) ∧
cond (!b1) (
Q (.bool false) w) (
((0 ≤ (IntKind.i64.wrap (((x1l : Nat) : Int) + (64 : Int))) ∧ (IntKind.i64.wrap (((x1l : Nat) : Int) + (64 : Int))) ≤ ((x0c : Nat) : Int)) ∧
∃ (I2 : (Int × Unit) → World → Prop) (m3 : (Int × Unit) → World → Nat), (∃ t : Int × Unit, ([.int .i64 (0 : Int)] : List Value) = tv [(6, .int .i64)] t ∧ I2 t w) ∧
∀ (_ : Env) (t4 : Int × Unit) (w5 : World), I2 t4 w5 →
(fun w : World =>
cond (decide (t4.1 < (64 : Int))) (
nlW (slB x0b 0 x0c 1) fun a6 =>
((0 ≤ (IntKind.i64.wrap (((x1l : Nat) : Int) + t4.1)) ∧ (IntKind.i64.wrap (((x1l : Nat) : Int) + t4.1)) < (((((IntKind.i64.wrap (((x1l : Nat) : Int) + (64 : Int))).toNat) - 0) : Nat) : Int)) ∧
∃ n7 : Int, w.cell? (a6.add ((IntKind.i64.wrap (((x1l : Nat) : Int) + t4.1)).toNat * 1)) = some (.int .u8 n7) ∧
cond (n7 != (IntKind.u8.wrap (IntKind.i64.wrap ((160 : Int) + t4.1)))) (
Q (.bool false) w) (
∃ t' : Int × Unit, ([.int .i64 (IntKind.i64.wrap (t4.1 + (1 : Int)))] : List Value) = tv [(6, .int .i64)] t' ∧ I2 t' w ∧ m3 t' w < m3 t4 w5))) (
Q (.bool true) w)) w5))
set_option maxRecDepth 100000 in
theorem W15_eq (x0b : Option Addr) (x0l x0c : Nat) (x1b : Option Addr) (x1l x1c : Nat) (w : World) (Q : Value → World → Prop) : wFn Try.prog Try.f15 W15_plan [.slice x0b x0l x0c, .slice x1b x1l x1c] w Q = W15 x0b x0l x0c x1b x1l x1c w Q := by kernel_rfl
set_option maxRecDepth 100000 in
theorem W15_ok (x0b : Option Addr) (x0l x0c : Nat) (x1b : Option Addr) (x1l x1c : Nat) (w : World) (Q : Value → World → Prop) (h : W15 x0b x0l x0c x1b x1l x1c w Q) : Calls Try.prog 15 #[.slice x0b x0l x0c, .slice x1b x1l x1c] w (fun e w' => ∃ v, e = .returned v ∧ Q v w') :=
  calls_of_wFn mixed W15_plan Try.func15 (by kernel_rfl) ((W15_eq x0b x0l x0c x1b x1l x1c w Q).mpr h)

/-! ### 16: hartix/hartixlaw0.CopyBytes -/
def W16_plan : Plan := (.n .z (.n .z (.n (.n .z (.cut [3, 4, 5, 6, 7, 8, 9, 10, 11, 12, 13, 14, 15, 16, 17] [(3, .slice), (4, .int .i64)] .z .z)) .z)))
def W16 (x0b : Option Addr) (x0l x0c : Nat) (w : World) (Q : Value → World → Prop) : Prop :=
∃ (I1 : ((Option Addr × Nat × Nat) × Int × Unit) → World → Prop) (m2 : ((Option Addr × Nat × Nat) × Int × Unit) → World → Nat), (∃ t : (Option Addr × Nat × Nat) × Int × Unit, ([.slice none 0 0, .int .i64 (0 : Int)] : List Value) = tv [(3, .slice), (4, .int .i64)] t ∧ I1 t w) ∧
∀ (_ : Env) (t3 : (Option Addr × Nat × Nat) × Int × Unit) (w4 : World), I1 t3 w4 →
(fun w : World =>
cond (decide (t3.2.1 < ((x0l : Nat) : Int))) (
nlW x0b fun a5 =>
((0 ≤ t3.2.1 ∧ t3.2.1 < ((x0l : Nat) : Int)) ∧
∃ n6 : Int, w.cell? (a5.add (t3.2.1.toNat * 1)) = some (.int .u8 n6) ∧
∃ g7 : Array Value, bslP Try.prog 23 1 [(0, .int .u8 n6)] g7 5 ∧
newW g7 5 w fun a8 w =>
apnW Try.prog 23 23 (.slice t3.1.1 t3.1.2.1 t3.1.2.2) (.slice (some a8) 1 1) w fun q9b q9l q9c w =>
∃ t' : (Option Addr × Nat × Nat) × Int × Unit, ([.slice q9b q9l q9c, .int .i64 (IntKind.i64.wrap (t3.2.1 + (1 : Int)))] : List Value) = tv [(3, .slice), (4, .int .i64)] t' ∧ I1 t' w ∧ m2 t' w < m2 t3 w4)) (
Q (.slice t3.1.1 t3.1.2.1 t3.1.2.2) w)) w4
set_option maxRecDepth 100000 in
theorem W16_eq (x0b : Option Addr) (x0l x0c : Nat) (w : World) (Q : Value → World → Prop) : wFn Try.prog Try.f16 W16_plan [.slice x0b x0l x0c] w Q = W16 x0b x0l x0c w Q := by kernel_rfl
set_option maxRecDepth 100000 in
theorem W16_ok (x0b : Option Addr) (x0l x0c : Nat) (w : World) (Q : Value → World → Prop) (h : W16 x0b x0l x0c w Q) : Calls Try.prog 16 #[.slice x0b x0l x0c] w (fun e w' => ∃ v, e = .returned v ∧ Q v w') :=
  calls_of_wFn mixed W16_plan Try.func16 (by kernel_rfl) ((W16_eq x0b x0l x0c w Q).mpr h)

/-! ### 19: hartix/hartixlaw0.Bytes -/
def W19_plan : Plan := (.n .z (.n .z (.n (.n .z (.cut [4, 5, 11, 12, 13, 14, 15, 16, 17, 18, 19, 20, 21, 22, 23, 24, 25] [(5, .int .i64)] .z .z)) .z)))
def W19 (x0b : Option Addr) (x0l x0c : Nat) (x1b : Option Addr) (x1l x1c : Nat) (w : World) (Q : Value → World → Prop) : Prop :=
cond (((x0l : Nat) : Int) != ((x1l : Nat) : Int)) (
Q (.bool false) w) (
∃ (I1 : (Int × Unit) → World → Prop) (m2 : (Int × Unit) → World → Nat), (∃ t : Int × Unit, ([.int .i64 (0 : Int)] : List Value) = tv [(5, .int .i64)] t ∧ I1 t w) ∧
∀ (_ : Env) (t3 : Int × Unit) (w4 : World), I1 t3 w4 →
(fun w : World =>
cond (decide (t3.1 < ((x0l : Nat) : Int))) (
nlW x0b fun a5 =>
((0 ≤ t3.1 ∧ t3.1 < ((x0l : Nat) : Int)) ∧
∃ n6 : Int, w.drew.cell? (a5.add (t3.1.toNat * 1)) = some (.int .u8 n6) ∧
nlW x1b fun a7 =>
((0 ≤ t3.1 ∧ t3.1 < ((x1l : Nat) : Int)) ∧
∃ n8 : Int, w.drew.cell? (a7.add (t3.1.toNat * 1)) = some (.int .u8 n8) ∧
cond (n6 != n8) (
Q (.bool false) w.drew) (
∃ t' : Int × Unit, ([.int .i64 (IntKind.i64.wrap (t3.1 + (1 : Int)))] : List Value) = tv [(5, .int .i64)] t' ∧ I1 t' w.drew ∧ m2 t' w.drew < m2 t3 w4)))) (
Q (.bool true) w)) w4)
set_option maxRecDepth 100000 in
theorem W19_eq (x0b : Option Addr) (x0l x0c : Nat) (x1b : Option Addr) (x1l x1c : Nat) (w : World) (Q : Value → World → Prop) : wFn Try.prog Try.f19 W19_plan [.slice x0b x0l x0c, .slice x1b x1l x1c] w Q = W19 x0b x0l x0c x1b x1l x1c w Q := by kernel_rfl
set_option maxRecDepth 100000 in
theorem W19_ok (x0b : Option Addr) (x0l x0c : Nat) (x1b : Option Addr) (x1l x1c : Nat) (w : World) (Q : Value → World → Prop) (h : W19 x0b x0l x0c x1b x1l x1c w Q) : Calls Try.prog 19 #[.slice x0b x0l x0c, .slice x1b x1l x1c] w (fun e w' => ∃ v, e = .returned v ∧ Q v w') :=
  calls_of_wFn mixed W19_plan Try.func19 (by kernel_rfl) ((W19_eq x0b x0l x0c x1b x1l x1c w Q).mpr h)

end Go.Proofs.Ytceciiemnagdoaa
