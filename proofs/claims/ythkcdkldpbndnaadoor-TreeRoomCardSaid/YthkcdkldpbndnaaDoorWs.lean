/- The walk's functions of this seat, printed by a program of mine (wgen.py) out of Lean's own print of the loaded functions; each is tied to the loaded function by the kernel. No condition. -/
import Derived.Test.YthkcdkldpbndnaaDoorRows
import Derived.Test.YthkcdkldpbndnaaDoorHz
import Derived.Test.YthkcdkldpbndnaaDoorWy
set_option linter.unusedVariables false
namespace Go.Proofs.YthkcdkldpbndnaaDoor
open Go.RowKit Go.Hx
/-! ### 3: hartix/hartixlaw9.TreeSplits -/
def W3_plan : Plan := (.n .z (.n .z (.n .z (.n .z (.n .z (.n .z (.n .z (.n .z (.n (.n .z (.cut [18, 80, 81, 82, 83, 84, 85, 86, 87, 88] [(18, .int .i64)] .z .z)) .z)))))))))
def W3 (x0 : ByteArray) (x1 : Array Value) (x2b : Option Addr) (x2l x2c : Nat) (w : World) (Q : Value → World → Prop) : Prop :=
newW x1 23 w fun a1 w =>
Calls Tryd.prog 12 #[.string x0] w fun e w =>
∃ (q2b : Option Addr) (q2l q2c : Nat), ∃ b3 : Bool, e = .returned (.tuple #[.slice q2b q2l q2c, .bool b3]) ∧
Calls Tryd.prog 13 #[.string x0] w fun e w =>
∃ (q4b : Option Addr) (q4l q4c : Nat), ∃ b5 : Bool, e = .returned (.tuple #[.slice q4b q4l q4c, .bool b5]) ∧
Calls Tryd.prog 14 #[.slice x2b x2l x2c] w fun e w =>
∃ (q6b : Option Addr) (q6l q6c : Nat), e = .returned (.slice q6b q6l q6c) ∧
Calls Tryd.prog 15 #[.slice q6b q6l q6c] w fun e w =>
∃ g7 : Array Value, ∃ b8 : Bool, e = .returned (.tuple #[.agg g7, .bool b8]) ∧
newW #[.int .i64 0, .string (⟨#[]⟩ : ByteArray)] 23 w fun a9 w =>
stA 2 a9 g7 w fun w =>
Calls Tryd.prog 16 #[.slice x2b x2l x2c] w fun e w =>
∃ g10 : Array Value, ∃ b11 : Bool, e = .returned (.tuple #[.agg g10, .bool b11]) ∧
newW #[.int .i64 0, .string (⟨#[]⟩ : ByteArray)] 23 w fun a12 w =>
stA 2 a12 g10 w fun w =>
Calls Tryd.prog 12 #[.string x0] w fun e w =>
∃ (q13b : Option Addr) (q13l q13c : Nat), ∃ b14 : Bool, e = .returned (.tuple #[.slice q13b q13l q13c, .bool b14]) ∧
cond (!(b3 == b5)) (
Q (.bool false) w) (
cond (!(b8 == b11)) (
Q (.bool false) w) (
∃ g15 : Array Value, g15.size = 2 ∧ RowAt w a9 g15 ∧
∃ g16 : Array Value, g16.size = 2 ∧ RowAt w a12 g16 ∧
∃ b17 : Bool, AggEq Tryd.prog 23 g15 g16 b17 ∧
cond (!b17) (
Q (.bool false) w) (
Calls Tryd.prog 17 #[.slice q2b q2l q2c, .slice q4b q4l q4c] w fun e w =>
∃ b18 : Bool, e = .returned (.bool b18) ∧
cond (!b18) (
Q (.bool false) w) (
Calls Tryd.prog 17 #[.slice q13b q13l q13c, .slice q4b q4l q4c] w fun e w =>
∃ b19 : Bool, e = .returned (.bool b19) ∧
cond (!b19) (
Q (.bool false) w) (
Calls Tryd.prog 18 #[.slice q6b q6l q6c, .slice x2b x2l x2c] w fun e w =>
∃ b20 : Bool, e = .returned (.bool b20) ∧
cond (!b20) (
Q (.bool false) w) (
∃ (I21 : (Int × Unit) → World → Prop) (m22 : (Int × Unit) → World → Nat), (∃ t : Int × Unit, ([.int .i64 (0 : Int)] : List Value) = tv [(18, .int .i64)] t ∧ I21 t w) ∧
∀ (_ : Env) (t23 : Int × Unit) (w24 : World), I21 t23 w24 →
(fun w : World =>
cond (decide (t23.1 < ((q2l : Nat) : Int))) (
nlW q2b fun a25 =>
((0 ≤ t23.1 ∧ t23.1 < ((q2l : Nat) : Int)) ∧
stC (a25.add (t23.1.toNat * 1)) (.string (⟨#[47]⟩ : ByteArray)) w fun w =>
∃ t' : Int × Unit, ([.int .i64 (IntKind.i64.wrap (t23.1 + (1 : Int)))] : List Value) = tv [(18, .int .i64)] t' ∧ I21 t' w ∧ m22 t' w < m22 t23 w24)) (
Calls Tryd.prog 17 #[.slice q13b q13l q13c, .slice q4b q4l q4c] w fun e w =>
∃ b26 : Bool, e = .returned (.bool b26) ∧
cond (!b26) (
Q (.bool false) w) (
∃ g27 : Array Value, g27.size = 2 ∧ RowAt w a1 g27 ∧
Calls Tryd.prog 19 #[.agg g27] w fun e w =>
∃ (q28b : Option Addr) (q28l q28c : Nat), e = .returned (.slice q28b q28l q28c) ∧
∃ g29 : Array Value, g29.size = 2 ∧ RowAt w a1 g29 ∧
Calls Tryd.prog 19 #[.agg g29] w fun e w =>
∃ (q30b : Option Addr) (q30l q30c : Nat), e = .returned (.slice q30b q30l q30c) ∧
∃ n31 : Int, w.cell? a1 = some (.int .i64 n31) ∧
∃ s32 : ByteArray, w.cell? (a1.add 1) = some (.string s32) ∧
Calls Tryd.prog 20 #[.int .i64 n31, .string s32] w fun e w =>
∃ (q33b : Option Addr) (q33l q33c : Nat), e = .returned (.slice q33b q33l q33c) ∧
Calls Tryd.prog 21 #[.slice q28b q28l q28c, .slice q33b q33l q33c] w fun e w =>
∃ b34 : Bool, e = .returned (.bool b34) ∧
cond b34 (
Calls Tryd.prog 21 #[.slice q30b q30l q30c, .slice q33b q33l q33c] w fun e w =>
∃ b35 : Bool, e = .returned (.bool b35) ∧
cond b35 (
∃ g36 : Array Value, bslP Tryd.prog 36 2 [(0, .slice q28b q28l q28c), (1, .slice q30b q30l q30c)] g36 24 ∧
newW g36 24 w fun a37 w =>
Calls Tryd.prog 22 #[.slice (some a37) 2 2] w fun e w =>
∃ b38 : Bool, e = .returned (.bool b38) ∧
cond b38 (
∃ g39 : Array Value, g39.size = 2 ∧ RowAt w a1 g39 ∧
Calls Tryd.prog 19 #[.agg g39] w fun e w =>
∃ (q40b : Option Addr) (q40l q40c : Nat), e = .returned (.slice q40b q40l q40c) ∧
Calls Tryd.prog 21 #[.slice q40b q40l q40c, .slice q33b q33l q33c] w fun e w =>
∃ b41 : Bool, e = .returned (.bool b41) ∧
Q (.bool b41) w) (
Q (.bool false) w)) (
Q (.bool false) w)) (
Q (.bool false) w)))) w24))))))
set_option maxRecDepth 100000 in
theorem W3_eq (x0 : ByteArray) (x1 : Array Value) (x2b : Option Addr) (x2l x2c : Nat) (w : World) (Q : Value → World → Prop) : wFn Tryd.prog Tryd.f3 W3_plan [.string x0, .agg x1, .slice x2b x2l x2c] w Q = W3 x0 x1 x2b x2l x2c w Q := by kernel_rfl
set_option maxRecDepth 100000 in
theorem W3_ok (x0 : ByteArray) (x1 : Array Value) (x2b : Option Addr) (x2l x2c : Nat) (w : World) (Q : Value → World → Prop) (h : W3 x0 x1 x2b x2l x2c w Q) : Calls Tryd.prog 3 #[.string x0, .agg x1, .slice x2b x2l x2c] w (fun e w' => ∃ v, e = .returned v ∧ Q v w') :=
  calls_of_wFn mixed W3_plan Tryd.func3 (by kernel_rfl) ((W3_eq x0 x1 x2b x2l x2c w Q).mpr h)

/-! ### 12: hartix/tree.Split -/
def W12_plan : Plan := (.n .z (.n (.cut [7, 8, 9, 10, 11, 12, 13, 14] [(14, .bool)] .z .z) (.n .z (.n (.n .z (.cut [4, 6, 18, 19, 20, 21, 22, 23, 24, 25, 26, 27, 28, 29, 30, 31, 32] [(4, .slice), (18, .int .i64)] .z .z)) .z))))
def W12 (x0 : ByteArray) (w : World) (Q : Value → World → Prop) : Prop :=
∃ J1 : (Bool × Unit) → World → Prop, (∀ (_ : Env) (t2 : Bool × Unit) (w : World), J1 t2 w →
cond t2.1 (
Q (.tuple #[.slice none 0 0, .bool false]) w) (
Calls Tryd.prog 70 #[.string x0, .string (⟨#[47]⟩ : ByteArray)] w fun e w =>
∃ (q3b : Option Addr) (q3l q3c : Nat), e = .returned (.slice q3b q3l q3c) ∧
∃ (I4 : ((Option Addr × Nat × Nat) × Int × Unit) → World → Prop) (m5 : ((Option Addr × Nat × Nat) × Int × Unit) → World → Nat), (∃ t : (Option Addr × Nat × Nat) × Int × Unit, ([.slice none 0 0, .int .i64 (0 : Int)] : List Value) = tv [(4, .slice), (18, .int .i64)] t ∧ I4 t w) ∧
∀ (_ : Env) (t6 : (Option Addr × Nat × Nat) × Int × Unit) (w7 : World), I4 t6 w7 →
(fun w : World =>
cond (decide (t6.2.1 < ((q3l : Nat) : Int))) (
nlW q3b fun a8 =>
((0 ≤ t6.2.1 ∧ t6.2.1 < ((q3l : Nat) : Int)) ∧
∃ s9 : ByteArray, w.cell? (a8.add (t6.2.1.toNat * 1)) = some (.string s9) ∧
cond (!strEq s9 (⟨#[]⟩ : ByteArray)) (
((0 ≤ (if (14 : Int) < (((s9 : ByteArray).size : Nat) : Int) then (14 : Int) else (((s9 : ByteArray).size : Nat) : Int)) ∧ (if (14 : Int) < (((s9 : ByteArray).size : Nat) : Int) then (14 : Int) else (((s9 : ByteArray).size : Nat) : Int)) ≤ ((((s9 : ByteArray).size) : Nat) : Int)) ∧
∃ g10 : Array Value, bslP Tryd.prog 25 1 [(0, .string ((s9 : ByteArray).extract 0 ((if (14 : Int) < (((s9 : ByteArray).size : Nat) : Int) then (14 : Int) else (((s9 : ByteArray).size : Nat) : Int)).toNat)))] g10 9 ∧
newW g10 9 w fun a11 w =>
apnW Tryd.prog 25 25 (.slice t6.1.1 t6.1.2.1 t6.1.2.2) (.slice (some a11) 1 1) w fun q12b q12l q12c w =>
∃ t' : (Option Addr × Nat × Nat) × Int × Unit, ([.slice q12b q12l q12c, .int .i64 (IntKind.i64.wrap (t6.2.1 + (1 : Int)))] : List Value) = tv [(4, .slice), (18, .int .i64)] t' ∧ I4 t' w ∧ m5 t' w < m5 t6 w7)) (
∃ t' : (Option Addr × Nat × Nat) × Int × Unit, ([.slice t6.1.1 t6.1.2.1 t6.1.2.2, .int .i64 (IntKind.i64.wrap (t6.2.1 + (1 : Int)))] : List Value) = tv [(4, .slice), (18, .int .i64)] t' ∧ I4 t' w ∧ m5 t' w < m5 t6 w7))) (
Q (.tuple #[.slice t6.1.1 t6.1.2.1 t6.1.2.2, .bool true]) w)) w7)) ∧
cond (decide ((((x0 : ByteArray).size : Nat) : Int) ≥ (128 : Int))) (
∃ t : Bool × Unit, ([.bool true] : List Value) = tv [(14, .bool)] t ∧ J1 t w) (
Calls Tryd.prog 69 #[.string x0, .int .u8 (0 : Int)] w fun e w =>
∃ n13 : Int, e = .returned (.int .i64 n13) ∧
∃ t : Bool × Unit, ([.bool (decide (n13 ≥ (0 : Int)))] : List Value) = tv [(14, .bool)] t ∧ J1 t w)
set_option maxRecDepth 100000 in
theorem W12_eq (x0 : ByteArray) (w : World) (Q : Value → World → Prop) : wFn Tryd.prog Tryd.f12 W12_plan [.string x0] w Q = W12 x0 w Q := by kernel_rfl
set_option maxRecDepth 100000 in
theorem W12_ok (x0 : ByteArray) (w : World) (Q : Value → World → Prop) (h : W12 x0 w Q) : Calls Tryd.prog 12 #[.string x0] w (fun e w' => ∃ v, e = .returned v ∧ Q v w') :=
  calls_of_wFn mixed W12_plan Tryd.func12 (by kernel_rfl) ((W12_eq x0 w Q).mpr h)

/-! ### 13: hartix/hartixref9.Split -/
def W13_plan : Plan := (.n .z (.n .z (.n .z (.n .z (.n (.n .z (.cut [2, 3, 4, 5, 6, 10, 11, 12, 13, 14, 15, 16, 17, 18, 19, 20, 21, 22, 23, 24, 25, 26, 27, 28, 29, 30, 31, 32, 33, 34, 35, 36, 37, 38, 39, 40, 41, 42, 43, 44, 45, 46, 47, 48] [(4, .slice), (5, .int .i64), (6, .int .i64)] (.n .z (.n (.n (.cut [16, 17, 18, 19, 20, 21, 22, 23, 24, 25] [(25, .bool)] .z .z) (.cut [26, 27, 28, 29, 30, 31, 32, 33, 34, 35] [(35, .bool)] .z .z)) .z)) .z)) .z)))))
def W13 (x0 : ByteArray) (w : World) (Q : Value → World → Prop) : Prop :=
cond (decide ((((x0 : ByteArray).size : Nat) : Int) ≥ (128 : Int))) (
Q (.tuple #[.slice none 0 0, .bool false]) w) (
∃ (I1 : ((Option Addr × Nat × Nat) × Int × Int × Unit) → World → Prop) (m2 : ((Option Addr × Nat × Nat) × Int × Int × Unit) → World → Nat), (∃ t : (Option Addr × Nat × Nat) × Int × Int × Unit, ([.slice none 0 0, .int .i64 (0 : Int), .int .i64 (0 : Int)] : List Value) = tv [(4, .slice), (5, .int .i64), (6, .int .i64)] t ∧ I1 t w) ∧
∀ (_ : Env) (t3 : (Option Addr × Nat × Nat) × Int × Int × Unit) (w4 : World), I1 t3 w4 →
(fun w : World =>
cond (decide (t3.2.2.1 ≤ (((x0 : ByteArray).size : Nat) : Int))) (
∃ J5 : (Bool × Unit) → World → Prop, (∀ (_ : Env) (t6 : Bool × Unit) (w : World), J5 t6 w →
cond t6.1 (
Q (.tuple #[.slice none 0 0, .bool false]) w) (
∃ J7 : (Bool × Unit) → World → Prop, (∀ (_ : Env) (t8 : Bool × Unit) (w : World), J7 t8 w →
cond t8.1 (
cond (decide (t3.2.2.1 > t3.2.1)) (
((0 ≤ t3.2.2.1 ∧ t3.2.2.1 ≤ ((((x0 : ByteArray).size) : Nat) : Int)) ∧
((0 ≤ t3.2.1 ∧ t3.2.1 ≤ ((t3.2.2.1.toNat : Nat) : Int)) ∧
Calls Tryd.prog 71 #[.string ((x0 : ByteArray).extract t3.2.1.toNat t3.2.2.1.toNat)] w fun e w =>
∃ s9 : ByteArray, e = .returned (.string s9) ∧
∃ g10 : Array Value, bslP Tryd.prog 25 1 [(0, .string s9)] g10 9 ∧
newW g10 9 w fun a11 w =>
apnW Tryd.prog 25 25 (.slice t3.1.1 t3.1.2.1 t3.1.2.2) (.slice (some a11) 1 1) w fun q12b q12l q12c w =>
∃ t' : (Option Addr × Nat × Nat) × Int × Int × Unit, ([.slice q12b q12l q12c, .int .i64 (IntKind.i64.wrap (t3.2.2.1 + (1 : Int))), .int .i64 (IntKind.i64.wrap (t3.2.2.1 + (1 : Int)))] : List Value) = tv [(4, .slice), (5, .int .i64), (6, .int .i64)] t' ∧ I1 t' w ∧ m2 t' w < m2 t3 w4))) (
∃ t' : (Option Addr × Nat × Nat) × Int × Int × Unit, ([.slice t3.1.1 t3.1.2.1 t3.1.2.2, .int .i64 (IntKind.i64.wrap (t3.2.2.1 + (1 : Int))), .int .i64 (IntKind.i64.wrap (t3.2.2.1 + (1 : Int)))] : List Value) = tv [(4, .slice), (5, .int .i64), (6, .int .i64)] t' ∧ I1 t' w ∧ m2 t' w < m2 t3 w4)) (
∃ t' : (Option Addr × Nat × Nat) × Int × Int × Unit, ([.slice t3.1.1 t3.1.2.1 t3.1.2.2, .int .i64 t3.2.1, .int .i64 (IntKind.i64.wrap (t3.2.2.1 + (1 : Int)))] : List Value) = tv [(4, .slice), (5, .int .i64), (6, .int .i64)] t' ∧ I1 t' w ∧ m2 t' w < m2 t3 w4)) ∧
cond (t3.2.2.1 == (((x0 : ByteArray).size : Nat) : Int)) (
∃ t : Bool × Unit, ([.bool true] : List Value) = tv [(35, .bool)] t ∧ J7 t w) (
(0 ≤ t3.2.2.1 ∧ ∃ c13 : UInt8, ((x0 : ByteArray))[t3.2.2.1.toNat]? = some c13 ∧
∃ t : Bool × Unit, ([.bool (((c13.toNat : Nat) : Int) == (47 : Int))] : List Value) = tv [(35, .bool)] t ∧ J7 t w)))) ∧
cond (decide (t3.2.2.1 < (((x0 : ByteArray).size : Nat) : Int))) (
(0 ≤ t3.2.2.1 ∧ ∃ c14 : UInt8, ((x0 : ByteArray))[t3.2.2.1.toNat]? = some c14 ∧
∃ t : Bool × Unit, ([.bool (((c14.toNat : Nat) : Int) == (0 : Int))] : List Value) = tv [(25, .bool)] t ∧ J5 t w)) (
∃ t : Bool × Unit, ([.bool false] : List Value) = tv [(25, .bool)] t ∧ J5 t w)) (
Q (.tuple #[.slice t3.1.1 t3.1.2.1 t3.1.2.2, .bool true]) w)) w4)
set_option maxRecDepth 100000 in
theorem W13_eq (x0 : ByteArray) (w : World) (Q : Value → World → Prop) : wFn Tryd.prog Tryd.f13 W13_plan [.string x0] w Q = W13 x0 w Q := by kernel_rfl
set_option maxRecDepth 100000 in
theorem W13_ok (x0 : ByteArray) (w : World) (Q : Value → World → Prop) (h : W13 x0 w Q) : Calls Tryd.prog 13 #[.string x0] w (fun e w' => ∃ v, e = .returned v ∧ Q v w') :=
  calls_of_wFn mixed W13_plan Tryd.func13 (by kernel_rfl) ((W13_eq x0 w Q).mpr h)

/-! ### 15: hartix/tree.Unpack -/
def W15_plan : Plan := .z
def W15 (x0b : Option Addr) (x0l x0c : Nat) (w : World) (Q : Value → World → Prop) : Prop :=
newW #[.int .i64 0, .string (⟨#[]⟩ : ByteArray)] 23 w fun a1 w =>
cond (((x0l : Nat) : Int) != (16 : Int)) (
∃ g2 : Array Value, bldP Tryd.prog 23 [] (.agg g2) ∧
stA 2 a1 g2 w fun w =>
∃ g3 : Array Value, g3.size = 2 ∧ RowAt w a1 g3 ∧
Q (.tuple #[.agg g3, .bool false]) w) (
((0 ≤ (2 : Int) ∧ (2 : Int) ≤ ((x0l : Nat) : Int)) ∧
∃ s4 : ByteArray, rdP Tryd.prog (convert 24 9 (.slice (slB x0b ((2 : Int).toNat) x0c 1) (x0l - ((2 : Int).toNat)) (x0c - ((2 : Int).toNat)))) (.string s4) w ∧
Calls Tryd.prog 72 #[.string s4, .string (⟨#[0]⟩ : ByteArray)] w fun e w =>
∃ s5 : ByteArray, ∃ s6 : ByteArray, ∃ b7 : Bool, e = .returned (.tuple #[.string s5, .string s6, .bool b7]) ∧
nlW x0b fun a8 =>
((0 ≤ (0 : Int) ∧ (0 : Int) < ((x0l : Nat) : Int)) ∧
∃ S9 : World → Prop, S9 w.drew ∧
∃ n10 : Int, (∀ w', S9 w' → w'.cell? (a8.add ((0 : Int).toNat * 1)) = some (.int .u8 n10)) ∧
nlW x0b fun a11 =>
((0 ≤ (1 : Int) ∧ (1 : Int) < ((x0l : Nat) : Int)) ∧
∃ n12 : Int, (∀ w', S9 w' → w'.cell? (a11.add ((1 : Int).toNat * 1)) = some (.int .u8 n12)) ∧
(0 ≤ (8 : Int) ∧
∃ g13 : Array Value, bldP Tryd.prog 23 [(0, .int .i64 (IntKind.i64.wrap (((BitVec.ofInt IntKind.i64.bits (IntKind.i64.wrap n10) ||| BitVec.ofInt IntKind.i64.bits (IntKind.i64.wrap ((IntKind.i64.wrap n12) * 2 ^ min (8 : Int).toNat IntKind.i64.bits))).toNat : Nat)))), (1, .string s5)] (.agg g13) ∧
stA 2 a1 g13 w.drew fun w =>
∃ g14 : Array Value, g14.size = 2 ∧ RowAt w a1 g14 ∧
Q (.tuple #[.agg g14, .bool true]) w)))))
set_option maxRecDepth 100000 in
theorem W15_eq (x0b : Option Addr) (x0l x0c : Nat) (w : World) (Q : Value → World → Prop) : wFn Tryd.prog Tryd.f15 W15_plan [.slice x0b x0l x0c] w Q = W15 x0b x0l x0c w Q := by kernel_rfl
set_option maxRecDepth 100000 in
theorem W15_ok (x0b : Option Addr) (x0l x0c : Nat) (w : World) (Q : Value → World → Prop) (h : W15 x0b x0l x0c w Q) : Calls Tryd.prog 15 #[.slice x0b x0l x0c] w (fun e w' => ∃ v, e = .returned v ∧ Q v w') :=
  calls_of_wFn mixed W15_plan Tryd.func15 (by kernel_rfl) ((W15_eq x0b x0l x0c w Q).mpr h)

/-! ### 16: hartix/hartixref9.Unpack -/
def W16_plan : Plan := (.n .z (.n .z (.n .z (.cut [4, 9, 10, 11, 12, 13, 14, 15, 16, 17, 18, 19] [(4, .int .i64)] (.cut [4, 9, 10, 11, 12, 13, 14, 15, 16, 17, 18, 19] [(4, .int .i64)] .z .z) .z))))
def W16 (x0b : Option Addr) (x0l x0c : Nat) (w : World) (Q : Value → World → Prop) : Prop :=
newW #[.int .i64 0, .string (⟨#[]⟩ : ByteArray)] 23 w fun a1 w =>
cond (((x0l : Nat) : Int) != (16 : Int)) (
∃ g2 : Array Value, bldP Tryd.prog 23 [] (.agg g2) ∧
stA 2 a1 g2 w fun w =>
∃ g3 : Array Value, g3.size = 2 ∧ RowAt w a1 g3 ∧
Q (.tuple #[.agg g3, .bool false]) w) (
∃ J4 : (Int × Unit) → World → Prop, (∀ (_ : Env) (t5 : Int × Unit) (w : World), J4 t5 w →
nlW x0b fun a6 =>
((0 ≤ (0 : Int) ∧ (0 : Int) < ((x0l : Nat) : Int)) ∧
∃ S7 : World → Prop, S7 w.drew ∧
∃ n8 : Int, (∀ w', S7 w' → w'.cell? (a6.add ((0 : Int).toNat * 1)) = some (.int .u8 n8)) ∧
nlW x0b fun a9 =>
((0 ≤ (1 : Int) ∧ (1 : Int) < ((x0l : Nat) : Int)) ∧
∃ n10 : Int, (∀ w', S7 w' → w'.cell? (a9.add ((1 : Int).toNat * 1)) = some (.int .u8 n10)) ∧
((0 ≤ t5.1 ∧ t5.1 ≤ ((x0c : Nat) : Int)) ∧
((0 ≤ (2 : Int) ∧ (2 : Int) ≤ ((t5.1.toNat : Nat) : Int)) ∧
∃ s11 : ByteArray, (∀ w', S7 w' → rdP Tryd.prog (convert 24 9 (.slice (slB x0b ((2 : Int).toNat) x0c 1) (t5.1.toNat - ((2 : Int).toNat)) (x0c - ((2 : Int).toNat)))) (.string s11) w') ∧
∃ g12 : Array Value, bldP Tryd.prog 23 [(0, .int .i64 (IntKind.i64.wrap ((IntKind.i64.wrap n8) + (IntKind.i64.wrap ((256 : Int) * (IntKind.i64.wrap n10)))))), (1, .string s11)] (.agg g12) ∧
stA 2 a1 g12 w.drew fun w =>
∃ g13 : Array Value, g13.size = 2 ∧ RowAt w a1 g13 ∧
Q (.tuple #[.agg g13, .bool true]) w))))) ∧
∃ (I14 : (Int × Unit) → World → Prop) (m15 : (Int × Unit) → World → Nat), (∃ t : Int × Unit, ([.int .i64 (2 : Int)] : List Value) = tv [(4, .int .i64)] t ∧ I14 t w) ∧
∀ (_ : Env) (t16 : Int × Unit) (w17 : World), I14 t16 w17 →
(fun w : World =>
cond (decide (t16.1 < (16 : Int))) (
nlW x0b fun a18 =>
((0 ≤ t16.1 ∧ t16.1 < ((x0l : Nat) : Int)) ∧
∃ n19 : Int, w.cell? (a18.add (t16.1.toNat * 1)) = some (.int .u8 n19) ∧
cond (n19 != (0 : Int)) (
∃ t' : Int × Unit, ([.int .i64 (IntKind.i64.wrap (t16.1 + (1 : Int)))] : List Value) = tv [(4, .int .i64)] t' ∧ I14 t' w ∧ m15 t' w < m15 t16 w17) (
∃ t : Int × Unit, ([.int .i64 t16.1] : List Value) = tv [(4, .int .i64)] t ∧ J4 t w))) (
∃ t : Int × Unit, ([.int .i64 t16.1] : List Value) = tv [(4, .int .i64)] t ∧ J4 t w)) w17)
set_option maxRecDepth 100000 in
theorem W16_eq (x0b : Option Addr) (x0l x0c : Nat) (w : World) (Q : Value → World → Prop) : wFn Tryd.prog Tryd.f16 W16_plan [.slice x0b x0l x0c] w Q = W16 x0b x0l x0c w Q := by kernel_rfl
set_option maxRecDepth 100000 in
theorem W16_ok (x0b : Option Addr) (x0l x0c : Nat) (w : World) (Q : Value → World → Prop) (h : W16 x0b x0l x0c w Q) : Calls Tryd.prog 16 #[.slice x0b x0l x0c] w (fun e w' => ∃ v, e = .returned v ∧ Q v w') :=
  calls_of_wFn mixed W16_plan Tryd.func16 (by kernel_rfl) ((W16_eq x0b x0l x0c w Q).mpr h)

/-! ### 19: hartix/tree.Pack -/
def W19_plan : Plan := .z
def W19 (x0 : Array Value) (w : World) (Q : Value → World → Prop) : Prop :=
newW x0 23 w fun a1 w =>
((0 ≤ (16 : Int) ∧ (16 : Int) ≤ (16 : Int) ∧ (16 : Int) ≤ 9223372036854775807 ∧ ((1 : Nat) : Int) * (16 : Int) ≤ 281474976710656) ∧
newW ((Array.range ((16 : Int).toNat * 1)).map (fun x => (#[.int .u8 0] : Array Value)[x % (#[.int .u8 0] : Array Value).size]!)) 5 w fun a2 w =>
∃ S3 : World → Prop, S3 w.drew ∧
∃ n4 : Int, (∀ w', S3 w' → w'.cell? a1 = some (.int .i64 n4)) ∧
∃ n5 : Int, (∀ w', S3 w' → w'.cell? a1 = some (.int .i64 n5)) ∧
(0 ≤ (8 : Int) ∧
nlW (some a2) fun a6 =>
((0 ≤ (0 : Int) ∧ (0 : Int) < (((16 : Int).toNat : Nat) : Int)) ∧
stC (a6.add ((0 : Int).toNat * 1)) (.int .u8 (IntKind.u8.wrap n4)) w.drew fun w =>
∃ S7 : World → Prop, (∀ w', S7 w' → S3 w') ∧ S7 w ∧
nlW (some a2) fun a8 =>
((0 ≤ (1 : Int) ∧ (1 : Int) < (((16 : Int).toNat : Nat) : Int)) ∧
stC (a8.add ((1 : Int).toNat * 1)) (.int .u8 (IntKind.u8.wrap (n5.fdiv (2 ^ min (8 : Int).toNat IntKind.i64.bits)))) w fun w =>
((0 ≤ (2 : Int) ∧ (2 : Int) ≤ (((16 : Int).toNat : Nat) : Int)) ∧
∃ s9 : ByteArray, w.drew.cell? (a1.add 1) = some (.string s9) ∧
∃ (n11 : Nat) (u12 : List Value), (∀ w', (Builtin.lenOf (.string s9)).run Tryd.prog w' = .ok n11 w') ∧ (Builtin.firstCells 1 (Nat.min n11 (((16 : Int).toNat) - ((2 : Int).toNat))) (.string s9)).run Tryd.prog w.drew = .ok u12.toArray w.drew ∧ (∀ u ∈ u12, one u = true) ∧
((((slB (some a2) ((2 : Int).toNat) ((16 : Int).toNat) 1) : Option Addr) = none ∧
Q (.slice (some a2) ((16 : Int).toNat) ((16 : Int).toNat)) w.drew) ∨ ∃ a13 : Addr, ((slB (some a2) ((2 : Int).toNat) ((16 : Int).toNat) 1) : Option Addr) = some a13 ∧ RoomAt w.drew a13 u12.length ∧
(fun w : World =>
Q (.slice (some a2) ((16 : Int).toNat) ((16 : Int).toNat)) w) (stoL a13 u12 0 w.drew)))))))
set_option maxRecDepth 100000 in
theorem W19_eq (x0 : Array Value) (w : World) (Q : Value → World → Prop) : wFn Tryd.prog Tryd.f19 W19_plan [.agg x0] w Q = W19 x0 w Q := by kernel_rfl
set_option maxRecDepth 100000 in
theorem W19_ok (x0 : Array Value) (w : World) (Q : Value → World → Prop) (h : W19 x0 w Q) : Calls Tryd.prog 19 #[.agg x0] w (fun e w' => ∃ v, e = .returned v ∧ Q v w') :=
  calls_of_wFn mixed W19_plan Tryd.func19 (by kernel_rfl) ((W19_eq x0 w Q).mpr h)

/-! ### 20: hartix/hartixref9.Pack -/
def W20_plan : Plan := (.n .z (.n .z (.n .z (.n (.n .z (.cut [5, 6, 15, 16, 17, 18, 19, 20, 21, 22, 23, 24, 25, 26, 27, 28, 29, 30, 31] [(5, .slice), (6, .int .i64)] .z .z)) .z))))
def W20 (x0 : Int) (x1 : ByteArray) (w : World) (Q : Value → World → Prop) : Prop :=
(0 ≤ (8 : Int) ∧
∃ g1 : Array Value, bslP Tryd.prog 24 2 [(0, .int .u8 (IntKind.u8.wrap x0)), (1, .int .u8 (IntKind.u8.wrap (x0.fdiv (2 ^ min (8 : Int).toNat IntKind.i64.bits))))] g1 5 ∧
newW g1 5 w fun a2 w =>
Calls Tryd.prog 71 #[.string x1] w fun e w =>
∃ s3 : ByteArray, e = .returned (.string s3) ∧
∃ (I4 : ((Option Addr × Nat × Nat) × Int × Unit) → World → Prop) (m5 : ((Option Addr × Nat × Nat) × Int × Unit) → World → Nat), (∃ t : (Option Addr × Nat × Nat) × Int × Unit, ([.slice (some a2) 2 2, .int .i64 (0 : Int)] : List Value) = tv [(5, .slice), (6, .int .i64)] t ∧ I4 t w) ∧
∀ (_ : Env) (t6 : (Option Addr × Nat × Nat) × Int × Unit) (w7 : World), I4 t6 w7 →
(fun w : World =>
cond (decide (t6.2.1 < (14 : Int))) (
cond (decide (t6.2.1 < (((s3 : ByteArray).size : Nat) : Int))) (
(0 ≤ t6.2.1 ∧ ∃ c8 : UInt8, ((s3 : ByteArray))[t6.2.1.toNat]? = some c8 ∧
∃ g9 : Array Value, bslP Tryd.prog 24 1 [(0, .int .u8 ((c8.toNat : Nat) : Int))] g9 5 ∧
newW g9 5 w fun a10 w =>
apnW Tryd.prog 24 24 (.slice t6.1.1 t6.1.2.1 t6.1.2.2) (.slice (some a10) 1 1) w fun q11b q11l q11c w =>
∃ t' : (Option Addr × Nat × Nat) × Int × Unit, ([.slice q11b q11l q11c, .int .i64 (IntKind.i64.wrap (t6.2.1 + (1 : Int)))] : List Value) = tv [(5, .slice), (6, .int .i64)] t' ∧ I4 t' w ∧ m5 t' w < m5 t6 w7)) (
∃ g12 : Array Value, bslP Tryd.prog 24 1 [(0, .int .u8 (0 : Int))] g12 5 ∧
newW g12 5 w fun a13 w =>
apnW Tryd.prog 24 24 (.slice t6.1.1 t6.1.2.1 t6.1.2.2) (.slice (some a13) 1 1) w fun q14b q14l q14c w =>
∃ t' : (Option Addr × Nat × Nat) × Int × Unit, ([.slice q14b q14l q14c, .int .i64 (IntKind.i64.wrap (t6.2.1 + (1 : Int)))] : List Value) = tv [(5, .slice), (6, .int .i64)] t' ∧ I4 t' w ∧ m5 t' w < m5 t6 w7)) (
Q (.slice t6.1.1 t6.1.2.1 t6.1.2.2) w)) w7)
set_option maxRecDepth 100000 in
theorem W20_eq (x0 : Int) (x1 : ByteArray) (w : World) (Q : Value → World → Prop) : wFn Tryd.prog Tryd.f20 W20_plan [.int .i64 x0, .string x1] w Q = W20 x0 x1 w Q := by kernel_rfl
set_option maxRecDepth 100000 in
theorem W20_ok (x0 : Int) (x1 : ByteArray) (w : World) (Q : Value → World → Prop) (h : W20 x0 x1 w Q) : Calls Tryd.prog 20 #[.int .i64 x0, .string x1] w (fun e w' => ∃ v, e = .returned v ∧ Q v w') :=
  calls_of_wFn mixed W20_plan Tryd.func20 (by kernel_rfl) ((W20_eq x0 x1 w Q).mpr h)

/-! ### 69: strings.IndexByte -/
def W69_plan : Plan := .z
def W69 (x0 : ByteArray) (x1 : Int) (w : World) (Q : Value → World → Prop) : Prop :=
Calls Tryd.prog 117 #[.string x0, .int .u8 x1] w fun e w =>
∃ n1 : Int, e = .returned (.int .i64 n1) ∧
Q (.int .i64 n1) w
set_option maxRecDepth 100000 in
theorem W69_eq (x0 : ByteArray) (x1 : Int) (w : World) (Q : Value → World → Prop) : wFn Tryd.prog Tryd.f69 W69_plan [.string x0, .int .u8 x1] w Q = W69 x0 x1 w Q := by kernel_rfl
set_option maxRecDepth 100000 in
theorem W69_ok (x0 : ByteArray) (x1 : Int) (w : World) (Q : Value → World → Prop) (h : W69 x0 x1 w Q) : Calls Tryd.prog 69 #[.string x0, .int .u8 x1] w (fun e w' => ∃ v, e = .returned v ∧ Q v w') :=
  calls_of_wFn mixed W69_plan Tryd.func69 (by kernel_rfl) ((W69_eq x0 x1 w Q).mpr h)

/-! ### 70: strings.Split -/
def W70_plan : Plan := .z
def W70 (x0 : ByteArray) (x1 : ByteArray) (w : World) (Q : Value → World → Prop) : Prop :=
Calls Tryd.prog 118 #[.string x0, .string x1, .int .i64 (0 : Int), .int .i64 (-1 : Int)] w fun e w =>
∃ (q1b : Option Addr) (q1l q1c : Nat), e = .returned (.slice q1b q1l q1c) ∧
Q (.slice q1b q1l q1c) w
set_option maxRecDepth 100000 in
theorem W70_eq (x0 : ByteArray) (x1 : ByteArray) (w : World) (Q : Value → World → Prop) : wFn Tryd.prog Tryd.f70 W70_plan [.string x0, .string x1] w Q = W70 x0 x1 w Q := by kernel_rfl
set_option maxRecDepth 100000 in
theorem W70_ok (x0 : ByteArray) (x1 : ByteArray) (w : World) (Q : Value → World → Prop) (h : W70 x0 x1 w Q) : Calls Tryd.prog 70 #[.string x0, .string x1] w (fun e w' => ∃ v, e = .returned v ∧ Q v w') :=
  calls_of_wFn mixed W70_plan Tryd.func70 (by kernel_rfl) ((W70_eq x0 x1 w Q).mpr h)

/-! ### 71: hartix/hartixref9.cut -/
def W71_plan : Plan := .z
def W71 (x0 : ByteArray) (w : World) (Q : Value → World → Prop) : Prop :=
cond (decide ((((x0 : ByteArray).size : Nat) : Int) > (14 : Int))) (
((0 ≤ (14 : Int) ∧ (14 : Int) ≤ ((((x0 : ByteArray).size) : Nat) : Int)) ∧
Q (.string ((x0 : ByteArray).extract 0 ((14 : Int).toNat))) w)) (
Q (.string x0) w)
set_option maxRecDepth 100000 in
theorem W71_eq (x0 : ByteArray) (w : World) (Q : Value → World → Prop) : wFn Tryd.prog Tryd.f71 W71_plan [.string x0] w Q = W71 x0 w Q := by kernel_rfl
set_option maxRecDepth 100000 in
theorem W71_ok (x0 : ByteArray) (w : World) (Q : Value → World → Prop) (h : W71 x0 w Q) : Calls Tryd.prog 71 #[.string x0] w (fun e w' => ∃ v, e = .returned v ∧ Q v w') :=
  calls_of_wFn mixed W71_plan Tryd.func71 (by kernel_rfl) ((W71_eq x0 w Q).mpr h)

/-! ### 72: strings.Cut -/
def W72_plan : Plan := .z
def W72 (x0 : ByteArray) (x1 : ByteArray) (w : World) (Q : Value → World → Prop) : Prop :=
Calls Tryd.prog 119 #[.string x0, .string x1] w fun e w =>
∃ s1 : ByteArray, ∃ s2 : ByteArray, ∃ b3 : Bool, e = .returned (.tuple #[.string s1, .string s2, .bool b3]) ∧
Q (.tuple #[.string s1, .string s2, .bool b3]) w
set_option maxRecDepth 100000 in
theorem W72_eq (x0 : ByteArray) (x1 : ByteArray) (w : World) (Q : Value → World → Prop) : wFn Tryd.prog Tryd.f72 W72_plan [.string x0, .string x1] w Q = W72 x0 x1 w Q := by kernel_rfl
set_option maxRecDepth 100000 in
theorem W72_ok (x0 : ByteArray) (x1 : ByteArray) (w : World) (Q : Value → World → Prop) (h : W72 x0 x1 w Q) : Calls Tryd.prog 72 #[.string x0, .string x1] w (fun e w' => ∃ v, e = .returned v ∧ Q v w') :=
  calls_of_wFn mixed W72_plan Tryd.func72 (by kernel_rfl) ((W72_eq x0 x1 w Q).mpr h)

/-! ### 117: internal/stringslite.IndexByte -/
def W117_plan : Plan := .z
def W117 (x0 : ByteArray) (x1 : Int) (w : World) (Q : Value → World → Prop) : Prop :=
∃ (v : Value) (w' : World), extP Tryd.prog 140 #[.string x0, .int .u8 x1] w v w' ∧
(fun (e : Ending) (w : World) =>
∃ n1 : Int, e = .returned (.int .i64 n1) ∧
Q (.int .i64 n1) w) (.returned v) w'
set_option maxRecDepth 100000 in
theorem W117_eq (x0 : ByteArray) (x1 : Int) (w : World) (Q : Value → World → Prop) : wFn Tryd.prog Tryd.f117 W117_plan [.string x0, .int .u8 x1] w Q = W117 x0 x1 w Q := by kernel_rfl
set_option maxRecDepth 100000 in
theorem W117_ok (x0 : ByteArray) (x1 : Int) (w : World) (Q : Value → World → Prop) (h : W117 x0 x1 w Q) : Calls Tryd.prog 117 #[.string x0, .int .u8 x1] w (fun e w' => ∃ v, e = .returned v ∧ Q v w') :=
  calls_of_wFn mixed W117_plan Tryd.func117 (by kernel_rfl) ((W117_eq x0 x1 w Q).mpr h)

/-! ### 118: strings.genSplit -/
def W118_plan : Plan := (.n .z (.n .z (.n .z (.cut [3, 19, 20, 21, 22, 23, 24] [(3, .int .i64)] .z (.n .z (.n .z (.n .z (.n .z (.cut [0, 10, 11, 34, 35, 36, 37, 38, 39, 40, 41, 42, 43, 44, 45, 46, 47, 48, 49, 50, 51, 52, 53, 54, 55, 56, 57] [(0, .str), (10, .int .i64)] (.cut [0, 10, 11, 34, 35, 36, 37, 38, 39, 40, 41, 42, 43, 44, 45, 46, 47, 48, 49, 50, 51, 52, 53, 54, 55, 56, 57] [(0, .str), (10, .int .i64)] .z .z) .z)))))))))
def W118 (x0 : ByteArray) (x1 : ByteArray) (x2 : Int) (x3 : Int) (w : World) (Q : Value → World → Prop) : Prop :=
cond (x3 == (0 : Int)) (
Q (.slice none 0 0) w) (
cond (strEq x1 (⟨#[]⟩ : ByteArray)) (
Calls Tryd.prog 141 #[.string x0, .int .i64 x3] w fun e w =>
∃ (q1b : Option Addr) (q1l q1c : Nat), e = .returned (.slice q1b q1l q1c) ∧
Q (.slice q1b q1l q1c) w) (
∃ J2 : (Int × Unit) → World → Prop, (∀ (_ : Env) (t3 : Int × Unit) (w : World), J2 t3 w →
((0 ≤ (if (IntKind.i64.wrap ((((x0 : ByteArray).size : Nat) : Int) + (1 : Int))) < t3.1 then (IntKind.i64.wrap ((((x0 : ByteArray).size : Nat) : Int) + (1 : Int))) else t3.1) ∧ (if (IntKind.i64.wrap ((((x0 : ByteArray).size : Nat) : Int) + (1 : Int))) < t3.1 then (IntKind.i64.wrap ((((x0 : ByteArray).size : Nat) : Int) + (1 : Int))) else t3.1) ≤ (if (IntKind.i64.wrap ((((x0 : ByteArray).size : Nat) : Int) + (1 : Int))) < t3.1 then (IntKind.i64.wrap ((((x0 : ByteArray).size : Nat) : Int) + (1 : Int))) else t3.1) ∧ (if (IntKind.i64.wrap ((((x0 : ByteArray).size : Nat) : Int) + (1 : Int))) < t3.1 then (IntKind.i64.wrap ((((x0 : ByteArray).size : Nat) : Int) + (1 : Int))) else t3.1) ≤ 9223372036854775807 ∧ ((16 : Nat) : Int) * (if (IntKind.i64.wrap ((((x0 : ByteArray).size : Nat) : Int) + (1 : Int))) < t3.1 then (IntKind.i64.wrap ((((x0 : ByteArray).size : Nat) : Int) + (1 : Int))) else t3.1) ≤ 281474976710656) ∧
newW ((Array.range ((if (IntKind.i64.wrap ((((x0 : ByteArray).size : Nat) : Int) + (1 : Int))) < t3.1 then (IntKind.i64.wrap ((((x0 : ByteArray).size : Nat) : Int) + (1 : Int))) else t3.1).toNat * 1)).map (fun x => (#[.string (⟨#[]⟩ : ByteArray)] : Array Value)[x % (#[.string (⟨#[]⟩ : ByteArray)] : Array Value).size]!)) 9 w fun a4 w =>
∃ J5 : (ByteArray × Int × Unit) → World → Prop, (∀ (_ : Env) (t6 : ByteArray × Int × Unit) (w : World), J5 t6 w →
nlW (some a4) fun a7 =>
((0 ≤ t6.2.1 ∧ t6.2.1 < (((if (IntKind.i64.wrap ((((x0 : ByteArray).size : Nat) : Int) + (1 : Int))) < t3.1 then (IntKind.i64.wrap ((((x0 : ByteArray).size : Nat) : Int) + (1 : Int))) else t3.1).toNat : Nat) : Int)) ∧
stC (a7.add (t6.2.1.toNat * 1)) (.string t6.1) w fun w =>
((0 ≤ (IntKind.i64.wrap (t6.2.1 + (1 : Int))) ∧ (IntKind.i64.wrap (t6.2.1 + (1 : Int))) ≤ (((if (IntKind.i64.wrap ((((x0 : ByteArray).size : Nat) : Int) + (1 : Int))) < t3.1 then (IntKind.i64.wrap ((((x0 : ByteArray).size : Nat) : Int) + (1 : Int))) else t3.1).toNat : Nat) : Int)) ∧
Q (.slice (slB (some a4) 0 ((if (IntKind.i64.wrap ((((x0 : ByteArray).size : Nat) : Int) + (1 : Int))) < t3.1 then (IntKind.i64.wrap ((((x0 : ByteArray).size : Nat) : Int) + (1 : Int))) else t3.1).toNat) 1) (((IntKind.i64.wrap (t6.2.1 + (1 : Int))).toNat) - 0) (((if (IntKind.i64.wrap ((((x0 : ByteArray).size : Nat) : Int) + (1 : Int))) < t3.1 then (IntKind.i64.wrap ((((x0 : ByteArray).size : Nat) : Int) + (1 : Int))) else t3.1).toNat) - 0)) w))) ∧
∃ (I8 : (ByteArray × Int × Unit) → World → Prop) (m9 : (ByteArray × Int × Unit) → World → Nat), (∃ t : ByteArray × Int × Unit, ([.string x0, .int .i64 (0 : Int)] : List Value) = tv [(0, .str), (10, .int .i64)] t ∧ I8 t w) ∧
∀ (_ : Env) (t10 : ByteArray × Int × Unit) (w11 : World), I8 t10 w11 →
(fun w : World =>
cond (decide (t10.2.1 < (IntKind.i64.wrap ((if (IntKind.i64.wrap ((((x0 : ByteArray).size : Nat) : Int) + (1 : Int))) < t3.1 then (IntKind.i64.wrap ((((x0 : ByteArray).size : Nat) : Int) + (1 : Int))) else t3.1) - (1 : Int))))) (
Calls Tryd.prog 143 #[.string t10.1, .string x1] w fun e w =>
∃ n12 : Int, e = .returned (.int .i64 n12) ∧
cond (decide (n12 < (0 : Int))) (
∃ t : ByteArray × Int × Unit, ([.string t10.1, .int .i64 t10.2.1] : List Value) = tv [(0, .str), (10, .int .i64)] t ∧ J5 t w) (
((0 ≤ (IntKind.i64.wrap (n12 + x2)) ∧ (IntKind.i64.wrap (n12 + x2)) ≤ ((((t10.1 : ByteArray).size) : Nat) : Int)) ∧
nlW (some a4) fun a13 =>
((0 ≤ t10.2.1 ∧ t10.2.1 < (((if (IntKind.i64.wrap ((((x0 : ByteArray).size : Nat) : Int) + (1 : Int))) < t3.1 then (IntKind.i64.wrap ((((x0 : ByteArray).size : Nat) : Int) + (1 : Int))) else t3.1).toNat : Nat) : Int)) ∧
stC (a13.add (t10.2.1.toNat * 1)) (.string ((t10.1 : ByteArray).extract 0 ((IntKind.i64.wrap (n12 + x2)).toNat))) w fun w =>
((0 ≤ (IntKind.i64.wrap (n12 + (((x1 : ByteArray).size : Nat) : Int))) ∧ (IntKind.i64.wrap (n12 + (((x1 : ByteArray).size : Nat) : Int))) ≤ ((((t10.1 : ByteArray).size) : Nat) : Int)) ∧
∃ t' : ByteArray × Int × Unit, ([.string ((t10.1 : ByteArray).extract ((IntKind.i64.wrap (n12 + (((x1 : ByteArray).size : Nat) : Int))).toNat) ((t10.1 : ByteArray).size)), .int .i64 (IntKind.i64.wrap (t10.2.1 + (1 : Int)))] : List Value) = tv [(0, .str), (10, .int .i64)] t' ∧ I8 t' w ∧ m9 t' w < m9 t10 w11))))) (
∃ t : ByteArray × Int × Unit, ([.string t10.1, .int .i64 t10.2.1] : List Value) = tv [(0, .str), (10, .int .i64)] t ∧ J5 t w)) w11)) ∧
cond (decide (x3 < (0 : Int))) (
Calls Tryd.prog 142 #[.string x0, .string x1] w fun e w =>
∃ n14 : Int, e = .returned (.int .i64 n14) ∧
∃ t : Int × Unit, ([.int .i64 (IntKind.i64.wrap (n14 + (1 : Int)))] : List Value) = tv [(3, .int .i64)] t ∧ J2 t w) (
∃ t : Int × Unit, ([.int .i64 x3] : List Value) = tv [(3, .int .i64)] t ∧ J2 t w)))
set_option maxRecDepth 100000 in
theorem W118_eq (x0 : ByteArray) (x1 : ByteArray) (x2 : Int) (x3 : Int) (w : World) (Q : Value → World → Prop) : wFn Tryd.prog Tryd.f118 W118_plan [.string x0, .string x1, .int .i64 x2, .int .i64 x3] w Q = W118 x0 x1 x2 x3 w Q := by kernel_rfl
set_option maxRecDepth 100000 in
theorem W118_ok (x0 : ByteArray) (x1 : ByteArray) (x2 : Int) (x3 : Int) (w : World) (Q : Value → World → Prop) (h : W118 x0 x1 x2 x3 w Q) : Calls Tryd.prog 118 #[.string x0, .string x1, .int .i64 x2, .int .i64 x3] w (fun e w' => ∃ v, e = .returned v ∧ Q v w') :=
  calls_of_wFn mixed W118_plan Tryd.func118 (by kernel_rfl) ((W118_eq x0 x1 x2 x3 w Q).mpr h)

/-! ### 119: internal/stringslite.Cut -/
def W119_plan : Plan := .z
def W119 (x0 : ByteArray) (x1 : ByteArray) (w : World) (Q : Value → World → Prop) : Prop :=
Calls Tryd.prog 144 #[.string x0, .string x1] w fun e w =>
∃ n1 : Int, e = .returned (.int .i64 n1) ∧
cond (decide (n1 ≥ (0 : Int))) (
((0 ≤ n1 ∧ n1 ≤ ((((x0 : ByteArray).size) : Nat) : Int)) ∧
((0 ≤ (IntKind.i64.wrap (n1 + (((x1 : ByteArray).size : Nat) : Int))) ∧ (IntKind.i64.wrap (n1 + (((x1 : ByteArray).size : Nat) : Int))) ≤ ((((x0 : ByteArray).size) : Nat) : Int)) ∧
Q (.tuple #[.string ((x0 : ByteArray).extract 0 n1.toNat), .string ((x0 : ByteArray).extract ((IntKind.i64.wrap (n1 + (((x1 : ByteArray).size : Nat) : Int))).toNat) ((x0 : ByteArray).size)), .bool true]) w.drew))) (
Q (.tuple #[.string x0, .string (⟨#[]⟩ : ByteArray), .bool false]) w)
set_option maxRecDepth 100000 in
theorem W119_eq (x0 : ByteArray) (x1 : ByteArray) (w : World) (Q : Value → World → Prop) : wFn Tryd.prog Tryd.f119 W119_plan [.string x0, .string x1] w Q = W119 x0 x1 w Q := by kernel_rfl
set_option maxRecDepth 100000 in
theorem W119_ok (x0 : ByteArray) (x1 : ByteArray) (w : World) (Q : Value → World → Prop) (h : W119 x0 x1 w Q) : Calls Tryd.prog 119 #[.string x0, .string x1] w (fun e w' => ∃ v, e = .returned v ∧ Q v w') :=
  calls_of_wFn mixed W119_plan Tryd.func119 (by kernel_rfl) ((W119_eq x0 x1 w Q).mpr h)

/-! ### 142: strings.Count -/
def W142_plan : Plan := (.n .z (.n .z (.n .z (.n .z (.cut [0, 4, 5, 6, 20, 21, 22, 23, 24, 25, 26, 27, 28, 29, 30, 31, 32, 33] [(0, .str), (5, .int .i64)] .z .z)))))
def W142 (x0 : ByteArray) (x1 : ByteArray) (w : World) (Q : Value → World → Prop) : Prop :=
cond ((((x1 : ByteArray).size : Nat) : Int) == (0 : Int)) (
Calls Tryd.prog 157 #[.string x0] w fun e w =>
∃ n1 : Int, e = .returned (.int .i64 n1) ∧
Q (.int .i64 (IntKind.i64.wrap (n1 + (1 : Int)))) w) (
cond ((((x1 : ByteArray).size : Nat) : Int) == (1 : Int)) (
(0 ≤ (0 : Int) ∧ ∃ c2 : UInt8, ((x1 : ByteArray))[(0 : Int).toNat]? = some c2 ∧
∃ (v : Value) (w' : World), extP Tryd.prog 159 #[.string x0, .int .u8 ((c2.toNat : Nat) : Int)] w v w' ∧
(fun (e : Ending) (w : World) =>
∃ n3 : Int, e = .returned (.int .i64 n3) ∧
Q (.int .i64 n3) w) (.returned v) w')) (
∃ (I4 : (ByteArray × Int × Unit) → World → Prop) (m5 : (ByteArray × Int × Unit) → World → Nat), (∃ t : ByteArray × Int × Unit, ([.string x0, .int .i64 (0 : Int)] : List Value) = tv [(0, .str), (5, .int .i64)] t ∧ I4 t w) ∧
∀ (_ : Env) (t6 : ByteArray × Int × Unit) (w7 : World), I4 t6 w7 →
(fun w : World =>
Calls Tryd.prog 143 #[.string t6.1, .string x1] w fun e w =>
∃ n8 : Int, e = .returned (.int .i64 n8) ∧
cond (n8 == (-1 : Int)) (
Q (.int .i64 t6.2.1) w) (
((0 ≤ (IntKind.i64.wrap (n8 + (((x1 : ByteArray).size : Nat) : Int))) ∧ (IntKind.i64.wrap (n8 + (((x1 : ByteArray).size : Nat) : Int))) ≤ ((((t6.1 : ByteArray).size) : Nat) : Int)) ∧
∃ t' : ByteArray × Int × Unit, ([.string ((t6.1 : ByteArray).extract ((IntKind.i64.wrap (n8 + (((x1 : ByteArray).size : Nat) : Int))).toNat) ((t6.1 : ByteArray).size)), .int .i64 (IntKind.i64.wrap (t6.2.1 + (1 : Int)))] : List Value) = tv [(0, .str), (5, .int .i64)] t' ∧ I4 t' w ∧ m5 t' w < m5 t6 w7))) w7))
set_option maxRecDepth 100000 in
theorem W142_eq (x0 : ByteArray) (x1 : ByteArray) (w : World) (Q : Value → World → Prop) : wFn Tryd.prog Tryd.f142 W142_plan [.string x0, .string x1] w Q = W142 x0 x1 w Q := by kernel_rfl
set_option maxRecDepth 100000 in
theorem W142_ok (x0 : ByteArray) (x1 : ByteArray) (w : World) (Q : Value → World → Prop) (h : W142 x0 x1 w Q) : Calls Tryd.prog 142 #[.string x0, .string x1] w (fun e w' => ∃ v, e = .returned v ∧ Q v w') :=
  calls_of_wFn mixed W142_plan Tryd.func142 (by kernel_rfl) ((W142_eq x0 x1 w Q).mpr h)

/-! ### 143: strings.Index -/
def W143_plan : Plan := .z
def W143 (x0 : ByteArray) (x1 : ByteArray) (w : World) (Q : Value → World → Prop) : Prop :=
Calls Tryd.prog 144 #[.string x0, .string x1] w fun e w =>
∃ n1 : Int, e = .returned (.int .i64 n1) ∧
Q (.int .i64 n1) w
set_option maxRecDepth 100000 in
theorem W143_eq (x0 : ByteArray) (x1 : ByteArray) (w : World) (Q : Value → World → Prop) : wFn Tryd.prog Tryd.f143 W143_plan [.string x0, .string x1] w Q = W143 x0 x1 w Q := by kernel_rfl
set_option maxRecDepth 100000 in
theorem W143_ok (x0 : ByteArray) (x1 : ByteArray) (w : World) (Q : Value → World → Prop) (h : W143 x0 x1 w Q) : Calls Tryd.prog 143 #[.string x0, .string x1] w (fun e w' => ∃ v, e = .returned v ∧ Q v w') :=
  calls_of_wFn mixed W143_plan Tryd.func143 (by kernel_rfl) ((W143_eq x0 x1 w Q).mpr h)

/-! ### 144: internal/stringslite.Index -/
def W144_plan : Plan := (.n .z (.n .z (.n (.cut [16, 17, 18, 19, 20, 21, 22, 23] [(16, .bool)] .z (.n .z (.n .z (.n .z (.n .z (.n .z (.cut [36, 37, 38, 39, 40, 41, 42, 43, 44] [(36, .bool)] .z .z))))))) (.n .z (.n .z (.n .z (.n .z (.n .z (.n (.cut [4, 8, 10, 11, 12, 13, 57, 58, 59, 60, 61, 62, 63, 64, 65, 66, 67, 68, 69, 70, 71, 72, 73, 74, 75, 76, 77, 78, 79, 80, 81, 82, 83, 84, 85, 86, 87, 88, 89, 90, 91, 92, 93, 94, 95, 96, 97, 98, 99, 100, 101, 102, 103, 104, 105, 106, 107, 108, 109, 110, 111, 112, 113, 114, 115, 116, 117, 118, 119, 120, 121, 122, 123, 124, 125, 126, 127, 128, 129, 130, 131, 132, 133, 134, 135, 136, 137, 138, 139, 140, 141, 142] [(8, .int .i64), (10, .int .i64)] (.n .z (.cut [4, 8, 11, 60, 61, 62, 63, 64, 65, 66, 67, 68, 69, 70, 71, 72, 73, 74, 75, 76, 77] [(8, .int .i64)] .z (.n (.cut [78, 79, 80, 81, 82, 83, 84, 85, 86, 87, 88, 89, 90, 91, 92, 93] [(93, .bool)] .z .z) (.n .z (.n .z (.cut [99, 100, 101, 102, 103, 104, 105, 106, 107] [(107, .bool)] .z (.n .z (.cut [118, 119, 120, 121, 122, 123, 124, 125, 126, 127, 128, 129, 130, 131, 132] [(132, .bool)] .z .z)))))))) .z) .z)))))))))
def W144 (x0 : ByteArray) (x1 : ByteArray) (w : World) (Q : Value → World → Prop) : Prop :=
∃ J1 : (Bool × Unit) → World → Prop, (∀ (_ : Env) (t2 : Bool × Unit) (w : World), J1 t2 w →
cond t2.1 (
Q (.int .i64 (0 : Int)) w) (
cond ((((x1 : ByteArray).size : Nat) : Int) == (1 : Int)) (
(0 ≤ (0 : Int) ∧ ∃ c3 : UInt8, ((x1 : ByteArray))[(0 : Int).toNat]? = some c3 ∧
Calls Tryd.prog 117 #[.string x0, .int .u8 ((c3.toNat : Nat) : Int)] w fun e w =>
∃ n4 : Int, e = .returned (.int .i64 n4) ∧
Q (.int .i64 n4) w)) (
cond (decide ((((x1 : ByteArray).size : Nat) : Int) ≥ (((x0 : ByteArray).size : Nat) : Int))) (
Q (.int .i64 (-1 : Int)) w) (
∃ J5 : (Bool × Unit) → World → Prop, (∀ (_ : Env) (t6 : Bool × Unit) (w : World), J5 t6 w →
cond t6.1 (
∃ (v : Value) (w' : World), extP Tryd.prog 160 #[.string x0, .string x1] w v w' ∧
(fun (e : Ending) (w : World) =>
∃ n7 : Int, e = .returned (.int .i64 n7) ∧
Q (.int .i64 n7) w) (.returned v) w') (
(0 ≤ (0 : Int) ∧ ∃ c8 : UInt8, ((x1 : ByteArray))[(0 : Int).toNat]? = some c8 ∧
(0 ≤ (1 : Int) ∧ ∃ c9 : UInt8, ((x1 : ByteArray))[(1 : Int).toNat]? = some c9 ∧
∃ (I10 : (Int × Int × Unit) → World → Prop) (m11 : (Int × Int × Unit) → World → Nat), (∃ t : Int × Int × Unit, ([.int .i64 (0 : Int), .int .i64 (0 : Int)] : List Value) = tv [(8, .int .i64), (10, .int .i64)] t ∧ I10 t w) ∧
∀ (_ : Env) (t12 : Int × Int × Unit) (w13 : World), I10 t12 w13 →
(fun w : World =>
cond (decide (t12.1 < (IntKind.i64.wrap ((IntKind.i64.wrap ((((x0 : ByteArray).size : Nat) : Int) - (((x1 : ByteArray).size : Nat) : Int))) + (1 : Int))))) (
∃ J14 : (Int × Unit) → World → Prop, (∀ (_ : Env) (t15 : Int × Unit) (w : World), J14 t15 w →
∃ J16 : (Bool × Unit) → World → Prop, (∀ (_ : Env) (t17 : Bool × Unit) (w : World), J16 t17 w →
cond t17.1 (
Q (.int .i64 t15.1) w) (
∃ J18 : (Bool × Unit) → World → Prop, (∀ (_ : Env) (t19 : Bool × Unit) (w : World), J18 t19 w →
cond t19.1 (
((0 ≤ (IntKind.i64.wrap (t15.1 + (1 : Int))) ∧ (IntKind.i64.wrap (t15.1 + (1 : Int))) ≤ ((((x0 : ByteArray).size) : Nat) : Int)) ∧
∃ (v : Value) (w' : World), extP Tryd.prog 160 #[.string ((x0 : ByteArray).extract ((IntKind.i64.wrap (t15.1 + (1 : Int))).toNat) ((x0 : ByteArray).size)), .string x1] w v w' ∧
(fun (e : Ending) (w : World) =>
∃ n20 : Int, e = .returned (.int .i64 n20) ∧
cond (decide (n20 ≥ (0 : Int))) (
Q (.int .i64 (IntKind.i64.wrap (n20 + (IntKind.i64.wrap (t15.1 + (1 : Int)))))) w) (
Q (.int .i64 (-1 : Int)) w)) (.returned v) w')) (
∃ J21 : (Bool × Unit) → World → Prop, (∀ (_ : Env) (t22 : Bool × Unit) (w : World), J21 t22 w →
cond t22.1 (
((0 ≤ (IntKind.i64.wrap (t15.1 + (1 : Int))) ∧ (IntKind.i64.wrap (t15.1 + (1 : Int))) ≤ ((((x0 : ByteArray).size) : Nat) : Int)) ∧
Calls Tryd.prog 162 #[.string ((x0 : ByteArray).extract ((IntKind.i64.wrap (t15.1 + (1 : Int))).toNat) ((x0 : ByteArray).size)), .string x1] w fun e w =>
∃ n23 : Int, e = .returned (.int .i64 n23) ∧
cond (decide (n23 < (0 : Int))) (
Q (.int .i64 (-1 : Int)) w) (
Q (.int .i64 (IntKind.i64.wrap ((IntKind.i64.wrap (t15.1 + (1 : Int))) + n23))) w))) (
∃ t' : Int × Int × Unit, ([.int .i64 (IntKind.i64.wrap (t15.1 + (1 : Int))), .int .i64 (IntKind.i64.wrap (t12.2.1 + (1 : Int)))] : List Value) = tv [(8, .int .i64), (10, .int .i64)] t' ∧ I10 t' w ∧ m11 t' w < m11 t12 w13)) ∧
∃ n24 : Int, w.cell? (⟨0, 0, none⟩ : Addr) = some (.int .i64 n24) ∧
cond (decide ((((x1 : ByteArray).size : Nat) : Int) > n24)) (
(0 ≤ (4 : Int) ∧
cond (decide ((IntKind.i64.wrap (t12.2.1 + (1 : Int))) ≥ (IntKind.i64.wrap ((4 : Int) + ((IntKind.i64.wrap (t15.1 + (1 : Int))).fdiv (2 ^ min (4 : Int).toNat IntKind.i64.bits)))))) (
∃ t : Bool × Unit, ([.bool (decide ((IntKind.i64.wrap (t15.1 + (1 : Int))) < (IntKind.i64.wrap ((IntKind.i64.wrap ((((x0 : ByteArray).size : Nat) : Int) - (((x1 : ByteArray).size : Nat) : Int))) + (1 : Int)))))] : List Value) = tv [(132, .bool)] t ∧ J21 t w) (
∃ t : Bool × Unit, ([.bool false] : List Value) = tv [(132, .bool)] t ∧ J21 t w))) (
∃ t : Bool × Unit, ([.bool false] : List Value) = tv [(132, .bool)] t ∧ J21 t w))) ∧
∃ n25 : Int, w.cell? (⟨0, 0, none⟩ : Addr) = some (.int .i64 n25) ∧
cond (decide ((((x1 : ByteArray).size : Nat) : Int) ≤ n25)) (
Calls Tryd.prog 161 #[.int .i64 (IntKind.i64.wrap (t15.1 + (1 : Int)))] w fun e w =>
∃ n26 : Int, e = .returned (.int .i64 n26) ∧
∃ t : Bool × Unit, ([.bool (decide ((IntKind.i64.wrap (t12.2.1 + (1 : Int))) > n26))] : List Value) = tv [(107, .bool)] t ∧ J18 t w) (
∃ t : Bool × Unit, ([.bool false] : List Value) = tv [(107, .bool)] t ∧ J18 t w))) ∧
(0 ≤ (IntKind.i64.wrap (t15.1 + (1 : Int))) ∧ ∃ c27 : UInt8, ((x0 : ByteArray))[(IntKind.i64.wrap (t15.1 + (1 : Int))).toNat]? = some c27 ∧
cond (((c27.toNat : Nat) : Int) == ((c9.toNat : Nat) : Int)) (
((0 ≤ (IntKind.i64.wrap (t15.1 + (((x1 : ByteArray).size : Nat) : Int))) ∧ (IntKind.i64.wrap (t15.1 + (((x1 : ByteArray).size : Nat) : Int))) ≤ ((((x0 : ByteArray).size) : Nat) : Int)) ∧
((0 ≤ t15.1 ∧ t15.1 ≤ (((IntKind.i64.wrap (t15.1 + (((x1 : ByteArray).size : Nat) : Int))).toNat : Nat) : Int)) ∧
∃ t : Bool × Unit, ([.bool (strEq ((x0 : ByteArray).extract t15.1.toNat ((IntKind.i64.wrap (t15.1 + (((x1 : ByteArray).size : Nat) : Int))).toNat)) x1)] : List Value) = tv [(93, .bool)] t ∧ J16 t w))) (
∃ t : Bool × Unit, ([.bool false] : List Value) = tv [(93, .bool)] t ∧ J16 t w))) ∧
(0 ≤ t12.1 ∧ ∃ c28 : UInt8, ((x0 : ByteArray))[t12.1.toNat]? = some c28 ∧
cond (((c28.toNat : Nat) : Int) != ((c8.toNat : Nat) : Int)) (
((0 ≤ (IntKind.i64.wrap ((IntKind.i64.wrap ((((x0 : ByteArray).size : Nat) : Int) - (((x1 : ByteArray).size : Nat) : Int))) + (1 : Int))) ∧ (IntKind.i64.wrap ((IntKind.i64.wrap ((((x0 : ByteArray).size : Nat) : Int) - (((x1 : ByteArray).size : Nat) : Int))) + (1 : Int))) ≤ ((((x0 : ByteArray).size) : Nat) : Int)) ∧
((0 ≤ (IntKind.i64.wrap (t12.1 + (1 : Int))) ∧ (IntKind.i64.wrap (t12.1 + (1 : Int))) ≤ (((IntKind.i64.wrap ((IntKind.i64.wrap ((((x0 : ByteArray).size : Nat) : Int) - (((x1 : ByteArray).size : Nat) : Int))) + (1 : Int))).toNat : Nat) : Int)) ∧
Calls Tryd.prog 117 #[.string ((x0 : ByteArray).extract ((IntKind.i64.wrap (t12.1 + (1 : Int))).toNat) ((IntKind.i64.wrap ((IntKind.i64.wrap ((((x0 : ByteArray).size : Nat) : Int) - (((x1 : ByteArray).size : Nat) : Int))) + (1 : Int))).toNat)), .int .u8 ((c8.toNat : Nat) : Int)] w fun e w =>
∃ n29 : Int, e = .returned (.int .i64 n29) ∧
cond (decide (n29 < (0 : Int))) (
Q (.int .i64 (-1 : Int)) w) (
∃ t : Int × Unit, ([.int .i64 (IntKind.i64.wrap (t12.1 + (IntKind.i64.wrap (n29 + (1 : Int)))))] : List Value) = tv [(8, .int .i64)] t ∧ J14 t w)))) (
∃ t : Int × Unit, ([.int .i64 t12.1] : List Value) = tv [(8, .int .i64)] t ∧ J14 t w))) (
Q (.int .i64 (-1 : Int)) w)) w13)))) ∧
∃ n30 : Int, w.cell? (⟨0, 0, none⟩ : Addr) = some (.int .i64 n30) ∧
cond (decide ((((x1 : ByteArray).size : Nat) : Int) ≤ n30)) (
∃ t : Bool × Unit, ([.bool (decide ((((x0 : ByteArray).size : Nat) : Int) ≤ (64 : Int)))] : List Value) = tv [(36, .bool)] t ∧ J5 t w) (
∃ t : Bool × Unit, ([.bool false] : List Value) = tv [(36, .bool)] t ∧ J5 t w))))) ∧
cond ((((x1 : ByteArray).size : Nat) : Int) == (0 : Int)) (
∃ t : Bool × Unit, ([.bool true] : List Value) = tv [(16, .bool)] t ∧ J1 t w) (
∃ t : Bool × Unit, ([.bool (strEq x1 x0)] : List Value) = tv [(16, .bool)] t ∧ J1 t w)
set_option maxRecDepth 100000 in
theorem W144_eq (x0 : ByteArray) (x1 : ByteArray) (w : World) (Q : Value → World → Prop) : wFn Tryd.prog Tryd.f144 W144_plan [.string x0, .string x1] w Q = W144 x0 x1 w Q := by kernel_rfl
set_option maxRecDepth 100000 in
theorem W144_ok (x0 : ByteArray) (x1 : ByteArray) (w : World) (Q : Value → World → Prop) (h : W144 x0 x1 w Q) : Calls Tryd.prog 144 #[.string x0, .string x1] w (fun e w' => ∃ v, e = .returned v ∧ Q v w') :=
  calls_of_wFn mixed W144_plan Tryd.func144 (by kernel_rfl) ((W144_eq x0 x1 w Q).mpr h)

end Go.Proofs.YthkcdkldpbndnaaDoor
