/- The walk's functions of this seat, printed by a program of mine (wgen.py) out of Lean's own print of the loaded functions; each is tied to the loaded function by the kernel. No condition. -/
import Derived.Test.YthkcdkldpbndnaaDoorRows
import Derived.Test.YthkcdkldpbndnaaDoorHz
import Derived.Test.YthkcdkldpbndnaaDoorWt
set_option linter.unusedVariables false
namespace Go.Proofs.YthkcdkldpbndnaaDoor
open Go.RowKit Go.Hx
/-! ### 4: hartix/hartixlaw9.TreeBytes -/
def W4_plan : Plan := (.n .z (.n .z (.n .z (.n .z (.n .z (.n .z (.n .z (.cut [8, 15, 16, 17, 18, 19, 45, 46, 47, 48, 49, 50, 51, 52, 53, 54, 55, 56, 57, 58, 59, 60, 61, 62, 63, 64, 65, 66, 67, 68, 69, 70, 71, 72, 73, 74, 75, 76, 77, 78, 79, 80, 81, 82, 83, 84, 85, 86, 87, 88, 89, 90, 91, 92, 93, 94, 95, 96, 97, 98, 99, 100, 101, 102, 103, 104, 105, 106, 107, 108, 109, 110, 111, 112, 113, 114, 115, 116, 117, 118, 119, 120, 121, 122, 123, 124, 125, 126, 127, 128, 129, 130, 131, 132, 133, 134, 135, 136, 137, 138, 139, 140, 141, 142, 143, 144, 145, 146, 147, 148, 149, 150, 151, 152, 153, 154, 155, 156, 157] [(15, .slice)] (.n .z (.cut [8, 15, 16, 17, 18, 19, 45, 46, 47, 48, 49, 50, 51, 52, 53, 54, 55, 56, 57, 58, 59, 60, 61, 62, 63, 64, 65, 66, 67, 68, 69, 70, 71, 72, 73, 74, 75, 76, 77, 78, 79, 80, 81, 82, 83, 84, 85, 86, 87, 88, 89, 90, 91, 92, 93, 94, 95, 96, 97, 98, 99, 100, 101, 102, 103, 104, 105, 106, 107, 108, 109, 110, 111, 112, 113, 114, 115, 116, 117, 118, 119, 120, 121, 122, 123, 124, 125, 126, 127, 128, 129, 130, 131, 132, 133, 134, 135, 136, 137, 138, 139, 140, 141, 142, 143, 144, 145, 146, 147, 148, 149, 150, 151, 152, 153, 154, 155, 156, 157] [(15, .slice), (16, .int .i64)] (.n .z (.n (.n .z (.n .z (.cut [17, 63, 64, 65, 66, 67, 68, 69, 70] [(17, .int .i64)] .z (.n .z (.n .z (.n (.cut [89, 90, 91, 92, 93, 94, 95, 96] [(96, .bool)] .z .z) (.cut [8, 99, 100, 101, 102, 103, 104, 105, 106, 107, 108, 109, 110, 111, 112, 113, 114, 115, 116, 117, 118, 119, 120, 121, 122, 123, 124] [] .z (.n .z (.cut [15, 19, 125, 126, 127, 128, 129, 130, 131, 132, 133, 134, 135, 136, 137, 138, 139, 140, 141, 142, 143, 144, 145, 146, 147, 148, 149, 150, 151, 152, 153, 154, 155, 156, 157] [(15, .slice), (19, .int .i64)] .z .z))))))))) .z)) .z)) (.n .z (.n (.cut [173, 174, 175, 176, 177, 178, 179, 180, 181, 182, 183, 184] [(184, .bool)] .z .z) (.n .z (.cut [20, 195, 196, 197, 198, 199, 200, 201] [(20, .slice)] .z .z))))))))))))
def W4 (x0b : Option Addr) (x0l x0c : Nat) (x1b : Option Addr) (x1l x1c : Nat) (x2 : Int) (x3 : Int) (w : World) (Q : Value → World → Prop) : Prop :=
Calls Tryd.prog 23 #[.int .i64 (200 : Int)] w fun e w =>
∃ p1 : Option Addr, ∃ p2 : Option Addr, e = .returned (.tuple #[.pointer p1, .pointer p2]) ∧
cond p2.isNone (
Q (.bool false) w) (
Calls Tryd.prog 24 #[.pointer p2, .int .i64 (1 : Int), .string (⟨#[47, 97]⟩ : ByteArray), .int .i64 (2 : Int), .int .i16 (0 : Int), .int .i16 (0 : Int)] w fun e w =>
∃ n3 : Int, ∃ n4 : Int, e = .returned (.tuple #[.int .i64 n3, .int .i64 n4]) ∧
Calls Tryd.prog 24 #[.pointer p2, .int .i64 (1 : Int), .string (⟨#[47, 98]⟩ : ByteArray), .int .i64 (2 : Int), .int .i16 (0 : Int), .int .i16 (0 : Int)] w fun e w =>
∃ n5 : Int, ∃ n6 : Int, e = .returned (.tuple #[.int .i64 n5, .int .i64 n6]) ∧
cond (n4 != (0 : Int)) (
Q (.bool false) w) (
cond (n6 != (0 : Int)) (
Q (.bool false) w) (
∃ J7 : ((Option Addr × Nat × Nat) × Unit) → World → Prop, (∀ (_ : Env) (t8 : (Option Addr × Nat × Nat) × Unit) (w : World), J7 t8 w →
Calls Tryd.prog 27 #[.pointer p2, .int .i64 n3] w fun e w =>
∃ g9 : Array Value, e = .returned (.agg g9) ∧
∃ n10 : Int, g9[6]? = some (.int .i64 n10) ∧
cond (n10 != ((t8.1.2.1 : Nat) : Int)) (
Q (.bool false) w) (
Calls Tryd.prog 28 #[.pointer p2, .int .i64 n3, .int .i64 (0 : Int), .int .i64 (1073741824 : Int)] w fun e w =>
∃ (q11b : Option Addr) (q11l q11c : Nat), e = .returned (.slice q11b q11l q11c) ∧
Calls Tryd.prog 21 #[.slice q11b q11l q11c, .slice t8.1.1 t8.1.2.1 t8.1.2.2] w fun e w =>
∃ b12 : Bool, e = .returned (.bool b12) ∧
cond (!b12) (
Q (.bool false) w) (
∃ J13 : (Bool × Unit) → World → Prop, (∀ (_ : Env) (t14 : Bool × Unit) (w : World), J13 t14 w →
cond t14.1 (
Calls Tryd.prog 28 #[.pointer p2, .int .i64 n3, .int .i64 x2, .int .i64 x3] w fun e w =>
∃ (q15b : Option Addr) (q15l q15c : Nat), e = .returned (.slice q15b q15l q15c) ∧
Q (.bool (((q15l : Nat) : Int) == (0 : Int))) w) (
((0 ≤ x2 ∧ x2 ≤ ((t8.1.2.1 : Nat) : Int)) ∧
∃ J16 : ((Option Addr × Nat × Nat) × Unit) → World → Prop, (∀ (_ : Env) (t17 : (Option Addr × Nat × Nat) × Unit) (w : World), J16 t17 w →
Calls Tryd.prog 28 #[.pointer p2, .int .i64 n3, .int .i64 x2, .int .i64 x3] w fun e w =>
∃ (q18b : Option Addr) (q18l q18c : Nat), e = .returned (.slice q18b q18l q18c) ∧
Calls Tryd.prog 28 #[.pointer p2, .int .i64 n3, .int .i64 x2, .int .i64 x3] w fun e w =>
∃ (q19b : Option Addr) (q19l q19c : Nat), e = .returned (.slice q19b q19l q19c) ∧
Calls Tryd.prog 21 #[.slice q18b q18l q18c, .slice t17.1.1 t17.1.2.1 t17.1.2.2] w fun e w =>
∃ b20 : Bool, e = .returned (.bool b20) ∧
cond b20 (
Calls Tryd.prog 21 #[.slice q19b q19l q19c, .slice t17.1.1 t17.1.2.1 t17.1.2.2] w fun e w =>
∃ b21 : Bool, e = .returned (.bool b21) ∧
cond b21 (
∃ g22 : Array Value, bslP Tryd.prog 36 2 [(0, .slice q18b q18l q18c), (1, .slice q19b q19l q19c)] g22 24 ∧
newW g22 24 w fun a23 w =>
Calls Tryd.prog 22 #[.slice (some a23) 2 2] w fun e w =>
∃ b24 : Bool, e = .returned (.bool b24) ∧
cond b24 (
Calls Tryd.prog 28 #[.pointer p2, .int .i64 n3, .int .i64 x2, .int .i64 x3] w fun e w =>
∃ (q25b : Option Addr) (q25l q25c : Nat), e = .returned (.slice q25b q25l q25c) ∧
Calls Tryd.prog 21 #[.slice q25b q25l q25c, .slice t17.1.1 t17.1.2.1 t17.1.2.2] w fun e w =>
∃ b26 : Bool, e = .returned (.bool b26) ∧
Q (.bool b26) w) (
Q (.bool false) w)) (
Q (.bool false) w)) (
Q (.bool false) w)) ∧
cond (decide (x3 < (((t8.1.2.1 - x2.toNat) : Nat) : Int))) (
((0 ≤ x3 ∧ x3 ≤ (((t8.1.2.2 - x2.toNat) : Nat) : Int)) ∧
∃ t : (Option Addr × Nat × Nat) × Unit, ([.slice (slB (slB t8.1.1 x2.toNat t8.1.2.2 1) 0 (t8.1.2.2 - x2.toNat) 1) (x3.toNat - 0) ((t8.1.2.2 - x2.toNat) - 0)] : List Value) = tv [(20, .slice)] t ∧ J16 t w)) (
∃ t : (Option Addr × Nat × Nat) × Unit, ([.slice (slB t8.1.1 x2.toNat t8.1.2.2 1) (t8.1.2.1 - x2.toNat) (t8.1.2.2 - x2.toNat)] : List Value) = tv [(20, .slice)] t ∧ J16 t w)))) ∧
cond (decide (x2 < (0 : Int))) (
∃ t : Bool × Unit, ([.bool true] : List Value) = tv [(184, .bool)] t ∧ J13 t w) (
cond (decide (x2 > ((t8.1.2.1 : Nat) : Int))) (
∃ t : Bool × Unit, ([.bool true] : List Value) = tv [(184, .bool)] t ∧ J13 t w) (
∃ t : Bool × Unit, ([.bool (decide (x3 < (0 : Int)))] : List Value) = tv [(184, .bool)] t ∧ J13 t w))))) ∧
∃ (I27 : ((Option Addr × Nat × Nat) × Int × Unit) → World → Prop) (m28 : ((Option Addr × Nat × Nat) × Int × Unit) → World → Nat), (∃ t : (Option Addr × Nat × Nat) × Int × Unit, ([.slice none 0 0, .int .i64 (0 : Int)] : List Value) = tv [(15, .slice), (16, .int .i64)] t ∧ I27 t w) ∧
∀ (_ : Env) (t29 : (Option Addr × Nat × Nat) × Int × Unit) (w30 : World), I27 t29 w30 →
(fun w : World =>
cond (decide (t29.2.1 < ((x1l : Nat) : Int))) (
cond (decide (t29.2.1 < (60 : Int))) (
nlW x1b fun a31 =>
((0 ≤ t29.2.1 ∧ t29.2.1 < ((x1l : Nat) : Int)) ∧
∃ (q32b : Option Addr) (q32l q32c : Nat), w.cell? (a31.add (t29.2.1.toNat * 1)) = some (.slice q32b q32l q32c) ∧
cond (decide (((q32l : Nat) : Int) > (300000 : Int))) (
∃ t' : (Option Addr × Nat × Nat) × Int × Unit, ([.slice t29.1.1 t29.1.2.1 t29.1.2.2, .int .i64 (IntKind.i64.wrap (t29.2.1 + (1 : Int)))] : List Value) = tv [(15, .slice), (16, .int .i64)] t' ∧ I27 t' w ∧ m28 t' w < m28 t29 w30) (
∃ J33 : (Int × Unit) → World → Prop, (∀ (_ : Env) (t34 : Int × Unit) (w : World), J33 t34 w →
nlW x1b fun a35 =>
((0 ≤ t29.2.1 ∧ t29.2.1 < ((x1l : Nat) : Int)) ∧
∃ (q36b : Option Addr) (q36l q36c : Nat), w.cell? (a35.add (t29.2.1.toNat * 1)) = some (.slice q36b q36l q36c) ∧
Calls Tryd.prog 26 #[.slice q36b q36l q36c] w fun e w =>
∃ (q37b : Option Addr) (q37l q37c : Nat), e = .returned (.slice q37b q37l q37c) ∧
Calls Tryd.prog 25 #[.pointer p2, .int .i64 n3, .int .i64 t34.1, .slice q37b q37l q37c] w fun e w =>
∃ n38 : Int, e = .returned (.int .i64 n38) ∧
Calls Tryd.prog 27 #[.pointer p2, .int .i64 n5] w fun e w =>
∃ g39 : Array Value, e = .returned (.agg g39) ∧
∃ n40 : Int, g39[6]? = some (.int .i64 n40) ∧
∃ g41 : Array Value, bslP Tryd.prog 24 6 [(0, .int .u8 (98 : Int)), (1, .int .u8 (101 : Int)), (2, .int .u8 (115 : Int)), (3, .int .u8 (105 : Int)), (4, .int .u8 (100 : Int)), (5, .int .u8 (101 : Int))] g41 5 ∧
newW g41 5 w fun a42 w =>
∃ (q43b : Option Addr) (q43l q43c : Nat), ∃ w' : World, stP Tryd.prog (convert 24 24 (.slice (some a42) 6 6)) w (.slice q43b q43l q43c) w' ∧
(fun w : World =>
Calls Tryd.prog 25 #[.pointer p2, .int .i64 n5, .int .i64 n40, .slice q43b q43l q43c] w fun e w =>
∃ n44 : Int, e = .returned (.int .i64 n44) ∧
∃ J45 : (Bool × Unit) → World → Prop, (∀ (_ : Env) (t46 : Bool × Unit) (w : World), J45 t46 w →
cond t46.1 (
cond (n38 != (-1 : Int)) (
Q (.bool false) w) (
∃ t' : (Option Addr × Nat × Nat) × Int × Unit, ([.slice t29.1.1 t29.1.2.1 t29.1.2.2, .int .i64 (IntKind.i64.wrap (t29.2.1 + (1 : Int)))] : List Value) = tv [(15, .slice), (16, .int .i64)] t' ∧ I27 t' w ∧ m28 t' w < m28 t29 w30)) (
∃ J47 : (Unit) → World → Prop, (∀ (_ : Env) (t48 : Unit) (w : World), J47 t48 w →
∃ (I49 : ((Option Addr × Nat × Nat) × Int × Unit) → World → Prop) (m50 : ((Option Addr × Nat × Nat) × Int × Unit) → World → Nat), (∃ t : (Option Addr × Nat × Nat) × Int × Unit, ([.slice t29.1.1 t29.1.2.1 t29.1.2.2, .int .i64 (0 : Int)] : List Value) = tv [(15, .slice), (19, .int .i64)] t ∧ I49 t w) ∧
∀ (_ : Env) (t51 : (Option Addr × Nat × Nat) × Int × Unit) (w52 : World), I49 t51 w52 →
(fun w : World =>
cond (decide (t51.2.1 < n38)) (
cond (decide ((IntKind.i64.wrap (t34.1 + t51.2.1)) < ((t51.1.2.1 : Nat) : Int))) (
nlW x1b fun a53 =>
((0 ≤ t29.2.1 ∧ t29.2.1 < ((x1l : Nat) : Int)) ∧
∃ (q54b : Option Addr) (q54l q54c : Nat), w.cell? (a53.add (t29.2.1.toNat * 1)) = some (.slice q54b q54l q54c) ∧
nlW q54b fun a55 =>
((0 ≤ t51.2.1 ∧ t51.2.1 < ((q54l : Nat) : Int)) ∧
∃ n56 : Int, w.cell? (a55.add (t51.2.1.toNat * 1)) = some (.int .u8 n56) ∧
nlW t51.1.1 fun a57 =>
((0 ≤ (IntKind.i64.wrap (t34.1 + t51.2.1)) ∧ (IntKind.i64.wrap (t34.1 + t51.2.1)) < ((t51.1.2.1 : Nat) : Int)) ∧
stC (a57.add ((IntKind.i64.wrap (t34.1 + t51.2.1)).toNat * 1)) (.int .u8 n56) w fun w =>
∃ t' : (Option Addr × Nat × Nat) × Int × Unit, ([.slice t51.1.1 t51.1.2.1 t51.1.2.2, .int .i64 (IntKind.i64.wrap (t51.2.1 + (1 : Int)))] : List Value) = tv [(15, .slice), (19, .int .i64)] t' ∧ I49 t' w ∧ m50 t' w < m50 t51 w52)))) (
nlW x1b fun a58 =>
((0 ≤ t29.2.1 ∧ t29.2.1 < ((x1l : Nat) : Int)) ∧
∃ (q59b : Option Addr) (q59l q59c : Nat), w.cell? (a58.add (t29.2.1.toNat * 1)) = some (.slice q59b q59l q59c) ∧
nlW q59b fun a60 =>
((0 ≤ t51.2.1 ∧ t51.2.1 < ((q59l : Nat) : Int)) ∧
∃ n61 : Int, w.cell? (a60.add (t51.2.1.toNat * 1)) = some (.int .u8 n61) ∧
∃ g62 : Array Value, bslP Tryd.prog 24 1 [(0, .int .u8 n61)] g62 5 ∧
newW g62 5 w fun a63 w =>
apnW Tryd.prog 24 24 (.slice t51.1.1 t51.1.2.1 t51.1.2.2) (.slice (some a63) 1 1) w fun q64b q64l q64c w =>
∃ t' : (Option Addr × Nat × Nat) × Int × Unit, ([.slice q64b q64l q64c, .int .i64 (IntKind.i64.wrap (t51.2.1 + (1 : Int)))] : List Value) = tv [(15, .slice), (19, .int .i64)] t' ∧ I49 t' w ∧ m50 t' w < m50 t51 w52)))) (
∃ t' : (Option Addr × Nat × Nat) × Int × Unit, ([.slice t51.1.1 t51.1.2.1 t51.1.2.2, .int .i64 (IntKind.i64.wrap (t29.2.1 + (1 : Int)))] : List Value) = tv [(15, .slice), (16, .int .i64)] t' ∧ I27 t' w ∧ m28 t' w < m28 t29 w30)) w52) ∧
cond (decide (n38 < (0 : Int))) (
Q (.bool false) w) (
nlW x1b fun a65 =>
((0 ≤ t29.2.1 ∧ t29.2.1 < ((x1l : Nat) : Int)) ∧
∃ (q66b : Option Addr) (q66l q66c : Nat), w.cell? (a65.add (t29.2.1.toNat * 1)) = some (.slice q66b q66l q66c) ∧
cond (decide (n38 > ((q66l : Nat) : Int))) (
Q (.bool false) w) (
nlW x1b fun a67 =>
((0 ≤ t29.2.1 ∧ t29.2.1 < ((x1l : Nat) : Int)) ∧
∃ (q68b : Option Addr) (q68l q68c : Nat), w.cell? (a67.add (t29.2.1.toNat * 1)) = some (.slice q68b q68l q68c) ∧
cond (decide (n38 < ((q68l : Nat) : Int))) (
cond ((IntKind.i64.wrap (t34.1 + n38)) != (262144 : Int)) (
Q (.bool false) w) (
∃ t : Unit, ([] : List Value) = tv [] t ∧ J47 t w)) (
∃ t : Unit, ([] : List Value) = tv [] t ∧ J47 t w))))))) ∧
cond (decide (t34.1 < (0 : Int))) (
∃ t : Bool × Unit, ([.bool true] : List Value) = tv [(96, .bool)] t ∧ J45 t w) (
∃ t : Bool × Unit, ([.bool (decide (t34.1 > ((t29.1.2.1 : Nat) : Int)))] : List Value) = tv [(96, .bool)] t ∧ J45 t w)) w')) ∧
cond (decide (t29.2.1 < ((x0l : Nat) : Int))) (
nlW x0b fun a69 =>
((0 ≤ t29.2.1 ∧ t29.2.1 < ((x0l : Nat) : Int)) ∧
∃ n70 : Int, w.cell? (a69.add (t29.2.1.toNat * 1)) = some (.int .i64 n70) ∧
∃ t : Int × Unit, ([.int .i64 n70] : List Value) = tv [(17, .int .i64)] t ∧ J33 t w)) (
∃ t : Int × Unit, ([.int .i64 ((t29.1.2.1 : Nat) : Int)] : List Value) = tv [(17, .int .i64)] t ∧ J33 t w)))) (
∃ t : (Option Addr × Nat × Nat) × Unit, ([.slice t29.1.1 t29.1.2.1 t29.1.2.2] : List Value) = tv [(15, .slice)] t ∧ J7 t w)) (
∃ t : (Option Addr × Nat × Nat) × Unit, ([.slice t29.1.1 t29.1.2.1 t29.1.2.2] : List Value) = tv [(15, .slice)] t ∧ J7 t w)) w30)))
set_option maxRecDepth 100000 in
theorem W4_eq (x0b : Option Addr) (x0l x0c : Nat) (x1b : Option Addr) (x1l x1c : Nat) (x2 : Int) (x3 : Int) (w : World) (Q : Value → World → Prop) : wFn Tryd.prog Tryd.f4 W4_plan [.slice x0b x0l x0c, .slice x1b x1l x1c, .int .i64 x2, .int .i64 x3] w Q = W4 x0b x0l x0c x1b x1l x1c x2 x3 w Q := by kernel_rfl
set_option maxRecDepth 100000 in
theorem W4_ok (x0b : Option Addr) (x0l x0c : Nat) (x1b : Option Addr) (x1l x1c : Nat) (x2 : Int) (x3 : Int) (w : World) (Q : Value → World → Prop) (h : W4 x0b x0l x0c x1b x1l x1c x2 x3 w Q) : Calls Tryd.prog 4 #[.slice x0b x0l x0c, .slice x1b x1l x1c, .int .i64 x2, .int .i64 x3] w (fun e w' => ∃ v, e = .returned v ∧ Q v w') :=
  calls_of_wFn mixed W4_plan Tryd.func4 (by kernel_rfl) ((W4_eq x0b x0l x0c x1b x1l x1c x2 x3 w Q).mpr h)

/-! ### 23: hartix/hartixlaw9.house -/
def W23_plan : Plan := (.n .z (.n .z (.n (.cut [13, 14, 15, 16, 17, 18] [(18, .bool)] .z .z) .z)))
def W23 (x0 : Int) (w : World) (Q : Value → World → Prop) : Prop :=
Calls Tryd.prog 44 #[.int .i64 x0] w fun e w =>
∃ p1 : Option Addr, ∃ v2 : Value, e = .returned (.tuple #[.pointer p1, v2]) ∧
∃ J3 : (Bool × Unit) → World → Prop, (∀ (_ : Env) (t4 : Bool × Unit) (w : World), J3 t4 w →
cond t4.1 (
Q (.tuple #[.pointer none, .pointer none]) w) (
Calls Tryd.prog 45 #[.pointer p1] w fun e w =>
∃ p5 : Option Addr, ∃ n6 : Int, e = .returned (.tuple #[.pointer p5, .int .i64 n6]) ∧
cond (n6 != (0 : Int)) (
Q (.tuple #[.pointer none, .pointer none]) w) (
Q (.tuple #[.pointer p1, .pointer p5]) w))) ∧
∃ b7 : Bool, isNilI v2 = some b7 ∧
cond (!b7) (
∃ t : Bool × Unit, ([.bool true] : List Value) = tv [(18, .bool)] t ∧ J3 t w) (
∃ t : Bool × Unit, ([.bool p1.isNone] : List Value) = tv [(18, .bool)] t ∧ J3 t w)
set_option maxRecDepth 100000 in
theorem W23_eq (x0 : Int) (w : World) (Q : Value → World → Prop) : wFn Tryd.prog Tryd.f23 W23_plan [.int .i64 x0] w Q = W23 x0 w Q := by kernel_rfl
set_option maxRecDepth 100000 in
theorem W23_ok (x0 : Int) (w : World) (Q : Value → World → Prop) (h : W23 x0 w Q) : Calls Tryd.prog 23 #[.int .i64 x0] w (fun e w' => ∃ v, e = .returned v ∧ Q v w') :=
  calls_of_wFn mixed W23_plan Tryd.func23 (by kernel_rfl) ((W23_eq x0 w Q).mpr h)

/-! ### 57: hartix/hartixlaw9.cheap -/
def W57_plan : Plan := .z
def W57 (x0 : Array Value) (w : World) (Q : Value → World → Prop) : Prop :=
newW x0 126 w fun a1 w =>
∃ (q2b : Option Addr) (q2l q2c : Nat), w.cell? (a1.add 9) = some (.slice q2b q2l q2c) ∧
cond (decide (((q2l : Nat) : Int) ≤ (400000 : Int))) (
∃ s3 : ByteArray, w.cell? (a1.add 3) = some (.string s3) ∧
Q (.bool (decide ((((s3 : ByteArray).size : Nat) : Int) ≤ (1000 : Int)))) w) (
Q (.bool false) w)
set_option maxRecDepth 100000 in
theorem W57_eq (x0 : Array Value) (w : World) (Q : Value → World → Prop) : wFn Tryd.prog Tryd.f57 W57_plan [.agg x0] w Q = W57 x0 w Q := by kernel_rfl
set_option maxRecDepth 100000 in
theorem W57_ok (x0 : Array Value) (w : World) (Q : Value → World → Prop) (h : W57 x0 w Q) : Calls Tryd.prog 57 #[.agg x0] w (fun e w' => ∃ v, e = .returned v ∧ Q v w') :=
  calls_of_wFn mixed W57_plan Tryd.func57 (by kernel_rfl) ((W57_eq x0 w Q).mpr h)

/-! ### 58: hartix/hartixlaw9.does -/
def W58_plan : Plan := .z
def W58 (x0 : Option Addr) (x1 : Array Value) (w : World) (Q : Value → World → Prop) : Prop :=
newW x1 126 w fun a1 w =>
∃ n2 : Int, w.cell? a1 = some (.int .i64 n2) ∧
cond (n2 == (1 : Int)) (
∃ n3 : Int, w.cell? (a1.add 1) = some (.int .i64 n3) ∧
∃ s4 : ByteArray, w.cell? (a1.add 3) = some (.string s4) ∧
Calls Tryd.prog 48 #[.pointer x0, .int .i64 n3, .string s4] w fun e w =>
∃ n5 : Int, ∃ n6 : Int, e = .returned (.tuple #[.int .i64 n5, .int .i64 n6]) ∧
Q (.tuple #[]) w) (
cond (n2 == (2 : Int)) (
∃ n7 : Int, w.cell? (a1.add 1) = some (.int .i64 n7) ∧
∃ s8 : ByteArray, w.cell? (a1.add 3) = some (.string s8) ∧
∃ n9 : Int, w.cell? (a1.add 4) = some (.int .i64 n9) ∧
∃ n10 : Int, w.cell? (a1.add 5) = some (.int .i16 n10) ∧
∃ n11 : Int, w.cell? (a1.add 6) = some (.int .i16 n11) ∧
Calls Tryd.prog 24 #[.pointer x0, .int .i64 n7, .string s8, .int .i64 n9, .int .i16 n10, .int .i16 n11] w fun e w =>
∃ n12 : Int, ∃ n13 : Int, e = .returned (.tuple #[.int .i64 n12, .int .i64 n13]) ∧
Q (.tuple #[]) w) (
cond (n2 == (3 : Int)) (
∃ n14 : Int, w.cell? (a1.add 2) = some (.int .i64 n14) ∧
∃ n15 : Int, w.cell? (a1.add 1) = some (.int .i64 n15) ∧
∃ s16 : ByteArray, w.cell? (a1.add 3) = some (.string s16) ∧
Calls Tryd.prog 49 #[.pointer x0, .int .i64 n14, .int .i64 n15, .string s16] w fun e w =>
∃ n17 : Int, e = .returned (.int .i64 n17) ∧
Q (.tuple #[]) w) (
cond (n2 == (4 : Int)) (
∃ n18 : Int, w.cell? (a1.add 1) = some (.int .i64 n18) ∧
∃ s19 : ByteArray, w.cell? (a1.add 3) = some (.string s19) ∧
Calls Tryd.prog 50 #[.pointer x0, .int .i64 n18, .string s19] w fun e w =>
∃ n20 : Int, e = .returned (.int .i64 n20) ∧
Q (.tuple #[]) w) (
cond (n2 == (5 : Int)) (
∃ n21 : Int, w.cell? (a1.add 2) = some (.int .i64 n21) ∧
∃ n22 : Int, w.cell? (a1.add 7) = some (.int .i64 n22) ∧
∃ n23 : Int, w.cell? (a1.add 8) = some (.int .i64 n23) ∧
Calls Tryd.prog 28 #[.pointer x0, .int .i64 n21, .int .i64 n22, .int .i64 n23] w fun e w =>
∃ (q24b : Option Addr) (q24l q24c : Nat), e = .returned (.slice q24b q24l q24c) ∧
Q (.tuple #[]) w) (
cond (n2 == (6 : Int)) (
∃ S25 : World → Prop, S25 w.drew ∧
∃ n26 : Int, (∀ w', S25 w' → w'.cell? (a1.add 2) = some (.int .i64 n26)) ∧
∃ n27 : Int, (∀ w', S25 w' → w'.cell? (a1.add 7) = some (.int .i64 n27)) ∧
∃ (q28b : Option Addr) (q28l q28c : Nat), (∀ w', S25 w' → w'.cell? (a1.add 9) = some (.slice q28b q28l q28c)) ∧
Calls Tryd.prog 26 #[.slice q28b q28l q28c] w.drew fun e w =>
∃ (q29b : Option Addr) (q29l q29c : Nat), e = .returned (.slice q29b q29l q29c) ∧
∃ S30 : World → Prop, (∀ w', S30 w' → S25 w') ∧ S30 w ∧
Calls Tryd.prog 25 #[.pointer x0, .int .i64 n26, .int .i64 n27, .slice q29b q29l q29c] w fun e w =>
∃ n31 : Int, e = .returned (.int .i64 n31) ∧
Q (.tuple #[]) w) (
cond (n2 == (7 : Int)) (
∃ n32 : Int, w.cell? (a1.add 2) = some (.int .i64 n32) ∧
Calls Tryd.prog 51 #[.pointer x0, .int .i64 n32] w fun e w =>
∃ n33 : Int, e = .returned (.int .i64 n33) ∧
Q (.tuple #[]) w) (
cond (n2 == (8 : Int)) (
∃ n34 : Int, w.cell? (a1.add 2) = some (.int .i64 n34) ∧
Calls Tryd.prog 52 #[.pointer x0, .int .i64 n34] w fun e w =>
∃ n35 : Int, e = .returned (.int .i64 n35) ∧
Q (.tuple #[]) w) (
cond (n2 == (9 : Int)) (
∃ n36 : Int, w.cell? (a1.add 2) = some (.int .i64 n36) ∧
Calls Tryd.prog 53 #[.pointer x0, .int .i64 n36] w fun e w =>
∃ n37 : Int, e = .returned (.int .i64 n37) ∧
Q (.tuple #[]) w) (
Q (.tuple #[]) w)))))))))
set_option maxRecDepth 100000 in
theorem W58_eq (x0 : Option Addr) (x1 : Array Value) (w : World) (Q : Value → World → Prop) : wFn Tryd.prog Tryd.f58 W58_plan [.pointer x0, .agg x1] w Q = W58 x0 x1 w Q := by kernel_rfl
set_option maxRecDepth 100000 in
theorem W58_ok (x0 : Option Addr) (x1 : Array Value) (w : World) (Q : Value → World → Prop) (h : W58 x0 x1 w Q) : Calls Tryd.prog 58 #[.pointer x0, .agg x1] w (fun e w' => ∃ v, e = .returned v ∧ Q v w') :=
  calls_of_wFn mixed W58_plan Tryd.func58 (by kernel_rfl) ((W58_eq x0 x1 w Q).mpr h)

/-! ### 63: hartix/hartixlaw0.CopyWords -/
def W63_plan : Plan := (.n .z (.n .z (.n (.n .z (.cut [3, 4, 5, 6, 7, 8, 9, 10, 11, 12, 13, 14, 15, 16, 17] [(3, .slice), (4, .int .i64)] .z .z)) .z)))
def W63 (x0b : Option Addr) (x0l x0c : Nat) (w : World) (Q : Value → World → Prop) : Prop :=
∃ (I1 : ((Option Addr × Nat × Nat) × Int × Unit) → World → Prop) (m2 : ((Option Addr × Nat × Nat) × Int × Unit) → World → Nat), (∃ t : (Option Addr × Nat × Nat) × Int × Unit, ([.slice none 0 0, .int .i64 (0 : Int)] : List Value) = tv [(3, .slice), (4, .int .i64)] t ∧ I1 t w) ∧
∀ (_ : Env) (t3 : (Option Addr × Nat × Nat) × Int × Unit) (w4 : World), I1 t3 w4 →
(fun w : World =>
cond (decide (t3.2.1 < ((x0l : Nat) : Int))) (
nlW x0b fun a5 =>
((0 ≤ t3.2.1 ∧ t3.2.1 < ((x0l : Nat) : Int)) ∧
∃ n6 : Int, w.cell? (a5.add (t3.2.1.toNat * 1)) = some (.int .u64 n6) ∧
∃ g7 : Array Value, bslP Tryd.prog 48 1 [(0, .int .u64 n6)] g7 100 ∧
newW g7 100 w fun a8 w =>
apnW Tryd.prog 48 48 (.slice t3.1.1 t3.1.2.1 t3.1.2.2) (.slice (some a8) 1 1) w fun q9b q9l q9c w =>
∃ t' : (Option Addr × Nat × Nat) × Int × Unit, ([.slice q9b q9l q9c, .int .i64 (IntKind.i64.wrap (t3.2.1 + (1 : Int)))] : List Value) = tv [(3, .slice), (4, .int .i64)] t' ∧ I1 t' w ∧ m2 t' w < m2 t3 w4)) (
Q (.slice t3.1.1 t3.1.2.1 t3.1.2.2) w)) w4
set_option maxRecDepth 100000 in
theorem W63_eq (x0b : Option Addr) (x0l x0c : Nat) (w : World) (Q : Value → World → Prop) : wFn Tryd.prog Tryd.f63 W63_plan [.slice x0b x0l x0c] w Q = W63 x0b x0l x0c w Q := by kernel_rfl
set_option maxRecDepth 100000 in
theorem W63_ok (x0b : Option Addr) (x0l x0c : Nat) (w : World) (Q : Value → World → Prop) (h : W63 x0b x0l x0c w Q) : Calls Tryd.prog 63 #[.slice x0b x0l x0c] w (fun e w' => ∃ v, e = .returned v ∧ Q v w') :=
  calls_of_wFn mixed W63_plan Tryd.func63 (by kernel_rfl) ((W63_eq x0b x0l x0c w Q).mpr h)

/-! ### 64: hartix/hartixlaw0.Words -/
def W64_plan : Plan := (.n .z (.n .z (.n (.n .z (.cut [4, 5, 11, 12, 13, 14, 15, 16, 17, 18, 19, 20, 21, 22, 23, 24, 25] [(5, .int .i64)] .z .z)) .z)))
def W64 (x0b : Option Addr) (x0l x0c : Nat) (x1b : Option Addr) (x1l x1c : Nat) (w : World) (Q : Value → World → Prop) : Prop :=
cond (((x0l : Nat) : Int) != ((x1l : Nat) : Int)) (
Q (.bool false) w) (
∃ (I1 : (Int × Unit) → World → Prop) (m2 : (Int × Unit) → World → Nat), (∃ t : Int × Unit, ([.int .i64 (0 : Int)] : List Value) = tv [(5, .int .i64)] t ∧ I1 t w) ∧
∀ (_ : Env) (t3 : Int × Unit) (w4 : World), I1 t3 w4 →
(fun w : World =>
cond (decide (t3.1 < ((x0l : Nat) : Int))) (
nlW x0b fun a5 =>
((0 ≤ t3.1 ∧ t3.1 < ((x0l : Nat) : Int)) ∧
∃ n6 : Int, w.drew.cell? (a5.add (t3.1.toNat * 1)) = some (.int .u64 n6) ∧
nlW x1b fun a7 =>
((0 ≤ t3.1 ∧ t3.1 < ((x1l : Nat) : Int)) ∧
∃ n8 : Int, w.drew.cell? (a7.add (t3.1.toNat * 1)) = some (.int .u64 n8) ∧
cond (n6 != n8) (
Q (.bool false) w.drew) (
∃ t' : Int × Unit, ([.int .i64 (IntKind.i64.wrap (t3.1 + (1 : Int)))] : List Value) = tv [(5, .int .i64)] t' ∧ I1 t' w.drew ∧ m2 t' w.drew < m2 t3 w4)))) (
Q (.bool true) w)) w4)
set_option maxRecDepth 100000 in
theorem W64_eq (x0b : Option Addr) (x0l x0c : Nat) (x1b : Option Addr) (x1l x1c : Nat) (w : World) (Q : Value → World → Prop) : wFn Tryd.prog Tryd.f64 W64_plan [.slice x0b x0l x0c, .slice x1b x1l x1c] w Q = W64 x0b x0l x0c x1b x1l x1c w Q := by kernel_rfl
set_option maxRecDepth 100000 in
theorem W64_ok (x0b : Option Addr) (x0l x0c : Nat) (x1b : Option Addr) (x1l x1c : Nat) (w : World) (Q : Value → World → Prop) (h : W64 x0b x0l x0c x1b x1l x1c w Q) : Calls Tryd.prog 64 #[.slice x0b x0l x0c, .slice x1b x1l x1c] w (fun e w' => ∃ v, e = .returned v ∧ Q v w') :=
  calls_of_wFn mixed W64_plan Tryd.func64 (by kernel_rfl) ((W64_eq x0b x0l x0c x1b x1l x1c w Q).mpr h)

/-! ### 65: hartix/hartixlaw9.sameDir -/
def W65_plan : Plan := (.n .z (.n .z (.n (.n .z (.cut [4, 5, 11, 12, 13, 14, 15, 16, 17, 18, 19, 20, 21, 22, 23, 24, 25] [(5, .int .i64)] .z .z)) .z)))
def W65 (x0b : Option Addr) (x0l x0c : Nat) (x1b : Option Addr) (x1l x1c : Nat) (w : World) (Q : Value → World → Prop) : Prop :=
cond (((x0l : Nat) : Int) != ((x1l : Nat) : Int)) (
Q (.bool false) w) (
∃ (I1 : (Int × Unit) → World → Prop) (m2 : (Int × Unit) → World → Nat), (∃ t : Int × Unit, ([.int .i64 (0 : Int)] : List Value) = tv [(5, .int .i64)] t ∧ I1 t w) ∧
∀ (_ : Env) (t3 : Int × Unit) (w4 : World), I1 t3 w4 →
(fun w : World =>
cond (decide (t3.1 < ((x0l : Nat) : Int))) (
nlW x0b fun a5 =>
((0 ≤ t3.1 ∧ t3.1 < ((x0l : Nat) : Int)) ∧
∃ g6 : Array Value, g6.size = 2 ∧ RowAt w.drew (a5.add (t3.1.toNat * 2)) g6 ∧
nlW x1b fun a7 =>
((0 ≤ t3.1 ∧ t3.1 < ((x1l : Nat) : Int)) ∧
∃ g8 : Array Value, g8.size = 2 ∧ RowAt w.drew (a7.add (t3.1.toNat * 2)) g8 ∧
∃ b9 : Bool, AggEq Tryd.prog 23 g6 g8 b9 ∧
cond (!b9) (
Q (.bool false) w.drew) (
∃ t' : Int × Unit, ([.int .i64 (IntKind.i64.wrap (t3.1 + (1 : Int)))] : List Value) = tv [(5, .int .i64)] t' ∧ I1 t' w.drew ∧ m2 t' w.drew < m2 t3 w4)))) (
Q (.bool true) w)) w4)
set_option maxRecDepth 100000 in
theorem W65_eq (x0b : Option Addr) (x0l x0c : Nat) (x1b : Option Addr) (x1l x1c : Nat) (w : World) (Q : Value → World → Prop) : wFn Tryd.prog Tryd.f65 W65_plan [.slice x0b x0l x0c, .slice x1b x1l x1c] w Q = W65 x0b x0l x0c x1b x1l x1c w Q := by kernel_rfl
set_option maxRecDepth 100000 in
theorem W65_ok (x0b : Option Addr) (x0l x0c : Nat) (x1b : Option Addr) (x1l x1c : Nat) (w : World) (Q : Value → World → Prop) (h : W65 x0b x0l x0c x1b x1l x1c w Q) : Calls Tryd.prog 65 #[.slice x0b x0l x0c, .slice x1b x1l x1c] w (fun e w' => ∃ v, e = .returned v ∧ Q v w') :=
  calls_of_wFn mixed W65_plan Tryd.func65 (by kernel_rfl) ((W65_eq x0b x0l x0c x1b x1l x1c w Q).mpr h)

/-! ### 66: hartix/hartixlaw0.FreeWords -/
def W66_plan : Plan := (.n .z (.n (.n .z (.cut [3, 4, 13, 14, 15, 16, 17, 18, 19, 20, 21, 22, 23, 24, 25, 26, 27, 28, 29, 30, 31, 32, 33, 34, 35, 36, 37] [(3, .int .i64)] (.n .z (.n (.n .z (.cut [4, 19, 20, 21, 22, 23, 24, 25, 26, 27, 28, 29, 30, 31, 32, 33, 34, 35, 36, 37] [(4, .int .i64)] .z .z)) .z)) .z)) (.n .z (.n (.n .z (.cut [5, 6, 7, 8, 38, 39, 40, 41, 42, 43, 44, 45, 46, 47, 48, 49, 50, 51, 52, 53, 54, 55, 56, 57, 58, 59, 60, 61, 62] [(5, .slice), (6, .int .i64)] (.n .z (.n (.n .z (.n (.n .z (.cut [7, 8, 48, 49, 50, 51, 52, 53, 54, 55, 56, 57, 58] [(7, .slice), (8, .int .i64)] .z .z)) .z)) .z)) .z)) (.n (.n .z (.cut [2, 9, 10, 11, 12, 63, 64, 65, 66, 67, 68, 69, 70, 71, 72, 73, 74, 75, 76, 77, 78, 79, 80, 81, 82, 83, 84, 85, 86, 87, 88, 89, 90, 91, 92, 93, 94, 95, 96, 97, 98, 99, 100, 101, 102, 103, 104, 105, 106, 107, 108] [(9, .int .i64)] (.n .z (.n (.n .z (.n (.n .z (.cut [2, 11, 74, 75, 76, 77, 78, 79, 80, 81, 82, 83, 84, 85, 86, 87, 88, 89, 90] [(11, .int .i64)] .z .z)) (.n .z (.cut [2, 12, 91, 92, 93, 94, 95, 96, 97, 98, 99, 100, 101, 102, 103, 104, 105, 106, 107, 108] [(12, .int .i64)] .z .z)))) .z)) .z)) .z)))))
def W66 (x0b : Option Addr) (x0l x0c : Nat) (w : World) (Q : Value → World → Prop) : Prop :=
∃ (I1 : (Int × Unit) → World → Prop) (m2 : (Int × Unit) → World → Nat), (∃ t : Int × Unit, ([.int .i64 (0 : Int)] : List Value) = tv [(3, .int .i64)] t ∧ I1 t w) ∧
∀ (_ : Env) (t3 : Int × Unit) (w4 : World), I1 t3 w4 →
(fun w : World =>
cond (decide (t3.1 < ((x0l : Nat) : Int))) (
∃ (I5 : (Int × Unit) → World → Prop) (m6 : (Int × Unit) → World → Nat), (∃ t : Int × Unit, ([.int .i64 (0 : Int)] : List Value) = tv [(4, .int .i64)] t ∧ I5 t w) ∧
∀ (_ : Env) (t7 : Int × Unit) (w8 : World), I5 t7 w8 →
(fun w : World =>
nlW x0b fun a9 =>
((0 ≤ t3.1 ∧ t3.1 < ((x0l : Nat) : Int)) ∧
∃ (q10b : Option Addr) (q10l q10c : Nat), w.cell? (a9.add (t3.1.toNat * 1)) = some (.slice q10b q10l q10c) ∧
cond (decide (t7.1 < ((q10l : Nat) : Int))) (
nlW x0b fun a11 =>
((0 ≤ t3.1 ∧ t3.1 < ((x0l : Nat) : Int)) ∧
∃ (q12b : Option Addr) (q12l q12c : Nat), w.cell? (a11.add (t3.1.toNat * 1)) = some (.slice q12b q12l q12c) ∧
nlW q12b fun a13 =>
((0 ≤ t7.1 ∧ t7.1 < ((q12l : Nat) : Int)) ∧
stC (a13.add (t7.1.toNat * 1)) (.int .u64 (IntKind.u64.wrap ((4611686018427387905 : Int) + (IntKind.u64.wrap ((2 : Int) * (IntKind.u64.wrap t3.1)))))) w fun w =>
∃ t' : Int × Unit, ([.int .i64 (IntKind.i64.wrap (t7.1 + (1 : Int)))] : List Value) = tv [(4, .int .i64)] t' ∧ I5 t' w ∧ m6 t' w < m6 t7 w8))) (
∃ t' : Int × Unit, ([.int .i64 (IntKind.i64.wrap (t3.1 + (1 : Int)))] : List Value) = tv [(3, .int .i64)] t' ∧ I1 t' w ∧ m2 t' w < m2 t3 w4))) w8) (
∃ (I14 : ((Option Addr × Nat × Nat) × Int × Unit) → World → Prop) (m15 : ((Option Addr × Nat × Nat) × Int × Unit) → World → Nat), (∃ t : (Option Addr × Nat × Nat) × Int × Unit, ([.slice none 0 0, .int .i64 (0 : Int)] : List Value) = tv [(5, .slice), (6, .int .i64)] t ∧ I14 t w) ∧
∀ (_ : Env) (t16 : (Option Addr × Nat × Nat) × Int × Unit) (w17 : World), I14 t16 w17 →
(fun w : World =>
cond (decide (t16.2.1 < ((x0l : Nat) : Int))) (
nlW x0b fun a18 =>
((0 ≤ t16.2.1 ∧ t16.2.1 < ((x0l : Nat) : Int)) ∧
∃ (q19b : Option Addr) (q19l q19c : Nat), w.cell? (a18.add (t16.2.1.toNat * 1)) = some (.slice q19b q19l q19c) ∧
∃ (I20 : ((Option Addr × Nat × Nat) × Int × Unit) → World → Prop) (m21 : ((Option Addr × Nat × Nat) × Int × Unit) → World → Nat), (∃ t : (Option Addr × Nat × Nat) × Int × Unit, ([.slice q19b q19l q19c, .int .i64 (0 : Int)] : List Value) = tv [(7, .slice), (8, .int .i64)] t ∧ I20 t w) ∧
∀ (_ : Env) (t22 : (Option Addr × Nat × Nat) × Int × Unit) (w23 : World), I20 t22 w23 →
(fun w : World =>
cond (decide (t22.2.1 < (64 : Int))) (
∃ g24 : Array Value, bslP Tryd.prog 48 1 [(0, .int .u64 (IntKind.u64.wrap ((2305843009213693953 : Int) + (IntKind.u64.wrap ((2 : Int) * (IntKind.u64.wrap t16.2.1))))))] g24 100 ∧
newW g24 100 w fun a25 w =>
apnW Tryd.prog 48 48 (.slice t22.1.1 t22.1.2.1 t22.1.2.2) (.slice (some a25) 1 1) w fun q26b q26l q26c w =>
∃ t' : (Option Addr × Nat × Nat) × Int × Unit, ([.slice q26b q26l q26c, .int .i64 (IntKind.i64.wrap (t22.2.1 + (1 : Int)))] : List Value) = tv [(7, .slice), (8, .int .i64)] t' ∧ I20 t' w ∧ m21 t' w < m21 t22 w23) (
∃ g27 : Array Value, bslP Tryd.prog 156 1 [(0, .slice t22.1.1 t22.1.2.1 t22.1.2.2)] g27 48 ∧
newW g27 48 w fun a28 w =>
apnW Tryd.prog 156 156 (.slice t16.1.1 t16.1.2.1 t16.1.2.2) (.slice (some a28) 1 1) w fun q29b q29l q29c w =>
∃ t' : (Option Addr × Nat × Nat) × Int × Unit, ([.slice q29b q29l q29c, .int .i64 (IntKind.i64.wrap (t16.2.1 + (1 : Int)))] : List Value) = tv [(5, .slice), (6, .int .i64)] t' ∧ I14 t' w ∧ m15 t' w < m15 t16 w17)) w23)) (
∃ (I30 : (Int × Unit) → World → Prop) (m31 : (Int × Unit) → World → Nat), (∃ t : Int × Unit, ([.int .i64 (0 : Int)] : List Value) = tv [(9, .int .i64)] t ∧ I30 t w) ∧
∀ (_ : Env) (t32 : Int × Unit) (w33 : World), I30 t32 w33 →
(fun w : World =>
cond (decide (t32.1 < ((x0l : Nat) : Int))) (
nlW x0b fun a34 =>
((0 ≤ t32.1 ∧ t32.1 < ((x0l : Nat) : Int)) ∧
∃ (q35b : Option Addr) (q35l q35c : Nat), w.cell? (a34.add (t32.1.toNat * 1)) = some (.slice q35b q35l q35c) ∧
∃ (I36 : (Int × Unit) → World → Prop) (m37 : (Int × Unit) → World → Nat), (∃ t : Int × Unit, ([.int .i64 (0 : Int)] : List Value) = tv [(11, .int .i64)] t ∧ I36 t w) ∧
∀ (_ : Env) (t38 : Int × Unit) (w39 : World), I36 t38 w39 →
(fun w : World =>
cond (decide (t38.1 < ((q35l : Nat) : Int))) (
nlW x0b fun a40 =>
((0 ≤ t32.1 ∧ t32.1 < ((x0l : Nat) : Int)) ∧
∃ (q41b : Option Addr) (q41l q41c : Nat), w.cell? (a40.add (t32.1.toNat * 1)) = some (.slice q41b q41l q41c) ∧
nlW q41b fun a42 =>
((0 ≤ t38.1 ∧ t38.1 < ((q41l : Nat) : Int)) ∧
∃ n43 : Int, w.cell? (a42.add (t38.1.toNat * 1)) = some (.int .u64 n43) ∧
cond (n43 != (IntKind.u64.wrap ((4611686018427387905 : Int) + (IntKind.u64.wrap ((2 : Int) * (IntKind.u64.wrap t32.1)))))) (
Q (.bool false) w) (
∃ t' : Int × Unit, ([.int .i64 (IntKind.i64.wrap (t38.1 + (1 : Int)))] : List Value) = tv [(11, .int .i64)] t' ∧ I36 t' w ∧ m37 t' w < m37 t38 w39)))) (
∃ (I44 : (Int × Unit) → World → Prop) (m45 : (Int × Unit) → World → Nat), (∃ t : Int × Unit, ([.int .i64 (0 : Int)] : List Value) = tv [(12, .int .i64)] t ∧ I44 t w) ∧
∀ (_ : Env) (t46 : Int × Unit) (w47 : World), I44 t46 w47 →
(fun w : World =>
cond (decide (t46.1 < (64 : Int))) (
nlW t16.1.1 fun a48 =>
((0 ≤ t32.1 ∧ t32.1 < ((t16.1.2.1 : Nat) : Int)) ∧
∃ (q49b : Option Addr) (q49l q49c : Nat), w.cell? (a48.add (t32.1.toNat * 1)) = some (.slice q49b q49l q49c) ∧
nlW q49b fun a50 =>
((0 ≤ (IntKind.i64.wrap (((q35l : Nat) : Int) + t46.1)) ∧ (IntKind.i64.wrap (((q35l : Nat) : Int) + t46.1)) < ((q49l : Nat) : Int)) ∧
∃ n51 : Int, w.cell? (a50.add ((IntKind.i64.wrap (((q35l : Nat) : Int) + t46.1)).toNat * 1)) = some (.int .u64 n51) ∧
cond (n51 != (IntKind.u64.wrap ((2305843009213693953 : Int) + (IntKind.u64.wrap ((2 : Int) * (IntKind.u64.wrap t32.1)))))) (
Q (.bool false) w) (
∃ t' : Int × Unit, ([.int .i64 (IntKind.i64.wrap (t46.1 + (1 : Int)))] : List Value) = tv [(12, .int .i64)] t' ∧ I44 t' w ∧ m45 t' w < m45 t46 w47)))) (
∃ t' : Int × Unit, ([.int .i64 (IntKind.i64.wrap (t32.1 + (1 : Int)))] : List Value) = tv [(9, .int .i64)] t' ∧ I30 t' w ∧ m31 t' w < m31 t32 w33)) w47)) w39)) (
Q (.bool true) w)) w33)) w17)) w4
set_option maxRecDepth 100000 in
theorem W66_eq (x0b : Option Addr) (x0l x0c : Nat) (w : World) (Q : Value → World → Prop) : wFn Tryd.prog Tryd.f66 W66_plan [.slice x0b x0l x0c] w Q = W66 x0b x0l x0c w Q := by kernel_rfl
set_option maxRecDepth 100000 in
theorem W66_ok (x0b : Option Addr) (x0l x0c : Nat) (w : World) (Q : Value → World → Prop) (h : W66 x0b x0l x0c w Q) : Calls Tryd.prog 66 #[.slice x0b x0l x0c] w (fun e w' => ∃ v, e = .returned v ∧ Q v w') :=
  calls_of_wFn mixed W66_plan Tryd.func66 (by kernel_rfl) ((W66_eq x0b x0l x0c w Q).mpr h)

/-! ### 67: hartix/hartixlaw9.lone -/
def W67_plan : Plan := (.n .z (.n (.n .z (.cut [5, 13, 14, 15, 16, 17, 18, 19, 20, 21, 22] [(5, .int .i64)] .z .z)) (.n (.n .z (.cut [6, 23, 24, 25, 26, 27, 28, 29, 30, 31, 32] [(6, .int .i64)] .z .z)) (.n .z (.n (.n .z (.cut [7, 8, 34, 35, 36, 37, 38, 39, 40, 41] [(7, .slice), (8, .int .i64)] .z .z)) (.n .z (.n (.n .z (.cut [9, 10, 43, 44, 45, 46, 47, 48, 49, 50] [(9, .slice), (10, .int .i64)] .z .z)) (.n (.n .z (.cut [4, 11, 51, 52, 53, 54, 55, 56, 57, 58, 59, 60, 61, 62, 63, 64, 65, 66, 67, 68, 69, 70, 71, 72, 73, 74, 75, 76, 77, 78, 79, 80, 81, 82, 83, 84, 85, 86, 87, 88, 89, 90] [(11, .int .i64)] .z .z)) (.n (.n .z (.cut [4, 12, 91, 92, 93, 94, 95, 96, 97, 98, 99, 100, 101, 102, 103, 104, 105, 106, 107, 108, 109, 110, 111, 112, 113, 114, 115, 116, 117, 118, 119, 120, 121, 122, 123, 124, 125, 126, 127, 128, 129, 130] [(12, .int .i64)] .z .z)) .z)))))))))
def W67 (x0b : Option Addr) (x0l x0c : Nat) (x1b : Option Addr) (x1l x1c : Nat) (w : World) (Q : Value → World → Prop) : Prop :=
∃ (I1 : (Int × Unit) → World → Prop) (m2 : (Int × Unit) → World → Nat), (∃ t : Int × Unit, ([.int .i64 (0 : Int)] : List Value) = tv [(5, .int .i64)] t ∧ I1 t w) ∧
∀ (_ : Env) (t3 : Int × Unit) (w4 : World), I1 t3 w4 →
(fun w : World =>
cond (decide (t3.1 < ((x0l : Nat) : Int))) (
∃ g5 : Array Value, bldP Tryd.prog 23 [(0, .int .i64 (1001 : Int)), (1, .string (⟨#[120]⟩ : ByteArray))] (.agg g5) ∧
nlW x0b fun a6 =>
((0 ≤ t3.1 ∧ t3.1 < ((x0l : Nat) : Int)) ∧
stA 2 (a6.add (t3.1.toNat * 2)) g5 w fun w =>
∃ t' : Int × Unit, ([.int .i64 (IntKind.i64.wrap (t3.1 + (1 : Int)))] : List Value) = tv [(5, .int .i64)] t' ∧ I1 t' w ∧ m2 t' w < m2 t3 w4)) (
∃ (I7 : (Int × Unit) → World → Prop) (m8 : (Int × Unit) → World → Nat), (∃ t : Int × Unit, ([.int .i64 (0 : Int)] : List Value) = tv [(6, .int .i64)] t ∧ I7 t w) ∧
∀ (_ : Env) (t9 : Int × Unit) (w10 : World), I7 t9 w10 →
(fun w : World =>
cond (decide (t9.1 < ((x1l : Nat) : Int))) (
∃ g11 : Array Value, bldP Tryd.prog 23 [(0, .int .i64 (1002 : Int)), (1, .string (⟨#[121]⟩ : ByteArray))] (.agg g11) ∧
nlW x1b fun a12 =>
((0 ≤ t9.1 ∧ t9.1 < ((x1l : Nat) : Int)) ∧
stA 2 (a12.add (t9.1.toNat * 2)) g11 w fun w =>
∃ t' : Int × Unit, ([.int .i64 (IntKind.i64.wrap (t9.1 + (1 : Int)))] : List Value) = tv [(6, .int .i64)] t' ∧ I7 t' w ∧ m8 t' w < m8 t9 w10)) (
∃ (I13 : ((Option Addr × Nat × Nat) × Int × Unit) → World → Prop) (m14 : ((Option Addr × Nat × Nat) × Int × Unit) → World → Nat), (∃ t : (Option Addr × Nat × Nat) × Int × Unit, ([.slice x0b x0l x0c, .int .i64 (0 : Int)] : List Value) = tv [(7, .slice), (8, .int .i64)] t ∧ I13 t w) ∧
∀ (_ : Env) (t15 : (Option Addr × Nat × Nat) × Int × Unit) (w16 : World), I13 t15 w16 →
(fun w : World =>
cond (decide (t15.2.1 < (16 : Int))) (
∃ g17 : Array Value, bldP Tryd.prog 23 [(0, .int .i64 (1003 : Int))] (.agg g17) ∧
∃ g18 : Array Value, bslP Tryd.prog 132 1 [(0, .agg g17)] g18 23 ∧
newW g18 23 w fun a19 w =>
apnW Tryd.prog 132 132 (.slice t15.1.1 t15.1.2.1 t15.1.2.2) (.slice (some a19) 1 1) w fun q20b q20l q20c w =>
∃ t' : (Option Addr × Nat × Nat) × Int × Unit, ([.slice q20b q20l q20c, .int .i64 (IntKind.i64.wrap (t15.2.1 + (1 : Int)))] : List Value) = tv [(7, .slice), (8, .int .i64)] t' ∧ I13 t' w ∧ m14 t' w < m14 t15 w16) (
∃ (I21 : ((Option Addr × Nat × Nat) × Int × Unit) → World → Prop) (m22 : ((Option Addr × Nat × Nat) × Int × Unit) → World → Nat), (∃ t : (Option Addr × Nat × Nat) × Int × Unit, ([.slice x1b x1l x1c, .int .i64 (0 : Int)] : List Value) = tv [(9, .slice), (10, .int .i64)] t ∧ I21 t w) ∧
∀ (_ : Env) (t23 : (Option Addr × Nat × Nat) × Int × Unit) (w24 : World), I21 t23 w24 →
(fun w : World =>
cond (decide (t23.2.1 < (16 : Int))) (
∃ g25 : Array Value, bldP Tryd.prog 23 [(0, .int .i64 (1004 : Int))] (.agg g25) ∧
∃ g26 : Array Value, bslP Tryd.prog 132 1 [(0, .agg g25)] g26 23 ∧
newW g26 23 w fun a27 w =>
apnW Tryd.prog 132 132 (.slice t23.1.1 t23.1.2.1 t23.1.2.2) (.slice (some a27) 1 1) w fun q28b q28l q28c w =>
∃ t' : (Option Addr × Nat × Nat) × Int × Unit, ([.slice q28b q28l q28c, .int .i64 (IntKind.i64.wrap (t23.2.1 + (1 : Int)))] : List Value) = tv [(9, .slice), (10, .int .i64)] t' ∧ I21 t' w ∧ m22 t' w < m22 t23 w24) (
∃ (I29 : (Int × Unit) → World → Prop) (m30 : (Int × Unit) → World → Nat), (∃ t : Int × Unit, ([.int .i64 (0 : Int)] : List Value) = tv [(11, .int .i64)] t ∧ I29 t w) ∧
∀ (_ : Env) (t31 : Int × Unit) (w32 : World), I29 t31 w32 →
(fun w : World =>
cond (decide (t31.1 < ((t15.1.2.1 : Nat) : Int))) (
cond (decide (t31.1 < ((x0l : Nat) : Int))) (
nlW x0b fun a33 =>
((0 ≤ t31.1 ∧ t31.1 < ((x0l : Nat) : Int)) ∧
∃ n34 : Int, w.cell? (a33.add (t31.1.toNat * 2)) = some (.int .i64 n34) ∧
cond (n34 != (1001 : Int)) (
Q (.bool false) w) (
nlW t15.1.1 fun a35 =>
((0 ≤ t31.1 ∧ t31.1 < ((t15.1.2.1 : Nat) : Int)) ∧
∃ n36 : Int, w.cell? (a35.add (t31.1.toNat * 2)) = some (.int .i64 n36) ∧
cond (n36 != (1001 : Int)) (
Q (.bool false) w) (
cond (decide (t31.1 ≥ ((x0l : Nat) : Int))) (
nlW t15.1.1 fun a37 =>
((0 ≤ t31.1 ∧ t31.1 < ((t15.1.2.1 : Nat) : Int)) ∧
∃ n38 : Int, w.cell? (a37.add (t31.1.toNat * 2)) = some (.int .i64 n38) ∧
cond (n38 != (1003 : Int)) (
Q (.bool false) w) (
∃ t' : Int × Unit, ([.int .i64 (IntKind.i64.wrap (t31.1 + (1 : Int)))] : List Value) = tv [(11, .int .i64)] t' ∧ I29 t' w ∧ m30 t' w < m30 t31 w32))) (
∃ t' : Int × Unit, ([.int .i64 (IntKind.i64.wrap (t31.1 + (1 : Int)))] : List Value) = tv [(11, .int .i64)] t' ∧ I29 t' w ∧ m30 t' w < m30 t31 w32)))))) (
cond (decide (t31.1 ≥ ((x0l : Nat) : Int))) (
nlW t15.1.1 fun a39 =>
((0 ≤ t31.1 ∧ t31.1 < ((t15.1.2.1 : Nat) : Int)) ∧
∃ n40 : Int, w.cell? (a39.add (t31.1.toNat * 2)) = some (.int .i64 n40) ∧
cond (n40 != (1003 : Int)) (
Q (.bool false) w) (
∃ t' : Int × Unit, ([.int .i64 (IntKind.i64.wrap (t31.1 + (1 : Int)))] : List Value) = tv [(11, .int .i64)] t' ∧ I29 t' w ∧ m30 t' w < m30 t31 w32))) (
∃ t' : Int × Unit, ([.int .i64 (IntKind.i64.wrap (t31.1 + (1 : Int)))] : List Value) = tv [(11, .int .i64)] t' ∧ I29 t' w ∧ m30 t' w < m30 t31 w32))) (
∃ (I41 : (Int × Unit) → World → Prop) (m42 : (Int × Unit) → World → Nat), (∃ t : Int × Unit, ([.int .i64 (0 : Int)] : List Value) = tv [(12, .int .i64)] t ∧ I41 t w) ∧
∀ (_ : Env) (t43 : Int × Unit) (w44 : World), I41 t43 w44 →
(fun w : World =>
cond (decide (t43.1 < ((t23.1.2.1 : Nat) : Int))) (
cond (decide (t43.1 < ((x1l : Nat) : Int))) (
nlW x1b fun a45 =>
((0 ≤ t43.1 ∧ t43.1 < ((x1l : Nat) : Int)) ∧
∃ n46 : Int, w.cell? (a45.add (t43.1.toNat * 2)) = some (.int .i64 n46) ∧
cond (n46 != (1002 : Int)) (
Q (.bool false) w) (
nlW t23.1.1 fun a47 =>
((0 ≤ t43.1 ∧ t43.1 < ((t23.1.2.1 : Nat) : Int)) ∧
∃ n48 : Int, w.cell? (a47.add (t43.1.toNat * 2)) = some (.int .i64 n48) ∧
cond (n48 != (1002 : Int)) (
Q (.bool false) w) (
cond (decide (t43.1 ≥ ((x1l : Nat) : Int))) (
nlW t23.1.1 fun a49 =>
((0 ≤ t43.1 ∧ t43.1 < ((t23.1.2.1 : Nat) : Int)) ∧
∃ n50 : Int, w.cell? (a49.add (t43.1.toNat * 2)) = some (.int .i64 n50) ∧
cond (n50 != (1004 : Int)) (
Q (.bool false) w) (
∃ t' : Int × Unit, ([.int .i64 (IntKind.i64.wrap (t43.1 + (1 : Int)))] : List Value) = tv [(12, .int .i64)] t' ∧ I41 t' w ∧ m42 t' w < m42 t43 w44))) (
∃ t' : Int × Unit, ([.int .i64 (IntKind.i64.wrap (t43.1 + (1 : Int)))] : List Value) = tv [(12, .int .i64)] t' ∧ I41 t' w ∧ m42 t' w < m42 t43 w44)))))) (
cond (decide (t43.1 ≥ ((x1l : Nat) : Int))) (
nlW t23.1.1 fun a51 =>
((0 ≤ t43.1 ∧ t43.1 < ((t23.1.2.1 : Nat) : Int)) ∧
∃ n52 : Int, w.cell? (a51.add (t43.1.toNat * 2)) = some (.int .i64 n52) ∧
cond (n52 != (1004 : Int)) (
Q (.bool false) w) (
∃ t' : Int × Unit, ([.int .i64 (IntKind.i64.wrap (t43.1 + (1 : Int)))] : List Value) = tv [(12, .int .i64)] t' ∧ I41 t' w ∧ m42 t' w < m42 t43 w44))) (
∃ t' : Int × Unit, ([.int .i64 (IntKind.i64.wrap (t43.1 + (1 : Int)))] : List Value) = tv [(12, .int .i64)] t' ∧ I41 t' w ∧ m42 t' w < m42 t43 w44))) (
Q (.bool true) w)) w44)) w32)) w24)) w16)) w10)) w4
set_option maxRecDepth 100000 in
theorem W67_eq (x0b : Option Addr) (x0l x0c : Nat) (x1b : Option Addr) (x1l x1c : Nat) (w : World) (Q : Value → World → Prop) : wFn Tryd.prog Tryd.f67 W67_plan [.slice x0b x0l x0c, .slice x1b x1l x1c] w Q = W67 x0b x0l x0c x1b x1l x1c w Q := by kernel_rfl
set_option maxRecDepth 100000 in
theorem W67_ok (x0b : Option Addr) (x0l x0c : Nat) (x1b : Option Addr) (x1l x1c : Nat) (w : World) (Q : Value → World → Prop) (h : W67 x0b x0l x0c x1b x1l x1c w Q) : Calls Tryd.prog 67 #[.slice x0b x0l x0c, .slice x1b x1l x1c] w (fun e w' => ∃ v, e = .returned v ∧ Q v w') :=
  calls_of_wFn mixed W67_plan Tryd.func67 (by kernel_rfl) ((W67_eq x0b x0l x0c x1b x1l x1c w Q).mpr h)

end Go.Proofs.YthkcdkldpbndnaaDoor
