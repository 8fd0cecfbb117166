/- The walk's functions of this seat, printed by a program of mine (wgen.py) out of Lean's own print of the loaded functions; each is tied to the loaded function by the kernel. No condition. -/
import Derived.Test.YthkcdkldpbndnaaDoorRows
import Derived.Test.YthkcdkldpbndnaaDoorHz
import Derived.Test.YthkcdkldpbndnaaDoorWb
set_option linter.unusedVariables false
namespace Go.Proofs.YthkcdkldpbndnaaDoor
open Go.RowKit Go.Hx
/-! ### 8: hartix/hartixlaw9.TreeOne -/
def W8_plan : Plan := (.n .z (.n .z (.n .z (.cut [4, 7, 19, 20, 21, 22, 23, 24, 25, 26, 27, 28, 29, 30, 31, 32, 33, 34, 35, 36, 37, 38, 39, 40, 41, 42, 43] [] (.n .z (.cut [4, 7, 19, 20, 21, 22, 23, 24, 25, 26, 27, 28, 29, 30, 31, 32, 33, 34, 35, 36, 37, 38, 39, 40, 41, 42, 43] [(7, .int .i64)] .z .z)) .z))))
def W8 (x0 : Int) (x1b : Option Addr) (x1l x1c : Nat) (w : World) (Q : Value → World → Prop) : Prop :=
((280 : Int) ≠ 0 ∧
Calls Tryd.prog 23 #[.int .i64 (IntKind.i64.wrap ((16 : Int) + (IntKind.i64.wrap ((IntKind.u32.wrap x0).tmod (280 : Int)))))] w fun e w =>
∃ p1 : Option Addr, ∃ p2 : Option Addr, e = .returned (.tuple #[.pointer p1, .pointer p2]) ∧
cond p2.isNone (
Q (.bool false) w) (
∃ J3 : (Unit) → World → Prop, (∀ (_ : Env) (t4 : Unit) (w : World), J3 t4 w →
Calls Tryd.prog 59 #[.pointer p2] w fun e w =>
∃ g5 : Array Value, e = .returned (.agg g5) ∧
Calls Tryd.prog 60 #[.agg g5] w fun e w =>
∃ b6 : Bool, e = .returned (.bool b6) ∧
Q (.bool b6) w) ∧
∃ (I7 : (Int × Unit) → World → Prop) (m8 : (Int × Unit) → World → Nat), (∃ t : Int × Unit, ([.int .i64 (0 : Int)] : List Value) = tv [(7, .int .i64)] t ∧ I7 t w) ∧
∀ (_ : Env) (t9 : Int × Unit) (w10 : World), I7 t9 w10 →
(fun w : World =>
cond (decide (t9.1 < ((x1l : Nat) : Int))) (
cond (decide (t9.1 < (400 : Int))) (
nlW x1b fun a11 =>
((0 ≤ t9.1 ∧ t9.1 < ((x1l : Nat) : Int)) ∧
∃ g12 : Array Value, g12.size = 10 ∧ RowAt w (a11.add (t9.1.toNat * 10)) g12 ∧
Calls Tryd.prog 57 #[.agg g12] w fun e w =>
∃ b13 : Bool, e = .returned (.bool b13) ∧
cond b13 (
nlW x1b fun a14 =>
((0 ≤ t9.1 ∧ t9.1 < ((x1l : Nat) : Int)) ∧
∃ g15 : Array Value, g15.size = 10 ∧ RowAt w (a14.add (t9.1.toNat * 10)) g15 ∧
Calls Tryd.prog 58 #[.pointer p2, .agg g15] w fun e w =>
e = .returned (.tuple #[]) ∧
Calls Tryd.prog 59 #[.pointer p2] w fun e w =>
∃ g16 : Array Value, e = .returned (.agg g16) ∧
Calls Tryd.prog 60 #[.agg g16] w fun e w =>
∃ b17 : Bool, e = .returned (.bool b17) ∧
cond (!b17) (
Q (.bool false) w) (
∃ t' : Int × Unit, ([.int .i64 (IntKind.i64.wrap (t9.1 + (1 : Int)))] : List Value) = tv [(7, .int .i64)] t' ∧ I7 t' w ∧ m8 t' w < m8 t9 w10))) (
∃ t' : Int × Unit, ([.int .i64 (IntKind.i64.wrap (t9.1 + (1 : Int)))] : List Value) = tv [(7, .int .i64)] t' ∧ I7 t' w ∧ m8 t' w < m8 t9 w10))) (
∃ t : Unit, ([] : List Value) = tv [] t ∧ J3 t w)) (
∃ t : Unit, ([] : List Value) = tv [] t ∧ J3 t w)) w10))
set_option maxRecDepth 100000 in
theorem W8_eq (x0 : Int) (x1b : Option Addr) (x1l x1c : Nat) (w : World) (Q : Value → World → Prop) : wFn Tryd.prog Tryd.f8 W8_plan [.int .i64 x0, .slice x1b x1l x1c] w Q = W8 x0 x1b x1l x1c w Q := by kernel_rfl
set_option maxRecDepth 100000 in
theorem W8_ok (x0 : Int) (x1b : Option Addr) (x1l x1c : Nat) (w : World) (Q : Value → World → Prop) (h : W8 x0 x1b x1l x1c w Q) : Calls Tryd.prog 8 #[.int .i64 x0, .slice x1b x1l x1c] w (fun e w' => ∃ v, e = .returned v ∧ Q v w') :=
  calls_of_wFn mixed W8_plan Tryd.func8 (by kernel_rfl) ((W8_eq x0 x1b x1l x1c w Q).mpr h)

/-! ### 9: hartix/hartixlaw9.TreeFinds -/
def W9_plan : Plan := (.n .z (.n .z (.n .z (.cut [9, 33, 34, 35, 36, 37, 38, 39, 40, 41, 42, 43, 44, 45, 46, 47, 48, 49, 50, 51, 52, 53] [] (.n .z (.cut [9, 33, 34, 35, 36, 37, 38, 39, 40, 41, 42, 43, 44, 45, 46, 47, 48, 49, 50, 51, 52, 53] [(9, .int .i64)] .z .z)) (.n .z (.n .z (.n .z (.n (.n .z (.cut [6, 13, 14, 15, 16, 17, 18, 19, 20, 21, 67, 68, 69, 70, 71, 72, 73, 74, 75, 76, 77, 78, 79, 80, 81, 82, 83, 84, 85, 86, 87, 88, 89, 90, 91, 92, 93, 94, 95, 96, 97, 98, 99, 100, 101, 102, 103, 104, 105, 106, 107, 108, 109, 110, 111, 112, 113, 114, 115, 116, 117, 118, 119, 120, 121, 122, 123, 124, 125, 126, 127, 128, 129, 130, 131, 132, 133, 134, 135, 136, 137, 138, 139, 140, 141, 142, 143, 144, 145, 146, 147, 148, 149, 150, 151, 152, 153, 154, 155, 156, 157, 158, 159, 160, 161, 162, 163, 164, 165, 166, 167, 168, 169, 170, 171, 172, 173, 174, 175, 176, 177, 178, 179] [(13, .int .i64)] (.n .z (.n (.n .z (.n .z (.n .z (.cut [6, 17, 18, 19, 20, 21, 80, 81, 82, 83, 84, 85, 86, 87, 88, 89, 90, 91, 92, 93, 94, 95, 96, 97, 98, 99, 100, 101, 102, 103, 104, 105, 106, 107, 108, 109, 110, 111, 112, 113, 114, 115, 116, 117, 118, 119, 120, 121, 122, 123, 124, 125, 126, 127, 128, 129, 130, 131, 132, 133, 134, 135, 136, 137, 138, 139, 140, 141, 142, 143, 144, 145, 146, 147, 148, 149, 150, 151, 152, 153, 154, 155, 156, 157, 158, 159, 160, 161, 162, 163, 164, 165, 166, 167, 168, 169, 170, 171, 172, 173, 174, 175, 176, 177, 178, 179] [(17, .int .i64)] (.n .z (.n (.n .z (.n .z (.n .z (.cut [6, 20, 21, 129, 130, 131, 132, 133, 134, 135, 136, 137, 138, 139, 140, 141, 142, 143, 144, 145, 146, 147, 148, 149, 150, 151, 152, 153, 154] [] .z .z)))) .z)) .z)))) .z)) .z)) (.cut [2, 180, 181, 182, 183, 184, 185] [(2, .int .i64)] .z .z)))))))))
def W9 (x0 : Int) (x1b : Option Addr) (x1l x1c : Nat) (x2 : Int) (w : World) (Q : Value → World → Prop) : Prop :=
((280 : Int) ≠ 0 ∧
Calls Tryd.prog 23 #[.int .i64 (IntKind.i64.wrap ((16 : Int) + (IntKind.i64.wrap ((IntKind.u32.wrap x0).tmod (280 : Int)))))] w fun e w =>
∃ p1 : Option Addr, ∃ p2 : Option Addr, e = .returned (.tuple #[.pointer p1, .pointer p2]) ∧
cond p2.isNone (
Q (.bool false) w) (
∃ J3 : (Unit) → World → Prop, (∀ (_ : Env) (t4 : Unit) (w : World), J3 t4 w →
Calls Tryd.prog 48 #[.pointer p2, .int .i64 (1 : Int), .string (⟨#[47]⟩ : ByteArray)] w fun e w =>
∃ n5 : Int, ∃ n6 : Int, e = .returned (.tuple #[.int .i64 n5, .int .i64 n6]) ∧
cond (n6 != (0 : Int)) (
Q (.bool false) w) (
cond (n5 != (1 : Int)) (
Q (.bool false) w) (
Calls Tryd.prog 59 #[.pointer p2] w fun e w =>
∃ g7 : Array Value, e = .returned (.agg g7) ∧
newW (zc Tryd.prog 144) 144 w fun a8 w =>
stA 1800 a8 g7 w fun w =>
∃ (I9 : (Int × Unit) → World → Prop) (m10 : (Int × Unit) → World → Nat), (∃ t : Int × Unit, ([.int .i64 (1 : Int)] : List Value) = tv [(13, .int .i64)] t ∧ I9 t w) ∧
∀ (_ : Env) (t11 : Int × Unit) (w12 : World), I9 t11 w12 →
(fun w : World =>
cond (decide (t11.1 < (200 : Int))) (
∃ g13 : Array Value, g13.size = 1800 ∧ RowAt w a8 g13 ∧
Calls Tryd.prog 61 #[.agg g13, .int .i64 t11.1] w fun e w =>
∃ (q14b : Option Addr) (q14l q14c : Nat), ∃ n15 : Int, ∃ b16 : Bool, e = .returned (.tuple #[.slice q14b q14l q14c, .int .i64 n15, .bool b16]) ∧
cond (!b16) (
Q (.bool false) w) (
∃ (I17 : (Int × Unit) → World → Prop) (m18 : (Int × Unit) → World → Nat), (∃ t : Int × Unit, ([.int .i64 (0 : Int)] : List Value) = tv [(17, .int .i64)] t ∧ I17 t w) ∧
∀ (_ : Env) (t19 : Int × Unit) (w20 : World), I17 t19 w20 →
(fun w : World =>
cond (decide (t19.1 < ((q14l : Nat) : Int))) (
nlW q14b fun a21 =>
((0 ≤ t19.1 ∧ t19.1 < ((q14l : Nat) : Int)) ∧
∃ s22 : ByteArray, w.cell? ((a21.add (t19.1.toNat * 2)).add 1) = some (.string s22) ∧
Calls Tryd.prog 48 #[.pointer p2, .int .i64 t11.1, .string s22] w fun e w =>
∃ n23 : Int, ∃ n24 : Int, e = .returned (.tuple #[.int .i64 n23, .int .i64 n24]) ∧
nlW q14b fun a25 =>
((0 ≤ t19.1 ∧ t19.1 < ((q14l : Nat) : Int)) ∧
∃ s26 : ByteArray, w.cell? ((a25.add (t19.1.toNat * 2)).add 1) = some (.string s26) ∧
((⟨#[46, 47, 47]⟩ : ByteArray).size + s26.size ≤ 9223372036854775807 ∧
Calls Tryd.prog 48 #[.pointer p2, .int .i64 t11.1, .string ((⟨#[46, 47, 47]⟩ : ByteArray) ++ s26)] w fun e w =>
∃ n27 : Int, ∃ n28 : Int, e = .returned (.tuple #[.int .i64 n27, .int .i64 n28]) ∧
cond (n24 != (0 : Int)) (
Q (.bool false) w) (
cond (n28 != (0 : Int)) (
Q (.bool false) w) (
nlW q14b fun a29 =>
((0 ≤ t19.1 ∧ t19.1 < ((q14l : Nat) : Int)) ∧
∃ n30 : Int, w.cell? (a29.add (t19.1.toNat * 2)) = some (.int .i64 n30) ∧
cond (n23 != n30) (
Q (.bool false) w) (
cond (n27 != n23) (
Q (.bool false) w) (
∃ J31 : (Unit) → World → Prop, (∀ (_ : Env) (t32 : Unit) (w : World), J31 t32 w →
((0 ≤ n23 ∧ n23 < ((200 : Nat) : Int)) ∧
∃ n33 : Int, w.cell? ((a8.add (n23.toNat * 8)).add 1) = some (.int .i64 n33) ∧
cond (n33 == (1 : Int)) (
nlW q14b fun a34 =>
((0 ≤ t19.1 ∧ t19.1 < ((q14l : Nat) : Int)) ∧
∃ s35 : ByteArray, w.cell? ((a34.add (t19.1.toNat * 2)).add 1) = some (.string s35) ∧
(s35.size + (⟨#[47, 46, 46]⟩ : ByteArray).size ≤ 9223372036854775807 ∧
Calls Tryd.prog 48 #[.pointer p2, .int .i64 t11.1, .string (s35 ++ (⟨#[47, 46, 46]⟩ : ByteArray))] w fun e w =>
∃ n36 : Int, ∃ n37 : Int, e = .returned (.tuple #[.int .i64 n36, .int .i64 n37]) ∧
cond (n37 != (0 : Int)) (
Q (.bool false) w) (
cond (n36 != t11.1) (
Q (.bool false) w) (
∃ t' : Int × Unit, ([.int .i64 (IntKind.i64.wrap (t19.1 + (1 : Int)))] : List Value) = tv [(17, .int .i64)] t' ∧ I17 t' w ∧ m18 t' w < m18 t19 w20))))) (
∃ t' : Int × Unit, ([.int .i64 (IntKind.i64.wrap (t19.1 + (1 : Int)))] : List Value) = tv [(17, .int .i64)] t' ∧ I17 t' w ∧ m18 t' w < m18 t19 w20))) ∧
nlW q14b fun a38 =>
((0 ≤ t19.1 ∧ t19.1 < ((q14l : Nat) : Int)) ∧
∃ s39 : ByteArray, w.cell? ((a38.add (t19.1.toNat * 2)).add 1) = some (.string s39) ∧
cond ((((s39 : ByteArray).size : Nat) : Int) == (14 : Int)) (
nlW q14b fun a40 =>
((0 ≤ t19.1 ∧ t19.1 < ((q14l : Nat) : Int)) ∧
∃ s41 : ByteArray, w.cell? ((a40.add (t19.1.toNat * 2)).add 1) = some (.string s41) ∧
(s41.size + (⟨#[109, 111, 114, 101]⟩ : ByteArray).size ≤ 9223372036854775807 ∧
Calls Tryd.prog 48 #[.pointer p2, .int .i64 t11.1, .string (s41 ++ (⟨#[109, 111, 114, 101]⟩ : ByteArray))] w fun e w =>
∃ n42 : Int, ∃ n43 : Int, e = .returned (.tuple #[.int .i64 n42, .int .i64 n43]) ∧
cond (n43 != (0 : Int)) (
Q (.bool false) w) (
cond (n42 != n23) (
Q (.bool false) w) (
∃ t : Unit, ([] : List Value) = tv [] t ∧ J31 t w))))) (
∃ t : Unit, ([] : List Value) = tv [] t ∧ J31 t w))))))))))) (
∃ t' : Int × Unit, ([.int .i64 (IntKind.i64.wrap (t11.1 + (1 : Int)))] : List Value) = tv [(13, .int .i64)] t' ∧ I9 t' w ∧ m10 t' w < m10 t11 w12)) w20)) (
∃ J44 : (Int × Unit) → World → Prop, (∀ (_ : Env) (t45 : Int × Unit) (w : World), J44 t45 w →
∃ g46 : Array Value, g46.size = 1800 ∧ RowAt w a8 g46 ∧
Calls Tryd.prog 62 #[.pointer p2, .agg g46, .int .i64 t45.1] w fun e w =>
∃ b47 : Bool, e = .returned (.bool b47) ∧
Q (.bool b47) w) ∧
cond (decide (x2 < (1 : Int))) (
∃ t : Int × Unit, ([.int .i64 (1 : Int)] : List Value) = tv [(2, .int .i64)] t ∧ J44 t w) (
cond (decide (x2 ≥ (200 : Int))) (
∃ t : Int × Unit, ([.int .i64 (1 : Int)] : List Value) = tv [(2, .int .i64)] t ∧ J44 t w) (
∃ t : Int × Unit, ([.int .i64 x2] : List Value) = tv [(2, .int .i64)] t ∧ J44 t w)))) w12))) ∧
∃ (I48 : (Int × Unit) → World → Prop) (m49 : (Int × Unit) → World → Nat), (∃ t : Int × Unit, ([.int .i64 (0 : Int)] : List Value) = tv [(9, .int .i64)] t ∧ I48 t w) ∧
∀ (_ : Env) (t50 : Int × Unit) (w51 : World), I48 t50 w51 →
(fun w : World =>
cond (decide (t50.1 < ((x1l : Nat) : Int))) (
cond (decide (t50.1 < (400 : Int))) (
nlW x1b fun a52 =>
((0 ≤ t50.1 ∧ t50.1 < ((x1l : Nat) : Int)) ∧
∃ g53 : Array Value, g53.size = 10 ∧ RowAt w (a52.add (t50.1.toNat * 10)) g53 ∧
Calls Tryd.prog 57 #[.agg g53] w fun e w =>
∃ b54 : Bool, e = .returned (.bool b54) ∧
cond b54 (
nlW x1b fun a55 =>
((0 ≤ t50.1 ∧ t50.1 < ((x1l : Nat) : Int)) ∧
∃ g56 : Array Value, g56.size = 10 ∧ RowAt w (a55.add (t50.1.toNat * 10)) g56 ∧
Calls Tryd.prog 58 #[.pointer p2, .agg g56] w fun e w =>
e = .returned (.tuple #[]) ∧
∃ t' : Int × Unit, ([.int .i64 (IntKind.i64.wrap (t50.1 + (1 : Int)))] : List Value) = tv [(9, .int .i64)] t' ∧ I48 t' w ∧ m49 t' w < m49 t50 w51)) (
∃ t' : Int × Unit, ([.int .i64 (IntKind.i64.wrap (t50.1 + (1 : Int)))] : List Value) = tv [(9, .int .i64)] t' ∧ I48 t' w ∧ m49 t' w < m49 t50 w51))) (
∃ t : Unit, ([] : List Value) = tv [] t ∧ J3 t w)) (
∃ t : Unit, ([] : List Value) = tv [] t ∧ J3 t w)) w51))
set_option maxRecDepth 100000 in
theorem W9_eq (x0 : Int) (x1b : Option Addr) (x1l x1c : Nat) (x2 : Int) (w : World) (Q : Value → World → Prop) : wFn Tryd.prog Tryd.f9 W9_plan [.int .i64 x0, .slice x1b x1l x1c, .int .i64 x2] w Q = W9 x0 x1b x1l x1c x2 w Q := by kernel_rfl
set_option maxRecDepth 100000 in
theorem W9_ok (x0 : Int) (x1b : Option Addr) (x1l x1c : Nat) (x2 : Int) (w : World) (Q : Value → World → Prop) (h : W9 x0 x1b x1l x1c x2 w Q) : Calls Tryd.prog 9 #[.int .i64 x0, .slice x1b x1l x1c, .int .i64 x2] w (fun e w' => ∃ v, e = .returned v ∧ Q v w') :=
  calls_of_wFn mixed W9_plan Tryd.func9 (by kernel_rfl) ((W9_eq x0 x1b x1l x1c x2 w Q).mpr h)

/-! ### 10: hartix/hartixlaw9.TreeFresh -/
def W10_plan : Plan := (.n .z (.n .z (.n .z (.cut [9, 29, 30, 31, 32, 33, 34, 35, 36, 37, 38, 39, 40, 41, 42, 43, 44, 45, 46, 47, 48, 49] [] (.n .z (.cut [9, 29, 30, 31, 32, 33, 34, 35, 36, 37, 38, 39, 40, 41, 42, 43, 44, 45, 46, 47, 48, 49] [(9, .int .i64)] .z .z)) (.cut [2, 50, 51, 52, 53, 54, 55] [(2, .int .i64)] .z (.n .z (.n .z (.n .z (.n .z (.n .z (.n .z (.n (.n .z (.cut [15, 16, 71, 72, 73, 74, 75, 76, 77, 78, 79, 80, 81, 82, 83] [(15, .slice), (16, .int .i64)] .z .z)) .z))))))))))))
def W10 (x0 : Int) (x1b : Option Addr) (x1l x1c : Nat) (x2 : Int) (w : World) (Q : Value → World → Prop) : Prop :=
((280 : Int) ≠ 0 ∧
Calls Tryd.prog 23 #[.int .i64 (IntKind.i64.wrap ((16 : Int) + (IntKind.i64.wrap ((IntKind.u32.wrap x0).tmod (280 : Int)))))] w fun e w =>
∃ p1 : Option Addr, ∃ p2 : Option Addr, e = .returned (.tuple #[.pointer p1, .pointer p2]) ∧
cond p2.isNone (
Q (.bool false) w) (
∃ J3 : (Unit) → World → Prop, (∀ (_ : Env) (t4 : Unit) (w : World), J3 t4 w →
∃ J5 : (Int × Unit) → World → Prop, (∀ (_ : Env) (t6 : Int × Unit) (w : World), J5 t6 w →
Calls Tryd.prog 27 #[.pointer p2, .int .i64 t6.1] w fun e w =>
∃ g7 : Array Value, e = .returned (.agg g7) ∧
newW #[.int .i64 0, .int .i64 0, .int .i16 0, .int .i16 0, .int .i64 0, .int .i64 0, .int .i64 0, .slice none 0 0] 50 w fun a8 w =>
stA 8 a8 g7 w fun w =>
Calls Tryd.prog 27 #[.pointer p2, .int .i64 t6.1] w fun e w =>
∃ g9 : Array Value, e = .returned (.agg g9) ∧
newW #[.int .i64 0, .int .i64 0, .int .i16 0, .int .i16 0, .int .i64 0, .int .i64 0, .int .i64 0, .slice none 0 0] 50 w fun a10 w =>
stA 8 a10 g9 w fun w =>
Calls Tryd.prog 55 #[.pointer p2, .int .i64 t6.1] w fun e w =>
∃ (q11b : Option Addr) (q11l q11c : Nat), e = .returned (.slice q11b q11l q11c) ∧
Calls Tryd.prog 55 #[.pointer p2, .int .i64 t6.1] w fun e w =>
∃ (q12b : Option Addr) (q12l q12c : Nat), e = .returned (.slice q12b q12l q12c) ∧
∃ (q13b : Option Addr) (q13l q13c : Nat), w.cell? (a8.add 7) = some (.slice q13b q13l q13c) ∧
Calls Tryd.prog 63 #[.slice q13b q13l q13c] w fun e w =>
∃ (q14b : Option Addr) (q14l q14c : Nat), e = .returned (.slice q14b q14l q14c) ∧
∃ (I15 : ((Option Addr × Nat × Nat) × Int × Unit) → World → Prop) (m16 : ((Option Addr × Nat × Nat) × Int × Unit) → World → Nat), (∃ t : (Option Addr × Nat × Nat) × Int × Unit, ([.slice none 0 0, .int .i64 (0 : Int)] : List Value) = tv [(15, .slice), (16, .int .i64)] t ∧ I15 t w) ∧
∀ (_ : Env) (t17 : (Option Addr × Nat × Nat) × Int × Unit) (w18 : World), I15 t17 w18 →
(fun w : World =>
cond (decide (t17.2.1 < ((q11l : Nat) : Int))) (
nlW q11b fun a19 =>
((0 ≤ t17.2.1 ∧ t17.2.1 < ((q11l : Nat) : Int)) ∧
∃ g20 : Array Value, g20.size = 2 ∧ RowAt w (a19.add (t17.2.1.toNat * 2)) g20 ∧
∃ g21 : Array Value, bslP Tryd.prog 132 1 [(0, .agg g20)] g21 23 ∧
newW g21 23 w fun a22 w =>
apnW Tryd.prog 132 132 (.slice t17.1.1 t17.1.2.1 t17.1.2.2) (.slice (some a22) 1 1) w fun q23b q23l q23c w =>
∃ t' : (Option Addr × Nat × Nat) × Int × Unit, ([.slice q23b q23l q23c, .int .i64 (IntKind.i64.wrap (t17.2.1 + (1 : Int)))] : List Value) = tv [(15, .slice), (16, .int .i64)] t' ∧ I15 t' w ∧ m16 t' w < m16 t17 w18)) (
Calls Tryd.prog 28 #[.pointer p2, .int .i64 t6.1, .int .i64 (0 : Int), .int .i64 (1073741824 : Int)] w fun e w =>
∃ (q24b : Option Addr) (q24l q24c : Nat), e = .returned (.slice q24b q24l q24c) ∧
Calls Tryd.prog 26 #[.slice q24b q24l q24c] w fun e w =>
∃ (q25b : Option Addr) (q25l q25c : Nat), e = .returned (.slice q25b q25l q25c) ∧
∃ (q26b : Option Addr) (q26l q26c : Nat), w.cell? (a10.add 7) = some (.slice q26b q26l q26c) ∧
Calls Tryd.prog 64 #[.slice q26b q26l q26c, .slice q14b q14l q14c] w fun e w =>
∃ b27 : Bool, e = .returned (.bool b27) ∧
cond (!b27) (
Q (.bool false) w) (
Calls Tryd.prog 65 #[.slice q12b q12l q12c, .slice t17.1.1 t17.1.2.1 t17.1.2.2] w fun e w =>
∃ b28 : Bool, e = .returned (.bool b28) ∧
cond (!b28) (
Q (.bool false) w) (
∃ (q29b : Option Addr) (q29l q29c : Nat), w.cell? (a8.add 7) = some (.slice q29b q29l q29c) ∧
∃ (q30b : Option Addr) (q30l q30c : Nat), w.cell? (a10.add 7) = some (.slice q30b q30l q30c) ∧
∃ g31 : Array Value, bslP Tryd.prog 156 2 [(0, .slice q29b q29l q29c), (1, .slice q30b q30l q30c)] g31 48 ∧
newW g31 48 w fun a32 w =>
Calls Tryd.prog 66 #[.slice (some a32) 2 2] w fun e w =>
∃ b33 : Bool, e = .returned (.bool b33) ∧
cond (!b33) (
Q (.bool false) w) (
Calls Tryd.prog 67 #[.slice q11b q11l q11c, .slice q12b q12l q12c] w fun e w =>
∃ b34 : Bool, e = .returned (.bool b34) ∧
cond (!b34) (
Q (.bool false) w) (
Calls Tryd.prog 59 #[.pointer p2] w fun e w =>
∃ g35 : Array Value, e = .returned (.agg g35) ∧
Calls Tryd.prog 60 #[.agg g35] w fun e w =>
∃ b36 : Bool, e = .returned (.bool b36) ∧
cond b36 (
Calls Tryd.prog 27 #[.pointer p2, .int .i64 t6.1] w fun e w =>
∃ g37 : Array Value, e = .returned (.agg g37) ∧
∃ (q38b : Option Addr) (q38l q38c : Nat), g37[7]? = some (.slice q38b q38l q38c) ∧
Calls Tryd.prog 64 #[.slice q38b q38l q38c, .slice q14b q14l q14c] w fun e w =>
∃ b39 : Bool, e = .returned (.bool b39) ∧
cond b39 (
Calls Tryd.prog 55 #[.pointer p2, .int .i64 t6.1] w fun e w =>
∃ (q40b : Option Addr) (q40l q40c : Nat), e = .returned (.slice q40b q40l q40c) ∧
Calls Tryd.prog 65 #[.slice q40b q40l q40c, .slice t17.1.1 t17.1.2.1 t17.1.2.2] w fun e w =>
∃ b41 : Bool, e = .returned (.bool b41) ∧
cond b41 (
Calls Tryd.prog 28 #[.pointer p2, .int .i64 t6.1, .int .i64 (0 : Int), .int .i64 (1073741824 : Int)] w fun e w =>
∃ (q42b : Option Addr) (q42l q42c : Nat), e = .returned (.slice q42b q42l q42c) ∧
Calls Tryd.prog 21 #[.slice q42b q42l q42c, .slice q25b q25l q25c] w fun e w =>
∃ b43 : Bool, e = .returned (.bool b43) ∧
Q (.bool b43) w) (
Q (.bool false) w)) (
Q (.bool false) w)) (
Q (.bool false) w))))))) w18) ∧
cond (decide (x2 < (1 : Int))) (
∃ t : Int × Unit, ([.int .i64 (1 : Int)] : List Value) = tv [(2, .int .i64)] t ∧ J5 t w) (
cond (decide (x2 ≥ (200 : Int))) (
∃ t : Int × Unit, ([.int .i64 (1 : Int)] : List Value) = tv [(2, .int .i64)] t ∧ J5 t w) (
∃ t : Int × Unit, ([.int .i64 x2] : List Value) = tv [(2, .int .i64)] t ∧ J5 t w))) ∧
∃ (I44 : (Int × Unit) → World → Prop) (m45 : (Int × Unit) → World → Nat), (∃ t : Int × Unit, ([.int .i64 (0 : Int)] : List Value) = tv [(9, .int .i64)] t ∧ I44 t w) ∧
∀ (_ : Env) (t46 : Int × Unit) (w47 : World), I44 t46 w47 →
(fun w : World =>
cond (decide (t46.1 < ((x1l : Nat) : Int))) (
cond (decide (t46.1 < (400 : Int))) (
nlW x1b fun a48 =>
((0 ≤ t46.1 ∧ t46.1 < ((x1l : Nat) : Int)) ∧
∃ g49 : Array Value, g49.size = 10 ∧ RowAt w (a48.add (t46.1.toNat * 10)) g49 ∧
Calls Tryd.prog 57 #[.agg g49] w fun e w =>
∃ b50 : Bool, e = .returned (.bool b50) ∧
cond b50 (
nlW x1b fun a51 =>
((0 ≤ t46.1 ∧ t46.1 < ((x1l : Nat) : Int)) ∧
∃ g52 : Array Value, g52.size = 10 ∧ RowAt w (a51.add (t46.1.toNat * 10)) g52 ∧
Calls Tryd.prog 58 #[.pointer p2, .agg g52] w fun e w =>
e = .returned (.tuple #[]) ∧
∃ t' : Int × Unit, ([.int .i64 (IntKind.i64.wrap (t46.1 + (1 : Int)))] : List Value) = tv [(9, .int .i64)] t' ∧ I44 t' w ∧ m45 t' w < m45 t46 w47)) (
∃ t' : Int × Unit, ([.int .i64 (IntKind.i64.wrap (t46.1 + (1 : Int)))] : List Value) = tv [(9, .int .i64)] t' ∧ I44 t' w ∧ m45 t' w < m45 t46 w47))) (
∃ t : Unit, ([] : List Value) = tv [] t ∧ J3 t w)) (
∃ t : Unit, ([] : List Value) = tv [] t ∧ J3 t w)) w47))
set_option maxRecDepth 100000 in
theorem W10_eq (x0 : Int) (x1b : Option Addr) (x1l x1c : Nat) (x2 : Int) (w : World) (Q : Value → World → Prop) : wFn Tryd.prog Tryd.f10 W10_plan [.int .i64 x0, .slice x1b x1l x1c, .int .i64 x2] w Q = W10 x0 x1b x1l x1c x2 w Q := by kernel_rfl
set_option maxRecDepth 100000 in
theorem W10_ok (x0 : Int) (x1b : Option Addr) (x1l x1c : Nat) (x2 : Int) (w : World) (Q : Value → World → Prop) (h : W10 x0 x1b x1l x1c x2 w Q) : Calls Tryd.prog 10 #[.int .i64 x0, .slice x1b x1l x1c, .int .i64 x2] w (fun e w' => ∃ v, e = .returned v ∧ Q v w') :=
  calls_of_wFn mixed W10_plan Tryd.func10 (by kernel_rfl) ((W10_eq x0 x1b x1l x1c x2 w Q).mpr h)

/-! ### 11: hartix/hartixlaw9.TreeRoom -/
def W11_plan : Plan := (.n .z (.n .z (.n .z (.n .z (.cut [8, 32, 33, 34, 35, 36, 37, 38, 39, 40, 41, 42, 43, 44, 45, 46, 47, 48, 49, 50, 51, 52] [] (.n .z (.cut [8, 32, 33, 34, 35, 36, 37, 38, 39, 40, 41, 42, 43, 44, 45, 46, 47, 48, 49, 50, 51, 52] [(8, .int .i64)] .z .z)) (.n .z (.cut [4, 9, 10, 11, 12, 13, 14, 15, 16, 53, 54, 55, 56, 57, 58, 59, 60, 61, 62, 63, 64, 65, 66, 67, 68, 69, 70, 71, 72, 73, 74, 75, 76, 77, 78, 79, 80, 81, 82, 83, 84, 85, 86, 87, 88] [(9, .bool)] (.n .z (.cut [4, 9, 10, 11, 12, 13, 14, 15, 16, 53, 54, 55, 56, 57, 58, 59, 60, 61, 62, 63, 64, 65, 66, 67, 68, 69, 70, 71, 72, 73, 74, 75, 76, 77, 78, 79, 80, 81, 82, 83, 84, 85, 86, 87, 88] [(9, .bool), (10, .int .i64)] (.n .z (.n (.n .z (.n .z (.n .z (.cut [4, 9, 12, 13, 14, 15, 16, 62, 63, 64, 65, 66, 67, 68, 69, 70, 71, 72, 73, 74, 75, 76, 77, 78, 79, 80, 81, 82, 83, 84, 85, 86, 87, 88] [(9, .bool), (12, .int .i64)] (.n .z (.n (.n .z (.n .z (.n .z (.cut [9, 16, 75, 76, 77, 78, 79, 80, 81, 82, 83, 84, 85, 86, 87, 88] [(9, .bool), (16, .int .i64)] .z .z)))) .z)) .z)))) .z)) .z)) (.n (.n .z (.cut [4, 17, 18, 89, 90, 91, 92, 93, 94, 95, 96, 97, 98, 99, 100, 101, 102, 103, 104] [(17, .int .i64)] (.n .z (.n (.n .z (.cut [4, 18, 97, 98, 99, 100, 101, 102, 103, 104] [(18, .int .i64)] .z .z)) .z)) .z)) .z))))))))
def W11 (x0 : Int) (x1b : Option Addr) (x1l x1c : Nat) (w : World) (Q : Value → World → Prop) : Prop :=
((280 : Int) ≠ 0 ∧
Calls Tryd.prog 23 #[.int .i64 (IntKind.i64.wrap ((16 : Int) + (IntKind.i64.wrap ((IntKind.u32.wrap x0).tmod (280 : Int)))))] w fun e w =>
∃ p1 : Option Addr, ∃ p2 : Option Addr, e = .returned (.tuple #[.pointer p1, .pointer p2]) ∧
cond p2.isNone (
Q (.bool false) w) (
Calls Tryd.prog 68 #[.pointer p1] w fun e w =>
∃ n3 : Int, e = .returned (.int .i64 n3) ∧
∃ J4 : (Unit) → World → Prop, (∀ (_ : Env) (t5 : Unit) (w : World), J4 t5 w →
∃ J6 : (Bool × Unit) → World → Prop, (∀ (_ : Env) (t7 : Bool × Unit) (w : World), J6 t7 w →
∃ (I8 : (Int × Unit) → World → Prop) (m9 : (Int × Unit) → World → Nat), (∃ t : Int × Unit, ([.int .i64 (1 : Int)] : List Value) = tv [(17, .int .i64)] t ∧ I8 t w) ∧
∀ (_ : Env) (t10 : Int × Unit) (w11 : World), I8 t10 w11 →
(fun w : World =>
cond (decide (t10.1 < (200 : Int))) (
Calls Tryd.prog 27 #[.pointer p2, .int .i64 t10.1] w fun e w =>
∃ g12 : Array Value, e = .returned (.agg g12) ∧
∃ n13 : Int, g12[5]? = some (.int .i64 n13) ∧
∃ (I14 : (Int × Unit) → World → Prop) (m15 : (Int × Unit) → World → Nat), (∃ t : Int × Unit, ([.int .i64 n13] : List Value) = tv [(18, .int .i64)] t ∧ I14 t w) ∧
∀ (_ : Env) (t16 : Int × Unit) (w17 : World), I14 t16 w17 →
(fun w : World =>
cond (decide (t16.1 > (0 : Int))) (
Calls Tryd.prog 53 #[.pointer p2, .int .i64 t10.1] w fun e w =>
∃ n18 : Int, e = .returned (.int .i64 n18) ∧
cond (n18 != (0 : Int)) (
Q (.bool false) w) (
∃ t' : Int × Unit, ([.int .i64 (IntKind.i64.wrap (t16.1 - (1 : Int)))] : List Value) = tv [(18, .int .i64)] t' ∧ I14 t' w ∧ m15 t' w < m15 t16 w17)) (
∃ t' : Int × Unit, ([.int .i64 (IntKind.i64.wrap (t10.1 + (1 : Int)))] : List Value) = tv [(17, .int .i64)] t' ∧ I8 t' w ∧ m9 t' w < m9 t10 w11)) w17) (
cond (!t7.1) (
Calls Tryd.prog 56 #[.pointer p2] w fun e w =>
∃ n19 : Int, e = .returned (.int .i64 n19) ∧
cond (n19 == (198 : Int)) (
Calls Tryd.prog 68 #[.pointer p1] w fun e w =>
∃ n20 : Int, e = .returned (.int .i64 n20) ∧
Calls Tryd.prog 27 #[.pointer p2, .int .i64 (1 : Int)] w fun e w =>
∃ g21 : Array Value, e = .returned (.agg g21) ∧
∃ (q22b : Option Addr) (q22l q22c : Nat), g21[7]? = some (.slice q22b q22l q22c) ∧
Q (.bool (n20 == (IntKind.i64.wrap ((IntKind.i64.wrap (n3 + (1 : Int))) - ((q22l : Nat) : Int))))) w) (
Q (.bool false) w)) (
Q (.bool false) w))) w11) ∧
∃ (I23 : (Bool × Int × Unit) → World → Prop) (m24 : (Bool × Int × Unit) → World → Nat), (∃ t : Bool × Int × Unit, ([.bool true, .int .i64 (0 : Int)] : List Value) = tv [(9, .bool), (10, .int .i64)] t ∧ I23 t w) ∧
∀ (_ : Env) (t25 : Bool × Int × Unit) (w26 : World), I23 t25 w26 →
(fun w : World =>
cond (decide (t25.2.1 < (200 : Int))) (
cond t25.1 (
Calls Tryd.prog 59 #[.pointer p2] w fun e w =>
∃ g27 : Array Value, e = .returned (.agg g27) ∧
newW (zc Tryd.prog 144) 144 w fun a28 w =>
stA 1800 a28 g27 w fun w =>
∃ (I29 : (Bool × Int × Unit) → World → Prop) (m30 : (Bool × Int × Unit) → World → Nat), (∃ t : Bool × Int × Unit, ([.bool false, .int .i64 (1 : Int)] : List Value) = tv [(9, .bool), (12, .int .i64)] t ∧ I29 t w) ∧
∀ (_ : Env) (t31 : Bool × Int × Unit) (w32 : World), I29 t31 w32 →
(fun w : World =>
cond (decide (t31.2.1 < (200 : Int))) (
∃ g33 : Array Value, g33.size = 1800 ∧ RowAt w a28 g33 ∧
Calls Tryd.prog 61 #[.agg g33, .int .i64 t31.2.1] w fun e w =>
∃ (q34b : Option Addr) (q34l q34c : Nat), ∃ n35 : Int, ∃ b36 : Bool, e = .returned (.tuple #[.slice q34b q34l q34c, .int .i64 n35, .bool b36]) ∧
cond (!b36) (
Q (.bool false) w) (
∃ (I37 : (Bool × Int × Unit) → World → Prop) (m38 : (Bool × Int × Unit) → World → Nat), (∃ t : Bool × Int × Unit, ([.bool t31.1, .int .i64 (0 : Int)] : List Value) = tv [(9, .bool), (16, .int .i64)] t ∧ I37 t w) ∧
∀ (_ : Env) (t39 : Bool × Int × Unit) (w40 : World), I37 t39 w40 →
(fun w : World =>
cond (decide (t39.2.1 < ((q34l : Nat) : Int))) (
nlW q34b fun a41 =>
((0 ≤ t39.2.1 ∧ t39.2.1 < ((q34l : Nat) : Int)) ∧
∃ s42 : ByteArray, w.cell? ((a41.add (t39.2.1.toNat * 2)).add 1) = some (.string s42) ∧
Calls Tryd.prog 50 #[.pointer p2, .int .i64 t31.2.1, .string s42] w fun e w =>
∃ n43 : Int, e = .returned (.int .i64 n43) ∧
∃ t' : Bool × Int × Unit, ([.bool true, .int .i64 (IntKind.i64.wrap (t39.2.1 + (1 : Int)))] : List Value) = tv [(9, .bool), (16, .int .i64)] t' ∧ I37 t' w ∧ m38 t' w < m38 t39 w40)) (
∃ t' : Bool × Int × Unit, ([.bool t39.1, .int .i64 (IntKind.i64.wrap (t31.2.1 + (1 : Int)))] : List Value) = tv [(9, .bool), (12, .int .i64)] t' ∧ I29 t' w ∧ m30 t' w < m30 t31 w32)) w40)) (
∃ t' : Bool × Int × Unit, ([.bool t31.1, .int .i64 (IntKind.i64.wrap (t25.2.1 + (1 : Int)))] : List Value) = tv [(9, .bool), (10, .int .i64)] t' ∧ I23 t' w ∧ m24 t' w < m24 t25 w26)) w32) (
∃ t : Bool × Unit, ([.bool t25.1] : List Value) = tv [(9, .bool)] t ∧ J6 t w)) (
∃ t : Bool × Unit, ([.bool t25.1] : List Value) = tv [(9, .bool)] t ∧ J6 t w)) w26) ∧
∃ (I44 : (Int × Unit) → World → Prop) (m45 : (Int × Unit) → World → Nat), (∃ t : Int × Unit, ([.int .i64 (0 : Int)] : List Value) = tv [(8, .int .i64)] t ∧ I44 t w) ∧
∀ (_ : Env) (t46 : Int × Unit) (w47 : World), I44 t46 w47 →
(fun w : World =>
cond (decide (t46.1 < ((x1l : Nat) : Int))) (
cond (decide (t46.1 < (400 : Int))) (
nlW x1b fun a48 =>
((0 ≤ t46.1 ∧ t46.1 < ((x1l : Nat) : Int)) ∧
∃ g49 : Array Value, g49.size = 10 ∧ RowAt w (a48.add (t46.1.toNat * 10)) g49 ∧
Calls Tryd.prog 57 #[.agg g49] w fun e w =>
∃ b50 : Bool, e = .returned (.bool b50) ∧
cond b50 (
nlW x1b fun a51 =>
((0 ≤ t46.1 ∧ t46.1 < ((x1l : Nat) : Int)) ∧
∃ g52 : Array Value, g52.size = 10 ∧ RowAt w (a51.add (t46.1.toNat * 10)) g52 ∧
Calls Tryd.prog 58 #[.pointer p2, .agg g52] w fun e w =>
e = .returned (.tuple #[]) ∧
∃ t' : Int × Unit, ([.int .i64 (IntKind.i64.wrap (t46.1 + (1 : Int)))] : List Value) = tv [(8, .int .i64)] t' ∧ I44 t' w ∧ m45 t' w < m45 t46 w47)) (
∃ t' : Int × Unit, ([.int .i64 (IntKind.i64.wrap (t46.1 + (1 : Int)))] : List Value) = tv [(8, .int .i64)] t' ∧ I44 t' w ∧ m45 t' w < m45 t46 w47))) (
∃ t : Unit, ([] : List Value) = tv [] t ∧ J4 t w)) (
∃ t : Unit, ([] : List Value) = tv [] t ∧ J4 t w)) w47))
set_option maxRecDepth 100000 in
theorem W11_eq (x0 : Int) (x1b : Option Addr) (x1l x1c : Nat) (w : World) (Q : Value → World → Prop) : wFn Tryd.prog Tryd.f11 W11_plan [.int .i64 x0, .slice x1b x1l x1c] w Q = W11 x0 x1b x1l x1c w Q := by kernel_rfl
set_option maxRecDepth 100000 in
theorem W11_ok (x0 : Int) (x1b : Option Addr) (x1l x1c : Nat) (w : World) (Q : Value → World → Prop) (h : W11 x0 x1b x1l x1c w Q) : Calls Tryd.prog 11 #[.int .i64 x0, .slice x1b x1l x1c] w (fun e w' => ∃ v, e = .returned v ∧ Q v w') :=
  calls_of_wFn mixed W11_plan Tryd.func11 (by kernel_rfl) ((W11_eq x0 x1b x1l x1c w Q).mpr h)

/-! ### 59: hartix/hartixlaw9.census -/
def W59_plan : Plan := (.n .z (.n .z (.n (.n .z (.cut [4, 6, 7, 8, 9, 10, 11, 12, 13, 14, 15, 16, 17, 18, 19, 20, 21] [(4, .int .i64)] .z .z)) .z)))
def W59 (x0 : Option Addr) (w : World) (Q : Value → World → Prop) : Prop :=
newW (zc Tryd.prog 144) 144 w fun a1 w =>
∃ g2 : Array Value, bldP Tryd.prog 144 [] (.agg g2) ∧
newW (zc Tryd.prog 144) 144 w fun a3 w =>
stA 1800 a3 g2 w fun w =>
∃ (I4 : (Int × Unit) → World → Prop) (m5 : (Int × Unit) → World → Nat), (∃ t : Int × Unit, ([.int .i64 (1 : Int)] : List Value) = tv [(4, .int .i64)] t ∧ I4 t w) ∧
∀ (_ : Env) (t6 : Int × Unit) (w7 : World), I4 t6 w7 →
(fun w : World =>
cond (decide (t6.1 < (200 : Int))) (
Calls Tryd.prog 27 #[.pointer x0, .int .i64 t6.1] w fun e w =>
∃ g8 : Array Value, e = .returned (.agg g8) ∧
((0 ≤ t6.1 ∧ t6.1 < ((200 : Nat) : Int)) ∧
stA 8 (a3.add (t6.1.toNat * 8)) g8 w fun w =>
Calls Tryd.prog 55 #[.pointer x0, .int .i64 t6.1] w fun e w =>
∃ (q9b : Option Addr) (q9l q9c : Nat), e = .returned (.slice q9b q9l q9c) ∧
((0 ≤ t6.1 ∧ t6.1 < ((200 : Nat) : Int)) ∧
stC ((a3.add 1600).add (t6.1.toNat * 1)) (.slice q9b q9l q9c) w fun w =>
∃ t' : Int × Unit, ([.int .i64 (IntKind.i64.wrap (t6.1 + (1 : Int)))] : List Value) = tv [(4, .int .i64)] t' ∧ I4 t' w ∧ m5 t' w < m5 t6 w7))) (
∃ g10 : Array Value, g10.size = 1800 ∧ RowAt w a3 g10 ∧
stA 1800 a1 g10 w fun w =>
∃ g11 : Array Value, g11.size = 1800 ∧ RowAt w a1 g11 ∧
Q (.agg g11) w)) w7
set_option maxRecDepth 100000 in
theorem W59_eq (x0 : Option Addr) (w : World) (Q : Value → World → Prop) : wFn Tryd.prog Tryd.f59 W59_plan [.pointer x0] w Q = W59 x0 w Q := by kernel_rfl
set_option maxRecDepth 100000 in
theorem W59_ok (x0 : Option Addr) (w : World) (Q : Value → World → Prop) (h : W59 x0 w Q) : Calls Tryd.prog 59 #[.pointer x0] w (fun e w' => ∃ v, e = .returned v ∧ Q v w') :=
  calls_of_wFn mixed W59_plan Tryd.func59 (by kernel_rfl) ((W59_eq x0 w Q).mpr h)

/-! ### 60: (hartix/hartixlaw9.Census9).right -/
def W60_plan : Plan := (.n .z (.n .z (.n .z (.n .z (.n (.n .z (.cut [2, 6, 7, 8, 9, 10, 11, 12, 13, 14, 15, 16, 17, 18, 19, 20, 21, 22, 23, 24, 25, 26, 27, 28, 29, 30, 31, 32, 33, 34, 35, 36, 37, 38, 39, 40, 41, 42, 43, 44, 45, 46, 47, 48, 49, 50, 51, 52, 53, 54, 55, 56, 57, 58, 59, 60, 61, 62, 63, 64, 65, 66, 67, 68, 69, 70, 71, 72, 73, 74, 75, 76, 77, 78, 79, 80, 81, 82, 83, 84, 85, 86, 87, 88, 89, 90, 91, 92, 93, 94, 95, 96, 97, 98, 99, 100, 101, 102, 103, 104, 105, 106, 107, 108, 109, 110, 111, 112, 113, 114, 115, 116, 117, 118, 119, 120, 121, 122, 123, 124, 125, 126, 127, 128] [(6, .int .i64)] (.n .z (.n (.n .z (.n .z (.n (.n .z (.cut [2, 10, 11, 25, 26, 27, 28, 29, 30, 31, 32, 33, 34, 35, 36, 37, 38, 39, 40, 41, 42, 43, 44, 45, 46, 47, 48, 49, 50, 51, 52, 53, 54, 55, 56, 57, 58, 59, 60, 61, 62, 63, 64, 65, 66, 67, 68, 69, 70, 71, 72, 73, 74, 75, 76, 77, 78, 79, 80, 81, 82, 83, 84, 85, 86, 87, 88, 89, 90, 91, 92, 93, 94, 95, 96, 97, 98, 99, 100, 101, 102, 103, 104, 105, 106] [(10, .int .i64)] .z .z)) .z))) .z)) .z)) .z)))))
def W60 (x0 : Array Value) (w : World) (Q : Value → World → Prop) : Prop :=
newW x0 144 w fun a1 w =>
newW (zc Tryd.prog 210) 210 w fun a2 w =>
newW (zc Tryd.prog 210) 210 w fun a3 w =>
newW (zc Tryd.prog 210) 210 w fun a4 w =>
∃ (I5 : (Int × Unit) → World → Prop) (m6 : (Int × Unit) → World → Nat), (∃ t : Int × Unit, ([.int .i64 (1 : Int)] : List Value) = tv [(6, .int .i64)] t ∧ I5 t w) ∧
∀ (_ : Env) (t7 : Int × Unit) (w8 : World), I5 t7 w8 →
(fun w : World =>
cond (decide (t7.1 < (200 : Int))) (
∃ g9 : Array Value, g9.size = 1800 ∧ RowAt w a1 g9 ∧
Calls Tryd.prog 61 #[.agg g9, .int .i64 t7.1] w fun e w =>
∃ (q10b : Option Addr) (q10l q10c : Nat), ∃ n11 : Int, ∃ b12 : Bool, e = .returned (.tuple #[.slice q10b q10l q10c, .int .i64 n11, .bool b12]) ∧
cond (!b12) (
Q (.bool false) w) (
∃ (I13 : (Int × Unit) → World → Prop) (m14 : (Int × Unit) → World → Nat), (∃ t : Int × Unit, ([.int .i64 (0 : Int)] : List Value) = tv [(10, .int .i64)] t ∧ I13 t w) ∧
∀ (_ : Env) (t15 : Int × Unit) (w16 : World), I13 t15 w16 →
(fun w : World =>
cond (decide (t15.1 < ((q10l : Nat) : Int))) (
nlW q10b fun a17 =>
((0 ≤ t15.1 ∧ t15.1 < ((q10l : Nat) : Int)) ∧
∃ n18 : Int, w.cell? (a17.add (t15.1.toNat * 2)) = some (.int .i64 n18) ∧
cond (decide (n18 < (1 : Int))) (
Q (.bool false) w) (
cond (decide (n18 ≥ (200 : Int))) (
Q (.bool false) w) (
((0 ≤ n18 ∧ n18 < ((200 : Nat) : Int)) ∧
∃ n19 : Int, w.cell? ((a1.add (n18.toNat * 8)).add 1) = some (.int .i64 n19) ∧
cond (n19 == (0 : Int)) (
Q (.bool false) w) (
nlW q10b fun a20 =>
((0 ≤ t15.1 ∧ t15.1 < ((q10l : Nat) : Int)) ∧
∃ s21 : ByteArray, w.cell? ((a20.add (t15.1.toNat * 2)).add 1) = some (.string s21) ∧
cond (strEq s21 (⟨#[]⟩ : ByteArray)) (
Q (.bool false) w) (
nlW q10b fun a22 =>
((0 ≤ t15.1 ∧ t15.1 < ((q10l : Nat) : Int)) ∧
∃ s23 : ByteArray, w.cell? ((a22.add (t15.1.toNat * 2)).add 1) = some (.string s23) ∧
cond (strEq s23 (⟨#[46]⟩ : ByteArray)) (
Q (.bool false) w) (
nlW q10b fun a24 =>
((0 ≤ t15.1 ∧ t15.1 < ((q10l : Nat) : Int)) ∧
∃ s25 : ByteArray, w.cell? ((a24.add (t15.1.toNat * 2)).add 1) = some (.string s25) ∧
cond (strEq s25 (⟨#[46, 46]⟩ : ByteArray)) (
Q (.bool false) w) (
nlW q10b fun a26 =>
((0 ≤ t15.1 ∧ t15.1 < ((q10l : Nat) : Int)) ∧
∃ s27 : ByteArray, w.cell? ((a26.add (t15.1.toNat * 2)).add 1) = some (.string s27) ∧
cond (decide ((((s27 : ByteArray).size : Nat) : Int) > (14 : Int))) (
Q (.bool false) w) (
Calls Tryd.prog 114 #[.slice q10b q10l q10c, .int .i64 t15.1] w fun e w =>
∃ b28 : Bool, e = .returned (.bool b28) ∧
cond b28 (
Q (.bool false) w) (
((0 ≤ n18 ∧ n18 < ((200 : Nat) : Int)) ∧
∃ n29 : Int, w.cell? (a2.add (n18.toNat * 1)) = some (.int .i64 n29) ∧
((0 ≤ n18 ∧ n18 < ((200 : Nat) : Int)) ∧
stC (a2.add (n18.toNat * 1)) (.int .i64 (IntKind.i64.wrap (n29 + (1 : Int)))) w fun w =>
((0 ≤ n18 ∧ n18 < ((200 : Nat) : Int)) ∧
∃ n30 : Int, w.cell? ((a1.add (n18.toNat * 8)).add 1) = some (.int .i64 n30) ∧
cond (n30 == (1 : Int)) (
((0 ≤ t7.1 ∧ t7.1 < ((200 : Nat) : Int)) ∧
∃ n31 : Int, w.cell? (a3.add (t7.1.toNat * 1)) = some (.int .i64 n31) ∧
((0 ≤ t7.1 ∧ t7.1 < ((200 : Nat) : Int)) ∧
stC (a3.add (t7.1.toNat * 1)) (.int .i64 (IntKind.i64.wrap (n31 + (1 : Int)))) w fun w =>
((0 ≤ n18 ∧ n18 < ((200 : Nat) : Int)) ∧
stC (a4.add (n18.toNat * 1)) (.int .i64 t7.1) w fun w =>
∃ t' : Int × Unit, ([.int .i64 (IntKind.i64.wrap (t15.1 + (1 : Int)))] : List Value) = tv [(10, .int .i64)] t' ∧ I13 t' w ∧ m14 t' w < m14 t15 w16)))) (
∃ t' : Int × Unit, ([.int .i64 (IntKind.i64.wrap (t15.1 + (1 : Int)))] : List Value) = tv [(10, .int .i64)] t' ∧ I13 t' w ∧ m14 t' w < m14 t15 w16))))))))))))))))))) (
((0 ≤ t7.1 ∧ t7.1 < ((200 : Nat) : Int)) ∧
∃ n32 : Int, w.cell? ((a1.add (t7.1.toNat * 8)).add 1) = some (.int .i64 n32) ∧
cond (n32 == (1 : Int)) (
((0 ≤ t7.1 ∧ t7.1 < ((200 : Nat) : Int)) ∧
∃ n33 : Int, w.cell? ((a1.add (t7.1.toNat * 8)).add 4) = some (.int .i64 n33) ∧
cond (decide (n33 > (0 : Int))) (
cond (t7.1 != (1 : Int)) (
cond (n11 == (0 : Int)) (
Q (.bool false) w) (
∃ t' : Int × Unit, ([.int .i64 (IntKind.i64.wrap (t7.1 + (1 : Int)))] : List Value) = tv [(6, .int .i64)] t' ∧ I5 t' w ∧ m6 t' w < m6 t7 w8)) (
∃ t' : Int × Unit, ([.int .i64 (IntKind.i64.wrap (t7.1 + (1 : Int)))] : List Value) = tv [(6, .int .i64)] t' ∧ I5 t' w ∧ m6 t' w < m6 t7 w8)) (
∃ t' : Int × Unit, ([.int .i64 (IntKind.i64.wrap (t7.1 + (1 : Int)))] : List Value) = tv [(6, .int .i64)] t' ∧ I5 t' w ∧ m6 t' w < m6 t7 w8))) (
∃ t' : Int × Unit, ([.int .i64 (IntKind.i64.wrap (t7.1 + (1 : Int)))] : List Value) = tv [(6, .int .i64)] t' ∧ I5 t' w ∧ m6 t' w < m6 t7 w8)))) w16)) (
∃ g34 : Array Value, g34.size = 1800 ∧ RowAt w a1 g34 ∧
∃ g35 : Array Value, g35.size = 200 ∧ RowAt w a2 g35 ∧
∃ g36 : Array Value, g36.size = 200 ∧ RowAt w a3 g36 ∧
∃ g37 : Array Value, g37.size = 200 ∧ RowAt w a4 g37 ∧
Calls Tryd.prog 115 #[.agg g34, .agg g35, .agg g36, .agg g37] w fun e w =>
∃ b38 : Bool, e = .returned (.bool b38) ∧
Q (.bool b38) w)) w8
set_option maxRecDepth 100000 in
theorem W60_eq (x0 : Array Value) (w : World) (Q : Value → World → Prop) : wFn Tryd.prog Tryd.f60 W60_plan [.agg x0] w Q = W60 x0 w Q := by kernel_rfl
set_option maxRecDepth 100000 in
theorem W60_ok (x0 : Array Value) (w : World) (Q : Value → World → Prop) (h : W60 x0 w Q) : Calls Tryd.prog 60 #[.agg x0] w (fun e w' => ∃ v, e = .returned v ∧ Q v w') :=
  calls_of_wFn mixed W60_plan Tryd.func60 (by kernel_rfl) ((W60_eq x0 w Q).mpr h)

/-! ### 61: (hartix/hartixlaw9.Census9).entries -/
def W61_plan : Plan := (.n .z (.n .z (.n (.cut [12, 13, 14, 15, 16, 17, 18, 19, 20, 21, 22, 23, 24, 25] [(25, .bool)] .z .z) (.n (.cut [29, 30, 31, 32, 33, 34, 35, 36, 37, 38, 39, 40, 41, 42, 43, 44, 45, 46, 47, 48, 49, 50, 51, 52, 53] [(53, .bool)] .z .z) .z))))
def W61 (x0 : Array Value) (x1 : Int) (w : World) (Q : Value → World → Prop) : Prop :=
newW x0 144 w fun a1 w =>
((0 ≤ x1 ∧ x1 < ((200 : Nat) : Int)) ∧
∃ (q2b : Option Addr) (q2l q2c : Nat), w.cell? ((a1.add 1600).add (x1.toNat * 1)) = some (.slice q2b q2l q2c) ∧
∃ J3 : (Bool × Unit) → World → Prop, (∀ (_ : Env) (t4 : Bool × Unit) (w : World), J3 t4 w →
cond t4.1 (
Q (.tuple #[.slice none 0 0, .int .i64 (0 : Int), .bool (((q2l : Nat) : Int) == (0 : Int))]) w) (
∃ J5 : (Bool × Unit) → World → Prop, (∀ (_ : Env) (t6 : Bool × Unit) (w : World), J5 t6 w →
cond t6.1 (
Q (.tuple #[.slice none 0 0, .int .i64 (0 : Int), .bool false]) w) (
((0 ≤ (2 : Int) ∧ (2 : Int) ≤ ((q2l : Nat) : Int)) ∧
nlW q2b fun a7 =>
((0 ≤ (1 : Int) ∧ (1 : Int) < ((q2l : Nat) : Int)) ∧
∃ n8 : Int, w.drew.cell? (a7.add ((1 : Int).toNat * 2)) = some (.int .i64 n8) ∧
Q (.tuple #[.slice (slB q2b ((2 : Int).toNat) q2c 2) (q2l - ((2 : Int).toNat)) (q2c - ((2 : Int).toNat)), .int .i64 n8, .bool true]) w.drew)))) ∧
cond (decide (((q2l : Nat) : Int) < (2 : Int))) (
∃ t : Bool × Unit, ([.bool true] : List Value) = tv [(53, .bool)] t ∧ J5 t w) (
nlW q2b fun a9 =>
((0 ≤ (0 : Int) ∧ (0 : Int) < ((q2l : Nat) : Int)) ∧
∃ s10 : ByteArray, w.cell? ((a9.add ((0 : Int).toNat * 2)).add 1) = some (.string s10) ∧
cond (!strEq s10 (⟨#[46]⟩ : ByteArray)) (
∃ t : Bool × Unit, ([.bool true] : List Value) = tv [(53, .bool)] t ∧ J5 t w) (
nlW q2b fun a11 =>
((0 ≤ (0 : Int) ∧ (0 : Int) < ((q2l : Nat) : Int)) ∧
∃ n12 : Int, w.cell? (a11.add ((0 : Int).toNat * 2)) = some (.int .i64 n12) ∧
cond (n12 != x1) (
∃ t : Bool × Unit, ([.bool true] : List Value) = tv [(53, .bool)] t ∧ J5 t w) (
nlW q2b fun a13 =>
((0 ≤ (1 : Int) ∧ (1 : Int) < ((q2l : Nat) : Int)) ∧
∃ s14 : ByteArray, w.cell? ((a13.add ((1 : Int).toNat * 2)).add 1) = some (.string s14) ∧
∃ t : Bool × Unit, ([.bool (!strEq s14 (⟨#[46, 46]⟩ : ByteArray))] : List Value) = tv [(53, .bool)] t ∧ J5 t w)))))))) ∧
((0 ≤ x1 ∧ x1 < ((200 : Nat) : Int)) ∧
∃ n15 : Int, w.cell? ((a1.add (x1.toNat * 8)).add 1) = some (.int .i64 n15) ∧
cond (n15 != (1 : Int)) (
∃ t : Bool × Unit, ([.bool true] : List Value) = tv [(25, .bool)] t ∧ J3 t w) (
((0 ≤ x1 ∧ x1 < ((200 : Nat) : Int)) ∧
∃ n16 : Int, w.cell? ((a1.add (x1.toNat * 8)).add 4) = some (.int .i64 n16) ∧
∃ t : Bool × Unit, ([.bool (n16 == (0 : Int))] : List Value) = tv [(25, .bool)] t ∧ J3 t w))))
set_option maxRecDepth 100000 in
theorem W61_eq (x0 : Array Value) (x1 : Int) (w : World) (Q : Value → World → Prop) : wFn Tryd.prog Tryd.f61 W61_plan [.agg x0, .int .i64 x1] w Q = W61 x0 x1 w Q := by kernel_rfl
set_option maxRecDepth 100000 in
theorem W61_ok (x0 : Array Value) (x1 : Int) (w : World) (Q : Value → World → Prop) (h : W61 x0 x1 w Q) : Calls Tryd.prog 61 #[.agg x0, .int .i64 x1] w (fun e w' => ∃ v, e = .returned v ∧ Q v w') :=
  calls_of_wFn mixed W61_plan Tryd.func61 (by kernel_rfl) ((W61_eq x0 x1 w Q).mpr h)

/-! ### 62: hartix/hartixlaw9.way -/
def W62_plan : Plan := (.n .z (.n .z (.n .z (.cut [6, 7, 8, 9, 10, 11, 12, 13, 14, 15, 19, 20, 21, 22, 23, 24, 25, 26, 27, 28, 29, 30, 31, 32, 33, 34, 35, 36, 37, 38, 39, 40, 41, 42, 43, 44, 45, 46, 47, 48, 49, 50, 51, 52, 53, 54, 55, 56, 57, 58, 59, 60, 61, 62, 63, 64, 65, 66, 67, 68, 69, 70, 71, 72, 73, 74, 75, 76] [(7, .str)] (.n .z (.cut [6, 7, 8, 9, 10, 11, 12, 13, 14, 15, 19, 20, 21, 22, 23, 24, 25, 26, 27, 28, 29, 30, 31, 32, 33, 34, 35, 36, 37, 38, 39, 40, 41, 42, 43, 44, 45, 46, 47, 48, 49, 50, 51, 52, 53, 54, 55, 56, 57, 58, 59, 60, 61, 62, 63, 64, 65, 66, 67, 68, 69, 70, 71, 72, 73, 74, 75, 76] [(7, .str), (8, .int .i64), (9, .int .i64)] (.n .z (.n (.n .z (.cut [7, 10, 11, 12, 13, 14, 15, 27, 28, 29, 30, 31, 32, 33, 34, 35, 36, 37, 38, 39, 40, 41, 42, 43, 44, 45, 46, 47, 48, 49, 50, 51, 52, 53, 54, 55, 56, 57, 58, 59, 60, 61, 62, 63, 64, 65, 66, 67] [(7, .str), (10, .int .i64)] (.n .z (.cut [7, 10, 11, 12, 13, 14, 15, 27, 28, 29, 30, 31, 32, 33, 34, 35, 36, 37, 38, 39, 40, 41, 42, 43, 44, 45, 46, 47, 48, 49, 50, 51, 52, 53, 54, 55, 56, 57, 58, 59, 60, 61, 62, 63, 64, 65, 66, 67] [(7, .str), (10, .int .i64), (11, .int .i64)] (.n .z (.n (.n .z (.n .z (.cut [7, 10, 15, 42, 43, 44, 45, 46, 47, 48, 49, 50, 51, 52, 53, 54, 55, 56, 57, 58, 59, 60, 61, 62, 63, 64, 65, 66, 67] [(7, .str), (10, .int .i64), (15, .int .i64)] (.n .z (.n (.cut [48, 49, 50, 51, 52, 53, 54, 55, 56, 57, 58] [(58, .bool)] .z .z) .z)) .z))) .z)) .z)) .z)) .z)) .z)) .z))))
def W62 (x0 : Option Addr) (x1 : Array Value) (x2 : Int) (w : World) (Q : Value → World → Prop) : Prop :=
newW x1 144 w fun a1 w =>
∃ J2 : (ByteArray × Unit) → World → Prop, (∀ (_ : Env) (t3 : ByteArray × Unit) (w : World), J2 t3 w →
cond (decide ((((t3.1 : ByteArray).size : Nat) : Int) ≥ (128 : Int))) (
Q (.bool true) w) (
Calls Tryd.prog 48 #[.pointer x0, .int .i64 (1 : Int), .string t3.1] w fun e w =>
∃ n4 : Int, ∃ n5 : Int, e = .returned (.tuple #[.int .i64 n4, .int .i64 n5]) ∧
cond (n5 == (0 : Int)) (
cond (n4 == x2) (
Q (.bool true) w) (
Q (.bool (strEq t3.1 (⟨#[]⟩ : ByteArray))) w)) (
Q (.bool false) w))) ∧
∃ (I6 : (ByteArray × Int × Int × Unit) → World → Prop) (m7 : (ByteArray × Int × Int × Unit) → World → Nat), (∃ t : ByteArray × Int × Int × Unit, ([.string (⟨#[]⟩ : ByteArray), .int .i64 x2, .int .i64 (0 : Int)] : List Value) = tv [(7, .str), (8, .int .i64), (9, .int .i64)] t ∧ I6 t w) ∧
∀ (_ : Env) (t8 : ByteArray × Int × Int × Unit) (w9 : World), I6 t8 w9 →
(fun w : World =>
cond (decide (t8.2.2.1 < (200 : Int))) (
cond (t8.2.1 != (1 : Int)) (
∃ J10 : (ByteArray × Int × Unit) → World → Prop, (∀ (_ : Env) (t11 : ByteArray × Int × Unit) (w : World), J10 t11 w →
cond (t11.2.1 == (0 : Int)) (
((0 ≤ t8.2.1 ∧ t8.2.1 < ((200 : Nat) : Int)) ∧
∃ n12 : Int, w.cell? ((a1.add (t8.2.1.toNat * 8)).add 4) = some (.int .i64 n12) ∧
Q (.bool (n12 == (0 : Int))) w)) (
∃ t' : ByteArray × Int × Int × Unit, ([.string t11.1, .int .i64 t11.2.1, .int .i64 (IntKind.i64.wrap (t8.2.2.1 + (1 : Int)))] : List Value) = tv [(7, .str), (8, .int .i64), (9, .int .i64)] t' ∧ I6 t' w ∧ m7 t' w < m7 t8 w9)) ∧
∃ (I13 : (ByteArray × Int × Int × Unit) → World → Prop) (m14 : (ByteArray × Int × Int × Unit) → World → Nat), (∃ t : ByteArray × Int × Int × Unit, ([.string t8.1, .int .i64 (0 : Int), .int .i64 (1 : Int)] : List Value) = tv [(7, .str), (10, .int .i64), (11, .int .i64)] t ∧ I13 t w) ∧
∀ (_ : Env) (t15 : ByteArray × Int × Int × Unit) (w16 : World), I13 t15 w16 →
(fun w : World =>
cond (decide (t15.2.2.1 < (200 : Int))) (
cond (t15.2.1 == (0 : Int)) (
∃ g17 : Array Value, g17.size = 1800 ∧ RowAt w a1 g17 ∧
Calls Tryd.prog 61 #[.agg g17, .int .i64 t15.2.2.1] w fun e w =>
∃ (q18b : Option Addr) (q18l q18c : Nat), ∃ n19 : Int, ∃ b20 : Bool, e = .returned (.tuple #[.slice q18b q18l q18c, .int .i64 n19, .bool b20]) ∧
∃ (I21 : (ByteArray × Int × Int × Unit) → World → Prop) (m22 : (ByteArray × Int × Int × Unit) → World → Nat), (∃ t : ByteArray × Int × Int × Unit, ([.string t15.1, .int .i64 t15.2.1, .int .i64 (0 : Int)] : List Value) = tv [(7, .str), (10, .int .i64), (15, .int .i64)] t ∧ I21 t w) ∧
∀ (_ : Env) (t23 : ByteArray × Int × Int × Unit) (w24 : World), I21 t23 w24 →
(fun w : World =>
cond (decide (t23.2.2.1 < ((q18l : Nat) : Int))) (
∃ J25 : (Bool × Unit) → World → Prop, (∀ (_ : Env) (t26 : Bool × Unit) (w : World), J25 t26 w →
cond t26.1 (
nlW q18b fun a27 =>
((0 ≤ t23.2.2.1 ∧ t23.2.2.1 < ((q18l : Nat) : Int)) ∧
∃ s28 : ByteArray, w.cell? ((a27.add (t23.2.2.1.toNat * 2)).add 1) = some (.string s28) ∧
((⟨#[47]⟩ : ByteArray).size + s28.size ≤ 9223372036854775807 ∧
(((⟨#[47]⟩ : ByteArray) ++ s28).size + t23.1.size ≤ 9223372036854775807 ∧
∃ t' : ByteArray × Int × Int × Unit, ([.string (((⟨#[47]⟩ : ByteArray) ++ s28) ++ t23.1), .int .i64 t15.2.2.1, .int .i64 (IntKind.i64.wrap (t23.2.2.1 + (1 : Int)))] : List Value) = tv [(7, .str), (10, .int .i64), (15, .int .i64)] t' ∧ I21 t' w ∧ m22 t' w < m22 t23 w24)))) (
∃ t' : ByteArray × Int × Int × Unit, ([.string t23.1, .int .i64 t23.2.1, .int .i64 (IntKind.i64.wrap (t23.2.2.1 + (1 : Int)))] : List Value) = tv [(7, .str), (10, .int .i64), (15, .int .i64)] t' ∧ I21 t' w ∧ m22 t' w < m22 t23 w24)) ∧
nlW q18b fun a29 =>
((0 ≤ t23.2.2.1 ∧ t23.2.2.1 < ((q18l : Nat) : Int)) ∧
∃ n30 : Int, w.cell? (a29.add (t23.2.2.1.toNat * 2)) = some (.int .i64 n30) ∧
cond (n30 == t8.2.1) (
∃ t : Bool × Unit, ([.bool (t23.2.1 == (0 : Int))] : List Value) = tv [(58, .bool)] t ∧ J25 t w) (
∃ t : Bool × Unit, ([.bool false] : List Value) = tv [(58, .bool)] t ∧ J25 t w))) (
∃ t' : ByteArray × Int × Int × Unit, ([.string t23.1, .int .i64 t23.2.1, .int .i64 (IntKind.i64.wrap (t15.2.2.1 + (1 : Int)))] : List Value) = tv [(7, .str), (10, .int .i64), (11, .int .i64)] t' ∧ I13 t' w ∧ m14 t' w < m14 t15 w16)) w24) (
∃ t : ByteArray × Int × Unit, ([.string t15.1, .int .i64 t15.2.1] : List Value) = tv [(7, .str), (10, .int .i64)] t ∧ J10 t w)) (
∃ t : ByteArray × Int × Unit, ([.string t15.1, .int .i64 t15.2.1] : List Value) = tv [(7, .str), (10, .int .i64)] t ∧ J10 t w)) w16) (
∃ t : ByteArray × Unit, ([.string t8.1] : List Value) = tv [(7, .str)] t ∧ J2 t w)) (
∃ t : ByteArray × Unit, ([.string t8.1] : List Value) = tv [(7, .str)] t ∧ J2 t w)) w9
set_option maxRecDepth 100000 in
theorem W62_eq (x0 : Option Addr) (x1 : Array Value) (x2 : Int) (w : World) (Q : Value → World → Prop) : wFn Tryd.prog Tryd.f62 W62_plan [.pointer x0, .agg x1, .int .i64 x2] w Q = W62 x0 x1 x2 w Q := by kernel_rfl
set_option maxRecDepth 100000 in
theorem W62_ok (x0 : Option Addr) (x1 : Array Value) (x2 : Int) (w : World) (Q : Value → World → Prop) (h : W62 x0 x1 x2 w Q) : Calls Tryd.prog 62 #[.pointer x0, .agg x1, .int .i64 x2] w (fun e w' => ∃ v, e = .returned v ∧ Q v w') :=
  calls_of_wFn mixed W62_plan Tryd.func62 (by kernel_rfl) ((W62_eq x0 x1 x2 w Q).mpr h)

/-! ### 114: hartix/hartixlaw9.twice -/
def W114_plan : Plan := (.n .z (.n (.n .z (.cut [4, 5, 6, 7, 8, 9, 10, 11, 12, 13, 14, 15, 16, 17, 18, 19, 20, 21] [(5, .int .i64)] .z .z)) .z))
def W114 (x0b : Option Addr) (x0l x0c : Nat) (x1 : Int) (w : World) (Q : Value → World → Prop) : Prop :=
∃ (I1 : (Int × Unit) → World → Prop) (m2 : (Int × Unit) → World → Nat), (∃ t : Int × Unit, ([.int .i64 (0 : Int)] : List Value) = tv [(5, .int .i64)] t ∧ I1 t w) ∧
∀ (_ : Env) (t3 : Int × Unit) (w4 : World), I1 t3 w4 →
(fun w : World =>
cond (decide (t3.1 < x1)) (
nlW x0b fun a5 =>
((0 ≤ t3.1 ∧ t3.1 < ((x0l : Nat) : Int)) ∧
∃ s6 : ByteArray, w.drew.cell? ((a5.add (t3.1.toNat * 2)).add 1) = some (.string s6) ∧
nlW x0b fun a7 =>
((0 ≤ x1 ∧ x1 < ((x0l : Nat) : Int)) ∧
∃ s8 : ByteArray, w.drew.cell? ((a7.add (x1.toNat * 2)).add 1) = some (.string s8) ∧
cond (strEq s6 s8) (
Q (.bool true) w.drew) (
∃ t' : Int × Unit, ([.int .i64 (IntKind.i64.wrap (t3.1 + (1 : Int)))] : List Value) = tv [(5, .int .i64)] t' ∧ I1 t' w.drew ∧ m2 t' w.drew < m2 t3 w4)))) (
Q (.bool false) w)) w4
set_option maxRecDepth 100000 in
theorem W114_eq (x0b : Option Addr) (x0l x0c : Nat) (x1 : Int) (w : World) (Q : Value → World → Prop) : wFn Tryd.prog Tryd.f114 W114_plan [.slice x0b x0l x0c, .int .i64 x1] w Q = W114 x0b x0l x0c x1 w Q := by kernel_rfl
set_option maxRecDepth 100000 in
theorem W114_ok (x0b : Option Addr) (x0l x0c : Nat) (x1 : Int) (w : World) (Q : Value → World → Prop) (h : W114 x0b x0l x0c x1 w Q) : Calls Tryd.prog 114 #[.slice x0b x0l x0c, .int .i64 x1] w (fun e w' => ∃ v, e = .returned v ∧ Q v w') :=
  calls_of_wFn mixed W114_plan Tryd.func114 (by kernel_rfl) ((W114_eq x0b x0l x0c x1 w Q).mpr h)

/-! ### 115: (hartix/hartixlaw9.Census9).counted -/
def W115_plan : Plan := (.n .z (.n (.n .z (.cut [8, 9, 10, 11, 12, 13, 14, 15, 16, 17, 18, 19, 20, 21, 22, 23, 24, 25, 26, 27, 28, 29, 30, 31, 32, 33, 34, 35, 36, 37, 38, 39, 40, 41, 42, 43, 44, 45, 46, 47, 48, 49, 50, 51, 52, 53, 54, 55, 56, 57, 58, 59, 60, 61, 62, 63, 64, 65, 66, 67, 68, 69, 70, 71, 72, 73, 74, 75, 76, 77, 78, 79, 80, 81, 82, 83, 84, 85, 86, 87, 88, 89, 90, 91, 92, 93, 94, 95, 96, 97, 98, 99, 100, 101, 102, 103, 104, 105, 106, 107, 108, 109, 110, 111, 112, 113, 114, 115, 116, 117, 118, 119, 120, 121, 122, 123, 124, 125, 126, 127, 128, 129, 130, 131, 132, 133, 134, 135, 136, 137, 138, 139, 140, 141, 142, 143, 144, 145, 146, 147, 148, 149, 150, 151, 152, 153, 154, 155, 156, 157, 158, 159, 160] [(9, .int .i64)] (.n .z (.n (.n .z (.n .z (.n .z (.cut [8, 53, 54, 55, 56, 57, 58, 59, 60, 61, 62, 63, 64, 65, 66, 67, 68, 69, 70, 71, 72, 73, 74, 75, 76, 77, 78, 79, 80, 81, 82, 83, 84, 85, 86, 87, 88, 89, 90, 91, 92, 93, 94, 95, 96, 97, 98, 99, 100, 101, 102, 103, 104, 105, 106, 107, 108, 109, 110, 111, 112, 113, 114, 115, 116, 117, 118, 119, 120] [] .z (.cut [8, 121, 122, 123, 124, 125, 126, 127, 128, 129, 130, 131, 132] [] .z (.cut [8, 133, 134, 135, 136, 137, 138, 139, 140, 141, 142, 143, 144, 145, 146] [] .z (.n .z (.cut [14, 150, 151, 152, 153, 154, 155] [(14, .int .i64)] .z .z)))))))) .z)) .z)) .z))
def W115 (x0 : Array Value) (x1 : Array Value) (x2 : Array Value) (x3 : Array Value) (w : World) (Q : Value → World → Prop) : Prop :=
newW x0 144 w fun a1 w =>
newW x1 210 w fun a2 w =>
newW x2 210 w fun a3 w =>
newW x3 210 w fun a4 w =>
∃ (I5 : (Int × Unit) → World → Prop) (m6 : (Int × Unit) → World → Nat), (∃ t : Int × Unit, ([.int .i64 (1 : Int)] : List Value) = tv [(9, .int .i64)] t ∧ I5 t w) ∧
∀ (_ : Env) (t7 : Int × Unit) (w8 : World), I5 t7 w8 →
(fun w : World =>
cond (decide (t7.1 < (200 : Int))) (
((0 ≤ t7.1 ∧ t7.1 < ((200 : Nat) : Int)) ∧
∃ g9 : Array Value, g9.size = 8 ∧ RowAt w (a1.add (t7.1.toNat * 8)) g9 ∧
newW #[.int .i64 0, .int .i64 0, .int .i16 0, .int .i16 0, .int .i64 0, .int .i64 0, .int .i64 0, .slice none 0 0] 50 w fun a10 w =>
stA 8 a10 g9 w fun w =>
∃ n11 : Int, w.cell? (a10.add 1) = some (.int .i64 n11) ∧
cond (n11 == (0 : Int)) (
((0 ≤ t7.1 ∧ t7.1 < ((200 : Nat) : Int)) ∧
∃ n12 : Int, w.cell? (a2.add (t7.1.toNat * 1)) = some (.int .i64 n12) ∧
cond (decide (n12 > (0 : Int))) (
Q (.bool false) w) (
∃ n13 : Int, w.cell? (a10.add 4) = some (.int .i64 n13) ∧
cond (n13 != (0 : Int)) (
Q (.bool false) w) (
∃ n14 : Int, w.cell? (a10.add 5) = some (.int .i64 n14) ∧
cond (n14 != (0 : Int)) (
Q (.bool false) w) (
∃ (q15b : Option Addr) (q15l q15c : Nat), w.cell? (a10.add 7) = some (.slice q15b q15l q15c) ∧
cond (((q15l : Nat) : Int) != (0 : Int)) (
Q (.bool false) w) (
∃ t' : Int × Unit, ([.int .i64 (IntKind.i64.wrap (t7.1 + (1 : Int)))] : List Value) = tv [(9, .int .i64)] t' ∧ I5 t' w ∧ m6 t' w < m6 t7 w8)))))) (
∃ g16 : Array Value, g16.size = 1800 ∧ RowAt w a1 g16 ∧
Calls Tryd.prog 61 #[.agg g16, .int .i64 t7.1] w fun e w =>
∃ (q17b : Option Addr) (q17l q17c : Nat), ∃ n18 : Int, ∃ b19 : Bool, e = .returned (.tuple #[.slice q17b q17l q17c, .int .i64 n18, .bool b19]) ∧
∃ J20 : (Unit) → World → Prop, (∀ (_ : Env) (t21 : Unit) (w : World), J20 t21 w →
∃ J22 : (Unit) → World → Prop, (∀ (_ : Env) (t23 : Unit) (w : World), J22 t23 w →
∃ J24 : (Unit) → World → Prop, (∀ (_ : Env) (t25 : Unit) (w : World), J24 t25 w →
∃ n26 : Int, w.cell? (a10.add 6) = some (.int .i64 n26) ∧
((4096 : Int) ≠ 0 ∧
∃ J27 : (Int × Unit) → World → Prop, (∀ (_ : Env) (t28 : Int × Unit) (w : World), J27 t28 w →
∃ (q29b : Option Addr) (q29l q29c : Nat), w.cell? (a10.add 7) = some (.slice q29b q29l q29c) ∧
cond (t28.1 != ((q29l : Nat) : Int)) (
Q (.bool false) w) (
∃ t' : Int × Unit, ([.int .i64 (IntKind.i64.wrap (t7.1 + (1 : Int)))] : List Value) = tv [(9, .int .i64)] t' ∧ I5 t' w ∧ m6 t' w < m6 t7 w8)) ∧
∃ n30 : Int, w.cell? (a10.add 6) = some (.int .i64 n30) ∧
((4096 : Int) ≠ 0 ∧
cond ((n30.tmod (4096 : Int)) != (0 : Int)) (
∃ t : Int × Unit, ([.int .i64 (IntKind.i64.wrap ((IntKind.i64.wrap (n26.tdiv (4096 : Int))) + (1 : Int)))] : List Value) = tv [(14, .int .i64)] t ∧ J27 t w) (
∃ t : Int × Unit, ([.int .i64 (IntKind.i64.wrap (n26.tdiv (4096 : Int)))] : List Value) = tv [(14, .int .i64)] t ∧ J27 t w)))) ∧
∃ n31 : Int, w.cell? (a10.add 1) = some (.int .i64 n31) ∧
cond (n31 == (1 : Int)) (
∃ n32 : Int, w.cell? (a10.add 4) = some (.int .i64 n32) ∧
cond (decide (n32 > (0 : Int))) (
∃ g33 : Array Value, g33.size = 200 ∧ RowAt w a4 g33 ∧
Calls Tryd.prog 139 #[.agg g33, .int .i64 t7.1] w fun e w =>
∃ b34 : Bool, e = .returned (.bool b34) ∧
cond (!b34) (
Q (.bool false) w) (
∃ t : Unit, ([] : List Value) = tv [] t ∧ J24 t w)) (
∃ t : Unit, ([] : List Value) = tv [] t ∧ J24 t w)) (
∃ t : Unit, ([] : List Value) = tv [] t ∧ J24 t w)) ∧
cond (t7.1 != (1 : Int)) (
∃ n35 : Int, w.cell? (a10.add 4) = some (.int .i64 n35) ∧
cond (n35 == (0 : Int)) (
∃ n36 : Int, w.cell? (a10.add 5) = some (.int .i64 n36) ∧
cond (decide (n36 < (1 : Int))) (
Q (.bool false) w) (
∃ t : Unit, ([] : List Value) = tv [] t ∧ J22 t w)) (
∃ t : Unit, ([] : List Value) = tv [] t ∧ J22 t w)) (
∃ t : Unit, ([] : List Value) = tv [] t ∧ J22 t w)) ∧
cond (t7.1 == (1 : Int)) (
∃ n37 : Int, w.cell? (a10.add 1) = some (.int .i64 n37) ∧
cond (n37 != (1 : Int)) (
Q (.bool false) w) (
((0 ≤ (1 : Int) ∧ (1 : Int) < ((200 : Nat) : Int)) ∧
∃ n38 : Int, w.cell? (a2.add ((1 : Int).toNat * 1)) = some (.int .i64 n38) ∧
cond (n38 != (0 : Int)) (
Q (.bool false) w) (
∃ n39 : Int, w.cell? (a10.add 4) = some (.int .i64 n39) ∧
((0 ≤ (1 : Int) ∧ (1 : Int) < ((200 : Nat) : Int)) ∧
∃ n40 : Int, w.cell? (a3.add ((1 : Int).toNat * 1)) = some (.int .i64 n40) ∧
cond (n39 != (IntKind.i64.wrap ((1 : Int) + n40))) (
Q (.bool false) w) (
cond (n18 != (1 : Int)) (
Q (.bool false) w) (
∃ t : Unit, ([] : List Value) = tv [] t ∧ J20 t w))))))) (
∃ n41 : Int, w.cell? (a10.add 1) = some (.int .i64 n41) ∧
cond (n41 == (1 : Int)) (
((0 ≤ t7.1 ∧ t7.1 < ((200 : Nat) : Int)) ∧
∃ n42 : Int, w.drew.cell? (a2.add (t7.1.toNat * 1)) = some (.int .i64 n42) ∧
cond (decide (n42 > (1 : Int))) (
Q (.bool false) w.drew) (
∃ n43 : Int, w.drew.cell? (a10.add 4) = some (.int .i64 n43) ∧
((0 ≤ t7.1 ∧ t7.1 < ((200 : Nat) : Int)) ∧
∃ n44 : Int, w.drew.cell? (a2.add (t7.1.toNat * 1)) = some (.int .i64 n44) ∧
cond (!((n43 == (0 : Int)) == (n44 == (0 : Int)))) (
Q (.bool false) w.drew) (
∃ n45 : Int, w.drew.cell? (a10.add 4) = some (.int .i64 n45) ∧
cond (decide (n45 > (0 : Int))) (
∃ n46 : Int, w.drew.cell? (a10.add 4) = some (.int .i64 n46) ∧
((0 ≤ t7.1 ∧ t7.1 < ((200 : Nat) : Int)) ∧
∃ n47 : Int, w.drew.cell? (a3.add (t7.1.toNat * 1)) = some (.int .i64 n47) ∧
cond (n46 != (IntKind.i64.wrap ((1 : Int) + n47))) (
Q (.bool false) w.drew) (
((0 ≤ t7.1 ∧ t7.1 < ((200 : Nat) : Int)) ∧
∃ n48 : Int, w.drew.cell? (a4.add (t7.1.toNat * 1)) = some (.int .i64 n48) ∧
cond (n18 != n48) (
Q (.bool false) w.drew) (
∃ t : Unit, ([] : List Value) = tv [] t ∧ J20 t w.drew))))) (
∃ t : Unit, ([] : List Value) = tv [] t ∧ J20 t w.drew)))))) (
∃ n49 : Int, w.drew.cell? (a10.add 4) = some (.int .i64 n49) ∧
((0 ≤ t7.1 ∧ t7.1 < ((200 : Nat) : Int)) ∧
∃ n50 : Int, w.drew.cell? (a2.add (t7.1.toNat * 1)) = some (.int .i64 n50) ∧
cond (n49 != n50) (
Q (.bool false) w.drew) (
∃ t : Unit, ([] : List Value) = tv [] t ∧ J20 t w.drew))))))) (
Q (.bool true) w)) w8
set_option maxRecDepth 100000 in
theorem W115_eq (x0 : Array Value) (x1 : Array Value) (x2 : Array Value) (x3 : Array Value) (w : World) (Q : Value → World → Prop) : wFn Tryd.prog Tryd.f115 W115_plan [.agg x0, .agg x1, .agg x2, .agg x3] w Q = W115 x0 x1 x2 x3 w Q := by kernel_rfl
set_option maxRecDepth 100000 in
theorem W115_ok (x0 : Array Value) (x1 : Array Value) (x2 : Array Value) (x3 : Array Value) (w : World) (Q : Value → World → Prop) (h : W115 x0 x1 x2 x3 w Q) : Calls Tryd.prog 115 #[.agg x0, .agg x1, .agg x2, .agg x3] w (fun e w' => ∃ v, e = .returned v ∧ Q v w') :=
  calls_of_wFn mixed W115_plan Tryd.func115 (by kernel_rfl) ((W115_eq x0 x1 x2 x3 w Q).mpr h)

/-! ### 139: hartix/hartixlaw9.rooted -/
def W139_plan : Plan := (.n .z (.n (.n .z (.cut [1, 4, 5, 6, 7, 8, 9, 10, 11, 12, 13, 14, 15, 16, 17, 18, 19, 20] [(1, .int .i64), (5, .int .i64)] .z .z)) .z))
def W139 (x0 : Array Value) (x1 : Int) (w : World) (Q : Value → World → Prop) : Prop :=
newW x0 210 w fun a1 w =>
∃ (I2 : (Int × Int × Unit) → World → Prop) (m3 : (Int × Int × Unit) → World → Nat), (∃ t : Int × Int × Unit, ([.int .i64 x1, .int .i64 (0 : Int)] : List Value) = tv [(1, .int .i64), (5, .int .i64)] t ∧ I2 t w) ∧
∀ (_ : Env) (t4 : Int × Int × Unit) (w5 : World), I2 t4 w5 →
(fun w : World =>
cond (decide (t4.2.1 < (200 : Int))) (
cond (t4.1 == (1 : Int)) (
Q (.bool true) w) (
((0 ≤ t4.1 ∧ t4.1 < ((200 : Nat) : Int)) ∧
∃ n6 : Int, w.cell? (a1.add (t4.1.toNat * 1)) = some (.int .i64 n6) ∧
cond (decide (n6 < (1 : Int))) (
Q (.bool false) w) (
cond (decide (n6 ≥ (200 : Int))) (
Q (.bool false) w) (
∃ t' : Int × Int × Unit, ([.int .i64 n6, .int .i64 (IntKind.i64.wrap (t4.2.1 + (1 : Int)))] : List Value) = tv [(1, .int .i64), (5, .int .i64)] t' ∧ I2 t' w ∧ m3 t' w < m3 t4 w5))))) (
Q (.bool false) w)) w5
set_option maxRecDepth 100000 in
theorem W139_eq (x0 : Array Value) (x1 : Int) (w : World) (Q : Value → World → Prop) : wFn Tryd.prog Tryd.f139 W139_plan [.agg x0, .int .i64 x1] w Q = W139 x0 x1 w Q := by kernel_rfl
set_option maxRecDepth 100000 in
theorem W139_ok (x0 : Array Value) (x1 : Int) (w : World) (Q : Value → World → Prop) (h : W139 x0 x1 w Q) : Calls Tryd.prog 139 #[.agg x0, .int .i64 x1] w (fun e w' => ∃ v, e = .returned v ∧ Q v w') :=
  calls_of_wFn mixed W139_plan Tryd.func139 (by kernel_rfl) ((W139_eq x0 x1 w Q).mpr h)

end Go.Proofs.YthkcdkldpbndnaaDoor
