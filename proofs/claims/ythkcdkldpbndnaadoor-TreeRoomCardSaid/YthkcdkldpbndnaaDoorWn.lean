/- The walk's functions of this seat, printed by a program of mine (wgen.py) out of Lean's own print of the loaded functions; each is tied to the loaded function by the kernel. No condition. -/
import Derived.Test.YthkcdkldpbndnaaDoorRows
import Derived.Test.YthkcdkldpbndnaaDoorHz
import Derived.Test.YthkcdkldpbndnaaDoorWs
set_option linter.unusedVariables false
namespace Go.Proofs.YthkcdkldpbndnaaDoor
open Go.RowKit Go.Hx
/-! ### 7: hartix/hartixlaw9.TreeNobody -/
def W7_plan : Plan := (.n .z (.n .z (.n .z (.n (.n .z (.cut [2, 5, 6, 7, 8, 9, 10, 19, 20, 21, 22, 23, 24, 25, 26, 27, 28, 29, 30, 31, 32, 33, 34, 35, 36, 37, 38, 39, 40, 41, 42, 43, 44, 45, 46, 47, 48, 49, 50, 51, 52, 53, 54, 55, 56, 57, 58, 59, 60, 61, 62, 63, 64, 65, 66, 67, 68, 69, 70, 71, 72, 73, 74, 75, 76, 77, 78, 79, 80, 81, 82, 83, 84, 85, 86, 87, 88, 89, 90, 91, 92, 93, 94, 95, 96, 97, 98, 99, 100, 101, 102, 103, 104, 105, 106, 107, 108, 109, 110, 111, 112, 113, 114, 115, 116, 117, 118, 119, 120, 121, 122, 123, 124, 125, 126, 127, 128, 129, 130, 131, 132, 133, 134, 135, 136, 137, 138, 139, 140, 141, 142, 143, 144, 145, 146, 147, 148, 149, 150, 151, 152, 153] [(5, .int .i64)] .z .z)) .z))))
def W7 (x0 : Array Value) (w : World) (Q : Value → World → Prop) : Prop :=
newW x0 126 w fun a1 w =>
∃ g2 : Array Value, bldP Tryd.prog 123 [] (.agg g2) ∧
newW g2 123 w fun a3 w =>
∃ g4 : Array Value, bslP Tryd.prog 127 2 [(0, .pointer none), (1, .pointer (some a3))] g4 40 ∧
newW g4 40 w fun a5 w =>
∃ (I6 : (Int × Unit) → World → Prop) (m7 : (Int × Unit) → World → Nat), (∃ t : Int × Unit, ([.int .i64 (0 : Int)] : List Value) = tv [(5, .int .i64)] t ∧ I6 t w) ∧
∀ (_ : Env) (t8 : Int × Unit) (w9 : World), I6 t8 w9 →
(fun w : World =>
cond (decide (t8.1 < (2 : Int))) (
nlW (some a5) fun a10 =>
((0 ≤ t8.1 ∧ t8.1 < ((2 : Nat) : Int)) ∧
∃ p11 : Option Addr, w.cell? (a10.add (t8.1.toNat * 1)) = some (.pointer p11) ∧
∃ n12 : Int, w.cell? (a1.add 1) = some (.int .i64 n12) ∧
∃ s13 : ByteArray, w.cell? (a1.add 3) = some (.string s13) ∧
Calls Tryd.prog 48 #[.pointer p11, .int .i64 n12, .string s13] w fun e w =>
∃ n14 : Int, ∃ n15 : Int, e = .returned (.tuple #[.int .i64 n14, .int .i64 n15]) ∧
∃ n16 : Int, w.cell? (a1.add 1) = some (.int .i64 n16) ∧
∃ s17 : ByteArray, w.cell? (a1.add 3) = some (.string s17) ∧
∃ n18 : Int, w.cell? (a1.add 4) = some (.int .i64 n18) ∧
∃ n19 : Int, w.cell? (a1.add 5) = some (.int .i16 n19) ∧
∃ n20 : Int, w.cell? (a1.add 6) = some (.int .i16 n20) ∧
Calls Tryd.prog 24 #[.pointer p11, .int .i64 n16, .string s17, .int .i64 n18, .int .i16 n19, .int .i16 n20] w fun e w =>
∃ n21 : Int, ∃ n22 : Int, e = .returned (.tuple #[.int .i64 n21, .int .i64 n22]) ∧
cond (n14 != (0 : Int)) (
Q (.bool false) w) (
cond (n21 != (0 : Int)) (
Q (.bool false) w) (
cond (n15 != (3 : Int)) (
Q (.bool false) w) (
cond (n22 != (3 : Int)) (
Q (.bool false) w) (
∃ n23 : Int, w.cell? (a1.add 2) = some (.int .i64 n23) ∧
∃ n24 : Int, w.cell? (a1.add 1) = some (.int .i64 n24) ∧
∃ s25 : ByteArray, w.cell? (a1.add 3) = some (.string s25) ∧
Calls Tryd.prog 49 #[.pointer p11, .int .i64 n23, .int .i64 n24, .string s25] w fun e w =>
∃ n26 : Int, e = .returned (.int .i64 n26) ∧
cond (n26 != (3 : Int)) (
Q (.bool false) w) (
∃ n27 : Int, w.cell? (a1.add 1) = some (.int .i64 n27) ∧
∃ s28 : ByteArray, w.cell? (a1.add 3) = some (.string s28) ∧
Calls Tryd.prog 50 #[.pointer p11, .int .i64 n27, .string s28] w fun e w =>
∃ n29 : Int, e = .returned (.int .i64 n29) ∧
cond (n29 != (3 : Int)) (
Q (.bool false) w) (
∃ n30 : Int, w.cell? (a1.add 2) = some (.int .i64 n30) ∧
∃ n31 : Int, w.cell? (a1.add 7) = some (.int .i64 n31) ∧
∃ n32 : Int, w.cell? (a1.add 8) = some (.int .i64 n32) ∧
Calls Tryd.prog 28 #[.pointer p11, .int .i64 n30, .int .i64 n31, .int .i64 n32] w fun e w =>
∃ (q33b : Option Addr) (q33l q33c : Nat), e = .returned (.slice q33b q33l q33c) ∧
cond (((q33l : Nat) : Int) != (0 : Int)) (
Q (.bool false) w) (
∃ n34 : Int, w.cell? (a1.add 2) = some (.int .i64 n34) ∧
∃ n35 : Int, w.cell? (a1.add 7) = some (.int .i64 n35) ∧
∃ (q36b : Option Addr) (q36l q36c : Nat), w.cell? (a1.add 9) = some (.slice q36b q36l q36c) ∧
Calls Tryd.prog 25 #[.pointer p11, .int .i64 n34, .int .i64 n35, .slice q36b q36l q36c] w fun e w =>
∃ n37 : Int, e = .returned (.int .i64 n37) ∧
cond (n37 != (0 : Int)) (
Q (.bool false) w) (
∃ n38 : Int, w.cell? (a1.add 2) = some (.int .i64 n38) ∧
Calls Tryd.prog 51 #[.pointer p11, .int .i64 n38] w fun e w =>
∃ n39 : Int, e = .returned (.int .i64 n39) ∧
cond (n39 != (3 : Int)) (
Q (.bool false) w) (
∃ n40 : Int, w.cell? (a1.add 2) = some (.int .i64 n40) ∧
Calls Tryd.prog 52 #[.pointer p11, .int .i64 n40] w fun e w =>
∃ n41 : Int, e = .returned (.int .i64 n41) ∧
cond (n41 != (3 : Int)) (
Q (.bool false) w) (
∃ n42 : Int, w.cell? (a1.add 2) = some (.int .i64 n42) ∧
Calls Tryd.prog 53 #[.pointer p11, .int .i64 n42] w fun e w =>
∃ n43 : Int, e = .returned (.int .i64 n43) ∧
cond (n43 != (3 : Int)) (
Q (.bool false) w) (
∃ n44 : Int, w.cell? (a1.add 2) = some (.int .i64 n44) ∧
Calls Tryd.prog 54 #[.pointer p11, .int .i64 n44] w fun e w =>
∃ g45 : Array Value, e = .returned (.agg g45) ∧
∃ g46 : Array Value, bldP Tryd.prog 102 [] (.agg g46) ∧
∃ b47 : Bool, AggEq Tryd.prog 102 g45 g46 b47 ∧
cond (!b47) (
Q (.bool false) w) (
∃ n48 : Int, w.cell? (a1.add 2) = some (.int .i64 n48) ∧
Calls Tryd.prog 27 #[.pointer p11, .int .i64 n48] w fun e w =>
∃ g49 : Array Value, e = .returned (.agg g49) ∧
∃ n50 : Int, g49[0]? = some (.int .i64 n50) ∧
cond (n50 != (0 : Int)) (
Q (.bool false) w) (
∃ n51 : Int, w.cell? (a1.add 2) = some (.int .i64 n51) ∧
Calls Tryd.prog 55 #[.pointer p11, .int .i64 n51] w fun e w =>
∃ (q52b : Option Addr) (q52l q52c : Nat), e = .returned (.slice q52b q52l q52c) ∧
cond (((q52l : Nat) : Int) != (0 : Int)) (
Q (.bool false) w) (
Calls Tryd.prog 56 #[.pointer p11] w fun e w =>
∃ n53 : Int, e = .returned (.int .i64 n53) ∧
cond (n53 != (0 : Int)) (
Q (.bool false) w) (
∃ t' : Int × Unit, ([.int .i64 (IntKind.i64.wrap (t8.1 + (1 : Int)))] : List Value) = tv [(5, .int .i64)] t' ∧ I6 t' w ∧ m7 t' w < m7 t8 w9))))))))))))))))) (
Calls Tryd.prog 45 #[.pointer none] w fun e w =>
∃ p54 : Option Addr, ∃ n55 : Int, e = .returned (.tuple #[.pointer p54, .int .i64 n55]) ∧
∃ g56 : Array Value, bldP Tryd.prog 137 [] (.agg g56) ∧
newW g56 137 w fun a57 w =>
Calls Tryd.prog 45 #[.pointer (some a57)] w fun e w =>
∃ p58 : Option Addr, ∃ n59 : Int, e = .returned (.tuple #[.pointer p58, .int .i64 n59]) ∧
cond p54.isNone (
cond p58.isNone (
cond (n55 == (3 : Int)) (
Q (.bool (n59 == (3 : Int))) w) (
Q (.bool false) w)) (
Q (.bool false) w)) (
Q (.bool false) w))) w9
set_option maxRecDepth 100000 in
theorem W7_eq (x0 : Array Value) (w : World) (Q : Value → World → Prop) : wFn Tryd.prog Tryd.f7 W7_plan [.agg x0] w Q = W7 x0 w Q := by kernel_rfl
set_option maxRecDepth 100000 in
theorem W7_ok (x0 : Array Value) (w : World) (Q : Value → World → Prop) (h : W7 x0 w Q) : Calls Tryd.prog 7 #[.agg x0] w (fun e w' => ∃ v, e = .returned v ∧ Q v w') :=
  calls_of_wFn mixed W7_plan Tryd.func7 (by kernel_rfl) ((W7_eq x0 w Q).mpr h)

/-! ### 24: (*hartix/tree.Tree).Make -/
def W24_plan : Plan := (.n .z (.n .z (.n .z (.n .z (.n .z (.n .z (.n .z (.n .z (.cut [21, 57, 58, 59, 60] [(21, .int .i64)] .z (.n (.cut [61, 62, 63, 64, 65, 66, 67, 68, 69, 70, 71] [(61, .bool)] .z (.n .z (.n .z (.n .z (.n .z (.n .z (.cut [84, 85, 86, 87, 88, 89, 90, 91, 92, 93, 94] [(84, .bool)] .z .z))))))) (.n .z (.cut [118, 119, 120, 121, 122, 123, 124, 125, 126, 127, 128, 129, 130, 131, 132, 133, 134, 135, 136, 137, 138, 139, 140, 141, 142, 143, 144, 145, 146, 147] [] .z .z))))))))))))
def W24 (x0 : Option Addr) (x1 : Int) (x2 : ByteArray) (x3 : Int) (x4 : Int) (x5 : Int) (w : World) (Q : Value → World → Prop) : Prop :=
newW #[.int .i64 0] 3 w fun a1 w =>
newW #[.int .i64 0] 43 w fun a2 w =>
Calls Tryd.prog 73 #[.pointer x0, .int .i64 x1, .string x2] w fun e w =>
∃ n3 : Int, ∃ s4 : ByteArray, ∃ n5 : Int, e = .returned (.tuple #[.int .i64 n3, .string s4, .int .i64 n5]) ∧
cond (n5 != (0 : Int)) (
stC a1 (.int .i64 (0 : Int)) w fun w =>
stC a2 (.int .i64 n5) w fun w =>
∃ n6 : Int, w.cell? a1 = some (.int .i64 n6) ∧
∃ n7 : Int, w.cell? a2 = some (.int .i64 n7) ∧
Q (.tuple #[.int .i64 n6, .int .i64 n7]) w) (
nlW x0 fun a8 =>
((0 ≤ n3 ∧ n3 < ((200 : Nat) : Int)) ∧
Calls Tryd.prog 75 #[.pointer x0] w fun e w =>
∃ n9 : Int, e = .returned (.int .i64 n9) ∧
stC a1 (.int .i64 n9) w fun w =>
Calls Tryd.prog 76 #[.pointer x0, .pointer (some ((a8.add 1).add (n3.toNat * 7))), .string s4] w fun e w =>
∃ n10 : Int, ∃ n11 : Int, ∃ b12 : Bool, e = .returned (.tuple #[.int .i64 n10, .int .i64 n11, .bool b12]) ∧
Calls Tryd.prog 77 #[.pointer x0, .pointer (some ((a8.add 1).add (n3.toNat * 7)))] w fun e w =>
∃ n13 : Int, ∃ b14 : Bool, e = .returned (.tuple #[.int .i64 n13, .bool b14]) ∧
∃ J15 : (Int × Unit) → World → Prop, (∀ (_ : Env) (t16 : Int × Unit) (w : World), J15 t16 w →
∃ J17 : (Bool × Unit) → World → Prop, (∀ (_ : Env) (t18 : Bool × Unit) (w : World), J17 t18 w →
cond t18.1 (
∃ n19 : Int, w.cell? a1 = some (.int .i64 n19) ∧
stC a1 (.int .i64 n19) w fun w =>
stC a2 (.int .i64 (191 : Int)) w fun w =>
CallsR Tryd.prog 74 #[.pointer (some a2), .pointer (some a1)] w fun w =>
∃ n20 : Int, w.cell? a1 = some (.int .i64 n20) ∧
∃ n21 : Int, w.cell? a2 = some (.int .i64 n21) ∧
Q (.tuple #[.int .i64 n20, .int .i64 n21]) w) (
∃ n22 : Int, w.cell? (((a8.add 1).add (n3.toNat * 7)).add 3) = some (.int .i64 n22) ∧
cond (n22 == (0 : Int)) (
∃ n23 : Int, w.cell? a1 = some (.int .i64 n23) ∧
stC a1 (.int .i64 n23) w fun w =>
stC a2 (.int .i64 (186 : Int)) w fun w =>
CallsR Tryd.prog 74 #[.pointer (some a2), .pointer (some a1)] w fun w =>
∃ n24 : Int, w.cell? a1 = some (.int .i64 n24) ∧
∃ n25 : Int, w.cell? a2 = some (.int .i64 n25) ∧
Q (.tuple #[.int .i64 n24, .int .i64 n25]) w) (
cond b12 (
∃ n26 : Int, w.cell? a1 = some (.int .i64 n26) ∧
stC a1 (.int .i64 n26) w fun w =>
stC a2 (.int .i64 (185 : Int)) w fun w =>
CallsR Tryd.prog 74 #[.pointer (some a2), .pointer (some a1)] w fun w =>
∃ n27 : Int, w.cell? a1 = some (.int .i64 n27) ∧
∃ n28 : Int, w.cell? a2 = some (.int .i64 n28) ∧
Q (.tuple #[.int .i64 n27, .int .i64 n28]) w) (
∃ J29 : (Bool × Unit) → World → Prop, (∀ (_ : Env) (t30 : Bool × Unit) (w : World), J29 t30 w →
cond t30.1 (
∃ n31 : Int, w.cell? a1 = some (.int .i64 n31) ∧
stC a1 (.int .i64 n31) w fun w =>
stC a2 (.int .i64 (190 : Int)) w fun w =>
CallsR Tryd.prog 74 #[.pointer (some a2), .pointer (some a1)] w fun w =>
∃ n32 : Int, w.cell? a1 = some (.int .i64 n32) ∧
∃ n33 : Int, w.cell? a2 = some (.int .i64 n33) ∧
Q (.tuple #[.int .i64 n32, .int .i64 n33]) w) (
∃ n34 : Int, w.cell? a1 = some (.int .i64 n34) ∧
cond (n34 == (0 : Int)) (
∃ n35 : Int, w.cell? a1 = some (.int .i64 n35) ∧
stC a1 (.int .i64 n35) w fun w =>
stC a2 (.int .i64 (188 : Int)) w fun w =>
CallsR Tryd.prog 74 #[.pointer (some a2), .pointer (some a1)] w fun w =>
∃ n36 : Int, w.cell? a1 = some (.int .i64 n36) ∧
∃ n37 : Int, w.cell? a2 = some (.int .i64 n37) ∧
Q (.tuple #[.int .i64 n36, .int .i64 n37]) w) (
cond (!b14) (
∃ n38 : Int, w.cell? a1 = some (.int .i64 n38) ∧
stC a1 (.int .i64 n38) w fun w =>
stC a2 (.int .i64 (187 : Int)) w fun w =>
CallsR Tryd.prog 74 #[.pointer (some a2), .pointer (some a1)] w fun w =>
∃ n39 : Int, w.cell? a1 = some (.int .i64 n39) ∧
∃ n40 : Int, w.cell? a2 = some (.int .i64 n40) ∧
Q (.tuple #[.int .i64 n39, .int .i64 n40]) w) (
nlW x0 fun a41 =>
∃ p42 : Option Addr, w.cell? a41 = some (.pointer p42) ∧
Calls Tryd.prog 68 #[.pointer p42] w fun e w =>
∃ n43 : Int, e = .returned (.int .i64 n43) ∧
cond (decide (n43 < t16.1)) (
∃ n44 : Int, w.cell? a1 = some (.int .i64 n44) ∧
stC a1 (.int .i64 n44) w fun w =>
stC a2 (.int .i64 (189 : Int)) w fun w =>
CallsR Tryd.prog 74 #[.pointer (some a2), .pointer (some a1)] w fun w =>
∃ n45 : Int, w.cell? a1 = some (.int .i64 n45) ∧
∃ n46 : Int, w.cell? a2 = some (.int .i64 n46) ∧
Q (.tuple #[.int .i64 n45, .int .i64 n46]) w) (
∃ n47 : Int, w.drew.cell? a1 = some (.int .i64 n47) ∧
nlW x0 fun a48 =>
((0 ≤ n47 ∧ n47 < ((200 : Nat) : Int)) ∧
∃ J49 : (Unit) → World → Prop, (∀ (_ : Env) (t50 : Unit) (w : World), J49 t50 w →
∃ n51 : Int, w.cell? a1 = some (.int .i64 n51) ∧
∃ g52 : Array Value, bldP Tryd.prog 23 [(0, .int .i64 n51), (1, .string s4)] (.agg g52) ∧
Calls Tryd.prog 79 #[.pointer x0, .pointer (some ((a8.add 1).add (n3.toNat * 7))), .agg g52] w fun e w =>
e = .returned (.tuple #[]) ∧
∃ n53 : Int, w.cell? a1 = some (.int .i64 n53) ∧
stC a1 (.int .i64 n53) w fun w =>
stC a2 (.int .i64 (0 : Int)) w fun w =>
CallsR Tryd.prog 74 #[.pointer (some a2), .pointer (some a1)] w fun w =>
∃ n54 : Int, w.cell? a1 = some (.int .i64 n54) ∧
∃ n55 : Int, w.cell? a2 = some (.int .i64 n55) ∧
Q (.tuple #[.int .i64 n54, .int .i64 n55]) w) ∧
cond (x3 == (1 : Int)) (
∃ n56 : Int, w.drew.cell? a1 = some (.int .i64 n56) ∧
Calls Tryd.prog 78 #[.pointer x0, .int .i64 n56, .int .i64 n3] w.drew fun e w =>
e = .returned (.tuple #[]) ∧
∃ n57 : Int, w.cell? (((a8.add 1).add (n3.toNat * 7)).add 3) = some (.int .i64 n57) ∧
stC (((a8.add 1).add (n3.toNat * 7)).add 3) (.int .i64 (IntKind.i64.wrap (n57 + (1 : Int)))) w fun w =>
∃ t : Unit, ([] : List Value) = tv [] t ∧ J49 t w) (
cond (x3 == (3 : Int)) (
∃ g58 : Array Value, bldP Tryd.prog 118 [(0, .int .i64 x3), (3, .int .i64 (1 : Int)), (1, .int .i16 x4), (2, .int .i16 x5)] (.agg g58) ∧
stA 6 ((a48.add 1).add (n47.toNat * 7)) g58 w.drew fun w =>
∃ t : Unit, ([] : List Value) = tv [] t ∧ J49 t w) (
∃ g59 : Array Value, bldP Tryd.prog 118 [(0, .int .i64 x3), (3, .int .i64 (1 : Int))] (.agg g59) ∧
stA 6 ((a48.add 1).add (n47.toNat * 7)) g59 w.drew fun w =>
∃ t : Unit, ([] : List Value) = tv [] t ∧ J49 t w)))))))) ∧
cond (x3 == (1 : Int)) (
∃ n60 : Int, w.cell? (((a8.add 1).add (n3.toNat * 7)).add 3) = some (.int .i64 n60) ∧
∃ t : Bool × Unit, ([.bool (decide (n60 ≥ (32767 : Int)))] : List Value) = tv [(84, .bool)] t ∧ J29 t w) (
∃ t : Bool × Unit, ([.bool false] : List Value) = tv [(84, .bool)] t ∧ J29 t w))))) ∧
cond (x3 != (1 : Int)) (
cond (x3 != (2 : Int)) (
∃ t : Bool × Unit, ([.bool (x3 != (3 : Int))] : List Value) = tv [(61, .bool)] t ∧ J17 t w) (
∃ t : Bool × Unit, ([.bool false] : List Value) = tv [(61, .bool)] t ∧ J17 t w)) (
∃ t : Bool × Unit, ([.bool false] : List Value) = tv [(61, .bool)] t ∧ J17 t w)) ∧
cond (x3 == (1 : Int)) (
∃ t : Int × Unit, ([.int .i64 (IntKind.i64.wrap (n13 + (1 : Int)))] : List Value) = tv [(21, .int .i64)] t ∧ J15 t w) (
∃ t : Int × Unit, ([.int .i64 n13] : List Value) = tv [(21, .int .i64)] t ∧ J15 t w)))
set_option maxRecDepth 100000 in
theorem W24_eq (x0 : Option Addr) (x1 : Int) (x2 : ByteArray) (x3 : Int) (x4 : Int) (x5 : Int) (w : World) (Q : Value → World → Prop) : wFn Tryd.prog Tryd.f24 W24_plan [.pointer x0, .int .i64 x1, .string x2, .int .i64 x3, .int .i16 x4, .int .i16 x5] w Q = W24 x0 x1 x2 x3 x4 x5 w Q := by kernel_rfl
set_option maxRecDepth 100000 in
theorem W24_ok (x0 : Option Addr) (x1 : Int) (x2 : ByteArray) (x3 : Int) (x4 : Int) (x5 : Int) (w : World) (Q : Value → World → Prop) (h : W24 x0 x1 x2 x3 x4 x5 w Q) : Calls Tryd.prog 24 #[.pointer x0, .int .i64 x1, .string x2, .int .i64 x3, .int .i16 x4, .int .i16 x5] w (fun e w' => ∃ v, e = .returned v ∧ Q v w') :=
  calls_of_wFn mixed W24_plan Tryd.func24 (by kernel_rfl) ((W24_eq x0 x1 x2 x3 x4 x5 w Q).mpr h)

/-! ### 25: (*hartix/tree.Tree).Write -/
def W25_plan : Plan := (.n .z (.n .z (.n .z (.n .z (.n .z (.n (.cut [10, 55, 56, 57, 58, 59, 60, 61, 62, 63, 64, 65, 66, 67, 68, 69, 70, 71, 72, 73, 74, 75, 76] [(10, .int .i64)] .z .z) .z))))))
def W25 (x0 : Option Addr) (x1 : Int) (x2 : Int) (x3b : Option Addr) (x3l x3c : Nat) (w : World) (Q : Value → World → Prop) : Prop :=
Calls Tryd.prog 80 #[.pointer x0] w fun e w =>
∃ b1 : Bool, e = .returned (.bool b1) ∧
cond (!b1) (
Q (.int .i64 (0 : Int)) w) (
Calls Tryd.prog 81 #[.pointer x0, .int .i64 x1] w fun e w =>
∃ b2 : Bool, e = .returned (.bool b2) ∧
cond (!b2) (
Q (.int .i64 (-1 : Int)) w) (
nlW x0 fun a3 =>
((0 ≤ x1 ∧ x1 < ((200 : Nat) : Int)) ∧
∃ n4 : Int, w.cell? ((a3.add 1).add (x1.toNat * 7)) = some (.int .i64 n4) ∧
cond (n4 != (2 : Int)) (
Q (.int .i64 (-1 : Int)) w) (
cond (decide (x2 < (0 : Int))) (
Q (.int .i64 (-1 : Int)) w) (
nlW x0 fun a5 =>
((0 ≤ x1 ∧ x1 < ((200 : Nat) : Int)) ∧
∃ n6 : Int, w.cell? (((a5.add 1).add (x1.toNat * 7)).add 5) = some (.int .i64 n6) ∧
cond (decide (x2 > n6)) (
Q (.int .i64 (-1 : Int)) w) (
nlW x0 fun a7 =>
((0 ≤ x1 ∧ x1 < ((200 : Nat) : Int)) ∧
∃ (I8 : (Int × Unit) → World → Prop) (m9 : (Int × Unit) → World → Nat), (∃ t : Int × Unit, ([.int .i64 (if (IntKind.i64.wrap ((262144 : Int) - x2)) < ((x3l : Nat) : Int) then (IntKind.i64.wrap ((262144 : Int) - x2)) else ((x3l : Nat) : Int))] : List Value) = tv [(10, .int .i64)] t ∧ I8 t w) ∧
∀ (_ : Env) (t10 : Int × Unit) (w11 : World), I8 t10 w11 →
(fun w : World =>
∃ (q12b : Option Addr) (q12l q12c : Nat), w.cell? (((a7.add 1).add (x1.toNat * 7)).add 6) = some (.slice q12b q12l q12c) ∧
cond (decide ((IntKind.i64.wrap (((q12l : Nat) : Int) * (4096 : Int))) < (IntKind.i64.wrap (x2 + t10.1)))) (
Calls Tryd.prog 82 #[.pointer x0, .pointer (some ((a7.add 1).add (x1.toNat * 7)))] w fun e w =>
∃ b13 : Bool, e = .returned (.bool b13) ∧
cond (!b13) (
∃ (q14b : Option Addr) (q14l q14c : Nat), w.cell? (((a7.add 1).add (x1.toNat * 7)).add 6) = some (.slice q14b q14l q14c) ∧
∃ t' : Int × Unit, ([.int .i64 (IntKind.i64.wrap ((IntKind.i64.wrap (((q14l : Nat) : Int) * (4096 : Int))) - x2))] : List Value) = tv [(10, .int .i64)] t' ∧ I8 t' w ∧ m9 t' w < m9 t10 w11) (
∃ t' : Int × Unit, ([.int .i64 t10.1] : List Value) = tv [(10, .int .i64)] t' ∧ I8 t' w ∧ m9 t' w < m9 t10 w11)) (
((0 ≤ t10.1 ∧ t10.1 ≤ ((x3c : Nat) : Int)) ∧
Calls Tryd.prog 83 #[.pointer x0, .pointer (some ((a7.add 1).add (x1.toNat * 7))), .int .i64 x2, .slice (slB x3b 0 x3c 1) (t10.1.toNat - 0) (x3c - 0)] w fun e w =>
e = .returned (.tuple #[]) ∧
Q (.int .i64 t10.1) w))) w11))))))))
set_option maxRecDepth 100000 in
theorem W25_eq (x0 : Option Addr) (x1 : Int) (x2 : Int) (x3b : Option Addr) (x3l x3c : Nat) (w : World) (Q : Value → World → Prop) : wFn Tryd.prog Tryd.f25 W25_plan [.pointer x0, .int .i64 x1, .int .i64 x2, .slice x3b x3l x3c] w Q = W25 x0 x1 x2 x3b x3l x3c w Q := by kernel_rfl
set_option maxRecDepth 100000 in
theorem W25_ok (x0 : Option Addr) (x1 : Int) (x2 : Int) (x3b : Option Addr) (x3l x3c : Nat) (w : World) (Q : Value → World → Prop) (h : W25 x0 x1 x2 x3b x3l x3c w Q) : Calls Tryd.prog 25 #[.pointer x0, .int .i64 x1, .int .i64 x2, .slice x3b x3l x3c] w (fun e w' => ∃ v, e = .returned v ∧ Q v w') :=
  calls_of_wFn mixed W25_plan Tryd.func25 (by kernel_rfl) ((W25_eq x0 x1 x2 x3b x3l x3c w Q).mpr h)

/-! ### 27: (*hartix/tree.Tree).Look -/
def W27_plan : Plan := (.n .z (.n (.cut [7, 8, 9, 10, 11, 12, 13, 14, 15] [(15, .bool)] .z .z) .z))
def W27 (x0 : Option Addr) (x1 : Int) (w : World) (Q : Value → World → Prop) : Prop :=
newW #[.int .i64 0, .int .i64 0, .int .i16 0, .int .i16 0, .int .i64 0, .int .i64 0, .int .i64 0, .slice none 0 0] 50 w fun a1 w =>
∃ J2 : (Bool × Unit) → World → Prop, (∀ (_ : Env) (t3 : Bool × Unit) (w : World), J2 t3 w →
cond t3.1 (
∃ g4 : Array Value, bldP Tryd.prog 50 [] (.agg g4) ∧
stA 8 a1 g4 w fun w =>
∃ g5 : Array Value, g5.size = 8 ∧ RowAt w a1 g5 ∧
Q (.agg g5) w) (
nlW x0 fun a6 =>
((0 ≤ x1 ∧ x1 < ((200 : Nat) : Int)) ∧
∃ g7 : Array Value, g7.size = 7 ∧ RowAt w ((a6.add 1).add (x1.toNat * 7)) g7 ∧
newW #[.int .i64 0, .int .i16 0, .int .i16 0, .int .i64 0, .int .i64 0, .int .i64 0, .slice none 0 0] 120 w fun a8 w =>
stA 7 a8 g7 w fun w =>
∃ n9 : Int, w.cell? a8 = some (.int .i64 n9) ∧
∃ n10 : Int, w.cell? (a8.add 1) = some (.int .i16 n10) ∧
∃ n11 : Int, w.cell? (a8.add 2) = some (.int .i16 n11) ∧
∃ n12 : Int, w.cell? (a8.add 3) = some (.int .i64 n12) ∧
∃ n13 : Int, w.cell? (a8.add 4) = some (.int .i64 n13) ∧
∃ n14 : Int, w.cell? (a8.add 5) = some (.int .i64 n14) ∧
∃ g15 : Array Value, bldP Tryd.prog 50 [(0, .int .i64 x1), (1, .int .i64 n9), (2, .int .i16 n10), (3, .int .i16 n11), (4, .int .i64 n12), (5, .int .i64 n13), (6, .int .i64 n14)] (.agg g15) ∧
newW #[.int .i64 0, .int .i64 0, .int .i16 0, .int .i16 0, .int .i64 0, .int .i64 0, .int .i64 0, .slice none 0 0] 50 w fun a16 w =>
stA 8 a16 g15 w fun w =>
∃ (q17b : Option Addr) (q17l q17c : Nat), w.cell? (a16.add 7) = some (.slice q17b q17l q17c) ∧
∃ (q18b : Option Addr) (q18l q18c : Nat), w.cell? (a8.add 6) = some (.slice q18b q18l q18c) ∧
apnW Tryd.prog 48 48 (.slice q17b q17l q17c) (.slice q18b q18l q18c) w fun q19b q19l q19c w =>
stC (a16.add 7) (.slice q19b q19l q19c) w fun w =>
∃ g20 : Array Value, g20.size = 8 ∧ RowAt w a16 g20 ∧
stA 8 a1 g20 w fun w =>
∃ g21 : Array Value, g21.size = 8 ∧ RowAt w a1 g21 ∧
Q (.agg g21) w))) ∧
Calls Tryd.prog 80 #[.pointer x0] w fun e w =>
∃ b22 : Bool, e = .returned (.bool b22) ∧
cond (!b22) (
∃ t : Bool × Unit, ([.bool true] : List Value) = tv [(15, .bool)] t ∧ J2 t w) (
Calls Tryd.prog 81 #[.pointer x0, .int .i64 x1] w fun e w =>
∃ b23 : Bool, e = .returned (.bool b23) ∧
∃ t : Bool × Unit, ([.bool (!b23)] : List Value) = tv [(15, .bool)] t ∧ J2 t w)
set_option maxRecDepth 100000 in
theorem W27_eq (x0 : Option Addr) (x1 : Int) (w : World) (Q : Value → World → Prop) : wFn Tryd.prog Tryd.f27 W27_plan [.pointer x0, .int .i64 x1] w Q = W27 x0 x1 w Q := by kernel_rfl
set_option maxRecDepth 100000 in
theorem W27_ok (x0 : Option Addr) (x1 : Int) (w : World) (Q : Value → World → Prop) (h : W27 x0 x1 w Q) : Calls Tryd.prog 27 #[.pointer x0, .int .i64 x1] w (fun e w' => ∃ v, e = .returned v ∧ Q v w') :=
  calls_of_wFn mixed W27_plan Tryd.func27 (by kernel_rfl) ((W27_eq x0 x1 w Q).mpr h)

/-! ### 28: (*hartix/tree.Tree).Read -/
def W28_plan : Plan := .z
def W28 (x0 : Option Addr) (x1 : Int) (x2 : Int) (x3 : Int) (w : World) (Q : Value → World → Prop) : Prop :=
Calls Tryd.prog 80 #[.pointer x0] w fun e w =>
∃ b1 : Bool, e = .returned (.bool b1) ∧
cond (!b1) (
Q (.slice none 0 0) w) (
Calls Tryd.prog 81 #[.pointer x0, .int .i64 x1] w fun e w =>
∃ b2 : Bool, e = .returned (.bool b2) ∧
cond (!b2) (
Q (.slice none 0 0) w) (
nlW x0 fun a3 =>
((0 ≤ x1 ∧ x1 < ((200 : Nat) : Int)) ∧
∃ n4 : Int, w.cell? ((a3.add 1).add (x1.toNat * 7)) = some (.int .i64 n4) ∧
cond (n4 == (3 : Int)) (
Q (.slice none 0 0) w) (
cond (decide (x2 < (0 : Int))) (
Q (.slice none 0 0) w) (
cond (decide (x3 < (0 : Int))) (
Q (.slice none 0 0) w) (
∃ n5 : Int, w.cell? (((a3.add 1).add (x1.toNat * 7)).add 5) = some (.int .i64 n5) ∧
cond (decide (x2 > n5)) (
Q (.slice none 0 0) w) (
∃ n6 : Int, w.cell? (((a3.add 1).add (x1.toNat * 7)).add 5) = some (.int .i64 n6) ∧
Calls Tryd.prog 84 #[.pointer x0, .pointer (some ((a3.add 1).add (x1.toNat * 7))), .int .i64 x2, .int .i64 (if (IntKind.i64.wrap (n6 - x2)) < x3 then (IntKind.i64.wrap (n6 - x2)) else x3)] w fun e w =>
∃ (q7b : Option Addr) (q7l q7c : Nat), e = .returned (.slice q7b q7l q7c) ∧
Q (.slice q7b q7l q7c) w)))))))
set_option maxRecDepth 100000 in
theorem W28_eq (x0 : Option Addr) (x1 : Int) (x2 : Int) (x3 : Int) (w : World) (Q : Value → World → Prop) : wFn Tryd.prog Tryd.f28 W28_plan [.pointer x0, .int .i64 x1, .int .i64 x2, .int .i64 x3] w Q = W28 x0 x1 x2 x3 w Q := by kernel_rfl
set_option maxRecDepth 100000 in
theorem W28_ok (x0 : Option Addr) (x1 : Int) (x2 : Int) (x3 : Int) (w : World) (Q : Value → World → Prop) (h : W28 x0 x1 x2 x3 w Q) : Calls Tryd.prog 28 #[.pointer x0, .int .i64 x1, .int .i64 x2, .int .i64 x3] w (fun e w' => ∃ v, e = .returned v ∧ Q v w') :=
  calls_of_wFn mixed W28_plan Tryd.func28 (by kernel_rfl) ((W28_eq x0 x1 x2 x3 w Q).mpr h)

/-! ### 45: hartix/tree.New -/
def W45_plan : Plan := .z
def W45 (x0 : Option Addr) (w : World) (Q : Value → World → Prop) : Prop :=
Calls Tryd.prog 99 #[.pointer x0] w fun e w =>
∃ n1 : Int, e = .returned (.int .i64 n1) ∧
cond (n1 == (0 : Int)) (
Q (.tuple #[.pointer none, .int .i64 (3 : Int)]) w) (
Calls Tryd.prog 68 #[.pointer x0] w fun e w =>
∃ n2 : Int, e = .returned (.int .i64 n2) ∧
cond (n2 == (0 : Int)) (
Q (.tuple #[.pointer none, .int .i64 (189 : Int)]) w) (
∃ g3 : Array Value, bldP Tryd.prog 123 [(0, .pointer x0)] (.agg g3) ∧
newW g3 123 w fun a4 w =>
Calls Tryd.prog 78 #[.pointer (some a4), .int .i64 (1 : Int), .int .i64 (1 : Int)] w fun e w =>
e = .returned (.tuple #[]) ∧
Q (.tuple #[.pointer (some a4), .int .i64 (0 : Int)]) w))
set_option maxRecDepth 100000 in
theorem W45_eq (x0 : Option Addr) (w : World) (Q : Value → World → Prop) : wFn Tryd.prog Tryd.f45 W45_plan [.pointer x0] w Q = W45 x0 w Q := by kernel_rfl
set_option maxRecDepth 100000 in
theorem W45_ok (x0 : Option Addr) (w : World) (Q : Value → World → Prop) (h : W45 x0 w Q) : Calls Tryd.prog 45 #[.pointer x0] w (fun e w' => ∃ v, e = .returned v ∧ Q v w') :=
  calls_of_wFn mixed W45_plan Tryd.func45 (by kernel_rfl) ((W45_eq x0 w Q).mpr h)

/-! ### 48: (*hartix/tree.Tree).Find -/
def W48_plan : Plan := .z
def W48 (x0 : Option Addr) (x1 : Int) (x2 : ByteArray) (w : World) (Q : Value → World → Prop) : Prop :=
Calls Tryd.prog 109 #[.pointer x0, .int .i64 x1, .string x2] w fun e w =>
∃ n1 : Int, ∃ (q2b : Option Addr) (q2l q2c : Nat), ∃ n3 : Int, e = .returned (.tuple #[.int .i64 n1, .slice q2b q2l q2c, .int .i64 n3]) ∧
cond (n3 != (0 : Int)) (
Q (.tuple #[.int .i64 (0 : Int), .int .i64 n3]) w) (
Calls Tryd.prog 110 #[.pointer x0, .int .i64 n1, .slice q2b q2l q2c] w fun e w =>
∃ n4 : Int, ∃ n5 : Int, e = .returned (.tuple #[.int .i64 n4, .int .i64 n5]) ∧
Q (.tuple #[.int .i64 n4, .int .i64 n5]) w)
set_option maxRecDepth 100000 in
theorem W48_eq (x0 : Option Addr) (x1 : Int) (x2 : ByteArray) (w : World) (Q : Value → World → Prop) : wFn Tryd.prog Tryd.f48 W48_plan [.pointer x0, .int .i64 x1, .string x2] w Q = W48 x0 x1 x2 w Q := by kernel_rfl
set_option maxRecDepth 100000 in
theorem W48_ok (x0 : Option Addr) (x1 : Int) (x2 : ByteArray) (w : World) (Q : Value → World → Prop) (h : W48 x0 x1 x2 w Q) : Calls Tryd.prog 48 #[.pointer x0, .int .i64 x1, .string x2] w (fun e w' => ∃ v, e = .returned v ∧ Q v w') :=
  calls_of_wFn mixed W48_plan Tryd.func48 (by kernel_rfl) ((W48_eq x0 x1 x2 w Q).mpr h)

/-! ### 49: (*hartix/tree.Tree).Link -/
def W49_plan : Plan := .z
def W49 (x0 : Option Addr) (x1 : Int) (x2 : Int) (x3 : ByteArray) (w : World) (Q : Value → World → Prop) : Prop :=
Calls Tryd.prog 80 #[.pointer x0] w fun e w =>
∃ b1 : Bool, e = .returned (.bool b1) ∧
cond (!b1) (
Q (.int .i64 (3 : Int)) w) (
Calls Tryd.prog 81 #[.pointer x0, .int .i64 x1] w fun e w =>
∃ b2 : Bool, e = .returned (.bool b2) ∧
cond (!b2) (
Q (.int .i64 (180 : Int)) w) (
nlW x0 fun a3 =>
((0 ≤ x1 ∧ x1 < ((200 : Nat) : Int)) ∧
∃ n4 : Int, w.cell? ((a3.add 1).add (x1.toNat * 7)) = some (.int .i64 n4) ∧
cond (n4 == (1 : Int)) (
Q (.int .i64 (183 : Int)) w) (
Calls Tryd.prog 73 #[.pointer x0, .int .i64 x2, .string x3] w fun e w =>
∃ n5 : Int, ∃ s6 : ByteArray, ∃ n7 : Int, e = .returned (.tuple #[.int .i64 n5, .string s6, .int .i64 n7]) ∧
cond (n7 != (0 : Int)) (
Q (.int .i64 n7) w) (
nlW x0 fun a8 =>
((0 ≤ n5 ∧ n5 < ((200 : Nat) : Int)) ∧
Calls Tryd.prog 76 #[.pointer x0, .pointer (some ((a8.add 1).add (n5.toNat * 7))), .string s6] w fun e w =>
∃ n9 : Int, ∃ n10 : Int, ∃ b11 : Bool, e = .returned (.tuple #[.int .i64 n9, .int .i64 n10, .bool b11]) ∧
Calls Tryd.prog 77 #[.pointer x0, .pointer (some ((a8.add 1).add (n5.toNat * 7)))] w fun e w =>
∃ n12 : Int, ∃ b13 : Bool, e = .returned (.tuple #[.int .i64 n12, .bool b13]) ∧
∃ n14 : Int, w.cell? (((a8.add 1).add (n5.toNat * 7)).add 3) = some (.int .i64 n14) ∧
cond (n14 == (0 : Int)) (
Q (.int .i64 (186 : Int)) w) (
cond b11 (
Q (.int .i64 (185 : Int)) w) (
nlW x0 fun a15 =>
((0 ≤ x1 ∧ x1 < ((200 : Nat) : Int)) ∧
∃ n16 : Int, w.cell? (((a15.add 1).add (x1.toNat * 7)).add 3) = some (.int .i64 n16) ∧
cond (decide (n16 ≥ (32767 : Int))) (
Q (.int .i64 (190 : Int)) w) (
cond (!b13) (
Q (.int .i64 (187 : Int)) w) (
nlW x0 fun a17 =>
∃ p18 : Option Addr, w.cell? a17 = some (.pointer p18) ∧
Calls Tryd.prog 68 #[.pointer p18] w fun e w =>
∃ n19 : Int, e = .returned (.int .i64 n19) ∧
cond (decide (n19 < n12)) (
Q (.int .i64 (189 : Int)) w) (
∃ g20 : Array Value, bldP Tryd.prog 23 [(0, .int .i64 x1), (1, .string s6)] (.agg g20) ∧
Calls Tryd.prog 79 #[.pointer x0, .pointer (some ((a8.add 1).add (n5.toNat * 7))), .agg g20] w fun e w =>
e = .returned (.tuple #[]) ∧
nlW x0 fun a21 =>
((0 ≤ x1 ∧ x1 < ((200 : Nat) : Int)) ∧
∃ S22 : World → Prop, S22 w.drew ∧
∃ n23 : Int, (∀ w', S22 w' → w'.cell? (((a21.add 1).add (x1.toNat * 7)).add 3) = some (.int .i64 n23)) ∧
nlW x0 fun a24 =>
((0 ≤ x1 ∧ x1 < ((200 : Nat) : Int)) ∧
stC (((a24.add 1).add (x1.toNat * 7)).add 3) (.int .i64 (IntKind.i64.wrap (n23 + (1 : Int)))) w.drew fun w =>
Q (.int .i64 (0 : Int)) w))))))))))))))
set_option maxRecDepth 100000 in
theorem W49_eq (x0 : Option Addr) (x1 : Int) (x2 : Int) (x3 : ByteArray) (w : World) (Q : Value → World → Prop) : wFn Tryd.prog Tryd.f49 W49_plan [.pointer x0, .int .i64 x1, .int .i64 x2, .string x3] w Q = W49 x0 x1 x2 x3 w Q := by kernel_rfl
set_option maxRecDepth 100000 in
theorem W49_ok (x0 : Option Addr) (x1 : Int) (x2 : Int) (x3 : ByteArray) (w : World) (Q : Value → World → Prop) (h : W49 x0 x1 x2 x3 w Q) : Calls Tryd.prog 49 #[.pointer x0, .int .i64 x1, .int .i64 x2, .string x3] w (fun e w' => ∃ v, e = .returned v ∧ Q v w') :=
  calls_of_wFn mixed W49_plan Tryd.func49 (by kernel_rfl) ((W49_eq x0 x1 x2 x3 w Q).mpr h)

/-! ### 50: (*hartix/tree.Tree).Unlink -/
def W50_plan : Plan := (.n .z (.n .z (.n .z (.n .z (.n .z (.n .z (.n .z (.n (.n .z (.cut [] [(51, .int .i64), (52, .agg)] .z .z)) (.n .z (.n .z (.cut [74, 75, 76, 77, 78, 79, 80, 81, 82, 83, 84, 85, 86, 87, 88, 89, 90, 91] [] .z .z)))))))))))
def W50 (x0 : Option Addr) (x1 : Int) (x2 : ByteArray) (w : World) (Q : Value → World → Prop) : Prop :=
newW #[.int .i64 0] 43 w fun a1 w =>
Calls Tryd.prog 73 #[.pointer x0, .int .i64 x1, .string x2] w fun e w =>
∃ n2 : Int, ∃ s3 : ByteArray, ∃ n4 : Int, e = .returned (.tuple #[.int .i64 n2, .string s3, .int .i64 n4]) ∧
cond (n4 != (0 : Int)) (
stC a1 (.int .i64 n4) w fun w =>
∃ n5 : Int, w.cell? a1 = some (.int .i64 n5) ∧
Q (.int .i64 n5) w) (
nlW x0 fun a6 =>
((0 ≤ n2 ∧ n2 < ((200 : Nat) : Int)) ∧
Calls Tryd.prog 76 #[.pointer x0, .pointer (some ((a6.add 1).add (n2.toNat * 7))), .string s3] w fun e w =>
∃ n7 : Int, ∃ n8 : Int, ∃ b9 : Bool, e = .returned (.tuple #[.int .i64 n7, .int .i64 n8, .bool b9]) ∧
cond (!b9) (
stC a1 (.int .i64 (182 : Int)) w fun w =>
∃ n10 : Int, w.cell? a1 = some (.int .i64 n10) ∧
Q (.int .i64 n10) w) (
nlW x0 fun a11 =>
((0 ≤ n7 ∧ n7 < ((200 : Nat) : Int)) ∧
Calls Tryd.prog 111 #[.pointer x0, .pointer (some ((a11.add 1).add (n7.toNat * 7)))] w fun e w =>
∃ v12 : Value, e = .returned (v12) ∧
rgW Tryd.prog [(51, .int .i64), (52, .agg)] v12 w (fun (t13 : Int × Array Value × Unit) w bg kn kr kx =>
newW #[.int .i64 0, .string (⟨#[]⟩ : ByteArray)] 23 w fun a14 w =>
stA 2 a14 t13.2.1 w fun w =>
bg w fun w =>
∃ n15 : Int, w.cell? a14 = some (.int .i64 n15) ∧
cond (n15 != (0 : Int)) (
cond (decide (t13.1 ≥ (32 : Int))) (
stC a1 (.int .i64 (187 : Int)) w fun w =>
kr w) (
kn w)) (
kn w)) (fun d16 w =>
((0 ≤ (16 : Int) ∧ (16 : Int) ≤ (16 : Int) ∧ (16 : Int) ≤ 9223372036854775807 ∧ ((1 : Nat) : Int) * (16 : Int) ≤ 281474976710656) ∧
newW ((Array.range ((16 : Int).toNat * 1)).map (fun x => (#[.int .u8 0] : Array Value)[x % (#[.int .u8 0] : Array Value).size]!)) 5 w fun a17 w =>
Calls Tryd.prog 83 #[.pointer x0, .pointer (some ((a6.add 1).add (n2.toNat * 7))), .int .i64 n8, .slice (some a17) ((16 : Int).toNat) ((16 : Int).toNat)] w fun e w =>
e = .returned (.tuple #[]) ∧
∃ n18 : Int, w.cell? (((a11.add 1).add (n7.toNat * 7)).add 3) = some (.int .i64 n18) ∧
stC (((a11.add 1).add (n7.toNat * 7)).add 3) (.int .i64 (IntKind.i64.wrap (n18 - (1 : Int)))) w fun w =>
∃ J19 : (Unit) → World → Prop, (∀ (_ : Env) (t20 : Unit) (w : World), J19 t20 w →
Calls Tryd.prog 113 #[.pointer x0, .pointer (some ((a11.add 1).add (n7.toNat * 7)))] w fun e w =>
e = .returned (.tuple #[]) ∧
stC a1 (.int .i64 (0 : Int)) w fun w =>
(w.heap[d16]? = some (.deferred (some [])) ∧
(fun w : World =>
∃ n21 : Int, w.cell? a1 = some (.int .i64 n21) ∧
Q (.int .i64 n21) w) (w.putObj d16 (.deferred none)))) ∧
∃ n22 : Int, w.cell? ((a11.add 1).add (n7.toNat * 7)) = some (.int .i64 n22) ∧
cond (n22 == (1 : Int)) (
∃ n23 : Int, w.cell? (((a6.add 1).add (n2.toNat * 7)).add 3) = some (.int .i64 n23) ∧
stC (((a6.add 1).add (n2.toNat * 7)).add 3) (.int .i64 (IntKind.i64.wrap (n23 - (1 : Int)))) w fun w =>
Calls Tryd.prog 112 #[.pointer x0, .pointer (some ((a11.add 1).add (n7.toNat * 7)))] w fun e w =>
e = .returned (.tuple #[]) ∧
∃ t : Unit, ([] : List Value) = tv [] t ∧ J19 t w) (
∃ t : Unit, ([] : List Value) = tv [] t ∧ J19 t w))) (fun d16 w =>
(w.heap[d16]? = some (.deferred (some [])) ∧
(fun w : World =>
∃ n24 : Int, w.cell? a1 = some (.int .i64 n24) ∧
Q (.int .i64 n24) w) (w.putObj d16 (.deferred none)))) (fun d16 id w =>
cond (Nat.beq id 0) (
((0 ≤ (16 : Int) ∧ (16 : Int) ≤ (16 : Int) ∧ (16 : Int) ≤ 9223372036854775807 ∧ ((1 : Nat) : Int) * (16 : Int) ≤ 281474976710656) ∧
newW ((Array.range ((16 : Int).toNat * 1)).map (fun x => (#[.int .u8 0] : Array Value)[x % (#[.int .u8 0] : Array Value).size]!)) 5 w fun a25 w =>
Calls Tryd.prog 83 #[.pointer x0, .pointer (some ((a6.add 1).add (n2.toNat * 7))), .int .i64 n8, .slice (some a25) ((16 : Int).toNat) ((16 : Int).toNat)] w fun e w =>
e = .returned (.tuple #[]) ∧
∃ n26 : Int, w.cell? (((a11.add 1).add (n7.toNat * 7)).add 3) = some (.int .i64 n26) ∧
stC (((a11.add 1).add (n7.toNat * 7)).add 3) (.int .i64 (IntKind.i64.wrap (n26 - (1 : Int)))) w fun w =>
∃ J27 : (Unit) → World → Prop, (∀ (_ : Env) (t28 : Unit) (w : World), J27 t28 w →
Calls Tryd.prog 113 #[.pointer x0, .pointer (some ((a11.add 1).add (n7.toNat * 7)))] w fun e w =>
e = .returned (.tuple #[]) ∧
stC a1 (.int .i64 (0 : Int)) w fun w =>
(w.heap[d16]? = some (.deferred (some [])) ∧
(fun w : World =>
∃ n29 : Int, w.cell? a1 = some (.int .i64 n29) ∧
Q (.int .i64 n29) w) (w.putObj d16 (.deferred none)))) ∧
∃ n30 : Int, w.cell? ((a11.add 1).add (n7.toNat * 7)) = some (.int .i64 n30) ∧
cond (n30 == (1 : Int)) (
∃ n31 : Int, w.cell? (((a6.add 1).add (n2.toNat * 7)).add 3) = some (.int .i64 n31) ∧
stC (((a6.add 1).add (n2.toNat * 7)).add 3) (.int .i64 (IntKind.i64.wrap (n31 - (1 : Int)))) w fun w =>
Calls Tryd.prog 112 #[.pointer x0, .pointer (some ((a11.add 1).add (n7.toNat * 7)))] w fun e w =>
e = .returned (.tuple #[]) ∧
∃ t : Unit, ([] : List Value) = tv [] t ∧ J27 t w) (
∃ t : Unit, ([] : List Value) = tv [] t ∧ J27 t w))) (
False))))))
set_option maxRecDepth 100000 in
theorem W50_eq (x0 : Option Addr) (x1 : Int) (x2 : ByteArray) (w : World) (Q : Value → World → Prop) : wFn Tryd.prog Tryd.f50 W50_plan [.pointer x0, .int .i64 x1, .string x2] w Q = W50 x0 x1 x2 w Q := by kernel_rfl
set_option maxRecDepth 100000 in
theorem W50_ok (x0 : Option Addr) (x1 : Int) (x2 : ByteArray) (w : World) (Q : Value → World → Prop) (h : W50 x0 x1 x2 w Q) : Calls Tryd.prog 50 #[.pointer x0, .int .i64 x1, .string x2] w (fun e w' => ∃ v, e = .returned v ∧ Q v w') :=
  calls_of_wFn mixed W50_plan Tryd.func50 (by kernel_rfl) ((W50_eq x0 x1 x2 w Q).mpr h)

/-! ### 51: (*hartix/tree.Tree).Trunc -/
def W51_plan : Plan := .z
def W51 (x0 : Option Addr) (x1 : Int) (w : World) (Q : Value → World → Prop) : Prop :=
Calls Tryd.prog 80 #[.pointer x0] w fun e w =>
∃ b1 : Bool, e = .returned (.bool b1) ∧
cond (!b1) (
Q (.int .i64 (3 : Int)) w) (
Calls Tryd.prog 81 #[.pointer x0, .int .i64 x1] w fun e w =>
∃ b2 : Bool, e = .returned (.bool b2) ∧
cond (!b2) (
Q (.int .i64 (180 : Int)) w) (
nlW x0 fun a3 =>
((0 ≤ x1 ∧ x1 < ((200 : Nat) : Int)) ∧
∃ n4 : Int, w.cell? ((a3.add 1).add (x1.toNat * 7)) = some (.int .i64 n4) ∧
cond (n4 != (2 : Int)) (
Q (.int .i64 (183 : Int)) w) (
nlW x0 fun a5 =>
((0 ≤ x1 ∧ x1 < ((200 : Nat) : Int)) ∧
Calls Tryd.prog 112 #[.pointer x0, .pointer (some ((a5.add 1).add (x1.toNat * 7)))] w fun e w =>
e = .returned (.tuple #[]) ∧
Q (.int .i64 (0 : Int)) w)))))
set_option maxRecDepth 100000 in
theorem W51_eq (x0 : Option Addr) (x1 : Int) (w : World) (Q : Value → World → Prop) : wFn Tryd.prog Tryd.f51 W51_plan [.pointer x0, .int .i64 x1] w Q = W51 x0 x1 w Q := by kernel_rfl
set_option maxRecDepth 100000 in
theorem W51_ok (x0 : Option Addr) (x1 : Int) (w : World) (Q : Value → World → Prop) (h : W51 x0 x1 w Q) : Calls Tryd.prog 51 #[.pointer x0, .int .i64 x1] w (fun e w' => ∃ v, e = .returned v ∧ Q v w') :=
  calls_of_wFn mixed W51_plan Tryd.func51 (by kernel_rfl) ((W51_eq x0 x1 w Q).mpr h)

/-! ### 52: (*hartix/tree.Tree).Hold -/
def W52_plan : Plan := .z
def W52 (x0 : Option Addr) (x1 : Int) (w : World) (Q : Value → World → Prop) : Prop :=
Calls Tryd.prog 80 #[.pointer x0] w fun e w =>
∃ b1 : Bool, e = .returned (.bool b1) ∧
cond (!b1) (
Q (.int .i64 (3 : Int)) w) (
Calls Tryd.prog 81 #[.pointer x0, .int .i64 x1] w fun e w =>
∃ b2 : Bool, e = .returned (.bool b2) ∧
cond (!b2) (
Q (.int .i64 (180 : Int)) w) (
nlW x0 fun a3 =>
((0 ≤ x1 ∧ x1 < ((200 : Nat) : Int)) ∧
∃ n4 : Int, w.cell? (((a3.add 1).add (x1.toNat * 7)).add 4) = some (.int .i64 n4) ∧
cond (n4 == (2147483647 : Int)) (
Q (.int .i64 (190 : Int)) w) (
nlW x0 fun a5 =>
((0 ≤ x1 ∧ x1 < ((200 : Nat) : Int)) ∧
∃ S6 : World → Prop, S6 w.drew ∧
∃ n7 : Int, (∀ w', S6 w' → w'.cell? (((a5.add 1).add (x1.toNat * 7)).add 4) = some (.int .i64 n7)) ∧
nlW x0 fun a8 =>
((0 ≤ x1 ∧ x1 < ((200 : Nat) : Int)) ∧
stC (((a8.add 1).add (x1.toNat * 7)).add 4) (.int .i64 (IntKind.i64.wrap (n7 + (1 : Int)))) w.drew fun w =>
Q (.int .i64 (0 : Int)) w))))))
set_option maxRecDepth 100000 in
theorem W52_eq (x0 : Option Addr) (x1 : Int) (w : World) (Q : Value → World → Prop) : wFn Tryd.prog Tryd.f52 W52_plan [.pointer x0, .int .i64 x1] w Q = W52 x0 x1 w Q := by kernel_rfl
set_option maxRecDepth 100000 in
theorem W52_ok (x0 : Option Addr) (x1 : Int) (w : World) (Q : Value → World → Prop) (h : W52 x0 x1 w Q) : Calls Tryd.prog 52 #[.pointer x0, .int .i64 x1] w (fun e w' => ∃ v, e = .returned v ∧ Q v w') :=
  calls_of_wFn mixed W52_plan Tryd.func52 (by kernel_rfl) ((W52_eq x0 x1 w Q).mpr h)

/-! ### 53: (*hartix/tree.Tree).Drop -/
def W53_plan : Plan := .z
def W53 (x0 : Option Addr) (x1 : Int) (w : World) (Q : Value → World → Prop) : Prop :=
Calls Tryd.prog 80 #[.pointer x0] w fun e w =>
∃ b1 : Bool, e = .returned (.bool b1) ∧
cond (!b1) (
Q (.int .i64 (3 : Int)) w) (
Calls Tryd.prog 81 #[.pointer x0, .int .i64 x1] w fun e w =>
∃ b2 : Bool, e = .returned (.bool b2) ∧
cond (!b2) (
Q (.int .i64 (180 : Int)) w) (
nlW x0 fun a3 =>
((0 ≤ x1 ∧ x1 < ((200 : Nat) : Int)) ∧
∃ n4 : Int, w.cell? (((a3.add 1).add (x1.toNat * 7)).add 4) = some (.int .i64 n4) ∧
cond (n4 == (0 : Int)) (
Q (.int .i64 (1 : Int)) w) (
nlW x0 fun a5 =>
((0 ≤ x1 ∧ x1 < ((200 : Nat) : Int)) ∧
∃ S6 : World → Prop, S6 w.drew ∧
∃ n7 : Int, (∀ w', S6 w' → w'.cell? (((a5.add 1).add (x1.toNat * 7)).add 4) = some (.int .i64 n7)) ∧
nlW x0 fun a8 =>
((0 ≤ x1 ∧ x1 < ((200 : Nat) : Int)) ∧
stC (((a8.add 1).add (x1.toNat * 7)).add 4) (.int .i64 (IntKind.i64.wrap (n7 - (1 : Int)))) w.drew fun w =>
nlW x0 fun a9 =>
((0 ≤ x1 ∧ x1 < ((200 : Nat) : Int)) ∧
Calls Tryd.prog 113 #[.pointer x0, .pointer (some ((a9.add 1).add (x1.toNat * 7)))] w fun e w =>
e = .returned (.tuple #[]) ∧
Q (.int .i64 (0 : Int)) w)))))))
set_option maxRecDepth 100000 in
theorem W53_eq (x0 : Option Addr) (x1 : Int) (w : World) (Q : Value → World → Prop) : wFn Tryd.prog Tryd.f53 W53_plan [.pointer x0, .int .i64 x1] w Q = W53 x0 x1 w Q := by kernel_rfl
set_option maxRecDepth 100000 in
theorem W53_ok (x0 : Option Addr) (x1 : Int) (w : World) (Q : Value → World → Prop) (h : W53 x0 x1 w Q) : Calls Tryd.prog 53 #[.pointer x0, .int .i64 x1] w (fun e w' => ∃ v, e = .returned v ∧ Q v w') :=
  calls_of_wFn mixed W53_plan Tryd.func53 (by kernel_rfl) ((W53_eq x0 x1 w Q).mpr h)

/-! ### 54: (*hartix/tree.Tree).Stat -/
def W54_plan : Plan := (.n .z (.n (.cut [6, 7, 8, 9, 10, 11, 12, 13, 14] [(14, .bool)] .z .z) .z))
def W54 (x0 : Option Addr) (x1 : Int) (w : World) (Q : Value → World → Prop) : Prop :=
newW #[.int .i32 0, .int .u32 0, .int .i16 0, .int .i16 0, .int .u64 0] 102 w fun a1 w =>
∃ J2 : (Bool × Unit) → World → Prop, (∀ (_ : Env) (t3 : Bool × Unit) (w : World), J2 t3 w →
cond t3.1 (
∃ g4 : Array Value, bldP Tryd.prog 102 [] (.agg g4) ∧
stA 5 a1 g4 w fun w =>
∃ g5 : Array Value, g5.size = 5 ∧ RowAt w a1 g5 ∧
Q (.agg g5) w) (
nlW x0 fun a6 =>
((0 ≤ x1 ∧ x1 < ((200 : Nat) : Int)) ∧
∃ g7 : Array Value, g7.size = 6 ∧ RowAt w ((a6.add 1).add (x1.toNat * 7)) g7 ∧
newW #[.int .i64 0, .int .i16 0, .int .i16 0, .int .i64 0, .int .i64 0, .int .i64 0] 118 w fun a8 w =>
stA 6 a8 g7 w fun w =>
∃ n9 : Int, w.cell? a8 = some (.int .i64 n9) ∧
∃ n10 : Int, w.cell? (a8.add 3) = some (.int .i64 n10) ∧
∃ n11 : Int, w.cell? (a8.add 5) = some (.int .i64 n11) ∧
∃ g12 : Array Value, bldP Tryd.prog 102 [(0, .int .i32 (1 : Int)), (1, .int .u32 (IntKind.u32.wrap x1)), (2, .int .i16 (IntKind.i16.wrap n9)), (3, .int .i16 (IntKind.i16.wrap n10)), (4, .int .u64 (IntKind.u64.wrap n11))] (.agg g12) ∧
stA 5 a1 g12 w fun w =>
∃ g13 : Array Value, g13.size = 5 ∧ RowAt w a1 g13 ∧
Q (.agg g13) w))) ∧
Calls Tryd.prog 80 #[.pointer x0] w fun e w =>
∃ b14 : Bool, e = .returned (.bool b14) ∧
cond (!b14) (
∃ t : Bool × Unit, ([.bool true] : List Value) = tv [(14, .bool)] t ∧ J2 t w) (
Calls Tryd.prog 81 #[.pointer x0, .int .i64 x1] w fun e w =>
∃ b15 : Bool, e = .returned (.bool b15) ∧
∃ t : Bool × Unit, ([.bool (!b15)] : List Value) = tv [(14, .bool)] t ∧ J2 t w)
set_option maxRecDepth 100000 in
theorem W54_eq (x0 : Option Addr) (x1 : Int) (w : World) (Q : Value → World → Prop) : wFn Tryd.prog Tryd.f54 W54_plan [.pointer x0, .int .i64 x1] w Q = W54 x0 x1 w Q := by kernel_rfl
set_option maxRecDepth 100000 in
theorem W54_ok (x0 : Option Addr) (x1 : Int) (w : World) (Q : Value → World → Prop) (h : W54 x0 x1 w Q) : Calls Tryd.prog 54 #[.pointer x0, .int .i64 x1] w (fun e w' => ∃ v, e = .returned v ∧ Q v w') :=
  calls_of_wFn mixed W54_plan Tryd.func54 (by kernel_rfl) ((W54_eq x0 x1 w Q).mpr h)

/-! ### 55: (*hartix/tree.Tree).List -/
def W55_plan : Plan := (.n .z (.n .z (.n .z (.n (.n .z (.cut [] [(24, .int .i64), (25, .agg)] .z .z)) .z))))
def W55 (x0 : Option Addr) (x1 : Int) (w : World) (Q : Value → World → Prop) : Prop :=
Calls Tryd.prog 80 #[.pointer x0] w fun e w =>
∃ b1 : Bool, e = .returned (.bool b1) ∧
cond (!b1) (
Q (.slice none 0 0) w) (
Calls Tryd.prog 81 #[.pointer x0, .int .i64 x1] w fun e w =>
∃ b2 : Bool, e = .returned (.bool b2) ∧
cond (!b2) (
Q (.slice none 0 0) w) (
newW #[.slice none 0 0] 132 w fun a3 w =>
nlW x0 fun a4 =>
((0 ≤ x1 ∧ x1 < ((200 : Nat) : Int)) ∧
Calls Tryd.prog 111 #[.pointer x0, .pointer (some ((a4.add 1).add (x1.toNat * 7)))] w fun e w =>
∃ v5 : Value, e = .returned (v5) ∧
rgW Tryd.prog [(24, .int .i64), (25, .agg)] v5 w (fun (t6 : Int × Array Value × Unit) w bg kn kr kx =>
newW #[.int .i64 0, .string (⟨#[]⟩ : ByteArray)] 23 w fun a7 w =>
stA 2 a7 t6.2.1 w fun w =>
bg w fun w =>
∃ n8 : Int, w.cell? a7 = some (.int .i64 n8) ∧
cond (n8 != (0 : Int)) (
∃ (q9b : Option Addr) (q9l q9c : Nat), w.cell? a3 = some (.slice q9b q9l q9c) ∧
∃ g10 : Array Value, g10.size = 2 ∧ RowAt w a7 g10 ∧
∃ g11 : Array Value, bslP Tryd.prog 132 1 [(0, .agg g10)] g11 23 ∧
newW g11 23 w fun a12 w =>
apnW Tryd.prog 132 132 (.slice q9b q9l q9c) (.slice (some a12) 1 1) w fun q13b q13l q13c w =>
stC a3 (.slice q13b q13l q13c) w fun w =>
kn w) (
kn w)) (fun d14 w =>
∃ (q15b : Option Addr) (q15l q15c : Nat), w.cell? a3 = some (.slice q15b q15l q15c) ∧
(w.heap[d14]? = some (.deferred (some [])) ∧
(fun w : World =>
Q (.slice q15b q15l q15c) w) (w.putObj d14 (.deferred none)))) (fun d14 w =>
(w.heap[d14]? = some (.deferred (some [])) ∧
(fun w : World =>
Q (.slice none 0 0) w) (w.putObj d14 (.deferred none)))) (fun d14 id w =>
cond (Nat.beq id 0) (
∃ (q16b : Option Addr) (q16l q16c : Nat), w.cell? a3 = some (.slice q16b q16l q16c) ∧
(w.heap[d14]? = some (.deferred (some [])) ∧
(fun w : World =>
Q (.slice q16b q16l q16c) w) (w.putObj d14 (.deferred none)))) (
False)))))
set_option maxRecDepth 100000 in
theorem W55_eq (x0 : Option Addr) (x1 : Int) (w : World) (Q : Value → World → Prop) : wFn Tryd.prog Tryd.f55 W55_plan [.pointer x0, .int .i64 x1] w Q = W55 x0 x1 w Q := by kernel_rfl
set_option maxRecDepth 100000 in
theorem W55_ok (x0 : Option Addr) (x1 : Int) (w : World) (Q : Value → World → Prop) (h : W55 x0 x1 w Q) : Calls Tryd.prog 55 #[.pointer x0, .int .i64 x1] w (fun e w' => ∃ v, e = .returned v ∧ Q v w') :=
  calls_of_wFn mixed W55_plan Tryd.func55 (by kernel_rfl) ((W55_eq x0 x1 w Q).mpr h)

/-! ### 56: (*hartix/tree.Tree).Left -/
def W56_plan : Plan := (.n .z (.n .z (.n .z (.n (.n .z (.cut [3, 4, 8, 9, 10, 11, 12, 13, 14, 15, 16, 17] [(3, .int .i64), (4, .int .i64)] .z .z)) .z))))
def W56 (x0 : Option Addr) (w : World) (Q : Value → World → Prop) : Prop :=
Calls Tryd.prog 80 #[.pointer x0] w fun e w =>
∃ b1 : Bool, e = .returned (.bool b1) ∧
cond (!b1) (
Q (.int .i64 (0 : Int)) w) (
∃ (I2 : (Int × Int × Unit) → World → Prop) (m3 : (Int × Int × Unit) → World → Nat), (∃ t : Int × Int × Unit, ([.int .i64 (0 : Int), .int .i64 (1 : Int)] : List Value) = tv [(3, .int .i64), (4, .int .i64)] t ∧ I2 t w) ∧
∀ (_ : Env) (t4 : Int × Int × Unit) (w5 : World), I2 t4 w5 →
(fun w : World =>
cond (decide (t4.2.1 < (200 : Int))) (
Calls Tryd.prog 81 #[.pointer x0, .int .i64 t4.2.1] w fun e w =>
∃ b6 : Bool, e = .returned (.bool b6) ∧
cond (!b6) (
∃ t' : Int × Int × Unit, ([.int .i64 (IntKind.i64.wrap (t4.1 + (1 : Int))), .int .i64 (IntKind.i64.wrap (t4.2.1 + (1 : Int)))] : List Value) = tv [(3, .int .i64), (4, .int .i64)] t' ∧ I2 t' w ∧ m3 t' w < m3 t4 w5) (
∃ t' : Int × Int × Unit, ([.int .i64 t4.1, .int .i64 (IntKind.i64.wrap (t4.2.1 + (1 : Int)))] : List Value) = tv [(3, .int .i64), (4, .int .i64)] t' ∧ I2 t' w ∧ m3 t' w < m3 t4 w5)) (
Q (.int .i64 t4.1) w)) w5)
set_option maxRecDepth 100000 in
theorem W56_eq (x0 : Option Addr) (w : World) (Q : Value → World → Prop) : wFn Tryd.prog Tryd.f56 W56_plan [.pointer x0] w Q = W56 x0 w Q := by kernel_rfl
set_option maxRecDepth 100000 in
theorem W56_ok (x0 : Option Addr) (w : World) (Q : Value → World → Prop) (h : W56 x0 w Q) : Calls Tryd.prog 56 #[.pointer x0] w (fun e w' => ∃ v, e = .returned v ∧ Q v w') :=
  calls_of_wFn mixed W56_plan Tryd.func56 (by kernel_rfl) ((W56_eq x0 w Q).mpr h)

/-! ### 73: (*hartix/tree.Tree).last -/
def W73_plan : Plan := (.n .z (.n .z (.n .z (.n .z (.n (.cut [27, 28, 29, 30, 31, 32, 33, 34, 35, 36, 37, 38, 39, 40, 41, 42] [(42, .bool)] .z .z) .z)))))
def W73 (x0 : Option Addr) (x1 : Int) (x2 : ByteArray) (w : World) (Q : Value → World → Prop) : Prop :=
Calls Tryd.prog 109 #[.pointer x0, .int .i64 x1, .string x2] w fun e w =>
∃ n1 : Int, ∃ (q2b : Option Addr) (q2l q2c : Nat), ∃ n3 : Int, e = .returned (.tuple #[.int .i64 n1, .slice q2b q2l q2c, .int .i64 n3]) ∧
cond (n3 != (0 : Int)) (
Q (.tuple #[.int .i64 (0 : Int), .string (⟨#[]⟩ : ByteArray), .int .i64 n3]) w) (
∃ J4 : (Bool × Unit) → World → Prop, (∀ (_ : Env) (t5 : Bool × Unit) (w : World), J4 t5 w →
cond t5.1 (
Q (.tuple #[.int .i64 (0 : Int), .string (⟨#[]⟩ : ByteArray), .int .i64 (184 : Int)]) w) (
((0 ≤ (IntKind.i64.wrap (((q2l : Nat) : Int) - (1 : Int))) ∧ (IntKind.i64.wrap (((q2l : Nat) : Int) - (1 : Int))) ≤ ((q2c : Nat) : Int)) ∧
Calls Tryd.prog 110 #[.pointer x0, .int .i64 n1, .slice (slB q2b 0 q2c 1) (((IntKind.i64.wrap (((q2l : Nat) : Int) - (1 : Int))).toNat) - 0) (q2c - 0)] w fun e w =>
∃ n6 : Int, ∃ n7 : Int, e = .returned (.tuple #[.int .i64 n6, .int .i64 n7]) ∧
cond (n7 != (0 : Int)) (
Q (.tuple #[.int .i64 (0 : Int), .string (⟨#[]⟩ : ByteArray), .int .i64 n7]) w) (
nlW x0 fun a8 =>
((0 ≤ n6 ∧ n6 < ((200 : Nat) : Int)) ∧
∃ n9 : Int, w.cell? ((a8.add 1).add (n6.toNat * 7)) = some (.int .i64 n9) ∧
cond (n9 != (1 : Int)) (
Q (.tuple #[.int .i64 (0 : Int), .string (⟨#[]⟩ : ByteArray), .int .i64 (183 : Int)]) w) (
nlW q2b fun a10 =>
((0 ≤ (IntKind.i64.wrap (((q2l : Nat) : Int) - (1 : Int))) ∧ (IntKind.i64.wrap (((q2l : Nat) : Int) - (1 : Int))) < ((q2l : Nat) : Int)) ∧
∃ s11 : ByteArray, w.drew.cell? (a10.add ((IntKind.i64.wrap (((q2l : Nat) : Int) - (1 : Int))).toNat * 1)) = some (.string s11) ∧
Q (.tuple #[.int .i64 n6, .string s11, .int .i64 (0 : Int)]) w.drew))))))) ∧
cond (decide ((IntKind.i64.wrap (((q2l : Nat) : Int) - (1 : Int))) < (0 : Int))) (
∃ t : Bool × Unit, ([.bool true] : List Value) = tv [(42, .bool)] t ∧ J4 t w) (
nlW q2b fun a12 =>
((0 ≤ (IntKind.i64.wrap (((q2l : Nat) : Int) - (1 : Int))) ∧ (IntKind.i64.wrap (((q2l : Nat) : Int) - (1 : Int))) < ((q2l : Nat) : Int)) ∧
∃ s13 : ByteArray, w.cell? (a12.add ((IntKind.i64.wrap (((q2l : Nat) : Int) - (1 : Int))).toNat * 1)) = some (.string s13) ∧
cond (strEq s13 (⟨#[46]⟩ : ByteArray)) (
∃ t : Bool × Unit, ([.bool true] : List Value) = tv [(42, .bool)] t ∧ J4 t w) (
nlW q2b fun a14 =>
((0 ≤ (IntKind.i64.wrap (((q2l : Nat) : Int) - (1 : Int))) ∧ (IntKind.i64.wrap (((q2l : Nat) : Int) - (1 : Int))) < ((q2l : Nat) : Int)) ∧
∃ s15 : ByteArray, w.cell? (a14.add ((IntKind.i64.wrap (((q2l : Nat) : Int) - (1 : Int))).toNat * 1)) = some (.string s15) ∧
∃ t : Bool × Unit, ([.bool (strEq s15 (⟨#[46, 46]⟩ : ByteArray))] : List Value) = tv [(42, .bool)] t ∧ J4 t w)))))
set_option maxRecDepth 100000 in
theorem W73_eq (x0 : Option Addr) (x1 : Int) (x2 : ByteArray) (w : World) (Q : Value → World → Prop) : wFn Tryd.prog Tryd.f73 W73_plan [.pointer x0, .int .i64 x1, .string x2] w Q = W73 x0 x1 x2 w Q := by kernel_rfl
set_option maxRecDepth 100000 in
theorem W73_ok (x0 : Option Addr) (x1 : Int) (x2 : ByteArray) (w : World) (Q : Value → World → Prop) (h : W73 x0 x1 x2 w Q) : Calls Tryd.prog 73 #[.pointer x0, .int .i64 x1, .string x2] w (fun e w' => ∃ v, e = .returned v ∧ Q v w') :=
  calls_of_wFn mixed W73_plan Tryd.func73 (by kernel_rfl) ((W73_eq x0 x1 x2 w Q).mpr h)

/-! ### 80: (*hartix/tree.Tree).is -/
def W80_plan : Plan := .z
def W80 (x0 : Option Addr) (w : World) (Q : Value → World → Prop) : Prop :=
cond (!x0.isNone) (
nlW x0 fun a1 =>
∃ p2 : Option Addr, w.cell? a1 = some (.pointer p2) ∧
Q (.bool (!p2.isNone)) w) (
Q (.bool false) w)
set_option maxRecDepth 100000 in
theorem W80_eq (x0 : Option Addr) (w : World) (Q : Value → World → Prop) : wFn Tryd.prog Tryd.f80 W80_plan [.pointer x0] w Q = W80 x0 w Q := by kernel_rfl
set_option maxRecDepth 100000 in
theorem W80_ok (x0 : Option Addr) (w : World) (Q : Value → World → Prop) (h : W80 x0 w Q) : Calls Tryd.prog 80 #[.pointer x0] w (fun e w' => ∃ v, e = .returned v ∧ Q v w') :=
  calls_of_wFn mixed W80_plan Tryd.func80 (by kernel_rfl) ((W80_eq x0 w Q).mpr h)

/-! ### 99: (*hartix/ram.Ram).Frames -/
def W99_plan : Plan := .z
def W99 (x0 : Option Addr) (w : World) (Q : Value → World → Prop) : Prop :=
Calls Tryd.prog 116 #[.pointer x0] w fun e w =>
∃ b1 : Bool, e = .returned (.bool b1) ∧
cond b1 (
Q (.int .i64 (0 : Int)) w) (
nlW x0 fun a2 =>
∃ (q3b : Option Addr) (q3l q3c : Nat), w.cell? a2 = some (.slice q3b q3l q3c) ∧
((4096 : Int) ≠ 0 ∧
Q (.int .i64 (IntKind.i64.wrap (((q3l : Nat) : Int).tdiv (4096 : Int)))) w))
set_option maxRecDepth 100000 in
theorem W99_eq (x0 : Option Addr) (w : World) (Q : Value → World → Prop) : wFn Tryd.prog Tryd.f99 W99_plan [.pointer x0] w Q = W99 x0 w Q := by kernel_rfl
set_option maxRecDepth 100000 in
theorem W99_ok (x0 : Option Addr) (w : World) (Q : Value → World → Prop) (h : W99 x0 w Q) : Calls Tryd.prog 99 #[.pointer x0] w (fun e w' => ∃ v, e = .returned v ∧ Q v w') :=
  calls_of_wFn mixed W99_plan Tryd.func99 (by kernel_rfl) ((W99_eq x0 w Q).mpr h)

/-! ### 109: (*hartix/tree.Tree).from -/
def W109_plan : Plan := (.n .z (.n .z (.n .z (.n .z (.n .z (.cut [1, 25, 26, 27, 28, 29, 30, 31] [(1, .int .i64)] .z .z))))))
def W109 (x0 : Option Addr) (x1 : Int) (x2 : ByteArray) (w : World) (Q : Value → World → Prop) : Prop :=
Calls Tryd.prog 80 #[.pointer x0] w fun e w =>
∃ b1 : Bool, e = .returned (.bool b1) ∧
cond (!b1) (
Q (.tuple #[.int .i64 (0 : Int), .slice none 0 0, .int .i64 (3 : Int)]) w) (
Calls Tryd.prog 81 #[.pointer x0, .int .i64 x1] w fun e w =>
∃ b2 : Bool, e = .returned (.bool b2) ∧
cond (!b2) (
Q (.tuple #[.int .i64 (0 : Int), .slice none 0 0, .int .i64 (180 : Int)]) w) (
Calls Tryd.prog 12 #[.string x2] w fun e w =>
∃ (q3b : Option Addr) (q3l q3c : Nat), ∃ b4 : Bool, e = .returned (.tuple #[.slice q3b q3l q3c, .bool b4]) ∧
cond (!b4) (
Q (.tuple #[.int .i64 (0 : Int), .slice none 0 0, .int .i64 (181 : Int)]) w) (
∃ J5 : (Int × Unit) → World → Prop, (∀ (_ : Env) (t6 : Int × Unit) (w : World), J5 t6 w →
Q (.tuple #[.int .i64 t6.1, .slice q3b q3l q3c, .int .i64 (0 : Int)]) w) ∧
cond (!strEq x2 (⟨#[]⟩ : ByteArray)) (
(0 ≤ (0 : Int) ∧ ∃ c7 : UInt8, ((x2 : ByteArray))[(0 : Int).toNat]? = some c7 ∧
cond (((c7.toNat : Nat) : Int) == (47 : Int)) (
∃ t : Int × Unit, ([.int .i64 (1 : Int)] : List Value) = tv [(1, .int .i64)] t ∧ J5 t w) (
∃ t : Int × Unit, ([.int .i64 x1] : List Value) = tv [(1, .int .i64)] t ∧ J5 t w))) (
∃ t : Int × Unit, ([.int .i64 x1] : List Value) = tv [(1, .int .i64)] t ∧ J5 t w))))
set_option maxRecDepth 100000 in
theorem W109_eq (x0 : Option Addr) (x1 : Int) (x2 : ByteArray) (w : World) (Q : Value → World → Prop) : wFn Tryd.prog Tryd.f109 W109_plan [.pointer x0, .int .i64 x1, .string x2] w Q = W109 x0 x1 x2 w Q := by kernel_rfl
set_option maxRecDepth 100000 in
theorem W109_ok (x0 : Option Addr) (x1 : Int) (x2 : ByteArray) (w : World) (Q : Value → World → Prop) (h : W109 x0 x1 x2 w Q) : Calls Tryd.prog 109 #[.pointer x0, .int .i64 x1, .string x2] w (fun e w' => ∃ v, e = .returned v ∧ Q v w') :=
  calls_of_wFn mixed W109_plan Tryd.func109 (by kernel_rfl) ((W109_eq x0 x1 x2 w Q).mpr h)

/-! ### 116: (*hartix/ram.Ram).none -/
def W116_plan : Plan := .z
def W116 (x0 : Option Addr) (w : World) (Q : Value → World → Prop) : Prop :=
cond x0.isNone (
Q (.bool true) w) (
nlW x0 fun a1 =>
∃ (q2b : Option Addr) (q2l q2c : Nat), w.cell? a1 = some (.slice q2b q2l q2c) ∧
Q (.bool (((q2l : Nat) : Int) == (0 : Int))) w)
set_option maxRecDepth 100000 in
theorem W116_eq (x0 : Option Addr) (w : World) (Q : Value → World → Prop) : wFn Tryd.prog Tryd.f116 W116_plan [.pointer x0] w Q = W116 x0 w Q := by kernel_rfl
set_option maxRecDepth 100000 in
theorem W116_ok (x0 : Option Addr) (w : World) (Q : Value → World → Prop) (h : W116 x0 w Q) : Calls Tryd.prog 116 #[.pointer x0] w (fun e w' => ∃ v, e = .returned v ∧ Q v w') :=
  calls_of_wFn mixed W116_plan Tryd.func116 (by kernel_rfl) ((W116_eq x0 w Q).mpr h)

end Go.Proofs.YthkcdkldpbndnaaDoor
