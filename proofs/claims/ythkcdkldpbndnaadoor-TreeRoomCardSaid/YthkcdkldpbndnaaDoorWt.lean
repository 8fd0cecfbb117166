/- The walk's functions of this seat, printed by a program of mine (wgen.py) out of Lean's own print of the loaded functions; each is tied to the loaded function by the kernel. No condition. -/
import Derived.Test.YthkcdkldpbndnaaDoorRows
import Derived.Test.YthkcdkldpbndnaaDoorHz
import Derived.Test.YthkcdkldpbndnaaDoorWr
set_option linter.unusedVariables false
namespace Go.Proofs.YthkcdkldpbndnaaDoor
open Go.RowKit Go.Hx
/-! ### 74: (*hartix/tree.Tree).Make$1 -/
def W74_plan : Plan := .z
def W74 (x0 : Addr) (x1 : Addr) (w : World) (Q : Value → World → Prop) : Prop :=
∃ n1 : Int, w.cell? x0 = some (.int .i64 n1) ∧
cond (n1 != (0 : Int)) (
stC x1 (.int .i64 (0 : Int)) w fun w =>
Q (.tuple #[]) w) (
Q (.tuple #[]) w)
set_option maxRecDepth 100000 in
theorem W74_eq (x0 : Addr) (x1 : Addr) (w : World) (Q : Value → World → Prop) : wFn Tryd.prog Tryd.f74 W74_plan [.pointer (some x0), .pointer (some x1)] w Q = W74 x0 x1 w Q := by kernel_rfl
set_option maxRecDepth 100000 in
theorem W74_ok (x0 : Addr) (x1 : Addr) (w : World) (Q : Value → World → Prop) (h : W74 x0 x1 w Q) : Calls Tryd.prog 74 #[.pointer (some x0), .pointer (some x1)] w (fun e w' => ∃ v, e = .returned v ∧ Q v w') :=
  calls_of_wFn mixed W74_plan Tryd.func74 (by kernel_rfl) ((W74_eq x0 x1 w Q).mpr h)
set_option maxRecDepth 100000 in
theorem W74_eqD (x0 : Addr) (x1 : Addr) (w : World) (Q : Value → World → Prop) : wFnD Tryd.prog Tryd.f74 W74_plan [.pointer (some x0), .pointer (some x1)] w Q = W74 x0 x1 w Q := by kernel_rfl
set_option maxRecDepth 100000 in
theorem W74_okD (x0 : Addr) (x1 : Addr) (w : World) (Q : Value → World → Prop) (h : W74 x0 x1 w Q) : CallsR Tryd.prog 74 #[.pointer (some x0), .pointer (some x1)] w (fun w' => ∃ v, Q v w') :=
  callsR_of_wFnD mixed W74_plan Tryd.func74 (by kernel_rfl) ((W74_eqD x0 x1 w Q).mpr h)

/-! ### 75: (*hartix/tree.Tree).free -/
def W75_plan : Plan := (.n .z (.n (.n .z (.cut [2, 3, 4, 5, 6, 7, 8, 9, 10, 11, 12] [(3, .int .i64)] .z .z)) .z))
def W75 (x0 : Option Addr) (w : World) (Q : Value → World → Prop) : Prop :=
∃ (I1 : (Int × Unit) → World → Prop) (m2 : (Int × Unit) → World → Nat), (∃ t : Int × Unit, ([.int .i64 (1 : Int)] : List Value) = tv [(3, .int .i64)] t ∧ I1 t w) ∧
∀ (_ : Env) (t3 : Int × Unit) (w4 : World), I1 t3 w4 →
(fun w : World =>
cond (decide (t3.1 < (200 : Int))) (
Calls Tryd.prog 81 #[.pointer x0, .int .i64 t3.1] w fun e w =>
∃ b5 : Bool, e = .returned (.bool b5) ∧
cond (!b5) (
Q (.int .i64 t3.1) w) (
∃ t' : Int × Unit, ([.int .i64 (IntKind.i64.wrap (t3.1 + (1 : Int)))] : List Value) = tv [(3, .int .i64)] t' ∧ I1 t' w ∧ m2 t' w < m2 t3 w4)) (
Q (.int .i64 (0 : Int)) w)) w4
set_option maxRecDepth 100000 in
theorem W75_eq (x0 : Option Addr) (w : World) (Q : Value → World → Prop) : wFn Tryd.prog Tryd.f75 W75_plan [.pointer x0] w Q = W75 x0 w Q := by kernel_rfl
set_option maxRecDepth 100000 in
theorem W75_ok (x0 : Option Addr) (w : World) (Q : Value → World → Prop) (h : W75 x0 w Q) : Calls Tryd.prog 75 #[.pointer x0] w (fun e w' => ∃ v, e = .returned v ∧ Q v w') :=
  calls_of_wFn mixed W75_plan Tryd.func75 (by kernel_rfl) ((W75_eq x0 w Q).mpr h)

/-! ### 76: (*hartix/tree.Tree).look -/
def W76_plan : Plan := (.n .z (.n (.n .z (.cut [] [(14, .int .i64), (15, .agg)] .z (.cut [16, 17, 18, 19, 20, 21, 22, 23, 24] [(24, .bool)] .z .z))) .z))
def W76 (x0 : Option Addr) (x1 : Option Addr) (x2 : ByteArray) (w : World) (Q : Value → World → Prop) : Prop :=
newW #[.string x2] 9 w fun a1 w =>
newW #[.int .i64 0] 3 w fun a2 w =>
newW #[.int .i64 0] 3 w fun a3 w =>
newW #[.bool false] 4 w fun a4 w =>
Calls Tryd.prog 111 #[.pointer x0, .pointer x1] w fun e w =>
∃ v5 : Value, e = .returned (v5) ∧
rgW Tryd.prog [(14, .int .i64), (15, .agg)] v5 w (fun (t6 : Int × Array Value × Unit) w bg kn kr kx =>
newW #[.int .i64 0, .string (⟨#[]⟩ : ByteArray)] 23 w fun a7 w =>
stA 2 a7 t6.2.1 w fun w =>
bg w fun w =>
∃ J8 : (Bool × Unit) → World → Prop, (∀ (_ : Env) (t9 : Bool × Unit) (w : World), J8 t9 w →
cond t9.1 (
∃ n10 : Int, w.cell? a7 = some (.int .i64 n10) ∧
stC a2 (.int .i64 n10) w fun w =>
stC a3 (.int .i64 t6.1) w fun w =>
stC a4 (.bool true) w fun w =>
kr w) (
kn w)) ∧
∃ n11 : Int, w.cell? a7 = some (.int .i64 n11) ∧
cond (n11 != (0 : Int)) (
∃ s12 : ByteArray, w.cell? (a7.add 1) = some (.string s12) ∧
∃ s13 : ByteArray, w.cell? a1 = some (.string s13) ∧
∃ t : Bool × Unit, ([.bool (strEq s12 s13)] : List Value) = tv [(24, .bool)] t ∧ J8 t w) (
∃ t : Bool × Unit, ([.bool false] : List Value) = tv [(24, .bool)] t ∧ J8 t w)) (fun d14 w =>
stC a2 (.int .i64 (0 : Int)) w fun w =>
stC a3 (.int .i64 (0 : Int)) w fun w =>
stC a4 (.bool false) w fun w =>
(w.heap[d14]? = some (.deferred (some [])) ∧
(fun w : World =>
∃ n15 : Int, w.cell? a2 = some (.int .i64 n15) ∧
∃ n16 : Int, w.cell? a3 = some (.int .i64 n16) ∧
∃ b17 : Bool, w.cell? a4 = some (.bool b17) ∧
Q (.tuple #[.int .i64 n15, .int .i64 n16, .bool b17]) w) (w.putObj d14 (.deferred none)))) (fun d14 w =>
(w.heap[d14]? = some (.deferred (some [])) ∧
(fun w : World =>
∃ n18 : Int, w.cell? a2 = some (.int .i64 n18) ∧
∃ n19 : Int, w.cell? a3 = some (.int .i64 n19) ∧
∃ b20 : Bool, w.cell? a4 = some (.bool b20) ∧
Q (.tuple #[.int .i64 n18, .int .i64 n19, .bool b20]) w) (w.putObj d14 (.deferred none)))) (fun d14 id w =>
cond (Nat.beq id 0) (
stC a2 (.int .i64 (0 : Int)) w fun w =>
stC a3 (.int .i64 (0 : Int)) w fun w =>
stC a4 (.bool false) w fun w =>
(w.heap[d14]? = some (.deferred (some [])) ∧
(fun w : World =>
∃ n21 : Int, w.cell? a2 = some (.int .i64 n21) ∧
∃ n22 : Int, w.cell? a3 = some (.int .i64 n22) ∧
∃ b23 : Bool, w.cell? a4 = some (.bool b23) ∧
Q (.tuple #[.int .i64 n21, .int .i64 n22, .bool b23]) w) (w.putObj d14 (.deferred none)))) (
False))
set_option maxRecDepth 100000 in
theorem W76_eq (x0 : Option Addr) (x1 : Option Addr) (x2 : ByteArray) (w : World) (Q : Value → World → Prop) : wFn Tryd.prog Tryd.f76 W76_plan [.pointer x0, .pointer x1, .string x2] w Q = W76 x0 x1 x2 w Q := by kernel_rfl
set_option maxRecDepth 100000 in
theorem W76_ok (x0 : Option Addr) (x1 : Option Addr) (x2 : ByteArray) (w : World) (Q : Value → World → Prop) (h : W76 x0 x1 x2 w Q) : Calls Tryd.prog 76 #[.pointer x0, .pointer x1, .string x2] w (fun e w' => ∃ v, e = .returned v ∧ Q v w') :=
  calls_of_wFn mixed W76_plan Tryd.func76 (by kernel_rfl) ((W76_eq x0 x1 x2 w Q).mpr h)

/-! ### 77: (*hartix/tree.Tree).wants -/
def W77_plan : Plan := (.n .z (.n .z (.n .z (.n (.cut [12, 13, 14, 15, 16, 17, 18, 19, 20, 21, 22, 23] [(23, .bool)] .z .z) .z))))
def W77 (x0 : Option Addr) (x1 : Option Addr) (w : World) (Q : Value → World → Prop) : Prop :=
Calls Tryd.prog 120 #[.pointer x0, .pointer x1] w fun e w =>
∃ n1 : Int, e = .returned (.int .i64 n1) ∧
cond (n1 == (262144 : Int)) (
Q (.tuple #[.int .i64 (0 : Int), .bool false]) w) (
∃ J2 : (Bool × Unit) → World → Prop, (∀ (_ : Env) (t3 : Bool × Unit) (w : World), J2 t3 w →
cond t3.1 (
Q (.tuple #[.int .i64 (1 : Int), .bool true]) w) (
Q (.tuple #[.int .i64 (0 : Int), .bool true]) w)) ∧
nlW x1 fun a4 =>
∃ n5 : Int, w.cell? (a4.add 5) = some (.int .i64 n5) ∧
cond (n1 == n5) (
((4096 : Int) ≠ 0 ∧
∃ t : Bool × Unit, ([.bool ((n1.tmod (4096 : Int)) == (0 : Int))] : List Value) = tv [(23, .bool)] t ∧ J2 t w)) (
∃ t : Bool × Unit, ([.bool false] : List Value) = tv [(23, .bool)] t ∧ J2 t w))
set_option maxRecDepth 100000 in
theorem W77_eq (x0 : Option Addr) (x1 : Option Addr) (w : World) (Q : Value → World → Prop) : wFn Tryd.prog Tryd.f77 W77_plan [.pointer x0, .pointer x1] w Q = W77 x0 x1 w Q := by kernel_rfl
set_option maxRecDepth 100000 in
theorem W77_ok (x0 : Option Addr) (x1 : Option Addr) (w : World) (Q : Value → World → Prop) (h : W77 x0 x1 w Q) : Calls Tryd.prog 77 #[.pointer x0, .pointer x1] w (fun e w' => ∃ v, e = .returned v ∧ Q v w') :=
  calls_of_wFn mixed W77_plan Tryd.func77 (by kernel_rfl) ((W77_eq x0 x1 w Q).mpr h)

/-! ### 78: (*hartix/tree.Tree).directory -/
def W78_plan : Plan := .z
def W78 (x0 : Option Addr) (x1 : Int) (x2 : Int) (w : World) (Q : Value → World → Prop) : Prop :=
nlW x0 fun a1 =>
((0 ≤ x1 ∧ x1 < ((200 : Nat) : Int)) ∧
∃ g2 : Array Value, bldP Tryd.prog 118 [(0, .int .i64 (1 : Int)), (3, .int .i64 (1 : Int))] (.agg g2) ∧
stA 6 ((a1.add 1).add (x1.toNat * 7)) g2 w fun w =>
Calls Tryd.prog 82 #[.pointer x0, .pointer (some ((a1.add 1).add (x1.toNat * 7)))] w fun e w =>
∃ b3 : Bool, e = .returned (.bool b3) ∧
∃ g4 : Array Value, bldP Tryd.prog 23 [(0, .int .i64 x1), (1, .string (⟨#[46]⟩ : ByteArray))] (.agg g4) ∧
Calls Tryd.prog 19 #[.agg g4] w fun e w =>
∃ (q5b : Option Addr) (q5l q5c : Nat), e = .returned (.slice q5b q5l q5c) ∧
∃ g6 : Array Value, bldP Tryd.prog 23 [(0, .int .i64 x2), (1, .string (⟨#[46, 46]⟩ : ByteArray))] (.agg g6) ∧
Calls Tryd.prog 19 #[.agg g6] w fun e w =>
∃ (q7b : Option Addr) (q7l q7c : Nat), e = .returned (.slice q7b q7l q7c) ∧
apnW Tryd.prog 24 24 (.slice q5b q5l q5c) (.slice q7b q7l q7c) w fun q8b q8l q8c w =>
Calls Tryd.prog 83 #[.pointer x0, .pointer (some ((a1.add 1).add (x1.toNat * 7))), .int .i64 (0 : Int), .slice q8b q8l q8c] w fun e w =>
e = .returned (.tuple #[]) ∧
Q (.tuple #[]) w)
set_option maxRecDepth 100000 in
theorem W78_eq (x0 : Option Addr) (x1 : Int) (x2 : Int) (w : World) (Q : Value → World → Prop) : wFn Tryd.prog Tryd.f78 W78_plan [.pointer x0, .int .i64 x1, .int .i64 x2] w Q = W78 x0 x1 x2 w Q := by kernel_rfl
set_option maxRecDepth 100000 in
theorem W78_ok (x0 : Option Addr) (x1 : Int) (x2 : Int) (w : World) (Q : Value → World → Prop) (h : W78 x0 x1 x2 w Q) : Calls Tryd.prog 78 #[.pointer x0, .int .i64 x1, .int .i64 x2] w (fun e w' => ∃ v, e = .returned v ∧ Q v w') :=
  calls_of_wFn mixed W78_plan Tryd.func78 (by kernel_rfl) ((W78_eq x0 x1 x2 w Q).mpr h)

/-! ### 79: (*hartix/tree.Tree).enter -/
def W79_plan : Plan := (.n .z (.n .z (.cut [10, 11, 12, 13, 14, 15, 16, 17, 18, 19, 20] [] .z .z)))
def W79 (x0 : Option Addr) (x1 : Option Addr) (x2 : Array Value) (w : World) (Q : Value → World → Prop) : Prop :=
newW x2 23 w fun a1 w =>
Calls Tryd.prog 120 #[.pointer x0, .pointer x1] w fun e w =>
∃ n2 : Int, e = .returned (.int .i64 n2) ∧
∃ J3 : (Unit) → World → Prop, (∀ (_ : Env) (t4 : Unit) (w : World), J3 t4 w →
∃ g5 : Array Value, g5.size = 2 ∧ RowAt w a1 g5 ∧
Calls Tryd.prog 19 #[.agg g5] w fun e w =>
∃ (q6b : Option Addr) (q6l q6c : Nat), e = .returned (.slice q6b q6l q6c) ∧
Calls Tryd.prog 83 #[.pointer x0, .pointer x1, .int .i64 n2, .slice q6b q6l q6c] w fun e w =>
e = .returned (.tuple #[]) ∧
Q (.tuple #[]) w) ∧
nlW x1 fun a7 =>
∃ (q8b : Option Addr) (q8l q8c : Nat), w.cell? (a7.add 6) = some (.slice q8b q8l q8c) ∧
cond (n2 == (IntKind.i64.wrap (((q8l : Nat) : Int) * (4096 : Int)))) (
Calls Tryd.prog 82 #[.pointer x0, .pointer x1] w fun e w =>
∃ b9 : Bool, e = .returned (.bool b9) ∧
∃ t : Unit, ([] : List Value) = tv [] t ∧ J3 t w) (
∃ t : Unit, ([] : List Value) = tv [] t ∧ J3 t w)
set_option maxRecDepth 100000 in
theorem W79_eq (x0 : Option Addr) (x1 : Option Addr) (x2 : Array Value) (w : World) (Q : Value → World → Prop) : wFn Tryd.prog Tryd.f79 W79_plan [.pointer x0, .pointer x1, .agg x2] w Q = W79 x0 x1 x2 w Q := by kernel_rfl
set_option maxRecDepth 100000 in
theorem W79_ok (x0 : Option Addr) (x1 : Option Addr) (x2 : Array Value) (w : World) (Q : Value → World → Prop) (h : W79 x0 x1 x2 w Q) : Calls Tryd.prog 79 #[.pointer x0, .pointer x1, .agg x2] w (fun e w' => ∃ v, e = .returned v ∧ Q v w') :=
  calls_of_wFn mixed W79_plan Tryd.func79 (by kernel_rfl) ((W79_eq x0 x1 x2 w Q).mpr h)

/-! ### 81: (*hartix/tree.Tree).there -/
def W81_plan : Plan := .z
def W81 (x0 : Option Addr) (x1 : Int) (w : World) (Q : Value → World → Prop) : Prop :=
cond (decide (x1 > (0 : Int))) (
cond (decide (x1 < (200 : Int))) (
nlW x0 fun a1 =>
((0 ≤ x1 ∧ x1 < ((200 : Nat) : Int)) ∧
∃ g2 : Array Value, g2.size = 6 ∧ RowAt w ((a1.add 1).add (x1.toNat * 7)) g2 ∧
∃ g3 : Array Value, bldP Tryd.prog 118 [] (.agg g3) ∧
∃ b4 : Bool, AggEq Tryd.prog 118 g2 g3 b4 ∧
Q (.bool (!b4)) w)) (
Q (.bool false) w)) (
Q (.bool false) w)
set_option maxRecDepth 100000 in
theorem W81_eq (x0 : Option Addr) (x1 : Int) (w : World) (Q : Value → World → Prop) : wFn Tryd.prog Tryd.f81 W81_plan [.pointer x0, .int .i64 x1] w Q = W81 x0 x1 w Q := by kernel_rfl
set_option maxRecDepth 100000 in
theorem W81_ok (x0 : Option Addr) (x1 : Int) (w : World) (Q : Value → World → Prop) (h : W81 x0 x1 w Q) : Calls Tryd.prog 81 #[.pointer x0, .int .i64 x1] w (fun e w' => ∃ v, e = .returned v ∧ Q v w') :=
  calls_of_wFn mixed W81_plan Tryd.func81 (by kernel_rfl) ((W81_eq x0 x1 w Q).mpr h)

/-! ### 82: (*hartix/tree.Tree).grow -/
def W82_plan : Plan := .z
def W82 (x0 : Option Addr) (x1 : Option Addr) (w : World) (Q : Value → World → Prop) : Prop :=
nlW x0 fun a1 =>
∃ p2 : Option Addr, w.cell? a1 = some (.pointer p2) ∧
Calls Tryd.prog 121 #[.pointer p2] w fun e w =>
∃ n3 : Int, ∃ b4 : Bool, e = .returned (.tuple #[.int .u64 n3, .bool b4]) ∧
cond b4 (
nlW x1 fun a5 =>
∃ (q6b : Option Addr) (q6l q6c : Nat), w.cell? (a5.add 6) = some (.slice q6b q6l q6c) ∧
∃ g7 : Array Value, bslP Tryd.prog 48 1 [(0, .int .u64 n3)] g7 100 ∧
newW g7 100 w fun a8 w =>
apnW Tryd.prog 48 48 (.slice q6b q6l q6c) (.slice (some a8) 1 1) w fun q9b q9l q9c w =>
nlW x1 fun a10 =>
stC (a10.add 6) (.slice q9b q9l q9c) w fun w =>
Q (.bool b4) w) (
Q (.bool b4) w)
set_option maxRecDepth 100000 in
theorem W82_eq (x0 : Option Addr) (x1 : Option Addr) (w : World) (Q : Value → World → Prop) : wFn Tryd.prog Tryd.f82 W82_plan [.pointer x0, .pointer x1] w Q = W82 x0 x1 w Q := by kernel_rfl
set_option maxRecDepth 100000 in
theorem W82_ok (x0 : Option Addr) (x1 : Option Addr) (w : World) (Q : Value → World → Prop) (h : W82 x0 x1 w Q) : Calls Tryd.prog 82 #[.pointer x0, .pointer x1] w (fun e w' => ∃ v, e = .returned v ∧ Q v w') :=
  calls_of_wFn mixed W82_plan Tryd.func82 (by kernel_rfl) ((W82_eq x0 x1 w Q).mpr h)

/-! ### 83: (*hartix/tree.Tree).put -/
def W83_plan : Plan := (.n (.cut [2, 3, 8, 9, 10, 11, 12, 13, 14, 15, 16, 17, 18, 19, 20, 21, 22, 23, 24, 25, 26, 27, 28, 29, 30, 31, 32, 33, 34, 35, 36, 37, 38, 39, 40, 41, 42, 43] [(2, .int .i64), (3, .slice)] .z .z) .z)
def W83 (x0 : Option Addr) (x1 : Option Addr) (x2 : Int) (x3b : Option Addr) (x3l x3c : Nat) (w : World) (Q : Value → World → Prop) : Prop :=
∃ (I1 : (Int × (Option Addr × Nat × Nat) × Unit) → World → Prop) (m2 : (Int × (Option Addr × Nat × Nat) × Unit) → World → Nat), (∃ t : Int × (Option Addr × Nat × Nat) × Unit, ([.int .i64 x2, .slice x3b x3l x3c] : List Value) = tv [(2, .int .i64), (3, .slice)] t ∧ I1 t w) ∧
∀ (_ : Env) (t3 : Int × (Option Addr × Nat × Nat) × Unit) (w4 : World), I1 t3 w4 →
(fun w : World =>
cond (decide (((t3.2.1.2.1 : Nat) : Int) > (0 : Int))) (
((4096 : Int) ≠ 0 ∧
nlW x0 fun a5 =>
∃ S6 : World → Prop, S6 w.drew ∧
∃ p7 : Option Addr, (∀ w', S6 w' → w'.cell? a5 = some (.pointer p7)) ∧
nlW x1 fun a8 =>
∃ (q9b : Option Addr) (q9l q9c : Nat), (∀ w', S6 w' → w'.cell? (a8.add 6) = some (.slice q9b q9l q9c)) ∧
((4096 : Int) ≠ 0 ∧
nlW q9b fun a10 =>
((0 ≤ (IntKind.i64.wrap (t3.1.tdiv (4096 : Int))) ∧ (IntKind.i64.wrap (t3.1.tdiv (4096 : Int))) < ((q9l : Nat) : Int)) ∧
∃ n11 : Int, (∀ w', S6 w' → w'.cell? (a10.add ((IntKind.i64.wrap (t3.1.tdiv (4096 : Int))).toNat * 1)) = some (.int .u64 n11)) ∧
((4096 : Int) ≠ 0 ∧
((0 ≤ (if (IntKind.i64.wrap ((4096 : Int) - (t3.1.tmod (4096 : Int)))) < ((t3.2.1.2.1 : Nat) : Int) then (IntKind.i64.wrap ((4096 : Int) - (t3.1.tmod (4096 : Int)))) else ((t3.2.1.2.1 : Nat) : Int)) ∧ (if (IntKind.i64.wrap ((4096 : Int) - (t3.1.tmod (4096 : Int)))) < ((t3.2.1.2.1 : Nat) : Int) then (IntKind.i64.wrap ((4096 : Int) - (t3.1.tmod (4096 : Int)))) else ((t3.2.1.2.1 : Nat) : Int)) ≤ ((t3.2.1.2.2 : Nat) : Int)) ∧
Calls Tryd.prog 122 #[.pointer p7, .int .u64 (IntKind.u64.wrap (n11 + (IntKind.u64.wrap (t3.1.tmod (4096 : Int))))), .slice (slB t3.2.1.1 0 t3.2.1.2.2 1) (((if (IntKind.i64.wrap ((4096 : Int) - (t3.1.tmod (4096 : Int)))) < ((t3.2.1.2.1 : Nat) : Int) then (IntKind.i64.wrap ((4096 : Int) - (t3.1.tmod (4096 : Int)))) else ((t3.2.1.2.1 : Nat) : Int)).toNat) - 0) (t3.2.1.2.2 - 0)] w.drew fun e w =>
∃ b12 : Bool, e = .returned (.bool b12) ∧
((0 ≤ (if (IntKind.i64.wrap ((4096 : Int) - (t3.1.tmod (4096 : Int)))) < ((t3.2.1.2.1 : Nat) : Int) then (IntKind.i64.wrap ((4096 : Int) - (t3.1.tmod (4096 : Int)))) else ((t3.2.1.2.1 : Nat) : Int)) ∧ (if (IntKind.i64.wrap ((4096 : Int) - (t3.1.tmod (4096 : Int)))) < ((t3.2.1.2.1 : Nat) : Int) then (IntKind.i64.wrap ((4096 : Int) - (t3.1.tmod (4096 : Int)))) else ((t3.2.1.2.1 : Nat) : Int)) ≤ ((t3.2.1.2.1 : Nat) : Int)) ∧
∃ t' : Int × (Option Addr × Nat × Nat) × Unit, ([.int .i64 (IntKind.i64.wrap (t3.1 + (if (IntKind.i64.wrap ((4096 : Int) - (t3.1.tmod (4096 : Int)))) < ((t3.2.1.2.1 : Nat) : Int) then (IntKind.i64.wrap ((4096 : Int) - (t3.1.tmod (4096 : Int)))) else ((t3.2.1.2.1 : Nat) : Int)))), .slice (slB t3.2.1.1 ((if (IntKind.i64.wrap ((4096 : Int) - (t3.1.tmod (4096 : Int)))) < ((t3.2.1.2.1 : Nat) : Int) then (IntKind.i64.wrap ((4096 : Int) - (t3.1.tmod (4096 : Int)))) else ((t3.2.1.2.1 : Nat) : Int)).toNat) t3.2.1.2.2 1) (t3.2.1.2.1 - ((if (IntKind.i64.wrap ((4096 : Int) - (t3.1.tmod (4096 : Int)))) < ((t3.2.1.2.1 : Nat) : Int) then (IntKind.i64.wrap ((4096 : Int) - (t3.1.tmod (4096 : Int)))) else ((t3.2.1.2.1 : Nat) : Int)).toNat)) (t3.2.1.2.2 - ((if (IntKind.i64.wrap ((4096 : Int) - (t3.1.tmod (4096 : Int)))) < ((t3.2.1.2.1 : Nat) : Int) then (IntKind.i64.wrap ((4096 : Int) - (t3.1.tmod (4096 : Int)))) else ((t3.2.1.2.1 : Nat) : Int)).toNat))] : List Value) = tv [(2, .int .i64), (3, .slice)] t' ∧ I1 t' w ∧ m2 t' w < m2 t3 w4))))))) (
nlW x1 fun a13 =>
∃ n14 : Int, w.cell? (a13.add 5) = some (.int .i64 n14) ∧
nlW x1 fun a15 =>
stC (a15.add 5) (.int .i64 (if t3.1 > n14 then t3.1 else n14)) w fun w =>
Q (.tuple #[]) w)) w4
set_option maxRecDepth 100000 in
theorem W83_eq (x0 : Option Addr) (x1 : Option Addr) (x2 : Int) (x3b : Option Addr) (x3l x3c : Nat) (w : World) (Q : Value → World → Prop) : wFn Tryd.prog Tryd.f83 W83_plan [.pointer x0, .pointer x1, .int .i64 x2, .slice x3b x3l x3c] w Q = W83 x0 x1 x2 x3b x3l x3c w Q := by kernel_rfl
set_option maxRecDepth 100000 in
theorem W83_ok (x0 : Option Addr) (x1 : Option Addr) (x2 : Int) (x3b : Option Addr) (x3l x3c : Nat) (w : World) (Q : Value → World → Prop) (h : W83 x0 x1 x2 x3b x3l x3c w Q) : Calls Tryd.prog 83 #[.pointer x0, .pointer x1, .int .i64 x2, .slice x3b x3l x3c] w (fun e w' => ∃ v, e = .returned v ∧ Q v w') :=
  calls_of_wFn mixed W83_plan Tryd.func83 (by kernel_rfl) ((W83_eq x0 x1 x2 x3b x3l x3c w Q).mpr h)

/-! ### 84: (*hartix/tree.Tree).get -/
def W84_plan : Plan := (.n .z (.n .z (.n (.cut [2, 3, 9, 10, 11, 12, 13, 14, 15, 16, 17, 18, 19, 20, 21, 22, 23, 24, 25, 26, 27, 28, 29, 30, 31, 32, 33, 34, 35, 36, 37, 38, 39, 40, 41, 42, 43, 44, 45, 46, 47, 48, 49] [(2, .int .i64), (3, .int .i64), (9, .slice)] .z .z) .z)))
def W84 (x0 : Option Addr) (x1 : Option Addr) (x2 : Int) (x3 : Int) (w : World) (Q : Value → World → Prop) : Prop :=
∃ (I1 : (Int × Int × (Option Addr × Nat × Nat) × Unit) → World → Prop) (m2 : (Int × Int × (Option Addr × Nat × Nat) × Unit) → World → Nat), (∃ t : Int × Int × (Option Addr × Nat × Nat) × Unit, ([.int .i64 x2, .int .i64 x3, .slice none 0 0] : List Value) = tv [(2, .int .i64), (3, .int .i64), (9, .slice)] t ∧ I1 t w) ∧
∀ (_ : Env) (t3 : Int × Int × (Option Addr × Nat × Nat) × Unit) (w4 : World), I1 t3 w4 →
(fun w : World =>
cond (decide (t3.2.1 > (0 : Int))) (
((4096 : Int) ≠ 0 ∧
nlW x0 fun a5 =>
∃ S6 : World → Prop, S6 w.drew ∧
∃ p7 : Option Addr, (∀ w', S6 w' → w'.cell? a5 = some (.pointer p7)) ∧
nlW x1 fun a8 =>
∃ (q9b : Option Addr) (q9l q9c : Nat), (∀ w', S6 w' → w'.cell? (a8.add 6) = some (.slice q9b q9l q9c)) ∧
((4096 : Int) ≠ 0 ∧
nlW q9b fun a10 =>
((0 ≤ (IntKind.i64.wrap (t3.1.tdiv (4096 : Int))) ∧ (IntKind.i64.wrap (t3.1.tdiv (4096 : Int))) < ((q9l : Nat) : Int)) ∧
∃ n11 : Int, (∀ w', S6 w' → w'.cell? (a10.add ((IntKind.i64.wrap (t3.1.tdiv (4096 : Int))).toNat * 1)) = some (.int .u64 n11)) ∧
((4096 : Int) ≠ 0 ∧
Calls Tryd.prog 123 #[.pointer p7, .int .u64 (IntKind.u64.wrap (n11 + (IntKind.u64.wrap (t3.1.tmod (4096 : Int))))), .int .i64 (if (IntKind.i64.wrap ((4096 : Int) - (t3.1.tmod (4096 : Int)))) < t3.2.1 then (IntKind.i64.wrap ((4096 : Int) - (t3.1.tmod (4096 : Int)))) else t3.2.1)] w.drew fun e w =>
∃ (q12b : Option Addr) (q12l q12c : Nat), ∃ b13 : Bool, e = .returned (.tuple #[.slice q12b q12l q12c, .bool b13]) ∧
apnW Tryd.prog 24 24 (.slice t3.2.2.1.1 t3.2.2.1.2.1 t3.2.2.1.2.2) (.slice q12b q12l q12c) w fun q14b q14l q14c w =>
∃ t' : Int × Int × (Option Addr × Nat × Nat) × Unit, ([.int .i64 (IntKind.i64.wrap (t3.1 + (if (IntKind.i64.wrap ((4096 : Int) - (t3.1.tmod (4096 : Int)))) < t3.2.1 then (IntKind.i64.wrap ((4096 : Int) - (t3.1.tmod (4096 : Int)))) else t3.2.1))), .int .i64 (IntKind.i64.wrap (t3.2.1 - (if (IntKind.i64.wrap ((4096 : Int) - (t3.1.tmod (4096 : Int)))) < t3.2.1 then (IntKind.i64.wrap ((4096 : Int) - (t3.1.tmod (4096 : Int)))) else t3.2.1))), .slice q14b q14l q14c] : List Value) = tv [(2, .int .i64), (3, .int .i64), (9, .slice)] t' ∧ I1 t' w ∧ m2 t' w < m2 t3 w4))))) (
Q (.slice t3.2.2.1.1 t3.2.2.1.2.1 t3.2.2.1.2.2) w)) w4
set_option maxRecDepth 100000 in
theorem W84_eq (x0 : Option Addr) (x1 : Option Addr) (x2 : Int) (x3 : Int) (w : World) (Q : Value → World → Prop) : wFn Tryd.prog Tryd.f84 W84_plan [.pointer x0, .pointer x1, .int .i64 x2, .int .i64 x3] w Q = W84 x0 x1 x2 x3 w Q := by kernel_rfl
set_option maxRecDepth 100000 in
theorem W84_ok (x0 : Option Addr) (x1 : Option Addr) (x2 : Int) (x3 : Int) (w : World) (Q : Value → World → Prop) (h : W84 x0 x1 x2 x3 w Q) : Calls Tryd.prog 84 #[.pointer x0, .pointer x1, .int .i64 x2, .int .i64 x3] w (fun e w' => ∃ v, e = .returned v ∧ Q v w') :=
  calls_of_wFn mixed W84_plan Tryd.func84 (by kernel_rfl) ((W84_eq x0 x1 x2 x3 w Q).mpr h)

/-! ### 110: (*hartix/tree.Tree).walk -/
def W110_plan : Plan := (.n .z (.n .z (.n .z (.cut [1, 8, 10, 11, 12, 13, 14, 15, 16, 17, 18, 19, 20, 21, 22, 23, 24, 25, 26, 27, 28, 29, 30, 31, 32, 33, 34, 35, 36, 37, 38, 39, 40, 41, 42, 43, 44, 45, 46] [(1, .int .i64), (8, .int .i64)] (.n .z (.cut [1, 8, 10, 11, 12, 13, 16, 17, 18, 19, 20, 21, 22, 23, 24, 25, 26, 27, 28, 29, 30, 31, 32, 33, 34, 35, 36, 37, 38, 39, 40, 41, 42, 43, 44, 45, 46] [(1, .int .i64), (8, .int .i64), (16, .int .i64)] .z .z)) .z))))
def W110 (x0 : Option Addr) (x1 : Int) (x2b : Option Addr) (x2l x2c : Nat) (w : World) (Q : Value → World → Prop) : Prop :=
∃ J1 : (Int × Int × Unit) → World → Prop, (∀ (_ : Env) (t2 : Int × Int × Unit) (w : World), J1 t2 w →
cond (t2.2.1 != (0 : Int)) (
Q (.tuple #[.int .i64 (0 : Int), .int .i64 t2.2.1]) w) (
Q (.tuple #[.int .i64 t2.1, .int .i64 (0 : Int)]) w)) ∧
∃ (I3 : (Int × Int × Int × Unit) → World → Prop) (m4 : (Int × Int × Int × Unit) → World → Nat), (∃ t : Int × Int × Int × Unit, ([.int .i64 x1, .int .i64 (0 : Int), .int .i64 (0 : Int)] : List Value) = tv [(1, .int .i64), (8, .int .i64), (16, .int .i64)] t ∧ I3 t w) ∧
∀ (_ : Env) (t5 : Int × Int × Int × Unit) (w6 : World), I3 t5 w6 →
(fun w : World =>
cond (decide (t5.2.2.1 < ((x2l : Nat) : Int))) (
nlW x2b fun a7 =>
((0 ≤ t5.2.2.1 ∧ t5.2.2.1 < ((x2l : Nat) : Int)) ∧
∃ s8 : ByteArray, w.cell? (a7.add (t5.2.2.1.toNat * 1)) = some (.string s8) ∧
nlW x0 fun a9 =>
((0 ≤ t5.1 ∧ t5.1 < ((200 : Nat) : Int)) ∧
Calls Tryd.prog 76 #[.pointer x0, .pointer (some ((a9.add 1).add (t5.1.toNat * 7))), .string s8] w fun e w =>
∃ n10 : Int, ∃ n11 : Int, ∃ b12 : Bool, e = .returned (.tuple #[.int .i64 n10, .int .i64 n11, .bool b12]) ∧
nlW x0 fun a13 =>
((0 ≤ t5.1 ∧ t5.1 < ((200 : Nat) : Int)) ∧
∃ n14 : Int, w.cell? ((a13.add 1).add (t5.1.toNat * 7)) = some (.int .i64 n14) ∧
cond (n14 != (1 : Int)) (
∃ t : Int × Int × Unit, ([.int .i64 t5.1, .int .i64 (183 : Int)] : List Value) = tv [(1, .int .i64), (8, .int .i64)] t ∧ J1 t w) (
cond (!b12) (
∃ t : Int × Int × Unit, ([.int .i64 t5.1, .int .i64 (182 : Int)] : List Value) = tv [(1, .int .i64), (8, .int .i64)] t ∧ J1 t w) (
∃ t' : Int × Int × Int × Unit, ([.int .i64 n10, .int .i64 t5.2.1, .int .i64 (IntKind.i64.wrap (t5.2.2.1 + (1 : Int)))] : List Value) = tv [(1, .int .i64), (8, .int .i64), (16, .int .i64)] t' ∧ I3 t' w ∧ m4 t' w < m4 t5 w6)))))) (
∃ t : Int × Int × Unit, ([.int .i64 t5.1, .int .i64 t5.2.1] : List Value) = tv [(1, .int .i64), (8, .int .i64)] t ∧ J1 t w)) w6
set_option maxRecDepth 100000 in
theorem W110_eq (x0 : Option Addr) (x1 : Int) (x2b : Option Addr) (x2l x2c : Nat) (w : World) (Q : Value → World → Prop) : wFn Tryd.prog Tryd.f110 W110_plan [.pointer x0, .int .i64 x1, .slice x2b x2l x2c] w Q = W110 x0 x1 x2b x2l x2c w Q := by kernel_rfl
set_option maxRecDepth 100000 in
theorem W110_ok (x0 : Option Addr) (x1 : Int) (x2b : Option Addr) (x2l x2c : Nat) (w : World) (Q : Value → World → Prop) (h : W110 x0 x1 x2b x2l x2c w Q) : Calls Tryd.prog 110 #[.pointer x0, .int .i64 x1, .slice x2b x2l x2c] w (fun e w' => ∃ v, e = .returned v ∧ Q v w') :=
  calls_of_wFn mixed W110_plan Tryd.func110 (by kernel_rfl) ((W110_eq x0 x1 x2b x2l x2c w Q).mpr h)

/-! ### 111: (*hartix/tree.Tree).entries -/
def W111_plan : Plan := .z
def W111 (x0 : Option Addr) (x1 : Option Addr) (w : World) (Q : Value → World → Prop) : Prop :=
newW #[.pointer x0] 40 w fun a1 w =>
newW #[.pointer x1] 165 w fun a2 w =>
Q (.func (.func 137) #[] #[.pointer (some a2), .pointer (some a1)]) w
set_option maxRecDepth 100000 in
theorem W111_eq (x0 : Option Addr) (x1 : Option Addr) (w : World) (Q : Value → World → Prop) : wFn Tryd.prog Tryd.f111 W111_plan [.pointer x0, .pointer x1] w Q = W111 x0 x1 w Q := by kernel_rfl
set_option maxRecDepth 100000 in
theorem W111_ok (x0 : Option Addr) (x1 : Option Addr) (w : World) (Q : Value → World → Prop) (h : W111 x0 x1 w Q) : Calls Tryd.prog 111 #[.pointer x0, .pointer x1] w (fun e w' => ∃ v, e = .returned v ∧ Q v w') :=
  calls_of_wFn mixed W111_plan Tryd.func111 (by kernel_rfl) ((W111_eq x0 x1 w Q).mpr h)

/-! ### 112: (*hartix/tree.Tree).empty -/
def W112_plan : Plan := (.n (.n .z (.cut [5, 11, 12, 13, 14, 15, 16, 17, 18, 19, 20, 21] [(11, .int .i64)] .z .z)) .z)
def W112 (x0 : Option Addr) (x1 : Option Addr) (w : World) (Q : Value → World → Prop) : Prop :=
nlW x1 fun a1 =>
∃ (q2b : Option Addr) (q2l q2c : Nat), w.cell? (a1.add 6) = some (.slice q2b q2l q2c) ∧
∃ (I3 : (Int × Unit) → World → Prop) (m4 : (Int × Unit) → World → Nat), (∃ t : Int × Unit, ([.int .i64 (0 : Int)] : List Value) = tv [(11, .int .i64)] t ∧ I3 t w) ∧
∀ (_ : Env) (t5 : Int × Unit) (w6 : World), I3 t5 w6 →
(fun w : World =>
cond (decide (t5.1 < ((q2l : Nat) : Int))) (
nlW q2b fun a7 =>
((0 ≤ t5.1 ∧ t5.1 < ((q2l : Nat) : Int)) ∧
∃ n8 : Int, w.cell? (a7.add (t5.1.toNat * 1)) = some (.int .u64 n8) ∧
nlW x0 fun a9 =>
∃ p10 : Option Addr, w.cell? a9 = some (.pointer p10) ∧
Calls Tryd.prog 138 #[.pointer p10, .int .u64 n8] w fun e w =>
∃ n11 : Int, e = .returned (.int .i64 n11) ∧
∃ t' : Int × Unit, ([.int .i64 (IntKind.i64.wrap (t5.1 + (1 : Int)))] : List Value) = tv [(11, .int .i64)] t' ∧ I3 t' w ∧ m4 t' w < m4 t5 w6)) (
nlW x1 fun a12 =>
stC (a12.add 6) (.slice none 0 0) w fun w =>
nlW x1 fun a13 =>
stC (a13.add 5) (.int .i64 (0 : Int)) w fun w =>
Q (.tuple #[]) w)) w6
set_option maxRecDepth 100000 in
theorem W112_eq (x0 : Option Addr) (x1 : Option Addr) (w : World) (Q : Value → World → Prop) : wFn Tryd.prog Tryd.f112 W112_plan [.pointer x0, .pointer x1] w Q = W112 x0 x1 w Q := by kernel_rfl
set_option maxRecDepth 100000 in
theorem W112_ok (x0 : Option Addr) (x1 : Option Addr) (w : World) (Q : Value → World → Prop) (h : W112 x0 x1 w Q) : Calls Tryd.prog 112 #[.pointer x0, .pointer x1] w (fun e w' => ∃ v, e = .returned v ∧ Q v w') :=
  calls_of_wFn mixed W112_plan Tryd.func112 (by kernel_rfl) ((W112_eq x0 x1 w Q).mpr h)

/-! ### 113: (*hartix/tree.Tree).settle -/
def W113_plan : Plan := (.cut [4, 5, 6, 7, 8, 9, 10, 11, 12, 13, 14, 15, 16, 17] [(17, .bool)] .z .z)
def W113 (x0 : Option Addr) (x1 : Option Addr) (w : World) (Q : Value → World → Prop) : Prop :=
∃ J1 : (Bool × Unit) → World → Prop, (∀ (_ : Env) (t2 : Bool × Unit) (w : World), J1 t2 w →
cond t2.1 (
Calls Tryd.prog 112 #[.pointer x0, .pointer x1] w fun e w =>
e = .returned (.tuple #[]) ∧
∃ g3 : Array Value, bldP Tryd.prog 120 [] (.agg g3) ∧
nlW x1 fun a4 =>
stA 7 a4 g3 w fun w =>
Q (.tuple #[]) w) (
Q (.tuple #[]) w)) ∧
nlW x1 fun a5 =>
∃ n6 : Int, w.cell? (a5.add 3) = some (.int .i64 n6) ∧
cond (n6 == (0 : Int)) (
nlW x1 fun a7 =>
∃ n8 : Int, w.cell? (a7.add 4) = some (.int .i64 n8) ∧
∃ t : Bool × Unit, ([.bool (n8 == (0 : Int))] : List Value) = tv [(17, .bool)] t ∧ J1 t w) (
∃ t : Bool × Unit, ([.bool false] : List Value) = tv [(17, .bool)] t ∧ J1 t w)
set_option maxRecDepth 100000 in
theorem W113_eq (x0 : Option Addr) (x1 : Option Addr) (w : World) (Q : Value → World → Prop) : wFn Tryd.prog Tryd.f113 W113_plan [.pointer x0, .pointer x1] w Q = W113 x0 x1 w Q := by kernel_rfl
set_option maxRecDepth 100000 in
theorem W113_ok (x0 : Option Addr) (x1 : Option Addr) (w : World) (Q : Value → World → Prop) (h : W113 x0 x1 w Q) : Calls Tryd.prog 113 #[.pointer x0, .pointer x1] w (fun e w' => ∃ v, e = .returned v ∧ Q v w') :=
  calls_of_wFn mixed W113_plan Tryd.func113 (by kernel_rfl) ((W113_eq x0 x1 w Q).mpr h)

/-! ### 120: (*hartix/tree.Tree).place -/
def W120_plan : Plan := (.n .z (.n (.n .z (.cut [] [(10, .int .i64), (11, .agg)] .z .z)) .z))
def W120 (x0 : Option Addr) (x1 : Option Addr) (w : World) (Q : Value → World → Prop) : Prop :=
newW #[.int .i64 0] 3 w fun a1 w =>
Calls Tryd.prog 111 #[.pointer x0, .pointer x1] w fun e w =>
∃ v2 : Value, e = .returned (v2) ∧
rgW Tryd.prog [(10, .int .i64), (11, .agg)] v2 w (fun (t3 : Int × Array Value × Unit) w bg kn kr kx =>
newW #[.int .i64 0, .string (⟨#[]⟩ : ByteArray)] 23 w fun a4 w =>
stA 2 a4 t3.2.1 w fun w =>
bg w fun w =>
∃ n5 : Int, w.cell? a4 = some (.int .i64 n5) ∧
cond (n5 == (0 : Int)) (
stC a1 (.int .i64 t3.1) w fun w =>
kr w) (
kn w)) (fun d6 w =>
nlW x1 fun a7 =>
∃ n8 : Int, w.cell? (a7.add 5) = some (.int .i64 n8) ∧
stC a1 (.int .i64 n8) w fun w =>
(w.heap[d6]? = some (.deferred (some [])) ∧
(fun w : World =>
∃ n9 : Int, w.cell? a1 = some (.int .i64 n9) ∧
Q (.int .i64 n9) w) (w.putObj d6 (.deferred none)))) (fun d6 w =>
(w.heap[d6]? = some (.deferred (some [])) ∧
(fun w : World =>
∃ n10 : Int, w.cell? a1 = some (.int .i64 n10) ∧
Q (.int .i64 n10) w) (w.putObj d6 (.deferred none)))) (fun d6 id w =>
cond (Nat.beq id 0) (
nlW x1 fun a11 =>
∃ n12 : Int, w.cell? (a11.add 5) = some (.int .i64 n12) ∧
stC a1 (.int .i64 n12) w fun w =>
(w.heap[d6]? = some (.deferred (some [])) ∧
(fun w : World =>
∃ n13 : Int, w.cell? a1 = some (.int .i64 n13) ∧
Q (.int .i64 n13) w) (w.putObj d6 (.deferred none)))) (
False))
set_option maxRecDepth 100000 in
theorem W120_eq (x0 : Option Addr) (x1 : Option Addr) (w : World) (Q : Value → World → Prop) : wFn Tryd.prog Tryd.f120 W120_plan [.pointer x0, .pointer x1] w Q = W120 x0 x1 w Q := by kernel_rfl
set_option maxRecDepth 100000 in
theorem W120_ok (x0 : Option Addr) (x1 : Option Addr) (w : World) (Q : Value → World → Prop) (h : W120 x0 x1 w Q) : Calls Tryd.prog 120 #[.pointer x0, .pointer x1] w (fun e w' => ∃ v, e = .returned v ∧ Q v w') :=
  calls_of_wFn mixed W120_plan Tryd.func120 (by kernel_rfl) ((W120_eq x0 x1 w Q).mpr h)

/-! ### 137: (*hartix/tree.Tree).entries$1 -/
def W137_plan : Plan := (.n .z (.n .z (.cut [4, 5, 6, 13, 14, 15, 16, 17, 18, 19, 20, 21, 22, 23, 24, 25, 26, 27, 28, 29, 30, 31, 32, 33, 34] [(4, .int .i64)] .z .z)))
def W137 (x0 : Value) (x1 : Addr) (x2 : Addr) (w : World) (Q : Value → World → Prop) : Prop :=
∃ p1 : Option Addr, w.cell? x1 = some (.pointer p1) ∧
nlW p1 fun a2 =>
∃ n3 : Int, w.cell? a2 = some (.int .i64 n3) ∧
cond (n3 != (1 : Int)) (
Q (.tuple #[]) w) (
∃ (I4 : (Int × Unit) → World → Prop) (m5 : (Int × Unit) → World → Nat), (∃ t : Int × Unit, ([.int .i64 (0 : Int)] : List Value) = tv [(4, .int .i64)] t ∧ I4 t w) ∧
∀ (_ : Env) (t6 : Int × Unit) (w7 : World), I4 t6 w7 →
(fun w : World =>
∃ p8 : Option Addr, w.cell? x1 = some (.pointer p8) ∧
nlW p8 fun a9 =>
∃ n10 : Int, w.cell? (a9.add 5) = some (.int .i64 n10) ∧
cond (decide (t6.1 < n10)) (
∃ p11 : Option Addr, w.cell? x2 = some (.pointer p11) ∧
∃ p12 : Option Addr, w.cell? x1 = some (.pointer p12) ∧
Calls Tryd.prog 84 #[.pointer p11, .pointer p12, .int .i64 t6.1, .int .i64 (16 : Int)] w fun e w =>
∃ (q13b : Option Addr) (q13l q13c : Nat), e = .returned (.slice q13b q13l q13c) ∧
Calls Tryd.prog 15 #[.slice q13b q13l q13c] w fun e w =>
∃ g14 : Array Value, ∃ b15 : Bool, e = .returned (.tuple #[.agg g14, .bool b15]) ∧
newW #[.int .i64 0, .string (⟨#[]⟩ : ByteArray)] 23 w fun a16 w =>
stA 2 a16 g14 w fun w =>
∃ g17 : Array Value, g17.size = 2 ∧ RowAt w a16 g17 ∧
calV Tryd.prog x0 [.int .i64 t6.1, .agg g17] w fun e w =>
∃ b18 : Bool, e = .returned (.bool b18) ∧
cond (!b18) (
Q (.tuple #[]) w) (
∃ t' : Int × Unit, ([.int .i64 (IntKind.i64.wrap (t6.1 + (16 : Int)))] : List Value) = tv [(4, .int .i64)] t' ∧ I4 t' w ∧ m5 t' w < m5 t6 w7)) (
Q (.tuple #[]) w)) w7)
set_option maxRecDepth 100000 in
theorem W137_eq (x0 : Value) (x1 : Addr) (x2 : Addr) (w : World) (Q : Value → World → Prop) : wFn Tryd.prog Tryd.f137 W137_plan [x0, .pointer (some x1), .pointer (some x2)] w Q = W137 x0 x1 x2 w Q := by kernel_rfl
set_option maxRecDepth 100000 in
theorem W137_ok (x0 : Value) (x1 : Addr) (x2 : Addr) (w : World) (Q : Value → World → Prop) (h : W137 x0 x1 x2 w Q) : Calls Tryd.prog 137 #[x0, .pointer (some x1), .pointer (some x2)] w (fun e w' => ∃ v, e = .returned v ∧ Q v w') :=
  calls_of_wFn mixed W137_plan Tryd.func137 (by kernel_rfl) ((W137_eq x0 x1 x2 w Q).mpr h)

end Go.Proofs.YthkcdkldpbndnaaDoor
