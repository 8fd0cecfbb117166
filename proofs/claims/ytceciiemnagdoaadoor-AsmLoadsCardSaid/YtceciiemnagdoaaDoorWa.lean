/- The walk's functions of this seat, printed by a program of mine (wgen.py) out of Lean's own print of the loaded functions; each is tied to the loaded function by the kernel. No condition. -/
import Derived.Test.YtceciiemnagdoaaDoorRows
import Derived.Test.YtceciiemnagdoaaDoorHz
set_option linter.unusedVariables false
namespace Go.Proofs.YtceciiemnagdoaaDoor
open Go.RowKit Go.Hx
theorem mixed : Tryd.prog.follows .mixedOrders = true := by kernel_rfl
/-! ### 3: hartix/hartixlaw6.AsmLoads -/
def W3_plan : Plan := .z
def W3 (x0 : Int) (x1 : Int) (w : World) (Q : Value → World → Prop) : Prop :=
Calls Tryd.prog 4 #[.int .u64 x0, .int .i64 x1] w fun e w =>
∃ (q1b : Option Addr) (q1l q1c : Nat), e = .returned (.slice q1b q1l q1c) ∧
Calls Tryd.prog 6 #[.int .u64 x0, .int .i64 x1] w fun e w =>
∃ (q2b : Option Addr) (q2l q2c : Nat), e = .returned (.slice q2b q2l q2c) ∧
Calls Tryd.prog 5 #[.slice q1b q1l q1c, .slice q2b q2l q2c] w fun e w =>
∃ b3 : Bool, e = .returned (.bool b3) ∧
cond b3 (
cond (decide (((q1l : Nat) : Int) ≤ (8 : Int))) (
cond (decide (((q1l : Nat) : Int) > (0 : Int))) (
Q (.bool true) w) (
Q (.bool ((q1b : Option Addr).isNone)) w)) (
Q (.bool false) w)) (
Q (.bool false) w)
set_option maxRecDepth 100000 in
theorem W3_eq (x0 : Int) (x1 : Int) (w : World) (Q : Value → World → Prop) : wFn Tryd.prog Tryd.f3 W3_plan [.int .u64 x0, .int .i64 x1] w Q = W3 x0 x1 w Q := by kernel_rfl
set_option maxRecDepth 100000 in
theorem W3_ok (x0 : Int) (x1 : Int) (w : World) (Q : Value → World → Prop) (h : W3 x0 x1 w Q) : Calls Tryd.prog 3 #[.int .u64 x0, .int .i64 x1] w (fun e w' => ∃ v, e = .returned v ∧ Q v w') :=
  calls_of_wFn mixed W3_plan Tryd.func3 (by kernel_rfl) ((W3_eq x0 x1 w Q).mpr h)

/-! ### 4: hartix/asm.Load -/
def W4_plan : Plan := (.n .z (.n .z (.n .z (.n (.cut [15, 16, 17, 18, 19, 20, 21] [(15, .bool)] .z .z) (.n .z (.n .z (.cut [7, 9, 10, 34, 35, 36, 37, 38, 39, 40, 41, 42, 43, 44, 45, 46, 47, 48, 49, 50, 51, 52, 53, 54, 55, 56, 57, 58, 59, 60, 61, 62, 63, 64, 65, 66, 67] [(7, .slice)] .z .z)))))))
def W4 (x0 : Int) (x1 : Int) (w : World) (Q : Value → World → Prop) : Prop :=
Calls Tryd.prog 7 #[.int .i64 (IntKind.i64.wrap x0)] w fun e w =>
∃ n1 : Int, e = .returned (.int .i64 n1) ∧
∃ J2 : (Bool × Unit) → World → Prop, (∀ (_ : Env) (t3 : Bool × Unit) (w : World), J2 t3 w →
cond t3.1 (
Q (.slice none 0 0) w) (
cond ((IntKind.i64.wrap x0) == n1) (
∃ g4 : Array Value, bldP Tryd.prog 29 [(0, .int .i64 (22 : Int)), (1, .int .i64 x1), (4, .int .i64 (IntKind.i64.wrap x0))] (.agg g4) ∧
∃ g5 : Array Value, bslP Tryd.prog 23 1 [(0, .agg g4)] g5 29 ∧
newW g5 29 w fun a6 w =>
Q (.slice (some a6) 1 1) w) (
∃ g7 : Array Value, bldP Tryd.prog 29 [(0, .int .i64 (22 : Int)), (1, .int .i64 x1), (2, .int .i64 x1), (4, .int .i64 n1)] (.agg g7) ∧
newW #[.int .i64 0, .int .i64 0, .int .i64 0, .int .i64 0, .int .i64 0, .int .i64 0] 29 w fun a8 w =>
stA 6 a8 g7 w fun w =>
∃ J9 : ((Option Addr × Nat × Nat) × Unit) → World → Prop, (∀ (_ : Env) (t10 : (Option Addr × Nat × Nat) × Unit) (w : World), J9 t10 w →
cond (n1 != (0 : Int)) (
∃ g11 : Array Value, g11.size = 6 ∧ RowAt w a8 g11 ∧
∃ g12 : Array Value, bslP Tryd.prog 23 1 [(0, .agg g11)] g12 29 ∧
newW g12 29 w fun a13 w =>
apnW Tryd.prog 23 23 (.slice t10.1.1 t10.1.2.1 t10.1.2.2) (.slice (some a13) 1 1) w fun q14b q14l q14c w =>
Q (.slice q14b q14l q14c) w) (
Q (.slice t10.1.1 t10.1.2.1 t10.1.2.2) w)) ∧
cond ((IntKind.i64.wrap x0) == (IntKind.i64.wrap (IntKind.i32.wrap (IntKind.i64.wrap x0)))) (
∃ g15 : Array Value, bldP Tryd.prog 29 [(0, .int .i64 (1 : Int)), (1, .int .i64 x1), (4, .int .i64 (IntKind.i64.wrap (IntKind.i32.wrap (IntKind.i64.wrap ((IntKind.i64.wrap x0) - n1)))))] (.agg g15) ∧
∃ g16 : Array Value, bslP Tryd.prog 23 1 [(0, .agg g15)] g16 29 ∧
newW g16 29 w fun a17 w =>
stC a8 (.int .i64 (41 : Int)) w fun w =>
∃ t : (Option Addr × Nat × Nat) × Unit, ([.slice (some a17) 1 1] : List Value) = tv [(7, .slice)] t ∧ J9 t w) (
(0 ≤ (12 : Int) ∧
Calls Tryd.prog 8 #[.int .u64 (IntKind.u64.wrap ((IntKind.i64.wrap ((IntKind.i64.wrap x0) - n1)).fdiv (2 ^ min (12 : Int).toNat IntKind.i64.bits)))] w fun e w =>
∃ n18 : Int, e = .returned (.int .i64 n18) ∧
(0 ≤ n18 ∧
Calls Tryd.prog 4 #[.int .u64 (IntKind.u64.wrap (((IntKind.i64.wrap ((IntKind.i64.wrap x0) - n1)).fdiv (2 ^ min (12 : Int).toNat IntKind.i64.bits)).fdiv (2 ^ min n18.toNat IntKind.i64.bits))), .int .i64 x1] w fun e w =>
∃ (q19b : Option Addr) (q19l q19c : Nat), e = .returned (.slice q19b q19l q19c) ∧
∃ g20 : Array Value, bldP Tryd.prog 29 [(0, .int .i64 (28 : Int)), (1, .int .i64 x1), (2, .int .i64 x1), (4, .int .i64 (IntKind.i64.wrap ((12 : Int) + n18)))] (.agg g20) ∧
∃ g21 : Array Value, bslP Tryd.prog 23 1 [(0, .agg g20)] g21 29 ∧
newW g21 29 w fun a22 w =>
apnW Tryd.prog 23 23 (.slice q19b q19l q19c) (.slice (some a22) 1 1) w fun q23b q23l q23c w =>
∃ t : (Option Addr × Nat × Nat) × Unit, ([.slice q23b q23l q23c] : List Value) = tv [(7, .slice)] t ∧ J9 t w)))))) ∧
cond (decide (x1 < (0 : Int))) (
∃ t : Bool × Unit, ([.bool true] : List Value) = tv [(15, .bool)] t ∧ J2 t w) (
∃ t : Bool × Unit, ([.bool (decide (x1 > (31 : Int)))] : List Value) = tv [(15, .bool)] t ∧ J2 t w)
set_option maxRecDepth 100000 in
theorem W4_eq (x0 : Int) (x1 : Int) (w : World) (Q : Value → World → Prop) : wFn Tryd.prog Tryd.f4 W4_plan [.int .u64 x0, .int .i64 x1] w Q = W4 x0 x1 w Q := by kernel_rfl
set_option maxRecDepth 100000 in
theorem W4_ok (x0 : Int) (x1 : Int) (w : World) (Q : Value → World → Prop) (h : W4 x0 x1 w Q) : Calls Tryd.prog 4 #[.int .u64 x0, .int .i64 x1] w (fun e w' => ∃ v, e = .returned v ∧ Q v w') :=
  calls_of_wFn mixed W4_plan Tryd.func4 (by kernel_rfl) ((W4_eq x0 x1 w Q).mpr h)

/-! ### 5: hartix/hartixlaw6.sameInsns -/
def W5_plan : Plan := (.n .z (.n .z (.n (.n .z (.cut [4, 5, 11, 12, 13, 14, 15, 16, 17, 18, 19, 20, 21, 22, 23, 24, 25] [(5, .int .i64)] .z .z)) .z)))
def W5 (x0b : Option Addr) (x0l x0c : Nat) (x1b : Option Addr) (x1l x1c : Nat) (w : World) (Q : Value → World → Prop) : Prop :=
cond (((x0l : Nat) : Int) != ((x1l : Nat) : Int)) (
Q (.bool false) w) (
∃ (I1 : (Int × Unit) → World → Prop) (m2 : (Int × Unit) → World → Nat), (∃ t : Int × Unit, ([.int .i64 (0 : Int)] : List Value) = tv [(5, .int .i64)] t ∧ I1 t w) ∧
∀ (_ : Env) (t3 : Int × Unit) (w4 : World), I1 t3 w4 →
(fun w : World =>
cond (decide (t3.1 < ((x0l : Nat) : Int))) (
nlW x0b fun a5 =>
((0 ≤ t3.1 ∧ t3.1 < ((x0l : Nat) : Int)) ∧
∃ g6 : Array Value, g6.size = 6 ∧ RowAt w.drew (a5.add (t3.1.toNat * 6)) g6 ∧
nlW x1b fun a7 =>
((0 ≤ t3.1 ∧ t3.1 < ((x1l : Nat) : Int)) ∧
∃ g8 : Array Value, g8.size = 6 ∧ RowAt w.drew (a7.add (t3.1.toNat * 6)) g8 ∧
∃ b9 : Bool, AggEq Tryd.prog 29 g6 g8 b9 ∧
cond (!b9) (
Q (.bool false) w.drew) (
∃ t' : Int × Unit, ([.int .i64 (IntKind.i64.wrap (t3.1 + (1 : Int)))] : List Value) = tv [(5, .int .i64)] t' ∧ I1 t' w.drew ∧ m2 t' w.drew < m2 t3 w4)))) (
Q (.bool true) w)) w4)
set_option maxRecDepth 100000 in
theorem W5_eq (x0b : Option Addr) (x0l x0c : Nat) (x1b : Option Addr) (x1l x1c : Nat) (w : World) (Q : Value → World → Prop) : wFn Tryd.prog Tryd.f5 W5_plan [.slice x0b x0l x0c, .slice x1b x1l x1c] w Q = W5 x0b x0l x0c x1b x1l x1c w Q := by kernel_rfl
set_option maxRecDepth 100000 in
theorem W5_ok (x0b : Option Addr) (x0l x0c : Nat) (x1b : Option Addr) (x1l x1c : Nat) (w : World) (Q : Value → World → Prop) (h : W5 x0b x0l x0c x1b x1l x1c w Q) : Calls Tryd.prog 5 #[.slice x0b x0l x0c, .slice x1b x1l x1c] w (fun e w' => ∃ v, e = .returned v ∧ Q v w') :=
  calls_of_wFn mixed W5_plan Tryd.func5 (by kernel_rfl) ((W5_eq x0b x0l x0c x1b x1l x1c w Q).mpr h)

/-! ### 6: hartix/hartixref6.Load -/
def W6_plan : Plan := (.n .z (.n .z (.n .z (.n (.cut [19, 20, 21, 22, 23, 24] [(24, .bool)] .z .z) (.n .z (.n (.cut [31, 32, 33, 34, 35, 36] [(36, .bool)] .z .z) (.n .z (.n .z (.n (.cut [8, 9, 61, 62, 63, 64, 65, 66, 67] [(8, .int .i64), (9, .int .i64)] .z .z) .z)))))))))
def W6 (x0 : Int) (x1 : Int) (w : World) (Q : Value → World → Prop) : Prop :=
cond (decide (x1 < (0 : Int))) (
Q (.slice none 0 0) w) (
cond (decide (x1 > (31 : Int))) (
Q (.slice none 0 0) w) (
∃ J1 : (Bool × Unit) → World → Prop, (∀ (_ : Env) (t2 : Bool × Unit) (w : World), J1 t2 w →
cond t2.1 (
∃ g3 : Array Value, bldP Tryd.prog 29 [(0, .int .i64 (22 : Int)), (1, .int .i64 x1), (4, .int .i64 (IntKind.i64.wrap x0))] (.agg g3) ∧
∃ g4 : Array Value, bslP Tryd.prog 23 1 [(0, .agg g3)] g4 29 ∧
newW g4 29 w fun a5 w =>
Q (.slice (some a5) 1 1) w) (
Calls Tryd.prog 9 #[.int .i64 (IntKind.i64.wrap x0)] w fun e w =>
∃ n6 : Int, e = .returned (.int .i64 n6) ∧
∃ J7 : (Bool × Unit) → World → Prop, (∀ (_ : Env) (t8 : Bool × Unit) (w : World), J7 t8 w →
cond t8.1 (
∃ g9 : Array Value, bldP Tryd.prog 29 [(0, .int .i64 (1 : Int)), (1, .int .i64 x1), (4, .int .i64 (IntKind.i64.wrap (IntKind.i32.wrap (IntKind.i64.wrap ((IntKind.i64.wrap x0) - n6)))))] (.agg g9) ∧
∃ g10 : Array Value, bslP Tryd.prog 23 1 [(0, .agg g9)] g10 29 ∧
newW g10 29 w fun a11 w =>
cond (n6 != (0 : Int)) (
∃ g12 : Array Value, bldP Tryd.prog 29 [(0, .int .i64 (41 : Int)), (1, .int .i64 x1), (2, .int .i64 x1), (4, .int .i64 n6)] (.agg g12) ∧
∃ g13 : Array Value, bslP Tryd.prog 23 1 [(0, .agg g12)] g13 29 ∧
newW g13 29 w fun a14 w =>
apnW Tryd.prog 23 23 (.slice (some a11) 1 1) (.slice (some a14) 1 1) w fun q15b q15l q15c w =>
Q (.slice q15b q15l q15c) w) (
Q (.slice (some a11) 1 1) w)) (
(0 ≤ (12 : Int) ∧
∃ (I16 : (Int × Int × Unit) → World → Prop) (m17 : (Int × Int × Unit) → World → Nat), (∃ t : Int × Int × Unit, ([.int .i64 ((IntKind.i64.wrap (IntKind.u64.wrap (x0 - (IntKind.u64.wrap n6)))).fdiv (2 ^ min (12 : Int).toNat IntKind.i64.bits)), .int .i64 (0 : Int)] : List Value) = tv [(8, .int .i64), (9, .int .i64)] t ∧ I16 t w) ∧
∀ (_ : Env) (t18 : Int × Int × Unit) (w19 : World), I16 t18 w19 →
(fun w : World =>
cond ((IntKind.i64.wrap (((BitVec.ofInt IntKind.i64.bits t18.1 &&& BitVec.ofInt IntKind.i64.bits (1 : Int)).toNat : Nat))) == (0 : Int)) (
(0 ≤ (1 : Int) ∧
∃ t' : Int × Int × Unit, ([.int .i64 (t18.1.fdiv (2 ^ min (1 : Int).toNat IntKind.i64.bits)), .int .i64 (IntKind.i64.wrap (t18.2.1 + (1 : Int)))] : List Value) = tv [(8, .int .i64), (9, .int .i64)] t' ∧ I16 t' w ∧ m17 t' w < m17 t18 w19)) (
Calls Tryd.prog 6 #[.int .u64 (IntKind.u64.wrap t18.1), .int .i64 x1] w fun e w =>
∃ (q20b : Option Addr) (q20l q20c : Nat), e = .returned (.slice q20b q20l q20c) ∧
∃ g21 : Array Value, bldP Tryd.prog 29 [(0, .int .i64 (28 : Int)), (1, .int .i64 x1), (2, .int .i64 x1), (4, .int .i64 (IntKind.i64.wrap ((12 : Int) + t18.2.1)))] (.agg g21) ∧
∃ g22 : Array Value, bslP Tryd.prog 23 1 [(0, .agg g21)] g22 29 ∧
newW g22 29 w fun a23 w =>
apnW Tryd.prog 23 23 (.slice q20b q20l q20c) (.slice (some a23) 1 1) w fun q24b q24l q24c w =>
cond (n6 != (0 : Int)) (
∃ g25 : Array Value, bldP Tryd.prog 29 [(0, .int .i64 (22 : Int)), (1, .int .i64 x1), (2, .int .i64 x1), (4, .int .i64 n6)] (.agg g25) ∧
∃ g26 : Array Value, bslP Tryd.prog 23 1 [(0, .agg g25)] g26 29 ∧
newW g26 29 w fun a27 w =>
apnW Tryd.prog 23 23 (.slice q24b q24l q24c) (.slice (some a27) 1 1) w fun q28b q28l q28c w =>
Q (.slice q28b q28l q28c) w) (
Q (.slice q24b q24l q24c) w))) w19))) ∧
cond (decide ((IntKind.i64.wrap x0) ≥ (-2147483648 : Int))) (
∃ t : Bool × Unit, ([.bool (decide ((IntKind.i64.wrap x0) ≤ (2147483647 : Int)))] : List Value) = tv [(36, .bool)] t ∧ J7 t w) (
∃ t : Bool × Unit, ([.bool false] : List Value) = tv [(36, .bool)] t ∧ J7 t w))) ∧
cond (decide ((IntKind.i64.wrap x0) ≥ (-2048 : Int))) (
∃ t : Bool × Unit, ([.bool (decide ((IntKind.i64.wrap x0) ≤ (2047 : Int)))] : List Value) = tv [(24, .bool)] t ∧ J1 t w) (
∃ t : Bool × Unit, ([.bool false] : List Value) = tv [(24, .bool)] t ∧ J1 t w)))
set_option maxRecDepth 100000 in
theorem W6_eq (x0 : Int) (x1 : Int) (w : World) (Q : Value → World → Prop) : wFn Tryd.prog Tryd.f6 W6_plan [.int .u64 x0, .int .i64 x1] w Q = W6 x0 x1 w Q := by kernel_rfl
set_option maxRecDepth 100000 in
theorem W6_ok (x0 : Int) (x1 : Int) (w : World) (Q : Value → World → Prop) (h : W6 x0 x1 w Q) : Calls Tryd.prog 6 #[.int .u64 x0, .int .i64 x1] w (fun e w' => ∃ v, e = .returned v ∧ Q v w') :=
  calls_of_wFn mixed W6_plan Tryd.func6 (by kernel_rfl) ((W6_eq x0 x1 w Q).mpr h)

/-! ### 7: hartix/asm.lower -/
def W7_plan : Plan := .z
def W7 (x0 : Int) (w : World) (Q : Value → World → Prop) : Prop :=
(0 ≤ (52 : Int) ∧
(0 ≤ (52 : Int) ∧
Q (.int .i64 ((IntKind.i64.wrap (x0 * 2 ^ min (52 : Int).toNat IntKind.i64.bits)).fdiv (2 ^ min (52 : Int).toNat IntKind.i64.bits))) w))
set_option maxRecDepth 100000 in
theorem W7_eq (x0 : Int) (w : World) (Q : Value → World → Prop) : wFn Tryd.prog Tryd.f7 W7_plan [.int .i64 x0] w Q = W7 x0 w Q := by kernel_rfl
set_option maxRecDepth 100000 in
theorem W7_ok (x0 : Int) (w : World) (Q : Value → World → Prop) (h : W7 x0 w Q) : Calls Tryd.prog 7 #[.int .i64 x0] w (fun e w' => ∃ v, e = .returned v ∧ Q v w') :=
  calls_of_wFn mixed W7_plan Tryd.func7 (by kernel_rfl) ((W7_eq x0 w Q).mpr h)

/-! ### 8: math/bits.TrailingZeros64 -/
def W8_plan : Plan := .z
def W8 (x0 : Int) (w : World) (Q : Value → World → Prop) : Prop :=
cond (x0 == (0 : Int)) (
Q (.int .i64 (64 : Int)) w) (
(0 ≤ (58 : Int) ∧
((0 ≤ ((IntKind.u64.wrap ((IntKind.u64.wrap (((BitVec.ofInt IntKind.u64.bits x0 &&& BitVec.ofInt IntKind.u64.bits (IntKind.u64.wrap (0 - x0))).toNat : Nat))) * (285870213051353865 : Int))).fdiv (2 ^ min (58 : Int).toNat IntKind.u64.bits)) ∧ ((IntKind.u64.wrap ((IntKind.u64.wrap (((BitVec.ofInt IntKind.u64.bits x0 &&& BitVec.ofInt IntKind.u64.bits (IntKind.u64.wrap (0 - x0))).toNat : Nat))) * (285870213051353865 : Int))).fdiv (2 ^ min (58 : Int).toNat IntKind.u64.bits)) < ((64 : Nat) : Int)) ∧
∃ n1 : Int, w.cell? ((⟨0, 0, none⟩ : Addr).add (((IntKind.u64.wrap ((IntKind.u64.wrap (((BitVec.ofInt IntKind.u64.bits x0 &&& BitVec.ofInt IntKind.u64.bits (IntKind.u64.wrap (0 - x0))).toNat : Nat))) * (285870213051353865 : Int))).fdiv (2 ^ min (58 : Int).toNat IntKind.u64.bits)).toNat * 1)) = some (.int .u8 n1) ∧
Q (.int .i64 (IntKind.i64.wrap n1)) w)))
set_option maxRecDepth 100000 in
theorem W8_eq (x0 : Int) (w : World) (Q : Value → World → Prop) : wFn Tryd.prog Tryd.f8 W8_plan [.int .u64 x0] w Q = W8 x0 w Q := by kernel_rfl
set_option maxRecDepth 100000 in
theorem W8_ok (x0 : Int) (w : World) (Q : Value → World → Prop) (h : W8 x0 w Q) : Calls Tryd.prog 8 #[.int .u64 x0] w (fun e w' => ∃ v, e = .returned v ∧ Q v w') :=
  calls_of_wFn mixed W8_plan Tryd.func8 (by kernel_rfl) ((W8_eq x0 w Q).mpr h)

/-! ### 9: hartix/hartixref6.lower -/
def W9_plan : Plan := .z
def W9 (x0 : Int) (w : World) (Q : Value → World → Prop) : Prop :=
cond (decide ((IntKind.i64.wrap (((BitVec.ofInt IntKind.i64.bits x0 &&& BitVec.ofInt IntKind.i64.bits (4095 : Int)).toNat : Nat))) ≥ (2048 : Int))) (
Q (.int .i64 (IntKind.i64.wrap ((IntKind.i64.wrap (((BitVec.ofInt IntKind.i64.bits x0 &&& BitVec.ofInt IntKind.i64.bits (4095 : Int)).toNat : Nat))) - (4096 : Int)))) w) (
Q (.int .i64 (IntKind.i64.wrap (((BitVec.ofInt IntKind.i64.bits x0 &&& BitVec.ofInt IntKind.i64.bits (4095 : Int)).toNat : Nat)))) w)
set_option maxRecDepth 100000 in
theorem W9_eq (x0 : Int) (w : World) (Q : Value → World → Prop) : wFn Tryd.prog Tryd.f9 W9_plan [.int .i64 x0] w Q = W9 x0 w Q := by kernel_rfl
set_option maxRecDepth 100000 in
theorem W9_ok (x0 : Int) (w : World) (Q : Value → World → Prop) (h : W9 x0 w Q) : Calls Tryd.prog 9 #[.int .i64 x0] w (fun e w' => ∃ v, e = .returned v ∧ Q v w') :=
  calls_of_wFn mixed W9_plan Tryd.func9 (by kernel_rfl) ((W9_eq x0 w Q).mpr h)

end Go.Proofs.YtceciiemnagdoaaDoor
