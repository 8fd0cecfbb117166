/- The walk's functions of this seat, printed by a program of mine (wgen.py) out of Lean's own print of the loaded functions; each is tied to the loaded function by the kernel. No condition. -/
import Derived.Test.YtceciiemnagdoaaRows
import Derived.Test.YtceciiemnagdoaaHz
import Derived.Test.YtceciiemnagdoaaWy
set_option linter.unusedVariables false
namespace Go.Proofs.Ytceciiemnagdoaa
open Go.RowKit Go.Hx
/-! ### 10: hartix/hartixlaw6.AsmPrograms -/
def W10_plan : Plan := (.n .z (.n .z (.n .z (.n .z (.n .z (.n .z (.n .z (.n .z (.n .z (.n .z (.n .z (.n (.n .z (.cut [7, 59, 60, 61, 62, 63, 64, 65, 66, 67, 68, 69, 70, 71, 72, 73, 74, 75, 76, 77, 78, 79, 80, 81, 82, 83, 84, 85] [(7, .int .i64)] .z .z)) (.n (.n .z (.cut [8, 86, 87, 88, 89, 90, 91, 92, 93, 94, 95, 96, 97, 98, 99, 100, 101, 102, 103, 104, 105, 106, 107, 108, 109, 110, 111, 112] [(8, .int .i64)] .z .z)) .z)))))))))))))
def W10 (x0 : Array Value) (w : World) (Q : Value → World → Prop) : Prop :=
newW x0 27 w fun a1 w =>
∃ (q2b : Option Addr) (q2l q2c : Nat), w.cell? a1 = some (.slice q2b q2l q2c) ∧
∃ (q3b : Option Addr) (q3l q3c : Nat), w.cell? (a1.add 1) = some (.slice q3b q3l q3c) ∧
cond (decide ((IntKind.i64.wrap (((q2l : Nat) : Int) + ((q3l : Nat) : Int))) > (300000 : Int))) (
Q (.bool true) w) (
∃ g4 : Array Value, g4.size = 7 ∧ RowAt w a1 g4 ∧
newW #[.slice none 0 0, .slice none 0 0, .int .u64 0, .int .u64 0, .int .u64 0, .int .u64 0, .slice none 0 0] 27 w fun a5 w =>
stA 7 a5 g4 w fun w =>
∃ (q6b : Option Addr) (q6l q6c : Nat), w.cell? a1 = some (.slice q6b q6l q6c) ∧
Calls Try.prog 11 #[.slice q6b q6l q6c] w fun e w =>
∃ (q7b : Option Addr) (q7l q7c : Nat), e = .returned (.slice q7b q7l q7c) ∧
stC a5 (.slice q7b q7l q7c) w fun w =>
∃ (q8b : Option Addr) (q8l q8c : Nat), w.cell? (a1.add 1) = some (.slice q8b q8l q8c) ∧
Calls Try.prog 11 #[.slice q8b q8l q8c] w fun e w =>
∃ (q9b : Option Addr) (q9l q9c : Nat), e = .returned (.slice q9b q9l q9c) ∧
stC (a5.add 1) (.slice q9b q9l q9c) w fun w =>
∃ g10 : Array Value, g10.size = 7 ∧ RowAt w a5 g10 ∧
Calls Try.prog 12 #[.agg g10] w fun e w =>
∃ g11 : Array Value, e = .returned (.agg g11) ∧
newW #[.int .u64 0, .slice none 0 0] 31 w fun a12 w =>
stA 2 a12 g11 w fun w =>
∃ g13 : Array Value, g13.size = 7 ∧ RowAt w a1 g13 ∧
Calls Try.prog 13 #[.agg g13] w fun e w =>
∃ g14 : Array Value, e = .returned (.agg g14) ∧
newW #[.int .u64 0, .slice none 0 0] 31 w fun a15 w =>
stA 2 a15 g14 w fun w =>
∃ g16 : Array Value, g16.size = 2 ∧ RowAt w a12 g16 ∧
∃ g17 : Array Value, g17.size = 2 ∧ RowAt w a15 g17 ∧
Calls Try.prog 14 #[.agg g16, .agg g17] w fun e w =>
∃ b18 : Bool, e = .returned (.bool b18) ∧
cond (!b18) (
Q (.bool false) w) (
∃ (q19b : Option Addr) (q19l q19c : Nat), w.cell? a5 = some (.slice q19b q19l q19c) ∧
∃ (q20b : Option Addr) (q20l q20c : Nat), w.cell? a1 = some (.slice q20b q20l q20c) ∧
Calls Try.prog 15 #[.slice q19b q19l q19c, .slice q20b q20l q20c] w fun e w =>
∃ b21 : Bool, e = .returned (.bool b21) ∧
cond (!b21) (
Q (.bool false) w) (
∃ (q22b : Option Addr) (q22l q22c : Nat), w.cell? (a5.add 1) = some (.slice q22b q22l q22c) ∧
∃ (q23b : Option Addr) (q23l q23c : Nat), w.cell? (a1.add 1) = some (.slice q23b q23l q23c) ∧
Calls Try.prog 15 #[.slice q22b q22l q22c, .slice q23b q23l q23c] w fun e w =>
∃ b24 : Bool, e = .returned (.bool b24) ∧
cond (!b24) (
Q (.bool false) w) (
∃ g25 : Array Value, g25.size = 7 ∧ RowAt w a1 g25 ∧
newW #[.slice none 0 0, .slice none 0 0, .int .u64 0, .int .u64 0, .int .u64 0, .int .u64 0, .slice none 0 0] 27 w fun a26 w =>
stA 7 a26 g25 w fun w =>
∃ (q27b : Option Addr) (q27l q27c : Nat), w.cell? a1 = some (.slice q27b q27l q27c) ∧
Calls Try.prog 16 #[.slice q27b q27l q27c] w fun e w =>
∃ (q28b : Option Addr) (q28l q28c : Nat), e = .returned (.slice q28b q28l q28c) ∧
stC a26 (.slice q28b q28l q28c) w fun w =>
∃ (q29b : Option Addr) (q29l q29c : Nat), w.cell? (a1.add 1) = some (.slice q29b q29l q29c) ∧
Calls Try.prog 16 #[.slice q29b q29l q29c] w fun e w =>
∃ (q30b : Option Addr) (q30l q30c : Nat), e = .returned (.slice q30b q30l q30c) ∧
stC (a26.add 1) (.slice q30b q30l q30c) w fun w =>
∃ (I31 : (Int × Unit) → World → Prop) (m32 : (Int × Unit) → World → Nat), (∃ t : Int × Unit, ([.int .i64 (0 : Int)] : List Value) = tv [(7, .int .i64)] t ∧ I31 t w) ∧
∀ (_ : Env) (t33 : Int × Unit) (w34 : World), I31 t33 w34 →
(fun w : World =>
∃ (q35b : Option Addr) (q35l q35c : Nat), w.cell? a5 = some (.slice q35b q35l q35c) ∧
cond (decide (t33.1 < ((q35l : Nat) : Int))) (
∃ S36 : World → Prop, S36 w.drew ∧
∃ (q37b : Option Addr) (q37l q37c : Nat), (∀ w', S36 w' → w'.cell? a5 = some (.slice q37b q37l q37c)) ∧
∃ (q38b : Option Addr) (q38l q38c : Nat), (∀ w', S36 w' → w'.cell? a5 = some (.slice q38b q38l q38c)) ∧
nlW q38b fun a39 =>
((0 ≤ t33.1 ∧ t33.1 < ((q38l : Nat) : Int)) ∧
∃ n40 : Int, (∀ w', S36 w' → w'.cell? (a39.add (t33.1.toNat * 1)) = some (.int .u8 n40)) ∧
nlW q37b fun a41 =>
((0 ≤ t33.1 ∧ t33.1 < ((q37l : Nat) : Int)) ∧
stC (a41.add (t33.1.toNat * 1)) (.int .u8 (IntKind.u8.wrap (((BitVec.ofInt IntKind.u8.bits n40 ^^^ BitVec.ofInt IntKind.u8.bits (60 : Int)).toNat : Nat)))) w.drew fun w =>
∃ S42 : World → Prop, S42 w.drew ∧
∃ (q43b : Option Addr) (q43l q43c : Nat), (∀ w', S42 w' → w'.cell? a26 = some (.slice q43b q43l q43c)) ∧
∃ (q44b : Option Addr) (q44l q44c : Nat), (∀ w', S42 w' → w'.cell? a26 = some (.slice q44b q44l q44c)) ∧
nlW q44b fun a45 =>
((0 ≤ t33.1 ∧ t33.1 < ((q44l : Nat) : Int)) ∧
∃ n46 : Int, (∀ w', S42 w' → w'.cell? (a45.add (t33.1.toNat * 1)) = some (.int .u8 n46)) ∧
nlW q43b fun a47 =>
((0 ≤ t33.1 ∧ t33.1 < ((q43l : Nat) : Int)) ∧
stC (a47.add (t33.1.toNat * 1)) (.int .u8 (IntKind.u8.wrap (((BitVec.ofInt IntKind.u8.bits n46 ^^^ BitVec.ofInt IntKind.u8.bits (60 : Int)).toNat : Nat)))) w.drew fun w =>
∃ t' : Int × Unit, ([.int .i64 (IntKind.i64.wrap (t33.1 + (1 : Int)))] : List Value) = tv [(7, .int .i64)] t' ∧ I31 t' w ∧ m32 t' w < m32 t33 w34))))) (
∃ (I48 : (Int × Unit) → World → Prop) (m49 : (Int × Unit) → World → Nat), (∃ t : Int × Unit, ([.int .i64 (0 : Int)] : List Value) = tv [(8, .int .i64)] t ∧ I48 t w) ∧
∀ (_ : Env) (t50 : Int × Unit) (w51 : World), I48 t50 w51 →
(fun w : World =>
∃ (q52b : Option Addr) (q52l q52c : Nat), w.cell? (a5.add 1) = some (.slice q52b q52l q52c) ∧
cond (decide (t50.1 < ((q52l : Nat) : Int))) (
∃ S53 : World → Prop, S53 w.drew ∧
∃ (q54b : Option Addr) (q54l q54c : Nat), (∀ w', S53 w' → w'.cell? (a5.add 1) = some (.slice q54b q54l q54c)) ∧
∃ (q55b : Option Addr) (q55l q55c : Nat), (∀ w', S53 w' → w'.cell? (a5.add 1) = some (.slice q55b q55l q55c)) ∧
nlW q55b fun a56 =>
((0 ≤ t50.1 ∧ t50.1 < ((q55l : Nat) : Int)) ∧
∃ n57 : Int, (∀ w', S53 w' → w'.cell? (a56.add (t50.1.toNat * 1)) = some (.int .u8 n57)) ∧
nlW q54b fun a58 =>
((0 ≤ t50.1 ∧ t50.1 < ((q54l : Nat) : Int)) ∧
stC (a58.add (t50.1.toNat * 1)) (.int .u8 (IntKind.u8.wrap (((BitVec.ofInt IntKind.u8.bits n57 ^^^ BitVec.ofInt IntKind.u8.bits (195 : Int)).toNat : Nat)))) w.drew fun w =>
∃ S59 : World → Prop, S59 w.drew ∧
∃ (q60b : Option Addr) (q60l q60c : Nat), (∀ w', S59 w' → w'.cell? (a26.add 1) = some (.slice q60b q60l q60c)) ∧
∃ (q61b : Option Addr) (q61l q61c : Nat), (∀ w', S59 w' → w'.cell? (a26.add 1) = some (.slice q61b q61l q61c)) ∧
nlW q61b fun a62 =>
((0 ≤ t50.1 ∧ t50.1 < ((q61l : Nat) : Int)) ∧
∃ n63 : Int, (∀ w', S59 w' → w'.cell? (a62.add (t50.1.toNat * 1)) = some (.int .u8 n63)) ∧
nlW q60b fun a64 =>
((0 ≤ t50.1 ∧ t50.1 < ((q60l : Nat) : Int)) ∧
stC (a64.add (t50.1.toNat * 1)) (.int .u8 (IntKind.u8.wrap (((BitVec.ofInt IntKind.u8.bits n63 ^^^ BitVec.ofInt IntKind.u8.bits (195 : Int)).toNat : Nat)))) w.drew fun w =>
∃ t' : Int × Unit, ([.int .i64 (IntKind.i64.wrap (t50.1 + (1 : Int)))] : List Value) = tv [(8, .int .i64)] t' ∧ I48 t' w ∧ m49 t' w < m49 t50 w51))))) (
∃ S65 : World → Prop, S65 w.drew ∧
∃ g66 : Array Value, g66.size = 2 ∧ (∀ w', S65 w' → RowAt w' a12 g66) ∧
∃ g67 : Array Value, g67.size = 2 ∧ (∀ w', S65 w' → RowAt w' a15 g67) ∧
Calls Try.prog 14 #[.agg g66, .agg g67] w.drew fun e w =>
∃ b68 : Bool, e = .returned (.bool b68) ∧
cond b68 (
∃ S69 : World → Prop, S69 w ∧
∃ g70 : Array Value, g70.size = 7 ∧ (∀ w', S69 w' → RowAt w' a5 g70) ∧
∃ g71 : Array Value, g71.size = 7 ∧ (∀ w', S69 w' → RowAt w' a26 g71) ∧
Calls Try.prog 12 #[.agg g70] w fun e w =>
∃ g72 : Array Value, e = .returned (.agg g72) ∧
∃ S73 : World → Prop, (∀ w', S73 w' → S69 w') ∧ S73 w ∧
Calls Try.prog 13 #[.agg g71] w fun e w =>
∃ g74 : Array Value, e = .returned (.agg g74) ∧
Calls Try.prog 14 #[.agg g72, .agg g74] w fun e w =>
∃ b75 : Bool, e = .returned (.bool b75) ∧
Q (.bool b75) w) (
Q (.bool false) w))) w51)) w34))))
set_option maxRecDepth 100000 in
theorem W10_eq (x0 : Array Value) (w : World) (Q : Value → World → Prop) : wFn Try.prog Try.f10 W10_plan [.agg x0] w Q = W10 x0 w Q := by kernel_rfl
set_option maxRecDepth 100000 in
theorem W10_ok (x0 : Array Value) (w : World) (Q : Value → World → Prop) (h : W10 x0 w Q) : Calls Try.prog 10 #[.agg x0] w (fun e w' => ∃ v, e = .returned v ∧ Q v w') :=
  calls_of_wFn mixed W10_plan Try.func10 (by kernel_rfl) ((W10_eq x0 w Q).mpr h)

/-! ### 12: hartix/asm.Program -/
def W12_plan : Plan := (.n .z (.n .z (.cut [9, 10, 11, 12, 13, 14, 15, 16, 17, 18, 19, 20, 21, 22, 23, 24, 25] [] .z (.n (.n .z (.n .z (.n (.n .z (.cut [40, 41, 42, 43, 44, 45, 46, 47] [] .z .z)) .z))) .z))))
def W12 (x0 : Array Value) (w : World) (Q : Value → World → Prop) : Prop :=
newW x0 27 w fun a1 w =>
newW #[.int .u64 0, .slice none 0 0] 31 w fun a2 w =>
∃ n3 : Int, w.cell? (a1.add 5) = some (.int .u64 n3) ∧
∃ g4 : Array Value, bldP Try.prog 31 [(0, .int .u64 n3)] (.agg g4) ∧
newW #[.int .u64 0, .slice none 0 0] 31 w fun a5 w =>
stA 2 a5 g4 w fun w =>
∃ J6 : (Unit) → World → Prop, (∀ (_ : Env) (t7 : Unit) (w : World), J6 t7 w →
∃ n8 : Int, w.cell? (a1.add 3) = some (.int .u64 n8) ∧
∃ n9 : Int, w.cell? (a1.add 4) = some (.int .u64 n9) ∧
∃ n10 : Int, w.cell? (a1.add 2) = some (.int .u64 n10) ∧
cond (decide ((IntKind.u64.wrap ((IntKind.u64.wrap (n8 + n9)) - n10)) > (0 : Int))) (
∃ n11 : Int, w.cell? (a1.add 2) = some (.int .u64 n11) ∧
∃ g12 : Array Value, bldP Try.prog 38 [(0, .int .u64 n11), (1, .int .u32 (6 : Int)), (3, .int .u64 (IntKind.u64.wrap ((IntKind.u64.wrap (n8 + n9)) - n10)))] (.agg g12) ∧
newW #[.int .u64 0, .int .u32 0, .slice none 0 0, .int .u64 0] 38 w fun a13 w =>
stA 4 a13 g12 w fun w =>
∃ J14 : (Unit) → World → Prop, (∀ (_ : Env) (t15 : Unit) (w : World), J14 t15 w →
∃ (q16b : Option Addr) (q16l q16c : Nat), w.cell? (a5.add 1) = some (.slice q16b q16l q16c) ∧
∃ g17 : Array Value, g17.size = 4 ∧ RowAt w a13 g17 ∧
∃ g18 : Array Value, bslP Try.prog 29 1 [(0, .agg g17)] g18 38 ∧
newW g18 38 w fun a19 w =>
apnW Try.prog 29 29 (.slice q16b q16l q16c) (.slice (some a19) 1 1) w fun q20b q20l q20c w =>
stC (a5.add 1) (.slice q20b q20l q20c) w fun w =>
∃ g21 : Array Value, g21.size = 2 ∧ RowAt w a5 g21 ∧
stA 2 a2 g21 w fun w =>
∃ g22 : Array Value, g22.size = 2 ∧ RowAt w a2 g22 ∧
Q (.agg g22) w) ∧
∃ (q23b : Option Addr) (q23l q23c : Nat), w.cell? (a1.add 1) = some (.slice q23b q23l q23c) ∧
cond (decide (((q23l : Nat) : Int) > (0 : Int))) (
∃ (q24b : Option Addr) (q24l q24c : Nat), w.cell? (a1.add 1) = some (.slice q24b q24l q24c) ∧
Calls Try.prog 17 #[.slice q24b q24l q24c] w fun e w =>
∃ (q25b : Option Addr) (q25l q25c : Nat), e = .returned (.slice q25b q25l q25c) ∧
stC (a13.add 2) (.slice q25b q25l q25c) w fun w =>
∃ t : Unit, ([] : List Value) = tv [] t ∧ J14 t w) (
∃ t : Unit, ([] : List Value) = tv [] t ∧ J14 t w)) (
∃ g26 : Array Value, g26.size = 2 ∧ RowAt w a5 g26 ∧
stA 2 a2 g26 w fun w =>
∃ g27 : Array Value, g27.size = 2 ∧ RowAt w a2 g27 ∧
Q (.agg g27) w)) ∧
∃ (q28b : Option Addr) (q28l q28c : Nat), w.cell? a1 = some (.slice q28b q28l q28c) ∧
cond (decide (((q28l : Nat) : Int) > (0 : Int))) (
∃ S29 : World → Prop, S29 w.drew ∧
∃ (q30b : Option Addr) (q30l q30c : Nat), (∀ w', S29 w' → w'.cell? (a5.add 1) = some (.slice q30b q30l q30c)) ∧
∃ (q31b : Option Addr) (q31l q31c : Nat), (∀ w', S29 w' → w'.cell? a1 = some (.slice q31b q31l q31c)) ∧
∃ (q32b : Option Addr) (q32l q32c : Nat), (∀ w', S29 w' → w'.cell? a1 = some (.slice q32b q32l q32c)) ∧
Calls Try.prog 17 #[.slice q31b q31l q31c] w.drew fun e w =>
∃ (q33b : Option Addr) (q33l q33c : Nat), e = .returned (.slice q33b q33l q33c) ∧
∃ S34 : World → Prop, (∀ w', S34 w' → S29 w') ∧ S34 w ∧
∃ g35 : Array Value, bldP Try.prog 38 [(1, .int .u32 (5 : Int)), (2, .slice q33b q33l q33c), (3, .int .u64 (IntKind.u64.wrap ((q32l : Nat) : Int)))] (.agg g35) ∧
∃ g36 : Array Value, bslP Try.prog 29 1 [(0, .agg g35)] g36 38 ∧
newW g36 38 w fun a37 w =>
∃ S38 : World → Prop, (∀ w', S38 w' → S34 w') ∧ S38 w ∧
apnW Try.prog 29 29 (.slice q30b q30l q30c) (.slice (some a37) 1 1) w fun q39b q39l q39c w =>
stC (a5.add 1) (.slice q39b q39l q39c) w fun w =>
∃ t : Unit, ([] : List Value) = tv [] t ∧ J6 t w) (
∃ t : Unit, ([] : List Value) = tv [] t ∧ J6 t w)
set_option maxRecDepth 100000 in
theorem W12_eq (x0 : Array Value) (w : World) (Q : Value → World → Prop) : wFn Try.prog Try.f12 W12_plan [.agg x0] w Q = W12 x0 w Q := by kernel_rfl
set_option maxRecDepth 100000 in
theorem W12_ok (x0 : Array Value) (w : World) (Q : Value → World → Prop) (h : W12 x0 w Q) : Calls Try.prog 12 #[.agg x0] w (fun e w' => ∃ v, e = .returned v ∧ Q v w') :=
  calls_of_wFn mixed W12_plan Try.func12 (by kernel_rfl) ((W12_eq x0 w Q).mpr h)

/-! ### 13: hartix/hartixref6.Program -/
def W13_plan : Plan := (.n .z (.n .z (.cut [8, 9, 10, 11, 12, 13, 14, 15, 16, 17, 18, 19, 20, 21, 22, 23, 24] [] .z .z)))
def W13 (x0 : Array Value) (w : World) (Q : Value → World → Prop) : Prop :=
newW x0 27 w fun a1 w =>
newW #[.int .u64 0, .slice none 0 0] 31 w fun a2 w =>
∃ n3 : Int, w.cell? (a1.add 5) = some (.int .u64 n3) ∧
∃ g4 : Array Value, bldP Try.prog 31 [(0, .int .u64 n3)] (.agg g4) ∧
newW #[.int .u64 0, .slice none 0 0] 31 w fun a5 w =>
stA 2 a5 g4 w fun w =>
∃ J6 : (Unit) → World → Prop, (∀ (_ : Env) (t7 : Unit) (w : World), J6 t7 w →
∃ n8 : Int, w.cell? (a1.add 3) = some (.int .u64 n8) ∧
∃ n9 : Int, w.cell? (a1.add 4) = some (.int .u64 n9) ∧
∃ n10 : Int, w.cell? (a1.add 2) = some (.int .u64 n10) ∧
cond (decide ((IntKind.u64.wrap ((IntKind.u64.wrap (n8 + n9)) - n10)) > (0 : Int))) (
∃ S11 : World → Prop, S11 w.drew ∧
∃ (q12b : Option Addr) (q12l q12c : Nat), (∀ w', S11 w' → w'.cell? (a5.add 1) = some (.slice q12b q12l q12c)) ∧
∃ n13 : Int, (∀ w', S11 w' → w'.cell? (a1.add 2) = some (.int .u64 n13)) ∧
∃ (q14b : Option Addr) (q14l q14c : Nat), (∀ w', S11 w' → w'.cell? (a1.add 1) = some (.slice q14b q14l q14c)) ∧
Calls Try.prog 18 #[.slice q14b q14l q14c] w.drew fun e w =>
∃ (q15b : Option Addr) (q15l q15c : Nat), e = .returned (.slice q15b q15l q15c) ∧
∃ S16 : World → Prop, (∀ w', S16 w' → S11 w') ∧ S16 w ∧
∃ g17 : Array Value, bldP Try.prog 38 [(0, .int .u64 n13), (1, .int .u32 (6 : Int)), (2, .slice q15b q15l q15c), (3, .int .u64 (IntKind.u64.wrap ((IntKind.u64.wrap (n8 + n9)) - n10)))] (.agg g17) ∧
∃ g18 : Array Value, bslP Try.prog 29 1 [(0, .agg g17)] g18 38 ∧
newW g18 38 w fun a19 w =>
∃ S20 : World → Prop, (∀ w', S20 w' → S16 w') ∧ S20 w ∧
apnW Try.prog 29 29 (.slice q12b q12l q12c) (.slice (some a19) 1 1) w fun q21b q21l q21c w =>
stC (a5.add 1) (.slice q21b q21l q21c) w fun w =>
∃ g22 : Array Value, g22.size = 2 ∧ RowAt w a5 g22 ∧
stA 2 a2 g22 w fun w =>
∃ g23 : Array Value, g23.size = 2 ∧ RowAt w a2 g23 ∧
Q (.agg g23) w) (
∃ g24 : Array Value, g24.size = 2 ∧ RowAt w a5 g24 ∧
stA 2 a2 g24 w fun w =>
∃ g25 : Array Value, g25.size = 2 ∧ RowAt w a2 g25 ∧
Q (.agg g25) w)) ∧
∃ (q26b : Option Addr) (q26l q26c : Nat), w.cell? a1 = some (.slice q26b q26l q26c) ∧
cond (decide (((q26l : Nat) : Int) > (0 : Int))) (
∃ S27 : World → Prop, S27 w.drew ∧
∃ (q28b : Option Addr) (q28l q28c : Nat), (∀ w', S27 w' → w'.cell? (a5.add 1) = some (.slice q28b q28l q28c)) ∧
∃ (q29b : Option Addr) (q29l q29c : Nat), (∀ w', S27 w' → w'.cell? a1 = some (.slice q29b q29l q29c)) ∧
∃ (q30b : Option Addr) (q30l q30c : Nat), (∀ w', S27 w' → w'.cell? a1 = some (.slice q30b q30l q30c)) ∧
Calls Try.prog 18 #[.slice q29b q29l q29c] w.drew fun e w =>
∃ (q31b : Option Addr) (q31l q31c : Nat), e = .returned (.slice q31b q31l q31c) ∧
∃ S32 : World → Prop, (∀ w', S32 w' → S27 w') ∧ S32 w ∧
∃ g33 : Array Value, bldP Try.prog 38 [(1, .int .u32 (5 : Int)), (2, .slice q31b q31l q31c), (3, .int .u64 (IntKind.u64.wrap ((q30l : Nat) : Int)))] (.agg g33) ∧
∃ g34 : Array Value, bslP Try.prog 29 1 [(0, .agg g33)] g34 38 ∧
newW g34 38 w fun a35 w =>
∃ S36 : World → Prop, (∀ w', S36 w' → S32 w') ∧ S36 w ∧
apnW Try.prog 29 29 (.slice q28b q28l q28c) (.slice (some a35) 1 1) w fun q37b q37l q37c w =>
stC (a5.add 1) (.slice q37b q37l q37c) w fun w =>
∃ t : Unit, ([] : List Value) = tv [] t ∧ J6 t w) (
∃ t : Unit, ([] : List Value) = tv [] t ∧ J6 t w)
set_option maxRecDepth 100000 in
theorem W13_eq (x0 : Array Value) (w : World) (Q : Value → World → Prop) : wFn Try.prog Try.f13 W13_plan [.agg x0] w Q = W13 x0 w Q := by kernel_rfl
set_option maxRecDepth 100000 in
theorem W13_ok (x0 : Array Value) (w : World) (Q : Value → World → Prop) (h : W13 x0 w Q) : Calls Try.prog 13 #[.agg x0] w (fun e w' => ∃ v, e = .returned v ∧ Q v w') :=
  calls_of_wFn mixed W13_plan Try.func13 (by kernel_rfl) ((W13_eq x0 w Q).mpr h)

/-! ### 14: hartix/hartixlaw6.sameElf -/
def W14_plan : Plan := (.n .z (.n .z (.n (.n .z (.cut [4, 5, 6, 7, 22, 23, 24, 25, 26, 27, 28, 29, 30, 31, 32, 33, 34, 35, 36, 37, 38, 39, 40, 41, 42, 43, 44, 45, 46, 47, 48, 49, 50, 51, 52, 53, 54, 55, 56, 57, 58, 59, 60, 61, 62, 63, 64, 65] [(5, .int .i64)] .z .z)) .z)))
def W14 (x0 : Array Value) (x1 : Array Value) (w : World) (Q : Value → World → Prop) : Prop :=
newW x0 31 w fun a1 w =>
newW x1 31 w fun a2 w =>
∃ n3 : Int, w.cell? a1 = some (.int .u64 n3) ∧
∃ n4 : Int, w.cell? a2 = some (.int .u64 n4) ∧
cond (n3 != n4) (
Q (.bool false) w) (
∃ (q5b : Option Addr) (q5l q5c : Nat), w.cell? (a1.add 1) = some (.slice q5b q5l q5c) ∧
∃ (q6b : Option Addr) (q6l q6c : Nat), w.cell? (a2.add 1) = some (.slice q6b q6l q6c) ∧
cond (((q5l : Nat) : Int) != ((q6l : Nat) : Int)) (
Q (.bool false) w) (
∃ (I7 : (Int × Unit) → World → Prop) (m8 : (Int × Unit) → World → Nat), (∃ t : Int × Unit, ([.int .i64 (0 : Int)] : List Value) = tv [(5, .int .i64)] t ∧ I7 t w) ∧
∀ (_ : Env) (t9 : Int × Unit) (w10 : World), I7 t9 w10 →
(fun w : World =>
∃ (q11b : Option Addr) (q11l q11c : Nat), w.cell? (a1.add 1) = some (.slice q11b q11l q11c) ∧
cond (decide (t9.1 < ((q11l : Nat) : Int))) (
∃ S12 : World → Prop, S12 w.drew ∧
∃ (q13b : Option Addr) (q13l q13c : Nat), (∀ w', S12 w' → w'.cell? (a1.add 1) = some (.slice q13b q13l q13c)) ∧
nlW q13b fun a14 =>
((0 ≤ t9.1 ∧ t9.1 < ((q13l : Nat) : Int)) ∧
∃ g15 : Array Value, g15.size = 4 ∧ (∀ w', S12 w' → RowAt w' (a14.add (t9.1.toNat * 4)) g15) ∧
∃ (q16b : Option Addr) (q16l q16c : Nat), (∀ w', S12 w' → w'.cell? (a2.add 1) = some (.slice q16b q16l q16c)) ∧
nlW q16b fun a17 =>
((0 ≤ t9.1 ∧ t9.1 < ((q16l : Nat) : Int)) ∧
∃ g18 : Array Value, g18.size = 4 ∧ (∀ w', S12 w' → RowAt w' (a17.add (t9.1.toNat * 4)) g18) ∧
((newW #[.int .u64 0, .int .u32 0, .slice none 0 0, .int .u64 0] 38 w.drew fun a19 w =>
∃ S20 : World → Prop, (∀ w', S20 w' → S12 w') ∧ S20 w ∧
newW #[.int .u64 0, .int .u32 0, .slice none 0 0, .int .u64 0] 38 w fun a21 w =>
∃ S22 : World → Prop, (∀ w', S22 w' → S20 w') ∧ S22 w ∧
stA 4 a19 g15 w fun w =>
∃ S23 : World → Prop, (∀ w', S23 w' → S22 w') ∧ S23 w ∧
stA 4 a21 g18 w fun w =>
∃ n24 : Int, w.cell? a19 = some (.int .u64 n24) ∧
∃ n25 : Int, w.cell? a21 = some (.int .u64 n25) ∧
cond (n24 != n25) (
Q (.bool false) w) (
∃ n26 : Int, w.cell? (a19.add 1) = some (.int .u32 n26) ∧
∃ n27 : Int, w.cell? (a21.add 1) = some (.int .u32 n27) ∧
cond (n26 != n27) (
Q (.bool false) w) (
∃ n28 : Int, w.cell? (a19.add 3) = some (.int .u64 n28) ∧
∃ n29 : Int, w.cell? (a21.add 3) = some (.int .u64 n29) ∧
cond (n28 != n29) (
Q (.bool false) w) (
∃ (q30b : Option Addr) (q30l q30c : Nat), w.cell? (a19.add 2) = some (.slice q30b q30l q30c) ∧
∃ (q31b : Option Addr) (q31l q31c : Nat), w.cell? (a21.add 2) = some (.slice q31b q31l q31c) ∧
Calls Try.prog 19 #[.slice q30b q30l q30c, .slice q31b q31l q31c] w fun e w =>
∃ b32 : Bool, e = .returned (.bool b32) ∧
cond (!b32) (
Q (.bool false) w) (
∃ t' : Int × Unit, ([.int .i64 (IntKind.i64.wrap (t9.1 + (1 : Int)))] : List Value) = tv [(5, .int .i64)] t' ∧ I7 t' w ∧ m8 t' w < m8 t9 w10))))) ∧
(newW #[.int .u64 0, .int .u32 0, .slice none 0 0, .int .u64 0] 38 w.drew fun a33 w =>
∃ S34 : World → Prop, (∀ w', S34 w' → S12 w') ∧ S34 w ∧
newW #[.int .u64 0, .int .u32 0, .slice none 0 0, .int .u64 0] 38 w fun a35 w =>
∃ S36 : World → Prop, (∀ w', S36 w' → S34 w') ∧ S36 w ∧
stA 4 a35 g15 w fun w =>
∃ S37 : World → Prop, (∀ w', S37 w' → S36 w') ∧ S37 w ∧
stA 4 a33 g18 w fun w =>
∃ n38 : Int, w.cell? a35 = some (.int .u64 n38) ∧
∃ n39 : Int, w.cell? a33 = some (.int .u64 n39) ∧
cond (n38 != n39) (
Q (.bool false) w) (
∃ n40 : Int, w.cell? (a35.add 1) = some (.int .u32 n40) ∧
∃ n41 : Int, w.cell? (a33.add 1) = some (.int .u32 n41) ∧
cond (n40 != n41) (
Q (.bool false) w) (
∃ n42 : Int, w.cell? (a35.add 3) = some (.int .u64 n42) ∧
∃ n43 : Int, w.cell? (a33.add 3) = some (.int .u64 n43) ∧
cond (n42 != n43) (
Q (.bool false) w) (
∃ (q44b : Option Addr) (q44l q44c : Nat), w.cell? (a35.add 2) = some (.slice q44b q44l q44c) ∧
∃ (q45b : Option Addr) (q45l q45c : Nat), w.cell? (a33.add 2) = some (.slice q45b q45l q45c) ∧
Calls Try.prog 19 #[.slice q44b q44l q44c, .slice q45b q45l q45c] w fun e w =>
∃ b46 : Bool, e = .returned (.bool b46) ∧
cond (!b46) (
Q (.bool false) w) (
∃ t' : Int × Unit, ([.int .i64 (IntKind.i64.wrap (t9.1 + (1 : Int)))] : List Value) = tv [(5, .int .i64)] t' ∧ I7 t' w ∧ m8 t' w < m8 t9 w10))))))))) (
Q (.bool true) w)) w10))
set_option maxRecDepth 100000 in
theorem W14_eq (x0 : Array Value) (x1 : Array Value) (w : World) (Q : Value → World → Prop) : wFn Try.prog Try.f14 W14_plan [.agg x0, .agg x1] w Q = W14 x0 x1 w Q := by kernel_rfl
set_option maxRecDepth 100000 in
theorem W14_ok (x0 : Array Value) (x1 : Array Value) (w : World) (Q : Value → World → Prop) (h : W14 x0 x1 w Q) : Calls Try.prog 14 #[.agg x0, .agg x1] w (fun e w' => ∃ v, e = .returned v ∧ Q v w') :=
  calls_of_wFn mixed W14_plan Try.func14 (by kernel_rfl) ((W14_eq x0 x1 w Q).mpr h)

/-! ### 17: slices.Clone[[]byte,byte] -/
def W17_plan : Plan := .z
def W17 (x0b : Option Addr) (x0l x0c : Nat) (w : World) (Q : Value → World → Prop) : Prop :=
cond ((x0b : Option Addr).isNone) (
Q (.slice none 0 0) w) (
∃ g1 : Array Value, bslP Try.prog 23 0 [] g1 5 ∧
newW g1 5 w fun a2 w =>
apnW Try.prog 23 23 (.slice (some a2) 0 0) (.slice x0b x0l x0c) w fun q3b q3l q3c w =>
Q (.slice q3b q3l q3c) w)
set_option maxRecDepth 100000 in
theorem W17_eq (x0b : Option Addr) (x0l x0c : Nat) (w : World) (Q : Value → World → Prop) : wFn Try.prog Try.f17 W17_plan [.slice x0b x0l x0c] w Q = W17 x0b x0l x0c w Q := by kernel_rfl
set_option maxRecDepth 100000 in
theorem W17_ok (x0b : Option Addr) (x0l x0c : Nat) (w : World) (Q : Value → World → Prop) (h : W17 x0b x0l x0c w Q) : Calls Try.prog 17 #[.slice x0b x0l x0c] w (fun e w' => ∃ v, e = .returned v ∧ Q v w') :=
  calls_of_wFn mixed W17_plan Try.func17 (by kernel_rfl) ((W17_eq x0b x0l x0c w Q).mpr h)

/-! ### 18: hartix/hartixref6.copied -/
def W18_plan : Plan := .z
def W18 (x0b : Option Addr) (x0l x0c : Nat) (w : World) (Q : Value → World → Prop) : Prop :=
apnW Try.prog 23 23 (.slice none 0 0) (.slice x0b x0l x0c) w fun q1b q1l q1c w =>
Q (.slice q1b q1l q1c) w
set_option maxRecDepth 100000 in
theorem W18_eq (x0b : Option Addr) (x0l x0c : Nat) (w : World) (Q : Value → World → Prop) : wFn Try.prog Try.f18 W18_plan [.slice x0b x0l x0c] w Q = W18 x0b x0l x0c w Q := by kernel_rfl
set_option maxRecDepth 100000 in
theorem W18_ok (x0b : Option Addr) (x0l x0c : Nat) (w : World) (Q : Value → World → Prop) (h : W18 x0b x0l x0c w Q) : Calls Try.prog 18 #[.slice x0b x0l x0c] w (fun e w' => ∃ v, e = .returned v ∧ Q v w') :=
  calls_of_wFn mixed W18_plan Try.func18 (by kernel_rfl) ((W18_eq x0b x0l x0c w Q).mpr h)

end Go.Proofs.Ytceciiemnagdoaa
