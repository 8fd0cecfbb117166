/- The walk's functions of this seat, printed by a program of mine (wgen.py) out of Lean's own print of the loaded functions; each is tied to the loaded function by the kernel. No condition. -/
import Derived.Test.YthkcdkldpbndnaaDoorRows
import Derived.Test.YthkcdkldpbndnaaDoorHz
import Derived.Test.YthkcdkldpbndnaaDoorWf
set_option linter.unusedVariables false
namespace Go.Proofs.YthkcdkldpbndnaaDoor
open Go.RowKit Go.Hx
/-! ### 5: hartix/hartixlaw12.FileThrough -/
def W5_plan : Plan := (.n .z (.n .z (.n .z (.n .z (.n .z (.n .z (.n .z (.n .z (.cut [6, 14, 15, 16, 17, 18, 19, 20, 21, 22, 57, 58, 59, 60, 61, 62, 63, 64, 65, 66, 67, 68, 69, 70, 71, 72, 73, 74, 75, 76, 77, 78, 79, 80, 81, 82, 83, 84, 85, 86, 87, 88, 89, 90, 91, 92, 93, 94, 95, 96, 97, 98, 99, 100, 101, 102, 103, 104, 105, 106, 107, 108, 109, 110, 111, 112, 113, 114, 115, 116, 117, 118, 119, 120, 121, 122, 123, 124, 125, 126, 127, 128, 129, 130, 131, 132, 133, 134, 135, 136, 137, 138, 139, 140, 141, 142, 143, 144, 145, 146, 147, 148, 149, 150, 151, 152, 153, 154, 155, 156, 157, 158, 159, 160, 161, 162, 163, 164, 165, 166, 167, 168, 169, 170, 171, 172, 173, 174, 175, 176, 177, 178, 179, 180, 181, 182, 183, 184, 185, 186, 187, 188, 189, 190, 191, 192, 193, 194, 195, 196, 197, 198, 199, 200, 201, 202, 203, 204, 205, 206, 207, 208, 209, 210, 211, 212, 213, 214, 215, 216, 217, 218, 219, 220, 221, 222, 223, 224, 225, 226, 227, 228, 229, 230, 231, 232, 233, 234, 235, 236, 237, 238, 239, 240, 241, 242, 243, 244, 245, 246, 247, 248, 249, 250, 251, 252, 253, 254, 255, 256, 257, 258, 259, 260] [(14, .slice), (15, .slice)] (.n .z (.cut [6, 14, 15, 16, 17, 18, 19, 20, 21, 22, 57, 58, 59, 60, 61, 62, 63, 64, 65, 66, 67, 68, 69, 70, 71, 72, 73, 74, 75, 76, 77, 78, 79, 80, 81, 82, 83, 84, 85, 86, 87, 88, 89, 90, 91, 92, 93, 94, 95, 96, 97, 98, 99, 100, 101, 102, 103, 104, 105, 106, 107, 108, 109, 110, 111, 112, 113, 114, 115, 116, 117, 118, 119, 120, 121, 122, 123, 124, 125, 126, 127, 128, 129, 130, 131, 132, 133, 134, 135, 136, 137, 138, 139, 140, 141, 142, 143, 144, 145, 146, 147, 148, 149, 150, 151, 152, 153, 154, 155, 156, 157, 158, 159, 160, 161, 162, 163, 164, 165, 166, 167, 168, 169, 170, 171, 172, 173, 174, 175, 176, 177, 178, 179, 180, 181, 182, 183, 184, 185, 186, 187, 188, 189, 190, 191, 192, 193, 194, 195, 196, 197, 198, 199, 200, 201, 202, 203, 204, 205, 206, 207, 208, 209, 210, 211, 212, 213, 214, 215, 216, 217, 218, 219, 220, 221, 222, 223, 224, 225, 226, 227, 228, 229, 230, 231, 232, 233, 234, 235, 236, 237, 238, 239, 240, 241, 242, 243, 244, 245, 246, 247, 248, 249, 250, 251, 252, 253, 254, 255, 256, 257, 258, 259, 260] [(14, .slice), (15, .slice), (16, .int .i64)] (.n .z (.n (.n .z (.n .z (.n .z (.cut [6, 113, 114, 115, 116, 117, 118, 119, 120, 121, 122, 123, 124, 125, 126, 127, 128, 129, 130, 131, 132, 133, 134, 135, 136, 137, 138, 139, 140, 141, 142, 143, 144, 145] [] .z (.n (.n .z (.cut [14, 18, 146, 147, 148, 149, 150, 151, 152, 153, 154, 155, 156, 157, 158, 159, 160, 161] [(14, .slice), (18, .int .i64)] .z .z)) (.n .z (.cut [19, 162, 163, 164, 165, 166, 167, 168, 169] [(19, .int .i64)] .z (.n .z (.n .z (.n .z (.cut [6, 182, 183, 184, 185, 186, 187, 188, 189, 190, 191, 192, 193, 194, 195, 196, 197, 198, 199, 200, 201, 202, 203, 204, 205, 206, 207, 208, 209, 210, 211, 212, 213, 214, 215, 216, 217, 218, 219, 220, 221, 222, 223, 224, 225, 226, 227, 228, 229, 230, 231] [] .z (.n (.n .z (.cut [15, 22, 232, 233, 234, 235, 236, 237, 238, 239, 240, 241, 242, 243, 244, 245, 246] [(15, .slice), (22, .int .i64)] .z .z)) .z)))))))))))) .z)) .z)) (.n .z (.n .z (.n .z (.cut [6, 15, 27, 28, 29, 302, 303, 304, 305, 306, 307, 308, 309, 310, 311, 312, 313, 314, 315, 316, 317, 318, 319, 320, 321, 322, 323, 324, 325, 326, 327, 328, 329, 330, 331, 332, 333, 334, 335, 336, 337, 338, 339, 340, 341, 342] [(15, .slice)] (.n .z (.cut [6, 15, 27, 28, 29, 302, 303, 304, 305, 306, 307, 308, 309, 310, 311, 312, 313, 314, 315, 316, 317, 318, 319, 320, 321, 322, 323, 324, 325, 326, 327, 328, 329, 330, 331, 332, 333, 334, 335, 336, 337, 338, 339, 340, 341, 342] [(15, .slice), (27, .int .i64)] (.n .z (.n (.n .z (.n .z (.n .z (.cut [15, 29, 328, 329, 330, 331, 332, 333, 334, 335, 336, 337, 338, 339, 340, 341, 342] [(15, .slice), (29, .int .i64)] .z .z)))) .z)) .z)) .z)))))))))))))
def W5 (x0b : Option Addr) (x0l x0c : Nat) (x1b : Option Addr) (x1l x1c : Nat) (x2 : Bool) (w : World) (Q : Value → World → Prop) : Prop :=
Calls Tryd.prog 29 #[] w fun e w =>
∃ p1 : Option Addr, ∃ p2 : Option Addr, ∃ p3 : Option Addr, e = .returned (.tuple #[.pointer p1, .pointer p2, .pointer p3]) ∧
cond p3.isNone (
Q (.bool false) w) (
Calls Tryd.prog 30 #[.pointer p3] w fun e w =>
∃ n4 : Int, ∃ n5 : Int, ∃ n6 : Int, e = .returned (.tuple #[.int .i64 n4, .int .i64 n5, .int .i64 n6]) ∧
cond (n6 != (0 : Int)) (
Q (.bool false) w) (
cond (n4 == n5) (
Q (.bool false) w) (
Calls Tryd.prog 31 #[.pointer p3, .int .i64 n4] w fun e w =>
∃ g7 : Array Value, e = .returned (.agg g7) ∧
∃ n8 : Int, g7[7]? = some (.int .i64 n8) ∧
∃ J9 : ((Option Addr × Nat × Nat) × (Option Addr × Nat × Nat) × Unit) → World → Prop, (∀ (_ : Env) (t10 : (Option Addr × Nat × Nat) × (Option Addr × Nat × Nat) × Unit) (w : World), J9 t10 w →
cond (!x2) (
Calls Tryd.prog 37 #[.pointer p3, .int .i64 n4] w fun e w =>
∃ (q11b : Option Addr) (q11l q11c : Nat), ∃ n12 : Int, e = .returned (.tuple #[.slice q11b q11l q11c, .int .i64 n12]) ∧
∃ g13 : Array Value, bslP Tryd.prog 24 1 [(0, .int .u8 (120 : Int))] g13 5 ∧
newW g13 5 w fun a14 w =>
∃ (q15b : Option Addr) (q15l q15c : Nat), ∃ w' : World, stP Tryd.prog (convert 24 24 (.slice (some a14) 1 1)) w (.slice q15b q15l q15c) w' ∧
(fun w : World =>
Calls Tryd.prog 32 #[.pointer p3, .int .i64 n5, .slice q15b q15l q15c] w fun e w =>
∃ g16 : Array Value, e = .returned (.agg g16) ∧
newW #[.int .i64 0, .int .i64 0, .slice none 0 0, .int .i64 0, .int .i64 0, .slice none 0 0] 67 w fun a17 w =>
stA 6 a17 g16 w fun w =>
cond (n12 == (0 : Int)) (
∃ n18 : Int, w.cell? a17 = some (.int .i64 n18) ∧
cond (n18 == (3 : Int)) (
∃ n19 : Int, w.cell? (a17.add 1) = some (.int .i64 n19) ∧
Q (.bool (n19 == (0 : Int))) w) (
Q (.bool false) w)) (
Q (.bool false) w)) w') (
Calls Tryd.prog 37 #[.pointer p3, .int .i64 n5] w fun e w =>
∃ (q20b : Option Addr) (q20l q20c : Nat), ∃ n21 : Int, e = .returned (.tuple #[.slice q20b q20l q20c, .int .i64 n21]) ∧
cond (n21 != (0 : Int)) (
Q (.bool false) w) (
∃ g22 : Array Value, bldP Tryd.prog 64 [(0, .int .i64 (4 : Int)), (1, .int .i64 n8)] (.agg g22) ∧
∃ g23 : Array Value, bslP Tryd.prog 65 1 [(0, .agg g22)] g23 64 ∧
newW g23 64 w fun a24 w =>
Calls Tryd.prog 33 #[.slice q20b q20l q20c, .slice (some a24) 1 1] w fun e w =>
∃ b25 : Bool, e = .returned (.bool b25) ∧
cond (!b25) (
Q (.bool false) w) (
∃ J26 : ((Option Addr × Nat × Nat) × Unit) → World → Prop, (∀ (_ : Env) (t27 : (Option Addr × Nat × Nat) × Unit) (w : World), J26 t27 w →
Calls Tryd.prog 35 #[.pointer p3, .int .i64 n4, .int .i64 (9 : Int)] w fun e w =>
∃ g28 : Array Value, e = .returned (.agg g28) ∧
newW #[.int .i64 0, .slice none 0 0, .int .i64 0, .int .i64 0, .slice none 0 0] 71 w fun a29 w =>
stA 5 a29 g28 w fun w =>
Calls Tryd.prog 37 #[.pointer p3, .int .i64 n4] w fun e w =>
∃ (q30b : Option Addr) (q30l q30c : Nat), ∃ n31 : Int, e = .returned (.tuple #[.slice q30b q30l q30c, .int .i64 n31]) ∧
Calls Tryd.prog 38 #[.pointer p3, .int .i64 n8] w fun e w =>
∃ g32 : Array Value, ∃ b33 : Bool, e = .returned (.tuple #[.agg g32, .bool b33]) ∧
newW #[.int .i64 0, .slice none 0 0, .int .u32 0, .int .u32 0, .bool false, .bool false] 80 w fun a34 w =>
stA 6 a34 g32 w fun w =>
Calls Tryd.prog 21 #[.slice t27.1.1 t27.1.2.1 t27.1.2.2, .slice t10.1.1 t10.1.2.1 t10.1.2.2] w fun e w =>
∃ b35 : Bool, e = .returned (.bool b35) ∧
cond b35 (
∃ n36 : Int, w.cell? a29 = some (.int .i64 n36) ∧
cond (n36 == (1 : Int)) (
∃ (q37b : Option Addr) (q37l q37c : Nat), w.cell? (a29.add 1) = some (.slice q37b q37l q37c) ∧
cond (((q37l : Nat) : Int) == (0 : Int)) (
cond (n31 == (0 : Int)) (
cond (((q30l : Nat) : Int) == (0 : Int)) (
Q (.bool (!b33)) w) (
Q (.bool false) w)) (
Q (.bool false) w)) (
Q (.bool false) w)) (
Q (.bool false) w)) (
Q (.bool false) w)) ∧
∃ (I38 : ((Option Addr × Nat × Nat) × Int × Unit) → World → Prop) (m39 : ((Option Addr × Nat × Nat) × Int × Unit) → World → Nat), (∃ t : (Option Addr × Nat × Nat) × Int × Unit, ([.slice t10.2.1.1 t10.2.1.2.1 t10.2.1.2.2, .int .i64 (0 : Int)] : List Value) = tv [(15, .slice), (27, .int .i64)] t ∧ I38 t w) ∧
∀ (_ : Env) (t40 : (Option Addr × Nat × Nat) × Int × Unit) (w41 : World), I38 t40 w41 →
(fun w : World =>
cond (decide (t40.2.1 < (514 : Int))) (
cond (decide (((t40.1.2.1 : Nat) : Int) < ((t10.1.2.1 : Nat) : Int))) (
((7 : Int) ≠ 0 ∧
Calls Tryd.prog 35 #[.pointer p3, .int .i64 n4, .int .i64 (IntKind.i64.wrap ((1 : Int) + (t40.2.1.tmod (7 : Int))))] w fun e w =>
∃ g42 : Array Value, e = .returned (.agg g42) ∧
newW #[.int .i64 0, .slice none 0 0, .int .i64 0, .int .i64 0, .slice none 0 0] 71 w fun a43 w =>
stA 5 a43 g42 w fun w =>
∃ n44 : Int, w.cell? a43 = some (.int .i64 n44) ∧
cond (n44 != (1 : Int)) (
Q (.bool false) w) (
∃ (q45b : Option Addr) (q45l q45c : Nat), w.cell? (a43.add 1) = some (.slice q45b q45l q45c) ∧
cond (((q45l : Nat) : Int) == (0 : Int)) (
Q (.bool false) w) (
∃ (I46 : ((Option Addr × Nat × Nat) × Int × Unit) → World → Prop) (m47 : ((Option Addr × Nat × Nat) × Int × Unit) → World → Nat), (∃ t : (Option Addr × Nat × Nat) × Int × Unit, ([.slice t40.1.1 t40.1.2.1 t40.1.2.2, .int .i64 (0 : Int)] : List Value) = tv [(15, .slice), (29, .int .i64)] t ∧ I46 t w) ∧
∀ (_ : Env) (t48 : (Option Addr × Nat × Nat) × Int × Unit) (w49 : World), I46 t48 w49 →
(fun w : World =>
∃ (q50b : Option Addr) (q50l q50c : Nat), w.cell? (a43.add 1) = some (.slice q50b q50l q50c) ∧
cond (decide (t48.2.1 < ((q50l : Nat) : Int))) (
∃ (q51b : Option Addr) (q51l q51c : Nat), w.cell? (a43.add 1) = some (.slice q51b q51l q51c) ∧
nlW q51b fun a52 =>
((0 ≤ t48.2.1 ∧ t48.2.1 < ((q51l : Nat) : Int)) ∧
∃ n53 : Int, w.cell? (a52.add (t48.2.1.toNat * 1)) = some (.int .u8 n53) ∧
∃ g54 : Array Value, bslP Tryd.prog 24 1 [(0, .int .u8 n53)] g54 5 ∧
newW g54 5 w fun a55 w =>
apnW Tryd.prog 24 24 (.slice t48.1.1 t48.1.2.1 t48.1.2.2) (.slice (some a55) 1 1) w fun q56b q56l q56c w =>
∃ t' : (Option Addr × Nat × Nat) × Int × Unit, ([.slice q56b q56l q56c, .int .i64 (IntKind.i64.wrap (t48.2.1 + (1 : Int)))] : List Value) = tv [(15, .slice), (29, .int .i64)] t' ∧ I46 t' w ∧ m47 t' w < m47 t48 w49)) (
∃ t' : (Option Addr × Nat × Nat) × Int × Unit, ([.slice t48.1.1 t48.1.2.1 t48.1.2.2, .int .i64 (IntKind.i64.wrap (t40.2.1 + (1 : Int)))] : List Value) = tv [(15, .slice), (27, .int .i64)] t' ∧ I38 t' w ∧ m39 t' w < m39 t40 w41)) w49)))) (
∃ t : (Option Addr × Nat × Nat) × Unit, ([.slice t40.1.1 t40.1.2.1 t40.1.2.2] : List Value) = tv [(15, .slice)] t ∧ J26 t w)) (
∃ t : (Option Addr × Nat × Nat) × Unit, ([.slice t40.1.1 t40.1.2.1 t40.1.2.2] : List Value) = tv [(15, .slice)] t ∧ J26 t w)) w41)))) ∧
∃ (I57 : ((Option Addr × Nat × Nat) × (Option Addr × Nat × Nat) × Int × Unit) → World → Prop) (m58 : ((Option Addr × Nat × Nat) × (Option Addr × Nat × Nat) × Int × Unit) → World → Nat), (∃ t : (Option Addr × Nat × Nat) × (Option Addr × Nat × Nat) × Int × Unit, ([.slice none 0 0, .slice none 0 0, .int .i64 (0 : Int)] : List Value) = tv [(14, .slice), (15, .slice), (16, .int .i64)] t ∧ I57 t w) ∧
∀ (_ : Env) (t59 : (Option Addr × Nat × Nat) × (Option Addr × Nat × Nat) × Int × Unit) (w60 : World), I57 t59 w60 →
(fun w : World =>
cond (decide (t59.2.2.1 < ((x0l : Nat) : Int))) (
cond (decide (t59.2.2.1 < (60 : Int))) (
nlW x0b fun a61 =>
((0 ≤ t59.2.2.1 ∧ t59.2.2.1 < ((x0l : Nat) : Int)) ∧
∃ (q62b : Option Addr) (q62l q62c : Nat), w.cell? (a61.add (t59.2.2.1.toNat * 1)) = some (.slice q62b q62l q62c) ∧
cond (decide (((q62l : Nat) : Int) > (3000 : Int))) (
∃ t' : (Option Addr × Nat × Nat) × (Option Addr × Nat × Nat) × Int × Unit, ([.slice t59.1.1 t59.1.2.1 t59.1.2.2, .slice t59.2.1.1 t59.2.1.2.1 t59.2.1.2.2, .int .i64 (IntKind.i64.wrap (t59.2.2.1 + (1 : Int)))] : List Value) = tv [(14, .slice), (15, .slice), (16, .int .i64)] t' ∧ I57 t' w ∧ m58 t' w < m58 t59 w60) (
nlW x0b fun a63 =>
((0 ≤ t59.2.2.1 ∧ t59.2.2.1 < ((x0l : Nat) : Int)) ∧
∃ (q64b : Option Addr) (q64l q64c : Nat), w.cell? (a63.add (t59.2.2.1.toNat * 1)) = some (.slice q64b q64l q64c) ∧
Calls Tryd.prog 26 #[.slice q64b q64l q64c] w fun e w =>
∃ (q65b : Option Addr) (q65l q65c : Nat), e = .returned (.slice q65b q65l q65c) ∧
Calls Tryd.prog 32 #[.pointer p3, .int .i64 n5, .slice q65b q65l q65c] w fun e w =>
∃ g66 : Array Value, e = .returned (.agg g66) ∧
newW #[.int .i64 0, .int .i64 0, .slice none 0 0, .int .i64 0, .int .i64 0, .slice none 0 0] 67 w fun a67 w =>
stA 6 a67 g66 w fun w =>
∃ n68 : Int, w.drew.cell? (a67.add 1) = some (.int .i64 n68) ∧
cond (decide (n68 < (0 : Int))) (
Q (.bool false) w.drew) (
∃ n69 : Int, w.drew.cell? (a67.add 1) = some (.int .i64 n69) ∧
nlW x0b fun a70 =>
((0 ≤ t59.2.2.1 ∧ t59.2.2.1 < ((x0l : Nat) : Int)) ∧
∃ (q71b : Option Addr) (q71l q71c : Nat), w.drew.cell? (a70.add (t59.2.2.1.toNat * 1)) = some (.slice q71b q71l q71c) ∧
cond (decide (n69 > ((q71l : Nat) : Int))) (
Q (.bool false) w.drew) (
∃ n72 : Int, w.drew.cell? a67 = some (.int .i64 n72) ∧
cond (n72 == (3 : Int)) (
Q (.bool false) w.drew) (
∃ n73 : Int, w.drew.cell? a67 = some (.int .i64 n73) ∧
∃ n74 : Int, w.drew.cell? (a67.add 1) = some (.int .i64 n74) ∧
nlW x0b fun a75 =>
((0 ≤ t59.2.2.1 ∧ t59.2.2.1 < ((x0l : Nat) : Int)) ∧
∃ (q76b : Option Addr) (q76l q76c : Nat), w.drew.cell? (a75.add (t59.2.2.1.toNat * 1)) = some (.slice q76b q76l q76c) ∧
cond (!((n73 == (1 : Int)) == (n74 == ((q76l : Nat) : Int)))) (
Q (.bool false) w.drew) (
∃ J77 : (Unit) → World → Prop, (∀ (_ : Env) (t78 : Unit) (w : World), J77 t78 w →
∃ (I79 : ((Option Addr × Nat × Nat) × Int × Unit) → World → Prop) (m80 : ((Option Addr × Nat × Nat) × Int × Unit) → World → Nat), (∃ t : (Option Addr × Nat × Nat) × Int × Unit, ([.slice t59.1.1 t59.1.2.1 t59.1.2.2, .int .i64 (0 : Int)] : List Value) = tv [(14, .slice), (18, .int .i64)] t ∧ I79 t w) ∧
∀ (_ : Env) (t81 : (Option Addr × Nat × Nat) × Int × Unit) (w82 : World), I79 t81 w82 →
(fun w : World =>
∃ n83 : Int, w.cell? (a67.add 1) = some (.int .i64 n83) ∧
cond (decide (t81.2.1 < n83)) (
nlW x0b fun a84 =>
((0 ≤ t59.2.2.1 ∧ t59.2.2.1 < ((x0l : Nat) : Int)) ∧
∃ (q85b : Option Addr) (q85l q85c : Nat), w.cell? (a84.add (t59.2.2.1.toNat * 1)) = some (.slice q85b q85l q85c) ∧
nlW q85b fun a86 =>
((0 ≤ t81.2.1 ∧ t81.2.1 < ((q85l : Nat) : Int)) ∧
∃ n87 : Int, w.cell? (a86.add (t81.2.1.toNat * 1)) = some (.int .u8 n87) ∧
∃ g88 : Array Value, bslP Tryd.prog 24 1 [(0, .int .u8 n87)] g88 5 ∧
newW g88 5 w fun a89 w =>
apnW Tryd.prog 24 24 (.slice t81.1.1 t81.1.2.1 t81.1.2.2) (.slice (some a89) 1 1) w fun q90b q90l q90c w =>
∃ t' : (Option Addr × Nat × Nat) × Int × Unit, ([.slice q90b q90l q90c, .int .i64 (IntKind.i64.wrap (t81.2.1 + (1 : Int)))] : List Value) = tv [(14, .slice), (18, .int .i64)] t' ∧ I79 t' w ∧ m80 t' w < m80 t81 w82))) (
∃ J91 : (Int × Unit) → World → Prop, (∀ (_ : Env) (t92 : Int × Unit) (w : World), J91 t92 w →
Calls Tryd.prog 34 #[.pointer p3, .int .i64 n4, .int .i64 t92.1] w fun e w =>
∃ g93 : Array Value, e = .returned (.agg g93) ∧
newW #[.int .i64 0, .slice none 0 0, .int .i64 0, .int .i64 0, .slice none 0 0] 71 w fun a94 w =>
stA 5 a94 g93 w fun w =>
Calls Tryd.prog 35 #[.pointer p3, .int .i64 n4, .int .i64 t92.1] w fun e w =>
∃ g95 : Array Value, e = .returned (.agg g95) ∧
newW #[.int .i64 0, .slice none 0 0, .int .i64 0, .int .i64 0, .slice none 0 0] 71 w fun a96 w =>
stA 5 a96 g95 w fun w =>
∃ g97 : Array Value, g97.size = 5 ∧ RowAt w a94 g97 ∧
∃ g98 : Array Value, g98.size = 5 ∧ RowAt w a96 g98 ∧
Calls Tryd.prog 36 #[.agg g97, .agg g98] w fun e w =>
∃ b99 : Bool, e = .returned (.bool b99) ∧
cond (!b99) (
Q (.bool false) w) (
∃ J100 : (Unit) → World → Prop, (∀ (_ : Env) (t101 : Unit) (w : World), J100 t101 w →
∃ (I102 : ((Option Addr × Nat × Nat) × Int × Unit) → World → Prop) (m103 : ((Option Addr × Nat × Nat) × Int × Unit) → World → Nat), (∃ t : (Option Addr × Nat × Nat) × Int × Unit, ([.slice t59.2.1.1 t59.2.1.2.1 t59.2.1.2.2, .int .i64 (0 : Int)] : List Value) = tv [(15, .slice), (22, .int .i64)] t ∧ I102 t w) ∧
∀ (_ : Env) (t104 : (Option Addr × Nat × Nat) × Int × Unit) (w105 : World), I102 t104 w105 →
(fun w : World =>
∃ (q106b : Option Addr) (q106l q106c : Nat), w.cell? (a96.add 1) = some (.slice q106b q106l q106c) ∧
cond (decide (t104.2.1 < ((q106l : Nat) : Int))) (
∃ (q107b : Option Addr) (q107l q107c : Nat), w.cell? (a96.add 1) = some (.slice q107b q107l q107c) ∧
nlW q107b fun a108 =>
((0 ≤ t104.2.1 ∧ t104.2.1 < ((q107l : Nat) : Int)) ∧
∃ n109 : Int, w.cell? (a108.add (t104.2.1.toNat * 1)) = some (.int .u8 n109) ∧
∃ g110 : Array Value, bslP Tryd.prog 24 1 [(0, .int .u8 n109)] g110 5 ∧
newW g110 5 w fun a111 w =>
apnW Tryd.prog 24 24 (.slice t104.1.1 t104.1.2.1 t104.1.2.2) (.slice (some a111) 1 1) w fun q112b q112l q112c w =>
∃ t' : (Option Addr × Nat × Nat) × Int × Unit, ([.slice q112b q112l q112c, .int .i64 (IntKind.i64.wrap (t104.2.1 + (1 : Int)))] : List Value) = tv [(15, .slice), (22, .int .i64)] t' ∧ I102 t' w ∧ m103 t' w < m103 t104 w105)) (
cond (decide (((t104.1.2.1 : Nat) : Int) > ((t81.1.2.1 : Nat) : Int))) (
Q (.bool false) w) (
((0 ≤ ((t104.1.2.1 : Nat) : Int) ∧ ((t104.1.2.1 : Nat) : Int) ≤ ((t81.1.2.2 : Nat) : Int)) ∧
Calls Tryd.prog 21 #[.slice t104.1.1 t104.1.2.1 t104.1.2.2, .slice (slB t81.1.1 0 t81.1.2.2 1) ((((t104.1.2.1 : Nat) : Int).toNat) - 0) (t81.1.2.2 - 0)] w fun e w =>
∃ b113 : Bool, e = .returned (.bool b113) ∧
cond (!b113) (
Q (.bool false) w) (
∃ t' : (Option Addr × Nat × Nat) × (Option Addr × Nat × Nat) × Int × Unit, ([.slice t81.1.1 t81.1.2.1 t81.1.2.2, .slice t104.1.1 t104.1.2.1 t104.1.2.2, .int .i64 (IntKind.i64.wrap (t59.2.2.1 + (1 : Int)))] : List Value) = tv [(14, .slice), (15, .slice), (16, .int .i64)] t' ∧ I57 t' w ∧ m58 t' w < m58 t59 w60))))) w105) ∧
cond (decide (t92.1 < (0 : Int))) (
∃ n114 : Int, w.cell? a96 = some (.int .i64 n114) ∧
cond (n114 != (3 : Int)) (
Q (.bool false) w) (
∃ t : Unit, ([] : List Value) = tv [] t ∧ J100 t w)) (
∃ n115 : Int, w.cell? a96 = some (.int .i64 n115) ∧
cond (n115 == (2 : Int)) (
∃ g116 : Array Value, g116.size = 2 ∧ RowAt w (a96.add 2) g116 ∧
∃ g117 : Array Value, bldP Tryd.prog 64 [(0, .int .i64 (4 : Int)), (1, .int .i64 n8)] (.agg g117) ∧
∃ b118 : Bool, AggEq Tryd.prog 64 g116 g117 b118 ∧
cond (!b118) (
Q (.bool false) w) (
cond (((t81.1.2.1 : Nat) : Int) != ((t59.2.1.2.1 : Nat) : Int)) (
Q (.bool false) w) (
cond (t92.1 == (0 : Int)) (
Q (.bool false) w) (
∃ t : Unit, ([] : List Value) = tv [] t ∧ J100 t w)))) (
∃ n119 : Int, w.drew.cell? a96 = some (.int .i64 n119) ∧
cond (n119 != (1 : Int)) (
Q (.bool false) w.drew) (
∃ S120 : World → Prop, S120 w.drew ∧
∃ (q121b : Option Addr) (q121l q121c : Nat), (∀ w', S120 w' → w'.cell? (a96.add 1) = some (.slice q121b q121l q121c)) ∧
∃ (q122b : Option Addr) (q122l q122c : Nat), (∀ w', S120 w' → w'.cell? (a96.add 4) = some (.slice q122b q122l q122c)) ∧
∃ g123 : Array Value, bldP Tryd.prog 64 [(0, .int .i64 (5 : Int)), (1, .int .i64 n8)] (.agg g123) ∧
∃ g124 : Array Value, bslP Tryd.prog 65 1 [(0, .agg g123)] g124 64 ∧
newW g124 64 w.drew fun a125 w =>
∃ S126 : World → Prop, (∀ w', S126 w' → S120 w') ∧ S126 w ∧
Calls Tryd.prog 33 #[.slice q122b q122l q122c, .slice (some a125) 1 1] w fun e w =>
∃ b127 : Bool, e = .returned (.bool b127) ∧
∃ S128 : World → Prop, (∀ w', S128 w' → S126 w') ∧ S128 w ∧
cond (!((decide (((q121l : Nat) : Int) > (0 : Int))) == b127)) (
Q (.bool false) w) (
∃ (q129b : Option Addr) (q129l q129c : Nat), (∀ w', S128 w' → w'.cell? (a96.add 1) = some (.slice q129b q129l q129c)) ∧
cond (decide (((q129l : Nat) : Int) > t92.1)) (
Q (.bool false) w) (
∃ t : Unit, ([] : List Value) = tv [] t ∧ J100 t w))))))) ∧
cond (decide (t59.2.2.1 < ((x1l : Nat) : Int))) (
nlW x1b fun a130 =>
((0 ≤ t59.2.2.1 ∧ t59.2.2.1 < ((x1l : Nat) : Int)) ∧
∃ n131 : Int, w.cell? (a130.add (t59.2.2.1.toNat * 1)) = some (.int .i64 n131) ∧
∃ t : Int × Unit, ([.int .i64 n131] : List Value) = tv [(19, .int .i64)] t ∧ J91 t w)) (
∃ t : Int × Unit, ([.int .i64 (0 : Int)] : List Value) = tv [(19, .int .i64)] t ∧ J91 t w))) w82) ∧
∃ S132 : World → Prop, S132 w.drew.drew ∧
∃ n133 : Int, (∀ w', S132 w' → w'.cell? (a67.add 1) = some (.int .i64 n133)) ∧
∃ (q134b : Option Addr) (q134l q134c : Nat), (∀ w', S132 w' → w'.cell? (a67.add 5) = some (.slice q134b q134l q134c)) ∧
∃ g135 : Array Value, bldP Tryd.prog 64 [(0, .int .i64 (4 : Int)), (1, .int .i64 n8)] (.agg g135) ∧
∃ g136 : Array Value, bslP Tryd.prog 65 1 [(0, .agg g135)] g136 64 ∧
newW g136 64 w.drew.drew fun a137 w =>
∃ S138 : World → Prop, (∀ w', S138 w' → S132 w') ∧ S138 w ∧
Calls Tryd.prog 33 #[.slice q134b q134l q134c, .slice (some a137) 1 1] w fun e w =>
∃ b139 : Bool, e = .returned (.bool b139) ∧
∃ S140 : World → Prop, (∀ w', S140 w' → S138 w') ∧ S140 w ∧
cond (!((decide (n133 > (0 : Int))) == b139)) (
Q (.bool false) w) (
∃ n141 : Int, (∀ w', S140 w' → w'.cell? a67 = some (.int .i64 n141)) ∧
cond (n141 == (2 : Int)) (
∃ g142 : Array Value, g142.size = 2 ∧ (∀ w', S140 w' → RowAt w' (a67.add 3) g142) ∧
∃ g143 : Array Value, bldP Tryd.prog 64 [(0, .int .i64 (5 : Int)), (1, .int .i64 n8)] (.agg g143) ∧
∃ b144 : Bool, AggEq Tryd.prog 64 g142 g143 b144 ∧
cond (!b144) (
Q (.bool false) w) (
∃ n145 : Int, (∀ w', S140 w' → w'.cell? (a67.add 1) = some (.int .i64 n145)) ∧
cond ((IntKind.i64.wrap ((IntKind.i64.wrap (((t59.1.2.1 : Nat) : Int) + n145)) - ((t59.2.1.2.1 : Nat) : Int))) != (512 : Int)) (
Q (.bool false) w) (
∃ t : Unit, ([] : List Value) = tv [] t ∧ J77 t w))) (
∃ t : Unit, ([] : List Value) = tv [] t ∧ J77 t w)))))))))))) (
∃ t : (Option Addr × Nat × Nat) × (Option Addr × Nat × Nat) × Unit, ([.slice t59.1.1 t59.1.2.1 t59.1.2.2, .slice t59.2.1.1 t59.2.1.2.1 t59.2.1.2.2] : List Value) = tv [(14, .slice), (15, .slice)] t ∧ J9 t w)) (
∃ t : (Option Addr × Nat × Nat) × (Option Addr × Nat × Nat) × Unit, ([.slice t59.1.1 t59.1.2.1 t59.1.2.2, .slice t59.2.1.1 t59.2.1.2.1 t59.2.1.2.2] : List Value) = tv [(14, .slice), (15, .slice)] t ∧ J9 t w)) w60)))
set_option maxRecDepth 100000 in
theorem W5_eq (x0b : Option Addr) (x0l x0c : Nat) (x1b : Option Addr) (x1l x1c : Nat) (x2 : Bool) (w : World) (Q : Value → World → Prop) : wFn Tryd.prog Tryd.f5 W5_plan [.slice x0b x0l x0c, .slice x1b x1l x1c, .bool x2] w Q = W5 x0b x0l x0c x1b x1l x1c x2 w Q := by kernel_rfl
set_option maxRecDepth 100000 in
theorem W5_ok (x0b : Option Addr) (x0l x0c : Nat) (x1b : Option Addr) (x1l x1c : Nat) (x2 : Bool) (w : World) (Q : Value → World → Prop) (h : W5 x0b x0l x0c x1b x1l x1c x2 w Q) : Calls Tryd.prog 5 #[.slice x0b x0l x0c, .slice x1b x1l x1c, .bool x2] w (fun e w' => ∃ v, e = .returned v ∧ Q v w') :=
  calls_of_wFn mixed W5_plan Tryd.func5 (by kernel_rfl) ((W5_eq x0b x0l x0c x1b x1l x1c x2 w Q).mpr h)

/-! ### 6: hartix/hartixlaw12.FileNobody -/
def W6_plan : Plan := (.n .z (.n .z (.n .z (.n (.n .z (.cut [6, 9, 10, 11, 12, 13, 14, 15, 16, 17, 18, 19, 20, 21, 22, 23, 32, 33, 34, 35, 36, 37, 38, 39, 40, 41, 42, 43, 44, 45, 46, 47, 48, 49, 50, 51, 52, 53, 54, 55, 56, 57, 58, 59, 60, 61, 62, 63, 64, 65, 66, 67, 68, 69, 70, 71, 72, 73, 74, 75, 76, 77, 78, 79, 80, 81, 82, 83, 84, 85, 86, 87, 88, 89, 90, 91, 92, 93, 94, 95, 96, 97, 98, 99, 100, 101, 102, 103, 104, 105, 106, 107, 108, 109, 110, 111, 112, 113, 114, 115, 116, 117, 118, 119, 120, 121, 122, 123, 124, 125, 126, 127, 128, 129, 130, 131, 132, 133, 134, 135, 136, 137, 138, 139, 140, 141, 142, 143, 144, 145, 146, 147, 148, 149, 150, 151, 152, 153, 154, 155, 156, 157, 158, 159, 160, 161, 162, 163, 164] [(9, .int .i64)] .z .z)) .z))))
def W6 (x0 : Int) (x1 : Int) (x2b : Option Addr) (x2l x2c : Nat) (w : World) (Q : Value → World → Prop) : Prop :=
∃ g1 : Array Value, bldP Tryd.prog 97 [] (.agg g1) ∧
newW g1 97 w fun a2 w =>
∃ g3 : Array Value, bslP Tryd.prog 98 2 [(0, .pointer none), (1, .pointer (some a2))] g3 55 ∧
newW g3 55 w fun a4 w =>
∃ (I5 : (Int × Unit) → World → Prop) (m6 : (Int × Unit) → World → Nat), (∃ t : Int × Unit, ([.int .i64 (0 : Int)] : List Value) = tv [(9, .int .i64)] t ∧ I5 t w) ∧
∀ (_ : Env) (t7 : Int × Unit) (w8 : World), I5 t7 w8 →
(fun w : World =>
cond (decide (t7.1 < (2 : Int))) (
nlW (some a4) fun a9 =>
((0 ≤ t7.1 ∧ t7.1 < ((2 : Nat) : Int)) ∧
∃ p10 : Option Addr, w.cell? (a9.add (t7.1.toNat * 1)) = some (.pointer p10) ∧
Calls Tryd.prog 39 #[.pointer p10, .int .i64 x1, .bool true, .bool true] w fun e w =>
∃ n11 : Int, ∃ n12 : Int, e = .returned (.tuple #[.int .i64 n11, .int .i64 n12]) ∧
Calls Tryd.prog 30 #[.pointer p10] w fun e w =>
∃ n13 : Int, ∃ n14 : Int, ∃ n15 : Int, e = .returned (.tuple #[.int .i64 n13, .int .i64 n14, .int .i64 n15]) ∧
Calls Tryd.prog 37 #[.pointer p10, .int .i64 x0] w fun e w =>
∃ (q16b : Option Addr) (q16l q16c : Nat), ∃ n17 : Int, e = .returned (.tuple #[.slice q16b q16l q16c, .int .i64 n17]) ∧
Calls Tryd.prog 40 #[.pointer p10, .int .i64 x0] w fun e w =>
∃ g18 : Array Value, ∃ n19 : Int, e = .returned (.tuple #[.agg g18, .int .i64 n19]) ∧
newW #[.int .i32 0, .int .u32 0, .int .i16 0, .int .i16 0, .int .u64 0] 102 w fun a20 w =>
stA 5 a20 g18 w fun w =>
Calls Tryd.prog 38 #[.pointer p10, .int .i64 x1] w fun e w =>
∃ g21 : Array Value, ∃ b22 : Bool, e = .returned (.tuple #[.agg g21, .bool b22]) ∧
newW #[.int .i64 0, .slice none 0 0, .int .u32 0, .int .u32 0, .bool false, .bool false] 80 w fun a23 w =>
stA 6 a23 g21 w fun w =>
Calls Tryd.prog 41 #[.pointer p10] w fun e w =>
∃ n24 : Int, ∃ n25 : Int, e = .returned (.tuple #[.int .i64 n24, .int .i64 n25]) ∧
cond (n11 != (0 : Int)) (
Q (.bool false) w) (
cond (n13 != (0 : Int)) (
Q (.bool false) w) (
cond (n14 != (0 : Int)) (
Q (.bool false) w) (
cond (((q16l : Nat) : Int) != (0 : Int)) (
Q (.bool false) w) (
∃ g26 : Array Value, g26.size = 5 ∧ RowAt w a20 g26 ∧
∃ g27 : Array Value, bldP Tryd.prog 102 [] (.agg g27) ∧
∃ b28 : Bool, AggEq Tryd.prog 102 g26 g27 b28 ∧
cond (!b28) (
Q (.bool false) w) (
cond b22 (
Q (.bool false) w) (
∃ n29 : Int, w.cell? a23 = some (.int .i64 n29) ∧
cond (n29 != (0 : Int)) (
Q (.bool false) w) (
cond (n24 != (0 : Int)) (
Q (.bool false) w) (
cond (n25 != (0 : Int)) (
Q (.bool false) w) (
cond (n12 != (3 : Int)) (
Q (.bool false) w) (
cond (n15 != (3 : Int)) (
Q (.bool false) w) (
cond (n17 != (3 : Int)) (
Q (.bool false) w) (
cond (n19 != (3 : Int)) (
Q (.bool false) w) (
Calls Tryd.prog 42 #[.pointer p10, .int .i64 x0] w fun e w =>
∃ n30 : Int, e = .returned (.int .i64 n30) ∧
cond (n30 != (3 : Int)) (
Q (.bool false) w) (
Calls Tryd.prog 31 #[.pointer p10, .int .i64 x0] w fun e w =>
∃ g31 : Array Value, e = .returned (.agg g31) ∧
∃ g32 : Array Value, bldP Tryd.prog 61 [] (.agg g32) ∧
∃ b33 : Bool, AggEq Tryd.prog 61 g31 g32 b33 ∧
cond (!b33) (
Q (.bool false) w) (
Calls Tryd.prog 35 #[.pointer p10, .int .i64 x0, .int .i64 x1] w fun e w =>
∃ g34 : Array Value, e = .returned (.agg g34) ∧
∃ g35 : Array Value, bldP Tryd.prog 71 [(0, .int .i64 (3 : Int))] (.agg g35) ∧
Calls Tryd.prog 36 #[.agg g34, .agg g35] w fun e w =>
∃ b36 : Bool, e = .returned (.bool b36) ∧
cond (!b36) (
Q (.bool false) w) (
Calls Tryd.prog 34 #[.pointer p10, .int .i64 x0, .int .i64 x1] w fun e w =>
∃ g37 : Array Value, e = .returned (.agg g37) ∧
∃ g38 : Array Value, bldP Tryd.prog 71 [(0, .int .i64 (3 : Int))] (.agg g38) ∧
Calls Tryd.prog 36 #[.agg g37, .agg g38] w fun e w =>
∃ b39 : Bool, e = .returned (.bool b39) ∧
cond (!b39) (
Q (.bool false) w) (
Calls Tryd.prog 32 #[.pointer p10, .int .i64 x0, .slice x2b x2l x2c] w fun e w =>
∃ g40 : Array Value, e = .returned (.agg g40) ∧
∃ g41 : Array Value, bldP Tryd.prog 67 [(0, .int .i64 (3 : Int))] (.agg g41) ∧
Calls Tryd.prog 43 #[.agg g40, .agg g41] w fun e w =>
∃ b42 : Bool, e = .returned (.bool b42) ∧
cond (!b42) (
Q (.bool false) w) (
∃ t' : Int × Unit, ([.int .i64 (IntKind.i64.wrap (t7.1 + (1 : Int)))] : List Value) = tv [(9, .int .i64)] t' ∧ I5 t' w ∧ m6 t' w < m6 t7 w8)))))))))))))))))))) (
Calls Tryd.prog 44 #[.int .i64 (4 : Int)] w fun e w =>
∃ p43 : Option Addr, ∃ v44 : Value, e = .returned (.tuple #[.pointer p43, v44]) ∧
∃ b45 : Bool, isNilI v44 = some b45 ∧
cond (!b45) (
Q (.bool false) w) (
cond p43.isNone (
Q (.bool false) w) (
Calls Tryd.prog 45 #[.pointer p43] w fun e w =>
∃ p46 : Option Addr, ∃ n47 : Int, e = .returned (.tuple #[.pointer p46, .int .i64 n47]) ∧
cond (n47 == (0 : Int)) (
cond (!p46.isNone) (
Calls Tryd.prog 46 #[.pointer p46, .pointer none] w fun e w =>
∃ p48 : Option Addr, e = .returned (.pointer p48) ∧
cond p48.isNone (
Calls Tryd.prog 47 #[] w fun e w =>
∃ p49 : Option Addr, e = .returned (.pointer p49) ∧
Calls Tryd.prog 46 #[.pointer none, .pointer p49] w fun e w =>
∃ p50 : Option Addr, e = .returned (.pointer p50) ∧
cond p50.isNone (
∃ g51 : Array Value, bldP Tryd.prog 123 [] (.agg g51) ∧
newW g51 123 w fun a52 w =>
Calls Tryd.prog 47 #[] w fun e w =>
∃ p53 : Option Addr, e = .returned (.pointer p53) ∧
Calls Tryd.prog 46 #[.pointer (some a52), .pointer p53] w fun e w =>
∃ p54 : Option Addr, e = .returned (.pointer p54) ∧
Q (.bool p54.isNone) w) (
Q (.bool false) w)) (
Q (.bool false) w)) (
Q (.bool false) w)) (
Q (.bool false) w))))) w8
set_option maxRecDepth 100000 in
theorem W6_eq (x0 : Int) (x1 : Int) (x2b : Option Addr) (x2l x2c : Nat) (w : World) (Q : Value → World → Prop) : wFn Tryd.prog Tryd.f6 W6_plan [.int .i64 x0, .int .i64 x1, .slice x2b x2l x2c] w Q = W6 x0 x1 x2b x2l x2c w Q := by kernel_rfl
set_option maxRecDepth 100000 in
theorem W6_ok (x0 : Int) (x1 : Int) (x2b : Option Addr) (x2l x2c : Nat) (w : World) (Q : Value → World → Prop) (h : W6 x0 x1 x2b x2l x2c w Q) : Calls Tryd.prog 6 #[.int .i64 x0, .int .i64 x1, .slice x2b x2l x2c] w (fun e w' => ∃ v, e = .returned v ∧ Q v w') :=
  calls_of_wFn mixed W6_plan Tryd.func6 (by kernel_rfl) ((W6_eq x0 x1 x2b x2l x2c w Q).mpr h)

end Go.Proofs.YthkcdkldpbndnaaDoor
