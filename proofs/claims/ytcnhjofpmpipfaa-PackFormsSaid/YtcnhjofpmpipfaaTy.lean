/- Made by program: the data of the program, and what the program's table says of its types. -/
import Derived.Test.YtcnhjofpmpipfaaEq
import Derived.Test.YtcnhjofpmpipfaaProg
import Derived.KernelRfl
set_option linter.unusedVariables false
namespace Pk
open Go Go.Sx
open Go.Sx.Dat (enc)

structure Col where
  Name : ByteArray
  Kind : Int
  Class : ByteArray
  deriving DecidableEq, Inhabited
instance : Dat Col where
  sz := 3
  enc M w cs x := cs = [.string x.Name, .int .i64 x.Kind, .string x.Class]
  len h := by rw [h]; rfl
  mono h _ := h
  ones h := by rw [h]; rfl
structure Form where
  Name : ByteArray
  Cols : List Col
  deriving DecidableEq, Inhabited
instance : Dat Form where
  sz := 2
  enc M w cs x := ∃ a1 c1, cs = [.string x.Name, .slice a1 x.Cols.length c1] ∧ SL M w a1 c1 x.Cols
  len h := by obtain ⟨a1, c1, rfl, h1⟩ := h; rfl
  mono h t := by obtain ⟨a1, c1, rfl, h1⟩ := h; exact ⟨_, _, rfl, h1.mono t⟩
  ones h := by obtain ⟨a1, c1, rfl, h1⟩ := h; rfl
structure Val where
  Kind : Int
  N : Int
  deriving DecidableEq, Inhabited
instance : Dat Val where
  sz := 2
  enc M w cs x := cs = [.int .i64 x.Kind, .int .i64 x.N]
  len h := by rw [h]; rfl
  mono h _ := h
  ones h := by rw [h]; rfl
structure Node where
  Class : ByteArray
  Vals : List Val
  deriving DecidableEq, Inhabited
instance : Dat Node where
  sz := 2
  enc M w cs x := ∃ a1 c1, cs = [.string x.Class, .slice a1 x.Vals.length c1] ∧ SL M w a1 c1 x.Vals
  len h := by obtain ⟨a1, c1, rfl, h1⟩ := h; rfl
  mono h t := by obtain ⟨a1, c1, rfl, h1⟩ := h; exact ⟨_, _, rfl, h1.mono t⟩
  ones h := by obtain ⟨a1, c1, rfl, h1⟩ := h; rfl
structure Graph where
  Nodes : List Node
  Roots : List Val
  deriving DecidableEq, Inhabited
instance : Dat Graph where
  sz := 2
  enc M w cs x := ∃ a1 c1 a2 c2, cs = [.slice a1 x.Nodes.length c1, .slice a2 x.Roots.length c2] ∧ SL M w a1 c1 x.Nodes ∧ SL M w a2 c2 x.Roots
  len h := by obtain ⟨a1, c1, a2, c2, rfl, h1, h2⟩ := h; rfl
  mono h t := by obtain ⟨a1, c1, a2, c2, rfl, h1, h2⟩ := h; exact ⟨_, _, _, _, rfl, h1.mono t, h2.mono t⟩
  ones h := by obtain ⟨a1, c1, a2, c2, rfl, h1, h2⟩ := h; rfl
structure R22Bytes where
  B : List UInt8
  E : Int
  deriving DecidableEq, Inhabited
instance : Dat R22Bytes where
  sz := 2
  enc M w cs x := ∃ a1 c1, cs = [.slice a1 x.B.length c1, .int .i64 x.E] ∧ SL M w a1 c1 x.B
  len h := by obtain ⟨a1, c1, rfl, h1⟩ := h; rfl
  mono h t := by obtain ⟨a1, c1, rfl, h1⟩ := h; exact ⟨_, _, rfl, h1.mono t⟩
  ones h := by obtain ⟨a1, c1, rfl, h1⟩ := h; rfl
structure Give where
  From : ByteArray
  How : Int
  N : Int
  deriving DecidableEq, Inhabited
instance : Dat Give where
  sz := 3
  enc M w cs x := cs = [.string x.From, .int .i64 x.How, .int .i64 x.N]
  len h := by rw [h]; rfl
  mono h _ := h
  ones h := by rw [h]; rfl
structure Rule where
  Class : ByteArray
  To : ByteArray
  Gives : List Give
  deriving DecidableEq, Inhabited
instance : Dat Rule where
  sz := 3
  enc M w cs x := ∃ a1 c1, cs = [.string x.Class, .string x.To, .slice a1 x.Gives.length c1] ∧ SL M w a1 c1 x.Gives
  len h := by obtain ⟨a1, c1, rfl, h1⟩ := h; rfl
  mono h t := by obtain ⟨a1, c1, rfl, h1⟩ := h; exact ⟨_, _, rfl, h1.mono t⟩
  ones h := by obtain ⟨a1, c1, rfl, h1⟩ := h; rfl
structure Refusal where
  Node : Int
  Col : ByteArray
  deriving DecidableEq, Inhabited
instance : Dat Refusal where
  sz := 2
  enc M w cs x := cs = [.int .i64 x.Node, .string x.Col]
  len h := by rw [h]; rfl
  mono h _ := h
  ones h := by rw [h]; rfl
structure R22Graphed where
  G : Graph
  At : List Int
  E : Int
  deriving DecidableEq, Inhabited
instance : Dat R22Graphed where
  sz := 4
  enc M w cs x := ∃ a1 c1 a2 c2 a3 c3, cs = [.slice a1 x.G.Nodes.length c1, .slice a2 x.G.Roots.length c2, .slice a3 x.At.length c3, .int .i64 x.E] ∧ SL M w a1 c1 x.G.Nodes ∧ SL M w a2 c2 x.G.Roots ∧ SL M w a3 c3 x.At
  len h := by obtain ⟨a1, c1, a2, c2, a3, c3, rfl, h1, h2, h3⟩ := h; rfl
  mono h t := by obtain ⟨a1, c1, a2, c2, a3, c3, rfl, h1, h2, h3⟩ := h; exact ⟨_, _, _, _, _, _, rfl, h1.mono t, h2.mono t, h3.mono t⟩
  ones h := by obtain ⟨a1, c1, a2, c2, a3, c3, rfl, h1, h2, h3⟩ := h; rfl
structure R22Truth where
  Is : Bool
  E : Int
  deriving DecidableEq, Inhabited
instance : Dat R22Truth where
  sz := 2
  enc M w cs x := cs = [.bool x.Is, .int .i64 x.E]
  len h := by rw [h]; rfl
  mono h _ := h
  ones h := by rw [h]; rfl
structure R1Kinded where
  K : Int
  E : Int
  deriving DecidableEq, Inhabited
instance : Dat R1Kinded where
  sz := 2
  enc M w cs x := cs = [.int .i64 x.K, .int .i64 x.E]
  len h := by rw [h]; rfl
  mono h _ := h
  ones h := by rw [h]; rfl
structure PackBad where
  At : Int
  deriving DecidableEq, Inhabited
instance : Dat PackBad where
  sz := 1
  enc M w cs x := cs = [.int .i64 x.At]
  len h := by rw [h]; rfl
  mono h _ := h
  ones h := by rw [h]; rfl
structure R1Numbered where
  N : Int
  E : Int
  deriving DecidableEq, Inhabited
instance : Dat R1Numbered where
  sz := 2
  enc M w cs x := cs = [.int .i64 x.N, .int .i64 x.E]
  len h := by rw [h]; rfl
  mono h _ := h
  ones h := by rw [h]; rfl
end Pk
namespace Go.Proofs.Ytcnhjofpmpipfaa
open Go Go.Sx
open Go.Sx.Dat (enc)
theorem ty1 : Ty Try.prog 1 (.func #[] #[] false) 1 8 (.nilFunc) := Ty.mk' (by kernel_rfl) (by kernel_rfl)
theorem ty2 : Ty Try.prog 2 (.int .i64) 1 8 (.int .i64 0) := Ty.mk' (by kernel_rfl) (by kernel_rfl)
theorem ty3 : Ty Try.prog 3 (.int .i64) 1 8 (.int .i64 0) := Ty.mk' (by kernel_rfl) (by kernel_rfl)
theorem ty4 : Ty Try.prog 4 (.bool) 1 1 (.bool false) := Ty.mk' (by kernel_rfl) (by kernel_rfl)
theorem ty5 : Ty Try.prog 5 (.int .u8) 1 1 (.int .u8 0) := Ty.mk' (by kernel_rfl) (by kernel_rfl)
theorem ty6 : Ty Try.prog 6 (.int .u8) 1 1 (.int .u8 0) := Ty.mk' (by kernel_rfl) (by kernel_rfl)
theorem ty9 : Ty Try.prog 9 (.string) 1 16 (.string ⟨#[]⟩) := Ty.mk' (by kernel_rfl) (by kernel_rfl)
theorem ty21 : Ty Try.prog 21 (.int .i32) 1 4 (.int .i32 0) := Ty.mk' (by kernel_rfl) (by kernel_rfl)
theorem ty22 : Ty Try.prog 22 (.slice 91) 1 24 (.slice none 0 0) := Ty.mk' (by kernel_rfl) (by kernel_rfl)
theorem ty23 : Ty Try.prog 23 (.slice 49) 1 24 (.slice none 0 0) := Ty.mk' (by kernel_rfl) (by kernel_rfl)
theorem ty24 : Ty Try.prog 24 (.slice 51) 1 24 (.slice none 0 0) := Ty.mk' (by kernel_rfl) (by kernel_rfl)
theorem ty26 : Ty Try.prog 26 (.struct #[⟨"Nodes", 23, 0, false, "", "", 0⟩, ⟨"Roots", 24, 1, false, "", "", 24⟩]) 2 48 (.agg #[.slice none 0 0, .slice none 0 0]) := Ty.mk' (by kernel_rfl) (by kernel_rfl)
theorem ty30 : Ty Try.prog 30 (.int .i64) 1 8 (.int .i64 0) := Ty.mk' (by kernel_rfl) (by kernel_rfl)
theorem ty34 : Ty Try.prog 34 (.slice 5) 1 24 (.slice none 0 0) := Ty.mk' (by kernel_rfl) (by kernel_rfl)
theorem ty37 : Ty Try.prog 37 (.struct #[⟨"B", 34, 0, false, "", "", 0⟩, ⟨"E", 30, 1, false, "", "", 24⟩]) 2 32 (.agg #[.slice none 0 0, .int .i64 0]) := Ty.mk' (by kernel_rfl) (by kernel_rfl)
theorem ty38 : Ty Try.prog 38 (.struct #[⟨"B", 34, 0, false, "", "", 0⟩, ⟨"E", 30, 1, false, "", "", 24⟩]) 2 32 (.agg #[.slice none 0 0, .int .i64 0]) := Ty.mk' (by kernel_rfl) (by kernel_rfl)
theorem ty40 : Ty Try.prog 40 (.slice 3) 1 24 (.slice none 0 0) := Ty.mk' (by kernel_rfl) (by kernel_rfl)
theorem ty49 : Ty Try.prog 49 (.struct #[⟨"Class", 9, 0, false, "", "", 0⟩, ⟨"Vals", 24, 1, false, "", "", 16⟩]) 2 40 (.agg #[.string ⟨#[]⟩, .slice none 0 0]) := Ty.mk' (by kernel_rfl) (by kernel_rfl)
theorem ty51 : Ty Try.prog 51 (.struct #[⟨"Kind", 3, 0, false, "", "", 0⟩, ⟨"N", 3, 1, false, "", "", 8⟩]) 2 16 (.agg #[.int .i64 0, .int .i64 0]) := Ty.mk' (by kernel_rfl) (by kernel_rfl)
theorem ty53 : Ty Try.prog 53 (.slice 100) 1 24 (.slice none 0 0) := Ty.mk' (by kernel_rfl) (by kernel_rfl)
theorem ty56 : Ty Try.prog 56 (.struct #[⟨"Node", 3, 0, false, "", "", 0⟩, ⟨"Col", 9, 1, false, "", "", 8⟩]) 2 24 (.agg #[.int .i64 0, .string ⟨#[]⟩]) := Ty.mk' (by kernel_rfl) (by kernel_rfl)
theorem ty72 : Ty Try.prog 72 (.struct #[⟨"G", 26, 0, false, "", "", 0⟩, ⟨"At", 40, 2, false, "", "", 48⟩, ⟨"E", 30, 3, false, "", "", 72⟩]) 4 80 (.agg #[.slice none 0 0, .slice none 0 0, .slice none 0 0, .int .i64 0]) := Ty.mk' (by kernel_rfl) (by kernel_rfl)
theorem ty75 : Ty Try.prog 75 (.struct #[⟨"Is", 4, 0, false, "", "", 0⟩, ⟨"E", 30, 1, false, "", "", 8⟩]) 2 16 (.agg #[.bool false, .int .i64 0]) := Ty.mk' (by kernel_rfl) (by kernel_rfl)
theorem ty81 : Ty Try.prog 81 (.int .u16) 1 2 (.int .u16 0) := Ty.mk' (by kernel_rfl) (by kernel_rfl)
theorem ty87 : Ty Try.prog 87 (.slice 34) 1 24 (.slice none 0 0) := Ty.mk' (by kernel_rfl) (by kernel_rfl)
theorem ty89 : Ty Try.prog 89 (.slice 93) 1 24 (.slice none 0 0) := Ty.mk' (by kernel_rfl) (by kernel_rfl)
theorem ty91 : Ty Try.prog 91 (.struct #[⟨"Name", 9, 0, false, "", "", 0⟩, ⟨"Cols", 89, 1, false, "", "", 16⟩]) 2 40 (.agg #[.string ⟨#[]⟩, .slice none 0 0]) := Ty.mk' (by kernel_rfl) (by kernel_rfl)
theorem ty93 : Ty Try.prog 93 (.struct #[⟨"Name", 9, 0, false, "", "", 0⟩, ⟨"Kind", 3, 1, false, "", "", 16⟩, ⟨"Class", 9, 2, false, "", "", 24⟩]) 3 40 (.agg #[.string ⟨#[]⟩, .int .i64 0, .string ⟨#[]⟩]) := Ty.mk' (by kernel_rfl) (by kernel_rfl)
theorem ty97 : Ty Try.prog 97 (.struct #[⟨"From", 9, 0, false, "", "", 0⟩, ⟨"How", 3, 1, false, "", "", 16⟩, ⟨"N", 3, 2, false, "", "", 24⟩]) 3 32 (.agg #[.string ⟨#[]⟩, .int .i64 0, .int .i64 0]) := Ty.mk' (by kernel_rfl) (by kernel_rfl)
theorem ty98 : Ty Try.prog 98 (.slice 97) 1 24 (.slice none 0 0) := Ty.mk' (by kernel_rfl) (by kernel_rfl)
theorem ty100 : Ty Try.prog 100 (.struct #[⟨"Class", 9, 0, false, "", "", 0⟩, ⟨"To", 9, 1, false, "", "", 16⟩, ⟨"Gives", 98, 2, false, "", "", 32⟩]) 3 56 (.agg #[.string ⟨#[]⟩, .string ⟨#[]⟩, .slice none 0 0]) := Ty.mk' (by kernel_rfl) (by kernel_rfl)
theorem ty125 : Ty Try.prog 125 (.func #[100] #[9] false) 1 8 (.nilFunc) := Ty.mk' (by kernel_rfl) (by kernel_rfl)
theorem ty135 : Ty Try.prog 135 (.slice 30) 1 24 (.slice none 0 0) := Ty.mk' (by kernel_rfl) (by kernel_rfl)
theorem ty138 : Ty Try.prog 138 (.slice 9) 1 24 (.slice none 0 0) := Ty.mk' (by kernel_rfl) (by kernel_rfl)
theorem ty140 : Ty Try.prog 140 (.func #[91] #[9] false) 1 8 (.nilFunc) := Ty.mk' (by kernel_rfl) (by kernel_rfl)
theorem ty143 : Ty Try.prog 143 (.struct #[⟨"K", 3, 0, false, "", "", 0⟩, ⟨"E", 30, 1, false, "", "", 8⟩]) 2 16 (.agg #[.int .i64 0, .int .i64 0]) := Ty.mk' (by kernel_rfl) (by kernel_rfl)
theorem ty146 : Ty Try.prog 146 (.func #[49] #[4] false) 1 8 (.nilFunc) := Ty.mk' (by kernel_rfl) (by kernel_rfl)
theorem ty148 : Ty Try.prog 148 (.map 3 3) 1 8 (.map none) := Ty.mk' (by kernel_rfl) (by kernel_rfl)
theorem ty150 : Ty Try.prog 150 (.func #[189] #[] false) 1 8 (.nilFunc) := Ty.mk' (by kernel_rfl) (by kernel_rfl)
theorem ty154 : Ty Try.prog 154 (.int .u64) 1 8 (.int .u64 0) := Ty.mk' (by kernel_rfl) (by kernel_rfl)
theorem ty155 : Ty Try.prog 155 (.int .u64) 1 8 (.int .u64 0) := Ty.mk' (by kernel_rfl) (by kernel_rfl)
theorem ty158 : Ty Try.prog 158 (.func #[51] #[4] false) 1 8 (.nilFunc) := Ty.mk' (by kernel_rfl) (by kernel_rfl)
theorem ty161 : Ty Try.prog 161 (.func #[49, 49] #[4] false) 1 8 (.nilFunc) := Ty.mk' (by kernel_rfl) (by kernel_rfl)
theorem ty164 : Ty Try.prog 164 (.func #[100] #[4] false) 1 8 (.nilFunc) := Ty.mk' (by kernel_rfl) (by kernel_rfl)
theorem ty166 : Ty Try.prog 166 (.slice 24) 1 24 (.slice none 0 0) := Ty.mk' (by kernel_rfl) (by kernel_rfl)
theorem ty167 : Ty Try.prog 167 (.map 9 4) 1 8 (.map none) := Ty.mk' (by kernel_rfl) (by kernel_rfl)
theorem ty171 : Ty Try.prog 171 (.struct #[⟨"at", 3, 0, false, "", "cosigner/pack", 0⟩]) 1 8 (.agg #[.int .i64 0]) := Ty.mk' (by kernel_rfl) (by kernel_rfl)
theorem ty176 : Ty Try.prog 176 (.func #[21] #[4] false) 1 8 (.nilFunc) := Ty.mk' (by kernel_rfl) (by kernel_rfl)
theorem ty179 : Ty Try.prog 179 (.func #[91] #[4] false) 1 8 (.nilFunc) := Ty.mk' (by kernel_rfl) (by kernel_rfl)
theorem ty181 : Ty Try.prog 181 (.func #[93] #[9] false) 1 8 (.nilFunc) := Ty.mk' (by kernel_rfl) (by kernel_rfl)
theorem ty186 : Ty Try.prog 186 (.struct #[⟨"N", 3, 0, false, "", "", 0⟩, ⟨"E", 30, 1, false, "", "", 8⟩]) 2 16 (.agg #[.int .i64 0, .int .i64 0]) := Ty.mk' (by kernel_rfl) (by kernel_rfl)
theorem ty189 : Ty Try.prog 189 (.func #[3] #[4] false) 1 8 (.nilFunc) := Ty.mk' (by kernel_rfl) (by kernel_rfl)
theorem ty193 : Ty Try.prog 193 (.func #[4] #[] false) 1 8 (.nilFunc) := Ty.mk' (by kernel_rfl) (by kernel_rfl)
theorem ty194 : Ty Try.prog 194 (.func #[3, 3] #[3] false) 1 8 (.nilFunc) := Ty.mk' (by kernel_rfl) (by kernel_rfl)
theorem ty197 : Ty Try.prog 197 (.func #[93] #[4] false) 1 8 (.nilFunc) := Ty.mk' (by kernel_rfl) (by kernel_rfl)
theorem fld26_0 : Fld Try.prog 26 0 0 := Fld.mk (F := ⟨"Nodes", 23, 0, false, "", "", 0⟩) ty26 rfl ty23
theorem fld26_1 : Fld Try.prog 26 1 1 := Fld.mk (F := ⟨"Roots", 24, 1, false, "", "", 24⟩) ty26 rfl ty24
theorem szs26 : Szs Try.prog 26 [(0, 1), (1, 1)] := ⟨_, ty26.und, fun w => by kernel_rfl⟩
theorem fld37_0 : Fld Try.prog 37 0 0 := Fld.mk (F := ⟨"B", 34, 0, false, "", "", 0⟩) ty37 rfl ty34
theorem fld37_1 : Fld Try.prog 37 1 1 := Fld.mk (F := ⟨"E", 30, 1, false, "", "", 24⟩) ty37 rfl ty30
theorem szs37 : Szs Try.prog 37 [(0, 1), (1, 1)] := ⟨_, ty37.und, fun w => by kernel_rfl⟩
theorem fld38_0 : Fld Try.prog 38 0 0 := Fld.mk (F := ⟨"B", 34, 0, false, "", "", 0⟩) ty38 rfl ty34
theorem fld38_1 : Fld Try.prog 38 1 1 := Fld.mk (F := ⟨"E", 30, 1, false, "", "", 24⟩) ty38 rfl ty30
theorem szs38 : Szs Try.prog 38 [(0, 1), (1, 1)] := ⟨_, ty38.und, fun w => by kernel_rfl⟩
theorem fld49_0 : Fld Try.prog 49 0 0 := Fld.mk (F := ⟨"Class", 9, 0, false, "", "", 0⟩) ty49 rfl ty9
theorem fld49_1 : Fld Try.prog 49 1 1 := Fld.mk (F := ⟨"Vals", 24, 1, false, "", "", 16⟩) ty49 rfl ty24
theorem szs49 : Szs Try.prog 49 [(0, 1), (1, 1)] := ⟨_, ty49.und, fun w => by kernel_rfl⟩
theorem fld51_0 : Fld Try.prog 51 0 0 := Fld.mk (F := ⟨"Kind", 3, 0, false, "", "", 0⟩) ty51 rfl ty3
theorem fld51_1 : Fld Try.prog 51 1 1 := Fld.mk (F := ⟨"N", 3, 1, false, "", "", 8⟩) ty51 rfl ty3
theorem eqt51 {a b : Pk.Val} : EqT Try.prog 51 [.int .i64 a.Kind, .int .i64 a.N] [.int .i64 b.Kind, .int .i64 b.N] (decide (a = b)) := ⟨by kernel_rfl, fun w => by
  rw [show decide (a = b) = (decide (a.Kind = b.Kind) && decide (a.N = b.N)) by cases a; cases b; rw [Bool.eq_iff_iff]; simp only [decide_eq_true_iff, Bool.and_eq_true, Pk.Val.mk.injEq]]
  exact run_equal2 ty51.und (by kernel_rfl) (FldE.mk (f := ⟨"Kind", 3, 0, false, "", "", 0⟩) (by decide) rfl rfl ⟨_, _, _, _, ty3, rfl⟩) (FldE.mk (f := ⟨"N", 3, 1, false, "", "", 8⟩) (by decide) rfl rfl ⟨_, _, _, _, ty3, rfl⟩) (EqV.int ty3.und) (EqV.int ty3.und)⟩
theorem szs51 : Szs Try.prog 51 [(0, 1), (1, 1)] := ⟨_, ty51.und, fun w => by kernel_rfl⟩
theorem fld56_0 : Fld Try.prog 56 0 0 := Fld.mk (F := ⟨"Node", 3, 0, false, "", "", 0⟩) ty56 rfl ty3
theorem fld56_1 : Fld Try.prog 56 1 1 := Fld.mk (F := ⟨"Col", 9, 1, false, "", "", 8⟩) ty56 rfl ty9
theorem eqt56 {a b : Pk.Refusal} : EqT Try.prog 56 [.int .i64 a.Node, .string a.Col] [.int .i64 b.Node, .string b.Col] (decide (a = b)) := ⟨by kernel_rfl, fun w => by
  rw [show decide (a = b) = (decide (a.Node = b.Node) && decide (a.Col = b.Col)) by cases a; cases b; rw [Bool.eq_iff_iff]; simp only [decide_eq_true_iff, Bool.and_eq_true, Pk.Refusal.mk.injEq]]
  exact run_equal2 ty56.und (by kernel_rfl) (FldE.mk (f := ⟨"Node", 3, 0, false, "", "", 0⟩) (by decide) rfl rfl ⟨_, _, _, _, ty3, rfl⟩) (FldE.mk (f := ⟨"Col", 9, 1, false, "", "", 8⟩) (by decide) rfl rfl ⟨_, _, _, _, ty9, rfl⟩) (EqV.int ty3.und) (EqV.str ty9.und)⟩
theorem szs56 : Szs Try.prog 56 [(0, 1), (1, 1)] := ⟨_, ty56.und, fun w => by kernel_rfl⟩
theorem fld72_0 : Fld Try.prog 72 0 0 := Fld.mk (F := ⟨"G", 26, 0, false, "", "", 0⟩) ty72 rfl ty26
theorem fld72_1 : Fld Try.prog 72 1 2 := Fld.mk (F := ⟨"At", 40, 2, false, "", "", 48⟩) ty72 rfl ty40
theorem fld72_2 : Fld Try.prog 72 2 3 := Fld.mk (F := ⟨"E", 30, 3, false, "", "", 72⟩) ty72 rfl ty30
theorem szs72 : Szs Try.prog 72 [(0, 2), (2, 1), (3, 1)] := ⟨_, ty72.und, fun w => by kernel_rfl⟩
theorem fld75_0 : Fld Try.prog 75 0 0 := Fld.mk (F := ⟨"Is", 4, 0, false, "", "", 0⟩) ty75 rfl ty4
theorem fld75_1 : Fld Try.prog 75 1 1 := Fld.mk (F := ⟨"E", 30, 1, false, "", "", 8⟩) ty75 rfl ty30
theorem eqt75 {a b : Pk.R22Truth} : EqT Try.prog 75 [.bool a.Is, .int .i64 a.E] [.bool b.Is, .int .i64 b.E] (decide (a = b)) := ⟨by kernel_rfl, fun w => by
  rw [show decide (a = b) = (decide (a.Is = b.Is) && decide (a.E = b.E)) by cases a; cases b; rw [Bool.eq_iff_iff]; simp only [decide_eq_true_iff, Bool.and_eq_true, Pk.R22Truth.mk.injEq]]
  exact run_equal2 ty75.und (by kernel_rfl) (FldE.mk (f := ⟨"Is", 4, 0, false, "", "", 0⟩) (by decide) rfl rfl ⟨_, _, _, _, ty4, rfl⟩) (FldE.mk (f := ⟨"E", 30, 1, false, "", "", 8⟩) (by decide) rfl rfl ⟨_, _, _, _, ty30, rfl⟩) (EqV.bool ty4.und) (EqV.int ty30.und)⟩
theorem szs75 : Szs Try.prog 75 [(0, 1), (1, 1)] := ⟨_, ty75.und, fun w => by kernel_rfl⟩
theorem fld91_0 : Fld Try.prog 91 0 0 := Fld.mk (F := ⟨"Name", 9, 0, false, "", "", 0⟩) ty91 rfl ty9
theorem fld91_1 : Fld Try.prog 91 1 1 := Fld.mk (F := ⟨"Cols", 89, 1, false, "", "", 16⟩) ty91 rfl ty89
theorem szs91 : Szs Try.prog 91 [(0, 1), (1, 1)] := ⟨_, ty91.und, fun w => by kernel_rfl⟩
theorem fld93_0 : Fld Try.prog 93 0 0 := Fld.mk (F := ⟨"Name", 9, 0, false, "", "", 0⟩) ty93 rfl ty9
theorem fld93_1 : Fld Try.prog 93 1 1 := Fld.mk (F := ⟨"Kind", 3, 1, false, "", "", 16⟩) ty93 rfl ty3
theorem fld93_2 : Fld Try.prog 93 2 2 := Fld.mk (F := ⟨"Class", 9, 2, false, "", "", 24⟩) ty93 rfl ty9
theorem eqt93 {a b : Pk.Col} : EqT Try.prog 93 [.string a.Name, .int .i64 a.Kind, .string a.Class] [.string b.Name, .int .i64 b.Kind, .string b.Class] (decide (a = b)) := ⟨by kernel_rfl, fun w => by
  rw [show decide (a = b) = (decide (a.Name = b.Name) && (decide (a.Kind = b.Kind) && decide (a.Class = b.Class))) by cases a; cases b; rw [Bool.eq_iff_iff]; simp only [decide_eq_true_iff, Bool.and_eq_true, Pk.Col.mk.injEq]]
  exact run_equal3 ty93.und (by kernel_rfl) (FldE.mk (f := ⟨"Name", 9, 0, false, "", "", 0⟩) (by decide) rfl rfl ⟨_, _, _, _, ty9, rfl⟩) (FldE.mk (f := ⟨"Kind", 3, 1, false, "", "", 16⟩) (by decide) rfl rfl ⟨_, _, _, _, ty3, rfl⟩) (FldE.mk (f := ⟨"Class", 9, 2, false, "", "", 24⟩) (by decide) rfl rfl ⟨_, _, _, _, ty9, rfl⟩) (EqV.str ty9.und) (EqV.int ty3.und) (EqV.str ty9.und)⟩
theorem szs93 : Szs Try.prog 93 [(0, 1), (1, 1), (2, 1)] := ⟨_, ty93.und, fun w => by kernel_rfl⟩
theorem fld97_0 : Fld Try.prog 97 0 0 := Fld.mk (F := ⟨"From", 9, 0, false, "", "", 0⟩) ty97 rfl ty9
theorem fld97_1 : Fld Try.prog 97 1 1 := Fld.mk (F := ⟨"How", 3, 1, false, "", "", 16⟩) ty97 rfl ty3
theorem fld97_2 : Fld Try.prog 97 2 2 := Fld.mk (F := ⟨"N", 3, 2, false, "", "", 24⟩) ty97 rfl ty3
theorem eqt97 {a b : Pk.Give} : EqT Try.prog 97 [.string a.From, .int .i64 a.How, .int .i64 a.N] [.string b.From, .int .i64 b.How, .int .i64 b.N] (decide (a = b)) := ⟨by kernel_rfl, fun w => by
  rw [show decide (a = b) = (decide (a.From = b.From) && (decide (a.How = b.How) && decide (a.N = b.N))) by cases a; cases b; rw [Bool.eq_iff_iff]; simp only [decide_eq_true_iff, Bool.and_eq_true, Pk.Give.mk.injEq]]
  exact run_equal3 ty97.und (by kernel_rfl) (FldE.mk (f := ⟨"From", 9, 0, false, "", "", 0⟩) (by decide) rfl rfl ⟨_, _, _, _, ty9, rfl⟩) (FldE.mk (f := ⟨"How", 3, 1, false, "", "", 16⟩) (by decide) rfl rfl ⟨_, _, _, _, ty3, rfl⟩) (FldE.mk (f := ⟨"N", 3, 2, false, "", "", 24⟩) (by decide) rfl rfl ⟨_, _, _, _, ty3, rfl⟩) (EqV.str ty9.und) (EqV.int ty3.und) (EqV.int ty3.und)⟩
theorem szs97 : Szs Try.prog 97 [(0, 1), (1, 1), (2, 1)] := ⟨_, ty97.und, fun w => by kernel_rfl⟩
theorem fld100_0 : Fld Try.prog 100 0 0 := Fld.mk (F := ⟨"Class", 9, 0, false, "", "", 0⟩) ty100 rfl ty9
theorem fld100_1 : Fld Try.prog 100 1 1 := Fld.mk (F := ⟨"To", 9, 1, false, "", "", 16⟩) ty100 rfl ty9
theorem fld100_2 : Fld Try.prog 100 2 2 := Fld.mk (F := ⟨"Gives", 98, 2, false, "", "", 32⟩) ty100 rfl ty98
theorem szs100 : Szs Try.prog 100 [(0, 1), (1, 1), (2, 1)] := ⟨_, ty100.und, fun w => by kernel_rfl⟩
theorem fld143_0 : Fld Try.prog 143 0 0 := Fld.mk (F := ⟨"K", 3, 0, false, "", "", 0⟩) ty143 rfl ty3
theorem fld143_1 : Fld Try.prog 143 1 1 := Fld.mk (F := ⟨"E", 30, 1, false, "", "", 8⟩) ty143 rfl ty30
theorem eqt143 {a b : Pk.R1Kinded} : EqT Try.prog 143 [.int .i64 a.K, .int .i64 a.E] [.int .i64 b.K, .int .i64 b.E] (decide (a = b)) := ⟨by kernel_rfl, fun w => by
  rw [show decide (a = b) = (decide (a.K = b.K) && decide (a.E = b.E)) by cases a; cases b; rw [Bool.eq_iff_iff]; simp only [decide_eq_true_iff, Bool.and_eq_true, Pk.R1Kinded.mk.injEq]]
  exact run_equal2 ty143.und (by kernel_rfl) (FldE.mk (f := ⟨"K", 3, 0, false, "", "", 0⟩) (by decide) rfl rfl ⟨_, _, _, _, ty3, rfl⟩) (FldE.mk (f := ⟨"E", 30, 1, false, "", "", 8⟩) (by decide) rfl rfl ⟨_, _, _, _, ty30, rfl⟩) (EqV.int ty3.und) (EqV.int ty30.und)⟩
theorem szs143 : Szs Try.prog 143 [(0, 1), (1, 1)] := ⟨_, ty143.und, fun w => by kernel_rfl⟩
theorem fld171_0 : Fld Try.prog 171 0 0 := Fld.mk (F := ⟨"at", 3, 0, false, "", "cosigner/pack", 0⟩) ty171 rfl ty3
theorem szs171 : Szs Try.prog 171 [(0, 1)] := ⟨_, ty171.und, fun w => by kernel_rfl⟩
theorem fld186_0 : Fld Try.prog 186 0 0 := Fld.mk (F := ⟨"N", 3, 0, false, "", "", 0⟩) ty186 rfl ty3
theorem fld186_1 : Fld Try.prog 186 1 1 := Fld.mk (F := ⟨"E", 30, 1, false, "", "", 8⟩) ty186 rfl ty30
theorem eqt186 {a b : Pk.R1Numbered} : EqT Try.prog 186 [.int .i64 a.N, .int .i64 a.E] [.int .i64 b.N, .int .i64 b.E] (decide (a = b)) := ⟨by kernel_rfl, fun w => by
  rw [show decide (a = b) = (decide (a.N = b.N) && decide (a.E = b.E)) by cases a; cases b; rw [Bool.eq_iff_iff]; simp only [decide_eq_true_iff, Bool.and_eq_true, Pk.R1Numbered.mk.injEq]]
  exact run_equal2 ty186.und (by kernel_rfl) (FldE.mk (f := ⟨"N", 3, 0, false, "", "", 0⟩) (by decide) rfl rfl ⟨_, _, _, _, ty3, rfl⟩) (FldE.mk (f := ⟨"E", 30, 1, false, "", "", 8⟩) (by decide) rfl rfl ⟨_, _, _, _, ty30, rfl⟩) (EqV.int ty3.und) (EqV.int ty30.und)⟩
theorem szs186 : Szs Try.prog 186 [(0, 1), (1, 1)] := ⟨_, ty186.und, fun w => by kernel_rfl⟩
theorem cal3 : Callable Try.prog 3 := ⟨_, Try.func3, by kernel_rfl, by kernel_rfl⟩
theorem cal4 : Callable Try.prog 4 := ⟨_, Try.func4, by kernel_rfl, by kernel_rfl⟩
theorem cal5 : Callable Try.prog 5 := ⟨_, Try.func5, by kernel_rfl, by kernel_rfl⟩
theorem cal6 : Callable Try.prog 6 := ⟨_, Try.func6, by kernel_rfl, by kernel_rfl⟩
theorem cal7 : Callable Try.prog 7 := ⟨_, Try.func7, by kernel_rfl, by kernel_rfl⟩
theorem cal8 : Callable Try.prog 8 := ⟨_, Try.func8, by kernel_rfl, by kernel_rfl⟩
theorem cal9 : Callable Try.prog 9 := ⟨_, Try.func9, by kernel_rfl, by kernel_rfl⟩
theorem cal10 : Callable Try.prog 10 := ⟨_, Try.func10, by kernel_rfl, by kernel_rfl⟩
theorem cal11 : Callable Try.prog 11 := ⟨_, Try.func11, by kernel_rfl, by kernel_rfl⟩
theorem cal12 : Callable Try.prog 12 := ⟨_, Try.func12, by kernel_rfl, by kernel_rfl⟩
theorem cal13 : Callable Try.prog 13 := ⟨_, Try.func13, by kernel_rfl, by kernel_rfl⟩
theorem cal14 : Callable Try.prog 14 := ⟨_, Try.func14, by kernel_rfl, by kernel_rfl⟩
theorem cal15 : Callable Try.prog 15 := ⟨_, Try.func15, by kernel_rfl, by kernel_rfl⟩
theorem cal16 : Callable Try.prog 16 := ⟨_, Try.func16, by kernel_rfl, by kernel_rfl⟩
theorem cal17 : Callable Try.prog 17 := ⟨_, Try.func17, by kernel_rfl, by kernel_rfl⟩
theorem cal18 : Callable Try.prog 18 := ⟨_, Try.func18, by kernel_rfl, by kernel_rfl⟩
theorem cal19 : Callable Try.prog 19 := ⟨_, Try.func19, by kernel_rfl, by kernel_rfl⟩
theorem cal20 : Callable Try.prog 20 := ⟨_, Try.func20, by kernel_rfl, by kernel_rfl⟩
theorem cal21 : Callable Try.prog 21 := ⟨_, Try.func21, by kernel_rfl, by kernel_rfl⟩
theorem cal22 : Callable Try.prog 22 := ⟨_, Try.func22, by kernel_rfl, by kernel_rfl⟩
theorem cal23 : Callable Try.prog 23 := ⟨_, Try.func23, by kernel_rfl, by kernel_rfl⟩
theorem cal24 : Callable Try.prog 24 := ⟨_, Try.func24, by kernel_rfl, by kernel_rfl⟩
theorem cal25 : Callable Try.prog 25 := ⟨_, Try.func25, by kernel_rfl, by kernel_rfl⟩
theorem cal26 : Callable Try.prog 26 := ⟨_, Try.func26, by kernel_rfl, by kernel_rfl⟩
theorem cal27 : Callable Try.prog 27 := ⟨_, Try.func27, by kernel_rfl, by kernel_rfl⟩
theorem cal28 : Callable Try.prog 28 := ⟨_, Try.func28, by kernel_rfl, by kernel_rfl⟩
theorem cal29 : Callable Try.prog 29 := ⟨_, Try.func29, by kernel_rfl, by kernel_rfl⟩
theorem cal30 : Callable Try.prog 30 := ⟨_, Try.func30, by kernel_rfl, by kernel_rfl⟩
theorem cal31 : Callable Try.prog 31 := ⟨_, Try.func31, by kernel_rfl, by kernel_rfl⟩
theorem cal32 : Callable Try.prog 32 := ⟨_, Try.func32, by kernel_rfl, by kernel_rfl⟩
theorem cal33 : Callable Try.prog 33 := ⟨_, Try.func33, by kernel_rfl, by kernel_rfl⟩
theorem cal34 : Callable Try.prog 34 := ⟨_, Try.func34, by kernel_rfl, by kernel_rfl⟩
theorem cal35 : Callable Try.prog 35 := ⟨_, Try.func35, by kernel_rfl, by kernel_rfl⟩
theorem cal36 : Callable Try.prog 36 := ⟨_, Try.func36, by kernel_rfl, by kernel_rfl⟩
theorem cal37 : Callable Try.prog 37 := ⟨_, Try.func37, by kernel_rfl, by kernel_rfl⟩
theorem cal38 : Callable Try.prog 38 := ⟨_, Try.func38, by kernel_rfl, by kernel_rfl⟩
theorem cal39 : Callable Try.prog 39 := ⟨_, Try.func39, by kernel_rfl, by kernel_rfl⟩
theorem cal40 : Callable Try.prog 40 := ⟨_, Try.func40, by kernel_rfl, by kernel_rfl⟩
theorem cal41 : Callable Try.prog 41 := ⟨_, Try.func41, by kernel_rfl, by kernel_rfl⟩
theorem cal42 : Callable Try.prog 42 := ⟨_, Try.func42, by kernel_rfl, by kernel_rfl⟩
theorem cal43 : Callable Try.prog 43 := ⟨_, Try.func43, by kernel_rfl, by kernel_rfl⟩
theorem cal44 : Callable Try.prog 44 := ⟨_, Try.func44, by kernel_rfl, by kernel_rfl⟩
theorem cal45 : Callable Try.prog 45 := ⟨_, Try.func45, by kernel_rfl, by kernel_rfl⟩
theorem cal46 : Callable Try.prog 46 := ⟨_, Try.func46, by kernel_rfl, by kernel_rfl⟩
theorem cal47 : Callable Try.prog 47 := ⟨_, Try.func47, by kernel_rfl, by kernel_rfl⟩
theorem cal48 : Callable Try.prog 48 := ⟨_, Try.func48, by kernel_rfl, by kernel_rfl⟩
theorem cal49 : Callable Try.prog 49 := ⟨_, Try.func49, by kernel_rfl, by kernel_rfl⟩
theorem cal50 : Callable Try.prog 50 := ⟨_, Try.func50, by kernel_rfl, by kernel_rfl⟩
theorem cal51 : Callable Try.prog 51 := ⟨_, Try.func51, by kernel_rfl, by kernel_rfl⟩
theorem cal52 : Callable Try.prog 52 := ⟨_, Try.func52, by kernel_rfl, by kernel_rfl⟩
theorem cal53 : Callable Try.prog 53 := ⟨_, Try.func53, by kernel_rfl, by kernel_rfl⟩
theorem cal54 : Callable Try.prog 54 := ⟨_, Try.func54, by kernel_rfl, by kernel_rfl⟩
theorem cal55 : Callable Try.prog 55 := ⟨_, Try.func55, by kernel_rfl, by kernel_rfl⟩
theorem cal56 : Callable Try.prog 56 := ⟨_, Try.func56, by kernel_rfl, by kernel_rfl⟩
theorem cal57 : Callable Try.prog 57 := ⟨_, Try.func57, by kernel_rfl, by kernel_rfl⟩
theorem cal58 : Callable Try.prog 58 := ⟨_, Try.func58, by kernel_rfl, by kernel_rfl⟩
theorem cal59 : Callable Try.prog 59 := ⟨_, Try.func59, by kernel_rfl, by kernel_rfl⟩
theorem cal60 : Callable Try.prog 60 := ⟨_, Try.func60, by kernel_rfl, by kernel_rfl⟩
theorem cal61 : Callable Try.prog 61 := ⟨_, Try.func61, by kernel_rfl, by kernel_rfl⟩
theorem cal62 : Callable Try.prog 62 := ⟨_, Try.func62, by kernel_rfl, by kernel_rfl⟩
theorem cal63 : Callable Try.prog 63 := ⟨_, Try.func63, by kernel_rfl, by kernel_rfl⟩
theorem cal64 : Callable Try.prog 64 := ⟨_, Try.func64, by kernel_rfl, by kernel_rfl⟩
theorem cal65 : Callable Try.prog 65 := ⟨_, Try.func65, by kernel_rfl, by kernel_rfl⟩
theorem cal66 : Callable Try.prog 66 := ⟨_, Try.func66, by kernel_rfl, by kernel_rfl⟩
theorem cal67 : Callable Try.prog 67 := ⟨_, Try.func67, by kernel_rfl, by kernel_rfl⟩
theorem cal68 : Callable Try.prog 68 := ⟨_, Try.func68, by kernel_rfl, by kernel_rfl⟩
theorem cal69 : Callable Try.prog 69 := ⟨_, Try.func69, by kernel_rfl, by kernel_rfl⟩
theorem cal70 : Callable Try.prog 70 := ⟨_, Try.func70, by kernel_rfl, by kernel_rfl⟩
theorem cal71 : Callable Try.prog 71 := ⟨_, Try.func71, by kernel_rfl, by kernel_rfl⟩
theorem cal72 : Callable Try.prog 72 := ⟨_, Try.func72, by kernel_rfl, by kernel_rfl⟩
theorem cal73 : Callable Try.prog 73 := ⟨_, Try.func73, by kernel_rfl, by kernel_rfl⟩
theorem cal74 : Callable Try.prog 74 := ⟨_, Try.func74, by kernel_rfl, by kernel_rfl⟩
theorem cal75 : Callable Try.prog 75 := ⟨_, Try.func75, by kernel_rfl, by kernel_rfl⟩
theorem cal76 : Callable Try.prog 76 := ⟨_, Try.func76, by kernel_rfl, by kernel_rfl⟩
theorem cal77 : Callable Try.prog 77 := ⟨_, Try.func77, by kernel_rfl, by kernel_rfl⟩
theorem cal78 : Callable Try.prog 78 := ⟨_, Try.func78, by kernel_rfl, by kernel_rfl⟩
theorem cal79 : Callable Try.prog 79 := ⟨_, Try.func79, by kernel_rfl, by kernel_rfl⟩
theorem cal80 : Callable Try.prog 80 := ⟨_, Try.func80, by kernel_rfl, by kernel_rfl⟩
theorem cal81 : Callable Try.prog 81 := ⟨_, Try.func81, by kernel_rfl, by kernel_rfl⟩
theorem cal82 : Callable Try.prog 82 := ⟨_, Try.func82, by kernel_rfl, by kernel_rfl⟩
theorem cal83 : Callable Try.prog 83 := ⟨_, Try.func83, by kernel_rfl, by kernel_rfl⟩
theorem cal84 : Callable Try.prog 84 := ⟨_, Try.func84, by kernel_rfl, by kernel_rfl⟩
theorem cal85 : Callable Try.prog 85 := ⟨_, Try.func85, by kernel_rfl, by kernel_rfl⟩
theorem cal86 : Callable Try.prog 86 := ⟨_, Try.func86, by kernel_rfl, by kernel_rfl⟩
theorem cal87 : Callable Try.prog 87 := ⟨_, Try.func87, by kernel_rfl, by kernel_rfl⟩
theorem cal88 : Callable Try.prog 88 := ⟨_, Try.func88, by kernel_rfl, by kernel_rfl⟩
theorem cal89 : Callable Try.prog 89 := ⟨_, Try.func89, by kernel_rfl, by kernel_rfl⟩
theorem cal90 : Callable Try.prog 90 := ⟨_, Try.func90, by kernel_rfl, by kernel_rfl⟩
theorem cal91 : Callable Try.prog 91 := ⟨_, Try.func91, by kernel_rfl, by kernel_rfl⟩
theorem cal92 : Callable Try.prog 92 := ⟨_, Try.func92, by kernel_rfl, by kernel_rfl⟩
theorem cal93 : Callable Try.prog 93 := ⟨_, Try.func93, by kernel_rfl, by kernel_rfl⟩
theorem cal94 : Callable Try.prog 94 := ⟨_, Try.func94, by kernel_rfl, by kernel_rfl⟩
theorem cal95 : Callable Try.prog 95 := ⟨_, Try.func95, by kernel_rfl, by kernel_rfl⟩
theorem cal96 : Callable Try.prog 96 := ⟨_, Try.func96, by kernel_rfl, by kernel_rfl⟩
theorem cal97 : Callable Try.prog 97 := ⟨_, Try.func97, by kernel_rfl, by kernel_rfl⟩
theorem cal98 : Callable Try.prog 98 := ⟨_, Try.func98, by kernel_rfl, by kernel_rfl⟩
theorem cal99 : Callable Try.prog 99 := ⟨_, Try.func99, by kernel_rfl, by kernel_rfl⟩
theorem cal100 : Callable Try.prog 100 := ⟨_, Try.func100, by kernel_rfl, by kernel_rfl⟩
theorem cal101 : Callable Try.prog 101 := ⟨_, Try.func101, by kernel_rfl, by kernel_rfl⟩
theorem cal102 : Callable Try.prog 102 := ⟨_, Try.func102, by kernel_rfl, by kernel_rfl⟩
theorem cal103 : Callable Try.prog 103 := ⟨_, Try.func103, by kernel_rfl, by kernel_rfl⟩
theorem cal104 : Callable Try.prog 104 := ⟨_, Try.func104, by kernel_rfl, by kernel_rfl⟩
theorem cal105 : Callable Try.prog 105 := ⟨_, Try.func105, by kernel_rfl, by kernel_rfl⟩
theorem cal106 : Callable Try.prog 106 := ⟨_, Try.func106, by kernel_rfl, by kernel_rfl⟩
theorem cal107 : Callable Try.prog 107 := ⟨_, Try.func107, by kernel_rfl, by kernel_rfl⟩
theorem cal108 : Callable Try.prog 108 := ⟨_, Try.func108, by kernel_rfl, by kernel_rfl⟩
theorem cal109 : Callable Try.prog 109 := ⟨_, Try.func109, by kernel_rfl, by kernel_rfl⟩
theorem cal110 : Callable Try.prog 110 := ⟨_, Try.func110, by kernel_rfl, by kernel_rfl⟩
theorem cal111 : Callable Try.prog 111 := ⟨_, Try.func111, by kernel_rfl, by kernel_rfl⟩
theorem cal112 : Callable Try.prog 112 := ⟨_, Try.func112, by kernel_rfl, by kernel_rfl⟩
theorem cal113 : Callable Try.prog 113 := ⟨_, Try.func113, by kernel_rfl, by kernel_rfl⟩
theorem cal114 : Callable Try.prog 114 := ⟨_, Try.func114, by kernel_rfl, by kernel_rfl⟩
theorem cal115 : Callable Try.prog 115 := ⟨_, Try.func115, by kernel_rfl, by kernel_rfl⟩
theorem cal116 : Callable Try.prog 116 := ⟨_, Try.func116, by kernel_rfl, by kernel_rfl⟩
theorem cal117 : Callable Try.prog 117 := ⟨_, Try.func117, by kernel_rfl, by kernel_rfl⟩
theorem cal118 : Callable Try.prog 118 := ⟨_, Try.func118, by kernel_rfl, by kernel_rfl⟩
theorem cal119 : Callable Try.prog 119 := ⟨_, Try.func119, by kernel_rfl, by kernel_rfl⟩
theorem cal120 : Callable Try.prog 120 := ⟨_, Try.func120, by kernel_rfl, by kernel_rfl⟩
theorem cal121 : Callable Try.prog 121 := ⟨_, Try.func121, by kernel_rfl, by kernel_rfl⟩
theorem cal122 : Callable Try.prog 122 := ⟨_, Try.func122, by kernel_rfl, by kernel_rfl⟩
theorem cal123 : Callable Try.prog 123 := ⟨_, Try.func123, by kernel_rfl, by kernel_rfl⟩
theorem cal124 : Callable Try.prog 124 := ⟨_, Try.func124, by kernel_rfl, by kernel_rfl⟩
theorem cal125 : Callable Try.prog 125 := ⟨_, Try.func125, by kernel_rfl, by kernel_rfl⟩
theorem cal126 : Callable Try.prog 126 := ⟨_, Try.func126, by kernel_rfl, by kernel_rfl⟩
theorem cal127 : Callable Try.prog 127 := ⟨_, Try.func127, by kernel_rfl, by kernel_rfl⟩
theorem cal128 : Callable Try.prog 128 := ⟨_, Try.func128, by kernel_rfl, by kernel_rfl⟩
theorem cal129 : Callable Try.prog 129 := ⟨_, Try.func129, by kernel_rfl, by kernel_rfl⟩
theorem cal130 : Callable Try.prog 130 := ⟨_, Try.func130, by kernel_rfl, by kernel_rfl⟩
theorem cal131 : Callable Try.prog 131 := ⟨_, Try.func131, by kernel_rfl, by kernel_rfl⟩
theorem cal132 : Callable Try.prog 132 := ⟨_, Try.func132, by kernel_rfl, by kernel_rfl⟩
theorem cal133 : Callable Try.prog 133 := ⟨_, Try.func133, by kernel_rfl, by kernel_rfl⟩
theorem cal134 : Callable Try.prog 134 := ⟨_, Try.func134, by kernel_rfl, by kernel_rfl⟩
theorem cal135 : Callable Try.prog 135 := ⟨_, Try.func135, by kernel_rfl, by kernel_rfl⟩
theorem cal136 : Callable Try.prog 136 := ⟨_, Try.func136, by kernel_rfl, by kernel_rfl⟩
theorem cal137 : Callable Try.prog 137 := ⟨_, Try.func137, by kernel_rfl, by kernel_rfl⟩
theorem cal138 : Callable Try.prog 138 := ⟨_, Try.func138, by kernel_rfl, by kernel_rfl⟩
theorem cal139 : Callable Try.prog 139 := ⟨_, Try.func139, by kernel_rfl, by kernel_rfl⟩
theorem cal140 : Callable Try.prog 140 := ⟨_, Try.func140, by kernel_rfl, by kernel_rfl⟩
theorem cal141 : Callable Try.prog 141 := ⟨_, Try.func141, by kernel_rfl, by kernel_rfl⟩
theorem cal142 : Callable Try.prog 142 := ⟨_, Try.func142, by kernel_rfl, by kernel_rfl⟩
theorem cal143 : Callable Try.prog 143 := ⟨_, Try.func143, by kernel_rfl, by kernel_rfl⟩
theorem cal144 : Callable Try.prog 144 := ⟨_, Try.func144, by kernel_rfl, by kernel_rfl⟩
theorem cal145 : Callable Try.prog 145 := ⟨_, Try.func145, by kernel_rfl, by kernel_rfl⟩
theorem cal146 : Callable Try.prog 146 := ⟨_, Try.func146, by kernel_rfl, by kernel_rfl⟩
theorem cal147 : Callable Try.prog 147 := ⟨_, Try.func147, by kernel_rfl, by kernel_rfl⟩
theorem cal148 : Callable Try.prog 148 := ⟨_, Try.func148, by kernel_rfl, by kernel_rfl⟩
theorem cal149 : Callable Try.prog 149 := ⟨_, Try.func149, by kernel_rfl, by kernel_rfl⟩
theorem mixed : Try.prog.follows .mixedOrders = true := by kernel_rfl
end Go.Proofs.Ytcnhjofpmpipfaa
