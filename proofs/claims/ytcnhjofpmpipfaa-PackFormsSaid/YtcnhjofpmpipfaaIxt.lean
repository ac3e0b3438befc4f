/- Made by program: the tables of the interpreter. -/
import Derived.Test.YtcnhjofpmpipfaaIxq
import Derived.Test.YtcnhjofpmpipfaaTy
set_option linter.unusedVariables false
set_option maxRecDepth 100000
noncomputable section
namespace Go.Proofs.Ytcnhjofpmpipfaa
open Go Go.Sx Go.RowKit Go.Ix
def ti1 : TI := ⟨1, 8, (.func #[] #[] false), (.nilFunc)⟩
def ti2 : TI := ⟨1, 8, (.int .i64), (.int .i64 0)⟩
def ti3 : TI := ⟨1, 8, (.int .i64), (.int .i64 0)⟩
def ti4 : TI := ⟨1, 1, (.bool), (.bool false)⟩
def ti5 : TI := ⟨1, 1, (.int .u8), (.int .u8 0)⟩
def ti6 : TI := ⟨1, 1, (.int .u8), (.int .u8 0)⟩
def ti9 : TI := ⟨1, 16, (.string), (.string ⟨#[]⟩)⟩
def ti21 : TI := ⟨1, 4, (.int .i32), (.int .i32 0)⟩
def ti22 : TI := ⟨1, 24, (.slice 91), (.slice none 0 0)⟩
def ti23 : TI := ⟨1, 24, (.slice 49), (.slice none 0 0)⟩
def ti24 : TI := ⟨1, 24, (.slice 51), (.slice none 0 0)⟩
def ti26 : TI := ⟨2, 48, (.struct #[⟨"Nodes", 23, 0, false, "", "", 0⟩, ⟨"Roots", 24, 1, false, "", "", 24⟩]), (.agg #[.slice none 0 0, .slice none 0 0])⟩
def ti30 : TI := ⟨1, 8, (.int .i64), (.int .i64 0)⟩
def ti34 : TI := ⟨1, 24, (.slice 5), (.slice none 0 0)⟩
def ti37 : TI := ⟨2, 32, (.struct #[⟨"B", 34, 0, false, "", "", 0⟩, ⟨"E", 30, 1, false, "", "", 24⟩]), (.agg #[.slice none 0 0, .int .i64 0])⟩
def ti38 : TI := ⟨2, 32, (.struct #[⟨"B", 34, 0, false, "", "", 0⟩, ⟨"E", 30, 1, false, "", "", 24⟩]), (.agg #[.slice none 0 0, .int .i64 0])⟩
def ti40 : TI := ⟨1, 24, (.slice 3), (.slice none 0 0)⟩
def ti49 : TI := ⟨2, 40, (.struct #[⟨"Class", 9, 0, false, "", "", 0⟩, ⟨"Vals", 24, 1, false, "", "", 16⟩]), (.agg #[.string ⟨#[]⟩, .slice none 0 0])⟩
def ti51 : TI := ⟨2, 16, (.struct #[⟨"Kind", 3, 0, false, "", "", 0⟩, ⟨"N", 3, 1, false, "", "", 8⟩]), (.agg #[.int .i64 0, .int .i64 0])⟩
def ti53 : TI := ⟨1, 24, (.slice 100), (.slice none 0 0)⟩
def ti56 : TI := ⟨2, 24, (.struct #[⟨"Node", 3, 0, false, "", "", 0⟩, ⟨"Col", 9, 1, false, "", "", 8⟩]), (.agg #[.int .i64 0, .string ⟨#[]⟩])⟩
def ti72 : TI := ⟨4, 80, (.struct #[⟨"G", 26, 0, false, "", "", 0⟩, ⟨"At", 40, 2, false, "", "", 48⟩, ⟨"E", 30, 3, false, "", "", 72⟩]), (.agg #[.slice none 0 0, .slice none 0 0, .slice none 0 0, .int .i64 0])⟩
def ti75 : TI := ⟨2, 16, (.struct #[⟨"Is", 4, 0, false, "", "", 0⟩, ⟨"E", 30, 1, false, "", "", 8⟩]), (.agg #[.bool false, .int .i64 0])⟩
def ti81 : TI := ⟨1, 2, (.int .u16), (.int .u16 0)⟩
def ti87 : TI := ⟨1, 24, (.slice 34), (.slice none 0 0)⟩
def ti89 : TI := ⟨1, 24, (.slice 93), (.slice none 0 0)⟩
def ti91 : TI := ⟨2, 40, (.struct #[⟨"Name", 9, 0, false, "", "", 0⟩, ⟨"Cols", 89, 1, false, "", "", 16⟩]), (.agg #[.string ⟨#[]⟩, .slice none 0 0])⟩
def ti93 : TI := ⟨3, 40, (.struct #[⟨"Name", 9, 0, false, "", "", 0⟩, ⟨"Kind", 3, 1, false, "", "", 16⟩, ⟨"Class", 9, 2, false, "", "", 24⟩]), (.agg #[.string ⟨#[]⟩, .int .i64 0, .string ⟨#[]⟩])⟩
def ti97 : TI := ⟨3, 32, (.struct #[⟨"From", 9, 0, false, "", "", 0⟩, ⟨"How", 3, 1, false, "", "", 16⟩, ⟨"N", 3, 2, false, "", "", 24⟩]), (.agg #[.string ⟨#[]⟩, .int .i64 0, .int .i64 0])⟩
def ti98 : TI := ⟨1, 24, (.slice 97), (.slice none 0 0)⟩
def ti100 : TI := ⟨3, 56, (.struct #[⟨"Class", 9, 0, false, "", "", 0⟩, ⟨"To", 9, 1, false, "", "", 16⟩, ⟨"Gives", 98, 2, false, "", "", 32⟩]), (.agg #[.string ⟨#[]⟩, .string ⟨#[]⟩, .slice none 0 0])⟩
def ti125 : TI := ⟨1, 8, (.func #[100] #[9] false), (.nilFunc)⟩
def ti135 : TI := ⟨1, 24, (.slice 30), (.slice none 0 0)⟩
def ti138 : TI := ⟨1, 24, (.slice 9), (.slice none 0 0)⟩
def ti140 : TI := ⟨1, 8, (.func #[91] #[9] false), (.nilFunc)⟩
def ti143 : TI := ⟨2, 16, (.struct #[⟨"K", 3, 0, false, "", "", 0⟩, ⟨"E", 30, 1, false, "", "", 8⟩]), (.agg #[.int .i64 0, .int .i64 0])⟩
def ti146 : TI := ⟨1, 8, (.func #[49] #[4] false), (.nilFunc)⟩
def ti148 : TI := ⟨1, 8, (.map 3 3), (.map none)⟩
def ti150 : TI := ⟨1, 8, (.func #[189] #[] false), (.nilFunc)⟩
def ti154 : TI := ⟨1, 8, (.int .u64), (.int .u64 0)⟩
def ti155 : TI := ⟨1, 8, (.int .u64), (.int .u64 0)⟩
def ti158 : TI := ⟨1, 8, (.func #[51] #[4] false), (.nilFunc)⟩
def ti161 : TI := ⟨1, 8, (.func #[49, 49] #[4] false), (.nilFunc)⟩
def ti164 : TI := ⟨1, 8, (.func #[100] #[4] false), (.nilFunc)⟩
def ti166 : TI := ⟨1, 24, (.slice 24), (.slice none 0 0)⟩
def ti167 : TI := ⟨1, 8, (.map 9 4), (.map none)⟩
def ti171 : TI := ⟨1, 8, (.struct #[⟨"at", 3, 0, false, "", "cosigner/pack", 0⟩]), (.agg #[.int .i64 0])⟩
def ti176 : TI := ⟨1, 8, (.func #[21] #[4] false), (.nilFunc)⟩
def ti179 : TI := ⟨1, 8, (.func #[91] #[4] false), (.nilFunc)⟩
def ti181 : TI := ⟨1, 8, (.func #[93] #[9] false), (.nilFunc)⟩
def ti186 : TI := ⟨2, 16, (.struct #[⟨"N", 3, 0, false, "", "", 0⟩, ⟨"E", 30, 1, false, "", "", 8⟩]), (.agg #[.int .i64 0, .int .i64 0])⟩
def ti189 : TI := ⟨1, 8, (.func #[3] #[4] false), (.nilFunc)⟩
def ti193 : TI := ⟨1, 8, (.func #[4] #[] false), (.nilFunc)⟩
def ti194 : TI := ⟨1, 8, (.func #[3, 3] #[3] false), (.nilFunc)⟩
def ti197 : TI := ⟨1, 8, (.func #[93] #[4] false), (.nilFunc)⟩
def ttT : PT TI := (.node none (.node (some ti1) (.node (some ti3) (.node none (.node none .leaf (.node none (.node none (.node (some ti143) .leaf .leaf) .leaf) .leaf)) (.node (some ti23) (.node none (.node none (.node (some ti135) .leaf .leaf) .leaf) (.node none (.node (some ti167) .leaf .leaf) .leaf)) (.node none (.node (some ti87) .leaf .leaf) .leaf))) (.node none (.node none .leaf (.node (some ti51) .leaf (.node none (.node (some ti179) .leaf .leaf) .leaf))) (.node none (.node none (.node (some ti75) .leaf .leaf) (.node none (.node (some ti171) .leaf .leaf) .leaf)) (.node none (.node (some ti91) (.node (some ti155) .leaf .leaf) .leaf) .leaf)))) (.node (some ti5) (.node (some ti9) (.node none (.node none (.node none .leaf (.node (some ti193) .leaf .leaf)) (.node (some ti97) (.node (some ti161) .leaf .leaf) .leaf)) (.node (some ti49) (.node (some ti81) .leaf .leaf) .leaf)) (.node none .leaf (.node none (.node (some ti89) .leaf .leaf) .leaf))) (.node none (.node (some ti21) (.node (some ti37) (.node none .leaf (.node (some ti197) .leaf .leaf)) .leaf) (.node (some ti53) .leaf (.node none (.node (some ti181) .leaf .leaf) .leaf))) (.node none .leaf (.node none (.node (some ti93) .leaf .leaf) (.node (some ti125) (.node (some ti189) .leaf .leaf) .leaf)))))) (.node (some ti2) (.node (some ti4) (.node none (.node none .leaf (.node none .leaf (.node none (.node (some ti176) .leaf .leaf) .leaf))) (.node (some ti24) (.node (some ti40) (.node (some ti72) .leaf .leaf) .leaf) (.node (some ti56) .leaf .leaf))) (.node none (.node none (.node none .leaf (.node (some ti100) (.node (some ti164) .leaf .leaf) .leaf)) (.node none (.node none (.node (some ti148) .leaf .leaf) .leaf) .leaf)) (.node none (.node none (.node none (.node (some ti140) .leaf .leaf) .leaf) .leaf) .leaf))) (.node (some ti6) (.node none (.node none (.node (some ti34) (.node none .leaf (.node (some ti194) .leaf .leaf)) (.node (some ti98) .leaf .leaf)) (.node none (.node none (.node (some ti146) .leaf .leaf) .leaf) .leaf)) (.node (some ti26) (.node none (.node none (.node (some ti138) .leaf .leaf) .leaf) .leaf) (.node none (.node none (.node (some ti154) .leaf .leaf) .leaf) (.node none (.node (some ti186) .leaf .leaf) .leaf)))) (.node none (.node (some ti22) (.node (some ti38) .leaf (.node none (.node (some ti166) .leaf .leaf) .leaf)) (.node none (.node none (.node (some ti150) .leaf .leaf) .leaf) .leaf)) (.node (some ti30) .leaf (.node none (.node none (.node (some ti158) .leaf .leaf) .leaf) .leaf))))))
theorem ttFa : ttT.Fa (fun T ti => Ty Try.prog T ti.und ti.sz ti.bytes ti.zero) := ⟨trivial, ⟨ty1, ⟨ty3, ⟨trivial, ⟨trivial, trivial, ⟨trivial, ⟨trivial, ⟨ty143, trivial, trivial⟩, trivial⟩, trivial⟩⟩, ⟨ty23, ⟨trivial, ⟨trivial, ⟨ty135, trivial, trivial⟩, trivial⟩, ⟨trivial, ⟨ty167, trivial, trivial⟩, trivial⟩⟩, ⟨trivial, ⟨ty87, trivial, trivial⟩, trivial⟩⟩⟩, ⟨trivial, ⟨trivial, trivial, ⟨ty51, trivial, ⟨trivial, ⟨ty179, trivial, trivial⟩, trivial⟩⟩⟩, ⟨trivial, ⟨trivial, ⟨ty75, trivial, trivial⟩, ⟨trivial, ⟨ty171, trivial, trivial⟩, trivial⟩⟩, ⟨trivial, ⟨ty91, ⟨ty155, trivial, trivial⟩, trivial⟩, trivial⟩⟩⟩⟩, ⟨ty5, ⟨ty9, ⟨trivial, ⟨trivial, ⟨trivial, trivial, ⟨ty193, trivial, trivial⟩⟩, ⟨ty97, ⟨ty161, trivial, trivial⟩, trivial⟩⟩, ⟨ty49, ⟨ty81, trivial, trivial⟩, trivial⟩⟩, ⟨trivial, trivial, ⟨trivial, ⟨ty89, trivial, trivial⟩, trivial⟩⟩⟩, ⟨trivial, ⟨ty21, ⟨ty37, ⟨trivial, trivial, ⟨ty197, trivial, trivial⟩⟩, trivial⟩, ⟨ty53, trivial, ⟨trivial, ⟨ty181, trivial, trivial⟩, trivial⟩⟩⟩, ⟨trivial, trivial, ⟨trivial, ⟨ty93, trivial, trivial⟩, ⟨ty125, ⟨ty189, trivial, trivial⟩, trivial⟩⟩⟩⟩⟩⟩, ⟨ty2, ⟨ty4, ⟨trivial, ⟨trivial, trivial, ⟨trivial, trivial, ⟨trivial, ⟨ty176, trivial, trivial⟩, trivial⟩⟩⟩, ⟨ty24, ⟨ty40, ⟨ty72, trivial, trivial⟩, trivial⟩, ⟨ty56, trivial, trivial⟩⟩⟩, ⟨trivial, ⟨trivial, ⟨trivial, trivial, ⟨ty100, ⟨ty164, trivial, trivial⟩, trivial⟩⟩, ⟨trivial, ⟨trivial, ⟨ty148, trivial, trivial⟩, trivial⟩, trivial⟩⟩, ⟨trivial, ⟨trivial, ⟨trivial, ⟨ty140, trivial, trivial⟩, trivial⟩, trivial⟩, trivial⟩⟩⟩, ⟨ty6, ⟨trivial, ⟨trivial, ⟨ty34, ⟨trivial, trivial, ⟨ty194, trivial, trivial⟩⟩, ⟨ty98, trivial, trivial⟩⟩, ⟨trivial, ⟨trivial, ⟨ty146, trivial, trivial⟩, trivial⟩, trivial⟩⟩, ⟨ty26, ⟨trivial, ⟨trivial, ⟨ty138, trivial, trivial⟩, trivial⟩, trivial⟩, ⟨trivial, ⟨trivial, ⟨ty154, trivial, trivial⟩, trivial⟩, ⟨trivial, ⟨ty186, trivial, trivial⟩, trivial⟩⟩⟩⟩, ⟨trivial, ⟨ty22, ⟨ty38, trivial, ⟨trivial, ⟨ty166, trivial, trivial⟩, trivial⟩⟩, ⟨trivial, ⟨trivial, ⟨ty150, trivial, trivial⟩, trivial⟩, trivial⟩⟩, ⟨ty30, trivial, ⟨trivial, ⟨trivial, ⟨ty158, trivial, trivial⟩, trivial⟩, trivial⟩⟩⟩⟩⟩⟩
theorem ttOK : TT Try.prog ttT.get := fun T ti h => PT.fa ttFa T ti h
def fb15 : Code := match Try.f15.body with | some c => c | none => .skip
def fi15 : FI := ⟨176, [ResultVar.tmp 0], fb15⟩
theorem fo15 : FIok Try.prog 15 fi15 := ⟨_, Try.func15, by kernel_rfl, Try.ntmps15, Try.results15, by kernel_rfl, by kernel_rfl⟩
def fb16 : Code := match Try.f16.body with | some c => c | none => .skip
def fi16 : FI := ⟨71, [ResultVar.tmp 2], fb16⟩
theorem fo16 : FIok Try.prog 16 fi16 := ⟨_, Try.func16, by kernel_rfl, Try.ntmps16, Try.results16, by kernel_rfl, by kernel_rfl⟩
def fb18 : Code := match Try.f18.body with | some c => c | none => .skip
def fi18 : FI := ⟨14, [ResultVar.tmp 4], fb18⟩
theorem fo18 : FIok Try.prog 18 fi18 := ⟨_, Try.func18, by kernel_rfl, Try.ntmps18, Try.results18, by kernel_rfl, by kernel_rfl⟩
def fb20 : Code := match Try.f20.body with | some c => c | none => .skip
def fi20 : FI := ⟨83, [ResultVar.tmp 4, ResultVar.tmp 5], fb20⟩
theorem fo20 : FIok Try.prog 20 fi20 := ⟨_, Try.func20, by kernel_rfl, Try.ntmps20, Try.results20, by kernel_rfl, by kernel_rfl⟩
def fb22 : Code := match Try.f22.body with | some c => c | none => .skip
def fi22 : FI := ⟨21, [ResultVar.cell 2 26, ResultVar.tmp 3, ResultVar.tmp 4], fb22⟩
theorem fo22 : FIok Try.prog 22 fi22 := ⟨_, Try.func22, by kernel_rfl, Try.ntmps22, Try.results22, by kernel_rfl, by kernel_rfl⟩
def fb26 : Code := match Try.f26.body with | some c => c | none => .skip
def fi26 : FI := ⟨61, [ResultVar.tmp 4], fb26⟩
theorem fo26 : FIok Try.prog 26 fi26 := ⟨_, Try.func26, by kernel_rfl, Try.ntmps26, Try.results26, by kernel_rfl, by kernel_rfl⟩
def fb28 : Code := match Try.f28.body with | some c => c | none => .skip
def fi28 : FI := ⟨123, [ResultVar.cell 8 26, ResultVar.cell 9 56, ResultVar.tmp 10], fb28⟩
theorem fo28 : FIok Try.prog 28 fi28 := ⟨_, Try.func28, by kernel_rfl, Try.ntmps28, Try.results28, by kernel_rfl, by kernel_rfl⟩
def fb29 : Code := match Try.f29.body with | some c => c | none => .skip
def fi29 : FI := ⟨21, [ResultVar.tmp 6], fb29⟩
theorem fo29 : FIok Try.prog 29 fi29 := ⟨_, Try.func29, by kernel_rfl, Try.ntmps29, Try.results29, by kernel_rfl, by kernel_rfl⟩
def fb44 : Code := match Try.f44.body with | some c => c | none => .skip
def fi44 : FI := ⟨16, [ResultVar.cell 0 26], fb44⟩
theorem fo44 : FIok Try.prog 44 fi44 := ⟨_, Try.func44, by kernel_rfl, Try.ntmps44, Try.results44, by kernel_rfl, by kernel_rfl⟩
def fb45 : Code := match Try.f45.body with | some c => c | none => .skip
def fi45 : FI := ⟨9, [ResultVar.tmp 0], fb45⟩
theorem fo45 : FIok Try.prog 45 fi45 := ⟨_, Try.func45, by kernel_rfl, Try.ntmps45, Try.results45, by kernel_rfl, by kernel_rfl⟩
def fb46 : Code := match Try.f46.body with | some c => c | none => .skip
def fi46 : FI := ⟨5, [ResultVar.cell 2 51], fb46⟩
theorem fo46 : FIok Try.prog 46 fi46 := ⟨_, Try.func46, by kernel_rfl, Try.ntmps46, Try.results46, by kernel_rfl, by kernel_rfl⟩
def fb47 : Code := match Try.f47.body with | some c => c | none => .skip
def fi47 : FI := ⟨5, [ResultVar.cell 2 51], fb47⟩
theorem fo47 : FIok Try.prog 47 fi47 := ⟨_, Try.func47, by kernel_rfl, Try.ntmps47, Try.results47, by kernel_rfl, by kernel_rfl⟩
def fb48 : Code := match Try.f48.body with | some c => c | none => .skip
def fi48 : FI := ⟨5, [ResultVar.cell 2 51], fb48⟩
theorem fo48 : FIok Try.prog 48 fi48 := ⟨_, Try.func48, by kernel_rfl, Try.ntmps48, Try.results48, by kernel_rfl, by kernel_rfl⟩
def fb49 : Code := match Try.f49.body with | some c => c | none => .skip
def fi49 : FI := ⟨15, [ResultVar.tmp 2], fb49⟩
theorem fo49 : FIok Try.prog 49 fi49 := ⟨_, Try.func49, by kernel_rfl, Try.ntmps49, Try.results49, by kernel_rfl, by kernel_rfl⟩
def fb50 : Code := match Try.f50.body with | some c => c | none => .skip
def fi50 : FI := ⟨7, [ResultVar.tmp 4], fb50⟩
theorem fo50 : FIok Try.prog 50 fi50 := ⟨_, Try.func50, by kernel_rfl, Try.ntmps50, Try.results50, by kernel_rfl, by kernel_rfl⟩
def fb51 : Code := match Try.f51.body with | some c => c | none => .skip
def fi51 : FI := ⟨11, [ResultVar.tmp 2], fb51⟩
theorem fo51 : FIok Try.prog 51 fi51 := ⟨_, Try.func51, by kernel_rfl, Try.ntmps51, Try.results51, by kernel_rfl, by kernel_rfl⟩
def fb52 : Code := match Try.f52.body with | some c => c | none => .skip
def fi52 : FI := ⟨8, [ResultVar.tmp 4], fb52⟩
theorem fo52 : FIok Try.prog 52 fi52 := ⟨_, Try.func52, by kernel_rfl, Try.ntmps52, Try.results52, by kernel_rfl, by kernel_rfl⟩
def fb53 : Code := match Try.f53.body with | some c => c | none => .skip
def fi53 : FI := ⟨41, [ResultVar.tmp 2], fb53⟩
theorem fo53 : FIok Try.prog 53 fi53 := ⟨_, Try.func53, by kernel_rfl, Try.ntmps53, Try.results53, by kernel_rfl, by kernel_rfl⟩
def fb59 : Code := match Try.f59.body with | some c => c | none => .skip
def fi59 : FI := ⟨19, [ResultVar.tmp 4], fb59⟩
theorem fo59 : FIok Try.prog 59 fi59 := ⟨_, Try.func59, by kernel_rfl, Try.ntmps59, Try.results59, by kernel_rfl, by kernel_rfl⟩
def fb62 : Code := match Try.f62.body with | some c => c | none => .skip
def fi62 : FI := ⟨93, [ResultVar.cell 2 26, ResultVar.tmp 3], fb62⟩
theorem fo62 : FIok Try.prog 62 fi62 := ⟨_, Try.func62, by kernel_rfl, Try.ntmps62, Try.results62, by kernel_rfl, by kernel_rfl⟩
def fb63 : Code := match Try.f63.body with | some c => c | none => .skip
def fi63 : FI := ⟨7, [], fb63⟩
theorem fo63 : FIok Try.prog 63 fi63 := ⟨_, Try.func63, by kernel_rfl, Try.ntmps63, Try.results63, by kernel_rfl, by kernel_rfl⟩
def fb64 : Code := match Try.f64.body with | some c => c | none => .skip
def fi64 : FI := ⟨29, [ResultVar.tmp 2], fb64⟩
theorem fo64 : FIok Try.prog 64 fi64 := ⟨_, Try.func64, by kernel_rfl, Try.ntmps64, Try.results64, by kernel_rfl, by kernel_rfl⟩
def fb65 : Code := match Try.f65.body with | some c => c | none => .skip
def fi65 : FI := ⟨14, [ResultVar.tmp 2], fb65⟩
theorem fo65 : FIok Try.prog 65 fi65 := ⟨_, Try.func65, by kernel_rfl, Try.ntmps65, Try.results65, by kernel_rfl, by kernel_rfl⟩
def fb66 : Code := match Try.f66.body with | some c => c | none => .skip
def fi66 : FI := ⟨31, [ResultVar.tmp 2], fb66⟩
theorem fo66 : FIok Try.prog 66 fi66 := ⟨_, Try.func66, by kernel_rfl, Try.ntmps66, Try.results66, by kernel_rfl, by kernel_rfl⟩
def fb70 : Code := match Try.f70.body with | some c => c | none => .skip
def fi70 : FI := ⟨49, [ResultVar.tmp 2], fb70⟩
theorem fo70 : FIok Try.prog 70 fi70 := ⟨_, Try.func70, by kernel_rfl, Try.ntmps70, Try.results70, by kernel_rfl, by kernel_rfl⟩
def fb73 : Code := match Try.f73.body with | some c => c | none => .skip
def fi73 : FI := ⟨26, [ResultVar.tmp 4], fb73⟩
theorem fo73 : FIok Try.prog 73 fi73 := ⟨_, Try.func73, by kernel_rfl, Try.ntmps73, Try.results73, by kernel_rfl, by kernel_rfl⟩
def fb74 : Code := match Try.f74.body with | some c => c | none => .skip
def fi74 : FI := ⟨8, [ResultVar.tmp 2], fb74⟩
theorem fo74 : FIok Try.prog 74 fi74 := ⟨_, Try.func74, by kernel_rfl, Try.ntmps74, Try.results74, by kernel_rfl, by kernel_rfl⟩
def fb75 : Code := match Try.f75.body with | some c => c | none => .skip
def fi75 : FI := ⟨17, [ResultVar.cell 4 100, ResultVar.tmp 5], fb75⟩
theorem fo75 : FIok Try.prog 75 fi75 := ⟨_, Try.func75, by kernel_rfl, Try.ntmps75, Try.results75, by kernel_rfl, by kernel_rfl⟩
def fb76 : Code := match Try.f76.body with | some c => c | none => .skip
def fi76 : FI := ⟨64, [ResultVar.cell 8 51, ResultVar.tmp 9], fb76⟩
theorem fo76 : FIok Try.prog 76 fi76 := ⟨_, Try.func76, by kernel_rfl, Try.ntmps76, Try.results76, by kernel_rfl, by kernel_rfl⟩
def fb77 : Code := match Try.f77.body with | some c => c | none => .skip
def fi77 : FI := ⟨120, [ResultVar.tmp 6], fb77⟩
theorem fo77 : FIok Try.prog 77 fi77 := ⟨_, Try.func77, by kernel_rfl, Try.ntmps77, Try.results77, by kernel_rfl, by kernel_rfl⟩
def fb78 : Code := match Try.f78.body with | some c => c | none => .skip
def fi78 : FI := ⟨10, [ResultVar.tmp 6], fb78⟩
theorem fo78 : FIok Try.prog 78 fi78 := ⟨_, Try.func78, by kernel_rfl, Try.ntmps78, Try.results78, by kernel_rfl, by kernel_rfl⟩
def fb83 : Code := match Try.f83.body with | some c => c | none => .skip
def fi83 : FI := ⟨15, [ResultVar.tmp 6], fb83⟩
theorem fo83 : FIok Try.prog 83 fi83 := ⟨_, Try.func83, by kernel_rfl, Try.ntmps83, Try.results83, by kernel_rfl, by kernel_rfl⟩
def fb88 : Code := match Try.f88.body with | some c => c | none => .skip
def fi88 : FI := ⟨49, [ResultVar.tmp 4], fb88⟩
theorem fo88 : FIok Try.prog 88 fi88 := ⟨_, Try.func88, by kernel_rfl, Try.ntmps88, Try.results88, by kernel_rfl, by kernel_rfl⟩
def fb90 : Code := match Try.f90.body with | some c => c | none => .skip
def fi90 : FI := ⟨30, [ResultVar.tmp 6], fb90⟩
theorem fo90 : FIok Try.prog 90 fi90 := ⟨_, Try.func90, by kernel_rfl, Try.ntmps90, Try.results90, by kernel_rfl, by kernel_rfl⟩
def fb91 : Code := match Try.f91.body with | some c => c | none => .skip
def fi91 : FI := ⟨9, [ResultVar.tmp 4], fb91⟩
theorem fo91 : FIok Try.prog 91 fi91 := ⟨_, Try.func91, by kernel_rfl, Try.ntmps91, Try.results91, by kernel_rfl, by kernel_rfl⟩
def fb92 : Code := match Try.f92.body with | some c => c | none => .skip
def fi92 : FI := ⟨10, [ResultVar.tmp 6], fb92⟩
theorem fo92 : FIok Try.prog 92 fi92 := ⟨_, Try.func92, by kernel_rfl, Try.ntmps92, Try.results92, by kernel_rfl, by kernel_rfl⟩
def fb93 : Code := match Try.f93.body with | some c => c | none => .skip
def fi93 : FI := ⟨5, [ResultVar.tmp 2], fb93⟩
theorem fo93 : FIok Try.prog 93 fi93 := ⟨_, Try.func93, by kernel_rfl, Try.ntmps93, Try.results93, by kernel_rfl, by kernel_rfl⟩
def fb94 : Code := match Try.f94.body with | some c => c | none => .skip
def fi94 : FI := ⟨11, [ResultVar.tmp 2], fb94⟩
theorem fo94 : FIok Try.prog 94 fi94 := ⟨_, Try.func94, by kernel_rfl, Try.ntmps94, Try.results94, by kernel_rfl, by kernel_rfl⟩
def fb95 : Code := match Try.f95.body with | some c => c | none => .skip
def fi95 : FI := ⟨8, [ResultVar.tmp 4], fb95⟩
theorem fo95 : FIok Try.prog 95 fi95 := ⟨_, Try.func95, by kernel_rfl, Try.ntmps95, Try.results95, by kernel_rfl, by kernel_rfl⟩
def fb97 : Code := match Try.f97.body with | some c => c | none => .skip
def fi97 : FI := ⟨9, [ResultVar.tmp 4], fb97⟩
theorem fo97 : FIok Try.prog 97 fi97 := ⟨_, Try.func97, by kernel_rfl, Try.ntmps97, Try.results97, by kernel_rfl, by kernel_rfl⟩
def fb98 : Code := match Try.f98.body with | some c => c | none => .skip
def fi98 : FI := ⟨9, [ResultVar.tmp 3], fb98⟩
theorem fo98 : FIok Try.prog 98 fi98 := ⟨_, Try.func98, by kernel_rfl, Try.ntmps98, Try.results98, by kernel_rfl, by kernel_rfl⟩
def fb100 : Code := match Try.f100.body with | some c => c | none => .skip
def fi100 : FI := ⟨26, [], fb100⟩
theorem fo100 : FIok Try.prog 100 fi100 := ⟨_, Try.func100, by kernel_rfl, Try.ntmps100, Try.results100, by kernel_rfl, by kernel_rfl⟩
def fb101 : Code := match Try.f101.body with | some c => c | none => .skip
def fi101 : FI := ⟨4, [ResultVar.tmp 2], fb101⟩
theorem fo101 : FIok Try.prog 101 fi101 := ⟨_, Try.func101, by kernel_rfl, Try.ntmps101, Try.results101, by kernel_rfl, by kernel_rfl⟩
def fb102 : Code := match Try.f102.body with | some c => c | none => .skip
def fi102 : FI := ⟨29, [ResultVar.tmp 3], fb102⟩
theorem fo102 : FIok Try.prog 102 fi102 := ⟨_, Try.func102, by kernel_rfl, Try.ntmps102, Try.results102, by kernel_rfl, by kernel_rfl⟩
def fb105 : Code := match Try.f105.body with | some c => c | none => .skip
def fi105 : FI := ⟨10, [ResultVar.tmp 3], fb105⟩
theorem fo105 : FIok Try.prog 105 fi105 := ⟨_, Try.func105, by kernel_rfl, Try.ntmps105, Try.results105, by kernel_rfl, by kernel_rfl⟩
def fb106 : Code := match Try.f106.body with | some c => c | none => .skip
def fi106 : FI := ⟨29, [ResultVar.tmp 4], fb106⟩
theorem fo106 : FIok Try.prog 106 fi106 := ⟨_, Try.func106, by kernel_rfl, Try.ntmps106, Try.results106, by kernel_rfl, by kernel_rfl⟩
def fb107 : Code := match Try.f107.body with | some c => c | none => .skip
def fi107 : FI := ⟨9, [ResultVar.tmp 4], fb107⟩
theorem fo107 : FIok Try.prog 107 fi107 := ⟨_, Try.func107, by kernel_rfl, Try.ntmps107, Try.results107, by kernel_rfl, by kernel_rfl⟩
def fb108 : Code := match Try.f108.body with | some c => c | none => .skip
def fi108 : FI := ⟨12, [ResultVar.tmp 3], fb108⟩
theorem fo108 : FIok Try.prog 108 fi108 := ⟨_, Try.func108, by kernel_rfl, Try.ntmps108, Try.results108, by kernel_rfl, by kernel_rfl⟩
def fb109 : Code := match Try.f109.body with | some c => c | none => .skip
def fi109 : FI := ⟨11, [ResultVar.tmp 2], fb109⟩
theorem fo109 : FIok Try.prog 109 fi109 := ⟨_, Try.func109, by kernel_rfl, Try.ntmps109, Try.results109, by kernel_rfl, by kernel_rfl⟩
def fb112 : Code := match Try.f112.body with | some c => c | none => .skip
def fi112 : FI := ⟨5, [ResultVar.tmp 2], fb112⟩
theorem fo112 : FIok Try.prog 112 fi112 := ⟨_, Try.func112, by kernel_rfl, Try.ntmps112, Try.results112, by kernel_rfl, by kernel_rfl⟩
def fb113 : Code := match Try.f113.body with | some c => c | none => .skip
def fi113 : FI := ⟨82, [ResultVar.tmp 8], fb113⟩
theorem fo113 : FIok Try.prog 113 fi113 := ⟨_, Try.func113, by kernel_rfl, Try.ntmps113, Try.results113, by kernel_rfl, by kernel_rfl⟩
def fb114 : Code := match Try.f114.body with | some c => c | none => .skip
def fi114 : FI := ⟨19, [ResultVar.tmp 4], fb114⟩
theorem fo114 : FIok Try.prog 114 fi114 := ⟨_, Try.func114, by kernel_rfl, Try.ntmps114, Try.results114, by kernel_rfl, by kernel_rfl⟩
def fb115 : Code := match Try.f115.body with | some c => c | none => .skip
def fi115 : FI := ⟨10, [ResultVar.tmp 4], fb115⟩
theorem fo115 : FIok Try.prog 115 fi115 := ⟨_, Try.func115, by kernel_rfl, Try.ntmps115, Try.results115, by kernel_rfl, by kernel_rfl⟩
def fb121 : Code := match Try.f121.body with | some c => c | none => .skip
def fi121 : FI := ⟨44, [ResultVar.tmp 6], fb121⟩
theorem fo121 : FIok Try.prog 121 fi121 := ⟨_, Try.func121, by kernel_rfl, Try.ntmps121, Try.results121, by kernel_rfl, by kernel_rfl⟩
def fb122 : Code := match Try.f122.body with | some c => c | none => .skip
def fi122 : FI := ⟨8, [ResultVar.tmp 4], fb122⟩
theorem fo122 : FIok Try.prog 122 fi122 := ⟨_, Try.func122, by kernel_rfl, Try.ntmps122, Try.results122, by kernel_rfl, by kernel_rfl⟩
def fb123 : Code := match Try.f123.body with | some c => c | none => .skip
def fi123 : FI := ⟨28, [ResultVar.tmp 4], fb123⟩
theorem fo123 : FIok Try.prog 123 fi123 := ⟨_, Try.func123, by kernel_rfl, Try.ntmps123, Try.results123, by kernel_rfl, by kernel_rfl⟩
def fb124 : Code := match Try.f124.body with | some c => c | none => .skip
def fi124 : FI := ⟨19, [ResultVar.tmp 4], fb124⟩
theorem fo124 : FIok Try.prog 124 fi124 := ⟨_, Try.func124, by kernel_rfl, Try.ntmps124, Try.results124, by kernel_rfl, by kernel_rfl⟩
def fb125 : Code := match Try.f125.body with | some c => c | none => .skip
def fi125 : FI := ⟨19, [ResultVar.tmp 4], fb125⟩
theorem fo125 : FIok Try.prog 125 fi125 := ⟨_, Try.func125, by kernel_rfl, Try.ntmps125, Try.results125, by kernel_rfl, by kernel_rfl⟩
def fb126 : Code := match Try.f126.body with | some c => c | none => .skip
def fi126 : FI := ⟨10, [ResultVar.tmp 4], fb126⟩
theorem fo126 : FIok Try.prog 126 fi126 := ⟨_, Try.func126, by kernel_rfl, Try.ntmps126, Try.results126, by kernel_rfl, by kernel_rfl⟩
def fb127 : Code := match Try.f127.body with | some c => c | none => .skip
def fi127 : FI := ⟨10, [ResultVar.tmp 6], fb127⟩
theorem fo127 : FIok Try.prog 127 fi127 := ⟨_, Try.func127, by kernel_rfl, Try.ntmps127, Try.results127, by kernel_rfl, by kernel_rfl⟩
def fb128 : Code := match Try.f128.body with | some c => c | none => .skip
def fi128 : FI := ⟨5, [ResultVar.tmp 2], fb128⟩
theorem fo128 : FIok Try.prog 128 fi128 := ⟨_, Try.func128, by kernel_rfl, Try.ntmps128, Try.results128, by kernel_rfl, by kernel_rfl⟩
def fb135 : Code := match Try.f135.body with | some c => c | none => .skip
def fi135 : FI := ⟨19, [ResultVar.tmp 4], fb135⟩
theorem fo135 : FIok Try.prog 135 fi135 := ⟨_, Try.func135, by kernel_rfl, Try.ntmps135, Try.results135, by kernel_rfl, by kernel_rfl⟩
def fb136 : Code := match Try.f136.body with | some c => c | none => .skip
def fi136 : FI := ⟨22, [], fb136⟩
theorem fo136 : FIok Try.prog 136 fi136 := ⟨_, Try.func136, by kernel_rfl, Try.ntmps136, Try.results136, by kernel_rfl, by kernel_rfl⟩
def fb137 : Code := match Try.f137.body with | some c => c | none => .skip
def fi137 : FI := ⟨19, [ResultVar.tmp 4], fb137⟩
theorem fo137 : FIok Try.prog 137 fi137 := ⟨_, Try.func137, by kernel_rfl, Try.ntmps137, Try.results137, by kernel_rfl, by kernel_rfl⟩
def fb138 : Code := match Try.f138.body with | some c => c | none => .skip
def fi138 : FI := ⟨97, [ResultVar.tmp 8], fb138⟩
theorem fo138 : FIok Try.prog 138 fi138 := ⟨_, Try.func138, by kernel_rfl, Try.ntmps138, Try.results138, by kernel_rfl, by kernel_rfl⟩
def fb139 : Code := match Try.f139.body with | some c => c | none => .skip
def fi139 : FI := ⟨24, [ResultVar.tmp 6], fb139⟩
theorem fo139 : FIok Try.prog 139 fi139 := ⟨_, Try.func139, by kernel_rfl, Try.ntmps139, Try.results139, by kernel_rfl, by kernel_rfl⟩
def fb143 : Code := match Try.f143.body with | some c => c | none => .skip
def fi143 : FI := ⟨21, [ResultVar.tmp 6], fb143⟩
theorem fo143 : FIok Try.prog 143 fi143 := ⟨_, Try.func143, by kernel_rfl, Try.ntmps143, Try.results143, by kernel_rfl, by kernel_rfl⟩
def fb144 : Code := match Try.f144.body with | some c => c | none => .skip
def fi144 : FI := ⟨19, [ResultVar.tmp 4], fb144⟩
theorem fo144 : FIok Try.prog 144 fi144 := ⟨_, Try.func144, by kernel_rfl, Try.ntmps144, Try.results144, by kernel_rfl, by kernel_rfl⟩
def fb145 : Code := match Try.f145.body with | some c => c | none => .skip
def fi145 : FI := ⟨10, [ResultVar.tmp 4], fb145⟩
theorem fo145 : FIok Try.prog 145 fi145 := ⟨_, Try.func145, by kernel_rfl, Try.ntmps145, Try.results145, by kernel_rfl, by kernel_rfl⟩
def ftT : PT FI := (.node none (.node none (.node none (.node none (.node (some fi15) (.node none (.node (some fi63) (.node (some fi127) .leaf .leaf) .leaf) (.node (some fi95) .leaf .leaf)) (.node (some fi47) (.node none (.node (some fi143) .leaf .leaf) .leaf) .leaf)) (.node none (.node none (.node none (.node (some fi135) .leaf .leaf) .leaf) .leaf) .leaf)) (.node none (.node none .leaf (.node (some fi51) (.node (some fi83) .leaf .leaf) (.node (some fi115) .leaf .leaf))) (.node none (.node none (.node (some fi75) (.node (some fi139) .leaf .leaf) .leaf) (.node (some fi107) .leaf .leaf)) (.node (some fi59) (.node (some fi91) .leaf .leaf) (.node (some fi123) .leaf .leaf))))) (.node none (.node none (.node none (.node none (.node (some fi65) .leaf .leaf) (.node (some fi97) .leaf .leaf)) (.node (some fi49) (.node none (.node (some fi145) .leaf .leaf) .leaf) (.node (some fi113) .leaf .leaf))) (.node none (.node none (.node (some fi73) (.node (some fi137) .leaf .leaf) .leaf) (.node (some fi105) .leaf .leaf)) (.node none .leaf (.node (some fi121) .leaf .leaf)))) (.node none (.node none (.node none .leaf (.node (some fi101) .leaf .leaf)) (.node (some fi53) .leaf .leaf)) (.node (some fi29) (.node (some fi45) (.node (some fi77) .leaf .leaf) (.node (some fi109) .leaf .leaf)) (.node none (.node (some fi93) .leaf .leaf) (.node (some fi125) .leaf .leaf)))))) (.node none (.node none (.node none (.node (some fi16) (.node none (.node (some fi64) (.node (some fi128) .leaf .leaf) .leaf) .leaf) (.node (some fi48) (.node none (.node (some fi144) .leaf .leaf) .leaf) (.node (some fi112) .leaf .leaf))) (.node none (.node none (.node none (.node (some fi136) .leaf .leaf) .leaf) .leaf) (.node none (.node (some fi88) .leaf .leaf) .leaf))) (.node none (.node (some fi20) (.node none .leaf (.node (some fi100) .leaf .leaf)) (.node (some fi52) .leaf .leaf)) (.node (some fi28) (.node (some fi44) (.node (some fi76) .leaf .leaf) (.node (some fi108) .leaf .leaf)) (.node none (.node (some fi92) .leaf .leaf) (.node (some fi124) .leaf .leaf))))) (.node none (.node none (.node (some fi18) (.node none (.node (some fi66) .leaf .leaf) (.node (some fi98) .leaf .leaf)) (.node (some fi50) .leaf (.node (some fi114) .leaf .leaf))) (.node (some fi26) (.node none (.node (some fi74) (.node (some fi138) .leaf .leaf) .leaf) (.node (some fi106) .leaf .leaf)) (.node none (.node (some fi90) .leaf .leaf) (.node (some fi122) .leaf .leaf)))) (.node none (.node (some fi22) (.node none (.node (some fi70) .leaf .leaf) (.node (some fi102) .leaf .leaf)) .leaf) (.node none (.node (some fi46) (.node (some fi78) .leaf .leaf) .leaf) (.node (some fi62) (.node (some fi94) .leaf .leaf) (.node (some fi126) .leaf .leaf)))))))
theorem ftFa : ftT.Fa (fun f fi => FIok Try.prog f fi) := ⟨trivial, ⟨trivial, ⟨trivial, ⟨trivial, ⟨fo15, ⟨trivial, ⟨fo63, ⟨fo127, trivial, trivial⟩, trivial⟩, ⟨fo95, trivial, trivial⟩⟩, ⟨fo47, ⟨trivial, ⟨fo143, trivial, trivial⟩, trivial⟩, trivial⟩⟩, ⟨trivial, ⟨trivial, ⟨trivial, ⟨fo135, trivial, trivial⟩, trivial⟩, trivial⟩, trivial⟩⟩, ⟨trivial, ⟨trivial, trivial, ⟨fo51, ⟨fo83, trivial, trivial⟩, ⟨fo115, trivial, trivial⟩⟩⟩, ⟨trivial, ⟨trivial, ⟨fo75, ⟨fo139, trivial, trivial⟩, trivial⟩, ⟨fo107, trivial, trivial⟩⟩, ⟨fo59, ⟨fo91, trivial, trivial⟩, ⟨fo123, trivial, trivial⟩⟩⟩⟩⟩, ⟨trivial, ⟨trivial, ⟨trivial, ⟨trivial, ⟨fo65, trivial, trivial⟩, ⟨fo97, trivial, trivial⟩⟩, ⟨fo49, ⟨trivial, ⟨fo145, trivial, trivial⟩, trivial⟩, ⟨fo113, trivial, trivial⟩⟩⟩, ⟨trivial, ⟨trivial, ⟨fo73, ⟨fo137, trivial, trivial⟩, trivial⟩, ⟨fo105, trivial, trivial⟩⟩, ⟨trivial, trivial, ⟨fo121, trivial, trivial⟩⟩⟩⟩, ⟨trivial, ⟨trivial, ⟨trivial, trivial, ⟨fo101, trivial, trivial⟩⟩, ⟨fo53, trivial, trivial⟩⟩, ⟨fo29, ⟨fo45, ⟨fo77, trivial, trivial⟩, ⟨fo109, trivial, trivial⟩⟩, ⟨trivial, ⟨fo93, trivial, trivial⟩, ⟨fo125, trivial, trivial⟩⟩⟩⟩⟩⟩, ⟨trivial, ⟨trivial, ⟨trivial, ⟨fo16, ⟨trivial, ⟨fo64, ⟨fo128, trivial, trivial⟩, trivial⟩, trivial⟩, ⟨fo48, ⟨trivial, ⟨fo144, trivial, trivial⟩, trivial⟩, ⟨fo112, trivial, trivial⟩⟩⟩, ⟨trivial, ⟨trivial, ⟨trivial, ⟨fo136, trivial, trivial⟩, trivial⟩, trivial⟩, ⟨trivial, ⟨fo88, trivial, trivial⟩, trivial⟩⟩⟩, ⟨trivial, ⟨fo20, ⟨trivial, trivial, ⟨fo100, trivial, trivial⟩⟩, ⟨fo52, trivial, trivial⟩⟩, ⟨fo28, ⟨fo44, ⟨fo76, trivial, trivial⟩, ⟨fo108, trivial, trivial⟩⟩, ⟨trivial, ⟨fo92, trivial, trivial⟩, ⟨fo124, trivial, trivial⟩⟩⟩⟩⟩, ⟨trivial, ⟨trivial, ⟨fo18, ⟨trivial, ⟨fo66, trivial, trivial⟩, ⟨fo98, trivial, trivial⟩⟩, ⟨fo50, trivial, ⟨fo114, trivial, trivial⟩⟩⟩, ⟨fo26, ⟨trivial, ⟨fo74, ⟨fo138, trivial, trivial⟩, trivial⟩, ⟨fo106, trivial, trivial⟩⟩, ⟨trivial, ⟨fo90, trivial, trivial⟩, ⟨fo122, trivial, trivial⟩⟩⟩⟩, ⟨trivial, ⟨fo22, ⟨trivial, ⟨fo70, trivial, trivial⟩, ⟨fo102, trivial, trivial⟩⟩, trivial⟩, ⟨trivial, ⟨fo46, ⟨fo78, trivial, trivial⟩, trivial⟩, ⟨fo62, ⟨fo94, trivial, trivial⟩, ⟨fo126, trivial, trivial⟩⟩⟩⟩⟩⟩⟩
theorem ftOK : FT Try.prog ftT.get := fun f fi h => PT.fa ftFa f fi h
end Go.Proofs.Ytcnhjofpmpipfaa
