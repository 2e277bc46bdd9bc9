/- YtdleboihgaedjaaGreatT: what the program's table says of the types that these walks meet. By a program of this session (tfacts.py). -/
import Derived.Test.YtdleboihgaedjaaGreatSalR
import Derived.Test.YtdleboihgaedjaaGreatProg
import Derived.KernelRfl
namespace Go.Proofs.YtdleboihgaedjaaGreat
open Go Go.Sal
@[simp] theorem sz3 : (ti Tryz.prog 3).size = 1 := by kernel_rfl
@[simp] theorem by3 : (ti Tryz.prog 3).bytes = 8 := by kernel_rfl
@[simp] theorem zr3 : (ti Tryz.prog 3).zero = some [.int .i64 0] := by kernel_rfl
@[simp] theorem ds3 : (ti Tryz.prog 3).desc = some (.int .i64) := by kernel_rfl
@[simp] theorem al3 (cs : List AV) : aload (ti Tryz.prog 3) cs = cs.head? := by kernel_rfl
@[simp] theorem sz4 : (ti Tryz.prog 4).size = 1 := by kernel_rfl
@[simp] theorem by4 : (ti Tryz.prog 4).bytes = 1 := by kernel_rfl
@[simp] theorem zr4 : (ti Tryz.prog 4).zero = some [.bool false] := by kernel_rfl
@[simp] theorem ds4 : (ti Tryz.prog 4).desc = some (.bool) := by kernel_rfl
@[simp] theorem al4 (cs : List AV) : aload (ti Tryz.prog 4) cs = cs.head? := by kernel_rfl
@[simp] theorem sz5 : (ti Tryz.prog 5).size = 1 := by kernel_rfl
@[simp] theorem by5 : (ti Tryz.prog 5).bytes = 1 := by kernel_rfl
@[simp] theorem zr5 : (ti Tryz.prog 5).zero = some [.int .u8 0] := by kernel_rfl
@[simp] theorem ds5 : (ti Tryz.prog 5).desc = some (.int .u8) := by kernel_rfl
@[simp] theorem al5 (cs : List AV) : aload (ti Tryz.prog 5) cs = cs.head? := by kernel_rfl
@[simp] theorem sz9 : (ti Tryz.prog 9).size = 1 := by kernel_rfl
@[simp] theorem by9 : (ti Tryz.prog 9).bytes = 16 := by kernel_rfl
@[simp] theorem zr9 : (ti Tryz.prog 9).zero = some [.str ⟨#[]⟩] := by kernel_rfl
@[simp] theorem ds9 : (ti Tryz.prog 9).desc = some (.string) := by kernel_rfl
@[simp] theorem al9 (cs : List AV) : aload (ti Tryz.prog 9) cs = cs.head? := by kernel_rfl
@[simp] theorem sz22 : (ti Tryz.prog 22).size = 1 := by kernel_rfl
@[simp] theorem by22 : (ti Tryz.prog 22).bytes = 24 := by kernel_rfl
@[simp] theorem zr22 : (ti Tryz.prog 22).zero = some [.lst (some true) [] .full] := by kernel_rfl
@[simp] theorem ds22 : (ti Tryz.prog 22).desc = some (.slice 5) := by kernel_rfl
@[simp] theorem al22 (cs : List AV) : aload (ti Tryz.prog 22) cs = cs.head? := by kernel_rfl
@[simp] theorem sz25 : (ti Tryz.prog 25).size = 1 := by kernel_rfl
@[simp] theorem by25 : (ti Tryz.prog 25).bytes = 8 := by kernel_rfl
@[simp] theorem zr25 : (ti Tryz.prog 25).zero = some [.int .i64 0] := by kernel_rfl
@[simp] theorem ds25 : (ti Tryz.prog 25).desc = some (.int .i64) := by kernel_rfl
@[simp] theorem al25 (cs : List AV) : aload (ti Tryz.prog 25) cs = cs.head? := by kernel_rfl
@[simp] theorem sz31 : (ti Tryz.prog 31).size = 4 := by kernel_rfl
@[simp] theorem by31 : (ti Tryz.prog 31).bytes = 32 := by kernel_rfl
@[simp] theorem zr31 : (ti Tryz.prog 31).zero = some [.int .i64 0, .int .i64 0, .int .i64 0, .int .i64 0] := by kernel_rfl
@[simp] theorem dn31 : (ti Tryz.prog 31).desc.isSome = true := by kernel_rfl
@[simp] theorem al31 (cs : List AV) : aload (ti Tryz.prog 31) cs = if 4 ≤ cs.length then some (.agg (cs.take 4)) else none := by kernel_rfl
@[simp] theorem fo31_0 : fieldOf Tryz.prog 31 0 = some (0, 3) := by kernel_rfl
@[simp] theorem fo31_1 : fieldOf Tryz.prog 31 1 = some (1, 3) := by kernel_rfl
@[simp] theorem fo31_2 : fieldOf Tryz.prog 31 2 = some (2, 3) := by kernel_rfl
@[simp] theorem fo31_3 : fieldOf Tryz.prog 31 3 = some (3, 3) := by kernel_rfl
@[simp] theorem ab31 (ps : List (Nat × AV)) : abuild Tryz.prog 31 ps = afill ([(0, 1), (1, 1), (2, 1), (3, 1)][·]?) [.int .i64 0, .int .i64 0, .int .i64 0, .int .i64 0] ps := by kernel_rfl
@[simp] theorem sz32 : (ti Tryz.prog 32).size = 1 := by kernel_rfl
@[simp] theorem by32 : (ti Tryz.prog 32).bytes = 24 := by kernel_rfl
@[simp] theorem zr32 : (ti Tryz.prog 32).zero = some [.lst (some true) [] .full] := by kernel_rfl
@[simp] theorem ds32 : (ti Tryz.prog 32).desc = some (.slice 86) := by kernel_rfl
@[simp] theorem al32 (cs : List AV) : aload (ti Tryz.prog 32) cs = cs.head? := by kernel_rfl
@[simp] theorem sz34 : (ti Tryz.prog 34).size = 7 := by kernel_rfl
@[simp] theorem by34 : (ti Tryz.prog 34).bytes = 72 := by kernel_rfl
@[simp] theorem zr34 : (ti Tryz.prog 34).zero = some [.int .i64 0, .int .i64 0, .int .i64 0, .int .i64 0, .int .i64 0, .int .i64 0, .lst (some true) [] .full] := by kernel_rfl
@[simp] theorem dn34 : (ti Tryz.prog 34).desc.isSome = true := by kernel_rfl
@[simp] theorem al34 (cs : List AV) : aload (ti Tryz.prog 34) cs = if 7 ≤ cs.length then some (.agg (cs.take 7)) else none := by kernel_rfl
@[simp] theorem fo34_0 : fieldOf Tryz.prog 34 0 = some (0, 31) := by kernel_rfl
@[simp] theorem fo34_1 : fieldOf Tryz.prog 34 1 = some (4, 3) := by kernel_rfl
@[simp] theorem fo34_2 : fieldOf Tryz.prog 34 2 = some (5, 3) := by kernel_rfl
@[simp] theorem fo34_3 : fieldOf Tryz.prog 34 3 = some (6, 32) := by kernel_rfl
@[simp] theorem ab34 (ps : List (Nat × AV)) : abuild Tryz.prog 34 ps = afill ([(0, 4), (4, 1), (5, 1), (6, 1)][·]?) [.int .i64 0, .int .i64 0, .int .i64 0, .int .i64 0, .int .i64 0, .int .i64 0, .lst (some true) [] .full] ps := by kernel_rfl
@[simp] theorem sz39 : (ti Tryz.prog 39).size = 1 := by kernel_rfl
@[simp] theorem by39 : (ti Tryz.prog 39).bytes = 8 := by kernel_rfl
@[simp] theorem zr39 : (ti Tryz.prog 39).zero = some [.int .i64 0] := by kernel_rfl
@[simp] theorem ds39 : (ti Tryz.prog 39).desc = some (.int .i64) := by kernel_rfl
@[simp] theorem al39 (cs : List AV) : aload (ti Tryz.prog 39) cs = cs.head? := by kernel_rfl
@[simp] theorem sz40 : (ti Tryz.prog 40).size = 1 := by kernel_rfl
@[simp] theorem by40 : (ti Tryz.prog 40).bytes = 8 := by kernel_rfl
@[simp] theorem zr40 : (ti Tryz.prog 40).zero = some [.int .i64 0] := by kernel_rfl
@[simp] theorem ds40 : (ti Tryz.prog 40).desc = some (.int .i64) := by kernel_rfl
@[simp] theorem al40 (cs : List AV) : aload (ti Tryz.prog 40) cs = cs.head? := by kernel_rfl
@[simp] theorem sz41 : (ti Tryz.prog 41).size = 1 := by kernel_rfl
@[simp] theorem by41 : (ti Tryz.prog 41).bytes = 24 := by kernel_rfl
@[simp] theorem zr41 : (ti Tryz.prog 41).zero = some [.lst (some true) [] .full] := by kernel_rfl
@[simp] theorem ds41 : (ti Tryz.prog 41).desc = some (.slice 110) := by kernel_rfl
@[simp] theorem al41 (cs : List AV) : aload (ti Tryz.prog 41) cs = cs.head? := by kernel_rfl
@[simp] theorem sz42 : (ti Tryz.prog 42).size = 1 := by kernel_rfl
@[simp] theorem by42 : (ti Tryz.prog 42).bytes = 8 := by kernel_rfl
@[simp] theorem zr42 : (ti Tryz.prog 42).zero = some [.int .i64 0] := by kernel_rfl
@[simp] theorem ds42 : (ti Tryz.prog 42).desc = some (.int .i64) := by kernel_rfl
@[simp] theorem al42 (cs : List AV) : aload (ti Tryz.prog 42) cs = cs.head? := by kernel_rfl
@[simp] theorem sz44 : (ti Tryz.prog 44).size = 5 := by kernel_rfl
@[simp] theorem by44 : (ti Tryz.prog 44).bytes = 5 := by kernel_rfl
@[simp] theorem zr44 : (ti Tryz.prog 44).zero = some [.bool false, .bool false, .bool false, .bool false, .bool false] := by kernel_rfl
@[simp] theorem dn44 : (ti Tryz.prog 44).desc.isSome = true := by kernel_rfl
@[simp] theorem al44 (cs : List AV) : aload (ti Tryz.prog 44) cs = if 5 ≤ cs.length then some (.agg (cs.take 5)) else none := by kernel_rfl
@[simp] theorem fo44_0 : fieldOf Tryz.prog 44 0 = some (0, 4) := by kernel_rfl
@[simp] theorem fo44_1 : fieldOf Tryz.prog 44 1 = some (1, 4) := by kernel_rfl
@[simp] theorem fo44_2 : fieldOf Tryz.prog 44 2 = some (2, 4) := by kernel_rfl
@[simp] theorem fo44_3 : fieldOf Tryz.prog 44 3 = some (3, 4) := by kernel_rfl
@[simp] theorem fo44_4 : fieldOf Tryz.prog 44 4 = some (4, 4) := by kernel_rfl
@[simp] theorem ab44 (ps : List (Nat × AV)) : abuild Tryz.prog 44 ps = afill ([(0, 1), (1, 1), (2, 1), (3, 1), (4, 1)][·]?) [.bool false, .bool false, .bool false, .bool false, .bool false] ps := by kernel_rfl
@[simp] theorem sz45 : (ti Tryz.prog 45).size = 1 := by kernel_rfl
@[simp] theorem by45 : (ti Tryz.prog 45).bytes = 24 := by kernel_rfl
@[simp] theorem zr45 : (ti Tryz.prog 45).zero = some [.lst (some true) [] .full] := by kernel_rfl
@[simp] theorem ds45 : (ti Tryz.prog 45).desc = some (.slice 3) := by kernel_rfl
@[simp] theorem al45 (cs : List AV) : aload (ti Tryz.prog 45) cs = cs.head? := by kernel_rfl
@[simp] theorem sz47 : (ti Tryz.prog 47).size = 19 := by kernel_rfl
@[simp] theorem by47 : (ti Tryz.prog 47).bytes = 128 := by kernel_rfl
@[simp] theorem zr47 : (ti Tryz.prog 47).zero = some [.int .i64 0, .int .i64 0, .int .i64 0, .int .i64 0, .int .i64 0, .lst (some true) [] .full, .int .i64 0, .int .i64 0, .bool false, .bool false, .bool false, .bool false, .bool false, .bool false, .bool false, .bool false, .lst (some true) [] .full, .int .i64 0, .int .i64 0] := by kernel_rfl
@[simp] theorem dn47 : (ti Tryz.prog 47).desc.isSome = true := by kernel_rfl
@[simp] theorem al47 (cs : List AV) : aload (ti Tryz.prog 47) cs = if 19 ≤ cs.length then some (.agg (cs.take 19)) else none := by kernel_rfl
@[simp] theorem fo47_0 : fieldOf Tryz.prog 47 0 = some (0, 39) := by kernel_rfl
@[simp] theorem fo47_1 : fieldOf Tryz.prog 47 1 = some (1, 3) := by kernel_rfl
@[simp] theorem fo47_2 : fieldOf Tryz.prog 47 2 = some (2, 40) := by kernel_rfl
@[simp] theorem fo47_3 : fieldOf Tryz.prog 47 3 = some (3, 3) := by kernel_rfl
@[simp] theorem fo47_4 : fieldOf Tryz.prog 47 4 = some (4, 3) := by kernel_rfl
@[simp] theorem fo47_5 : fieldOf Tryz.prog 47 5 = some (5, 41) := by kernel_rfl
@[simp] theorem fo47_6 : fieldOf Tryz.prog 47 6 = some (6, 42) := by kernel_rfl
@[simp] theorem fo47_7 : fieldOf Tryz.prog 47 7 = some (7, 3) := by kernel_rfl
@[simp] theorem fo47_8 : fieldOf Tryz.prog 47 8 = some (8, 44) := by kernel_rfl
@[simp] theorem fo47_9 : fieldOf Tryz.prog 47 9 = some (13, 4) := by kernel_rfl
@[simp] theorem fo47_10 : fieldOf Tryz.prog 47 10 = some (14, 4) := by kernel_rfl
@[simp] theorem fo47_11 : fieldOf Tryz.prog 47 11 = some (15, 4) := by kernel_rfl
@[simp] theorem fo47_12 : fieldOf Tryz.prog 47 12 = some (16, 45) := by kernel_rfl
@[simp] theorem fo47_13 : fieldOf Tryz.prog 47 13 = some (17, 3) := by kernel_rfl
@[simp] theorem fo47_14 : fieldOf Tryz.prog 47 14 = some (18, 3) := by kernel_rfl
@[simp] theorem ab47 (ps : List (Nat × AV)) : abuild Tryz.prog 47 ps = afill ([(0, 1), (1, 1), (2, 1), (3, 1), (4, 1), (5, 1), (6, 1), (7, 1), (8, 5), (13, 1), (14, 1), (15, 1), (16, 1), (17, 1), (18, 1)][·]?) [.int .i64 0, .int .i64 0, .int .i64 0, .int .i64 0, .int .i64 0, .lst (some true) [] .full, .int .i64 0, .int .i64 0, .bool false, .bool false, .bool false, .bool false, .bool false, .bool false, .bool false, .bool false, .lst (some true) [] .full, .int .i64 0, .int .i64 0] ps := by kernel_rfl
@[simp] theorem sz51 : (ti Tryz.prog 51).size = 1 := by kernel_rfl
@[simp] theorem by51 : (ti Tryz.prog 51).bytes = 24 := by kernel_rfl
@[simp] theorem zr51 : (ti Tryz.prog 51).zero = some [.lst (some true) [] .full] := by kernel_rfl
@[simp] theorem ds51 : (ti Tryz.prog 51).desc = some (.slice 9) := by kernel_rfl
@[simp] theorem al51 (cs : List AV) : aload (ti Tryz.prog 51) cs = cs.head? := by kernel_rfl
@[simp] theorem sz52 : (ti Tryz.prog 52).size = 1 := by kernel_rfl
@[simp] theorem by52 : (ti Tryz.prog 52).bytes = 24 := by kernel_rfl
@[simp] theorem zr52 : (ti Tryz.prog 52).zero = some [.lst (some true) [] .full] := by kernel_rfl
@[simp] theorem ds52 : (ti Tryz.prog 52).desc = some (.slice 87) := by kernel_rfl
@[simp] theorem al52 (cs : List AV) : aload (ti Tryz.prog 52) cs = cs.head? := by kernel_rfl
@[simp] theorem sz54 : (ti Tryz.prog 54).size = 28 := by kernel_rfl
@[simp] theorem by54 : (ti Tryz.prog 54).bytes = 248 := by kernel_rfl
@[simp] theorem zr54 : (ti Tryz.prog 54).zero = some [.int .i64 0, .int .i64 0, .int .i64 0, .int .i64 0, .int .i64 0, .int .i64 0, .lst (some true) [] .full, .int .i64 0, .int .i64 0, .int .i64 0, .int .i64 0, .int .i64 0, .lst (some true) [] .full, .int .i64 0, .int .i64 0, .bool false, .bool false, .bool false, .bool false, .bool false, .bool false, .bool false, .bool false, .lst (some true) [] .full, .int .i64 0, .int .i64 0, .lst (some true) [] .full, .lst (some true) [] .full] := by kernel_rfl
@[simp] theorem dn54 : (ti Tryz.prog 54).desc.isSome = true := by kernel_rfl
@[simp] theorem al54 (cs : List AV) : aload (ti Tryz.prog 54) cs = if 28 ≤ cs.length then some (.agg (cs.take 28)) else none := by kernel_rfl
@[simp] theorem fo54_0 : fieldOf Tryz.prog 54 0 = some (0, 34) := by kernel_rfl
@[simp] theorem fo54_1 : fieldOf Tryz.prog 54 1 = some (7, 47) := by kernel_rfl
@[simp] theorem fo54_2 : fieldOf Tryz.prog 54 2 = some (26, 51) := by kernel_rfl
@[simp] theorem fo54_3 : fieldOf Tryz.prog 54 3 = some (27, 52) := by kernel_rfl
@[simp] theorem ab54 (ps : List (Nat × AV)) : abuild Tryz.prog 54 ps = afill ([(0, 7), (7, 19), (26, 1), (27, 1)][·]?) [.int .i64 0, .int .i64 0, .int .i64 0, .int .i64 0, .int .i64 0, .int .i64 0, .lst (some true) [] .full, .int .i64 0, .int .i64 0, .int .i64 0, .int .i64 0, .int .i64 0, .lst (some true) [] .full, .int .i64 0, .int .i64 0, .bool false, .bool false, .bool false, .bool false, .bool false, .bool false, .bool false, .bool false, .lst (some true) [] .full, .int .i64 0, .int .i64 0, .lst (some true) [] .full, .lst (some true) [] .full] ps := by kernel_rfl
@[simp] theorem sz57 : (ti Tryz.prog 57).size = 2 := by kernel_rfl
@[simp] theorem by57 : (ti Tryz.prog 57).bytes = 2 := by kernel_rfl
@[simp] theorem zr57 : (ti Tryz.prog 57).zero = some [.int .u8 0, .int .u8 0] := by kernel_rfl
@[simp] theorem ds57 : (ti Tryz.prog 57).desc = some (.array 2 5) := by kernel_rfl
@[simp] theorem al57 (cs : List AV) : aload (ti Tryz.prog 57) cs = if 2 ≤ cs.length then some (.agg (cs.take 2)) else none := by kernel_rfl
@[simp] theorem ab57 (ps : List (Nat × AV)) : abuild Tryz.prog 57 ps = afill (fun i => some (i * 1, 1)) [.int .u8 0, .int .u8 0] ps := by kernel_rfl
@[simp] theorem sz70 : (ti Tryz.prog 70).size = 1 := by kernel_rfl
@[simp] theorem by70 : (ti Tryz.prog 70).bytes = 24 := by kernel_rfl
@[simp] theorem zr70 : (ti Tryz.prog 70).zero = some [.lst (some true) [] .full] := by kernel_rfl
@[simp] theorem ds70 : (ti Tryz.prog 70).desc = some (.slice 31) := by kernel_rfl
@[simp] theorem al70 (cs : List AV) : aload (ti Tryz.prog 70) cs = cs.head? := by kernel_rfl
@[simp] theorem sz75 : (ti Tryz.prog 75).size = 1 := by kernel_rfl
@[simp] theorem by75 : (ti Tryz.prog 75).bytes = 24 := by kernel_rfl
@[simp] theorem zr75 : (ti Tryz.prog 75).zero = some [.lst (some true) [] .full] := by kernel_rfl
@[simp] theorem ds75 : (ti Tryz.prog 75).desc = some (.slice 80) := by kernel_rfl
@[simp] theorem al75 (cs : List AV) : aload (ti Tryz.prog 75) cs = cs.head? := by kernel_rfl
@[simp] theorem sz80 : (ti Tryz.prog 80).size = 2 := by kernel_rfl
@[simp] theorem by80 : (ti Tryz.prog 80).bytes = 32 := by kernel_rfl
@[simp] theorem zr80 : (ti Tryz.prog 80).zero = some [.int .i64 0, .lst (some true) [] .full] := by kernel_rfl
@[simp] theorem dn80 : (ti Tryz.prog 80).desc.isSome = true := by kernel_rfl
@[simp] theorem al80 (cs : List AV) : aload (ti Tryz.prog 80) cs = if 2 ≤ cs.length then some (.agg (cs.take 2)) else none := by kernel_rfl
@[simp] theorem fo80_0 : fieldOf Tryz.prog 80 0 = some (0, 3) := by kernel_rfl
@[simp] theorem fo80_1 : fieldOf Tryz.prog 80 1 = some (1, 22) := by kernel_rfl
@[simp] theorem ab80 (ps : List (Nat × AV)) : abuild Tryz.prog 80 ps = afill ([(0, 1), (1, 1)][·]?) [.int .i64 0, .lst (some true) [] .full] ps := by kernel_rfl
@[simp] theorem sz86 : (ti Tryz.prog 86).size = 4 := by kernel_rfl
@[simp] theorem by86 : (ti Tryz.prog 86).bytes = 32 := by kernel_rfl
@[simp] theorem zr86 : (ti Tryz.prog 86).zero = some [.int .i64 0, .bool false, .int .i64 0, .int .i64 0] := by kernel_rfl
@[simp] theorem dn86 : (ti Tryz.prog 86).desc.isSome = true := by kernel_rfl
@[simp] theorem al86 (cs : List AV) : aload (ti Tryz.prog 86) cs = if 4 ≤ cs.length then some (.agg (cs.take 4)) else none := by kernel_rfl
@[simp] theorem fo86_0 : fieldOf Tryz.prog 86 0 = some (0, 3) := by kernel_rfl
@[simp] theorem fo86_1 : fieldOf Tryz.prog 86 1 = some (1, 4) := by kernel_rfl
@[simp] theorem fo86_2 : fieldOf Tryz.prog 86 2 = some (2, 3) := by kernel_rfl
@[simp] theorem fo86_3 : fieldOf Tryz.prog 86 3 = some (3, 3) := by kernel_rfl
@[simp] theorem ab86 (ps : List (Nat × AV)) : abuild Tryz.prog 86 ps = afill ([(0, 1), (1, 1), (2, 1), (3, 1)][·]?) [.int .i64 0, .bool false, .int .i64 0, .int .i64 0] ps := by kernel_rfl
@[simp] theorem sz87 : (ti Tryz.prog 87).size = 1 := by kernel_rfl
@[simp] theorem by87 : (ti Tryz.prog 87).bytes = 24 := by kernel_rfl
@[simp] theorem zr87 : (ti Tryz.prog 87).zero = some [.lst (some true) [] .full] := by kernel_rfl
@[simp] theorem ds87 : (ti Tryz.prog 87).desc = some (.slice 94) := by kernel_rfl
@[simp] theorem al87 (cs : List AV) : aload (ti Tryz.prog 87) cs = cs.head? := by kernel_rfl
@[simp] theorem sz90 : (ti Tryz.prog 90).size = 4 := by kernel_rfl
@[simp] theorem by90 : (ti Tryz.prog 90).bytes = 32 := by kernel_rfl
@[simp] theorem zr90 : (ti Tryz.prog 90).zero = some [.int .i64 0, .int .i64 0, .int .i64 0, .int .i64 0] := by kernel_rfl
@[simp] theorem dn90 : (ti Tryz.prog 90).desc.isSome = true := by kernel_rfl
@[simp] theorem al90 (cs : List AV) : aload (ti Tryz.prog 90) cs = if 4 ≤ cs.length then some (.agg (cs.take 4)) else none := by kernel_rfl
@[simp] theorem fo90_0 : fieldOf Tryz.prog 90 0 = some (0, 3) := by kernel_rfl
@[simp] theorem fo90_1 : fieldOf Tryz.prog 90 1 = some (1, 3) := by kernel_rfl
@[simp] theorem fo90_2 : fieldOf Tryz.prog 90 2 = some (2, 3) := by kernel_rfl
@[simp] theorem fo90_3 : fieldOf Tryz.prog 90 3 = some (3, 3) := by kernel_rfl
@[simp] theorem ab90 (ps : List (Nat × AV)) : abuild Tryz.prog 90 ps = afill ([(0, 1), (1, 1), (2, 1), (3, 1)][·]?) [.int .i64 0, .int .i64 0, .int .i64 0, .int .i64 0] ps := by kernel_rfl
@[simp] theorem sz94 : (ti Tryz.prog 94).size = 6 := by kernel_rfl
@[simp] theorem by94 : (ti Tryz.prog 94).bytes = 80 := by kernel_rfl
@[simp] theorem zr94 : (ti Tryz.prog 94).zero = some [.int .i64 0, .int .i64 0, .int .i64 0, .int .i64 0, .lst (some true) [] .full, .lst (some true) [] .full] := by kernel_rfl
@[simp] theorem dn94 : (ti Tryz.prog 94).desc.isSome = true := by kernel_rfl
@[simp] theorem al94 (cs : List AV) : aload (ti Tryz.prog 94) cs = if 6 ≤ cs.length then some (.agg (cs.take 6)) else none := by kernel_rfl
@[simp] theorem fo94_0 : fieldOf Tryz.prog 94 0 = some (0, 90) := by kernel_rfl
@[simp] theorem fo94_1 : fieldOf Tryz.prog 94 1 = some (4, 22) := by kernel_rfl
@[simp] theorem fo94_2 : fieldOf Tryz.prog 94 2 = some (5, 22) := by kernel_rfl
@[simp] theorem ab94 (ps : List (Nat × AV)) : abuild Tryz.prog 94 ps = afill ([(0, 4), (4, 1), (5, 1)][·]?) [.int .i64 0, .int .i64 0, .int .i64 0, .int .i64 0, .lst (some true) [] .full, .lst (some true) [] .full] ps := by kernel_rfl
@[simp] theorem sz102 : (ti Tryz.prog 102).size = 1 := by kernel_rfl
@[simp] theorem by102 : (ti Tryz.prog 102).bytes = 8 := by kernel_rfl
@[simp] theorem zr102 : (ti Tryz.prog 102).zero = some [.nilmap] := by kernel_rfl
@[simp] theorem ds102 : (ti Tryz.prog 102).desc = some (.map 3 3) := by kernel_rfl
@[simp] theorem al102 (cs : List AV) : aload (ti Tryz.prog 102) cs = cs.head? := by kernel_rfl
@[simp] theorem sz110 : (ti Tryz.prog 110).size = 2 := by kernel_rfl
@[simp] theorem by110 : (ti Tryz.prog 110).bytes = 16 := by kernel_rfl
@[simp] theorem zr110 : (ti Tryz.prog 110).zero = some [.int .i64 0, .int .i64 0] := by kernel_rfl
@[simp] theorem dn110 : (ti Tryz.prog 110).desc.isSome = true := by kernel_rfl
@[simp] theorem al110 (cs : List AV) : aload (ti Tryz.prog 110) cs = if 2 ≤ cs.length then some (.agg (cs.take 2)) else none := by kernel_rfl
@[simp] theorem fo110_0 : fieldOf Tryz.prog 110 0 = some (0, 3) := by kernel_rfl
@[simp] theorem fo110_1 : fieldOf Tryz.prog 110 1 = some (1, 3) := by kernel_rfl
@[simp] theorem ab110 (ps : List (Nat × AV)) : abuild Tryz.prog 110 ps = afill ([(0, 1), (1, 1)][·]?) [.int .i64 0, .int .i64 0] ps := by kernel_rfl
@[simp] theorem sz113 : (ti Tryz.prog 113).size = 29 := by kernel_rfl
@[simp] theorem by113 : (ti Tryz.prog 113).bytes = 256 := by kernel_rfl
@[simp] theorem zr113 : (ti Tryz.prog 113).zero = some [.int .i64 0, .int .i64 0, .int .i64 0, .int .i64 0, .int .i64 0, .int .i64 0, .lst (some true) [] .full, .int .i64 0, .int .i64 0, .int .i64 0, .int .i64 0, .int .i64 0, .lst (some true) [] .full, .int .i64 0, .int .i64 0, .bool false, .bool false, .bool false, .bool false, .bool false, .bool false, .bool false, .bool false, .lst (some true) [] .full, .int .i64 0, .int .i64 0, .lst (some true) [] .full, .lst (some true) [] .full, .int .i64 0] := by kernel_rfl
@[simp] theorem dn113 : (ti Tryz.prog 113).desc.isSome = true := by kernel_rfl
@[simp] theorem al113 (cs : List AV) : aload (ti Tryz.prog 113) cs = if 29 ≤ cs.length then some (.agg (cs.take 29)) else none := by kernel_rfl
@[simp] theorem fo113_0 : fieldOf Tryz.prog 113 0 = some (0, 34) := by kernel_rfl
@[simp] theorem fo113_1 : fieldOf Tryz.prog 113 1 = some (7, 47) := by kernel_rfl
@[simp] theorem fo113_2 : fieldOf Tryz.prog 113 2 = some (26, 51) := by kernel_rfl
@[simp] theorem fo113_3 : fieldOf Tryz.prog 113 3 = some (27, 45) := by kernel_rfl
@[simp] theorem fo113_4 : fieldOf Tryz.prog 113 4 = some (28, 3) := by kernel_rfl
@[simp] theorem ab113 (ps : List (Nat × AV)) : abuild Tryz.prog 113 ps = afill ([(0, 7), (7, 19), (26, 1), (27, 1), (28, 1)][·]?) [.int .i64 0, .int .i64 0, .int .i64 0, .int .i64 0, .int .i64 0, .int .i64 0, .lst (some true) [] .full, .int .i64 0, .int .i64 0, .int .i64 0, .int .i64 0, .int .i64 0, .lst (some true) [] .full, .int .i64 0, .int .i64 0, .bool false, .bool false, .bool false, .bool false, .bool false, .bool false, .bool false, .bool false, .lst (some true) [] .full, .int .i64 0, .int .i64 0, .lst (some true) [] .full, .lst (some true) [] .full, .int .i64 0] ps := by kernel_rfl
@[simp] theorem sz116 : (ti Tryz.prog 116).size = 1 := by kernel_rfl
@[simp] theorem by116 : (ti Tryz.prog 116).bytes = 24 := by kernel_rfl
@[simp] theorem zr116 : (ti Tryz.prog 116).zero = some [.lst (some true) [] .full] := by kernel_rfl
@[simp] theorem ds116 : (ti Tryz.prog 116).desc = some (.slice 117) := by kernel_rfl
@[simp] theorem al116 (cs : List AV) : aload (ti Tryz.prog 116) cs = cs.head? := by kernel_rfl
@[simp] theorem sz117 : (ti Tryz.prog 117).size = 1 := by kernel_rfl
@[simp] theorem by117 : (ti Tryz.prog 117).bytes = 24 := by kernel_rfl
@[simp] theorem zr117 : (ti Tryz.prog 117).zero = some [.lst (some true) [] .full] := by kernel_rfl
@[simp] theorem ds117 : (ti Tryz.prog 117).desc = some (.slice 180) := by kernel_rfl
@[simp] theorem al117 (cs : List AV) : aload (ti Tryz.prog 117) cs = cs.head? := by kernel_rfl
@[simp] theorem sz120 : (ti Tryz.prog 120).size = 1 := by kernel_rfl
@[simp] theorem by120 : (ti Tryz.prog 120).bytes = 24 := by kernel_rfl
@[simp] theorem zr120 : (ti Tryz.prog 120).zero = some [.lst (some true) [] .full] := by kernel_rfl
@[simp] theorem ds120 : (ti Tryz.prog 120).desc = some (.slice 123) := by kernel_rfl
@[simp] theorem al120 (cs : List AV) : aload (ti Tryz.prog 120) cs = cs.head? := by kernel_rfl
@[simp] theorem sz123 : (ti Tryz.prog 123).size = 5 := by kernel_rfl
@[simp] theorem by123 : (ti Tryz.prog 123).bytes = 40 := by kernel_rfl
@[simp] theorem zr123 : (ti Tryz.prog 123).zero = some [.int .i64 0, .int .i64 0, .int .i64 0, .int .i64 0, .int .i64 0] := by kernel_rfl
@[simp] theorem dn123 : (ti Tryz.prog 123).desc.isSome = true := by kernel_rfl
@[simp] theorem al123 (cs : List AV) : aload (ti Tryz.prog 123) cs = if 5 ≤ cs.length then some (.agg (cs.take 5)) else none := by kernel_rfl
@[simp] theorem fo123_0 : fieldOf Tryz.prog 123 0 = some (0, 3) := by kernel_rfl
@[simp] theorem fo123_1 : fieldOf Tryz.prog 123 1 = some (1, 3) := by kernel_rfl
@[simp] theorem fo123_2 : fieldOf Tryz.prog 123 2 = some (2, 3) := by kernel_rfl
@[simp] theorem fo123_3 : fieldOf Tryz.prog 123 3 = some (3, 3) := by kernel_rfl
@[simp] theorem fo123_4 : fieldOf Tryz.prog 123 4 = some (4, 3) := by kernel_rfl
@[simp] theorem ab123 (ps : List (Nat × AV)) : abuild Tryz.prog 123 ps = afill ([(0, 1), (1, 1), (2, 1), (3, 1), (4, 1)][·]?) [.int .i64 0, .int .i64 0, .int .i64 0, .int .i64 0, .int .i64 0] ps := by kernel_rfl
@[simp] theorem sz133 : (ti Tryz.prog 133).size = 1 := by kernel_rfl
@[simp] theorem by133 : (ti Tryz.prog 133).bytes = 8 := by kernel_rfl
@[simp] theorem zr133 : (ti Tryz.prog 133).zero = some [.nilmap] := by kernel_rfl
@[simp] theorem ds133 : (ti Tryz.prog 133).desc = some (.map 31 87) := by kernel_rfl
@[simp] theorem al133 (cs : List AV) : aload (ti Tryz.prog 133) cs = cs.head? := by kernel_rfl
@[simp] theorem sz156 : (ti Tryz.prog 156).size = 29 := by kernel_rfl
@[simp] theorem by156 : (ti Tryz.prog 156).bytes = 256 := by kernel_rfl
@[simp] theorem zr156 : (ti Tryz.prog 156).zero = some [.int .i64 0, .int .i64 0, .int .i64 0, .int .i64 0, .int .i64 0, .int .i64 0, .lst (some true) [] .full, .int .i64 0, .int .i64 0, .int .i64 0, .int .i64 0, .int .i64 0, .lst (some true) [] .full, .int .i64 0, .int .i64 0, .bool false, .bool false, .bool false, .bool false, .bool false, .bool false, .bool false, .bool false, .lst (some true) [] .full, .int .i64 0, .int .i64 0, .lst (some true) [] .full, .lst (some true) [] .full, .int .i64 0] := by kernel_rfl
@[simp] theorem dn156 : (ti Tryz.prog 156).desc.isSome = true := by kernel_rfl
@[simp] theorem al156 (cs : List AV) : aload (ti Tryz.prog 156) cs = if 29 ≤ cs.length then some (.agg (cs.take 29)) else none := by kernel_rfl
@[simp] theorem fo156_0 : fieldOf Tryz.prog 156 0 = some (0, 34) := by kernel_rfl
@[simp] theorem fo156_1 : fieldOf Tryz.prog 156 1 = some (7, 47) := by kernel_rfl
@[simp] theorem fo156_2 : fieldOf Tryz.prog 156 2 = some (26, 51) := by kernel_rfl
@[simp] theorem fo156_3 : fieldOf Tryz.prog 156 3 = some (27, 45) := by kernel_rfl
@[simp] theorem fo156_4 : fieldOf Tryz.prog 156 4 = some (28, 3) := by kernel_rfl
@[simp] theorem ab156 (ps : List (Nat × AV)) : abuild Tryz.prog 156 ps = afill ([(0, 7), (7, 19), (26, 1), (27, 1), (28, 1)][·]?) [.int .i64 0, .int .i64 0, .int .i64 0, .int .i64 0, .int .i64 0, .int .i64 0, .lst (some true) [] .full, .int .i64 0, .int .i64 0, .int .i64 0, .int .i64 0, .int .i64 0, .lst (some true) [] .full, .int .i64 0, .int .i64 0, .bool false, .bool false, .bool false, .bool false, .bool false, .bool false, .bool false, .bool false, .lst (some true) [] .full, .int .i64 0, .int .i64 0, .lst (some true) [] .full, .lst (some true) [] .full, .int .i64 0] ps := by kernel_rfl
@[simp] theorem sz159 : (ti Tryz.prog 159).size = 1 := by kernel_rfl
@[simp] theorem by159 : (ti Tryz.prog 159).bytes = 24 := by kernel_rfl
@[simp] theorem zr159 : (ti Tryz.prog 159).zero = some [.lst (some true) [] .full] := by kernel_rfl
@[simp] theorem ds159 : (ti Tryz.prog 159).desc = some (.slice 160) := by kernel_rfl
@[simp] theorem al159 (cs : List AV) : aload (ti Tryz.prog 159) cs = cs.head? := by kernel_rfl
@[simp] theorem sz160 : (ti Tryz.prog 160).size = 1 := by kernel_rfl
@[simp] theorem by160 : (ti Tryz.prog 160).bytes = 24 := by kernel_rfl
@[simp] theorem zr160 : (ti Tryz.prog 160).zero = some [.lst (some true) [] .full] := by kernel_rfl
@[simp] theorem ds160 : (ti Tryz.prog 160).desc = some (.slice 212) := by kernel_rfl
@[simp] theorem al160 (cs : List AV) : aload (ti Tryz.prog 160) cs = cs.head? := by kernel_rfl
@[simp] theorem sz163 : (ti Tryz.prog 163).size = 1 := by kernel_rfl
@[simp] theorem by163 : (ti Tryz.prog 163).bytes = 24 := by kernel_rfl
@[simp] theorem zr163 : (ti Tryz.prog 163).zero = some [.lst (some true) [] .full] := by kernel_rfl
@[simp] theorem ds163 : (ti Tryz.prog 163).desc = some (.slice 166) := by kernel_rfl
@[simp] theorem al163 (cs : List AV) : aload (ti Tryz.prog 163) cs = cs.head? := by kernel_rfl
@[simp] theorem sz166 : (ti Tryz.prog 166).size = 5 := by kernel_rfl
@[simp] theorem by166 : (ti Tryz.prog 166).bytes = 40 := by kernel_rfl
@[simp] theorem zr166 : (ti Tryz.prog 166).zero = some [.int .i64 0, .int .i64 0, .int .i64 0, .int .i64 0, .int .i64 0] := by kernel_rfl
@[simp] theorem dn166 : (ti Tryz.prog 166).desc.isSome = true := by kernel_rfl
@[simp] theorem al166 (cs : List AV) : aload (ti Tryz.prog 166) cs = if 5 ≤ cs.length then some (.agg (cs.take 5)) else none := by kernel_rfl
@[simp] theorem fo166_0 : fieldOf Tryz.prog 166 0 = some (0, 3) := by kernel_rfl
@[simp] theorem fo166_1 : fieldOf Tryz.prog 166 1 = some (1, 3) := by kernel_rfl
@[simp] theorem fo166_2 : fieldOf Tryz.prog 166 2 = some (2, 3) := by kernel_rfl
@[simp] theorem fo166_3 : fieldOf Tryz.prog 166 3 = some (3, 3) := by kernel_rfl
@[simp] theorem fo166_4 : fieldOf Tryz.prog 166 4 = some (4, 3) := by kernel_rfl
@[simp] theorem ab166 (ps : List (Nat × AV)) : abuild Tryz.prog 166 ps = afill ([(0, 1), (1, 1), (2, 1), (3, 1), (4, 1)][·]?) [.int .i64 0, .int .i64 0, .int .i64 0, .int .i64 0, .int .i64 0] ps := by kernel_rfl
@[simp] theorem sz178 : (ti Tryz.prog 178).size = 1 := by kernel_rfl
@[simp] theorem by178 : (ti Tryz.prog 178).bytes = 24 := by kernel_rfl
@[simp] theorem zr178 : (ti Tryz.prog 178).zero = some [.lst (some true) [] .full] := by kernel_rfl
@[simp] theorem ds178 : (ti Tryz.prog 178).desc = some (.slice 90) := by kernel_rfl
@[simp] theorem al178 (cs : List AV) : aload (ti Tryz.prog 178) cs = cs.head? := by kernel_rfl
@[simp] theorem sz180 : (ti Tryz.prog 180).size = 1 := by kernel_rfl
@[simp] theorem by180 : (ti Tryz.prog 180).bytes = 8 := by kernel_rfl
@[simp] theorem zr180 : (ti Tryz.prog 180).zero = some [.nilp] := by kernel_rfl
@[simp] theorem ds180 : (ti Tryz.prog 180).desc = some (.pointer 279) := by kernel_rfl
@[simp] theorem al180 (cs : List AV) : aload (ti Tryz.prog 180) cs = cs.head? := by kernel_rfl
@[simp] theorem sz183 : (ti Tryz.prog 183).size = 1 := by kernel_rfl
@[simp] theorem by183 : (ti Tryz.prog 183).bytes = 24 := by kernel_rfl
@[simp] theorem zr183 : (ti Tryz.prog 183).zero = some [.lst (some true) [] .full] := by kernel_rfl
@[simp] theorem ds183 : (ti Tryz.prog 183).desc = some (.slice 45) := by kernel_rfl
@[simp] theorem al183 (cs : List AV) : aload (ti Tryz.prog 183) cs = cs.head? := by kernel_rfl
@[simp] theorem sz196 : (ti Tryz.prog 196).size = 1 := by kernel_rfl
@[simp] theorem by196 : (ti Tryz.prog 196).bytes = 24 := by kernel_rfl
@[simp] theorem zr196 : (ti Tryz.prog 196).zero = some [.lst (some true) [] .full] := by kernel_rfl
@[simp] theorem ds196 : (ti Tryz.prog 196).desc = some (.slice 54) := by kernel_rfl
@[simp] theorem al196 (cs : List AV) : aload (ti Tryz.prog 196) cs = cs.head? := by kernel_rfl
@[simp] theorem sz198 : (ti Tryz.prog 198).size = 1 := by kernel_rfl
@[simp] theorem by198 : (ti Tryz.prog 198).bytes = 8 := by kernel_rfl
@[simp] theorem zr198 : (ti Tryz.prog 198).zero = some [.int .u64 0] := by kernel_rfl
@[simp] theorem ds198 : (ti Tryz.prog 198).desc = some (.int .u64) := by kernel_rfl
@[simp] theorem al198 (cs : List AV) : aload (ti Tryz.prog 198) cs = cs.head? := by kernel_rfl
@[simp] theorem sz202 : (ti Tryz.prog 202).size = 1 := by kernel_rfl
@[simp] theorem by202 : (ti Tryz.prog 202).bytes = 24 := by kernel_rfl
@[simp] theorem zr202 : (ti Tryz.prog 202).zero = some [.lst (some true) [] .full] := by kernel_rfl
@[simp] theorem ds202 : (ti Tryz.prog 202).desc = some (.slice 257) := by kernel_rfl
@[simp] theorem al202 (cs : List AV) : aload (ti Tryz.prog 202) cs = cs.head? := by kernel_rfl
@[simp] theorem sz206 : (ti Tryz.prog 206).size = 8 := by kernel_rfl
@[simp] theorem by206 : (ti Tryz.prog 206).bytes = 8 := by kernel_rfl
@[simp] theorem zr206 : (ti Tryz.prog 206).zero = some [.bool false, .bool false, .bool false, .bool false, .bool false, .bool false, .bool false, .bool false] := by kernel_rfl
@[simp] theorem ds206 : (ti Tryz.prog 206).desc = some (.array 8 4) := by kernel_rfl
@[simp] theorem al206 (cs : List AV) : aload (ti Tryz.prog 206) cs = if 8 ≤ cs.length then some (.agg (cs.take 8)) else none := by kernel_rfl
@[simp] theorem ab206 (ps : List (Nat × AV)) : abuild Tryz.prog 206 ps = afill (fun i => some (i * 1, 1)) [.bool false, .bool false, .bool false, .bool false, .bool false, .bool false, .bool false, .bool false] ps := by kernel_rfl
@[simp] theorem sz212 : (ti Tryz.prog 212).size = 1 := by kernel_rfl
@[simp] theorem by212 : (ti Tryz.prog 212).bytes = 8 := by kernel_rfl
@[simp] theorem zr212 : (ti Tryz.prog 212).zero = some [.nilp] := by kernel_rfl
@[simp] theorem ds212 : (ti Tryz.prog 212).desc = some (.pointer 320) := by kernel_rfl
@[simp] theorem al212 (cs : List AV) : aload (ti Tryz.prog 212) cs = cs.head? := by kernel_rfl
@[simp] theorem sz234 : (ti Tryz.prog 234).size = 1 := by kernel_rfl
@[simp] theorem by234 : (ti Tryz.prog 234).bytes = 8 := by kernel_rfl
@[simp] theorem zr234 : (ti Tryz.prog 234).zero = some [.nilp] := by kernel_rfl
@[simp] theorem ds234 : (ti Tryz.prog 234).desc = some (.pointer 295) := by kernel_rfl
@[simp] theorem al234 (cs : List AV) : aload (ti Tryz.prog 234) cs = cs.head? := by kernel_rfl
@[simp] theorem sz236 : (ti Tryz.prog 236).size = 1 := by kernel_rfl
@[simp] theorem by236 : (ti Tryz.prog 236).bytes = 8 := by kernel_rfl
@[simp] theorem zr236 : (ti Tryz.prog 236).zero = some [.nilmap] := by kernel_rfl
@[simp] theorem ds236 : (ti Tryz.prog 236).desc = some (.map 90 3) := by kernel_rfl
@[simp] theorem al236 (cs : List AV) : aload (ti Tryz.prog 236) cs = cs.head? := by kernel_rfl
@[simp] theorem sz238 : (ti Tryz.prog 238).size = 4 := by kernel_rfl
@[simp] theorem by238 : (ti Tryz.prog 238).bytes = 64 := by kernel_rfl
@[simp] theorem zr238 : (ti Tryz.prog 238).zero = some [.lst (some true) [] .full, .nilmap, .lst (some true) [] .full, .int .i64 0] := by kernel_rfl
@[simp] theorem dn238 : (ti Tryz.prog 238).desc.isSome = true := by kernel_rfl
@[simp] theorem al238 (cs : List AV) : aload (ti Tryz.prog 238) cs = if 4 ≤ cs.length then some (.agg (cs.take 4)) else none := by kernel_rfl
@[simp] theorem fo238_0 : fieldOf Tryz.prog 238 0 = some (0, 178) := by kernel_rfl
@[simp] theorem fo238_1 : fieldOf Tryz.prog 238 1 = some (1, 236) := by kernel_rfl
@[simp] theorem fo238_2 : fieldOf Tryz.prog 238 2 = some (2, 45) := by kernel_rfl
@[simp] theorem fo238_3 : fieldOf Tryz.prog 238 3 = some (3, 3) := by kernel_rfl
@[simp] theorem ab238 (ps : List (Nat × AV)) : abuild Tryz.prog 238 ps = afill ([(0, 1), (1, 1), (2, 1), (3, 1)][·]?) [.lst (some true) [] .full, .nilmap, .lst (some true) [] .full, .int .i64 0] ps := by kernel_rfl
@[simp] theorem sz241 : (ti Tryz.prog 241).size = 1 := by kernel_rfl
@[simp] theorem by241 : (ti Tryz.prog 241).bytes = 24 := by kernel_rfl
@[simp] theorem zr241 : (ti Tryz.prog 241).zero = some [.lst (some true) [] .full] := by kernel_rfl
@[simp] theorem ds241 : (ti Tryz.prog 241).desc = some (.slice 253) := by kernel_rfl
@[simp] theorem al241 (cs : List AV) : aload (ti Tryz.prog 241) cs = cs.head? := by kernel_rfl
@[simp] theorem sz253 : (ti Tryz.prog 253).size = 3 := by kernel_rfl
@[simp] theorem by253 : (ti Tryz.prog 253).bytes = 40 := by kernel_rfl
@[simp] theorem zr253 : (ti Tryz.prog 253).zero = some [.int .i64 0, .int .i64 0, .lst (some true) [] .full] := by kernel_rfl
@[simp] theorem dn253 : (ti Tryz.prog 253).desc.isSome = true := by kernel_rfl
@[simp] theorem al253 (cs : List AV) : aload (ti Tryz.prog 253) cs = if 3 ≤ cs.length then some (.agg (cs.take 3)) else none := by kernel_rfl
@[simp] theorem fo253_0 : fieldOf Tryz.prog 253 0 = some (0, 3) := by kernel_rfl
@[simp] theorem fo253_1 : fieldOf Tryz.prog 253 1 = some (1, 3) := by kernel_rfl
@[simp] theorem fo253_2 : fieldOf Tryz.prog 253 2 = some (2, 45) := by kernel_rfl
@[simp] theorem ab253 (ps : List (Nat × AV)) : abuild Tryz.prog 253 ps = afill ([(0, 1), (1, 1), (2, 1)][·]?) [.int .i64 0, .int .i64 0, .lst (some true) [] .full] ps := by kernel_rfl
@[simp] theorem sz255 : (ti Tryz.prog 255).size = 1 := by kernel_rfl
@[simp] theorem by255 : (ti Tryz.prog 255).bytes = 8 := by kernel_rfl
@[simp] theorem zr255 : (ti Tryz.prog 255).zero = some [.nilp] := by kernel_rfl
@[simp] theorem ds255 : (ti Tryz.prog 255).desc = some (.pointer 257) := by kernel_rfl
@[simp] theorem al255 (cs : List AV) : aload (ti Tryz.prog 255) cs = cs.head? := by kernel_rfl
@[simp] theorem sz257 : (ti Tryz.prog 257).size = 3 := by kernel_rfl
@[simp] theorem by257 : (ti Tryz.prog 257).bytes = 56 := by kernel_rfl
@[simp] theorem zr257 : (ti Tryz.prog 257).zero = some [.int .i64 0, .lst (some true) [] .full, .lst (some true) [] .full] := by kernel_rfl
@[simp] theorem dn257 : (ti Tryz.prog 257).desc.isSome = true := by kernel_rfl
@[simp] theorem al257 (cs : List AV) : aload (ti Tryz.prog 257) cs = if 3 ≤ cs.length then some (.agg (cs.take 3)) else none := by kernel_rfl
@[simp] theorem fo257_0 : fieldOf Tryz.prog 257 0 = some (0, 3) := by kernel_rfl
@[simp] theorem fo257_1 : fieldOf Tryz.prog 257 1 = some (1, 45) := by kernel_rfl
@[simp] theorem fo257_2 : fieldOf Tryz.prog 257 2 = some (2, 22) := by kernel_rfl
@[simp] theorem ab257 (ps : List (Nat × AV)) : abuild Tryz.prog 257 ps = afill ([(0, 1), (1, 1), (2, 1)][·]?) [.int .i64 0, .lst (some true) [] .full, .lst (some true) [] .full] ps := by kernel_rfl
@[simp] theorem sz272 : (ti Tryz.prog 272).size = 3 := by kernel_rfl
@[simp] theorem by272 : (ti Tryz.prog 272).bytes = 40 := by kernel_rfl
@[simp] theorem zr272 : (ti Tryz.prog 272).zero = some [.int .i64 0, .int .i64 0, .lst (some true) [] .full] := by kernel_rfl
@[simp] theorem dn272 : (ti Tryz.prog 272).desc.isSome = true := by kernel_rfl
@[simp] theorem al272 (cs : List AV) : aload (ti Tryz.prog 272) cs = if 3 ≤ cs.length then some (.agg (cs.take 3)) else none := by kernel_rfl
@[simp] theorem fo272_0 : fieldOf Tryz.prog 272 0 = some (0, 3) := by kernel_rfl
@[simp] theorem fo272_1 : fieldOf Tryz.prog 272 1 = some (1, 3) := by kernel_rfl
@[simp] theorem fo272_2 : fieldOf Tryz.prog 272 2 = some (2, 70) := by kernel_rfl
@[simp] theorem ab272 (ps : List (Nat × AV)) : abuild Tryz.prog 272 ps = afill ([(0, 1), (1, 1), (2, 1)][·]?) [.int .i64 0, .int .i64 0, .lst (some true) [] .full] ps := by kernel_rfl
@[simp] theorem sz276 : (ti Tryz.prog 276).size = 1 := by kernel_rfl
@[simp] theorem by276 : (ti Tryz.prog 276).bytes = 24 := by kernel_rfl
@[simp] theorem zr276 : (ti Tryz.prog 276).zero = some [.lst (some true) [] .full] := by kernel_rfl
@[simp] theorem ds276 : (ti Tryz.prog 276).desc = some (.slice 282) := by kernel_rfl
@[simp] theorem al276 (cs : List AV) : aload (ti Tryz.prog 276) cs = cs.head? := by kernel_rfl
@[simp] theorem sz277 : (ti Tryz.prog 277).size = 1 := by kernel_rfl
@[simp] theorem by277 : (ti Tryz.prog 277).bytes = 24 := by kernel_rfl
@[simp] theorem zr277 : (ti Tryz.prog 277).zero = some [.lst (some true) [] .full] := by kernel_rfl
@[simp] theorem ds277 : (ti Tryz.prog 277).desc = some (.slice 286) := by kernel_rfl
@[simp] theorem al277 (cs : List AV) : aload (ti Tryz.prog 277) cs = cs.head? := by kernel_rfl
@[simp] theorem sz279 : (ti Tryz.prog 279).size = 11 := by kernel_rfl
@[simp] theorem by279 : (ti Tryz.prog 279).bytes = 64 := by kernel_rfl
@[simp] theorem zr279 : (ti Tryz.prog 279).zero = some [.bool false, .bool false, .bool false, .bool false, .bool false, .bool false, .bool false, .bool false, .lst (some true) [] .full, .lst (some true) [] .full, .int .i64 0] := by kernel_rfl
@[simp] theorem dn279 : (ti Tryz.prog 279).desc.isSome = true := by kernel_rfl
@[simp] theorem al279 (cs : List AV) : aload (ti Tryz.prog 279) cs = if 11 ≤ cs.length then some (.agg (cs.take 11)) else none := by kernel_rfl
@[simp] theorem fo279_0 : fieldOf Tryz.prog 279 0 = some (0, 4) := by kernel_rfl
@[simp] theorem fo279_1 : fieldOf Tryz.prog 279 1 = some (1, 4) := by kernel_rfl
@[simp] theorem fo279_2 : fieldOf Tryz.prog 279 2 = some (2, 4) := by kernel_rfl
@[simp] theorem fo279_3 : fieldOf Tryz.prog 279 3 = some (3, 44) := by kernel_rfl
@[simp] theorem fo279_4 : fieldOf Tryz.prog 279 4 = some (8, 276) := by kernel_rfl
@[simp] theorem fo279_5 : fieldOf Tryz.prog 279 5 = some (9, 277) := by kernel_rfl
@[simp] theorem fo279_6 : fieldOf Tryz.prog 279 6 = some (10, 3) := by kernel_rfl
@[simp] theorem ab279 (ps : List (Nat × AV)) : abuild Tryz.prog 279 ps = afill ([(0, 1), (1, 1), (2, 1), (3, 5), (8, 1), (9, 1), (10, 1)][·]?) [.bool false, .bool false, .bool false, .bool false, .bool false, .bool false, .bool false, .bool false, .lst (some true) [] .full, .lst (some true) [] .full, .int .i64 0] ps := by kernel_rfl
@[simp] theorem sz280 : (ti Tryz.prog 280).size = 1 := by kernel_rfl
@[simp] theorem by280 : (ti Tryz.prog 280).bytes = 8 := by kernel_rfl
@[simp] theorem zr280 : (ti Tryz.prog 280).zero = some [.nilp] := by kernel_rfl
@[simp] theorem ds280 : (ti Tryz.prog 280).desc = some (.pointer 344) := by kernel_rfl
@[simp] theorem al280 (cs : List AV) : aload (ti Tryz.prog 280) cs = cs.head? := by kernel_rfl
@[simp] theorem sz282 : (ti Tryz.prog 282).size = 3 := by kernel_rfl
@[simp] theorem by282 : (ti Tryz.prog 282).bytes = 24 := by kernel_rfl
@[simp] theorem zr282 : (ti Tryz.prog 282).zero = some [.int .i64 0, .nilp, .nilp] := by kernel_rfl
@[simp] theorem dn282 : (ti Tryz.prog 282).desc.isSome = true := by kernel_rfl
@[simp] theorem al282 (cs : List AV) : aload (ti Tryz.prog 282) cs = if 3 ≤ cs.length then some (.agg (cs.take 3)) else none := by kernel_rfl
@[simp] theorem fo282_0 : fieldOf Tryz.prog 282 0 = some (0, 3) := by kernel_rfl
@[simp] theorem fo282_1 : fieldOf Tryz.prog 282 1 = some (1, 280) := by kernel_rfl
@[simp] theorem fo282_2 : fieldOf Tryz.prog 282 2 = some (2, 280) := by kernel_rfl
@[simp] theorem ab282 (ps : List (Nat × AV)) : abuild Tryz.prog 282 ps = afill ([(0, 1), (1, 1), (2, 1)][·]?) [.int .i64 0, .nilp, .nilp] ps := by kernel_rfl
@[simp] theorem sz286 : (ti Tryz.prog 286).size = 10 := by kernel_rfl
@[simp] theorem by286 : (ti Tryz.prog 286).bytes = 80 := by kernel_rfl
@[simp] theorem zr286 : (ti Tryz.prog 286).zero = some [.int .i64 0, .int .i64 0, .int .i64 0, .bool false, .int .i64 0, .int .i64 0, .int .i64 0, .int .i64 0, .int .i64 0, .int .i64 0] := by kernel_rfl
@[simp] theorem dn286 : (ti Tryz.prog 286).desc.isSome = true := by kernel_rfl
@[simp] theorem al286 (cs : List AV) : aload (ti Tryz.prog 286) cs = if 10 ≤ cs.length then some (.agg (cs.take 10)) else none := by kernel_rfl
@[simp] theorem fo286_0 : fieldOf Tryz.prog 286 0 = some (0, 3) := by kernel_rfl
@[simp] theorem fo286_1 : fieldOf Tryz.prog 286 1 = some (1, 3) := by kernel_rfl
@[simp] theorem fo286_2 : fieldOf Tryz.prog 286 2 = some (2, 3) := by kernel_rfl
@[simp] theorem fo286_3 : fieldOf Tryz.prog 286 3 = some (3, 4) := by kernel_rfl
@[simp] theorem fo286_4 : fieldOf Tryz.prog 286 4 = some (4, 3) := by kernel_rfl
@[simp] theorem fo286_5 : fieldOf Tryz.prog 286 5 = some (5, 3) := by kernel_rfl
@[simp] theorem fo286_6 : fieldOf Tryz.prog 286 6 = some (6, 3) := by kernel_rfl
@[simp] theorem fo286_7 : fieldOf Tryz.prog 286 7 = some (7, 3) := by kernel_rfl
@[simp] theorem fo286_8 : fieldOf Tryz.prog 286 8 = some (8, 3) := by kernel_rfl
@[simp] theorem fo286_9 : fieldOf Tryz.prog 286 9 = some (9, 3) := by kernel_rfl
@[simp] theorem ab286 (ps : List (Nat × AV)) : abuild Tryz.prog 286 ps = afill ([(0, 1), (1, 1), (2, 1), (3, 1), (4, 1), (5, 1), (6, 1), (7, 1), (8, 1), (9, 1)][·]?) [.int .i64 0, .int .i64 0, .int .i64 0, .bool false, .int .i64 0, .int .i64 0, .int .i64 0, .int .i64 0, .int .i64 0, .int .i64 0] ps := by kernel_rfl
@[simp] theorem sz287 : (ti Tryz.prog 287).size = 1 := by kernel_rfl
@[simp] theorem by287 : (ti Tryz.prog 287).bytes = 24 := by kernel_rfl
@[simp] theorem zr287 : (ti Tryz.prog 287).zero = some [.lst (some true) [] .full] := by kernel_rfl
@[simp] theorem ds287 : (ti Tryz.prog 287).desc = some (.slice 290) := by kernel_rfl
@[simp] theorem al287 (cs : List AV) : aload (ti Tryz.prog 287) cs = cs.head? := by kernel_rfl
@[simp] theorem sz290 : (ti Tryz.prog 290).size = 6 := by kernel_rfl
@[simp] theorem by290 : (ti Tryz.prog 290).bytes = 48 := by kernel_rfl
@[simp] theorem zr290 : (ti Tryz.prog 290).zero = some [.int .i64 0, .int .i64 0, .int .i64 0, .int .i64 0, .int .i64 0, .int .i64 0] := by kernel_rfl
@[simp] theorem dn290 : (ti Tryz.prog 290).desc.isSome = true := by kernel_rfl
@[simp] theorem al290 (cs : List AV) : aload (ti Tryz.prog 290) cs = if 6 ≤ cs.length then some (.agg (cs.take 6)) else none := by kernel_rfl
@[simp] theorem fo290_0 : fieldOf Tryz.prog 290 0 = some (0, 90) := by kernel_rfl
@[simp] theorem fo290_1 : fieldOf Tryz.prog 290 1 = some (4, 110) := by kernel_rfl
@[simp] theorem ab290 (ps : List (Nat × AV)) : abuild Tryz.prog 290 ps = afill ([(0, 4), (4, 2)][·]?) [.int .i64 0, .int .i64 0, .int .i64 0, .int .i64 0, .int .i64 0, .int .i64 0] ps := by kernel_rfl
@[simp] theorem sz292 : (ti Tryz.prog 292).size = 1 := by kernel_rfl
@[simp] theorem by292 : (ti Tryz.prog 292).bytes = 8 := by kernel_rfl
@[simp] theorem zr292 : (ti Tryz.prog 292).zero = some [.int .i64 0] := by kernel_rfl
@[simp] theorem dn292 : (ti Tryz.prog 292).desc.isSome = true := by kernel_rfl
@[simp] theorem al292 (cs : List AV) : aload (ti Tryz.prog 292) cs = if 1 ≤ cs.length then some (.agg (cs.take 1)) else none := by kernel_rfl
@[simp] theorem fo292_0 : fieldOf Tryz.prog 292 0 = some (0, 25) := by kernel_rfl
@[simp] theorem ab292 (ps : List (Nat × AV)) : abuild Tryz.prog 292 ps = afill ([(0, 1)][·]?) [.int .i64 0] ps := by kernel_rfl
@[simp] theorem sz295 : (ti Tryz.prog 295).size = 2 := by kernel_rfl
@[simp] theorem by295 : (ti Tryz.prog 295).bytes = 32 := by kernel_rfl
@[simp] theorem zr295 : (ti Tryz.prog 295).zero = some [.lst (some true) [] .full, .int .i64 0] := by kernel_rfl
@[simp] theorem dn295 : (ti Tryz.prog 295).desc.isSome = true := by kernel_rfl
@[simp] theorem al295 (cs : List AV) : aload (ti Tryz.prog 295) cs = if 2 ≤ cs.length then some (.agg (cs.take 2)) else none := by kernel_rfl
@[simp] theorem fo295_0 : fieldOf Tryz.prog 295 0 = some (0, 22) := by kernel_rfl
@[simp] theorem fo295_1 : fieldOf Tryz.prog 295 1 = some (1, 3) := by kernel_rfl
@[simp] theorem ab295 (ps : List (Nat × AV)) : abuild Tryz.prog 295 ps = afill ([(0, 1), (1, 1)][·]?) [.lst (some true) [] .full, .int .i64 0] ps := by kernel_rfl
@[simp] theorem sz296 : (ti Tryz.prog 296).size = 1 := by kernel_rfl
@[simp] theorem by296 : (ti Tryz.prog 296).bytes = 24 := by kernel_rfl
@[simp] theorem zr296 : (ti Tryz.prog 296).zero = some [.lst (some true) [] .full] := by kernel_rfl
@[simp] theorem ds296 : (ti Tryz.prog 296).desc = some (.slice 385) := by kernel_rfl
@[simp] theorem al296 (cs : List AV) : aload (ti Tryz.prog 296) cs = cs.head? := by kernel_rfl
@[simp] theorem sz300 : (ti Tryz.prog 300).size = 2 := by kernel_rfl
@[simp] theorem by300 : (ti Tryz.prog 300).bytes = 16 := by kernel_rfl
@[simp] theorem zr300 : (ti Tryz.prog 300).zero = some [.int .i64 0, .int .i64 0] := by kernel_rfl
@[simp] theorem dn300 : (ti Tryz.prog 300).desc.isSome = true := by kernel_rfl
@[simp] theorem al300 (cs : List AV) : aload (ti Tryz.prog 300) cs = if 2 ≤ cs.length then some (.agg (cs.take 2)) else none := by kernel_rfl
@[simp] theorem fo300_0 : fieldOf Tryz.prog 300 0 = some (0, 3) := by kernel_rfl
@[simp] theorem fo300_1 : fieldOf Tryz.prog 300 1 = some (1, 3) := by kernel_rfl
@[simp] theorem ab300 (ps : List (Nat × AV)) : abuild Tryz.prog 300 ps = afill ([(0, 1), (1, 1)][·]?) [.int .i64 0, .int .i64 0] ps := by kernel_rfl
@[simp] theorem sz307 : (ti Tryz.prog 307).size = 1 := by kernel_rfl
@[simp] theorem by307 : (ti Tryz.prog 307).bytes = 8 := by kernel_rfl
@[simp] theorem zr307 : (ti Tryz.prog 307).zero = some [.int .i64 0] := by kernel_rfl
@[simp] theorem ds307 : (ti Tryz.prog 307).desc = some (.int .i64) := by kernel_rfl
@[simp] theorem al307 (cs : List AV) : aload (ti Tryz.prog 307) cs = cs.head? := by kernel_rfl
@[simp] theorem sz310 : (ti Tryz.prog 310).size = 16 := by kernel_rfl
@[simp] theorem by310 : (ti Tryz.prog 310).bytes = 128 := by kernel_rfl
@[simp] theorem zr310 : (ti Tryz.prog 310).zero = some [.int .i64 0, .int .i64 0, .int .i64 0, .int .i64 0, .int .i64 0, .int .i64 0, .int .i64 0, .int .i64 0, .int .i64 0, .int .i64 0, .int .i64 0, .int .i64 0, .int .i64 0, .int .i64 0, .int .i64 0, .int .i64 0] := by kernel_rfl
@[simp] theorem ds310 : (ti Tryz.prog 310).desc = some (.array 4 31) := by kernel_rfl
@[simp] theorem al310 (cs : List AV) : aload (ti Tryz.prog 310) cs = if 16 ≤ cs.length then some (.agg (cs.take 16)) else none := by kernel_rfl
@[simp] theorem ab310 (ps : List (Nat × AV)) : abuild Tryz.prog 310 ps = afill (fun i => some (i * 4, 4)) [.int .i64 0, .int .i64 0, .int .i64 0, .int .i64 0, .int .i64 0, .int .i64 0, .int .i64 0, .int .i64 0, .int .i64 0, .int .i64 0, .int .i64 0, .int .i64 0, .int .i64 0, .int .i64 0, .int .i64 0, .int .i64 0] ps := by kernel_rfl
@[simp] theorem sz317 : (ti Tryz.prog 317).size = 1 := by kernel_rfl
@[simp] theorem by317 : (ti Tryz.prog 317).bytes = 24 := by kernel_rfl
@[simp] theorem zr317 : (ti Tryz.prog 317).zero = some [.lst (some true) [] .full] := by kernel_rfl
@[simp] theorem ds317 : (ti Tryz.prog 317).desc = some (.slice 321) := by kernel_rfl
@[simp] theorem al317 (cs : List AV) : aload (ti Tryz.prog 317) cs = cs.head? := by kernel_rfl
@[simp] theorem sz318 : (ti Tryz.prog 318).size = 1 := by kernel_rfl
@[simp] theorem by318 : (ti Tryz.prog 318).bytes = 24 := by kernel_rfl
@[simp] theorem zr318 : (ti Tryz.prog 318).zero = some [.lst (some true) [] .full] := by kernel_rfl
@[simp] theorem ds318 : (ti Tryz.prog 318).desc = some (.slice 325) := by kernel_rfl
@[simp] theorem al318 (cs : List AV) : aload (ti Tryz.prog 318) cs = cs.head? := by kernel_rfl
@[simp] theorem sz320 : (ti Tryz.prog 320).size = 15 := by kernel_rfl
@[simp] theorem by320 : (ti Tryz.prog 320).bytes = 176 := by kernel_rfl
@[simp] theorem zr320 : (ti Tryz.prog 320).zero = some [.bool false, .lst (some true) [] .full, .bool false, .bool false, .bool false, .bool false, .bool false, .lst (some true) [] .full, .lst (some true) [] .full, .lst (some true) [] .full, .int .i64 0, .bool false, .bool false, .lst (some true) [] .full, .lst (some true) [] .full] := by kernel_rfl
@[simp] theorem dn320 : (ti Tryz.prog 320).desc.isSome = true := by kernel_rfl
@[simp] theorem al320 (cs : List AV) : aload (ti Tryz.prog 320) cs = if 15 ≤ cs.length then some (.agg (cs.take 15)) else none := by kernel_rfl
@[simp] theorem fo320_0 : fieldOf Tryz.prog 320 0 = some (0, 4) := by kernel_rfl
@[simp] theorem fo320_1 : fieldOf Tryz.prog 320 1 = some (1, 45) := by kernel_rfl
@[simp] theorem fo320_2 : fieldOf Tryz.prog 320 2 = some (2, 44) := by kernel_rfl
@[simp] theorem fo320_3 : fieldOf Tryz.prog 320 3 = some (7, 317) := by kernel_rfl
@[simp] theorem fo320_4 : fieldOf Tryz.prog 320 4 = some (8, 317) := by kernel_rfl
@[simp] theorem fo320_5 : fieldOf Tryz.prog 320 5 = some (9, 318) := by kernel_rfl
@[simp] theorem fo320_6 : fieldOf Tryz.prog 320 6 = some (10, 3) := by kernel_rfl
@[simp] theorem fo320_7 : fieldOf Tryz.prog 320 7 = some (11, 4) := by kernel_rfl
@[simp] theorem fo320_8 : fieldOf Tryz.prog 320 8 = some (12, 4) := by kernel_rfl
@[simp] theorem fo320_9 : fieldOf Tryz.prog 320 9 = some (13, 45) := by kernel_rfl
@[simp] theorem fo320_10 : fieldOf Tryz.prog 320 10 = some (14, 45) := by kernel_rfl
@[simp] theorem ab320 (ps : List (Nat × AV)) : abuild Tryz.prog 320 ps = afill ([(0, 1), (1, 1), (2, 5), (7, 1), (8, 1), (9, 1), (10, 1), (11, 1), (12, 1), (13, 1), (14, 1)][·]?) [.bool false, .lst (some true) [] .full, .bool false, .bool false, .bool false, .bool false, .bool false, .lst (some true) [] .full, .lst (some true) [] .full, .lst (some true) [] .full, .int .i64 0, .bool false, .bool false, .lst (some true) [] .full, .lst (some true) [] .full] ps := by kernel_rfl
@[simp] theorem sz321 : (ti Tryz.prog 321).size = 1 := by kernel_rfl
@[simp] theorem by321 : (ti Tryz.prog 321).bytes = 8 := by kernel_rfl
@[simp] theorem zr321 : (ti Tryz.prog 321).zero = some [.nilp] := by kernel_rfl
@[simp] theorem ds321 : (ti Tryz.prog 321).desc = some (.pointer 369) := by kernel_rfl
@[simp] theorem al321 (cs : List AV) : aload (ti Tryz.prog 321) cs = cs.head? := by kernel_rfl
@[simp] theorem sz325 : (ti Tryz.prog 325).size = 8 := by kernel_rfl
@[simp] theorem by325 : (ti Tryz.prog 325).bytes = 64 := by kernel_rfl
@[simp] theorem zr325 : (ti Tryz.prog 325).zero = some [.int .i64 0, .int .i64 0, .int .i64 0, .bool false, .int .i64 0, .int .i64 0, .int .i64 0, .int .i64 0] := by kernel_rfl
@[simp] theorem dn325 : (ti Tryz.prog 325).desc.isSome = true := by kernel_rfl
@[simp] theorem al325 (cs : List AV) : aload (ti Tryz.prog 325) cs = if 8 ≤ cs.length then some (.agg (cs.take 8)) else none := by kernel_rfl
@[simp] theorem fo325_0 : fieldOf Tryz.prog 325 0 = some (0, 3) := by kernel_rfl
@[simp] theorem fo325_1 : fieldOf Tryz.prog 325 1 = some (1, 3) := by kernel_rfl
@[simp] theorem fo325_2 : fieldOf Tryz.prog 325 2 = some (2, 3) := by kernel_rfl
@[simp] theorem fo325_3 : fieldOf Tryz.prog 325 3 = some (3, 4) := by kernel_rfl
@[simp] theorem fo325_4 : fieldOf Tryz.prog 325 4 = some (4, 3) := by kernel_rfl
@[simp] theorem fo325_5 : fieldOf Tryz.prog 325 5 = some (5, 3) := by kernel_rfl
@[simp] theorem fo325_6 : fieldOf Tryz.prog 325 6 = some (6, 3) := by kernel_rfl
@[simp] theorem fo325_7 : fieldOf Tryz.prog 325 7 = some (7, 3) := by kernel_rfl
@[simp] theorem ab325 (ps : List (Nat × AV)) : abuild Tryz.prog 325 ps = afill ([(0, 1), (1, 1), (2, 1), (3, 1), (4, 1), (5, 1), (6, 1), (7, 1)][·]?) [.int .i64 0, .int .i64 0, .int .i64 0, .bool false, .int .i64 0, .int .i64 0, .int .i64 0, .int .i64 0] ps := by kernel_rfl
@[simp] theorem sz326 : (ti Tryz.prog 326).size = 1 := by kernel_rfl
@[simp] theorem by326 : (ti Tryz.prog 326).bytes = 24 := by kernel_rfl
@[simp] theorem zr326 : (ti Tryz.prog 326).zero = some [.lst (some true) [] .full] := by kernel_rfl
@[simp] theorem ds326 : (ti Tryz.prog 326).desc = some (.slice 331) := by kernel_rfl
@[simp] theorem al326 (cs : List AV) : aload (ti Tryz.prog 326) cs = cs.head? := by kernel_rfl
@[simp] theorem sz329 : (ti Tryz.prog 329).size = 6 := by kernel_rfl
@[simp] theorem by329 : (ti Tryz.prog 329).bytes = 48 := by kernel_rfl
@[simp] theorem zr329 : (ti Tryz.prog 329).zero = some [.int .i64 0, .int .i64 0, .int .i64 0, .int .i64 0, .int .i64 0, .int .i64 0] := by kernel_rfl
@[simp] theorem ds329 : (ti Tryz.prog 329).desc = some (.array 6 3) := by kernel_rfl
@[simp] theorem al329 (cs : List AV) : aload (ti Tryz.prog 329) cs = if 6 ≤ cs.length then some (.agg (cs.take 6)) else none := by kernel_rfl
@[simp] theorem ab329 (ps : List (Nat × AV)) : abuild Tryz.prog 329 ps = afill (fun i => some (i * 1, 1)) [.int .i64 0, .int .i64 0, .int .i64 0, .int .i64 0, .int .i64 0, .int .i64 0] ps := by kernel_rfl
@[simp] theorem sz331 : (ti Tryz.prog 331).size = 10 := by kernel_rfl
@[simp] theorem by331 : (ti Tryz.prog 331).bytes = 80 := by kernel_rfl
@[simp] theorem zr331 : (ti Tryz.prog 331).zero = some [.int .i64 0, .int .i64 0, .int .i64 0, .int .i64 0, .int .i64 0, .int .i64 0, .int .i64 0, .int .i64 0, .int .i64 0, .int .i64 0] := by kernel_rfl
@[simp] theorem dn331 : (ti Tryz.prog 331).desc.isSome = true := by kernel_rfl
@[simp] theorem al331 (cs : List AV) : aload (ti Tryz.prog 331) cs = if 10 ≤ cs.length then some (.agg (cs.take 10)) else none := by kernel_rfl
@[simp] theorem fo331_0 : fieldOf Tryz.prog 331 0 = some (0, 90) := by kernel_rfl
@[simp] theorem fo331_1 : fieldOf Tryz.prog 331 1 = some (4, 329) := by kernel_rfl
@[simp] theorem ab331 (ps : List (Nat × AV)) : abuild Tryz.prog 331 ps = afill ([(0, 4), (4, 6)][·]?) [.int .i64 0, .int .i64 0, .int .i64 0, .int .i64 0, .int .i64 0, .int .i64 0, .int .i64 0, .int .i64 0, .int .i64 0, .int .i64 0] ps := by kernel_rfl
@[simp] theorem sz340 : (ti Tryz.prog 340).size = 1 := by kernel_rfl
@[simp] theorem by340 : (ti Tryz.prog 340).bytes = 8 := by kernel_rfl
@[simp] theorem zr340 : (ti Tryz.prog 340).zero = some [.int .u64 0] := by kernel_rfl
@[simp] theorem ds340 : (ti Tryz.prog 340).desc = some (.int .u64) := by kernel_rfl
@[simp] theorem al340 (cs : List AV) : aload (ti Tryz.prog 340) cs = cs.head? := by kernel_rfl
@[simp] theorem sz342 : (ti Tryz.prog 342).size = 1 := by kernel_rfl
@[simp] theorem by342 : (ti Tryz.prog 342).bytes = 24 := by kernel_rfl
@[simp] theorem zr342 : (ti Tryz.prog 342).zero = some [.lst (some true) [] .full] := by kernel_rfl
@[simp] theorem ds342 : (ti Tryz.prog 342).desc = some (.slice 347) := by kernel_rfl
@[simp] theorem al342 (cs : List AV) : aload (ti Tryz.prog 342) cs = cs.head? := by kernel_rfl
@[simp] theorem sz344 : (ti Tryz.prog 344).size = 3 := by kernel_rfl
@[simp] theorem by344 : (ti Tryz.prog 344).bytes = 32 := by kernel_rfl
@[simp] theorem zr344 : (ti Tryz.prog 344).zero = some [.lst (some true) [] .full, .bool false, .bool false] := by kernel_rfl
@[simp] theorem dn344 : (ti Tryz.prog 344).desc.isSome = true := by kernel_rfl
@[simp] theorem al344 (cs : List AV) : aload (ti Tryz.prog 344) cs = if 3 ≤ cs.length then some (.agg (cs.take 3)) else none := by kernel_rfl
@[simp] theorem fo344_0 : fieldOf Tryz.prog 344 0 = some (0, 342) := by kernel_rfl
@[simp] theorem fo344_1 : fieldOf Tryz.prog 344 1 = some (1, 4) := by kernel_rfl
@[simp] theorem fo344_2 : fieldOf Tryz.prog 344 2 = some (2, 4) := by kernel_rfl
@[simp] theorem ab344 (ps : List (Nat × AV)) : abuild Tryz.prog 344 ps = afill ([(0, 1), (1, 1), (2, 1)][·]?) [.lst (some true) [] .full, .bool false, .bool false] ps := by kernel_rfl
@[simp] theorem sz345 : (ti Tryz.prog 345).size = 1 := by kernel_rfl
@[simp] theorem by345 : (ti Tryz.prog 345).bytes = 24 := by kernel_rfl
@[simp] theorem zr345 : (ti Tryz.prog 345).zero = some [.lst (some true) [] .full] := by kernel_rfl
@[simp] theorem ds345 : (ti Tryz.prog 345).desc = some (.slice 432) := by kernel_rfl
@[simp] theorem al345 (cs : List AV) : aload (ti Tryz.prog 345) cs = cs.head? := by kernel_rfl
@[simp] theorem sz347 : (ti Tryz.prog 347).size = 3 := by kernel_rfl
@[simp] theorem by347 : (ti Tryz.prog 347).bytes = 40 := by kernel_rfl
@[simp] theorem zr347 : (ti Tryz.prog 347).zero = some [.int .i64 0, .int .i64 0, .lst (some true) [] .full] := by kernel_rfl
@[simp] theorem dn347 : (ti Tryz.prog 347).desc.isSome = true := by kernel_rfl
@[simp] theorem al347 (cs : List AV) : aload (ti Tryz.prog 347) cs = if 3 ≤ cs.length then some (.agg (cs.take 3)) else none := by kernel_rfl
@[simp] theorem fo347_0 : fieldOf Tryz.prog 347 0 = some (0, 3) := by kernel_rfl
@[simp] theorem fo347_1 : fieldOf Tryz.prog 347 1 = some (1, 3) := by kernel_rfl
@[simp] theorem fo347_2 : fieldOf Tryz.prog 347 2 = some (2, 345) := by kernel_rfl
@[simp] theorem ab347 (ps : List (Nat × AV)) : abuild Tryz.prog 347 ps = afill ([(0, 1), (1, 1), (2, 1)][·]?) [.int .i64 0, .int .i64 0, .lst (some true) [] .full] ps := by kernel_rfl
@[simp] theorem sz358 : (ti Tryz.prog 358).size = 1 := by kernel_rfl
@[simp] theorem by358 : (ti Tryz.prog 358).bytes = 8 := by kernel_rfl
@[simp] theorem zr358 : (ti Tryz.prog 358).zero = some [.nilp] := by kernel_rfl
@[simp] theorem ds358 : (ti Tryz.prog 358).desc = some (.pointer 396) := by kernel_rfl
@[simp] theorem al358 (cs : List AV) : aload (ti Tryz.prog 358) cs = cs.head? := by kernel_rfl
@[simp] theorem sz364 : (ti Tryz.prog 364).size = 1 := by kernel_rfl
@[simp] theorem by364 : (ti Tryz.prog 364).bytes = 24 := by kernel_rfl
@[simp] theorem zr364 : (ti Tryz.prog 364).zero = some [.lst (some true) [] .full] := by kernel_rfl
@[simp] theorem ds364 : (ti Tryz.prog 364).desc = some (.slice 4) := by kernel_rfl
@[simp] theorem al364 (cs : List AV) : aload (ti Tryz.prog 364) cs = cs.head? := by kernel_rfl
@[simp] theorem sz367 : (ti Tryz.prog 367).size = 1 := by kernel_rfl
@[simp] theorem by367 : (ti Tryz.prog 367).bytes = 24 := by kernel_rfl
@[simp] theorem zr367 : (ti Tryz.prog 367).zero = some [.lst (some true) [] .full] := by kernel_rfl
@[simp] theorem ds367 : (ti Tryz.prog 367).desc = some (.slice 444) := by kernel_rfl
@[simp] theorem al367 (cs : List AV) : aload (ti Tryz.prog 367) cs = cs.head? := by kernel_rfl
@[simp] theorem sz369 : (ti Tryz.prog 369).size = 6 := by kernel_rfl
@[simp] theorem by369 : (ti Tryz.prog 369).bytes = 56 := by kernel_rfl
@[simp] theorem zr369 : (ti Tryz.prog 369).zero = some [.bool false, .int .i64 0, .int .i64 0, .lst (some true) [] .full, .bool false, .bool false] := by kernel_rfl
@[simp] theorem dn369 : (ti Tryz.prog 369).desc.isSome = true := by kernel_rfl
@[simp] theorem al369 (cs : List AV) : aload (ti Tryz.prog 369) cs = if 6 ≤ cs.length then some (.agg (cs.take 6)) else none := by kernel_rfl
@[simp] theorem fo369_0 : fieldOf Tryz.prog 369 0 = some (0, 4) := by kernel_rfl
@[simp] theorem fo369_1 : fieldOf Tryz.prog 369 1 = some (1, 3) := by kernel_rfl
@[simp] theorem fo369_2 : fieldOf Tryz.prog 369 2 = some (2, 3) := by kernel_rfl
@[simp] theorem fo369_3 : fieldOf Tryz.prog 369 3 = some (3, 367) := by kernel_rfl
@[simp] theorem fo369_4 : fieldOf Tryz.prog 369 4 = some (4, 4) := by kernel_rfl
@[simp] theorem fo369_5 : fieldOf Tryz.prog 369 5 = some (5, 4) := by kernel_rfl
@[simp] theorem ab369 (ps : List (Nat × AV)) : abuild Tryz.prog 369 ps = afill ([(0, 1), (1, 1), (2, 1), (3, 1), (4, 1), (5, 1)][·]?) [.bool false, .int .i64 0, .int .i64 0, .lst (some true) [] .full, .bool false, .bool false] ps := by kernel_rfl
@[simp] theorem sz385 : (ti Tryz.prog 385).size = 9 := by kernel_rfl
@[simp] theorem by385 : (ti Tryz.prog 385).bytes = 72 := by kernel_rfl
@[simp] theorem zr385 : (ti Tryz.prog 385).zero = some [.int .i64 0, .int .i64 0, .int .i64 0, .int .i64 0, .int .i64 0, .int .i64 0, .int .i64 0, .int .i64 0, .int .i64 0] := by kernel_rfl
@[simp] theorem dn385 : (ti Tryz.prog 385).desc.isSome = true := by kernel_rfl
@[simp] theorem al385 (cs : List AV) : aload (ti Tryz.prog 385) cs = if 9 ≤ cs.length then some (.agg (cs.take 9)) else none := by kernel_rfl
@[simp] theorem fo385_0 : fieldOf Tryz.prog 385 0 = some (0, 3) := by kernel_rfl
@[simp] theorem fo385_1 : fieldOf Tryz.prog 385 1 = some (1, 3) := by kernel_rfl
@[simp] theorem fo385_2 : fieldOf Tryz.prog 385 2 = some (2, 3) := by kernel_rfl
@[simp] theorem fo385_3 : fieldOf Tryz.prog 385 3 = some (3, 3) := by kernel_rfl
@[simp] theorem fo385_4 : fieldOf Tryz.prog 385 4 = some (4, 3) := by kernel_rfl
@[simp] theorem fo385_5 : fieldOf Tryz.prog 385 5 = some (5, 31) := by kernel_rfl
@[simp] theorem ab385 (ps : List (Nat × AV)) : abuild Tryz.prog 385 ps = afill ([(0, 1), (1, 1), (2, 1), (3, 1), (4, 1), (5, 4)][·]?) [.int .i64 0, .int .i64 0, .int .i64 0, .int .i64 0, .int .i64 0, .int .i64 0, .int .i64 0, .int .i64 0, .int .i64 0] ps := by kernel_rfl
@[simp] theorem sz387 : (ti Tryz.prog 387).size = 1 := by kernel_rfl
@[simp] theorem by387 : (ti Tryz.prog 387).bytes = 24 := by kernel_rfl
@[simp] theorem zr387 : (ti Tryz.prog 387).zero = some [.lst (some true) [] .full] := by kernel_rfl
@[simp] theorem ds387 : (ti Tryz.prog 387).desc = some (.slice 296) := by kernel_rfl
@[simp] theorem al387 (cs : List AV) : aload (ti Tryz.prog 387) cs = cs.head? := by kernel_rfl
@[simp] theorem sz390 : (ti Tryz.prog 390).size = 1 := by kernel_rfl
@[simp] theorem by390 : (ti Tryz.prog 390).bytes = 8 := by kernel_rfl
@[simp] theorem zr390 : (ti Tryz.prog 390).zero = some [.nilp] := by kernel_rfl
@[simp] theorem ds390 : (ti Tryz.prog 390).desc = some (.pointer 286) := by kernel_rfl
@[simp] theorem al390 (cs : List AV) : aload (ti Tryz.prog 390) cs = cs.head? := by kernel_rfl
@[simp] theorem sz396 : (ti Tryz.prog 396).size = 4 := by kernel_rfl
@[simp] theorem by396 : (ti Tryz.prog 396).bytes = 48 := by kernel_rfl
@[simp] theorem zr396 : (ti Tryz.prog 396).zero = some [.bool false, .lst (some true) [] .full, .int .i64 0, .int .i64 0] := by kernel_rfl
@[simp] theorem dn396 : (ti Tryz.prog 396).desc.isSome = true := by kernel_rfl
@[simp] theorem al396 (cs : List AV) : aload (ti Tryz.prog 396) cs = if 4 ≤ cs.length then some (.agg (cs.take 4)) else none := by kernel_rfl
@[simp] theorem fo396_0 : fieldOf Tryz.prog 396 0 = some (0, 4) := by kernel_rfl
@[simp] theorem fo396_1 : fieldOf Tryz.prog 396 1 = some (1, 22) := by kernel_rfl
@[simp] theorem fo396_2 : fieldOf Tryz.prog 396 2 = some (2, 3) := by kernel_rfl
@[simp] theorem fo396_3 : fieldOf Tryz.prog 396 3 = some (3, 3) := by kernel_rfl
@[simp] theorem ab396 (ps : List (Nat × AV)) : abuild Tryz.prog 396 ps = afill ([(0, 1), (1, 1), (2, 1), (3, 1)][·]?) [.bool false, .lst (some true) [] .full, .int .i64 0, .int .i64 0] ps := by kernel_rfl
@[simp] theorem sz399 : (ti Tryz.prog 399).size = 1 := by kernel_rfl
@[simp] theorem by399 : (ti Tryz.prog 399).bytes = 8 := by kernel_rfl
@[simp] theorem zr399 : (ti Tryz.prog 399).zero = some [.nilp] := by kernel_rfl
@[simp] theorem ds399 : (ti Tryz.prog 399).desc = some (.pointer 417) := by kernel_rfl
@[simp] theorem al399 (cs : List AV) : aload (ti Tryz.prog 399) cs = cs.head? := by kernel_rfl
@[simp] theorem sz403 : (ti Tryz.prog 403).size = 1 := by kernel_rfl
@[simp] theorem by403 : (ti Tryz.prog 403).bytes = 8 := by kernel_rfl
@[simp] theorem zr403 : (ti Tryz.prog 403).zero = some [.int .i64 0] := by kernel_rfl
@[simp] theorem ds403 : (ti Tryz.prog 403).desc = some (.int .i64) := by kernel_rfl
@[simp] theorem al403 (cs : List AV) : aload (ti Tryz.prog 403) cs = cs.head? := by kernel_rfl
@[simp] theorem sz410 : (ti Tryz.prog 410).size = 1 := by kernel_rfl
@[simp] theorem by410 : (ti Tryz.prog 410).bytes = 4 := by kernel_rfl
@[simp] theorem zr410 : (ti Tryz.prog 410).zero = some [.int .u32 0] := by kernel_rfl
@[simp] theorem ds410 : (ti Tryz.prog 410).desc = some (.int .u32) := by kernel_rfl
@[simp] theorem al410 (cs : List AV) : aload (ti Tryz.prog 410) cs = cs.head? := by kernel_rfl
@[simp] theorem sz417 : (ti Tryz.prog 417).size = 4 := by kernel_rfl
@[simp] theorem by417 : (ti Tryz.prog 417).bytes = 48 := by kernel_rfl
@[simp] theorem zr417 : (ti Tryz.prog 417).zero = some [.bool false, .lst (some true) [] .full, .int .i64 0, .int .i64 0] := by kernel_rfl
@[simp] theorem dn417 : (ti Tryz.prog 417).desc.isSome = true := by kernel_rfl
@[simp] theorem al417 (cs : List AV) : aload (ti Tryz.prog 417) cs = if 4 ≤ cs.length then some (.agg (cs.take 4)) else none := by kernel_rfl
@[simp] theorem fo417_0 : fieldOf Tryz.prog 417 0 = some (0, 4) := by kernel_rfl
@[simp] theorem fo417_1 : fieldOf Tryz.prog 417 1 = some (1, 22) := by kernel_rfl
@[simp] theorem fo417_2 : fieldOf Tryz.prog 417 2 = some (2, 3) := by kernel_rfl
@[simp] theorem fo417_3 : fieldOf Tryz.prog 417 3 = some (3, 3) := by kernel_rfl
@[simp] theorem ab417 (ps : List (Nat × AV)) : abuild Tryz.prog 417 ps = afill ([(0, 1), (1, 1), (2, 1), (3, 1)][·]?) [.bool false, .lst (some true) [] .full, .int .i64 0, .int .i64 0] ps := by kernel_rfl
@[simp] theorem sz424 : (ti Tryz.prog 424).size = 1 := by kernel_rfl
@[simp] theorem by424 : (ti Tryz.prog 424).bytes = 8 := by kernel_rfl
@[simp] theorem zr424 : (ti Tryz.prog 424).zero = some [.int .u64 0] := by kernel_rfl
@[simp] theorem ds424 : (ti Tryz.prog 424).desc = some (.int .u64) := by kernel_rfl
@[simp] theorem al424 (cs : List AV) : aload (ti Tryz.prog 424) cs = cs.head? := by kernel_rfl
@[simp] theorem sz428 : (ti Tryz.prog 428).size = 1 := by kernel_rfl
@[simp] theorem by428 : (ti Tryz.prog 428).bytes = 8 := by kernel_rfl
@[simp] theorem zr428 : (ti Tryz.prog 428).zero = some [.nilp] := by kernel_rfl
@[simp] theorem ds428 : (ti Tryz.prog 428).desc = some (.pointer 3) := by kernel_rfl
@[simp] theorem al428 (cs : List AV) : aload (ti Tryz.prog 428) cs = cs.head? := by kernel_rfl
@[simp] theorem sz432 : (ti Tryz.prog 432).size = 3 := by kernel_rfl
@[simp] theorem by432 : (ti Tryz.prog 432).bytes = 24 := by kernel_rfl
@[simp] theorem zr432 : (ti Tryz.prog 432).zero = some [.int .i64 0, .int .i64 0, .bool false] := by kernel_rfl
@[simp] theorem dn432 : (ti Tryz.prog 432).desc.isSome = true := by kernel_rfl
@[simp] theorem al432 (cs : List AV) : aload (ti Tryz.prog 432) cs = if 3 ≤ cs.length then some (.agg (cs.take 3)) else none := by kernel_rfl
@[simp] theorem fo432_0 : fieldOf Tryz.prog 432 0 = some (0, 3) := by kernel_rfl
@[simp] theorem fo432_1 : fieldOf Tryz.prog 432 1 = some (1, 3) := by kernel_rfl
@[simp] theorem fo432_2 : fieldOf Tryz.prog 432 2 = some (2, 4) := by kernel_rfl
@[simp] theorem ab432 (ps : List (Nat × AV)) : abuild Tryz.prog 432 ps = afill ([(0, 1), (1, 1), (2, 1)][·]?) [.int .i64 0, .int .i64 0, .bool false] ps := by kernel_rfl
@[simp] theorem sz444 : (ti Tryz.prog 444).size = 3 := by kernel_rfl
@[simp] theorem by444 : (ti Tryz.prog 444).bytes = 24 := by kernel_rfl
@[simp] theorem zr444 : (ti Tryz.prog 444).zero = some [.int .i64 0, .int .i64 0, .bool false] := by kernel_rfl
@[simp] theorem dn444 : (ti Tryz.prog 444).desc.isSome = true := by kernel_rfl
@[simp] theorem al444 (cs : List AV) : aload (ti Tryz.prog 444) cs = if 3 ≤ cs.length then some (.agg (cs.take 3)) else none := by kernel_rfl
@[simp] theorem fo444_0 : fieldOf Tryz.prog 444 0 = some (0, 3) := by kernel_rfl
@[simp] theorem fo444_1 : fieldOf Tryz.prog 444 1 = some (1, 3) := by kernel_rfl
@[simp] theorem fo444_2 : fieldOf Tryz.prog 444 2 = some (2, 4) := by kernel_rfl
@[simp] theorem ab444 (ps : List (Nat × AV)) : abuild Tryz.prog 444 ps = afill ([(0, 1), (1, 1), (2, 1)][·]?) [.int .i64 0, .int .i64 0, .bool false] ps := by kernel_rfl
@[simp] theorem ck3 : ckT Tryz.prog 3 = none := by kernel_rfl
@[simp] theorem ck4 : ckT Tryz.prog 4 = some .bool := by kernel_rfl
@[simp] theorem ck5 : ckT Tryz.prog 5 = none := by kernel_rfl
@[simp] theorem ck9 : ckT Tryz.prog 9 = none := by kernel_rfl
@[simp] theorem ck20 : ckT Tryz.prog 20 = none := by kernel_rfl
@[simp] theorem ck22 : ckT Tryz.prog 22 = some .slice := by kernel_rfl
@[simp] theorem ck25 : ckT Tryz.prog 25 = none := by kernel_rfl
@[simp] theorem ck31 : ckT Tryz.prog 31 = none := by kernel_rfl
@[simp] theorem eo31 : eqOk Tryz.prog 31 = some [(0, .int), (1, .int), (2, .int), (3, .int)] := by kernel_rfl
@[simp] theorem ck32 : ckT Tryz.prog 32 = some .slice := by kernel_rfl
@[simp] theorem ck34 : ckT Tryz.prog 34 = none := by kernel_rfl
@[simp] theorem ck39 : ckT Tryz.prog 39 = none := by kernel_rfl
@[simp] theorem ck40 : ckT Tryz.prog 40 = none := by kernel_rfl
@[simp] theorem ck41 : ckT Tryz.prog 41 = some .slice := by kernel_rfl
@[simp] theorem ck42 : ckT Tryz.prog 42 = none := by kernel_rfl
@[simp] theorem ck44 : ckT Tryz.prog 44 = none := by kernel_rfl
@[simp] theorem eo44 : eqOk Tryz.prog 44 = some [(0, .bool), (1, .bool), (2, .bool), (3, .bool), (4, .bool)] := by kernel_rfl
@[simp] theorem ck45 : ckT Tryz.prog 45 = some .slice := by kernel_rfl
@[simp] theorem ck47 : ckT Tryz.prog 47 = none := by kernel_rfl
@[simp] theorem ck51 : ckT Tryz.prog 51 = some .slice := by kernel_rfl
@[simp] theorem ck52 : ckT Tryz.prog 52 = some .slice := by kernel_rfl
@[simp] theorem ck54 : ckT Tryz.prog 54 = none := by kernel_rfl
@[simp] theorem ck57 : ckT Tryz.prog 57 = none := by kernel_rfl
@[simp] theorem ck70 : ckT Tryz.prog 70 = some .slice := by kernel_rfl
@[simp] theorem ck75 : ckT Tryz.prog 75 = some .slice := by kernel_rfl
@[simp] theorem ck80 : ckT Tryz.prog 80 = none := by kernel_rfl
@[simp] theorem ck86 : ckT Tryz.prog 86 = none := by kernel_rfl
@[simp] theorem eo86 : eqOk Tryz.prog 86 = some [(0, .int), (1, .bool), (2, .int), (3, .int)] := by kernel_rfl
@[simp] theorem ck87 : ckT Tryz.prog 87 = some .slice := by kernel_rfl
@[simp] theorem ck90 : ckT Tryz.prog 90 = none := by kernel_rfl
@[simp] theorem eo90 : eqOk Tryz.prog 90 = some [(0, .int), (1, .int), (2, .int), (3, .int)] := by kernel_rfl
@[simp] theorem ck91 : ckT Tryz.prog 91 = some .func := by kernel_rfl
@[simp] theorem ck94 : ckT Tryz.prog 94 = none := by kernel_rfl
@[simp] theorem ck102 : ckT Tryz.prog 102 = none := by kernel_rfl
@[simp] theorem ck110 : ckT Tryz.prog 110 = none := by kernel_rfl
@[simp] theorem eo110 : eqOk Tryz.prog 110 = some [(0, .int), (1, .int)] := by kernel_rfl
@[simp] theorem ck113 : ckT Tryz.prog 113 = none := by kernel_rfl
@[simp] theorem ck116 : ckT Tryz.prog 116 = some .slice := by kernel_rfl
@[simp] theorem ck117 : ckT Tryz.prog 117 = some .slice := by kernel_rfl
@[simp] theorem ck120 : ckT Tryz.prog 120 = some .slice := by kernel_rfl
@[simp] theorem ck123 : ckT Tryz.prog 123 = none := by kernel_rfl
@[simp] theorem eo123 : eqOk Tryz.prog 123 = some [(0, .int), (1, .int), (2, .int), (3, .int), (4, .int)] := by kernel_rfl
@[simp] theorem ck133 : ckT Tryz.prog 133 = none := by kernel_rfl
@[simp] theorem ck156 : ckT Tryz.prog 156 = none := by kernel_rfl
@[simp] theorem ck159 : ckT Tryz.prog 159 = some .slice := by kernel_rfl
@[simp] theorem ck160 : ckT Tryz.prog 160 = some .slice := by kernel_rfl
@[simp] theorem ck163 : ckT Tryz.prog 163 = some .slice := by kernel_rfl
@[simp] theorem ck166 : ckT Tryz.prog 166 = none := by kernel_rfl
@[simp] theorem eo166 : eqOk Tryz.prog 166 = some [(0, .int), (1, .int), (2, .int), (3, .int), (4, .int)] := by kernel_rfl
@[simp] theorem ck178 : ckT Tryz.prog 178 = some .slice := by kernel_rfl
@[simp] theorem ck180 : ckT Tryz.prog 180 = some .ptr := by kernel_rfl
@[simp] theorem ck183 : ckT Tryz.prog 183 = some .slice := by kernel_rfl
@[simp] theorem ck196 : ckT Tryz.prog 196 = some .slice := by kernel_rfl
@[simp] theorem ck198 : ckT Tryz.prog 198 = none := by kernel_rfl
@[simp] theorem ck202 : ckT Tryz.prog 202 = some .slice := by kernel_rfl
@[simp] theorem ck206 : ckT Tryz.prog 206 = none := by kernel_rfl
@[simp] theorem ck212 : ckT Tryz.prog 212 = some .ptr := by kernel_rfl
@[simp] theorem ck234 : ckT Tryz.prog 234 = some .ptr := by kernel_rfl
@[simp] theorem ck235 : ckT Tryz.prog 235 = some .func := by kernel_rfl
@[simp] theorem ck236 : ckT Tryz.prog 236 = none := by kernel_rfl
@[simp] theorem ck238 : ckT Tryz.prog 238 = none := by kernel_rfl
@[simp] theorem ck241 : ckT Tryz.prog 241 = some .slice := by kernel_rfl
@[simp] theorem ck253 : ckT Tryz.prog 253 = none := by kernel_rfl
@[simp] theorem ck255 : ckT Tryz.prog 255 = some .ptr := by kernel_rfl
@[simp] theorem ck257 : ckT Tryz.prog 257 = none := by kernel_rfl
@[simp] theorem ck258 : ckT Tryz.prog 258 = some .func := by kernel_rfl
@[simp] theorem ck272 : ckT Tryz.prog 272 = none := by kernel_rfl
@[simp] theorem ck276 : ckT Tryz.prog 276 = some .slice := by kernel_rfl
@[simp] theorem ck277 : ckT Tryz.prog 277 = some .slice := by kernel_rfl
@[simp] theorem ck279 : ckT Tryz.prog 279 = none := by kernel_rfl
@[simp] theorem ck280 : ckT Tryz.prog 280 = some .ptr := by kernel_rfl
@[simp] theorem ck282 : ckT Tryz.prog 282 = none := by kernel_rfl
@[simp] theorem ck286 : ckT Tryz.prog 286 = none := by kernel_rfl
@[simp] theorem eo286 : eqOk Tryz.prog 286 = some [(0, .int), (1, .int), (2, .int), (3, .bool), (4, .int), (5, .int), (6, .int), (7, .int), (8, .int), (9, .int)] := by kernel_rfl
@[simp] theorem ck287 : ckT Tryz.prog 287 = some .slice := by kernel_rfl
@[simp] theorem ck290 : ckT Tryz.prog 290 = none := by kernel_rfl
@[simp] theorem eo290 : eqOk Tryz.prog 290 = some [(0, .int), (1, .int), (2, .int), (3, .int), (4, .int), (5, .int)] := by kernel_rfl
@[simp] theorem ck292 : ckT Tryz.prog 292 = none := by kernel_rfl
@[simp] theorem eo292 : eqOk Tryz.prog 292 = some [(0, .int)] := by kernel_rfl
@[simp] theorem ck295 : ckT Tryz.prog 295 = none := by kernel_rfl
@[simp] theorem ck296 : ckT Tryz.prog 296 = some .slice := by kernel_rfl
@[simp] theorem ck300 : ckT Tryz.prog 300 = none := by kernel_rfl
@[simp] theorem eo300 : eqOk Tryz.prog 300 = some [(0, .int), (1, .int)] := by kernel_rfl
@[simp] theorem ck307 : ckT Tryz.prog 307 = none := by kernel_rfl
@[simp] theorem ck310 : ckT Tryz.prog 310 = none := by kernel_rfl
@[simp] theorem ck317 : ckT Tryz.prog 317 = some .slice := by kernel_rfl
@[simp] theorem ck318 : ckT Tryz.prog 318 = some .slice := by kernel_rfl
@[simp] theorem ck320 : ckT Tryz.prog 320 = none := by kernel_rfl
@[simp] theorem ck321 : ckT Tryz.prog 321 = some .ptr := by kernel_rfl
@[simp] theorem ck325 : ckT Tryz.prog 325 = none := by kernel_rfl
@[simp] theorem eo325 : eqOk Tryz.prog 325 = some [(0, .int), (1, .int), (2, .int), (3, .bool), (4, .int), (5, .int), (6, .int), (7, .int)] := by kernel_rfl
@[simp] theorem ck326 : ckT Tryz.prog 326 = some .slice := by kernel_rfl
@[simp] theorem ck329 : ckT Tryz.prog 329 = none := by kernel_rfl
@[simp] theorem ck331 : ckT Tryz.prog 331 = none := by kernel_rfl
@[simp] theorem ck340 : ckT Tryz.prog 340 = none := by kernel_rfl
@[simp] theorem ck342 : ckT Tryz.prog 342 = some .slice := by kernel_rfl
@[simp] theorem ck344 : ckT Tryz.prog 344 = none := by kernel_rfl
@[simp] theorem ck345 : ckT Tryz.prog 345 = some .slice := by kernel_rfl
@[simp] theorem ck347 : ckT Tryz.prog 347 = none := by kernel_rfl
@[simp] theorem ck352 : ckT Tryz.prog 352 = some .func := by kernel_rfl
@[simp] theorem ck358 : ckT Tryz.prog 358 = some .ptr := by kernel_rfl
@[simp] theorem ck364 : ckT Tryz.prog 364 = some .slice := by kernel_rfl
@[simp] theorem ck367 : ckT Tryz.prog 367 = some .slice := by kernel_rfl
@[simp] theorem ck369 : ckT Tryz.prog 369 = none := by kernel_rfl
@[simp] theorem ck385 : ckT Tryz.prog 385 = none := by kernel_rfl
@[simp] theorem eo385 : eqOk Tryz.prog 385 = some [(0, .int), (1, .int), (2, .int), (3, .int), (4, .int), (5, .int), (6, .int), (7, .int), (8, .int)] := by kernel_rfl
@[simp] theorem ck387 : ckT Tryz.prog 387 = some .slice := by kernel_rfl
@[simp] theorem ck389 : ckT Tryz.prog 389 = some .func := by kernel_rfl
@[simp] theorem ck390 : ckT Tryz.prog 390 = some .ptr := by kernel_rfl
@[simp] theorem ck396 : ckT Tryz.prog 396 = none := by kernel_rfl
@[simp] theorem ck399 : ckT Tryz.prog 399 = some .ptr := by kernel_rfl
@[simp] theorem ck403 : ckT Tryz.prog 403 = none := by kernel_rfl
@[simp] theorem ck410 : ckT Tryz.prog 410 = none := by kernel_rfl
@[simp] theorem ck417 : ckT Tryz.prog 417 = none := by kernel_rfl
@[simp] theorem ck424 : ckT Tryz.prog 424 = none := by kernel_rfl
@[simp] theorem ck428 : ckT Tryz.prog 428 = some .ptr := by kernel_rfl
@[simp] theorem ck432 : ckT Tryz.prog 432 = none := by kernel_rfl
@[simp] theorem eo432 : eqOk Tryz.prog 432 = some [(0, .int), (1, .int), (2, .bool)] := by kernel_rfl
@[simp] theorem ck433 : ckT Tryz.prog 433 = some .func := by kernel_rfl
@[simp] theorem ck444 : ckT Tryz.prog 444 = none := by kernel_rfl
@[simp] theorem eo444 : eqOk Tryz.prog 444 = some [(0, .int), (1, .int), (2, .bool)] := by kernel_rfl
theorem follows_ok : Tryz.prog.follows .mixedOrders = true := by kernel_rfl
end Go.Proofs.YtdleboihgaedjaaGreat
