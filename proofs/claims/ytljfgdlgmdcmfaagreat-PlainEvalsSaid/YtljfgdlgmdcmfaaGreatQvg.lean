/- Parts of a proof. -/
import Derived.Test.YtljfgdlgmdcmfaaGreatProg
import Derived.Test.YtljfgdlgmdcmfaaGreatQve
import Derived.Test.YtljfgdlgmdcmfaaGreatQvf
import Derived.Shelf.Small.Bits
import Derived.Shelf.Strconv.Itoa0
import Derived.Ground.SlgnProg
import Derived.Shelf.SlicesE.Index
import Derived.Shelf.SlicesE.Equal
import Derived.Shelf.SlicesE.Compact
import Derived.Shelf.SlicesE.Clone
import Derived.Ground.SlgfProg
import Derived.Shelf.SlicesE.IndexFunc
set_option linter.unusedVariables false
set_option linter.defProp false
set_option linter.unusedSimpArgs false
set_option maxHeartbeats 400000
set_option maxRecDepth 100000
namespace Go.Proofs.YtljfgdlgmdcmfaaGreat.Wv
section
open Go.RowKit
theorem WF0 (P:Go.Program) (h:P=Tryz.prog):(szP P 1=some 1)∧(aA P 1=some .nilFunc)∧(bn P 1=some false)∧(jR P 1=true)∧(szP P 2=some 1)∧(bD P 2=some 8)∧(aA P 2=some (.int .i64 0))∧(bn P 2=some false)∧(bM P 2=none)∧(l9 P 2=some .i64)∧((P.underlying 2).isSome=true)∧(kkP P 2=some (.int .i64))∧(bW P 2=true)∧(szP P 3=some 1)∧(bD P 3=some 8)∧(aA P 3=some (.int .i64 0))∧(bn P 3=some false)∧(bM P 3=none)∧(l9 P 3=some .i64)∧((P.underlying 3).isSome=true)∧(kkP P 3=some (.int .i64))∧(bW P 3=true)∧(szP P 4=some 1)∧(bD P 4=some 1)∧(aA P 4=some (.bool false))∧(bn P 4=some false)∧(bM P 4=none)∧(rY P 4=true)∧((P.underlying 4).isSome=true)∧(bW P 4=true)∧(szP P 5=some 1)∧(bD P 5=some 1)∧(aA P 5=some (.int .u8 0))∧(bn P 5=some false)∧(bM P 5=none)∧(l9 P 5=some .u8)∧((P.underlying 5).isSome=true)∧(kkP P 5=some (.int .u8))∧(bW P 5=true)∧(szP P 9=some 1)∧(bD P 9=some 16)∧(aA P 9=some (.string ⟨#[]⟩))∧(bn P 9=some false)∧(bM P 9=none)∧(dK P 9=true)∧((P.underlying 9).isSome=true)∧(kkP P 9=some .str)∧(bW P 9=true)∧(szP P 12=some 1)∧(bD P 12=some 8)∧(aA P 12=some (.int .u64 0))∧(bn P 12=some false)∧(bM P 12=none)∧(l9 P 12=some .u64)∧((P.underlying 12).isSome=true)∧(kkP P 12=some (.int .u64))∧(bW P 12=true)∧(szP P 13=some 2)∧(bD P 13=some 24)∧(aA P 13=some (.agg #[.string ⟨#[]⟩, .int .u64 0])):=by
 subst h;and_intros<;>kernel_rfl
theorem WF1 (P:Go.Program) (h:P=Tryz.prog):(bn P 13=some true)∧(bM P 13=none)∧((P.underlying 13).isSome=true)∧(fsP P 13=some [(0,1),(1,1)])∧(bW P 13=true)∧(aV P 13 0=some (0,9))∧(aV P 13 1=some (1,12))∧(szP P 20=some 1)∧(bD P 20=some 16)∧(aA P 20=some .nilIface)∧(bn P 20=some false)∧(bM P 20=none)∧((P.underlying 20).isSome=true)∧(szP P 21=some 1)∧(bD P 21=some 4)∧(aA P 21=some (.int .i32 0))∧(bn P 21=some false)∧(bM P 21=none)∧(l9 P 21=some .i32)∧((P.underlying 21).isSome=true)∧(kkP P 21=some (.int .i32))∧(bW P 21=true)∧(szP P 22=some 1)∧(bD P 22=some 4)∧(aA P 22=some (.int .u32 0))∧(bn P 22=some false)∧(bM P 22=none)∧(l9 P 22=some .u32)∧((P.underlying 22).isSome=true)∧(kkP P 22=some (.int .u32))∧(bW P 22=true)∧(szP P 23=some 1)∧(bD P 23=some 24)∧(aA P 23=some (.slice none 0 0))∧(bn P 23=some false)∧(aG P 23=some 22)∧(bM P 23=none)∧((P.underlying 23).isSome=true)∧(bW P 23=true)∧(szP P 24=some 7)∧(bD P 24=some 72)∧(aA P 24=some (.agg #[.int .i64 0, .int .u32 0, .int .i64 0, .slice none 0 0, .int .u32 0, .int .i64 0, .int .u32 0]))∧(bn P 24=some true)∧(bM P 24=none)∧((P.underlying 24).isSome=true)∧(fsP P 24=some [(0,1),(1,1),(2,1),(3,1),(4,1),(5,1),(6,1)])∧(bW P 24=true)∧(aV P 24 0=some (0,3))∧(aV P 24 1=some (1,22))∧(aV P 24 2=some (2,3))∧(aV P 24 3=some (3,23))∧(aV P 24 4=some (4,22))∧(aV P 24 5=some (5,3))∧(aV P 24 6=some (6,22))∧(szP P 25=some 7)∧(bD P 25=some 72)∧(aA P 25=some (.agg #[.int .i64 0, .int .u32 0, .int .i64 0, .slice none 0 0, .int .u32 0, .int .i64 0, .int .u32 0]))∧(bn P 25=some true)∧(bM P 25=none)∧((P.underlying 25).isSome=true):=by
 subst h;and_intros<;>kernel_rfl
theorem WF2 (P:Go.Program) (h:P=Tryz.prog):(fsP P 25=some [(0,1),(1,1),(2,1),(3,1),(4,1),(5,1),(6,1)])∧(bW P 25=true)∧(aV P 25 0=some (0,3))∧(aV P 25 1=some (1,22))∧(aV P 25 2=some (2,3))∧(aV P 25 3=some (3,23))∧(aV P 25 4=some (4,22))∧(aV P 25 5=some (5,3))∧(aV P 25 6=some (6,22))∧(szP P 26=some 1)∧(bD P 26=some 24)∧(aA P 26=some (.slice none 0 0))∧(bn P 26=some false)∧(aG P 26=some 9)∧(bM P 26=none)∧((P.underlying 26).isSome=true)∧(bW P 26=true)∧(szP P 27=some 1)∧(bD P 27=some 24)∧(aA P 27=some (.slice none 0 0))∧(bn P 27=some false)∧(aG P 27=some 49)∧(bM P 27=none)∧((P.underlying 27).isSome=true)∧(bW P 27=true)∧(szP P 28=some 4)∧(bD P 28=some 88)∧(aA P 28=some (.agg #[.string ⟨#[]⟩, .slice none 0 0, .slice none 0 0, .slice none 0 0]))∧(bn P 28=some true)∧(bM P 28=none)∧((P.underlying 28).isSome=true)∧(fsP P 28=some [(0,1),(1,1),(2,1),(3,1)])∧(bW P 28=true)∧(aV P 28 0=some (0,9))∧(aV P 28 1=some (1,26))∧(aV P 28 2=some (2,27))∧(aV P 28 3=some (3,26))∧(szP P 29=some 4)∧(bD P 29=some 88)∧(aA P 29=some (.agg #[.string ⟨#[]⟩, .slice none 0 0, .slice none 0 0, .slice none 0 0]))∧(bn P 29=some true)∧(bM P 29=none)∧((P.underlying 29).isSome=true)∧(fsP P 29=some [(0,1),(1,1),(2,1),(3,1)])∧(bW P 29=true)∧(aV P 29 0=some (0,9))∧(aV P 29 1=some (1,26))∧(aV P 29 2=some (2,27))∧(aV P 29 3=some (3,26))∧(szP P 30=some 1)∧(aA P 30=some .nilFunc)∧(bn P 30=some false)∧(jR P 30=true)∧(szP P 34=some 1)∧(bD P 34=some 24)∧(aA P 34=some (.slice none 0 0))∧(bn P 34=some false)∧(aG P 34=some 42)∧(bM P 34=none)∧((P.underlying 34).isSome=true):=by
 subst h;and_intros<;>kernel_rfl
theorem WF3 (P:Go.Program) (h:P=Tryz.prog):(bW P 34=true)∧(szP P 35=some 1)∧(bD P 35=some 8)∧(aA P 35=some (.int .i64 0))∧(bn P 35=some false)∧(bM P 35=none)∧(l9 P 35=some .i64)∧((P.underlying 35).isSome=true)∧(kkP P 35=some (.int .i64))∧(bW P 35=true)∧(szP P 41=some 2)∧(bD P 41=some 16)∧(aA P 41=some (.agg #[.bool false, .int .i64 0]))∧(bn P 41=some true)∧(bM P 41=none)∧((P.underlying 41).isSome=true)∧(fsP P 41=some [(0,1),(1,1)])∧(bW P 41=true)∧(uq P 41=some [.b, .i])∧(aV P 41 0=some (0,4))∧(aV P 41 1=some (1,3))∧(szP P 42=some 2)∧(bD P 42=some 16)∧(aA P 42=some (.agg #[.bool false, .int .i64 0]))∧(bn P 42=some true)∧(bM P 42=none)∧((P.underlying 42).isSome=true)∧(fsP P 42=some [(0,1),(1,1)])∧(bW P 42=true)∧(uq P 42=some [.b, .i])∧(aV P 42 0=some (0,4))∧(aV P 42 1=some (1,3))∧(szP P 43=some 1)∧(bD P 43=some 24)∧(aA P 43=some (.slice none 0 0))∧(bn P 43=some false)∧(aG P 43=some 2)∧(bM P 43=none)∧((P.underlying 43).isSome=true)∧(bW P 43=true)∧(szP P 44=some 1)∧(bD P 44=some 24)∧(aA P 44=some (.slice none 0 0))∧(bn P 44=some false)∧(aG P 44=some 46)∧(bM P 44=none)∧((P.underlying 44).isSome=true)∧(bW P 44=true)∧(szP P 45=some 5)∧(bD P 45=some 80)∧(aA P 45=some (.agg #[.int .i64 0, .string ⟨#[]⟩, .int .i64 0, .slice none 0 0, .slice none 0 0]))∧(bn P 45=some true)∧(bM P 45=none)∧((P.underlying 45).isSome=true)∧(fsP P 45=some [(0,1),(1,1),(2,1),(3,1),(4,1)])∧(bW P 45=true)∧(aV P 45 0=some (0,3))∧(aV P 45 1=some (1,9))∧(aV P 45 2=some (2,2))∧(aV P 45 3=some (3,43)):=by
 subst h;and_intros<;>kernel_rfl
theorem WF4 (P:Go.Program) (h:P=Tryz.prog):(aV P 45 4=some (4,44))∧(szP P 46=some 5)∧(bD P 46=some 80)∧(aA P 46=some (.agg #[.int .i64 0, .string ⟨#[]⟩, .int .i64 0, .slice none 0 0, .slice none 0 0]))∧(bn P 46=some true)∧(bM P 46=none)∧((P.underlying 46).isSome=true)∧(fsP P 46=some [(0,1),(1,1),(2,1),(3,1),(4,1)])∧(bW P 46=true)∧(aV P 46 0=some (0,3))∧(aV P 46 1=some (1,9))∧(aV P 46 2=some (2,2))∧(aV P 46 3=some (3,43))∧(aV P 46 4=some (4,44))∧(szP P 48=some 6)∧(bD P 48=some 96)∧(aA P 48=some (.agg #[.string ⟨#[]⟩, .int .i64 0, .string ⟨#[]⟩, .int .i64 0, .slice none 0 0, .slice none 0 0]))∧(bn P 48=some true)∧(bM P 48=none)∧((P.underlying 48).isSome=true)∧(fsP P 48=some [(0,1),(1,5)])∧(bW P 48=true)∧(aV P 48 0=some (0,9))∧(aV P 48 1=some (1,46))∧(szP P 49=some 6)∧(bD P 49=some 96)∧(aA P 49=some (.agg #[.string ⟨#[]⟩, .int .i64 0, .string ⟨#[]⟩, .int .i64 0, .slice none 0 0, .slice none 0 0]))∧(bn P 49=some true)∧(bM P 49=none)∧((P.underlying 49).isSome=true)∧(fsP P 49=some [(0,1),(1,5)])∧(bW P 49=true)∧(aV P 49 0=some (0,9))∧(aV P 49 1=some (1,46))∧(szP P 57=some 1)∧(aA P 57=some .nilFunc)∧(bn P 57=some false)∧(jR P 57=true)∧(szP P 59=some 1)∧(bD P 59=some 24)∧(aA P 59=some (.slice none 0 0))∧(bn P 59=some false)∧(aG P 59=some 43)∧(bM P 59=none)∧((P.underlying 59).isSome=true)∧(bW P 59=true)∧(szP P 73=some 3)∧(bD P 73=some 40)∧(aA P 73=some (.agg #[.slice none 0 0, .int .i64 0, .bool false]))∧(bn P 73=some true)∧(bM P 73=none)∧((P.underlying 73).isSome=true)∧(fsP P 73=some [(0,1),(1,1),(2,1)])∧(bW P 73=true)∧(aV P 73 0=some (0,59))∧(aV P 73 1=some (1,3))∧(aV P 73 2=some (2,4))∧(szP P 74=some 3)∧(bD P 74=some 40)∧(aA P 74=some (.agg #[.slice none 0 0, .int .i64 0, .bool false])):=by
 subst h;and_intros<;>kernel_rfl
theorem WF5 (P:Go.Program) (h:P=Tryz.prog):(bn P 74=some true)∧(bM P 74=none)∧((P.underlying 74).isSome=true)∧(fsP P 74=some [(0,1),(1,1),(2,1)])∧(bW P 74=true)∧(aV P 74 0=some (0,59))∧(aV P 74 1=some (1,3))∧(aV P 74 2=some (2,4))∧(szP P 80=some 1)∧(bD P 80=some 24)∧(aA P 80=some (.slice none 0 0))∧(bn P 80=some false)∧(aG P 80=some 3)∧(bM P 80=none)∧((P.underlying 80).isSome=true)∧(bW P 80=true)∧(szP P 81=some 4)∧(bD P 81=some 64)∧(aA P 81=some (.agg #[.slice none 0 0, .slice none 0 0, .int .i64 0, .int .i64 0]))∧(bn P 81=some true)∧(bM P 81=none)∧((P.underlying 81).isSome=true)∧(fsP P 81=some [(0,1),(1,1),(2,1),(3,1)])∧(bW P 81=true)∧(aV P 81 0=some (0,59))∧(aV P 81 1=some (1,80))∧(aV P 81 2=some (2,3))∧(aV P 81 3=some (3,3))∧(szP P 82=some 4)∧(bD P 82=some 64)∧(aA P 82=some (.agg #[.slice none 0 0, .slice none 0 0, .int .i64 0, .int .i64 0]))∧(bn P 82=some true)∧(bM P 82=none)∧((P.underlying 82).isSome=true)∧(fsP P 82=some [(0,1),(1,1),(2,1),(3,1)])∧(bW P 82=true)∧(aV P 82 0=some (0,59))∧(aV P 82 1=some (1,80))∧(aV P 82 2=some (2,3))∧(aV P 82 3=some (3,3))∧(szP P 93=some 1)∧(aA P 93=some .nilFunc)∧(bn P 93=some false)∧(jR P 93=true)∧(szP P 94=some 1)∧(aA P 94=some .nilFunc)∧(bn P 94=some false)∧(jR P 94=true)∧(szP P 97=some 1)∧(bD P 97=some 8)∧(aA P 97=some (.agg #[.int .i64 0]))∧(bn P 97=some true)∧(bM P 97=none)∧((P.underlying 97).isSome=true)∧(fsP P 97=some [(0,1)])∧(bW P 97=true)∧(uq P 97=some [.i])∧(aV P 97 0=some (0,35))∧(szP P 98=some 1)∧(bD P 98=some 8):=by
 subst h;and_intros<;>kernel_rfl
theorem WF6 (P:Go.Program) (h:P=Tryz.prog):(aA P 98=some (.agg #[.int .i64 0]))∧(bn P 98=some true)∧(bM P 98=none)∧((P.underlying 98).isSome=true)∧(fsP P 98=some [(0,1)])∧(bW P 98=true)∧(uq P 98=some [.i])∧(aV P 98 0=some (0,35))∧(szP P 99=some 1)∧(bD P 99=some 8)∧(aA P 99=some (.pointer none))∧(bn P 99=some false)∧(bM P 99=none)∧(kL P 99=true)∧((P.underlying 99).isSome=true)∧(bW P 99=true)∧(szP P 100=some 1)∧(bD P 100=some 8)∧(aA P 100=some (.map none))∧(bn P 100=some false)∧(bM P 100=none)∧((P.underlying 100).isSome=true)∧(uP P 100=some (9,42))∧(bW P 100=true)∧(szP P 102=some 9)∧(bD P 102=some 88)∧(aA P 102=some (.agg #[.int .i64 0, .int .u32 0, .int .i64 0, .slice none 0 0, .int .u32 0, .int .i64 0, .int .u32 0, .int .i64 0, .map none]))∧(bn P 102=some true)∧(bM P 102=none)∧((P.underlying 102).isSome=true)∧(fsP P 102=some [(0,7),(7,1),(8,1)])∧(bW P 102=true)∧(aV P 102 0=some (0,25))∧(aV P 102 1=some (7,2))∧(aV P 102 2=some (8,100))∧(szP P 103=some 1)∧(aA P 103=some .nilFunc)∧(bn P 103=some false)∧(jR P 103=true)∧(szP P 108=some 1)∧(bD P 108=some 8)∧(aA P 108=some (.pointer none))∧(bn P 108=some false)∧(bM P 108=none)∧(kL P 108=true)∧((P.underlying 108).isSome=true)∧(bW P 108=true)∧(szP P 109=some 5)∧(bD P 109=some 72)∧(aA P 109=some (.agg #[.int .i64 0, .int .i64 0, .int .i64 0, .slice none 0 0, .slice none 0 0]))∧(bn P 109=some true)∧(bM P 109=none)∧((P.underlying 109).isSome=true)∧(fsP P 109=some [(0,1),(1,1),(2,1),(3,1),(4,1)])∧(bW P 109=true)∧(aV P 109 0=some (0,3))∧(aV P 109 1=some (1,2))∧(aV P 109 2=some (2,3))∧(aV P 109 3=some (3,26))∧(aV P 109 4=some (4,34)):=by
 subst h;and_intros<;>kernel_rfl
theorem WF7 (P:Go.Program) (h:P=Tryz.prog):(szP P 110=some 5)∧(bD P 110=some 72)∧(aA P 110=some (.agg #[.int .i64 0, .int .i64 0, .int .i64 0, .slice none 0 0, .slice none 0 0]))∧(bn P 110=some true)∧(bM P 110=none)∧((P.underlying 110).isSome=true)∧(fsP P 110=some [(0,1),(1,1),(2,1),(3,1),(4,1)])∧(bW P 110=true)∧(aV P 110 0=some (0,3))∧(aV P 110 1=some (1,2))∧(aV P 110 2=some (2,3))∧(aV P 110 3=some (3,26))∧(aV P 110 4=some (4,34))∧(szP P 122=some 1)∧(bD P 122=some 8)∧(aA P 122=some (.pointer none))∧(bn P 122=some false)∧(bM P 122=none)∧(kL P 122=true)∧((P.underlying 122).isSome=true)∧(bW P 122=true)∧(szP P 123=some 1)∧(bD P 123=some 8)∧(aA P 123=some (.map none))∧(bn P 123=some false)∧(bM P 123=none)∧((P.underlying 123).isSome=true)∧(uP P 123=some (9,43))∧(bW P 123=true)∧(szP P 125=some 3)∧(bD P 125=some 24)∧(aA P 125=some (.agg #[.int .i64 0, .int .i64 0, .map none]))∧(bn P 125=some true)∧(bM P 125=none)∧((P.underlying 125).isSome=true)∧(fsP P 125=some [(0,1),(1,1),(2,1)])∧(bW P 125=true)∧(aV P 125 0=some (0,3))∧(aV P 125 1=some (1,2))∧(aV P 125 2=some (2,123))∧(szP P 129=some 1)∧(bD P 129=some 8)∧(aA P 129=some (.pointer none))∧(bn P 129=some false)∧(bM P 129=none)∧(kL P 129=true)∧((P.underlying 129).isSome=true)∧(bW P 129=true)∧(szP P 130=some 1)∧(bD P 130=some 24)∧(aA P 130=some (.slice none 0 0))∧(bn P 130=some false)∧(aG P 130=some 135)∧(bM P 130=none)∧((P.underlying 130).isSome=true)∧(bW P 130=true)∧(szP P 131=some 3)∧(bD P 131=some 40)∧(aA P 131=some (.agg #[.int .i64 0, .int .i64 0, .slice none 0 0]))∧(bn P 131=some true):=by
 subst h;and_intros<;>kernel_rfl
theorem WF8 (P:Go.Program) (h:P=Tryz.prog):(bM P 131=none)∧((P.underlying 131).isSome=true)∧(fsP P 131=some [(0,1),(1,1),(2,1)])∧(bW P 131=true)∧(aV P 131 0=some (0,3))∧(aV P 131 1=some (1,2))∧(aV P 131 2=some (2,130))∧(szP P 132=some 3)∧(bD P 132=some 40)∧(aA P 132=some (.agg #[.int .i64 0, .int .i64 0, .slice none 0 0]))∧(bn P 132=some true)∧(bM P 132=none)∧((P.underlying 132).isSome=true)∧(fsP P 132=some [(0,1),(1,1),(2,1)])∧(bW P 132=true)∧(aV P 132 0=some (0,3))∧(aV P 132 1=some (1,2))∧(aV P 132 2=some (2,130))∧(szP P 134=some 2)∧(bD P 134=some 40)∧(aA P 134=some (.agg #[.string ⟨#[]⟩, .slice none 0 0]))∧(bn P 134=some true)∧(bM P 134=none)∧((P.underlying 134).isSome=true)∧(fsP P 134=some [(0,1),(1,1)])∧(bW P 134=true)∧(aV P 134 0=some (0,9))∧(aV P 134 1=some (1,43))∧(szP P 135=some 2)∧(bD P 135=some 40)∧(aA P 135=some (.agg #[.string ⟨#[]⟩, .slice none 0 0]))∧(bn P 135=some true)∧(bM P 135=none)∧((P.underlying 135).isSome=true)∧(fsP P 135=some [(0,1),(1,1)])∧(bW P 135=true)∧(aV P 135 0=some (0,9))∧(aV P 135 1=some (1,43))∧(szP P 141=some 1)∧(bD P 141=some 8)∧(aA P 141=some (.pointer none))∧(bn P 141=some false)∧(bM P 141=none)∧(kL P 141=true)∧((P.underlying 141).isSome=true)∧(bW P 141=true)∧(szP P 147=some 1)∧(bD P 147=some 24)∧(aA P 147=some (.slice none 0 0))∧(bn P 147=some false)∧(aG P 147=some 149)∧(bM P 147=none)∧((P.underlying 147).isSome=true)∧(bW P 147=true)∧(szP P 149=some 1)∧(bD P 149=some 4)∧(aA P 149=some (.int .u32 0))∧(bn P 149=some false)∧(bM P 149=none)∧(l9 P 149=some .u32):=by
 subst h;and_intros<;>kernel_rfl
theorem WF9 (P:Go.Program) (h:P=Tryz.prog):((P.underlying 149).isSome=true)∧(kkP P 149=some (.int .u32))∧(bW P 149=true)∧(szP P 151=some 1)∧(aA P 151=some .nilFunc)∧(bn P 151=some false)∧(jR P 151=true)∧(szP P 154=some 1)∧(aA P 154=some .nilFunc)∧(bn P 154=some false)∧(jR P 154=true)∧(szP P 155=some 1)∧(bD P 155=some 8)∧(aA P 155=some (.map none))∧(bn P 155=some false)∧(bM P 155=none)∧((P.underlying 155).isSome=true)∧(uP P 155=some (3,93))∧(bW P 155=true)∧(szP P 160=some 1)∧(bD P 160=some 8)∧(aA P 160=some (.pointer none))∧(bn P 160=some false)∧(bM P 160=none)∧(kL P 160=true)∧((P.underlying 160).isSome=true)∧(bW P 160=true)∧(szP P 161=some 1)∧(aA P 161=some .nilFunc)∧(bn P 161=some false)∧(jR P 161=true)∧(szP P 162=some 1)∧(bD P 162=some 8)∧(aA P 162=some (.int .u64 0))∧(bn P 162=some false)∧(bM P 162=none)∧(l9 P 162=some .u64)∧((P.underlying 162).isSome=true)∧(kkP P 162=some (.int .u64))∧(bW P 162=true)∧(szP P 164=some 1)∧(aA P 164=some .nilFunc)∧(bn P 164=some false)∧(jR P 164=true)∧(szP P 165=some 1)∧(aA P 165=some .nilFunc)∧(bn P 165=some false)∧(jR P 165=true)∧(szP P 181=some 1)∧(bD P 181=some 8)∧(aA P 181=some (.map none))∧(bn P 181=some false)∧(bM P 181=none)∧((P.underlying 181).isSome=true)∧(uP P 181=some (186,149))∧(bW P 181=true)∧(szP P 182=some 1)∧(bD P 182=some 8)∧(aA P 182=some (.map none))∧(bn P 182=some false):=by
 subst h;and_intros<;>kernel_rfl
theorem amT (P:Go.Program) (h:P=Tryz.prog):(bM P 182=none)∧((P.underlying 182).isSome=true)∧(uP P 182=some (9,4))∧(bW P 182=true)∧(szP P 184=some 1)∧(bD P 184=some 24)∧(aA P 184=some (.slice none 0 0))∧(bn P 184=some false)∧(aG P 184=some 147)∧(bM P 184=none)∧((P.underlying 184).isSome=true)∧(bW P 184=true)∧(szP P 186=some 2)∧(bD P 186=some 24)∧(aA P 186=some (.agg #[.string ⟨#[]⟩, .int .i64 0]))∧(bn P 186=some true)∧(bM P 186=none)∧((P.underlying 186).isSome=true)∧(fsP P 186=some [(0,1),(1,1)])∧(bW P 186=true)∧(uq P 186=some [.s, .i])∧(aV P 186 0=some (0,9))∧(aV P 186 1=some (1,3))∧(szP P 190=some 1)∧(bD P 190=some 24)∧(aA P 190=some (.slice none 0 0))∧(bn P 190=some false)∧(aG P 190=some 30)∧(bM P 190=none)∧((P.underlying 190).isSome=true)∧(bW P 190=true)∧(szP P 191=some 16)∧(bD P 191=some 256)∧(aA P 191=some (.agg #[.string ⟨#[]⟩, .string ⟨#[]⟩, .string ⟨#[]⟩, .string ⟨#[]⟩, .string ⟨#[]⟩, .string ⟨#[]⟩, .string ⟨#[]⟩, .string ⟨#[]⟩, .string ⟨#[]⟩, .string ⟨#[]⟩, .string ⟨#[]⟩, .string ⟨#[]⟩, .string ⟨#[]⟩, .string ⟨#[]⟩, .string ⟨#[]⟩, .string ⟨#[]⟩]))∧(bn P 191=some true)∧(aG P 191=none)∧(bM P 191=some (16,9))∧((P.underlying 191).isSome=true)∧(fsP P 191=some [(0,1),(1,1),(2,1),(3,1),(4,1),(5,1),(6,1),(7,1),(8,1),(9,1),(10,1),(11,1),(12,1),(13,1),(14,1),(15,1)])∧(bW P 191=true)∧(szP P 195=some 1)∧(bD P 195=some 24)∧(aA P 195=some (.slice none 0 0))∧(bn P 195=some false)∧(aG P 195=some 5)∧(bM P 195=none)∧((P.underlying 195).isSome=true)∧(bW P 195=true)∧(szP P 199=some 3)∧(bD P 199=some 16)∧(aA P 199=some (.agg #[.int .i64 0, .bool false, .bool false]))∧(bn P 199=some true)∧(bM P 199=none)∧((P.underlying 199).isSome=true)∧(fsP P 199=some [(0,1),(1,1),(2,1)])∧(bW P 199=true)∧(uq P 199=some [.i, .b, .b])∧(aV P 199 0=some (0,3))∧(aV P 199 1=some (1,4))∧(aV P 199 2=some (2,4)):=by
 subst h;and_intros<;>kernel_rfl
theorem amU (P:Go.Program) (h:P=Tryz.prog):(szP P 200=some 48)∧(bD P 200=some 256)∧(aA P 200=some (.agg #[.int .i64 0, .bool false, .bool false, .int .i64 0, .bool false, .bool false, .int .i64 0, .bool false, .bool false, .int .i64 0, .bool false, .bool false, .int .i64 0, .bool false, .bool false, .int .i64 0, .bool false, .bool false, .int .i64 0, .bool false, .bool false, .int .i64 0, .bool false, .bool false, .int .i64 0, .bool false, .bool false, .int .i64 0, .bool false, .bool false, .int .i64 0, .bool false, .bool false, .int .i64 0, .bool false, .bool false, .int .i64 0, .bool false, .bool false, .int .i64 0, .bool false, .bool false, .int .i64 0, .bool false, .bool false, .int .i64 0, .bool false, .bool false]))∧(bn P 200=some true)∧(aG P 200=none)∧(bM P 200=some (16,199))∧((P.underlying 200).isSome=true)∧(fsP P 200=some [(0,3),(3,3),(6,3),(9,3),(12,3),(15,3),(18,3),(21,3),(24,3),(27,3),(30,3),(33,3),(36,3),(39,3),(42,3),(45,3)])∧(bW P 200=true)∧(szP P 202=some 1)∧(aA P 202=some .nilFunc)∧(bn P 202=some false)∧(jR P 202=true)∧(szP P 215=some 1)∧(bD P 215=some 8)∧(aA P 215=some (.int .u64 0))∧(bn P 215=some false)∧(bM P 215=none)∧(l9 P 215=some .u64)∧((P.underlying 215).isSome=true)∧(kkP P 215=some (.int .u64))∧(bW P 215=true)∧(szP P 235=some 7)∧(bD P 235=some 28)∧(aA P 235=some (.agg #[.int .u32 0, .int .u32 0, .int .u32 0, .int .u32 0, .int .u32 0, .int .u32 0, .int .u32 0]))∧(bn P 235=some true)∧(aG P 235=none)∧(bM P 235=some (7,22))∧((P.underlying 235).isSome=true)∧(fsP P 235=some [(0,1),(1,1),(2,1),(3,1),(4,1),(5,1),(6,1)])∧(bW P 235=true)∧(szP P 236=some 3)∧(bD P 236=some 12)∧(aA P 236=some (.agg #[.int .u32 0, .int .u32 0, .int .u32 0]))∧(bn P 236=some true)∧(aG P 236=none)∧(bM P 236=some (3,22))∧((P.underlying 236).isSome=true)∧(fsP P 236=some [(0,1),(1,1),(2,1)])∧(bW P 236=true)∧(szP P 250=some 1)∧(bD P 250=some 8)∧(aA P 250=some (.int .i64 0))∧(bn P 250=some false)∧(bM P 250=none)∧(l9 P 250=some .i64)∧((P.underlying 250).isSome=true)∧(kkP P 250=some (.int .i64))∧(bW P 250=true)∧(szP P 261=some 1)∧(bD P 261=some 8)∧(aA P 261=some (.int .u64 0))∧(bn P 261=some false)∧(bM P 261=none)∧(l9 P 261=some .u64)∧((P.underlying 261).isSome=true)∧(kkP P 261=some (.int .u64))∧(bW P 261=true)∧(szP P 265=some 1)∧(bD P 265=some 8):=by
 subst h;and_intros<;>kernel_rfl
theorem amV (P:Go.Program) (h:P=Tryz.prog):(aA P 265=some (.pointer none))∧(bn P 265=some false)∧(bM P 265=none)∧(kL P 265=true)∧((P.underlying 265).isSome=true)∧(bW P 265=true)∧(szP P 268=some 1)∧(bD P 268=some 8)∧(aA P 268=some .nilFunc)∧(bn P 268=some false)∧(bM P 268=none)∧((P.underlying 268).isSome=true)∧(bW P 268=true)∧(jR P 268=true)∧(szP P 277=some 1)∧(bD P 277=some 8)∧(aA P 277=some (.pointer none))∧(bn P 277=some false)∧(bM P 277=none)∧(kL P 277=true)∧((P.underlying 277).isSome=true)∧(bW P 277=true):=by
 subst h;and_intros<;>kernel_rfl
end
section
variable {p:Prop}
theorem bA {q:Prop} (h:p) (k:q):p∧q:=⟨h,k⟩
def Ba:=bA @List.map_cons.{0,0}<| bA @List.map_nil.{0,0}<| bA @List.getElem?_cons_zero.{0}<| bA @List.getElem?_cons_succ.{0}<| bA @List.getElem?_nil.{0}<| bA @List.nil_append.{0}<| bA @List.cons_append.{0}<| bA @List.append_nil.{0}<| bA @List.take_zero.{0}<| bA @List.take_succ_cons.{0}<| bA @List.take_nil.{0}<| bA @List.drop_zero.{0}<| bA @List.drop_succ_cons.{0}<| bA @List.drop_nil.{0}<| bA @List.length_cons.{0}<| bA @List.length_nil.{0}<| bA @List.all_cons.{0}<| bA @List.all_nil.{0}<| bA @List.set_cons_zero.{0}<| bA @List.set_cons_succ.{0}<| bA @List.set_nil.{0}<| bA @List.getElem?_drop.{0}<| bA @List.length_map.{0,0}<| bA @List.length_append.{0}<| bA @Option.map_some.{0,0}<| bA @Option.map_none.{0,0}<| bA @Option.bind_some.{0,0}<| bA @Option.bind_none.{0,0}<| bA @Bool.and_true<| bA @Bool.true_and<| bA @Bool.not_true<| bA @Bool.not_false<| bA @Bool.true_beq<| bA @Bool.false_beq<| bA @Nat.mul_one<| bA @Nat.sub_zero<| bA @Nat.sub_self<| bA @Nat.add_zero<| bA @Nat.zero_add<| bA @Int.toNat_natCast<| bA @Int.natCast_zero<| bA @Int.sub_zero<| bA @Int.add_zero<| bA @Int.zero_add<| bA @ne_eq.{1}<| bA @not_false_eq_true<| bA @true_and<| bA @and_true<| bA @decide_true<| bA @decide_false<| bA @eq_self.{1}<| bA @Option.isNone_none.{0}<| bA @Option.isNone_some.{0}<| bA @Option.isSome_some.{0}<| bA @Bool.false_and<| bA @Bool.and_false<| bA @cond_true.{1}<| bA @cond_false.{1}<| @List.size_toArray.{0}
def Bb:=bA @Wv.WC<| bA @Wv.SC<| bA @Wv.afQ<| bA @Wv.ajF<| bA @Wv.afR<| bA @Wv.abw<| bA @Wv.abx<| bA @Wv.ajG<| bA @Wv.aby<| bA @Wv.afS<| bA @Wv.ajH<| bA @Wv.afT<| bA @Wv.ajI<| bA @Wv.afU<| bA @Wv.afV<| bA @Wv.afW<| bA @Wv.afX<| bA @Wv.afY<| bA @Wv.k_p<| bA @Wv.afZ<| bA @Wv.af0<| bA @Wv.af2<| bA @Wv.af4<| bA @Wv.k_reg<| bA @Wv.abz<| bA @Wv.af5<| bA @Wv.k_o<| bA @Wv.k_r<| bA @Wv.k_h<| bA @Wv.af6<| bA @Wv.af7<| bA @Wv.af8<| bA @Wv.abA<| bA @Wv.abB<| bA @Wv.af9<| bA @Wv.ajJ<| bA @Wv.aga<| bA @Wv.agb<| bA @Wv.ajK<| bA @Wv.abC<| bA @Wv.agc<| bA @Wv.agd<| bA @Wv.agf<| bA @Wv.WE<| bA @Wv.agh<| bA @Wv.abD<| bA @Wv.agi<| bA @Wv.NK<| bA @Wv.abE<| bA @Wv.agj<| bA @Wv.SE<| bA @Wv.Ko<| bA @Wv.abG<| bA @Wv.SG<| bA @Wv.ajL<| bA @Wv.ajM<| bA @Wv.WG<| bA @Wv.WH<| bA @Wv.SH<| bA @Wv.Kq<| bA @Wv.WI<| bA @Wv.WJ<| bA @Wv.abH<| bA @Wv.agk<| bA @Wv.agl<| bA @Wv.WL<| bA @Wv.WM<| bA @Wv.agm<| bA @Wv.agn<| @Wv.abI
def Bc:=bA @Wv.abJ<| bA @Wv.agp<| bA @Wv.agq<| bA @Wv.NM<| bA @Wv.NP<| bA @Wv.abK<| bA @Wv.abL<| bA @Wv.agr<| bA @Wv.ags<| bA @Wv.SI<| bA @Wv.SK<| bA @Wv.Kr<| bA @Wv.Kt<| bA @Wv.abM<| bA @Wv.abN<| bA @Wv.SL<| bA @Wv.SQ<| bA @Wv.abO<| bA @Wv.abP<| bA @Wv.abQ<| bA @Wv.Ku<| bA @Wv.Kv<| bA @Wv.Kw<| bA @Wv.abR<| bA @Wv.abS<| bA @Wv.abT<| bA @Wv.agt<| bA @Wv.agu<| bA @Wv.agv<| bA @Wv.q_len<| bA @Wv.ajO<| bA @Wv.ajP<| bA @Wv.ajQ<| bA @Wv.ajR<| bA @Wv.ajS<| bA @Wv.WO<| bA @Wv.agw<| bA @Wv.agx<| bA @Wv.agy<| bA @Wv.ajT<| bA @Wv.WQ<| bA @Wv.ajU<| bA @Wv.abU<| bA @Wv.ajV<| bA @Wv.abV<| bA @Wv.agz<| bA @Wv.abW<| bA @Wv.abX<| bA @Wv.abY<| bA @Wv.P6<| bA @Wv.abZ<| bA @Wv.ab1<| bA @Wv.ab2<| bA @Wv.ab3<| bA @Wv.ab4<| bA @Wv.ab5<| bA @Wv.WR<| bA @Wv.ab6<| bA @Wv.WS<| bA @Wv.WT<| bA @Wv.ab7<| bA @Wv.ab8<| bA @Wv.agB<| bA @Wv.agC<| bA @Wv.agD<| bA @Wv.agE<| bA @Wv.WU<| bA @Wv.WV<| bA @Wv.WW<| @Wv.WX
def Bd:=bA @Wv.ab9<| bA @Wv.acd<| bA @Wv.ace<| bA @Wv.acf<| bA @Wv.acg<| bA @Wv.ach<| bA @Wv.aci<| bA @Wv.acj<| bA @Wv.ajW<| bA @Wv.ajX<| bA @Wv.WY<| bA @Wv.WZ<| bA @Wv.W9<| bA @Wv.Xa<| bA @Wv.acn<| bA @Wv.aco<| bA @Wv.acp<| bA @Wv.acr<| bA @Wv.acs<| bA @Wv.acu<| bA @Wv.acv<| bA @Wv.acw<| bA @Wv.agF<| bA @Wv.agG<| bA @Wv.agH<| bA @Wv.agI<| bA @Wv.acy<| bA @Wv.afk<| bA @Wv.ajY<| bA @Wv.ajZ<| bA @Wv.fin0<| bA @Wv.fin1<| bA @Wv.acA<| bA @Wv.aj0<| bA @Wv.aj1<| bA @Wv.aj2<| bA @Wv.Xb<| bA @Wv.Xc<| bA @Wv.SX<| bA @Wv.aj3<| bA @Wv.amA<| bA @Wv.aj6<| bA @Wv.amB<| bA @Wv.SY<| bA @Wv.Xd<| bA @Wv.Xe<| bA @Wv.get_nil<| bA @Wv.Xf<| bA @Wv.agK<| bA @Wv.Xg<| bA @Wv.acB<| bA @Wv.S9<| bA @Wv.Xh<| bA @Wv.Tc<| bA @Wv.Xi<| bA @Wv.acC<| bA @Wv.Xj<| bA @Wv.acD<| bA @Wv.Xk<| bA @Wv.agL<| bA @Wv.acE<| bA @Wv.Xl<| bA @Wv.acF<| bA @Wv.acG<| bA @Wv.acH<| bA @Wv.agM<| bA @Wv.agN<| bA @Wv.aj7<| bA @Wv.aj8<| @Wv.aj9
def Be:=bA @Wv.akb<| bA @Wv.akc<| bA @Wv.akd<| bA @Wv.ake<| bA @Wv.akf<| bA @Wv.amC<| bA @Wv.akg<| bA @Wv.akh<| bA @Wv.aki<| bA @Wv.akj<| bA @Wv.akk<| bA @Wv.akl<| bA @Wv.akm<| bA @Wv.akn<| bA @Wv.ako<| bA @Wv.akp<| bA @Wv.akq<| bA @Wv.akr<| bA @Wv.agO<| bA @Wv.agP<| bA @Wv.agQ<| bA @Wv.w64<| bA @Wv.amD<| bA @Wv.wu64<| bA @Wv.wu8<| bA @Wv.Xm<| bA @Wv.Xn<| bA @Wv.Xo<| bA @Wv.acI<| bA @Wv.iC<| bA @Wv.jv<| bA @Wv.dB<| bA @Wv.Xp<| bA @Wv.ld<| bA @Wv.agS<| bA @Wv.Td<| bA @Wv.aks<| bA @Wv.akt<| bA @Wv.Ti<| bA @Wv.aku<| bA @Wv.mP<| bA @Wv.afl<| bA @Wv.Xr<| bA @Wv.FP<| bA @Wv.FQ<| bA @Wv.agU<| bA @Wv.acK<| bA @Wv.agV<| bA @Wv.acL<| bA @Wv.acM<| bA @Wv.amE<| bA @Wv.amF<| bA @Wv.akv<| bA @Wv.akw<| bA @Wv.oK<| bA @Wv.agW<| bA @Wv.amG<| bA @Wv.agX<| bA @Wv.acN<| bA @Wv.agY<| bA @Wv.Xt<| bA @Wv.agZ<| bA @Wv.amH<| bA @Wv.akx<| bA @Wv.aky<| bA @Wv.ag0<| bA @Wv.ag1<| bA @Wv.st<| bA @Wv.ag2<| @Wv.akz
def Bf:=bA @Wv.Xu<| bA @Wv.acO<| bA @Wv.Xv<| bA @Wv.Tj<| bA @Wv.NQ<| bA @Wv.amI<| bA @Wv.Xw<| bA @Wv.Tm<| bA @Wv.Xx<| bA @Wv.Xy<| bA @Wv.acP<| bA @Wv.ag3<| bA @Wv.akA<| bA @Wv.akB<| bA @Wv.amJ<| bA @Wv.acQ<| bA @Wv.ag4<| bA @Wv.Xz<| bA @Wv.XA<| bA @Wv.akC<| bA @Wv.acR<| bA @Wv.akD<| bA @Wv.XB<| bA @Wv.acS<| bA @Wv.XD<| bA @Wv.akE<| bA @Wv.akF<| bA @Wv.akG<| bA @Wv.Tq<| bA @Wv.acT<| bA @Wv.XE<| bA @Wv.XF<| bA @Wv.XG<| bA @Wv.acU<| bA @Wv.XH<| bA @Wv.ag5<| bA @Wv.XI<| bA @Wv.acV<| bA @Wv.XJ<| bA @Wv.XK<| bA @Wv.tk<| bA @Wv.acW<| bA @Wv.acX<| bA @Wv.ix<| bA @Wv.akH<| bA @Wv.akI<| bA @Wv.akJ<| bA @Wv.acY<| bA @Wv.XL<| bA @Wv.XM<| bA @Wv.sh<| bA @Wv.ag6<| bA @Wv.akK<| bA @Wv.akL<| bA @Wv.afm<| bA @Wv.len<| bA @Wv.acZ<| bA @Wv.ag7<| bA @Wv.akM<| bA @Wv.len_nil<| bA @Wv.ac0<| bA @Wv.Tv<| bA @Wv.ac1<| bA @Wv.XO<| bA @Wv.ap<| bA @Wv.XP<| bA @Wv.ac2<| bA @Wv.ac3<| bA @Wv.XQ<| @Wv.ac4
def Bg:=bA @Wv.ac5<| bA @Wv.cp<| bA @Wv.XT<| bA @Wv.ac6<| bA @Wv.XU<| bA @Wv.ac7<| bA @Wv.at_<| bA @Wv.XV<| bA @Wv.XW<| bA @Wv.ag8<| bA @Wv.ac8<| bA @Wv.akN<| bA @Wv.akO<| bA @Wv.ag9<| bA @Wv.aha<| bA @Wv.ahb<| bA @Wv.sr<| bA @Wv.amK<| bA @Wv.XY<| bA @Wv.ahc<| bA @Wv.XZ<| bA @Wv.ac9<| bA @Wv.ahd<| bA @Wv.ahe<| bA @Wv.X3<| bA @Wv.ada<| bA @Wv.akP<| bA @Wv.akQ<| bA @Wv.ahf<| bA @Wv.ahg<| bA @Wv.X4<| bA @Wv.adb<| bA @Wv.ade<| bA @Wv.akR<| bA @Wv.akS<| bA @Wv.ahh<| bA @Wv.ahi<| bA @Wv.X5<| bA @Wv.adf<| bA @Wv.adg<| bA @Wv.akT<| bA @Wv.akU<| bA @Wv.ahj<| bA @Wv.ahk<| bA @Wv.X6<| bA @Wv.adh<| bA @Wv.adi<| bA @Wv.akV<| bA @Wv.akW<| bA @Wv.adk<| bA @Wv.ahl<| bA @Wv.adl<| bA @Wv.X7<| bA @Wv.X8<| bA @Wv.lt<| bA @Wv.X9<| bA @Wv.Ya<| bA @Wv.ahm<| bA @Wv.adn<| bA @Wv.Yb<| bA @Wv.mk<| bA @Wv.Yc<| bA @Wv.Yd<| bA @Wv.Ye<| bA @Wv.Tz<| bA @Wv.Yf<| bA @Wv.fd<| bA @Wv.Yg<| bA @Wv.Yh<| @Wv.fl
def Bh:=bA @Wv.Yi<| bA @Wv.Yj<| bA @Wv.amL<| bA @Wv.ahn<| bA @Wv.aho<| bA @Wv.bdx<| bA @Wv.Yk<| bA @Wv.ahp<| bA @Wv.ado<| bA @Wv.Yl<| bA @Wv.adp<| bA @Wv.adq<| bA @Wv.adr<| bA @Wv.Ym<| bA @Wv.akX<| bA @Wv.amM<| bA @Wv.amN<| bA @Wv.Yn<| bA @Wv.Yo<| bA @Wv.akY<| bA @Wv.amO<| bA @Wv.Yp<| bA @Wv.Yq<| bA @Wv.Yr<| bA @Wv.ads<| bA @Wv.adt<| bA @Wv.ahq<| bA @Wv.Yt<| bA @Wv.ahr<| bA @Wv.amP<| bA @Wv.ahs<| bA @Wv.aht<| bA @Wv.Yu<| bA @Wv.Yv<| bA @Wv.ahu<| bA @Wv.TQ<| bA @Wv.TR<| bA @Wv.lk<| bA @Wv.Yw<| bA @Wv.ahv<| bA @Wv.ahw<| bA @Wv.Yx<| bA @Wv.ahx<| bA @Wv.ahy<| bA @Wv.ahz<| bA @Wv.ahA<| bA @Wv.ahB<| bA @Wv.ahC<| bA @Wv.ahD<| bA @Wv.adu<| bA @Wv.ahE<| bA @Wv.adv<| bA @Wv.ahF<| bA @Wv.C9<| bA @Wv.ahG<| bA @Wv.adw<| bA @Wv.up<| bA @Wv.Yy<| bA @Wv.Yz<| bA @Wv.YA<| bA @Wv.YB<| bA @Wv.akZ<| bA @Wv.ak0<| bA @Wv.ahH<| bA @Wv.ak1<| bA @Wv.ak2<| bA @Wv.ak4<| bA @Wv.TU<| bA @Wv.ak5<| @Wv.ak6
def Bi:=bA @Wv.ahI<| bA @Wv.ahJ<| bA @Wv.ahK<| bA @Wv.TW<| bA @Wv.adx<| @Wv.ahL
def Bz:=bA (Wv.WF0 _ rfl)<| bA (Wv.WF1 _ rfl)<| bA (Wv.WF2 _ rfl)<| bA (Wv.WF3 _ rfl)<| bA (Wv.WF4 _ rfl)<| bA (Wv.WF5 _ rfl)<| bA (Wv.WF6 _ rfl)<| bA (Wv.WF7 _ rfl)<| bA (Wv.WF8 _ rfl)<| bA (Wv.WF9 _ rfl)<| bA (Wv.amT _ rfl)<| bA (Wv.amU _ rfl)<| Wv.amV _ rfl
theorem Bv:(∀ k z,Value.cells (.int k z)= #[.int k z])∧(∀ b,Value.cells (.bool b)= #[.bool b])∧(∀ s,Value.cells (.string s)= #[.string s])∧(∀ a,Value.cells (.pointer a)= #[.pointer a])∧(∀ a n c,Value.cells (.slice a n c)= #[.slice a n c])∧(∀ r,Value.cells (.map r)= #[.map r])∧(∀ f a c,Value.cells (.func f a c)= #[.func f a c])∧(Value.cells .nilFunc= #[.nilFunc])∧(∀ T v,Value.cells (.iface T v)= #[.iface T v])∧(Value.cells .nilIface= #[.nilIface])∧(∀ l,Value.cells (.agg l)=l)∧(∀ z,fZ z=z.cells.toList.map .v)∧(∀ o:Oper,aC o=(o.guard.isNone && match o.op with | .alloc _=>true | _=>false)):=
 ⟨fun _ _=>rfl,fun _=>rfl,fun _=>rfl,fun _=>rfl,fun _ _ _=>rfl,fun _=>rfl,fun _ _ _=>rfl,rfl,fun _ _=>rfl,rfl,fun _=>rfl,fun _=>rfl,fun _=>rfl⟩
theorem Bw:(∀ T s cells z,froze (some (.arr T s cells z))=some (.arr T s cells cells.length))∧(∀ c,froze (some (.blk c))=some (.blk c))∧(∀ c,froze (some (.map c))=some (.map c))∧(froze none=none):=
 ⟨fun _ _ _ _=>rfl,fun _=>rfl,fun _=>rfl,rfl⟩
def Bx0:=bA @Wv.mP<| bA @Wv.Xr<| bA @Wv.afl<| bA @Wv.FP<| bA @Wv.FQ<| bA @Wv.iC<| bA @Wv.afm<| bA @Nat.mul_one<| bA @Nat.zero_add<| bA @List.size_toArray.{0}<| bA @decide_true<| bA @List.getElem?_cons_zero.{0}<| bA @List.getElem?_cons_succ.{0}<| bA @List.length_cons.{0}<| bA @List.length_nil.{0}<| bA @List.length_append.{0}<| bA @Option.isNone_none.{0}<| bA @Option.isNone_some.{0}<| bA @Bool.true_and<| bA @Bool.and_false<| @Bool.false_and
def Bx:=bA Bx0 Bv
def B:=bA Ba<| bA Bb<| bA Bc<| bA Bd<| bA Be<| bA Bf<| bA Bg<| bA Bh<| bA Bi<| bA Bz<| bA Bv<| bA Bw<| @Option.some.injEq.{0}
def BC:=bA @implies_true.{0}<| bA @implies_true.{1}<| bA @Wv.ak8<| bA @Wv.YC<| bA @Wv.ahM<| bA @Wv.ak9<| bA @Wv.ala<| bA @Wv.ady<| bA @Wv.ahN<| bA @Wv.adz<| bA @Wv.adA<| bA @Wv.YD<| bA @Wv.adB<| bA @Wv.adC<| bA @and_self<| bA @true_and<| @and_true
theorem BK0:(∀ ks,base ks=kOf ks 1000000)∧(∀ d,kOf [] d=0)∧(∀ i k r d,kOf ((i,k)::r) d=if i=d then k else kOf r d):=⟨fun _=>rfl,fun _=>rfl,fun _ _ _ _=>rfl⟩
def BK:=bA BK0<| bA BC<| bA @Wv.ahO<| bA @Wv.ahP<| bA @Wv.alb<| bA @Wv.alc<| bA @Wv.ale<| bA @Wv.ahR<| bA @Wv.alf<| bA @Wv.adM<| bA @Wv.adL<| bA @Wv.amQ<| bA @Wv.adE<| bA @Wv.ald<| bA @Wv.amR<| bA @Wv.amS<| bA @Wv.ahQ<| bA @Wv.adF<| bA @Wv.YF<| bA @Wv.adG<| bA @Wv.YG<| bA @Wv.adH<| bA @Wv.adI<| bA @Wv.YH<| bA @Wv.adJ<| @Wv.adK
def BL:=bA @BK<| bA @List.take_zero.{0}<| bA @List.take_succ_cons.{0}<| bA @List.take_nil.{0}<| bA @Nat.zero_lt_succ<| bA @Nat.lt_add_one<| bA @Nat.lt_one_iff<| @Nat.one_lt_two
theorem D (h:p:=by first | omega | assumption | (simp only [Wv.Bx,simprocAttr]<;>omega) | fail):p:=h
theorem V (h:p:=by simp (maxSteps:=2000000) (disch:=first|exact Wv.D|fail) only [Wv.B,simprocAttr]):p:=h
theorem V2 (h:p:=by simp (maxSteps:=2000000) (disch:=first|exact Wv.D|fail) only [Wv.B,simprocAttr,Int.natCast_add,Int.natCast_one]):p:=h
variable {P Q:Prop}
theorem W (h:Q) (e:P=Q:=by simp (maxSteps:=2000000) (disch:=first|exact Wv.D|fail) only [Wv.B,simprocAttr]<;>rfl):P:=e▸h
variable {F:Prop}
theorem W1 (f:F) (h:Q) (e:F→P=Q:=by intro f;simp (maxSteps:=2000000) (disch:=first|exact Wv.D|fail) only [Wv.B,simprocAttr,f]<;>rfl):P:=e f▸h
theorem V1 (f:F) (e:F→P:=by intro f;simp (maxSteps:=2000000) (disch:=first|exact Wv.D|fail) only [Wv.B,simprocAttr,f]):P:=e f
variable {G:Prop}
theorem W2 (f:F) (g:G) (h:Q) (e:F→G→P=Q:=by intro f g;simp (maxSteps:=2000000) (disch:=first|exact Wv.D|fail) only [Wv.B,simprocAttr,f,g]<;>rfl):P:=e f g▸h
theorem V2f (f:F) (g:G) (e:F→G→P:=by intro f g;simp (maxSteps:=2000000) (disch:=first|exact Wv.D|fail) only [Wv.B,simprocAttr,f,g]):P:=e f g
variable {K:Prop}
theorem W3 (f:F) (g:G) (k:K) (h:Q) (e:F→G→K→P=Q:=by intro f g k;simp (maxSteps:=2000000) (disch:=first|exact Wv.D|fail) only [Wv.B,simprocAttr,f,g,k]<;>rfl):P:=e f g k▸h
theorem V3 (f:F) (g:G) (k:K) (e:F→G→K→P:=by intro f g k;simp (maxSteps:=2000000) (disch:=first|exact Wv.D|fail) only [Wv.B,simprocAttr,f,g,k]):P:=e f g k
variable {L:Prop}
theorem W4 (f:F) (g:G) (k:K) (l:L) (h:Q) (e:F→G→K→L→P=Q:=by intro f g k l;simp (maxSteps:=2000000) (disch:=first|exact Wv.D|fail) only [Wv.B,simprocAttr,f,g,k,l]<;>rfl):P:=e f g k l▸h
theorem V4 (f:F) (g:G) (k:K) (l:L) (e:F→G→K→L→P:=by intro f g k l;simp (maxSteps:=2000000) (disch:=first|exact Wv.D|fail) only [Wv.B,simprocAttr,f,g,k,l]):P:=e f g k l
theorem W5 {M:Prop} (f:F) (g:G) (k:K) (l:L) (m:M) (h:Q) (e:F→G→K→L→M→P=Q:=by intro f g k l m;simp (maxSteps:=2000000) (disch:=first|exact Wv.D|fail) only [Wv.B,simprocAttr,f,g,k,l,m]<;>rfl):P:=e f g k l m▸h
theorem V5 {M:Prop} (f:F) (g:G) (k:K) (l:L) (m:M) (e:F→G→K→L→M→P:=by intro f g k l m;simp (maxSteps:=2000000) (disch:=first|exact Wv.D|fail) only [Wv.B,simprocAttr,f,g,k,l,m]):P:=e f g k l m
theorem c (h:p:=by simp only [Wv.BC]):p:=h
end
end Go.Proofs.YtljfgdlgmdcmfaaGreat.Wv
namespace Go.Proofs.YtljfgdlgmdcmfaaGreat
section
open Go.RowKit Wv
def yj (c:Int):Bool:=(decide (97≤c) && decide (c≤122)) || (decide (65≤c) && decide (c≤90))
def NW (c:Int):Bool:=decide (48≤c) && decide (c≤57)
def orP (c:Int):Int:=IntKind.u8.wrap (BitVec.ofInt IntKind.u8.bits c ||| BitVec.ofInt IntKind.u8.bits 32).toNat
theorem adW: ∀ n:Fin 256,(decide (97≤orP n.val) && decide (orP n.val≤122))=yj n.val:=by decide+kernel
theorem amW (c:Int) (h0:0≤c) (h1:c<256):(decide (97≤orP c) && decide (orP c≤122))=yj c:=by
 have:=adW ⟨c.toNat,by omega⟩;simp only [Int.toNat_of_nonneg h0] at this;exact this
theorem Dq (c:Int) (h0:0≤c) (h1:c<256):TC Tryz.prog 152 [.v (.int .u8 c)] (.v (.bool (yj c))):=by
 have hl:=amW c h0 h1;unfold orP at hl;refine Wv.TC.by 11 [0,2] [] [.tmp 2] Tryz.func152 rfl rfl rfl ?clo ?_
 case clo=>simp only [Wv.BC]
 by_cases hq:(97:Int)≤IntKind.u8.wrap (BitVec.ofInt IntKind.u8.bits c ||| BitVec.ofInt IntKind.u8.bits 32).toNat
 ·rw [ah hq,Bool.true_and] at hl;exact Wv.V1 hl
 ·rw [aj hq,Bool.false_and] at hl;simp (disch:=first|exact Wv.D|fail) only [Wv.B,simprocAttr, ←hl]
theorem Uf (c:Int):TC Tryz.prog 154 [.v (.int .u8 c)] (.v (.bool (NW c))):=by
 refine Wv.TC.by 9 [0,2] [] [.tmp 2] Tryz.func154 rfl rfl rfl ?clo ?_
 case clo=>simp only [Wv.BC]
 unfold NW;by_cases hq:48≤c
 ·exact Wv.V1 (ah hq)
 ·exact Wv.V1 (aj hq)
theorem Dt (c:Int):TC Tryz.prog 173 [.v (.int .u8 c)] (.v (.bool (yj c))):=by
 refine Wv.TC.by 17 [0,2] [] [.tmp 2] Tryz.func173 rfl rfl rfl ?clo ?_
 case clo=>simp only [Wv.BC]
 unfold yj;cases h1:decide (97≤c)<;>cases h2:decide (c≤122)<;>cases h3:decide (65≤c)<;>cases h4:decide (c≤90)<;>simp (disch:=first|exact Wv.D|fail) only [Wv.B,simprocAttr,h1,h2,h3,h4,Bool.true_or,Bool.false_or,Bool.or_false,Bool.or_true,Bool.and_false]
theorem Ug (c:Int):TC Tryz.prog 176 [.v (.int .u8 c)] (.v (.bool (NW c))):=by
 refine Wv.TC.by 9 [0,2] [] [.tmp 2] Tryz.func176 rfl rfl rfl ?clo ?_
 case clo=>simp only [Wv.BC]
 unfold NW;by_cases hq:48≤c
 ·exact Wv.V1 (ah hq)
 ·exact Wv.V1 (aj hq)
end
section
open Go.RowKit Wv
def bG (n:Nat) (f:Nat→ByteArray):AV:= .t n 1 (tab n fun i=> .v (.string (f i)))
theorem jW (n:Nat) (f:Nat→ByteArray):Clo (bG n f):=by unfold bG;simp only [Wv.BC]
theorem Uh (n:Nat) (f:Nat→ByteArray) (s:ByteArray) (hn:n≤140737488351232):TC Tryz.prog 209 [bG n f, .v (.string s)] (.v (.int .i64 (qU (findF (fun i=>decide (s=f i)) n)))):=by
 unfold bG;refine Wv.TC.by 19 [0,8,7,9,1,5,16,4] [] [.tmp 4] Tryz.func209 rfl rfl rfl ?clo ?_
 case clo=>simp only [Wv.BC]
 refine Wv.W ?_;refine aQ (σ:=Nat) (fun i=>[(0,bG n f),(1, .v (.string s)),(7, .v (.int .i64 n)),(8, .v (.int .i64 i))]) (fun i=>[])
  (fun i=>i≤n∧ ∀ j,j<i→decide (s=f j)=false) (fun i=>n - i) 0 ⟨Nat.zero_le _,fun j hj=>by omega⟩ Wv.V (by simp (disch:=first|exact Wv.D|fail) only [Wv.B,simprocAttr,bG]) ?_
 rintro i ⟨hi,hb⟩;unfold bG;by_cases hlt:i<n
 ·have e1:(i:Int)<n:=by omega
  cases hq:decide (s=f i) with
  | true=>
   have hf:=iF (p:=fun i=>decide (s=f i)) hlt hq hb;simp (disch:=first|exact Wv.D|fail) only [Wv.B,simprocAttr,hq,hf,qU]
  | false=>
   refine Wv.W1 hq ?_;refine au (i+1) ⟨by omega,fun j hj=>?_⟩ (by omega) Wv.V Wv.V2;by_cases e:j=i
   ·subst e;exact hq
   ·exact hb j (by omega)
 ·have hin:i=n:=by omega
  subst hin;have hf:=gq (p:=fun i=>decide (s=f i)) hb;simp (disch:=first|exact Wv.D|fail) only [Wv.B,simprocAttr,hf,qU]
theorem wJ (n:Nat) (f:Nat→ByteArray) (s:ByteArray) (hn:n≤140737488351232):TC Tryz.prog 153 [bG n f, .v (.string s)] (.v (.bool (aI n fun i=>decide (s=f i)))):=by
 refine Wv.TC.by 9 [0,1,4] [] [.tmp 4] Tryz.func153 rfl rfl rfl ?clo ?_
 case clo=>simp only [Wv.BC]
 refine Wv.W ?_;refine ak (Uh n f s hn) rfl (by simp only [Wv.BC,jW]) Wv.c ?_;exact Wv.V1 @qV
theorem NY {h:Hp} (n:Nat) (f:Nat→ByteArray) (p:Nat→Bool) (fid:FuncId) (fst cap:List AV) (hn:n≤140737488351232) (hp: ∀ i,i<n→HT Tryz.prog fid (fst++[.v (.string (f i))]++cap) h (fun r h'=>r= .v (.bool (p i))∧h'=h)):
  HT Tryz.prog 155 [bG n f, .fn (.func fid) fst cap] h (fun r h'=>r= .v (.int .i64 (qU (findF p n)))∧h'=h):=by
 unfold bG;refine Wv.HT.by 19 [0,8,7,9,1,5,16,4] [(1000000,h.length)] [.tmp 4] Tryz.func155 rfl rfl rfl ?base ?_
 case base=>rfl
 refine Wv.W ?_;refine aQ (σ:=Nat) (fun i=>[(0,bG n f),(1, .fn (.func fid) fst cap),(7, .v (.int .i64 n)),(8, .v (.int .i64 i))]) (fun i=>h)
  (fun i=>i≤n∧ ∀ j,j<i→p j=false) (fun i=>n - i) 0 ⟨Nat.zero_le _,fun j hj=>by omega⟩ rfl (by simp (disch:=first|exact Wv.D|fail) only [Wv.B,simprocAttr,bG]) ?_
 rintro i ⟨hi,hb⟩;unfold bG;by_cases hlt:i<n
 ·have e1:(i:Int)<n:=by omega
  refine Wv.W ?_;refine aB (hp i hlt) ?_;rintro av h' ⟨rfl,rfl⟩;cases hq:p i with
  | true=>
   have hf:=iF hlt hq hb;simp (disch:=first|exact Wv.D|fail) only [Wv.B,simprocAttr,hq,hf,qU]
  | false=>
   refine Wv.W1 hq ?_;refine au (i+1) ⟨by omega,fun j hj=>?_⟩ (by omega) rfl Wv.V2;by_cases e:j=i
   ·subst e;exact hq
   ·exact hb j (by omega)
 ·have hin:i=n:=by omega
  subst hin;have hf:=gq hb;simp (disch:=first|exact Wv.D|fail) only [Wv.B,simprocAttr,hf,qU]
end
section
open Go.RowKit Wv
variable {h:Hp}
theorem NZ (n:Nat) (f:Nat→Int) (p:Nat→Bool) (fid:FuncId) (fst cap:List AV) (hn:n≤140737488351232) (hp: ∀ i,i<n→HT Tryz.prog fid (fst++[.v (.int .i64 (f i))]++cap) h (fun r h'=>r= .v (.bool (p i))∧h'=h)):
  HT Tryz.prog 210 [.t n 1 (tab n fun i=> .v (.int .i64 (f i))), .fn (.func fid) fst cap] h (fun r h'=>r= .v (.int .i64 (qU (findF p n)))∧h'=h):=by
 refine Wv.HT.by 19 [0,8,7,9,1,5,16,4] [(1000000,h.length)] [.tmp 4] Tryz.func210 rfl rfl rfl ?base ?_
 case base=>rfl
 refine Wv.W ?_;refine aQ (σ:=Nat) (fun i=>[(0, .t n 1 (tab n fun i=> .v (.int .i64 (f i)))),(1, .fn (.func fid) fst cap),(7, .v (.int .i64 n)),(8, .v (.int .i64 i))]) (fun i=>h)
  (fun i=>i≤n∧ ∀ j,j<i→p j=false) (fun i=>n - i) 0 ⟨Nat.zero_le _,fun j hj=>by omega⟩ rfl Wv.V ?_
 rintro i ⟨hi,hb⟩;by_cases hlt:i<n
 ·have e1:(i:Int)<n:=by omega
  refine Wv.W ?_;refine aB (hp i hlt) ?_;rintro av h' ⟨rfl,rfl⟩;cases hq:p i with
  | true=>
   have hf:=iF hlt hq hb;simp (disch:=first|exact Wv.D|fail) only [Wv.B,simprocAttr,hq,hf,qU]
  | false=>
   refine Wv.W1 hq ?_;refine au (i+1) ⟨by omega,fun j hj=>?_⟩ (by omega) rfl Wv.V2;by_cases e:j=i
   ·subst e;exact hq
   ·exact hb j (by omega)
 ·have hin:i=n:=by omega
  subst hin;have hf:=gq hb;simp (disch:=first|exact Wv.D|fail) only [Wv.B,simprocAttr,hf,qU]
theorem yu (n:Nat) (f:Nat→Int) (p:Nat→Bool) (fid:FuncId) (fst cap:List AV) (hn:n≤140737488351232) (hp: ∀ i,i<n→HT Tryz.prog fid (fst++[.v (.int .i64 (f i))]++cap) h (fun r h'=>r= .v (.bool (p i))∧h'=h)):
  HT Tryz.prog 159 [.t n 1 (tab n fun i=> .v (.int .i64 (f i))), .fn (.func fid) fst cap] h (fun r h'=>r= .v (.bool (aI n p))∧h'=h):=by
 refine Wv.HT.by 9 [0,1,4] [(1000000,h.length)] [.tmp 4] Tryz.func159 rfl rfl rfl ?base ?_
 case base=>rfl
 refine Wv.W ?_;refine aB (fst:=[]) (cap:=[]) (NZ n f p fid fst cap hn hp) ?_;rintro av h' ⟨rfl,rfl⟩;exact Wv.V1 @qV
theorem N7 (n:Nat) (cells:List AV) (ec:Nat→List AV) (hl:cells.length=n*5) (hel: ∀ i,i<n→List.take 5 (List.drop (i*5) cells)=ec i) (p:Nat→Bool) (fid:FuncId) (fst cap:List AV) (hn:n≤140737488351232) (hp: ∀ i,i<n→HT Tryz.prog fid (fst++[.g (ec i)]++cap) h (fun r h'=>r= .v (.bool (p i))∧h'=h)):
  HT Tryz.prog 211 [.t n 5 cells, .fn (.func fid) fst cap] h (fun r h'=>r= .v (.int .i64 (qU (findF p n)))∧h'=h):=by
 refine Wv.HT.by 19 [0,8,7,9,1,5,16,4] [(1000000,h.length)] [.tmp 4] Tryz.func211 rfl rfl rfl ?base ?_
 case base=>rfl
 refine Wv.W ?_;refine aQ (σ:=Nat) (fun i=>[(0, .t n 5 cells),(1, .fn (.func fid) fst cap),(7, .v (.int .i64 n)),(8, .v (.int .i64 i))]) (fun i=>h)
  (fun i=>i≤n∧ ∀ j,j<i→p j=false) (fun i=>n - i) 0 ⟨Nat.zero_le _,fun j hj=>by omega⟩ rfl Wv.V ?_
 rintro i ⟨hi,hb⟩;by_cases hlt:i<n
 ·have e1:(i:Int)<n:=by omega
  have hi2:=hel i hlt;have hlen:5≤(List.drop (i*5) cells).length:=by rw [List.length_drop,hl];omega
  refine Wv.W1 hi2 ?_;refine aB (hp i hlt) ?_;rintro av h' ⟨rfl,rfl⟩;cases hq:p i with
  | true=>
   have hf:=iF hlt hq hb;simp (disch:=first|exact Wv.D|fail) only [Wv.B,simprocAttr,hq,hf,qU]
  | false=>
   refine Wv.W1 hq ?_;refine au (i+1) ⟨by omega,fun j hj=>?_⟩ (by omega) rfl Wv.V2;by_cases e:j=i
   ·subst e;exact hq
   ·exact hb j (by omega)
 ·have hin:i=n:=by omega
  subst hin;have hf:=gq hb;simp (disch:=first|exact Wv.D|fail) only [Wv.B,simprocAttr,hf,qU]
theorem Ui (n:Nat) (cells:List AV) (ec:Nat→List AV) (hl:cells.length=n*5) (hel: ∀ i,i<n→List.take 5 (List.drop (i*5) cells)=ec i) (p:Nat→Bool) (fid:FuncId) (fst cap:List AV) (hn:n≤140737488351232) (hp: ∀ i,i<n→HT Tryz.prog fid (fst++[.g (ec i)]++cap) h (fun r h'=>r= .v (.bool (p i))∧h'=h)):
  HT Tryz.prog 161 [.t n 5 cells, .fn (.func fid) fst cap] h (fun r h'=>r= .v (.bool (aI n p))∧h'=h):=by
 refine Wv.HT.by 9 [0,1,4] [(1000000,h.length)] [.tmp 4] Tryz.func161 rfl rfl rfl ?base ?_
 case base=>rfl
 refine Wv.W ?_;refine aB (fst:=[]) (cap:=[]) (N7 n cells ec hl hel p fid fst cap hn hp) ?_;rintro av h' ⟨rfl,rfl⟩;exact Wv.V1 @qV
theorem N8 (n:Nat) (cells:List AV) (ec:Nat→List AV) (hl:cells.length=n*6) (hel: ∀ i,i<n→List.take 6 (List.drop (i*6) cells)=ec i) (p:Nat→Bool) (fid:FuncId) (fst cap:List AV) (hn:n≤140737488351232) (hp: ∀ i,i<n→HT Tryz.prog fid (fst++[.g (ec i)]++cap) h (fun r h'=>r= .v (.bool (p i))∧h'=h)):
  HT Tryz.prog 156 [.t n 6 cells, .fn (.func fid) fst cap] h (fun r h'=>r= .v (.int .i64 (qU (findF p n)))∧h'=h):=by
 refine Wv.HT.by 19 [0,8,7,9,1,5,16,4] [(1000000,h.length)] [.tmp 4] Tryz.func156 rfl rfl rfl ?base ?_
 case base=>rfl
 refine Wv.W ?_;refine aQ (σ:=Nat) (fun i=>[(0, .t n 6 cells),(1, .fn (.func fid) fst cap),(7, .v (.int .i64 n)),(8, .v (.int .i64 i))]) (fun i=>h)
  (fun i=>i≤n∧ ∀ j,j<i→p j=false) (fun i=>n - i) 0 ⟨Nat.zero_le _,fun j hj=>by omega⟩ rfl Wv.V ?_
 rintro i ⟨hi,hb⟩;by_cases hlt:i<n
 ·have e1:(i:Int)<n:=by omega
  have hi2:=hel i hlt;have hlen:6≤(List.drop (i*6) cells).length:=by rw [List.length_drop,hl];omega
  refine Wv.W1 hi2 ?_;refine aB (hp i hlt) ?_;rintro av h' ⟨rfl,rfl⟩;cases hq:p i with
  | true=>
   have hf:=iF hlt hq hb;simp (disch:=first|exact Wv.D|fail) only [Wv.B,simprocAttr,hq,hf,qU]
  | false=>
   refine Wv.W1 hq ?_;refine au (i+1) ⟨by omega,fun j hj=>?_⟩ (by omega) rfl Wv.V2;by_cases e:j=i
   ·subst e;exact hq
   ·exact hb j (by omega)
 ·have hin:i=n:=by omega
  subst hin;have hf:=gq hb;simp (disch:=first|exact Wv.D|fail) only [Wv.B,simprocAttr,hf,qU]
theorem Uj (n:Nat) (cells:List AV) (ec:Nat→List AV) (hl:cells.length=n*6) (hel: ∀ i,i<n→List.take 6 (List.drop (i*6) cells)=ec i) (p:Nat→Bool) (fid:FuncId) (fst cap:List AV) (hn:n≤140737488351232) (hp: ∀ i,i<n→HT Tryz.prog fid (fst++[.g (ec i)]++cap) h (fun r h'=>r= .v (.bool (p i))∧h'=h)):
  HT Tryz.prog 106 [.t n 6 cells, .fn (.func fid) fst cap] h (fun r h'=>r= .v (.bool (aI n p))∧h'=h):=by
 refine Wv.HT.by 9 [0,1,4] [(1000000,h.length)] [.tmp 4] Tryz.func106 rfl rfl rfl ?base ?_
 case base=>rfl
 refine Wv.W ?_;refine aB (fst:=[]) (cap:=[]) (N8 n cells ec hl hel p fid fst cap hn hp) ?_;rintro av h' ⟨rfl,rfl⟩;exact Wv.V1 @qV
theorem FV (n:Nat) (f:Nat→ByteArray) (p:Nat→Bool) (fid:FuncId) (fst cap:List AV) (hn:n≤140737488351232) (hp: ∀ i,i<n→HT Tryz.prog fid (fst++[.v (.string (f i))]++cap) h (fun r h'=>r= .v (.bool (p i))∧h'=h)):
  HT Tryz.prog 104 [bG n f, .fn (.func fid) fst cap] h (fun r h'=>r= .v (.bool (aI n p))∧h'=h):=by
 unfold bG;refine Wv.HT.by 9 [0,1,4] [(1000000,h.length)] [.tmp 4] Tryz.func104 rfl rfl rfl ?base ?_
 case base=>rfl
 refine Wv.W ?_;refine aB (fst:=[]) (cap:=[]) (NY n f p fid fst cap hn hp) ?_;rintro av h' ⟨rfl,rfl⟩;exact Wv.V1 @qV
end
section
open Go.RowKit Wv
def byt (b:ByteArray) (i:Nat):Int:=((b[i]?).map fun c=>(c.toNat:Int)).getD 0
theorem Ik {b:ByteArray} {i:Nat} (h:i<b.size): ∃ c:UInt8,b[i]? =some c∧(c.toNat:Int)=byt b i:=by
 refine ⟨b[i],getElem?_pos b i h,?_⟩;unfold byt;rw [getElem?_pos b i h];rfl
theorem YN (b:ByteArray) (i:Nat):0≤byt b i∧byt b i<256:=by
 unfold byt;cases b[i]? with
 | none=>exact ⟨Int.le_refl 0,by decide⟩
 | some c=>
  have h:c.toNat<256:=c.toNat_lt;show 0≤((c.toNat:Nat):Int)∧((c.toNat:Nat):Int)<256;exact ⟨Int.natCast_nonneg _,Int.ofNat_lt.2 h⟩
theorem YO (b:ByteArray):Hr b=tab b.size fun i=> .v (.int .u8 (byt b i)):=by
 apply List.ext_getElem
 ·unfold Hr tab;rw [List.length_map,List.length_map,List.length_range];rfl
 ·intro i h1 h2;have hi:i<b.size:=by simpa [Hr] using h1
  obtain ⟨c,hc,hb⟩:=Ik hi;have hc':b.data[i]'hi=c:=by
   rw [getElem?_pos b i hi] at hc;exact Option.some.inj hc
  simp [Hr,tab, ←hb,hc']
def w4 (i:Nat):ByteArray:=match i with | 0=>⟨#[99,105,114,99,117,105,116]⟩ | 1=>⟨#[105,110,112,117,116]⟩ | 2=>⟨#[108,101,116]⟩ | _=>⟨#[111,117,116,112,117,116]⟩
def w8 (i:Nat):ByteArray:=match i with | 0=>⟨#[114,111,116]⟩ | 1=>⟨#[115,119,97,112]⟩ | 2=>⟨#[109,97,115,107]⟩ | 3=>⟨#[116,97,98,108,101]⟩ | 4=>⟨#[101,113]⟩ | 5=>⟨#[108,101,115,115]⟩ | 6=>⟨#[112,111,119]⟩ | _=>⟨#[115,117,109]⟩
def w16 (i:Nat):ByteArray:=if i<8 then ⟨#[]⟩ else w8 (i - 8)
def w12 (i:Nat):ByteArray:=if i<4 then w4 i else w8 (i - 4)
def kJ (s:ByteArray) (i:Nat):Bool:=yj (byt s i) || (NW (byt s i) || decide (byt s i=95))
def nameB (s:ByteArray):Bool:=!(decide (s=⟨#[]⟩) || (decide (16<s.size) || (!yj (byt s 0) || (aI 4 (fun i=>decide (s=w4 i)) || aI 16 (fun i=>decide (s=w16 i)))))) && !aI s.size fun i=>!kJ s i
theorem N9 (s:ByteArray) (h:s≠⟨#[]⟩):(aI 4 (fun i=>decide (s=w4 i)) || aI 16 (fun i=>decide (s=w16 i)))=aI 12 (fun i=>decide (s=w12 i)):=by
 simp [aI,List.range,List.range.loop,w16,w12,h,Bool.or_assoc]
theorem adX:(Tryz.prog.underlying 9).isSome=true:=by kernel_rfl
theorem YP:TC Tryz.prog 151 [] (.g [.v (.string ⟨#[]⟩), .v (.string ⟨#[]⟩), .v (.string ⟨#[]⟩), .v (.string ⟨#[]⟩), .v (.string ⟨#[]⟩), .v (.string ⟨#[]⟩), .v (.string ⟨#[]⟩), .v (.string ⟨#[]⟩), .v (.string ⟨#[114,111,116]⟩), .v (.string ⟨#[115,119,97,112]⟩), .v (.string ⟨#[109,97,115,107]⟩), .v (.string ⟨#[116,97,98,108,101]⟩), .v (.string ⟨#[101,113]⟩), .v (.string ⟨#[108,101,115,115]⟩), .v (.string ⟨#[112,111,119]⟩), .v (.string ⟨#[115,117,109]⟩)]):=by
 refine Wv.TC.by 2 [0] [] [.cell 0 191] Tryz.func151 rfl rfl rfl ?clo ?_
 case clo=>simp only [Wv.BC]
 exact Wv.V
theorem KF (s:ByteArray) (hs:s.size≤140737488351232):TC Tryz.prog 103 [.v (.string s)] (.v (.bool (nameB s))):=by
 refine Wv.TC.by 50 [0,3,29,33,32,34,31,5,48,2] [] [.tmp 2] Tryz.func103 rfl rfl rfl ?clo ?_
 case clo=>simp only [Wv.BC]
 refine Wv.W ?_;refine ak YP rfl Wv.c Wv.c ?_;have hN:nameB s=(!(decide (s=⟨#[]⟩) || (decide (16<s.size) || (!yj (byt s 0) || (aI 4 (fun i=>decide (s=w4 i)) || aI 16 (fun i=>decide (s=w16 i)))))) && !aI s.size fun i=>!kJ s i):=rfl;cases h1:decide (s=⟨#[]⟩) with
 | true=>
  rw [h1,Bool.true_or,Bool.not_true,Bool.false_and] at hN;simp (disch:=first|exact Wv.D|fail) only [Wv.B,simprocAttr,h1,hN]
 | false=>
  cases h2:decide (16<s.size) with
  | true=>
   have h2':(16:Int)<s.size:=by have:=of_decide_eq_true h2;omega
   rw [h1,h2,Bool.false_or,Bool.true_or,Bool.not_true,Bool.false_and] at hN;simp (disch:=first|exact Wv.D|fail) only [Wv.B,simprocAttr,h1,h2,ah h2',hN]
  | false=>
   have h2': ¬ (16:Int)<s.size:=by have:=of_decide_eq_false h2;omega
   have hsz:s.size≠0:=fun e=>of_decide_eq_false h1 (by cases s with | mk d=>simp [ByteArray.size] at e;rw [e])
   obtain ⟨c,hc,hb⟩:=Ik (b:=s) (i:=0) (by omega);have hg:=YN s 0;refine Wv.W5 h1 h2 (aj h2') hc hb ?_;refine ak (Dq (byt s 0) hg.1 hg.2) rfl Wv.c Wv.c ?_;cases h3:yj (byt s 0) with
   | false=>
    rw [h1,h2,h3,Bool.false_or,Bool.false_or,Bool.not_false,Bool.true_or,Bool.not_true,Bool.false_and] at hN;simp (disch:=first|exact Wv.D|fail) only [Wv.B,simprocAttr,hN]
   | true=>
    refine Wv.W ?_;refine ak (wJ 4 w4 s (by omega)) rfl (by simp only [Wv.BC,jW]) Wv.c ?_;cases h4:aI 4 (fun i=>decide (s=w4 i)) with
    | true=>
     rw [h1,h2,h3,h4,Bool.false_or,Bool.false_or,Bool.not_true,Bool.false_or,Bool.true_or,Bool.not_true,Bool.false_and] at hN;simp (disch:=first|exact Wv.D|fail) only [Wv.B,simprocAttr,hN]
    | false=>
     refine Wv.W ?_;refine ak (wJ 16 w16 s (by omega)) rfl (by simp only [Wv.BC,jW]) Wv.c ?_;cases h5:aI 16 (fun i=>decide (s=w16 i)) with
     | true=>
      rw [h1,h2,h3,h4,h5,Bool.false_or,Bool.false_or,Bool.not_true,Bool.false_or,Bool.false_or,Bool.not_true,Bool.false_and] at hN;simp (disch:=first|exact Wv.D|fail) only [Wv.B,simprocAttr,hN]
     | false=>
      rw [h1,h2,h3,h4,h5,Bool.false_or,Bool.false_or,Bool.not_true,Bool.false_or,Bool.false_or,Bool.not_false,Bool.true_and] at hN;clear h1 h2 h3 h4 h5 hc hb hg;simp (disch:=first|exact Wv.D|fail) only [Wv.B,simprocAttr,Wv.Yv adX hs,YO];refine aQ (σ:=Nat) (fun i=>[(0, .v (.string s)),(31, .t s.size 1 (tab s.size fun i=> .v (.int .u8 (byt s i)))),(32, .v (.int .i64 s.size)),(33, .v (.int .i64 i))]) (fun i=>[none,some (.arr 9 1 [.v (.string ⟨#[99,105,114,99,117,105,116]⟩), .v (.string ⟨#[105,110,112,117,116]⟩), .v (.string ⟨#[108,101,116]⟩), .v (.string ⟨#[111,117,116,112,117,116]⟩)] 4)])
       (fun i=>i≤s.size∧ ∀ j,j<i→kJ s j=true) (fun i=>s.size - i) 0 ⟨Nat.zero_le _,fun j hj=>by omega⟩ Wv.V Wv.V ?_
      rintro i ⟨hi,hj⟩;by_cases hlt:i<s.size
      ·have e1:(i:Int)<s.size:=by omega
       have hg:=YN s i;refine Wv.W ?_;refine ak (Dq (byt s i) hg.1 hg.2) rfl Wv.c Wv.c ?_;cases h3:yj (byt s i) with
       | true=>
        refine Wv.W ?_;refine au (i+1) ⟨by omega,fun j q=>?_⟩ (by omega) Wv.V Wv.V2;by_cases e:j=i
        ·subst e;unfold kJ;rw [h3];rfl
        ·exact hj j (by omega)
       | false=>
        refine Wv.W ?_;refine ak (Uf (byt s i)) rfl Wv.c Wv.c ?_;cases h4:NW (byt s i) with
        | true=>
         refine Wv.W ?_;refine au (i+1) ⟨by omega,fun j q=>?_⟩ (by omega) Wv.V Wv.V2;by_cases e:j=i
         ·subst e;unfold kJ;rw [h3,h4];rfl
         ·exact hj j (by omega)
        | false=>
         cases h5:decide (byt s i=95) with
         | true=>
          refine Wv.W1 h5 ?_;refine au (i+1) ⟨by omega,fun j q=>?_⟩ (by omega) Wv.V Wv.V2;by_cases e:j=i
          ·subst e;unfold kJ;rw [h3,h4,h5];rfl
          ·exact hj j (by omega)
         | false=>
          have:nameB s=false:=by
           rw [hN];have:aI s.size (fun i=>!kJ s i)=true:=by
            unfold aI;refine List.any_eq_true.2 ⟨i,List.mem_range.2 hlt,?_⟩;unfold kJ;rw [h3,h4,h5];rfl
           rw [this];rfl
          simp (disch:=first|exact Wv.D|fail) only [Wv.B,simprocAttr,h5,this]
      ·have hin:i=s.size:=by omega
       subst hin;have:nameB s=true:=by
        rw [hN];have:aI s.size (fun i=>!kJ s i)=false:=by
         unfold aI;refine List.any_eq_false.2 fun i hi=>?_
         rw [hj i (List.mem_range.1 hi)];decide
        rw [this];rfl
       simp (disch:=first|exact Wv.D|fail) only [Wv.B,simprocAttr,this]
end
section
open Go.RowKit Wv
inductive Ex where
 | nil
 | mk (k:Int) (s:ByteArray) (n:Int) (nl:Nat) (li:Nat→Int) (na:Nat) (ar:Nat→Ex)
def cO (n:Nat) (f:Nat→List AV):List AV:=(List.range n).flatMap f
theorem kT (n:Nat) (f:Nat→List AV):cO (n+1) f=cO n f++f n:=by
 unfold cO;rw [List.range_succ,List.flatMap_append];simp
theorem mQ {m:Nat}: ∀ {n:Nat} {f:Nat→List AV},(∀ i,(f i).length=m)→(cO n f).length=n*m
 | 0,f,h=>by simp [cO]
 | n+1,f,h=>by rw [kT,List.length_append,mQ h,h n,Nat.add_mul,Nat.one_mul]
theorem AA {m:Nat}: ∀ {n:Nat} {f:Nat→List AV},(∀ i,(f i).length=m)→ ∀ i,i<n→List.take m (List.drop (i*m) (cO n f))=f i
 | 0,f,h,i,hi=>by omega
 | n+1,f,h,i,hi=>by
  rw [kT];have hl:=mQ (n:=n) h;by_cases e:i=n
  ·subst e;rw [←hl,List.drop_left, ←h i,List.take_length]
  ·have hi':i<n:=by omega
   have:i*m+m≤n*m:=by rw [←Nat.succ_mul];exact Nat.mul_le_mul_right _ (by omega)
   rw [List.drop_append_of_le_length (by omega),List.take_append_of_le_length (by rw [List.length_drop];omega)];exact AA h i hi'
theorem bH {m n:Nat} {f:Nat→List AV} (h: ∀ i,(f i).length=m) {i:Nat} (hi:i<n): ∃ r,List.drop (i*m) (cO n f)=f i++r:=by
 refine ⟨List.drop m (List.drop (i*m) (cO n f)),?_⟩;have:=AA h i hi;rw [←this];exact (List.take_append_drop m _).symm
theorem dw {n:Nat} {f:Nat→List AV} (h: ∀ i,i<n→ ∀ a,a∈f i→Clo a): ∀ a,a∈cO n f→Clo a:=by
 intro a ha;unfold cO at ha;obtain ⟨i,h1,h2⟩:=List.mem_flatMap.1 ha;exact h i (List.mem_range.1 h1) a h2
theorem dR {a:AV} (h1:Clo a): ∀ x,x∈[a]→Clo x:=by simp only [Wv.BC];exact h1
def Ex.kind:Ex→Int
 | .nil=>0
 | .mk k .. =>k
def exC:Ex→List AV
 | .nil=>[.v (.int .i64 0), .v (.string ⟨#[]⟩), .v (.int .i64 0), .t 0 1 [], .t 0 5 []]
 | .mk k s n nl li na ar=>[.v (.int .i64 k), .v (.string s), .v (.int .i64 n), .t nl 1 (tab nl fun i=> .v (.int .i64 (li i))), .t na 5 (cO na fun i=>exC (ar i))]
theorem dh (k:Int) (s:ByteArray) (n:Int) (nl:Nat) (li:Nat→Int) (na:Nat) (ar:Nat→Ex):exC (.mk k s n nl li na ar)=[.v (.int .i64 k), .v (.string s), .v (.int .i64 n), .t nl 1 (tab nl fun i=> .v (.int .i64 (li i))), .t na 5 (cO na fun i=>exC (ar i))]:=rfl
theorem gJ (x:Ex):(exC x).length=5:=by cases x<;>rfl
theorem eX: ∀ (x:Ex) a,a∈exC x→Clo a:=by
 intro x;induction x with
 | nil=>unfold exC;simp only [Wv.BC]
 | mk k s n nl li na ar ih=>
  unfold exC;have h:=dw (n:=na) (f:=fun i=>exC (ar i)) fun i _=>ih i
  intro a ha;simp only [List.mem_cons,List.not_mem_nil,or_false] at ha;rcases ha with rfl | rfl | rfl | rfl | rfl
  ·simp only [Wv.BC]
  ·simp only [Wv.BC]
  ·simp only [Wv.BC]
  ·simp only [Wv.BC]
  ·simp only [Wv.BC];exact h
theorem bU (x:Ex):Clo (.g (exC x)):=by simp only [Wv.BC];exact eX x
def okE:Ex→Prop
 | .nil=>False
 | .mk k s n nl li na ar=>s.size≤140737488351232∧nl≤140737488351232∧na≤140737488351232∧ ∀ i,i<na→okE (ar i)
theorem lQ {x:Ex} (h:okE x): ∃ k s n nl li na ar,x= .mk k s n nl li na ar:=by
 cases x with
 | nil=>exact h.elim
 | mk k s n nl li na ar=>exact ⟨k,s,n,nl,li,na,ar,rfl⟩
def inB (n:Int):Bool:=decide (-4294967295≤n) && decide (n≤4294967295)
def argN (k:Nat):Int:=match k with | 4=>2 | 5=>2 | 6=>1 | 7=>2 | 8=>1 | 9=>1 | 10=>1 | 11=>1 | 12=>2 | 13=>1 | 14=>1 | 15=>1 | _=>0
def Du (k:Nat):Bool:=match k with | 2=>true | 8=>true | 13=>true | 14=>true | _=>false
def Dv (k:Nat):Bool:=match k with | 3=>true | 10=>true | 11=>true | _=>false
def aW:Ex→Bool
 | .nil=>false
 | .mk k s n nl li na ar=>!decide (k<1) && (!decide (15<k) && ((if k=1 then nameB s else decide (s=⟨#[]⟩)) && (decide ((na:Int)=argN k.toNat) && ((Du k.toNat || decide (n=0)) && ((Dv k.toNat || decide ((nl:Int)=0)) && (inB n && (!aI nl (fun i=>!inB (li i)) && !aI na fun i=>!aW (ar i))))))))
theorem Dw (n:Int):TC Tryz.prog 158 [.v (.int .i64 n)] (.v (.bool (inB n))):=by
 refine Wv.TC.by 9 [0,2] [] [.tmp 2] Tryz.func158 rfl rfl rfl ?clo ?_
 case clo=>simp only [Wv.BC]
 unfold inB;by_cases hq: -4294967295≤n
 ·exact Wv.V1 (ah hq)
 ·exact Wv.V1 (aj hq)
theorem KG (n:Int):TC Tryz.prog 160 [.v (.int .i64 n)] (.v (.bool (!inB n))):=by
 refine Wv.TC.by 6 [0,2] [] [.tmp 2] Tryz.func160 rfl rfl rfl ?clo ?_
 case clo=>simp only [Wv.BC]
 refine Wv.W ?_;refine ak (Dw n) rfl Wv.c Wv.c ?_;exact Wv.V
def wK:List AV:= .v (.int .i64 0):: .v (.bool false):: .v (.bool false):: .v (.int .i64 0):: .v (.bool false):: .v (.bool false):: .v (.int .i64 0):: .v (.bool true):: .v (.bool false):: .v (.int .i64 0):: .v (.bool false):: .v (.bool true):: .v (.int .i64 2):: .v (.bool false):: .v (.bool false):: .v (.int .i64 2):: .v (.bool false):: .v (.bool false):: .v (.int .i64 1):: .v (.bool false):: .v (.bool false):: .v (.int .i64 2):: .v (.bool false):: .v (.bool false):: .v (.int .i64 1):: .v (.bool true):: .v (.bool false):: .v (.int .i64 1):: .v (.bool false):: .v (.bool false):: .v (.int .i64 1):: .v (.bool false):: .v (.bool true):: .v (.int .i64 1):: .v (.bool false):: .v (.bool true):: .v (.int .i64 2):: .v (.bool false):: .v (.bool false):: .v (.int .i64 1):: .v (.bool true):: .v (.bool false):: .v (.int .i64 1):: .v (.bool true):: .v (.bool false):: .v (.int .i64 1):: .v (.bool false):: .v (.bool false)::[]
theorem YQ: ∀ m:Nat,m<16→ ∃ r,List.drop (m*3) wK= .v (.int .i64 (argN m)):: .v (.bool (Du m)):: .v (.bool (Dv m))::r
 | 0,_=>⟨_,rfl⟩ | 1,_=>⟨_,rfl⟩ | 2,_=>⟨_,rfl⟩ | 3,_=>⟨_,rfl⟩ | 4,_=>⟨_,rfl⟩ | 5,_=>⟨_,rfl⟩ | 6,_=>⟨_,rfl⟩ | 7,_=>⟨_,rfl⟩ | 8,_=>⟨_,rfl⟩ | 9,_=>⟨_,rfl⟩ | 10,_=>⟨_,rfl⟩ | 11,_=>⟨_,rfl⟩ | 12,_=>⟨_,rfl⟩ | 13,_=>⟨_,rfl⟩ | 14,_=>⟨_,rfl⟩ | 15,_=>⟨_,rfl⟩
 | n+16,h=>by omega
theorem YR:TC Tryz.prog 157 [] (.g wK):=by
 refine Wv.TC.by 17 [0] [] [.cell 0 200] Tryz.func157 rfl rfl rfl ?clo ?_
 case clo=>unfold wK;simp only [Wv.BC]
 simp (disch:=first|exact Wv.D|fail) only [Wv.B,simprocAttr,wK]
theorem KH (x:Ex) (hx:okE x) (b:Bool) (T:TC Tryz.prog 108 [.g (exC x)] (.v (.bool b))):TC Tryz.prog 162 [.g (exC x)] (.v (.bool (!b))):=by
 refine Wv.TC.by 6 [0,1,2] [] [.tmp 2] Tryz.func162 rfl rfl rfl ?clo ?_
 case clo=>simp only [Wv.BC]
 obtain ⟨k,s,n,nl,li,na,ar,rfl⟩:=lQ hx;have hG:=bU (.mk k s n nl li na ar);unfold exC at T hG ⊢;refine Wv.W ?_;refine ak T rfl (dR hG) Wv.c ?_;exact Wv.V
theorem Oa (x:Ex) (h:okE x):TC Tryz.prog 108 [.g (exC x)] (.v (.bool (aW x))):=by
 induction x with
 | nil=>exact h.elim
 | mk k s n nl li na ar ih=>
 obtain ⟨hs,hnl,hna,hh⟩:=h;refine Wv.TC.by 73 [0,1,14,3,24,5,4,2] [] [.tmp 2] Tryz.func108 rfl rfl rfl ?clo ?_
 case clo=>simp only [Wv.BC]
 unfold exC;refine Wv.W ?_;refine ak YR rfl Wv.c (by unfold wK;simp only [Wv.BC]) ?_;have hN:aW (.mk k s n nl li na ar)=(!decide (k<1) && (!decide (15<k) && ((if k=1 then nameB s else decide (s=⟨#[]⟩)) && (decide ((na:Int)=argN k.toNat) && ((Du k.toNat || decide (n=0)) && ((Dv k.toNat || decide ((nl:Int)=0)) && (inB n && (!aI nl (fun i=>!inB (li i)) && !aI na fun i=>!aW (ar i))))))))):=rfl;by_cases h1:k<1
 ·rw [ah h1,Bool.not_true,Bool.false_and] at hN;simp (disch:=first|exact Wv.D|fail) only [Wv.B,simprocAttr,wK,ah h1,hN]
 by_cases h2:15<k
 ·rw [aj h1,ah h2,Bool.not_true,Bool.false_and,Bool.not_false,Bool.true_and] at hN;simp (disch:=first|exact Wv.D|fail) only [Wv.B,simprocAttr,wK,aj h1,ah h2,hN]
 rw [aj h1,aj h2,Bool.not_false,Bool.true_and,Bool.true_and] at hN;have hk0:0≤k:=by omega
 obtain ⟨lr,hf⟩:=YQ k.toNat (by omega);unfold wK at hf;have hz: ∃ b:Bool,(if k=1 then nameB s else decide (s=⟨#[]⟩))=b:=⟨_,rfl⟩
 obtain ⟨b3,h3⟩:=hz;rw [h3] at hN;simp (disch:=first|exact Wv.D|fail) only [Wv.B,simprocAttr,wK,aj h1,aj h2,hf];clear hf;by_cases hk1:k=1;all_goals first | rw [if_pos hk1] at h3 | rw [if_neg hk1] at h3
 rotate_left
 refine Wv.W2 (aj hk1) h3 ?_;rotate_left
 refine Wv.W1 (ah hk1) ?_;refine ak (KF s hs) rfl Wv.c Wv.c ?_;simp (disch:=first|exact Wv.D|fail) only [Wv.B,simprocAttr,h3];all_goals
  cases b3 with
  | false=>rw [Bool.false_and] at hN;simp (disch:=first|exact Wv.D|fail) only [Wv.B,simprocAttr,hN]
  | true=>
  rw [Bool.true_and] at hN;cases h4:decide ((na:Int)=argN k.toNat) with
  | false=>rw [h4,Bool.false_and] at hN;simp (disch:=first|exact Wv.D|fail) only [Wv.B,simprocAttr,h4,hN]
  | true=>
  rw [h4,Bool.true_and] at hN;cases h56:(Du k.toNat || decide (n=0)) with
  | false=>
   rw [h56,Bool.false_and] at hN;have h5:=(Bool.or_eq_false_iff.1 h56).1;have h6:=(Bool.or_eq_false_iff.1 h56).2;simp (disch:=first|exact Wv.D|fail) only [Wv.B,simprocAttr,h4,h5,h6,hN]
  | true=>
  have e5:(Du k.toNat=true∧(0:Nat)=0)∨(Du k.toNat=false∧decide (n=0)=true):=by
   cases q:Du k.toNat with
   | true=>exact .inl ⟨rfl,rfl⟩
   | false=>rw [q,Bool.false_or] at h56;exact .inr ⟨rfl,h56⟩
  rw [h56,Bool.true_and] at hN;cases h78:(Dv k.toNat || decide ((nl:Int)=0)) with
  | false=>
   rw [h78,Bool.false_and] at hN;have h7:=(Bool.or_eq_false_iff.1 h78).1;have h8:=(Bool.or_eq_false_iff.1 h78).2;rcases e5 with ⟨h5,h6⟩ | ⟨h5,h6⟩<;>simp (disch:=first|exact Wv.D|fail) only [Wv.B,simprocAttr,h4,h5,h6,h7,h8,hN]
  | true=>
  have e7:(Dv k.toNat=true∧(0:Nat)=0)∨(Dv k.toNat=false∧decide ((nl:Int)=0)=true):=by
   cases q:Dv k.toNat with
   | true=>exact .inl ⟨rfl,rfl⟩
   | false=>rw [q,Bool.false_or] at h78;exact .inr ⟨rfl,h78⟩
  rw [h78,Bool.true_and] at hN;rcases e5 with ⟨h5,h6⟩ | ⟨h5,h6⟩<;>rcases e7 with ⟨h7,h8⟩ | ⟨h7,h8⟩;all_goals
   refine Wv.W5 h4 h5 h6 h7 h8 ?_;clear h56 h78 h4;refine ak (Dw n) rfl Wv.c Wv.c ?_;cases h9:inB n with
   | false=>rw [h9,Bool.false_and] at hN;simp (disch:=first|exact Wv.D|fail) only [Wv.B,simprocAttr,hN]
   | true=>
   rw [h9,Bool.true_and] at hN;refine Wv.W ?_;refine aB (fst:=[]) (cap:=[]) (yu nl li (fun i=>!inB (li i)) _ [] [] hnl fun i hi=>(KG (li i)).ht (dR Wv.c) Wv.c _) ?_;rintro av h' ⟨rfl,rfl⟩;cases h10:aI nl (fun i=>!inB (li i)) with
   | true=>rw [h10,Bool.not_true,Bool.false_and] at hN;simp (disch:=first|exact Wv.D|fail) only [Wv.B,simprocAttr,hN]
   | false=>
   rw [h10,Bool.not_false,Bool.true_and] at hN;refine Wv.W ?_;refine aB (fst:=[]) (cap:=[]) (Ui na (cO na fun i=>exC (ar i)) (fun i=>exC (ar i)) (mQ fun i=>gJ _) (AA fun i=>gJ _) (fun i=>!aW (ar i)) _ [] [] hna fun i hi=>(KH (ar i) (hh i hi) _ (ih i (hh i hi))).ht (dR (bU (ar i))) Wv.c _) ?_;rintro av h' ⟨rfl,rfl⟩;simp (disch:=first|exact Wv.D|fail) only [Wv.B,simprocAttr,hN]
end
section
open Go.RowKit Wv
theorem bJ {n:Nat} {f:Nat→AV}:tab (n+1) f=tab n f++[f n]:=by unfold tab;rw [List.range_succ,List.map_append];rfl
def dM (b:Nat) (f:Nat→Nat):Nat→Nat
 | 0=>b
 | n+1=>dM b f n+f n
def jX (f:Nat→Nat):Nat→Nat
 | 0=>0
 | n+1=>max (jX f n) (f n)
def yw (b:Bool) (f:Nat→Bool):Nat→Bool
 | 0=>b
 | n+1=>yw b f n || f n
theorem wL (b:Nat) (f:Nat→Nat): ∀ {i n:Nat},i≤n→dM b f i≤dM b f n
 | i,0,h=>by
  have:i=0:=by omega
  subst this;exact Nat.le_refl _
 | i,n+1,h=>by
  by_cases e:i=n+1
  ·subst e;exact Nat.le_refl _
  ·exact Nat.le_trans (wL b f (by omega)) (Nat.le_add_right _ _)
theorem yA (b:Nat) (f:Nat→Nat) (n:Nat):b≤dM b f n:=wL b f (i:=0) (Nat.zero_le n)
theorem qZ (b:Nat) (f:Nat→Nat) {i n:Nat} (h:i<n):dM b f i+f i≤dM b f n:=wL b f (i:=i+1) h
theorem Qc (f g:Nat→Nat) (b:Nat) (h: ∀ i,f i≤g i): ∀ n,jX f n≤dM b g n
 | 0=>Nat.zero_le _
 | n+1=>by
  show max (jX f n) (f n)≤dM b g n+g n;have:=Qc f g b h n;have:=h n;omega
def bC:Ex→Nat
 | .nil=>1
 | .mk k s n nl li na ar=>dM 1 (fun i=>bC (ar i)) na
def fM:Ex→Nat
 | .nil=>1
 | .mk k s n nl li na ar=>jX (fun i=>fM (ar i)) na+1
def lI:Ex→Bool
 | .nil=>false
 | .mk k s n nl li na ar=>yw (decide (600<(nl:Int))) (fun i=>lI (ar i)) na
theorem AB (x:Ex):fM x≤bC x:=by
 induction x with
 | nil=>exact Nat.le_refl 1
 | mk k s n nl li na ar ih=>
  show jX (fun i=>fM (ar i)) na+1≤dM 1 (fun i=>bC (ar i)) na;have:=Qc (fun i=>fM (ar i)) (fun i=>bC (ar i)) 0 ih na;have h2: ∀ n,dM 1 (fun i=>bC (ar i)) n=dM 0 (fun i=>bC (ar i)) n+1:=fun n=>by
   induction n with
   | zero=>rfl
   | succ n h=>show dM 1 _ n+_=dM 0 _ n+_+1;rw [h];omega
  rw [h2];omega
theorem YS (x:Ex) (h:okE x) (hc:bC x≤4611686018427387904):TC Tryz.prog 163 [.g (exC x)] (.tup [.v (.int .i64 (bC x)), .v (.int .i64 (fM x)), .v (.bool (lI x))]):=by
 induction x with
 | nil=>exact h.elim
 | mk k s n nl li na ar ih=>
 obtain ⟨hs,hnl,hna,hh⟩:=h;have hcn:dM 1 (fun i=>bC (ar i)) na≤4611686018427387904:=hc;refine Wv.TC.by 42 [0,1,17,16,18,15,6,2,7,3,8,4,9] [(1,5)] [.tmp 2, .tmp 3, .tmp 4] Tryz.func163 rfl rfl rfl ?clo ?_
 case clo=>simp only [Wv.BC]
 unfold exC;refine Wv.W ?_;refine aQ (σ:=Nat) (fun i=>[(1, .ptr 0 0),(2, .v (.int .i64 (dM 1 (fun i=>bC (ar i)) i:Nat))),(3, .v (.int .i64 (jX (fun i=>fM (ar i)) i:Nat))),(4, .v (.bool (yw (decide (600<(nl:Int))) (fun i=>lI (ar i)) i))),(15, .t na 5 (cO na fun i=>exC (ar i))),(16, .v (.int .i64 na)),(17, .v (.int .i64 i))])
  (fun i=>[some (.blk [.v (.int .i64 k), .v (.string s), .v (.int .i64 n), .t nl 1 (tab nl fun i=> .v (.int .i64 (li i))), .t na 5 (cO na fun i=>exC (ar i))])])
  (fun i=>i≤na) (fun i=>na - i) 0 (Nat.zero_le _) Wv.V (by simp (disch:=first|exact Wv.D|fail) only [Wv.B,simprocAttr,dM,jX,yw,Int.natCast_one]) ?_
 rintro i hi;by_cases hlt:i<na
 ·have e1:(i:Int)<na:=by omega
  have q1:=qZ 1 (fun i=>bC (ar i)) hlt;have q2:=yA 1 (fun i=>bC (ar i)) i;have q3:=AB (ar i);obtain ⟨r,hd⟩:=bH (f:=fun i=>exC (ar i)) (fun i=>gJ (ar i)) hlt;have T:=ih i (hh i hlt) (by omega);have hG:=bU (ar i);have hL:=dw (n:=na) (f:=fun i=>exC (ar i)) fun i _=>eX (ar i)
  revert hd T hG hL;generalize hf:(cO na fun i=>exC (ar i))=L;generalize hc1:bC (ar i)=c1 at*;generalize hc2:fM (ar i)=c2 at*;generalize hc3:lI (ar i)=c3;have hoy:=hh i hlt;generalize ar i=y at hoy ⊢;obtain ⟨k',s',n',nl',li',na',ar',rfl⟩:=lQ hoy;rw [dh];intro hd T hG hL;simp only [List.cons_append,List.nil_append] at hd;refine Wv.W1 hd ?_;refine ak T rfl (dR hG) Wv.c ?_;refine Wv.W ?_;have hmx:(if (c2:Int)>((jX (fun i=>fM (ar i)) i:Nat):Int) then (c2:Int) else ((jX (fun i=>fM (ar i)) i:Nat):Int))=((jX (fun i=>fM (ar i)) (i+1):Nat):Int):=by
   show _=((max (jX (fun i=>fM (ar i)) i) (fM (ar i)):Nat):Int);rw [hc2];split<;>omega
  have hsx:((dM 1 (fun i=>bC (ar i)) i:Nat):Int)+c1=((dM 1 (fun i=>bC (ar i)) (i+1):Nat):Int):=by
   show _=((dM 1 (fun i=>bC (ar i)) i+bC (ar i):Nat):Int);rw [hc1];omega
  have hox:yw (decide (600<(nl:Int))) (fun i=>lI (ar i)) (i+1)=(yw (decide (600<(nl:Int))) (fun i=>lI (ar i)) i || c3):=by
   show (_ || lI (ar i))=_;rw [hc3]
  cases ho:yw (decide (600<(nl:Int))) (fun i=>lI (ar i)) i with
  | true=>
   rw [ho,Bool.true_or] at hox;refine Wv.W2 hmx hsx ?_;refine Wv.iO (i+1) 1 (by first | decide | exact Nat.le_of_ble_eq_true rfl) (by omega) (by omega) (Wv.V2f @bJ hox) (Wv.V3 @Int.natCast_add @Int.natCast_one hox) (by simp only [Wv.BL, ↓reduceIte,Nat.reduceLeDiff,hL]<;>omega) (by simp only [Wv.BL, ↓reduceIte,Nat.reduceLeDiff,hL]<;>omega)
  | false=>
   rw [ho,Bool.false_or] at hox;refine Wv.W2 hmx hsx ?_;refine Wv.iO (i+1) 1 (by first | decide | exact Nat.le_of_ble_eq_true rfl) (by omega) (by omega) (Wv.V2f @bJ hox) (Wv.V3 @Int.natCast_add @Int.natCast_one hox) (by simp only [Wv.BL, ↓reduceIte,Nat.reduceLeDiff,hL]<;>omega) (by simp only [Wv.BL, ↓reduceIte,Nat.reduceLeDiff,hL]<;>omega)
 ·have hin:i=na:=by omega
  subst hin;have h1:bC (.mk k s n nl li i ar)=dM 1 (fun i=>bC (ar i)) i:=rfl;have h2:((fM (.mk k s n nl li i ar):Nat):Int)=((jX (fun i=>fM (ar i)) i:Nat):Int)+1:=by
   show ((jX (fun i=>fM (ar i)) i+1:Nat):Int)=_;omega
  have h3:lI (.mk k s n nl li i ar)=yw (decide (600<(nl:Int))) (fun i=>lI (ar i)) i:=rfl;have h4:=AB (.mk k s n nl li i ar);exact Wv.V3 h1 h2 h3
end
section
open Go.RowKit Wv
structure Ci where
 name:ByteArray
 ni:Nat
 fi:Nat→ByteArray
 nl:Nat
 ln:Nat→ByteArray
 le:Nat→Ex
 no:Nat
 fo:Nat→ByteArray
def iD (s:ByteArray) (x:Ex):List AV:= .v (.string s)::exC x
theorem gV (s:ByteArray) (x:Ex):(iD s x).length=6:=by cases x<;>rfl
theorem rC (s:ByteArray) (x:Ex): ∀ a,a∈iD s x→Clo a:=by
 intro a ha;rcases List.mem_cons.1 ha with rfl | h
 ·simp only [Wv.BC]
 ·exact eX x a h
def Ci.lets (c:Ci):List AV:=cO c.nl fun i=>iD (c.ln i) (c.le i)
def ciC (c:Ci):List AV:=[.v (.string c.name),bG c.ni c.fi, .t c.nl 6 c.lets,bG c.no c.fo]
theorem iV (c:Ci): ∀ a,a∈c.lets→Clo a:=dw fun i _=>rC _ _
theorem wM (c:Ci):c.lets.length=c.nl*6:=mQ fun i=>gV _ _
theorem qj (c:Ci): ∀ a,a∈ciC c→Clo a:=by
 unfold ciC;simp only [Wv.BC,jW];exact iV c
theorem tq (c:Ci):Clo (.g (ciC c)):=by simp only [Wv.BC];exact qj c
structure okC (c:Ci):Prop where
 name:c.name.size≤140737488351232
 ni:c.ni≤140737488351232
 nl:c.nl≤140737488351232
 no:c.no≤140737488351232
 fi: ∀ i,i<c.ni→(c.fi i).size≤140737488351232
 fo: ∀ i,i<c.no→(c.fo i).size≤140737488351232
 ln: ∀ i,i<c.nl→(c.ln i).size≤140737488351232
 le: ∀ i,i<c.nl→okE (c.le i)∧bC (c.le i)≤4611686018427387904
def Ci.sum (c:Ci) (i:Nat):Nat:=dM 0 (fun i=>bC (c.le i)) i
def Ci.big (c:Ci) (i:Nat):Bool:=decide (400<((c.sum (i+1):Nat):Int)) || (decide (40<((fM (c.le i):Nat):Int)) || lI (c.le i))
def jD (c:Ci):Bool:=!aI c.nl c.big
def rD (c:Ci):Bool:=decide ((c.ni:Int)≤8) && (decide ((c.nl:Int)≤60) && decide ((c.no:Int)≤8))
def dS (c:Ci):Int:=
 if (!nameB c.name || (aI c.ni (fun i=>!nameB (c.fi i)) || (aI c.no (fun i=>!nameB (c.fo i)) || (decide ((c.no:Int)=0) || !rD c))))=true then 2
 else if aI c.nl (fun i=>!nameB (c.ln i) || !aW (c.le i))=true then 2 else if jD c=true then 0 else 3
theorem Uk (c:Ci) (h:okC c):TC Tryz.prog 109 [.g (ciC c)] (.v (.bool (jD c))):=by
 refine Wv.TC.by 36 [0,1,12,11,13,10,5,3,6,7,8,34,2] [] [.tmp 2] Tryz.func109 rfl rfl rfl ?clo ?_
 case clo=>simp only [Wv.BC]
 unfold ciC bG;refine Wv.W ?_;refine aQ (σ:=Nat) (fun i=>[(1, .ptr 0 0),(3, .v (.int .i64 (c.sum i:Nat))),(10, .t c.nl 6 c.lets),(11, .v (.int .i64 c.nl)),(12, .v (.int .i64 i))])
  (fun i=>[some (.blk [.v (.string c.name), .t c.ni 1 (tab c.ni fun i=> .v (.string (c.fi i))), .t c.nl 6 c.lets, .t c.no 1 (tab c.no fun i=> .v (.string (c.fo i)))])])
  (fun i=>i≤c.nl∧((c.sum i:Nat):Int)≤400∧ ∀ j,j<i→c.big j=false) (fun i=>c.nl - i) 0 ⟨Nat.zero_le _,by show ((0:Nat):Int)≤400;omega,fun j hj=>by omega⟩ Wv.V (by simp (disch:=first|exact Wv.D|fail) only [Wv.B,simprocAttr,Ci.sum,dM]) ?_
 rintro i ⟨hi,hsum,hb⟩;by_cases hlt:i<c.nl
 ·have e1:(i:Int)<c.nl:=by omega
  have hnl:=h.nl;have hL:=iV c;obtain ⟨r,hd⟩:=bH (f:=fun i=>iD (c.ln i) (c.le i)) (fun i=>gV _ _) hlt;have T:=YS (c.le i) (h.le i hlt).1 (h.le i hlt).2;have hc1':=(h.le i hlt).2;have hG:=bU (c.le i);have hbig:c.big i=(decide (400<((c.sum (i+1):Nat):Int)) || (decide (40<((fM (c.le i):Nat):Int)) || lI (c.le i))):=rfl;have hs1:((c.sum (i+1):Nat):Int)=((c.sum i:Nat):Int)+((bC (c.le i):Nat):Int):=by
   show ((dM 0 (fun i=>bC (c.le i)) i+bC (c.le i):Nat):Int)=_;exact Int.natCast_add _ _
  change List.drop (i*6) c.lets=iD (c.ln i) (c.le i)++r at hd;generalize hle:c.le i=x at hd T hc1' hG hbig hs1;generalize c.lets=L at*;generalize bC x=c1 at*;generalize fM x=c2 at*;generalize lI x=c3 at*;have hoy:=(h.le i hlt).1;rw [hle] at hoy;obtain ⟨k',s',n',nl',li',na',ar',rfl⟩:=lQ hoy;unfold iD at hd;rw [dh] at hd T hG;simp only [List.cons_append,List.nil_append] at hd;refine Wv.W1 hd ?_;refine ak T rfl (dR hG) Wv.c ?_;refine Wv.W ?_;have hbad:c.big i=true→jD c=false:=fun hq=>by
   unfold jD;have:aI c.nl c.big=true:=by
    unfold aI;exact List.any_eq_true.2 ⟨i,List.mem_range.2 hlt,hq⟩
   rw [this];rfl
  cases d1:decide (400<((c.sum i:Nat):Int)+(c1:Int)) with
  | true=>
   have hsm:=hbad (by rw [hbig,hs1,d1];rfl);simp (disch:=first|exact Wv.D|fail) only [Wv.B,simprocAttr,d1,hsm]
  | false=>
  cases d2:decide (40<(c2:Int)) with
  | true=>
   have hsm:=hbad (by rw [hbig,hs1,d1,d2];rfl);simp (disch:=first|exact Wv.D|fail) only [Wv.B,simprocAttr,d1,d2,hsm]
  | false=>
  cases c3 with
  | true=>
   have hsm:=hbad (by rw [hbig,hs1,d1,d2];rfl);simp (disch:=first|exact Wv.D|fail) only [Wv.B,simprocAttr,d1,d2,hsm]
  | false=>
   have hbf:c.big i=false:=by rw [hbig,hs1,d1,d2];rfl
   have anA:=of_decide_eq_false d1;refine Wv.W2 d1 d2 ?_;refine Wv.iO (i+1) 1 (by first | decide | exact Nat.le_of_ble_eq_true rfl) (⟨by omega,by omega,fun j hj=>by by_cases e:j=i;exact e▸hbf;exact hb j (by omega)⟩) (by omega) (Wv.V2f @bJ hs1) (Wv.V3 @Int.natCast_add @Int.natCast_one hs1) (by simp only [Wv.BL, ↓reduceIte,Nat.reduceLeDiff,hL]<;>omega) (by simp only [Wv.BL, ↓reduceIte,Nat.reduceLeDiff,hL]<;>omega)
 ·have hin:i=c.nl:=by omega
  have:jD c=true:=by
   unfold jD;have:aI c.nl c.big=false:=by
    unfold aI;refine List.any_eq_false.2 fun j hj=>?_
    rw [hb j (by have:=List.mem_range.1 hj;omega)];decide
   rw [this];rfl
  simp (disch:=first|exact Wv.D|fail) only [Wv.B,simprocAttr,this,hin]
theorem adY (c:Ci):TC Tryz.prog 105 [.g (ciC c)] (.v (.bool (rD c))):=by
 refine Wv.TC.by 19 [0,1,2] [] [.tmp 2] Tryz.func105 rfl rfl rfl ?clo ?_
 case clo=>simp only [Wv.BC]
 unfold ciC bG;have hN:rD c=(decide ((c.ni:Int)≤8) && (decide ((c.nl:Int)≤60) && decide ((c.no:Int)≤8))):=rfl;cases h1:decide ((c.ni:Int)≤8) with
 | false=>rw [h1,Bool.false_and] at hN;simp (disch:=first|exact Wv.D|fail) only [Wv.B,simprocAttr,h1,hN]
 | true=>
 cases h2:decide ((c.nl:Int)≤60) with
 | false=>rw [h1,h2,Bool.false_and,Bool.and_false] at hN;simp (disch:=first|exact Wv.D|fail) only [Wv.B,simprocAttr,h1,h2,hN]
 | true=>rw [h1,h2,Bool.true_and,Bool.true_and] at hN;simp (disch:=first|exact Wv.D|fail) only [Wv.B,simprocAttr,h1,h2,hN]
theorem AL (s:ByteArray) (hs:s.size≤140737488351232):TC Tryz.prog 102 [.v (.string s)] (.v (.bool (!nameB s))):=by
 refine Wv.TC.by 6 [0,2] [] [.tmp 2] Tryz.func102 rfl rfl rfl ?clo ?_
 case clo=>simp only [Wv.BC]
 refine Wv.W ?_;refine ak (KF s hs) rfl Wv.c Wv.c ?_;exact Wv.V
theorem HT.rd {P:Program} {f:FuncId} {args:List AV} {h:Hp} {res:AV} (T:HT P f args h fun r h'=>r=res∧h'.take h.length=h) (hr:lo h.length res) (hh:loH h.length h):HT P f args h fun r h'=>r=res∧h'=h:=
 (RD.of (R:=fun r=>r=res) (p:=fun _=>False) (T.toP _) (fun r q=>q▸hr) (fun r q=>q.elim) hh).toT fun _ _ q=>q.1
theorem YT {C:List AV} (hC: ∀ a,a∈C→Clo a) (s:ByteArray) (x:Ex) (hs:s.size≤140737488351232) (hx:okE x):HT Tryz.prog 107 [.g (iD s x), .ptr 1 0] [some (.blk C),some (.blk [.fn (.func 102) [] []])] (fun r h'=>r= .v (.bool (!nameB s || !aW x))∧h'=[some (.blk C),some (.blk [.fn (.func 102) [] []])]):=by
 have T:=Oa x hx;have hG:=bU x;generalize aW x=b at*;obtain ⟨k',s',n',nl',li',na',ar',rfl⟩:=lQ hx;unfold iD;rw [dh] at*;refine HT.rd ?_ (by simp only [Wv.BL, ↓reduceIte,Nat.reduceLeDiff]) (by simp only [Wv.BL, ↓reduceIte,Nat.reduceLeDiff];exact fun a ha=> .clo (hC a ha));refine Wv.HT.by 14 [0,1,2,3] [(1000000,2)] [.tmp 3] Tryz.func107 rfl rfl rfl ?base ?_
 case base=>rfl
 refine Wv.W ?_;refine ak (AL s hs) rfl Wv.c Wv.c ?_;cases h1:nameB s with
 | false=>exact Wv.V1 @Bool.true_or
 | true=>
  refine Wv.W ?_;refine ak T rfl (dR hG) Wv.c ?_;simp (disch:=first|exact Wv.D|fail) only [Wv.B,simprocAttr,Bool.false_or]
theorem Oc (c:Ci) (h:okC c):TC Tryz.prog 61 [.g (ciC c)] (.v (.int .i64 (dS c))):=by
 have hcl:=tq c;have hll:=wM c;have hla: ∀ i,i<c.nl→List.take 6 (List.drop (i*6) c.lets)=iD (c.ln i) (c.le i):=AA fun i=>gV _ _
 have Tf:=adY c;have Ts:=Uk c h;have hN:dS c=if (!nameB c.name || (aI c.ni (fun i=>!nameB (c.fi i)) || (aI c.no (fun i=>!nameB (c.fo i)) || (decide ((c.no:Int)=0) || !rD c))))=true then 2
  else if aI c.nl (fun i=>!nameB (c.ln i) || !aW (c.le i))=true then 2 else if jD c=true then 0 else 3:=rfl
 unfold ciC bG at Tf Ts hcl ⊢;refine Wv.TC.by 38 [0,3,1,30,34,37,2] [] [.tmp 2] Tryz.func61 rfl rfl rfl ?clo ?_
 case clo=>simp only [Wv.BC]
 refine Wv.W ?_;refine ak (AL c.name h.name) rfl Wv.c Wv.c ?_;cases h1:nameB c.name with
 | false=>rw [h1] at hN;simp only [Bool.not_false,Bool.true_or,if_true] at hN;simp (disch:=first|exact Wv.D|fail) only [Wv.B,simprocAttr,hN]
 | true=>
 refine Wv.W ?_;refine aB (fst:=[]) (cap:=[]) (FV c.ni c.fi (fun i=>!nameB (c.fi i)) _ [] [] h.ni fun i hi=>(AL (c.fi i) (h.fi i hi)).ht (dR Wv.c) Wv.c _) ?_;rintro av h' ⟨rfl,rfl⟩;cases h2:aI c.ni (fun i=>!nameB (c.fi i)) with
 | true=>rw [h1,h2] at hN;simp only [Bool.not_true,Bool.false_or,Bool.true_or,if_true] at hN;simp (disch:=first|exact Wv.D|fail) only [Wv.B,simprocAttr,hN]
 | false=>
 refine Wv.W ?_;refine aB (fst:=[]) (cap:=[]) (FV c.no c.fo (fun i=>!nameB (c.fo i)) _ [] [] h.no fun i hi=>(AL (c.fo i) (h.fo i hi)).ht (dR Wv.c) Wv.c _) ?_;rintro av h' ⟨rfl,rfl⟩;cases h3:aI c.no (fun i=>!nameB (c.fo i)) with
 | true=>rw [h1,h2,h3] at hN;simp only [Bool.not_true,Bool.false_or,Bool.true_or,if_true] at hN;simp (disch:=first|exact Wv.D|fail) only [Wv.B,simprocAttr,hN]
 | false=>
 cases h4:decide ((c.no:Int)=0) with
 | true=>rw [h1,h2,h3,h4] at hN;simp only [Bool.not_true,Bool.false_or,Bool.true_or,if_true] at hN;simp (disch:=first|exact Wv.D|fail) only [Wv.B,simprocAttr,h4,hN]
 | false=>
 refine Wv.W1 h4 ?_;refine ak Tf rfl (dR hcl) Wv.c ?_;cases h5:rD c with
 | false=>rw [h1,h2,h3,h4,h5] at hN;simp only [Bool.not_true,Bool.not_false,Bool.false_or,Bool.true_or,if_true] at hN;simp (disch:=first|exact Wv.D|fail) only [Wv.B,simprocAttr,hN]
 | true=>
 rw [h1,h2,h3,h4,h5] at hN;simp only [Bool.not_true,Bool.not_false,Bool.false_or,Bool.true_or,if_true,Bool.false_eq_true,if_false] at hN;refine Wv.W ?_;refine aB (fst:=[]) (cap:=[]) (Uj c.nl c.lets (fun i=>iD (c.ln i) (c.le i)) hll hla (fun i=>!nameB (c.ln i) || !aW (c.le i)) _ [] [.ptr 1 0] h.nl fun i hi=>YT (by simp only [Wv.BC];exact iV c) (c.ln i) (c.le i) (h.ln i hi) (h.le i hi).1) ?_;rintro av h' ⟨rfl,rfl⟩;cases h6:aI c.nl (fun i=>!nameB (c.ln i) || !aW (c.le i)) with
 | true=>rw [h6] at hN;simp only [if_true] at hN;simp (disch:=first|exact Wv.D|fail) only [Wv.B,simprocAttr,hN]
 | false=>
 rw [h6] at hN;simp only [Bool.false_eq_true,if_false] at hN;refine Wv.W ?_;refine ak Ts rfl (dR hcl) Wv.c ?_;cases h7:jD c with
 | true=>rw [h7] at hN;simp only [if_true] at hN;simp (disch:=first|exact Wv.D|fail) only [Wv.B,simprocAttr,hN]
 | false=>rw [h7] at hN;simp only [Bool.false_eq_true,if_false] at hN;simp (disch:=first|exact Wv.D|fail) only [Wv.B,simprocAttr,hN]
end
end Go.Proofs.YtljfgdlgmdcmfaaGreat
namespace Go.Proofs
open Go.Shelf
def Tryz.lays129_ren:Go.Shelf.Ren:=⟨fun | 129=>226 | n=>n,fun | 53=>162 | 3=>3 | 4=>4 | 46=>215 | 5=>5 | 9=>9 | n=>n,fun | n=>n⟩
theorem Tryz.lays129:Go.Proofs.Lays.n129 Tryz.prog Tryz.lays129_ren:={
 mixed:=by kernel_rfl
 f129:=Tryz.func226.trans (congrArg some (by kernel_rfl))
 t3:=Tryz.underlying3
 a3:=Tryz.isAgg3
 z3:=Tryz.sizeOf3
 v3:=Tryz.zeroValue3
 t4:=Tryz.underlying4
 a4:=Tryz.isAgg4
 z4:=Tryz.sizeOf4
 v4:=Tryz.zeroValue4
 t5:=Tryz.underlying5
 a5:=Tryz.isAgg5
 z5:=Tryz.sizeOf5
 v5:=Tryz.zeroValue5
 t9:=Tryz.underlying9
 a9:=Tryz.isAgg9
 z9:=Tryz.sizeOf9
 v9:=Tryz.zeroValue9
 t46:=Tryz.underlying215
 a46:=Tryz.isAgg215
 z46:=Tryz.sizeOf215
 v46:=Tryz.zeroValue215
 t53:=Tryz.underlying162
 a53:=Tryz.isAgg162
 z53:=Tryz.sizeOf162
 v53:=Tryz.zeroValue162}
theorem Tryz.bits_Len64 (x:Int) (w:World) (h0:0≤x) (h1:x≤18446744073709551615):
  Calls Tryz.prog 226 #[.int .u64 x] w fun e w'=>e= .returned (.int .i64 (Lib.bitLen x.toNat))∧w'=w:=Any.bits_Len64 Tryz.lays129 x w h0 h1
def Tryz.laysSlE43_f150_ren:Go.Shelf.Ren:=⟨fun | 43=>150 | n=>n,fun | 22=>23 | 23=>22 | 3=>3 | 4=>4 | 0=>0 | n=>n,fun | n=>n⟩
theorem Tryz.laysSlE43_f150:Go.Proofs.SlLaysE.n43 Tryz.prog Tryz.laysSlE43_f150_ren:={
 mixed:=by kernel_rfl
 f43:=⟨Tryz.f150.name,by decide,Tryz.func150.trans (congrArg some (by kernel_rfl))⟩
 t0:=Tryz.underlying0
 a0:=Tryz.isAgg0
 z0:=Tryz.sizeOf0
 v0:=Tryz.zeroValue0
 t3:=Tryz.underlying3
 a3:=Tryz.isAgg3
 z3:=Tryz.sizeOf3
 v3:=Tryz.zeroValue3
 t4:=Tryz.underlying4
 a4:=Tryz.isAgg4
 z4:=Tryz.sizeOf4
 v4:=Tryz.zeroValue4
 t22:=Tryz.underlying23
 a22:=Tryz.isAgg23
 z22:=Tryz.sizeOf23
 v22:=Tryz.zeroValue23
 a23:=Tryz.isAgg22
 z23:=Tryz.sizeOf22}
open Go.RowKit Go.Lib Go.Sort in
theorem Tryz.slices_Compact {α:Type} [Inhabited α] [DecidableEq α] (enc:α→Value) (hO:OneCell enc) (heq:EqlAt Tryz.prog 22 enc (fun x y=>decide (x=y))) (hne:NeqAt Tryz.prog 22 enc (fun x y=>decide (x=y))) (zr:α) (v23: ∀ w,(zeroValue 22).run Tryz.prog w= .ok (enc zr) w) (blk off cap:Nat) (d:Array α) (w:World) (hH:Holds enc w blk off d) (hsz:d.size≤9223372036854775807) (hcap:d.size≤cap):
  Calls Tryz.prog 150 #[.slice (some ⟨blk,off,none⟩) d.size cap] w fun e w'=>e= .returned (.slice (some ⟨blk,off,none⟩) (compactUpTo d d.size).length cap)∧ ∃ q,w'=putRow enc (Sort.ahead w q) blk off (compactUpTo d d.size++List.replicate (d.size - (compactUpTo d d.size).length) zr).toArray:=AnyE.slices_Compact Tryz.laysSlE43_f150 enc hO heq hne zr v23 blk off cap d w hH hsz hcap
end Go.Proofs
namespace Go.Proofs.YtljfgdlgmdcmfaaGreat
section
open Go.RowKit Wv
theorem TC.amX {P:Program} {f:FuncId} {xs:List Value} {r:Value} (hb:lM P f=true) (T: ∀ w,Calls P f xs.toArray w fun e w'=>e= .returned r∧Below w.heap.size w w'):TC P f (xs.map .v) (.v r):=by
 refine ⟨hb,fun X vs hX hbad hr=>?_⟩;have e:vs=xs:=by
  apply List.ext_getElem?;intro i;by_cases hi:i<xs.length
  ·have hi':i<vs.length:=by have:=hr.1;simp at this;omega
   have h:=hr.2 i (.v xs[i]) vs[i] (by simp [hi]) (by simp [hi']);generalize hq:vs[i]=q at h;cases h;rw [List.getElem?_eq_getElem hi',List.getElem?_eq_getElem hi,hq]
  ·have hi': ¬ i<vs.length:=by have:=hr.1;simp at this;omega
   rw [List.getElem?_eq_none (by omega),List.getElem?_eq_none (by omega)]
 subst e;refine (T X.w).mono ?_;rintro e w' ⟨h1,h2⟩;exact ⟨r,h1,h2,fun m=> .v r⟩
theorem YU (x:Int) (h0:0≤x) (h1:x≤18446744073709551615):TC Tryz.prog 226 [.v (.int .u64 x)] (.v (.int .i64 (Lib.bitLen x.toNat))):=
 TC.amX (xs:=[.int .u64 x]) (by kernel_rfl) fun w=>(Tryz.bits_Len64 x w h0 h1).mono fun e w' h=>⟨h.1,h.2▸Below.refl _ _⟩
def dU (n:Int):Nat:=if n≤1 then 0 else Lib.bitLen (n - 1).toNat
theorem yB (n:Int) (h1:n≤9223372036854775807):TC Tryz.prog 215 [.v (.int .i64 n)] (.v (.int .i64 (dU n))):=by
 refine Wv.TC.by 9 [0,4,2] [] [.tmp 2] Tryz.func215 rfl rfl rfl ?clo ?_
 case clo=>simp only [Wv.BC]
 have hN:dU n=if n≤1 then 0 else Lib.bitLen (n - 1).toNat:=rfl
 by_cases h:n≤1
 ·rw [if_pos h] at hN;exact Wv.V2f (ah h) hN
 ·rw [if_neg h] at hN;refine Wv.W1 (aj h) ?_;refine ak (YU (n - 1) (by omega) (by omega)) rfl Wv.c Wv.c ?_;exact Wv.V1 hN
def lu (e:Int):AV:= .ifc 98 (.g [.v (.int .i64 e)])
theorem iG (e:Int):Clo (lu e):=by unfold lu;simp only [Wv.BC]
theorem bI {h:Hp} (b:Bool) (e:Int):HTP Tryz.prog 66 [.v (.bool b), .v (.int .i64 e)] h (fun r h'=>b=true∧r= .tup []∧h'=h) (fun r h'=>b=false∧r=lu e∧h'=h):=by
 refine Wv.HTP.by 9 [0,5,1] [(1000000,h.length)] [] Tryz.func66 rfl rfl rfl ?base ?_
 case base=>rfl
 unfold lu;cases b with
 | true=>exact Wv.V
 | false=>exact Wv.V
end
section
open Go.RowKit Wv
theorem Rn.refl {n:Nat} {a:AV} (h:lo n a) (ht: ∀ l,a≠ .tup l) (hi: ∀ T x,a≠ .ifc T x) (hm: ∀ es,a≠ .tm es) (hg: ∀ l,a= .g l→ ∀ x,x∈l→Rn id n x x) (hf: ∀ f l k,a= .fn f l k→(∀ x,x∈l→Rn id n x x)∧ ∀ x,x∈k→Rn id n x x):Rn id n a a:=by
 have same: ∀ (l:List AV),(∀ x,x∈l→Rn id n x x)→ ∀ (i:Nat) (a b:AV),l[i]? =some a→l[i]? =some b→Rn id n a b:=fun l h i a b h1 h2=>by
  rw [h1] at h2;injection h2 with h2;subst h2;exact h a (List.mem_of_getElem? h1)
 cases h with
 | clo h=>exact .clo h
 | own h=>exact .own h
 | ptr h=>exact .ptr h
 | ap h=>exact .ap h
 | mp h=>exact .mp h
 | g h=>exact .g rfl (same _ (hg _ rfl))
 | tup h=>exact absurd rfl (ht _)
 | fn h1 h2=>exact .fn rfl rfl (same _ (hf _ _ _ rfl).1) (same _ (hf _ _ _ rfl).2)
 | ifc h=>exact absurd rfl (hi _ _)
 | tm h=>exact absurd rfl (hm _)
theorem RD.ext {P:Program} {f:FuncId} {args:List AV} {h0:Hp} {R p:AV→Prop} (T:RD P f args h0 R p) (r:Hp) (ha:RnL id h0.length args args) (hh: ∀ (i:Nat) (o:Option Ob),h0[i]? =some o→ ∃ o',o=some o'∧RnO id h0.length o' o') (hR: ∀ r,R r→Clo r) (hp: ∀ r,p r→Clo r):RD P f args (h0++r) R p:=
 RD.frame (σ:=id) T ⟨fun i j _ _ e=>e,fun i o ho=>by
  obtain ⟨o',e,q⟩:=hh i o ho;subst e;exact ⟨o',o',rfl,by rw [id,List.getElem?_append_left (List.getElem?_eq_some_iff.1 ho).1];exact ho,q⟩⟩ ha hR hp
def dN (x:Par):List AV:=[.v (.int .i64 x.n), .v (.int .u32 x.p), .v (.int .i64 x.r), .t x.ch.length 1 (x.ch.map fun (c:Nat)=> .v (.int .u32 c)), .v (.int .u32 x.sp), .v (.int .i64 x.wt), .v (.int .u32 x.er)]
theorem dI (x:Par): ∀ a,a∈dN x→Clo a:=by
 unfold dN;simp only [Wv.BC]
def tyC (x:Par) (t:Int):List AV:=[.v (.int .i64 x.n), .v (.int .u32 x.p), .v (.int .i64 x.r), .t x.ch.length 1 (x.ch.map fun (c:Nat)=> .v (.int .u32 c)), .v (.int .u32 x.sp), .v (.int .i64 x.wt), .v (.int .u32 x.er), .v (.int .i64 t), .mp 1]
abbrev Nms:=List (ByteArray × Bool × Nat)
def shA (r:Bool × Nat):AV:= .g [.v (.bool r.1), .v (.int .i64 r.2)]
theorem AO (r:Bool × Nat):Clo (shA r):=by unfold shA;simp only [Wv.BC]
def nsE (ns:Nms):List (Value × AV):=ns.map fun p=>(.string p.1,shA p.2)
def hT (x:Par) (t:Int) (ns:Nms):Hp:=[some (.blk (tyC x t)),some (.map (nsE ns))]
theorem ahY (x:Par) (t:Int):RnL id 2 (tyC x t) (tyC x t):=by
 have h:=dI x;unfold dN at h;simp only [List.mem_cons,List.not_mem_nil,or_false,forall_eq_or_imp,forall_eq] at h;obtain ⟨h1,h2,h3,h4,h5,h6,h7⟩:=h;exact ⟨.clo h1, .clo h2, .clo h3, .clo h4, .clo h5, .clo h6, .clo h7, .clo (.v _), .mp (by omega),trivial⟩
theorem tu (ns:Nms): ∀ a,a∈(nsE ns).map (·.2)→Clo a:=by
 intro a ha;unfold nsE at ha;rw [List.map_map] at ha;obtain ⟨p,_,rfl⟩:=List.mem_map.1 ha;exact AO _
theorem alp (x:Par) (t:Int) (ns:Nms): ∀ (i:Nat) (o:Option Ob),(hT x t ns)[i]? =some o→ ∃ o',o=some o'∧RnO id (hT x t ns).length o' o':=by
 intro i o ho;unfold hT at ho ⊢;match i with
 | 0=>simp at ho;subst ho;exact ⟨_,rfl,ahY x t⟩
 | 1=>simp at ho;subst ho;exact ⟨_,rfl,rfl,RnL.clo (tu ns)⟩
 | i+2=>simp at ho
theorem ahZ (x:Par) (t:Int):loL 2 (tyC x t):=by
 have h:=dI x;unfold dN at h;unfold loL tyC;simp only [List.mem_cons,List.not_mem_nil,or_false,forall_eq_or_imp,forall_eq] at h ⊢;obtain ⟨h1,h2,h3,h4,h5,h6,h7⟩:=h;exact ⟨.clo h1, .clo h2, .clo h3, .clo h4, .clo h5, .clo h6, .clo h7, .clo (.v _), .mp (by omega)⟩
theorem KI (x:Par) (t:Int) (ns:Nms):loH (hT x t ns).length (hT x t ns):=⟨ahZ x t,fun a ha=> .clo (tu ns a ha),trivial⟩
def nG (t n:Int):Bool:=decide ((if 0 - n>n then 0 - n else n)≤(t - 1) / 2)
theorem Qd (x:Par) (t:Int) (ns:Nms) (n:Int) (hn:inB n=true) (ht:1≤t) (ht':t≤4611686018427387904):RD Tryz.prog 212 [.ptr 0 0, .v (.int .i64 n)] (hT x t ns) (fun r=>r= .v (.bool (nG t n))) (fun _=>False):=by
 have hn': -4294967295≤n∧n≤4294967295:=by
  unfold inB at hn;rw [Bool.and_eq_true] at hn;exact ⟨of_decide_eq_true hn.1,of_decide_eq_true hn.2⟩
 refine RD.of ?_ (fun r q=>q▸ .clo Wv.c) (fun r q=>q.elim) (KI x t ns);unfold hT tyC;refine Wv.HTP.by 16 [1,0,4] [(1000000,2)] [.tmp 4] Tryz.func212 rfl rfl rfl ?base ?_
 case base=>rfl
 have hq:(t - 1).tdiv 2=(t - 1) / 2:=Int.tdiv_eq_ediv_of_nonneg (by omega);simp (disch:=first|exact Wv.D|fail) only [Wv.B,simprocAttr,nG,hq]
def jg (x:Par) (t:Int) (ns:Nms) (fid:FuncId) (e:Ex) (unk:Nat) (o:Except Int Nat):Prop:=
 RD Tryz.prog fid [.ptr 0 0, .g (exC e), .v (.int .i64 unk)] (hT x t ns) (fun r=> ∃ d:Nat,o= .ok d∧r= .v (.int .i64 d)) (fun r=> ∃ e,o= .error e∧r=lu e)
theorem jg.of {x:Par} {t:Int} {ns:Nms} {fid:FuncId} {e:Ex} {unk:Nat} {o:Except Int Nat}
  (T:HTP Tryz.prog fid [.ptr 0 0, .g (exC e), .v (.int .i64 unk)] (hT x t ns) (fun r h'=>(∃ d:Nat,o= .ok d∧r= .v (.int .i64 d))∧h'.take 2=hT x t ns) (fun r h'=>(∃ e,o= .error e∧r=lu e)∧h'.take 2=hT x t ns)):jg x t ns fid e unk o:=
 RD.of T (by rintro r ⟨d,_,rfl⟩;exact .clo (.v _)) (by rintro r ⟨e,_,rfl⟩;exact .clo (iG e)) (KI x t ns)
theorem RD.hT {x:Par} {t:Int} {ns:Nms} {f:FuncId} {args:List AV} {R p:AV→Prop} (T:RD Tryz.prog f (.ptr 0 0::args) (hT x t ns) R p) (r:Hp) (ha: ∀ (a:AV),a∈args→Clo a) (hR: ∀ r,R r→Clo r) (hp: ∀ r,p r→Clo r):HTP Tryz.prog f (.ptr 0 0::args) (some (.blk (tyC x t))::some (.map (nsE ns))::r) (fun q h'=>R q∧h'=some (.blk (tyC x t))::some (.map (nsE ns))::r) (fun q h'=>p q∧h'=some (.blk (tyC x t))::some (.map (nsE ns))::r):=
 RD.ext T r ⟨.ptr (by show 0<2;omega),RnL.clo ha⟩ (alp x t ns) hR hp
theorem bV {h:Hp} {e:Int}:dZ h (lu e)=some (lu e,h):=rfl
theorem Il (x:Par) (t:Int) (ns:Nms) (k:Int) (s:ByteArray) (n:Int) (nl:Nat) (li:Nat→Int) (na:Nat) (ar:Nat→Ex) (unk:Nat) (hn:inB n=true) (ht:1≤t) (ht':t≤4611686018427387904):
  jg x t ns 164 (.mk k s n nl li na ar) unk (if nG t n=true then .ok 0 else .error 233):=by
 refine jg.of ?_;have T:=Qd x t ns n hn ht ht';generalize hb:nG t n=b at*;rw [dh];have hE:=RD.hT T;unfold hT tyC at*;refine Wv.HTP.by 12 [1,0,4,6] [(1000000,2)] [.tmp 6] Tryz.func164 rfl rfl rfl ?base ?_
 case base=>rfl
 refine Wv.W ?_;refine aJ (fst:=[]) (cap:=[]) (hE _ Wv.c (by rintro r rfl;simp only [Wv.BC]) (by rintro r h;exact h.elim)) ?_ (by rintro av h' ⟨h,_⟩;exact h.elim);rintro av h' ⟨rfl,rfl⟩;refine Wv.W ?_;refine aJ (fst:=[]) (cap:=[]) (bI b 233) ?_ ?_
 ·rintro av h' ⟨hb,rfl,rfl⟩;subst hb;refine Wv.W ?_;exact ⟨0,rfl,rfl⟩
 ·rintro av h' ⟨hb,rfl,rfl⟩;subst hb;refine Wv.W1 @bV ?_;exact ⟨233,rfl,rfl⟩
theorem EM (x:Par) (t:Int) (ns:Nms) (e:Ex) (he:okE e) (unk:Nat):
  jg x t ns 166 e unk (.ok (if unk<2 then 0 else 1)):=by
 refine jg.of ?_;obtain ⟨k,s,n,nl,li,na,ar,rfl⟩:=lQ he;rw [dh];unfold hT tyC at*;refine Wv.HTP.by 9 [1,2,8,6] [(1000000,2)] [.tmp 6] Tryz.func166 rfl rfl rfl ?base ?_
 case base=>rfl
 by_cases h:unk<2
 ·have h':(unk:Int)<2:=by omega
  simp (disch:=first|exact Wv.D|fail) only [Wv.B,simprocAttr,ah h',if_pos h];exact ⟨0,rfl,rfl⟩
 ·have h': ¬ (unk:Int)<2:=by omega
  simp (disch:=first|exact Wv.D|fail) only [Wv.B,simprocAttr,aj h',if_neg h];exact ⟨1,rfl,rfl⟩
def Ul (n:Int):Bool:=decide (1≤n) && decide (n≤64)
theorem KJ (x : Par) (t : Int) (ns : Nms) (k : Int) (s : ByteArray) (n : Int) (nl : Nat) (li : Nat → Int) (na : Nat) (ar : Nat → Ex) (unk : Nat) :
    jg x t ns 169 (.mk k s n nl li na ar) unk (if Ul n = true then .ok (dU n) else .error 233) := by
  refine jg.of ?_;rw [dh];unfold hT tyC at *;have hp : Ul n = (decide (1 ≤ n) && decide (n ≤ 64)) := rfl;generalize Ul n = b at *;refine Wv.HTP.by 19 [1, 4, 6] [(1000000, 2)] [.tmp 6] Tryz.func169 rfl rfl rfl ?base ?_
  case base => rfl
  have fin : ∀ (K : AV → Hp → Prop), K (.v (.bool b)) [] → K (.v (.bool b)) [] := fun _ h => h
  cases h1 : decide (1 ≤ n) <;> cases h2 : decide (n ≤ 64);all_goals
    rw [h1, h2] at hp;refine Wv.W2 h1 h2 ?_;refine aJ (fst := []) (cap := []) (bI _ 233) ?_ ?_
    · rintro av h' ⟨hb, rfl, rfl⟩
      first
      | exact absurd hb (by decide)
      | (have h3 := of_decide_eq_true h2
         refine Wv.W ?_;refine ak (yB n (by omega)) rfl Wv.c Wv.c ?_;refine Wv.W1 hp ?_;exact ⟨_, rfl, rfl⟩)
    · rintro av h' ⟨hb, rfl, rfl⟩
      first
      | exact absurd hb (by decide)
      | (subst hp
         refine Wv.W1 @bV ?_;exact ⟨233, rfl, rfl⟩)
end
section
open Go.ChangeShapes Go.WideShapes Go.ChangeAt Go.RowKit Go.Deep Wv
theorem amY {α:Type} {l:List α} (h:l.length=7): ∃ a b c d e f g,l=[a,b,c,d,e,f,g]:=by
 match l,h with
 | [a,b,c,d,e,f,g],_=>exact ⟨a,b,c,d,e,f,g,rfl⟩
theorem Dx {z:Int} (h:(Lit.int .u32 z).wf=true):0≤z∧z<4294967296:=by
 simp [Lit.wf,IntKind.min,IntKind.max,IntKind.bits,IntKind.signed] at h;omega
theorem YV {z:Int} (h:(Lit.int .i64 z).wf=true): -9223372036854775808≤z∧z≤9223372036854775807:=by
 simp [Lit.wf,IntKind.min,IntKind.max,IntKind.bits,IntKind.signed] at h;omega
def alq:List TypeId:=[3,22,23,25]
theorem adZ:setB Tryz.prog alq=true:=by kernel_rfl
theorem ah0 {l:List AV} (h:Sh Tryz.prog 25 l): ∃ x:Par,qY x∧x.ch.length≤140737488351232∧(∀ q,q∈x.ch→q<4294967296)∧l=dN x:=by
 obtain ⟨hl,hf⟩:=x9 Tryz.underlying25 h;have hc:Tryz.prog.cellsOf 25=7:=by kernel_rfl
 rw [hc] at hl;obtain ⟨a,b,c,d,e,f,g,rfl⟩:=amY hl;have c1:Tryz.prog.cellsOf 3=1:=by kernel_rfl
 have c2:Tryz.prog.cellsOf 22=1:=by kernel_rfl
 have c3:Tryz.prog.cellsOf 23=1:=by kernel_rfl
 have h0:Sh Tryz.prog 3 (([a,b,c,d,e,f,g].drop 0).take (Tryz.prog.cellsOf 3)):=hf 0 _ rfl;have h1:Sh Tryz.prog 22 (([a,b,c,d,e,f,g].drop 1).take (Tryz.prog.cellsOf 22)):=hf 1 _ rfl;have h2:Sh Tryz.prog 3 (([a,b,c,d,e,f,g].drop 2).take (Tryz.prog.cellsOf 3)):=hf 2 _ rfl;have h3:Sh Tryz.prog 23 (([a,b,c,d,e,f,g].drop 3).take (Tryz.prog.cellsOf 23)):=hf 3 _ rfl;have h4:Sh Tryz.prog 22 (([a,b,c,d,e,f,g].drop 4).take (Tryz.prog.cellsOf 22)):=hf 4 _ rfl;have h5:Sh Tryz.prog 3 (([a,b,c,d,e,f,g].drop 5).take (Tryz.prog.cellsOf 3)):=hf 5 _ rfl;have h6:Sh Tryz.prog 22 (([a,b,c,d,e,f,g].drop 6).take (Tryz.prog.cellsOf 22)):=hf 6 _ rfl;rw [c1] at h0 h2 h5;rw [c2] at h1 h4 h6;rw [c3] at h3;obtain ⟨z0,e0,w0⟩:=qh Tryz.underlying3 h0;obtain ⟨z1,e1,w1⟩:=qh Tryz.underlying22 h1;obtain ⟨z2,e2,w2⟩:=qh Tryz.underlying3 h2;obtain ⟨n3,f3,e3,w3,o3⟩:=Ib Tryz.underlying23 Tryz.underlying22 (Nat.le_of_ble_eq_true (by kernel_rfl)) (by kernel_rfl) h3;obtain ⟨z4,e4,w4⟩:=qh Tryz.underlying22 h4;obtain ⟨z5,e5,w5⟩:=qh Tryz.underlying3 h5;obtain ⟨z6,e6,w6⟩:=qh Tryz.underlying22 h6;have q0:[a]=[AV.v (.int .i64 z0)]:=e0;have q1:[b]=[AV.v (.int .u32 z1)]:=e1;have q2:[c]=[AV.v (.int .i64 z2)]:=e2;have q3:[d]=[AV.t n3 1 (tab n3 fun i=> .v (.int .u32 (f3 i)))]:=e3;have q4:[e]=[AV.v (.int .u32 z4)]:=e4;have q5:[f]=[AV.v (.int .i64 z5)]:=e5;have q6:[g]=[AV.v (.int .u32 z6)]:=e6;simp only [List.cons.injEq,and_true] at q0 q1 q2 q3 q4 q5 q6;subst q0 q1 q2 q3 q4 q5 q6;have b0:=YV w0;have b1:=Dx w1;have b2:=YV w2;have b4:=Dx w4;have b6:=Dx w6;have hr:reachBytes=140737488351232:=rfl;obtain ⟨p1,rfl⟩: ∃ n:Nat,z1=n:=⟨z1.toNat,by omega⟩
 obtain ⟨p4,rfl⟩: ∃ n:Nat,z4=n:=⟨z4.toNat,by omega⟩
 obtain ⟨p6,rfl⟩: ∃ n:Nat,z6=n:=⟨z6.toNat,by omega⟩
 have hch:((List.range n3).map fun i=>(f3 i).toNat).length=n3:=by rw [List.length_map,List.length_range]
 have hcl:(((List.range n3).map fun i=>(f3 i).toNat).map fun (c:Nat)=>AV.v (.int .u32 c))=tab n3 fun i=> .v (.int .u32 (f3 i)):=by
  rw [List.map_map];refine List.map_congr_left fun i hi=>?_
  have:=Dx (o3 i (List.mem_range.1 hi));show AV.v (.int .u32 ((f3 i).toNat:Int))=_;rw [Int.toNat_of_nonneg this.1]
 refine ⟨{n:=z0,p:=p1,r:=z2,ch:=(List.range n3).map fun i=>(f3 i).toNat,sp:=p4,wt:=z5,er:=p6},⟨b0.1,b0.2,by show p1<_;omega,b2.1,b2.2,by show p4<_;omega⟩,by rw [hch];omega,fun q hq=>?_,?_⟩
 ·obtain ⟨i,hi,rfl⟩:=List.mem_map.1 hq;have:=Dx (o3 i (List.mem_range.1 hi));omega
 ·unfold dN;simp only;rw [hch,hcl]
theorem aa7 {H:Type} {enc:TypeId × Value→H} {w:World} {base b0:Nat} {spare:Nat→Bool} {held:Bool} {r:Reach} {v:Value} {d:DataW H} {p:List MemPlace}
  (hv:Value.okWide Tryz.prog w r b0 25 v) (h:DataW.Trod enc Tryz.prog w base spare held 25 v d p) (hl:xZ Tryz.prog 25 d): ∃ x:Par,qY x∧x.ch.length≤140737488351232∧(∀ q,q∈x.ch→q<4294967296)∧Rep (zL w) (.g (dN x)) v:=by
 simp only [Value.okWide,Tryz.underlying25] at hv;obtain ⟨cs,rfl,_,_⟩:=hv;obtain ⟨fuel,hf⟩:=h;obtain ⟨l,s1,s2,s3⟩:=reads adZ fuel _ _ _ (by unfold alq;simp) hf hl;obtain ⟨x,h1,h2,h3,rfl⟩:=ah0 s1;refine ⟨x,h1,h2,h3,?_⟩;have e:(Value.agg cs)= .agg cs.toList.toArray:=by simp
 rw [e];exact .g s2.1 s2.2
end
end Go.Proofs.YtljfgdlgmdcmfaaGreat
