/-
  What the functions of the law answer: part 2.
-/
import Derived.Test.YtinipmoepcgonaaDoorEngE
import Derived.Test.YtinipmoepcgonaaDoorProg
import Derived.KernelRfl
import Derived.Test.YtinipmoepcgonaaDoorWalkA
set_option linter.unusedSimpArgs false
set_option linter.unusedVariables false

namespace Go.Eng.R16.Ty
open Go Go.Eng Go.Proofs
attribute [simp] elemS isAggT
attribute [simp] Tryd.underlying0 Tryd.underlying1 Tryd.underlying2 Tryd.underlying3 Tryd.underlying4 Tryd.underlying5 Tryd.underlying6 Tryd.underlying7
attribute [simp] Tryd.underlying8 Tryd.underlying9 Tryd.underlying10 Tryd.underlying11 Tryd.underlying12 Tryd.underlying13 Tryd.underlying14 Tryd.underlying15
attribute [simp] Tryd.underlying16 Tryd.underlying17 Tryd.underlying18 Tryd.underlying19 Tryd.underlying20 Tryd.underlying21 Tryd.underlying22 Tryd.underlying23
attribute [simp] Tryd.underlying24 Tryd.underlying25 Tryd.underlying26 Tryd.underlying27 Tryd.underlying28 Tryd.underlying29 Tryd.underlying30 Tryd.underlying31
attribute [simp] Tryd.underlying32 Tryd.underlying33 Tryd.underlying34 Tryd.underlying35 Tryd.underlying36 Tryd.underlying37 Tryd.underlying38 Tryd.underlying39
attribute [simp] Tryd.underlying40 Tryd.underlying41 Tryd.underlying42 Tryd.underlying43 Tryd.underlying44 Tryd.underlying45 Tryd.underlying46 Tryd.underlying47
attribute [simp] Tryd.underlying48 Tryd.underlying49 Tryd.underlying50 Tryd.underlying51 Tryd.underlying52 Tryd.underlying53 Tryd.underlying54 Tryd.underlying55
attribute [simp] Tryd.underlying56 Tryd.underlying57 Tryd.underlying58 Tryd.underlying59 Tryd.underlying60 Tryd.underlying61 Tryd.underlying62 Tryd.underlying63
attribute [simp] Tryd.underlying64 Tryd.underlying65 Tryd.underlying66 Tryd.underlying67 Tryd.underlying68 Tryd.underlying69 Tryd.underlying70 Tryd.underlying71
attribute [simp] Tryd.underlying72 Tryd.underlying73 Tryd.underlying74 Tryd.underlying75 Tryd.underlying76 Tryd.underlying77 Tryd.underlying78 Tryd.underlying79
attribute [simp] Tryd.underlying80 Tryd.underlying81 Tryd.underlying82 Tryd.underlying83 Tryd.underlying84 Tryd.underlying85 Tryd.underlying86 Tryd.underlying87
attribute [simp] Tryd.underlying88 Tryd.underlying89 Tryd.underlying90 Tryd.underlying91 Tryd.underlying92 Tryd.underlying93 Tryd.underlying94 Tryd.underlying95
attribute [simp] Tryd.underlying96 Tryd.underlying97 Tryd.underlying98 Tryd.underlying99 Tryd.underlying100 Tryd.underlying101 Tryd.underlying102 Tryd.underlying103
attribute [simp] Tryd.underlying104 Tryd.underlying105 Tryd.underlying106 Tryd.underlying107 Tryd.underlying108 Tryd.underlying109 Tryd.underlying110 Tryd.underlying111
attribute [simp] Tryd.underlying112 Tryd.underlying113 Tryd.underlying114 Tryd.underlying115 Tryd.underlying116 Tryd.underlying117 Tryd.underlying118 Tryd.underlying119
attribute [simp] Tryd.underlying120 Tryd.underlying121 Tryd.underlying122 Tryd.underlying123 Tryd.underlying124 Tryd.underlying125 Tryd.underlying126 Tryd.underlying127
attribute [simp] Tryd.underlying128 Tryd.underlying129 Tryd.underlying130 Tryd.underlying131 Tryd.underlying132 Tryd.underlying133 Tryd.underlying134 Tryd.underlying135
attribute [simp] Tryd.underlying136 Tryd.underlying137 Tryd.underlying138 Tryd.underlying139 Tryd.underlying140 Tryd.underlying141 Tryd.underlying142 Tryd.underlying143
attribute [simp] Tryd.underlying144
@[simp] theorem sz1 : sizeT Tryd.prog 1 = some 1 := by kernel_rfl
@[simp] theorem by1 : bytesT Tryd.prog 1 = some 8 := by kernel_rfl
@[simp] theorem ze1 : zeroT Tryd.prog 1 = some (.nilFunc) := by kernel_rfl
@[simp] theorem sz2 : sizeT Tryd.prog 2 = some 1 := by kernel_rfl
@[simp] theorem by2 : bytesT Tryd.prog 2 = some 8 := by kernel_rfl
@[simp] theorem ze2 : zeroT Tryd.prog 2 = some (.int .i64 0) := by kernel_rfl
@[simp] theorem sz3 : sizeT Tryd.prog 3 = some 1 := by kernel_rfl
@[simp] theorem by3 : bytesT Tryd.prog 3 = some 8 := by kernel_rfl
@[simp] theorem ze3 : zeroT Tryd.prog 3 = some (.int .i64 0) := by kernel_rfl
@[simp] theorem sz4 : sizeT Tryd.prog 4 = some 1 := by kernel_rfl
@[simp] theorem by4 : bytesT Tryd.prog 4 = some 1 := by kernel_rfl
@[simp] theorem ze4 : zeroT Tryd.prog 4 = some (.bool false) := by kernel_rfl
@[simp] theorem sz5 : sizeT Tryd.prog 5 = some 1 := by kernel_rfl
@[simp] theorem by5 : bytesT Tryd.prog 5 = some 1 := by kernel_rfl
@[simp] theorem ze5 : zeroT Tryd.prog 5 = some (.int .u8 0) := by kernel_rfl
@[simp] theorem sz6 : sizeT Tryd.prog 6 = some 1 := by kernel_rfl
@[simp] theorem by6 : bytesT Tryd.prog 6 = some 1 := by kernel_rfl
@[simp] theorem ze6 : zeroT Tryd.prog 6 = some (.int .u8 0) := by kernel_rfl
@[simp] theorem sz7 : sizeT Tryd.prog 7 = some 4 := by kernel_rfl
@[simp] theorem by7 : bytesT Tryd.prog 7 = some 24 := by kernel_rfl
@[simp] theorem ze7 : zeroT Tryd.prog 7 = some (.agg #[.int .i64 0, .int .i64 0, .bool false, .int .u8 0]) := by kernel_rfl
@[simp] theorem sz8 : sizeT Tryd.prog 8 = some 4 := by kernel_rfl
@[simp] theorem by8 : bytesT Tryd.prog 8 = some 24 := by kernel_rfl
@[simp] theorem ze8 : zeroT Tryd.prog 8 = some (.agg #[.int .i64 0, .int .i64 0, .bool false, .int .u8 0]) := by kernel_rfl
@[simp] theorem sz9 : sizeT Tryd.prog 9 = some 1 := by kernel_rfl
@[simp] theorem by9 : bytesT Tryd.prog 9 = some 16 := by kernel_rfl
@[simp] theorem ze9 : zeroT Tryd.prog 9 = some (.string ⟨⟨[]⟩⟩) := by kernel_rfl
@[simp] theorem sz10 : sizeT Tryd.prog 10 = some 1 := by kernel_rfl
@[simp] theorem by10 : bytesT Tryd.prog 10 = some 16 := by kernel_rfl
@[simp] theorem ze10 : zeroT Tryd.prog 10 = some (.string ⟨⟨[]⟩⟩) := by kernel_rfl
@[simp] theorem sz11 : sizeT Tryd.prog 11 = some 1 := by kernel_rfl
@[simp] theorem by11 : bytesT Tryd.prog 11 = some 16 := by kernel_rfl
@[simp] theorem ze11 : zeroT Tryd.prog 11 = some (.string ⟨⟨[]⟩⟩) := by kernel_rfl
@[simp] theorem sz12 : sizeT Tryd.prog 12 = some 1 := by kernel_rfl
@[simp] theorem by12 : bytesT Tryd.prog 12 = some 8 := by kernel_rfl
@[simp] theorem ze12 : zeroT Tryd.prog 12 = some (.int .u64 0) := by kernel_rfl
@[simp] theorem sz13 : sizeT Tryd.prog 13 = some 2 := by kernel_rfl
@[simp] theorem by13 : bytesT Tryd.prog 13 = some 24 := by kernel_rfl
@[simp] theorem ze13 : zeroT Tryd.prog 13 = some (.agg #[.string ⟨⟨[]⟩⟩, .int .u64 0]) := by kernel_rfl
@[simp] theorem sz14 : sizeT Tryd.prog 14 = some 2 := by kernel_rfl
@[simp] theorem by14 : bytesT Tryd.prog 14 = some 24 := by kernel_rfl
@[simp] theorem ze14 : zeroT Tryd.prog 14 = some (.agg #[.string ⟨⟨[]⟩⟩, .int .u64 0]) := by kernel_rfl
@[simp] theorem sz15 : sizeT Tryd.prog 15 = some 1 := by kernel_rfl
@[simp] theorem by15 : bytesT Tryd.prog 15 = some 8 := by kernel_rfl
@[simp] theorem ze15 : zeroT Tryd.prog 15 = some (.pointer none) := by kernel_rfl
@[simp] theorem sz16 : sizeT Tryd.prog 16 = some 1 := by kernel_rfl
@[simp] theorem by16 : bytesT Tryd.prog 16 = some 8 := by kernel_rfl
@[simp] theorem ze16 : zeroT Tryd.prog 16 = some (.pointer none) := by kernel_rfl
@[simp] theorem sz17 : sizeT Tryd.prog 17 = some 1 := by kernel_rfl
@[simp] theorem by17 : bytesT Tryd.prog 17 = some 8 := by kernel_rfl
@[simp] theorem ze17 : zeroT Tryd.prog 17 = some (.pointer none) := by kernel_rfl
@[simp] theorem sz18 : sizeT Tryd.prog 18 = some 1 := by kernel_rfl
@[simp] theorem by18 : bytesT Tryd.prog 18 = some 8 := by kernel_rfl
@[simp] theorem ze18 : zeroT Tryd.prog 18 = some (.agg #[.pointer none]) := by kernel_rfl
@[simp] theorem sz19 : sizeT Tryd.prog 19 = some 1 := by kernel_rfl
@[simp] theorem by19 : bytesT Tryd.prog 19 = some 8 := by kernel_rfl
@[simp] theorem ze19 : zeroT Tryd.prog 19 = some (.agg #[.pointer none]) := by kernel_rfl
@[simp] theorem sz20 : sizeT Tryd.prog 20 = some 1 := by kernel_rfl
@[simp] theorem by20 : bytesT Tryd.prog 20 = some 16 := by kernel_rfl
@[simp] theorem ze20 : zeroT Tryd.prog 20 = some (.nilIface) := by kernel_rfl
@[simp] theorem sz21 : sizeT Tryd.prog 21 = some 1 := by kernel_rfl
@[simp] theorem by21 : bytesT Tryd.prog 21 = some 4 := by kernel_rfl
@[simp] theorem ze21 : zeroT Tryd.prog 21 = some (.int .i32 0) := by kernel_rfl
@[simp] theorem sz22 : sizeT Tryd.prog 22 = some 1 := by kernel_rfl
@[simp] theorem by22 : bytesT Tryd.prog 22 = some 24 := by kernel_rfl
@[simp] theorem ze22 : zeroT Tryd.prog 22 = some (.slice none 0 0) := by kernel_rfl
@[simp] theorem sz23 : sizeT Tryd.prog 23 = some 1 := by kernel_rfl
@[simp] theorem by23 : bytesT Tryd.prog 23 = some 8 := by kernel_rfl
@[simp] theorem ze23 : zeroT Tryd.prog 23 = some (.nilFunc) := by kernel_rfl
@[simp] theorem sz24 : sizeT Tryd.prog 24 = some 1 := by kernel_rfl
@[simp] theorem by24 : bytesT Tryd.prog 24 = some 8 := by kernel_rfl
@[simp] theorem ze24 : zeroT Tryd.prog 24 = some (.nilFunc) := by kernel_rfl
@[simp] theorem sz25 : sizeT Tryd.prog 25 = some 1 := by kernel_rfl
@[simp] theorem by25 : bytesT Tryd.prog 25 = some 8 := by kernel_rfl
@[simp] theorem ze25 : zeroT Tryd.prog 25 = some (.nilFunc) := by kernel_rfl
@[simp] theorem sz26 : sizeT Tryd.prog 26 = some 1 := by kernel_rfl
@[simp] theorem by26 : bytesT Tryd.prog 26 = some 8 := by kernel_rfl
@[simp] theorem ze26 : zeroT Tryd.prog 26 = some (.nilFunc) := by kernel_rfl
@[simp] theorem sz27 : sizeT Tryd.prog 27 = some 1 := by kernel_rfl
@[simp] theorem by27 : bytesT Tryd.prog 27 = some 8 := by kernel_rfl
@[simp] theorem ze27 : zeroT Tryd.prog 27 = some (.nilFunc) := by kernel_rfl
@[simp] theorem sz28 : sizeT Tryd.prog 28 = some 1 := by kernel_rfl
@[simp] theorem by28 : bytesT Tryd.prog 28 = some 8 := by kernel_rfl
@[simp] theorem ze28 : zeroT Tryd.prog 28 = some (.nilFunc) := by kernel_rfl
@[simp] theorem sz29 : sizeT Tryd.prog 29 = some 1 := by kernel_rfl
@[simp] theorem by29 : bytesT Tryd.prog 29 = some 24 := by kernel_rfl
@[simp] theorem ze29 : zeroT Tryd.prog 29 = some (.slice none 0 0) := by kernel_rfl
@[simp] theorem sz30 : sizeT Tryd.prog 30 = some 3 := by kernel_rfl
@[simp] theorem by30 : bytesT Tryd.prog 30 = some 40 := by kernel_rfl
@[simp] theorem ze30 : zeroT Tryd.prog 30 = some (.agg #[.slice none 0 0, .int .u8 0, .int .i64 0]) := by kernel_rfl
@[simp] theorem sz31 : sizeT Tryd.prog 31 = some 3 := by kernel_rfl
@[simp] theorem by31 : bytesT Tryd.prog 31 = some 40 := by kernel_rfl
@[simp] theorem ze31 : zeroT Tryd.prog 31 = some (.agg #[.slice none 0 0, .int .u8 0, .int .i64 0]) := by kernel_rfl
@[simp] theorem sz32 : sizeT Tryd.prog 32 = some 1 := by kernel_rfl
@[simp] theorem by32 : bytesT Tryd.prog 32 = some 8 := by kernel_rfl
@[simp] theorem ze32 : zeroT Tryd.prog 32 = some (.nilFunc) := by kernel_rfl
@[simp] theorem sz33 : sizeT Tryd.prog 33 = some 1 := by kernel_rfl
@[simp] theorem by33 : bytesT Tryd.prog 33 = some 8 := by kernel_rfl
@[simp] theorem ze33 : zeroT Tryd.prog 33 = some (.nilFunc) := by kernel_rfl
@[simp] theorem sz34 : sizeT Tryd.prog 34 = some 1 := by kernel_rfl
@[simp] theorem by34 : bytesT Tryd.prog 34 = some 24 := by kernel_rfl
@[simp] theorem ze34 : zeroT Tryd.prog 34 = some (.slice none 0 0) := by kernel_rfl
@[simp] theorem sz36 : sizeT Tryd.prog 36 = some 1 := by kernel_rfl
@[simp] theorem by36 : bytesT Tryd.prog 36 = some 8 := by kernel_rfl
@[simp] theorem ze36 : zeroT Tryd.prog 36 = some (.nilFunc) := by kernel_rfl
@[simp] theorem sz37 : sizeT Tryd.prog 37 = some 1 := by kernel_rfl
@[simp] theorem by37 : bytesT Tryd.prog 37 = some 8 := by kernel_rfl
@[simp] theorem ze37 : zeroT Tryd.prog 37 = some (.nilFunc) := by kernel_rfl
@[simp] theorem sz38 : sizeT Tryd.prog 38 = some 4 := by kernel_rfl
@[simp] theorem by38 : bytesT Tryd.prog 38 = some 32 := by kernel_rfl
@[simp] theorem ze38 : zeroT Tryd.prog 38 = some (.agg #[.int .i64 0, .int .i64 0, .int .i64 0, .int .u8 0]) := by kernel_rfl
@[simp] theorem sz39 : sizeT Tryd.prog 39 = some 4 := by kernel_rfl
@[simp] theorem by39 : bytesT Tryd.prog 39 = some 32 := by kernel_rfl
@[simp] theorem ze39 : zeroT Tryd.prog 39 = some (.agg #[.int .i64 0, .int .i64 0, .int .i64 0, .int .u8 0]) := by kernel_rfl
@[simp] theorem sz40 : sizeT Tryd.prog 40 = some 1 := by kernel_rfl
@[simp] theorem by40 : bytesT Tryd.prog 40 = some 8 := by kernel_rfl
@[simp] theorem ze40 : zeroT Tryd.prog 40 = some (.int .i64 0) := by kernel_rfl
@[simp] theorem sz42 : sizeT Tryd.prog 42 = some 1 := by kernel_rfl
@[simp] theorem by42 : bytesT Tryd.prog 42 = some 8 := by kernel_rfl
@[simp] theorem ze42 : zeroT Tryd.prog 42 = some (.nilFunc) := by kernel_rfl
@[simp] theorem sz44 : sizeT Tryd.prog 44 = some 1 := by kernel_rfl
@[simp] theorem by44 : bytesT Tryd.prog 44 = some 8 := by kernel_rfl
@[simp] theorem ze44 : zeroT Tryd.prog 44 = some (.nilFunc) := by kernel_rfl
@[simp] theorem sz45 : sizeT Tryd.prog 45 = some 1 := by kernel_rfl
@[simp] theorem by45 : bytesT Tryd.prog 45 = some 8 := by kernel_rfl
@[simp] theorem ze45 : zeroT Tryd.prog 45 = some (.nilFunc) := by kernel_rfl
@[simp] theorem sz46 : sizeT Tryd.prog 46 = some 1 := by kernel_rfl
@[simp] theorem by46 : bytesT Tryd.prog 46 = some 8 := by kernel_rfl
@[simp] theorem ze46 : zeroT Tryd.prog 46 = some (.nilFunc) := by kernel_rfl
@[simp] theorem sz47 : sizeT Tryd.prog 47 = some 1 := by kernel_rfl
@[simp] theorem by47 : bytesT Tryd.prog 47 = some 24 := by kernel_rfl
@[simp] theorem ze47 : zeroT Tryd.prog 47 = some (.slice none 0 0) := by kernel_rfl
@[simp] theorem sz48 : sizeT Tryd.prog 48 = some 1 := by kernel_rfl
@[simp] theorem by48 : bytesT Tryd.prog 48 = some 8 := by kernel_rfl
@[simp] theorem ze48 : zeroT Tryd.prog 48 = some (.nilFunc) := by kernel_rfl
@[simp] theorem sz49 : sizeT Tryd.prog 49 = some 1 := by kernel_rfl
@[simp] theorem by49 : bytesT Tryd.prog 49 = some 8 := by kernel_rfl
@[simp] theorem ze49 : zeroT Tryd.prog 49 = some (.nilFunc) := by kernel_rfl
@[simp] theorem sz50 : sizeT Tryd.prog 50 = some 5 := by kernel_rfl
@[simp] theorem by50 : bytesT Tryd.prog 50 = some 40 := by kernel_rfl
@[simp] theorem ze50 : zeroT Tryd.prog 50 = some (.agg #[.int .i64 0, .int .i64 0, .int .i64 0, .int .i64 0, .int .i64 0]) := by kernel_rfl
@[simp] theorem sz51 : sizeT Tryd.prog 51 = some 5 := by kernel_rfl
@[simp] theorem by51 : bytesT Tryd.prog 51 = some 40 := by kernel_rfl
@[simp] theorem ze51 : zeroT Tryd.prog 51 = some (.agg #[.int .i64 0, .int .i64 0, .int .i64 0, .int .i64 0, .int .i64 0]) := by kernel_rfl
@[simp] theorem sz53 : sizeT Tryd.prog 53 = some 1 := by kernel_rfl
@[simp] theorem by53 : bytesT Tryd.prog 53 = some 8 := by kernel_rfl
@[simp] theorem ze53 : zeroT Tryd.prog 53 = some (.nilFunc) := by kernel_rfl
@[simp] theorem sz54 : sizeT Tryd.prog 54 = some 1 := by kernel_rfl
@[simp] theorem by54 : bytesT Tryd.prog 54 = some 8 := by kernel_rfl
@[simp] theorem ze54 : zeroT Tryd.prog 54 = some (.nilFunc) := by kernel_rfl
@[simp] theorem sz55 : sizeT Tryd.prog 55 = some 1 := by kernel_rfl
@[simp] theorem by55 : bytesT Tryd.prog 55 = some 8 := by kernel_rfl
@[simp] theorem ze55 : zeroT Tryd.prog 55 = some (.nilFunc) := by kernel_rfl
@[simp] theorem sz56 : sizeT Tryd.prog 56 = some 1 := by kernel_rfl
@[simp] theorem by56 : bytesT Tryd.prog 56 = some 8 := by kernel_rfl
@[simp] theorem ze56 : zeroT Tryd.prog 56 = some (.nilFunc) := by kernel_rfl
@[simp] theorem sz57 : sizeT Tryd.prog 57 = some 1 := by kernel_rfl
@[simp] theorem by57 : bytesT Tryd.prog 57 = some 24 := by kernel_rfl
@[simp] theorem ze57 : zeroT Tryd.prog 57 = some (.slice none 0 0) := by kernel_rfl
@[simp] theorem sz58 : sizeT Tryd.prog 58 = some 1 := by kernel_rfl
@[simp] theorem by58 : bytesT Tryd.prog 58 = some 8 := by kernel_rfl
@[simp] theorem ze58 : zeroT Tryd.prog 58 = some (.nilFunc) := by kernel_rfl
@[simp] theorem sz59 : sizeT Tryd.prog 59 = some 1 := by kernel_rfl
@[simp] theorem by59 : bytesT Tryd.prog 59 = some 8 := by kernel_rfl
@[simp] theorem ze59 : zeroT Tryd.prog 59 = some (.nilFunc) := by kernel_rfl
@[simp] theorem sz60 : sizeT Tryd.prog 60 = some 2 := by kernel_rfl
@[simp] theorem by60 : bytesT Tryd.prog 60 = some 48 := by kernel_rfl
@[simp] theorem ze60 : zeroT Tryd.prog 60 = some (.agg #[.slice none 0 0, .slice none 0 0]) := by kernel_rfl
@[simp] theorem sz61 : sizeT Tryd.prog 61 = some 2 := by kernel_rfl
@[simp] theorem by61 : bytesT Tryd.prog 61 = some 48 := by kernel_rfl
@[simp] theorem ze61 : zeroT Tryd.prog 61 = some (.agg #[.slice none 0 0, .slice none 0 0]) := by kernel_rfl
@[simp] theorem sz62 : sizeT Tryd.prog 62 = some 1 := by kernel_rfl
@[simp] theorem by62 : bytesT Tryd.prog 62 = some 8 := by kernel_rfl
@[simp] theorem ze62 : zeroT Tryd.prog 62 = some (.nilFunc) := by kernel_rfl
@[simp] theorem sz63 : sizeT Tryd.prog 63 = some 1 := by kernel_rfl
@[simp] theorem by63 : bytesT Tryd.prog 63 = some 8 := by kernel_rfl
@[simp] theorem ze63 : zeroT Tryd.prog 63 = some (.nilFunc) := by kernel_rfl
@[simp] theorem sz64 : sizeT Tryd.prog 64 = some 1 := by kernel_rfl
@[simp] theorem by64 : bytesT Tryd.prog 64 = some 24 := by kernel_rfl
@[simp] theorem ze64 : zeroT Tryd.prog 64 = some (.slice none 0 0) := by kernel_rfl
@[simp] theorem sz65 : sizeT Tryd.prog 65 = some 1 := by kernel_rfl
@[simp] theorem by65 : bytesT Tryd.prog 65 = some 8 := by kernel_rfl
@[simp] theorem ze65 : zeroT Tryd.prog 65 = some (.nilFunc) := by kernel_rfl
@[simp] theorem sz66 : sizeT Tryd.prog 66 = some 1 := by kernel_rfl
@[simp] theorem by66 : bytesT Tryd.prog 66 = some 8 := by kernel_rfl
@[simp] theorem ze66 : zeroT Tryd.prog 66 = some (.nilFunc) := by kernel_rfl
@[simp] theorem sz67 : sizeT Tryd.prog 67 = some 1 := by kernel_rfl
@[simp] theorem by67 : bytesT Tryd.prog 67 = some 8 := by kernel_rfl
@[simp] theorem ze67 : zeroT Tryd.prog 67 = some (.nilFunc) := by kernel_rfl
@[simp] theorem sz68 : sizeT Tryd.prog 68 = some 1 := by kernel_rfl
@[simp] theorem by68 : bytesT Tryd.prog 68 = some 8 := by kernel_rfl
@[simp] theorem ze68 : zeroT Tryd.prog 68 = some (.nilFunc) := by kernel_rfl
@[simp] theorem sz69 : sizeT Tryd.prog 69 = some 1 := by kernel_rfl
@[simp] theorem by69 : bytesT Tryd.prog 69 = some 8 := by kernel_rfl
@[simp] theorem ze69 : zeroT Tryd.prog 69 = some (.nilFunc) := by kernel_rfl
@[simp] theorem sz71 : sizeT Tryd.prog 71 = some 1 := by kernel_rfl
@[simp] theorem by71 : bytesT Tryd.prog 71 = some 8 := by kernel_rfl
@[simp] theorem ze71 : zeroT Tryd.prog 71 = some (.nilFunc) := by kernel_rfl
@[simp] theorem sz72 : sizeT Tryd.prog 72 = some 1 := by kernel_rfl
@[simp] theorem by72 : bytesT Tryd.prog 72 = some 24 := by kernel_rfl
@[simp] theorem ze72 : zeroT Tryd.prog 72 = some (.slice none 0 0) := by kernel_rfl
@[simp] theorem sz73 : sizeT Tryd.prog 73 = some 1 := by kernel_rfl
@[simp] theorem by73 : bytesT Tryd.prog 73 = some 8 := by kernel_rfl
@[simp] theorem ze73 : zeroT Tryd.prog 73 = some (.nilFunc) := by kernel_rfl
@[simp] theorem sz74 : sizeT Tryd.prog 74 = some 1 := by kernel_rfl
@[simp] theorem by74 : bytesT Tryd.prog 74 = some 8 := by kernel_rfl
@[simp] theorem ze74 : zeroT Tryd.prog 74 = some (.nilFunc) := by kernel_rfl
@[simp] theorem sz75 : sizeT Tryd.prog 75 = some 1 := by kernel_rfl
@[simp] theorem by75 : bytesT Tryd.prog 75 = some 8 := by kernel_rfl
@[simp] theorem ze75 : zeroT Tryd.prog 75 = some (.nilFunc) := by kernel_rfl
@[simp] theorem sz76 : sizeT Tryd.prog 76 = some 1 := by kernel_rfl
@[simp] theorem by76 : bytesT Tryd.prog 76 = some 8 := by kernel_rfl
@[simp] theorem ze76 : zeroT Tryd.prog 76 = some (.nilFunc) := by kernel_rfl
@[simp] theorem sz77 : sizeT Tryd.prog 77 = some 1 := by kernel_rfl
@[simp] theorem by77 : bytesT Tryd.prog 77 = some 8 := by kernel_rfl
@[simp] theorem ze77 : zeroT Tryd.prog 77 = some (.nilFunc) := by kernel_rfl
@[simp] theorem sz78 : sizeT Tryd.prog 78 = some 1 := by kernel_rfl
@[simp] theorem by78 : bytesT Tryd.prog 78 = some 8 := by kernel_rfl
@[simp] theorem ze78 : zeroT Tryd.prog 78 = some (.nilFunc) := by kernel_rfl
@[simp] theorem sz79 : sizeT Tryd.prog 79 = some 1 := by kernel_rfl
@[simp] theorem by79 : bytesT Tryd.prog 79 = some 8 := by kernel_rfl
@[simp] theorem ze79 : zeroT Tryd.prog 79 = some (.nilFunc) := by kernel_rfl
@[simp] theorem sz80 : sizeT Tryd.prog 80 = some 1 := by kernel_rfl
@[simp] theorem by80 : bytesT Tryd.prog 80 = some 8 := by kernel_rfl
@[simp] theorem ze80 : zeroT Tryd.prog 80 = some (.nilFunc) := by kernel_rfl
@[simp] theorem sz81 : sizeT Tryd.prog 81 = some 1 := by kernel_rfl
@[simp] theorem by81 : bytesT Tryd.prog 81 = some 8 := by kernel_rfl
@[simp] theorem ze81 : zeroT Tryd.prog 81 = some (.nilFunc) := by kernel_rfl
@[simp] theorem sz82 : sizeT Tryd.prog 82 = some 1 := by kernel_rfl
@[simp] theorem by82 : bytesT Tryd.prog 82 = some 8 := by kernel_rfl
@[simp] theorem ze82 : zeroT Tryd.prog 82 = some (.nilFunc) := by kernel_rfl
@[simp] theorem sz83 : sizeT Tryd.prog 83 = some 1 := by kernel_rfl
@[simp] theorem by83 : bytesT Tryd.prog 83 = some 8 := by kernel_rfl
@[simp] theorem ze83 : zeroT Tryd.prog 83 = some (.nilFunc) := by kernel_rfl
@[simp] theorem sz84 : sizeT Tryd.prog 84 = some 1 := by kernel_rfl
@[simp] theorem by84 : bytesT Tryd.prog 84 = some 8 := by kernel_rfl
@[simp] theorem ze84 : zeroT Tryd.prog 84 = some (.nilFunc) := by kernel_rfl
@[simp] theorem sz86 : sizeT Tryd.prog 86 = some 1 := by kernel_rfl
@[simp] theorem by86 : bytesT Tryd.prog 86 = some 8 := by kernel_rfl
@[simp] theorem ze86 : zeroT Tryd.prog 86 = some (.nilFunc) := by kernel_rfl
@[simp] theorem sz87 : sizeT Tryd.prog 87 = some 1 := by kernel_rfl
@[simp] theorem by87 : bytesT Tryd.prog 87 = some 8 := by kernel_rfl
@[simp] theorem ze87 : zeroT Tryd.prog 87 = some (.nilFunc) := by kernel_rfl
@[simp] theorem sz88 : sizeT Tryd.prog 88 = some 1 := by kernel_rfl
@[simp] theorem by88 : bytesT Tryd.prog 88 = some 8 := by kernel_rfl
@[simp] theorem ze88 : zeroT Tryd.prog 88 = some (.nilFunc) := by kernel_rfl
@[simp] theorem sz89 : sizeT Tryd.prog 89 = some 1 := by kernel_rfl
@[simp] theorem by89 : bytesT Tryd.prog 89 = some 8 := by kernel_rfl
@[simp] theorem ze89 : zeroT Tryd.prog 89 = some (.nilFunc) := by kernel_rfl
@[simp] theorem sz90 : sizeT Tryd.prog 90 = some 1 := by kernel_rfl
@[simp] theorem by90 : bytesT Tryd.prog 90 = some 8 := by kernel_rfl
@[simp] theorem ze90 : zeroT Tryd.prog 90 = some (.nilFunc) := by kernel_rfl
@[simp] theorem sz92 : sizeT Tryd.prog 92 = some 1 := by kernel_rfl
@[simp] theorem by92 : bytesT Tryd.prog 92 = some 8 := by kernel_rfl
@[simp] theorem ze92 : zeroT Tryd.prog 92 = some (.nilFunc) := by kernel_rfl
@[simp] theorem sz93 : sizeT Tryd.prog 93 = some 1 := by kernel_rfl
@[simp] theorem by93 : bytesT Tryd.prog 93 = some 8 := by kernel_rfl
@[simp] theorem ze93 : zeroT Tryd.prog 93 = some (.nilFunc) := by kernel_rfl
@[simp] theorem sz94 : sizeT Tryd.prog 94 = some 1 := by kernel_rfl
@[simp] theorem by94 : bytesT Tryd.prog 94 = some 8 := by kernel_rfl
@[simp] theorem ze94 : zeroT Tryd.prog 94 = some (.nilFunc) := by kernel_rfl
@[simp] theorem sz95 : sizeT Tryd.prog 95 = some 1 := by kernel_rfl
@[simp] theorem by95 : bytesT Tryd.prog 95 = some 24 := by kernel_rfl
@[simp] theorem ze95 : zeroT Tryd.prog 95 = some (.slice none 0 0) := by kernel_rfl
@[simp] theorem sz97 : sizeT Tryd.prog 97 = some 1 := by kernel_rfl
@[simp] theorem by97 : bytesT Tryd.prog 97 = some 8 := by kernel_rfl
@[simp] theorem ze97 : zeroT Tryd.prog 97 = some (.nilFunc) := by kernel_rfl
@[simp] theorem sz98 : sizeT Tryd.prog 98 = some 2 := by kernel_rfl
@[simp] theorem by98 : bytesT Tryd.prog 98 = some 16 := by kernel_rfl
@[simp] theorem ze98 : zeroT Tryd.prog 98 = some (.agg #[.int .i64 0, .int .i64 0]) := by kernel_rfl
@[simp] theorem sz99 : sizeT Tryd.prog 99 = some 2 := by kernel_rfl
@[simp] theorem by99 : bytesT Tryd.prog 99 = some 16 := by kernel_rfl
@[simp] theorem ze99 : zeroT Tryd.prog 99 = some (.agg #[.int .i64 0, .int .i64 0]) := by kernel_rfl
@[simp] theorem sz100 : sizeT Tryd.prog 100 = some 1 := by kernel_rfl
@[simp] theorem by100 : bytesT Tryd.prog 100 = some 24 := by kernel_rfl
@[simp] theorem ze100 : zeroT Tryd.prog 100 = some (.slice none 0 0) := by kernel_rfl
@[simp] theorem sz101 : sizeT Tryd.prog 101 = some 1 := by kernel_rfl
@[simp] theorem by101 : bytesT Tryd.prog 101 = some 8 := by kernel_rfl
@[simp] theorem ze101 : zeroT Tryd.prog 101 = some (.nilFunc) := by kernel_rfl
@[simp] theorem sz102 : sizeT Tryd.prog 102 = some 2 := by kernel_rfl
@[simp] theorem by102 : bytesT Tryd.prog 102 = some 16 := by kernel_rfl
@[simp] theorem ze102 : zeroT Tryd.prog 102 = some (.agg #[.int .i64 0, .int .i64 0]) := by kernel_rfl
@[simp] theorem sz103 : sizeT Tryd.prog 103 = some 2 := by kernel_rfl
@[simp] theorem by103 : bytesT Tryd.prog 103 = some 16 := by kernel_rfl
@[simp] theorem ze103 : zeroT Tryd.prog 103 = some (.agg #[.int .i64 0, .int .i64 0]) := by kernel_rfl
@[simp] theorem sz105 : sizeT Tryd.prog 105 = some 1 := by kernel_rfl
@[simp] theorem by105 : bytesT Tryd.prog 105 = some 8 := by kernel_rfl
@[simp] theorem ze105 : zeroT Tryd.prog 105 = some (.nilFunc) := by kernel_rfl
@[simp] theorem sz106 : sizeT Tryd.prog 106 = some 1 := by kernel_rfl
@[simp] theorem by106 : bytesT Tryd.prog 106 = some 8 := by kernel_rfl
@[simp] theorem ze106 : zeroT Tryd.prog 106 = some (.nilFunc) := by kernel_rfl
@[simp] theorem sz107 : sizeT Tryd.prog 107 = some 1 := by kernel_rfl
@[simp] theorem by107 : bytesT Tryd.prog 107 = some 8 := by kernel_rfl
@[simp] theorem ze107 : zeroT Tryd.prog 107 = some (.nilFunc) := by kernel_rfl
@[simp] theorem sz108 : sizeT Tryd.prog 108 = some 1 := by kernel_rfl
@[simp] theorem by108 : bytesT Tryd.prog 108 = some 8 := by kernel_rfl
@[simp] theorem ze108 : zeroT Tryd.prog 108 = some (.nilFunc) := by kernel_rfl
@[simp] theorem sz109 : sizeT Tryd.prog 109 = some 1 := by kernel_rfl
@[simp] theorem by109 : bytesT Tryd.prog 109 = some 8 := by kernel_rfl
@[simp] theorem ze109 : zeroT Tryd.prog 109 = some (.nilFunc) := by kernel_rfl
@[simp] theorem sz110 : sizeT Tryd.prog 110 = some 1 := by kernel_rfl
@[simp] theorem by110 : bytesT Tryd.prog 110 = some 8 := by kernel_rfl
@[simp] theorem ze110 : zeroT Tryd.prog 110 = some (.nilFunc) := by kernel_rfl
@[simp] theorem sz111 : sizeT Tryd.prog 111 = some 1 := by kernel_rfl
@[simp] theorem by111 : bytesT Tryd.prog 111 = some 8 := by kernel_rfl
@[simp] theorem ze111 : zeroT Tryd.prog 111 = some (.nilFunc) := by kernel_rfl
@[simp] theorem sz112 : sizeT Tryd.prog 112 = some 1 := by kernel_rfl
@[simp] theorem by112 : bytesT Tryd.prog 112 = some 8 := by kernel_rfl
@[simp] theorem ze112 : zeroT Tryd.prog 112 = some (.int .u64 0) := by kernel_rfl
@[simp] theorem sz113 : sizeT Tryd.prog 113 = some 256 := by kernel_rfl
@[simp] theorem by113 : bytesT Tryd.prog 113 = some 256 := by kernel_rfl
@[simp] theorem sz114 : sizeT Tryd.prog 114 = some 2 := by kernel_rfl
@[simp] theorem by114 : bytesT Tryd.prog 114 = some 2 := by kernel_rfl
@[simp] theorem ze114 : zeroT Tryd.prog 114 = some (.agg #[.int .u8 0, .int .u8 0]) := by kernel_rfl
@[simp] theorem sz115 : sizeT Tryd.prog 115 = some 2 := by kernel_rfl
@[simp] theorem by115 : bytesT Tryd.prog 115 = some 2 := by kernel_rfl
@[simp] theorem ze115 : zeroT Tryd.prog 115 = some (.agg #[.int .u8 0, .int .u8 0]) := by kernel_rfl
@[simp] theorem sz116 : sizeT Tryd.prog 116 = some 32 := by kernel_rfl
@[simp] theorem by116 : bytesT Tryd.prog 116 = some 32 := by kernel_rfl
@[simp] theorem ze116 : zeroT Tryd.prog 116 = some (.agg #[.int .u8 0, .int .u8 0, .int .u8 0, .int .u8 0, .int .u8 0, .int .u8 0, .int .u8 0, .int .u8 0, .int .u8 0, .int .u8 0, .int .u8 0, .int .u8 0, .int .u8 0, .int .u8 0, .int .u8 0, .int .u8 0, .int .u8 0, .int .u8 0, .int .u8 0, .int .u8 0, .int .u8 0, .int .u8 0, .int .u8 0, .int .u8 0, .int .u8 0, .int .u8 0, .int .u8 0, .int .u8 0, .int .u8 0, .int .u8 0, .int .u8 0, .int .u8 0]) := by kernel_rfl
@[simp] theorem sz117 : sizeT Tryd.prog 117 = some 1 := by kernel_rfl
@[simp] theorem by117 : bytesT Tryd.prog 117 = some 8 := by kernel_rfl
@[simp] theorem ze117 : zeroT Tryd.prog 117 = some (.nilFunc) := by kernel_rfl
@[simp] theorem sz118 : sizeT Tryd.prog 118 = some 256 := by kernel_rfl
@[simp] theorem by118 : bytesT Tryd.prog 118 = some 256 := by kernel_rfl
@[simp] theorem sz119 : sizeT Tryd.prog 119 = some 256 := by kernel_rfl
@[simp] theorem by119 : bytesT Tryd.prog 119 = some 256 := by kernel_rfl
@[simp] theorem sz121 : sizeT Tryd.prog 121 = some 1 := by kernel_rfl
@[simp] theorem by121 : bytesT Tryd.prog 121 = some 8 := by kernel_rfl
@[simp] theorem ze121 : zeroT Tryd.prog 121 = some (.nilFunc) := by kernel_rfl
@[simp] theorem sz122 : sizeT Tryd.prog 122 = some 1 := by kernel_rfl
@[simp] theorem by122 : bytesT Tryd.prog 122 = some 8 := by kernel_rfl
@[simp] theorem ze122 : zeroT Tryd.prog 122 = some (.nilFunc) := by kernel_rfl
@[simp] theorem sz123 : sizeT Tryd.prog 123 = some 1 := by kernel_rfl
@[simp] theorem by123 : bytesT Tryd.prog 123 = some 8 := by kernel_rfl
@[simp] theorem ze123 : zeroT Tryd.prog 123 = some (.pointer none) := by kernel_rfl
@[simp] theorem sz124 : sizeT Tryd.prog 124 = some 1 := by kernel_rfl
@[simp] theorem by124 : bytesT Tryd.prog 124 = some 8 := by kernel_rfl
@[simp] theorem ze124 : zeroT Tryd.prog 124 = some (.nilFunc) := by kernel_rfl
@[simp] theorem sz125 : sizeT Tryd.prog 125 = some 1 := by kernel_rfl
@[simp] theorem by125 : bytesT Tryd.prog 125 = some 4 := by kernel_rfl
@[simp] theorem ze125 : zeroT Tryd.prog 125 = some (.int .u32 0) := by kernel_rfl
@[simp] theorem sz127 : sizeT Tryd.prog 127 = some 1 := by kernel_rfl
@[simp] theorem by127 : bytesT Tryd.prog 127 = some 8 := by kernel_rfl
@[simp] theorem ze127 : zeroT Tryd.prog 127 = some (.nilFunc) := by kernel_rfl
@[simp] theorem sz128 : sizeT Tryd.prog 128 = some 1 := by kernel_rfl
@[simp] theorem by128 : bytesT Tryd.prog 128 = some 8 := by kernel_rfl
@[simp] theorem ze128 : zeroT Tryd.prog 128 = some (.nilFunc) := by kernel_rfl
@[simp] theorem sz129 : sizeT Tryd.prog 129 = some 1 := by kernel_rfl
@[simp] theorem by129 : bytesT Tryd.prog 129 = some 8 := by kernel_rfl
@[simp] theorem ze129 : zeroT Tryd.prog 129 = some (.nilFunc) := by kernel_rfl
@[simp] theorem sz130 : sizeT Tryd.prog 130 = some 4 := by kernel_rfl
@[simp] theorem by130 : bytesT Tryd.prog 130 = some 40 := by kernel_rfl
@[simp] theorem ze130 : zeroT Tryd.prog 130 = some (.agg #[.pointer none, .pointer none, .pointer none, .string ⟨⟨[]⟩⟩]) := by kernel_rfl
@[simp] theorem sz131 : sizeT Tryd.prog 131 = some 4 := by kernel_rfl
@[simp] theorem by131 : bytesT Tryd.prog 131 = some 40 := by kernel_rfl
@[simp] theorem ze131 : zeroT Tryd.prog 131 = some (.agg #[.pointer none, .pointer none, .pointer none, .string ⟨⟨[]⟩⟩]) := by kernel_rfl
@[simp] theorem sz132 : sizeT Tryd.prog 132 = some 0 := by kernel_rfl
@[simp] theorem by132 : bytesT Tryd.prog 132 = some 0 := by kernel_rfl
@[simp] theorem ze132 : zeroT Tryd.prog 132 = some (.agg #[]) := by kernel_rfl
@[simp] theorem sz133 : sizeT Tryd.prog 133 = some 0 := by kernel_rfl
@[simp] theorem by133 : bytesT Tryd.prog 133 = some 0 := by kernel_rfl
@[simp] theorem ze133 : zeroT Tryd.prog 133 = some (.agg #[]) := by kernel_rfl
@[simp] theorem sz134 : sizeT Tryd.prog 134 = some 0 := by kernel_rfl
@[simp] theorem by134 : bytesT Tryd.prog 134 = some 0 := by kernel_rfl
@[simp] theorem ze134 : zeroT Tryd.prog 134 = some (.agg #[]) := by kernel_rfl
@[simp] theorem sz135 : sizeT Tryd.prog 135 = some 1 := by kernel_rfl
@[simp] theorem by135 : bytesT Tryd.prog 135 = some 8 := by kernel_rfl
@[simp] theorem ze135 : zeroT Tryd.prog 135 = some (.nilFunc) := by kernel_rfl
@[simp] theorem sz136 : sizeT Tryd.prog 136 = some 1 := by kernel_rfl
@[simp] theorem by136 : bytesT Tryd.prog 136 = some 1 := by kernel_rfl
@[simp] theorem ze136 : zeroT Tryd.prog 136 = some (.int .u8 0) := by kernel_rfl
@[simp] theorem sz137 : sizeT Tryd.prog 137 = some 1 := by kernel_rfl
@[simp] theorem by137 : bytesT Tryd.prog 137 = some 1 := by kernel_rfl
@[simp] theorem ze137 : zeroT Tryd.prog 137 = some (.int .u8 0) := by kernel_rfl
@[simp] theorem sz138 : sizeT Tryd.prog 138 = some 1 := by kernel_rfl
@[simp] theorem by138 : bytesT Tryd.prog 138 = some 8 := by kernel_rfl
@[simp] theorem ze138 : zeroT Tryd.prog 138 = some (.nilFunc) := by kernel_rfl
@[simp] theorem sz139 : sizeT Tryd.prog 139 = some 1 := by kernel_rfl
@[simp] theorem by139 : bytesT Tryd.prog 139 = some 8 := by kernel_rfl
@[simp] theorem ze139 : zeroT Tryd.prog 139 = some (.pointer none) := by kernel_rfl
@[simp] theorem sz140 : sizeT Tryd.prog 140 = some 1 := by kernel_rfl
@[simp] theorem by140 : bytesT Tryd.prog 140 = some 4 := by kernel_rfl
@[simp] theorem ze140 : zeroT Tryd.prog 140 = some (.int .i32 0) := by kernel_rfl
@[simp] theorem sz141 : sizeT Tryd.prog 141 = some 1 := by kernel_rfl
@[simp] theorem by141 : bytesT Tryd.prog 141 = some 4 := by kernel_rfl
@[simp] theorem ze141 : zeroT Tryd.prog 141 = some (.int .i32 0) := by kernel_rfl
@[simp] theorem sz142 : sizeT Tryd.prog 142 = some 11 := by kernel_rfl
@[simp] theorem by142 : bytesT Tryd.prog 142 = some 48 := by kernel_rfl
@[simp] theorem ze142 : zeroT Tryd.prog 142 = some (.agg #[.int .u64 0, .int .u64 0, .int .u32 0, .int .u8 0, .int .u8 0, .int .u8 0, .int .u8 0, .nilFunc, .pointer none, .int .i32 0, .int .i32 0]) := by kernel_rfl
@[simp] theorem sz143 : sizeT Tryd.prog 143 = some 11 := by kernel_rfl
@[simp] theorem by143 : bytesT Tryd.prog 143 = some 48 := by kernel_rfl
@[simp] theorem ze143 : zeroT Tryd.prog 143 = some (.agg #[.int .u64 0, .int .u64 0, .int .u32 0, .int .u8 0, .int .u8 0, .int .u8 0, .int .u8 0, .nilFunc, .pointer none, .int .i32 0, .int .i32 0]) := by kernel_rfl
@[simp] theorem sz144 : sizeT Tryd.prog 144 = some 1 := by kernel_rfl
@[simp] theorem by144 : bytesT Tryd.prog 144 = some 8 := by kernel_rfl
@[simp] theorem ze144 : zeroT Tryd.prog 144 = some (.pointer none) := by kernel_rfl
end Go.Eng.R16.Ty

namespace Go.Eng.R16.Q
open Go Go.Eng Go.Eng.R16 Go.Proofs

@[simp] theorem CP : C.P = Tryd.prog := rfl

theorem fs_awake : FS C 11 [] [] (fun r => r = .ret (bo true) []) := by
  refine FS.intr rfl fun H Z B vs h1 h2 => ?_
  obtain rfl : vs = [] := by have := h2.1; cases vs <;> simp_all
  exact ⟨.bool true, _, rfl, rfl, rfl, rfl⟩

theorem bytesV_ok {H : AHeap} {Z : Nat → Prop} {l : List UInt8} {v : Value} (h : RD H Z (bytesD l) v) : bytesV H v = some l := by
  have hb := bytesOfD_bcs l
  unfold bytesD at h
  generalize hn : l.length = n at h
  generalize hcs : bcs l = cs at h hb
  cases h with
  | nil =>
    obtain rfl := List.eq_nil_of_length_eq_zero hn
    rfl
  | sl h1 h2 h3 h4 h5 h6 h7 h8 =>
    have hr : RDs H Z cs _ _ := ⟨h7, h8⟩
    rw [Nat.mul_one] at h6
    have hw := win_ok hr h6.symm
    simp only [bytesV, hr.cells? h2 (alive_of h3) (Nat.le_of_eq h6.symm)]
    exact bytes_ok hb hw.1 hw.2

/-- bytes.Compare. -/
theorem fs_compare0 (a b : List UInt8) : FS C 37 [.dv (bytesD a), .dv (bytesD b)] [] (fun r => r = .ret (i64 (Lib.compareBytes a b)) []) := by
  refine FS.intr (g := cmpI) rfl fun H Z B vs h1 h2 => ?_
  obtain ⟨x, y, rfl⟩ : ∃ x y, vs = [x, y] := by
    have := h2.1
    match vs, this with
    | [a, b], _ => exact ⟨a, b, rfl⟩
  have r1 := h2.2 0 _ _ rfl rfl
  have r2 := h2.2 1 _ _ rfl rfl
  cases r1 with | dv r1 =>
  cases r2 with | dv r2 =>
  exact ⟨_, _, by simp only [cmpI, bytesV_ok r1, bytesV_ok r2]; rfl, rfl, rfl, rfl⟩
end Go.Eng.R16.Q

namespace Go.Eng.R16.Q
open Go Go.Eng Go.Eng.R16 Go.Proofs

/-- Bytes, the reference's way. -/
theorem fs_bytes (a b : List UInt8) : FS C 20 [.dv (bytesD a), .dv (bytesD b)] [] (fun r => r = .ret (i64 (Lib.compareBytes a b)) []) := by
  refine FS.of_code rfl Tryd.func20 rfl ?_
  simp only [Tryd.f20, enumT, bytesD]
  have hc := cmp_less a b
  refine T.reg (fun K hK => by simp; exact hK) ?_
  refine T.seq1 (T.reg (fun K hK => by simp [abin_str_lss]; exact hK) ?_)
  refine T.ifs (t := Op.bytesLess a b) (by simp) (fun h => ?_) fun h => ?_
  · refine T.seq (T.reg (fun K hK => by simp; exact hK) (T.ret ?_))
    simp [NOk, hc, h]
  · refine T.skips (T.seq1 (T.reg (fun K hK => by simp [abin_str_gtr]; exact hK) ?_))
    refine T.ifs (t := !(Op.bytesLess a b || decide (a = b))) (by simp) (fun h2 => ?_) fun h2 => ?_
    · refine T.seq (T.reg (fun K hK => by simp; exact hK) (T.ret ?_))
      simp [h] at h2
      simp [NOk, hc, h, h2]
    · refine T.skips (T.reg (fun K hK => by simp; exact hK) (T.ret ?_))
      simp [h] at h2
      subst h2
      simp [h] at hc
      simp [NOk, hc]

def St0 (h : Int) (acc lr mr : List (List UInt8)) : PS := ⟨79, 0, [(0, .dv (linesD lr)), (1, .dv (linesD mr)), (2, i64 h), (7, .ow 0 0 acc.length)], [.row 1 (acc.map bytesD)]⟩

set_option maxHeartbeats 4000000 in
theorem commRef (h : Int) (ls ms : List (List UInt8)) (hls : ls.length ≤ 1048576) (hms : ms.length ≤ 1048576) (hl : ∀ l ∈ ls, l.length ≤ 1048576) (hm : ∀ l ∈ ms, l.length ≤ 1048576) :
    FS C 9 [.dv (linesD ls), .dv (linesD ms), i64 h] [] (fun r => r = .ret (.ow 0 0 (commS h ls ms).length) [.row 1 ((commS h ls ms).map bytesD)]) := by
  refine FS.of_code rfl Tryd.func9 rfl ?_
  simp only [Tryd.f9, enumT]
  refine T.reg (fun K hK => by simp; exact hK) ?_
  refine T.reg (fun K hK => by simp; exact hK) ?_
  refine T.weak (.nilrow (i := 7) (z := 1) (by simp)) ?_
  refine T.seq (T.block (T.loop (fun k p => ∃ acc lr mr, k = lr.length + mr.length ∧ p = St0 h acc lr mr ∧ acc ++ commS h lr mr = commS h ls ms ∧ acc.length + lr.length + mr.length ≤ ls.length + ms.length ∧
      (∀ l ∈ lr, l.length ≤ 1048576) ∧ (∀ l ∈ mr, l.length ≤ 1048576)) (ls.length + ms.length) (.norm (keep := [0, 1, 2, 7]) (ks := [0]) (by simp [NOk])) ⟨[], ls, ms, rfl, by simp [St0], by simp, by simp, hl, hm⟩ ?_))
  rintro k _ ⟨acc, lr, mr, rfl, rfl, hacc, hlen, hl', hm'⟩
  have hb : (!decide (lr = [] ∧ mr = [])) = true ∨ (lr = [] ∧ mr = []) := by
    by_cases h : lr = [] ∧ mr = []
    · exact .inr h
    · left; simp only [decide_eq_false h, Bool.not_false]
  rcases hb with hb | ⟨rfl, rfl⟩
  · simp only [Bool.not_eq_true', decide_eq_false_iff_not] at hb
    refine T.cut (fun p => p = St0 h acc lr mr) ?_ ?_
    · rcases lr with _ | ⟨x, lr⟩
      · rcases mr with _ | ⟨z, mr⟩
        · exact absurd ⟨rfl, rfl⟩ hb
        have hp : (0 : Int) < (mr.length : Int) + 1 := by omega
        refine T.reg (fun K hK => by simp [St0, linesD, hp]; exact hK) ?_
        refine T.cond (t := true) (by simp) (fun _ => T.skip ?_) (fun h => by cases h)
        exact ⟨_, .norm (keep := [0, 1, 2, 7]) (ks := [0]) (by simp [NOk]), by simp [St0, linesD]⟩
      · have hp : (0 : Int) < (lr.length : Int) + 1 := by omega
        refine T.reg (fun K hK => by simp [St0, linesD, hp]; exact hK) ?_
        refine T.cond (t := true) (by simp) (fun _ => T.skip ?_) (fun h => by cases h)
        exact ⟨_, .norm (keep := [0, 1, 2, 7]) (ks := [0]) (by simp [NOk]), by simp [St0, linesD]⟩
    · rintro _ rfl
      refine T.block (T.assoc (T.assoc (T.assoc (T.assoc (T.assoc (T.assoc (T.assoc (T.cut (fun p => ∃ (u v : List (List UInt8)) (l : List UInt8) (n : Nat), n < 3 ∧
        p = ⟨79, 0, [(0, .dv (linesD u)), (1, .dv (linesD v)), (2, i64 h), (7, .ow 0 0 acc.length), (9, i64 n), (10, .dv (bytesD l))], [.row 1 (acc.map bytesD)]⟩ ∧ l.length ≤ 1048576 ∧
        commS h lr mr = told h n l ++ commS h u v ∧ u.length + v.length < lr.length + mr.length ∧ (∀ l ∈ u, l.length ≤ 1048576) ∧ (∀ l ∈ v, l.length ≤ 1048576)) ?_ ?_))))))))
      · rcases lr with _ | ⟨x, lr⟩
        · rcases mr with _ | ⟨z, mr⟩
          · exact absurd ⟨rfl, rfl⟩ hb
          simp only [St0, linesD, List.length_nil, List.length_cons, List.map_nil, List.map_cons]
          (repeat (first | refine T.seq1 ?_ | refine T.skips ?_ | (apply T.reg; focus (intro K hK; (simp ); (repeat' (first | exact hK | trivial | omega | apply And.intro)); done)) | (apply T.regd; (focus kernel_rfl); focus (intro K hK; (simp ); (repeat' (first | exact hK | trivial | omega | apply And.intro)); done)) | (refine T.ifT ?_ ?_; focus (simp ; done)) | (refine T.ifF ?_ ?_; focus (simp ; done)) | (apply T.rege; focus (intro K hK; (simp ); (repeat' (first | exact hK | trivial | omega | apply And.intro)); done)) | (apply T.regde; (focus kernel_rfl); focus (intro K hK; (simp ); (repeat' (first | exact hK | trivial | omega | apply And.intro)); done)) | refine T.skip ?_ | (refine T.condT ?_ ?_; focus (simp ; done)) | (refine T.condF ?_ ?_; focus (simp ; done)) | refine T.seq (T.block ?_) | ((first | refine T.exits ?_ | refine T.exit ?_); dsimp only; (repeat (first | rw [if_pos rfl] | rw [if_neg (by decide)]))) | refine T.rets ?_ | refine T.ret ?_ | dsimp only))
          exact ⟨_, .norm (keep := [0, 1, 2, 7, 9, 10]) (ks := [0]) (by simp [NOk]), [], mr, z, 1, by decide, by simp, hm' z (by simp), by rw [commS], by simp, hl', fun l hl => hm' l (by simp [hl])⟩
        · rcases mr with _ | ⟨z, mr⟩
          · have hp : ¬ (lr.length : Int) + 1 = 0 := by omega
            simp only [St0, linesD, List.length_nil, List.length_cons, List.map_nil, List.map_cons]
            (repeat (first | refine T.seq1 ?_ | refine T.skips ?_ | (apply T.reg; focus (intro K hK; (simp [hp]); (repeat' (first | exact hK | trivial | omega | apply And.intro)); done)) | (apply T.regd; (focus kernel_rfl); focus (intro K hK; (simp [hp]); (repeat' (first | exact hK | trivial | omega | apply And.intro)); done)) | (refine T.ifT ?_ ?_; focus (simp [hp]; done)) | (refine T.ifF ?_ ?_; focus (simp [hp]; done)) | (apply T.rege; focus (intro K hK; (simp [hp]); (repeat' (first | exact hK | trivial | omega | apply And.intro)); done)) | (apply T.regde; (focus kernel_rfl); focus (intro K hK; (simp [hp]); (repeat' (first | exact hK | trivial | omega | apply And.intro)); done)) | refine T.skip ?_ | (refine T.condT ?_ ?_; focus (simp [hp]; done)) | (refine T.condF ?_ ?_; focus (simp [hp]; done)) | refine T.seq (T.block ?_) | ((first | refine T.exits ?_ | refine T.exit ?_); dsimp only; (repeat (first | rw [if_pos rfl] | rw [if_neg (by decide)]))) | refine T.rets ?_ | refine T.ret ?_ | dsimp only))
            exact ⟨_, .norm (keep := [0, 1, 2, 7, 9, 10]) (ks := [0]) (by simp [NOk]), lr, [], x, 0, by decide, by simp, hl' x (by simp), by rw [commS], by simp, fun l hl => hl' l (by simp [hl]), hm'⟩
          · have hp : ¬ (lr.length : Int) + 1 = 0 := by omega
            have hq : ¬ (mr.length : Int) + 1 = 0 := by omega
            simp only [St0, linesD, List.length_nil, List.length_cons, List.map_nil, List.map_cons]
            by_cases hlt : Lib.compareBytes x z < 0
            · have h1 : Lib.compareBytes x z ≤ 0 := by omega
              have h2 : ¬ 0 ≤ Lib.compareBytes x z := by omega
              have h3 : ¬ 0 < Lib.compareBytes x z := by omega
              have h4 : ¬ Lib.compareBytes x z = 0 := by omega
              (repeat (first | refine T.seq1 ?_ | refine T.skips ?_ | (apply T.reg; focus (intro K hK; (simp [hp, hq, h1, h2, h3, h4]); (repeat' (first | exact hK | trivial | omega | apply And.intro | (refine wpcall.eq [] (by simp) (by simp) rfl (by simp) (fs_bytes x z) ?_; (simp [hp, hq, h1, h2, h3, h4])) | (refine wpcall.lend rfl (by simp) (fs_bytes x z) rfl ?_; (simp [hp, hq, h1, h2, h3, h4])) | (refine wpcallD.eq [] (by simp) (by simp) rfl (by simp) (fs_bytes x z) ?_; (simp [hp, hq, h1, h2, h3, h4])) | (refine wpcallD.lend rfl (by simp) (fs_bytes x z) rfl ?_; (simp [hp, hq, h1, h2, h3, h4])))); done)) | (apply T.regd; (focus kernel_rfl); focus (intro K hK; (simp [hp, hq, h1, h2, h3, h4]); (repeat' (first | exact hK | trivial | omega | apply And.intro | (refine wpcall.eq [] (by simp) (by simp) rfl (by simp) (fs_bytes x z) ?_; (simp [hp, hq, h1, h2, h3, h4])) | (refine wpcall.lend rfl (by simp) (fs_bytes x z) rfl ?_; (simp [hp, hq, h1, h2, h3, h4])) | (refine wpcallD.eq [] (by simp) (by simp) rfl (by simp) (fs_bytes x z) ?_; (simp [hp, hq, h1, h2, h3, h4])) | (refine wpcallD.lend rfl (by simp) (fs_bytes x z) rfl ?_; (simp [hp, hq, h1, h2, h3, h4])))); done)) | (refine T.ifT ?_ ?_; focus (simp [hp, hq, h1, h2, h3, h4]; done)) | (refine T.ifF ?_ ?_; focus (simp [hp, hq, h1, h2, h3, h4]; done)) | (apply T.rege; focus (intro K hK; (simp [hp, hq, h1, h2, h3, h4]); (repeat' (first | exact hK | trivial | omega | apply And.intro | (refine wpcall.eq [] (by simp) (by simp) rfl (by simp) (fs_bytes x z) ?_; (simp [hp, hq, h1, h2, h3, h4])) | (refine wpcall.lend rfl (by simp) (fs_bytes x z) rfl ?_; (simp [hp, hq, h1, h2, h3, h4])) | (refine wpcallD.eq [] (by simp) (by simp) rfl (by simp) (fs_bytes x z) ?_; (simp [hp, hq, h1, h2, h3, h4])) | (refine wpcallD.lend rfl (by simp) (fs_bytes x z) rfl ?_; (simp [hp, hq, h1, h2, h3, h4])))); done)) | (apply T.regde; (focus kernel_rfl); focus (intro K hK; (simp [hp, hq, h1, h2, h3, h4]); (repeat' (first | exact hK | trivial | omega | apply And.intro | (refine wpcall.eq [] (by simp) (by simp) rfl (by simp) (fs_bytes x z) ?_; (simp [hp, hq, h1, h2, h3, h4])) | (refine wpcall.lend rfl (by simp) (fs_bytes x z) rfl ?_; (simp [hp, hq, h1, h2, h3, h4])) | (refine wpcallD.eq [] (by simp) (by simp) rfl (by simp) (fs_bytes x z) ?_; (simp [hp, hq, h1, h2, h3, h4])) | (refine wpcallD.lend rfl (by simp) (fs_bytes x z) rfl ?_; (simp [hp, hq, h1, h2, h3, h4])))); done)) | refine T.skip ?_ | (refine T.condT ?_ ?_; focus (simp [hp, hq, h1, h2, h3, h4]; done)) | (refine T.condF ?_ ?_; focus (simp [hp, hq, h1, h2, h3, h4]; done)) | refine T.seq (T.block ?_) | ((first | refine T.exits ?_ | refine T.exit ?_); dsimp only; (repeat (first | rw [if_pos rfl] | rw [if_neg (by decide)]))) | refine T.rets ?_ | refine T.ret ?_ | dsimp only))
              refine ⟨_, .norm (keep := [0, 1, 2, 7, 9, 10]) (ks := [0]) (by simp [NOk]), lr, z :: mr, x, 0, by decide, by simp, hl' x (by simp), by rw [commS, if_pos hlt], by simp, fun l hl => hl' l (by simp [hl]), hm'⟩
            · by_cases hgt : 0 < Lib.compareBytes x z
              · have h1 : ¬ Lib.compareBytes x z ≤ 0 := by omega
                have h2 : 0 ≤ Lib.compareBytes x z := by omega
                have h4 : ¬ Lib.compareBytes x z = 0 := by omega
                (repeat (first | refine T.seq1 ?_ | refine T.skips ?_ | (apply T.reg; focus (intro K hK; (simp [hp, hq, h1, h2, hgt, h4]); (repeat' (first | exact hK | trivial | omega | apply And.intro | (refine wpcall.eq [] (by simp) (by simp) rfl (by simp) (fs_bytes x z) ?_; (simp [hp, hq, h1, h2, hgt, h4])) | (refine wpcall.lend rfl (by simp) (fs_bytes x z) rfl ?_; (simp [hp, hq, h1, h2, hgt, h4])) | (refine wpcallD.eq [] (by simp) (by simp) rfl (by simp) (fs_bytes x z) ?_; (simp [hp, hq, h1, h2, hgt, h4])) | (refine wpcallD.lend rfl (by simp) (fs_bytes x z) rfl ?_; (simp [hp, hq, h1, h2, hgt, h4])))); done)) | (apply T.regd; (focus kernel_rfl); focus (intro K hK; (simp [hp, hq, h1, h2, hgt, h4]); (repeat' (first | exact hK | trivial | omega | apply And.intro | (refine wpcall.eq [] (by simp) (by simp) rfl (by simp) (fs_bytes x z) ?_; (simp [hp, hq, h1, h2, hgt, h4])) | (refine wpcall.lend rfl (by simp) (fs_bytes x z) rfl ?_; (simp [hp, hq, h1, h2, hgt, h4])) | (refine wpcallD.eq [] (by simp) (by simp) rfl (by simp) (fs_bytes x z) ?_; (simp [hp, hq, h1, h2, hgt, h4])) | (refine wpcallD.lend rfl (by simp) (fs_bytes x z) rfl ?_; (simp [hp, hq, h1, h2, hgt, h4])))); done)) | (refine T.ifT ?_ ?_; focus (simp [hp, hq, h1, h2, hgt, h4]; done)) | (refine T.ifF ?_ ?_; focus (simp [hp, hq, h1, h2, hgt, h4]; done)) | (apply T.rege; focus (intro K hK; (simp [hp, hq, h1, h2, hgt, h4]); (repeat' (first | exact hK | trivial | omega | apply And.intro | (refine wpcall.eq [] (by simp) (by simp) rfl (by simp) (fs_bytes x z) ?_; (simp [hp, hq, h1, h2, hgt, h4])) | (refine wpcall.lend rfl (by simp) (fs_bytes x z) rfl ?_; (simp [hp, hq, h1, h2, hgt, h4])) | (refine wpcallD.eq [] (by simp) (by simp) rfl (by simp) (fs_bytes x z) ?_; (simp [hp, hq, h1, h2, hgt, h4])) | (refine wpcallD.lend rfl (by simp) (fs_bytes x z) rfl ?_; (simp [hp, hq, h1, h2, hgt, h4])))); done)) | (apply T.regde; (focus kernel_rfl); focus (intro K hK; (simp [hp, hq, h1, h2, hgt, h4]); (repeat' (first | exact hK | trivial | omega | apply And.intro | (refine wpcall.eq [] (by simp) (by simp) rfl (by simp) (fs_bytes x z) ?_; (simp [hp, hq, h1, h2, hgt, h4])) | (refine wpcall.lend rfl (by simp) (fs_bytes x z) rfl ?_; (simp [hp, hq, h1, h2, hgt, h4])) | (refine wpcallD.eq [] (by simp) (by simp) rfl (by simp) (fs_bytes x z) ?_; (simp [hp, hq, h1, h2, hgt, h4])) | (refine wpcallD.lend rfl (by simp) (fs_bytes x z) rfl ?_; (simp [hp, hq, h1, h2, hgt, h4])))); done)) | refine T.skip ?_ | (refine T.condT ?_ ?_; focus (simp [hp, hq, h1, h2, hgt, h4]; done)) | (refine T.condF ?_ ?_; focus (simp [hp, hq, h1, h2, hgt, h4]; done)) | refine T.seq (T.block ?_) | ((first | refine T.exits ?_ | refine T.exit ?_); dsimp only; (repeat (first | rw [if_pos rfl] | rw [if_neg (by decide)]))) | refine T.rets ?_ | refine T.ret ?_ | dsimp only))
                refine ⟨_, .norm (keep := [0, 1, 2, 7, 9, 10]) (ks := [0]) (by simp [NOk]), x :: lr, mr, z, 1, by decide, by simp, hm' z (by simp), by rw [commS, if_neg hlt, if_pos hgt], by simp, hl', fun l hl => hm' l (by simp [hl])⟩
              · have h4 : Lib.compareBytes x z = 0 := by omega
                obtain rfl : x = z := cmp_zero h4
                (repeat (first | refine T.seq1 ?_ | refine T.skips ?_ | (apply T.reg; focus (intro K hK; (simp [hp, hq, h4]); (repeat' (first | exact hK | trivial | omega | apply And.intro | (refine wpcall.eq [] (by simp) (by simp) rfl (by simp) (fs_bytes x x) ?_; (simp [hp, hq, h4])) | (refine wpcall.lend rfl (by simp) (fs_bytes x x) rfl ?_; (simp [hp, hq, h4])) | (refine wpcallD.eq [] (by simp) (by simp) rfl (by simp) (fs_bytes x x) ?_; (simp [hp, hq, h4])) | (refine wpcallD.lend rfl (by simp) (fs_bytes x x) rfl ?_; (simp [hp, hq, h4])))); done)) | (apply T.regd; (focus kernel_rfl); focus (intro K hK; (simp [hp, hq, h4]); (repeat' (first | exact hK | trivial | omega | apply And.intro | (refine wpcall.eq [] (by simp) (by simp) rfl (by simp) (fs_bytes x x) ?_; (simp [hp, hq, h4])) | (refine wpcall.lend rfl (by simp) (fs_bytes x x) rfl ?_; (simp [hp, hq, h4])) | (refine wpcallD.eq [] (by simp) (by simp) rfl (by simp) (fs_bytes x x) ?_; (simp [hp, hq, h4])) | (refine wpcallD.lend rfl (by simp) (fs_bytes x x) rfl ?_; (simp [hp, hq, h4])))); done)) | (refine T.ifT ?_ ?_; focus (simp [hp, hq, h4]; done)) | (refine T.ifF ?_ ?_; focus (simp [hp, hq, h4]; done)) | (apply T.rege; focus (intro K hK; (simp [hp, hq, h4]); (repeat' (first | exact hK | trivial | omega | apply And.intro | (refine wpcall.eq [] (by simp) (by simp) rfl (by simp) (fs_bytes x x) ?_; (simp [hp, hq, h4])) | (refine wpcall.lend rfl (by simp) (fs_bytes x x) rfl ?_; (simp [hp, hq, h4])) | (refine wpcallD.eq [] (by simp) (by simp) rfl (by simp) (fs_bytes x x) ?_; (simp [hp, hq, h4])) | (refine wpcallD.lend rfl (by simp) (fs_bytes x x) rfl ?_; (simp [hp, hq, h4])))); done)) | (apply T.regde; (focus kernel_rfl); focus (intro K hK; (simp [hp, hq, h4]); (repeat' (first | exact hK | trivial | omega | apply And.intro | (refine wpcall.eq [] (by simp) (by simp) rfl (by simp) (fs_bytes x x) ?_; (simp [hp, hq, h4])) | (refine wpcall.lend rfl (by simp) (fs_bytes x x) rfl ?_; (simp [hp, hq, h4])) | (refine wpcallD.eq [] (by simp) (by simp) rfl (by simp) (fs_bytes x x) ?_; (simp [hp, hq, h4])) | (refine wpcallD.lend rfl (by simp) (fs_bytes x x) rfl ?_; (simp [hp, hq, h4])))); done)) | refine T.skip ?_ | (refine T.condT ?_ ?_; focus (simp [hp, hq, h4]; done)) | (refine T.condF ?_ ?_; focus (simp [hp, hq, h4]; done)) | refine T.seq (T.block ?_) | ((first | refine T.exits ?_ | refine T.exit ?_); dsimp only; (repeat (first | rw [if_pos rfl] | rw [if_neg (by decide)]))) | refine T.rets ?_ | refine T.ret ?_ | dsimp only))
                refine ⟨_, .norm (keep := [0, 1, 2, 7, 9, 10]) (ks := [0]) (by simp [NOk]), lr, mr, x, 2, by decide, by simp, hl' x (by simp), by rw [commS, if_neg hlt, if_neg hgt], (by show _ < _ + 1 + (_ + 1); omega), fun l hl => hl' l (by simp [hl]), fun l hl => hm' l (by simp [hl])⟩
      · rintro _ ⟨u, v, l, n, hn, rfl, hll, hcm, hlt, hu, hv⟩
        have ha : ∀ {x y : Operand} {k : Nat}, k < 3 → abin Tryd.prog .and 3 x y (.int .i64 (h.fdiv (2 ^ min k IntKind.i64.bits))) (.int .i64 1) = some (.int .i64 (bitw h k)) := fun hk => abin_and1 hk
        have h1 : ∀ {k : Nat}, decide (bitw h k = 1) = bit h k := bitw_one
        have h0 : ∀ {k : Nat}, decide (bitw h k = 0) = !bit h k := bitw_zero
        (repeat (first | refine T.seq1 ?_ | refine T.skips ?_ | (apply T.reg; focus (intro K hK; (simp [ha hn, h1]); (repeat' (first | exact hK | trivial | omega | apply And.intro)); done)) | (apply T.regd; (focus kernel_rfl); focus (intro K hK; (simp [ha hn, h1]); (repeat' (first | exact hK | trivial | omega | apply And.intro)); done)) | (refine T.ifT ?_ ?_; focus (simp [ha hn, h1]; done)) | (refine T.ifF ?_ ?_; focus (simp [ha hn, h1]; done)) | (apply T.rege; focus (intro K hK; (simp [ha hn, h1]); (repeat' (first | exact hK | trivial | omega | apply And.intro)); done)) | (apply T.regde; (focus kernel_rfl); focus (intro K hK; (simp [ha hn, h1]); (repeat' (first | exact hK | trivial | omega | apply And.intro)); done)) | refine T.skip ?_ | (refine T.condT ?_ ?_; focus (simp [ha hn, h1]; done)) | (refine T.condF ?_ ?_; focus (simp [ha hn, h1]; done)) | refine T.seq (T.block ?_) | ((first | refine T.exits ?_ | refine T.exit ?_); dsimp only; (repeat (first | rw [if_pos rfl] | rw [if_neg (by decide)]))) | refine T.rets ?_ | refine T.ret ?_ | dsimp only))
        refine T.ifs (t := bit h n) (by simp) (fun hbit => ?_) fun hbit => ?_
        · (refine T.exits ?_; dsimp only; rw [if_pos rfl])
          refine ⟨_, _, hlt, .norm (keep := [0, 1, 2, 7]) (ks := [0]) (by simp [NOk]), acc, u, v, rfl, by simp [St0], ?_, by omega, hu, hv⟩
          rw [← hacc, hcm, told, if_pos hbit, List.nil_append]
        · refine T.skips (T.reg (fun K hK => by (simp ); (repeat' (first | exact hK | trivial | omega | apply And.intro))) ?_)
          refine T.weak (.nilrow (i := 11) (z := 1) (by simp)) ?_
          refine T.seq1 (T.reg (fun K hK => by (simp ); (repeat' (first | exact hK | trivial | omega | apply And.intro))) (T.seq (T.block ?_)))
          refine T.loop (fun k p => ∃ j, k = n - j ∧ j ≤ n ∧ p = ⟨79, 0, [(0, .dv (linesD u)), (1, .dv (linesD v)), (2, i64 h), (7, .ow 0 0 acc.length), (59, i64 n), (60, i64 j), (10, .dv (bytesD l)), (11, .ow 1 0 (tabs h j).length)],
            [.row 1 (acc.map bytesD), .row 1 (bcs (tabs h j))]⟩) n (.norm (keep := [0, 1, 2, 7, 59, 60, 10, 11]) (ks := [0, 1]) (by simp [NOk])) ⟨0, rfl, Nat.zero_le _, by simp [tabs, bcs]⟩ ?_
          rintro k _ ⟨j, rfl, hj, rfl⟩
          by_cases hjn : j < n
          · have htl := tabs_length h j
            have hts := tabs_succ h j
            cases hbj : bit h j
            · simp only [hbj, Bool.false_eq_true, if_false] at hts
              (repeat (first | refine T.seq1 ?_ | refine T.skips ?_ | (apply T.reg; focus (intro K hK; (simp [hjn, ha (show j < 3 by omega), h0, hbj]); (repeat' (first | exact hK | trivial | omega | apply And.intro)); done)) | (apply T.regd; (focus kernel_rfl); focus (intro K hK; (simp [hjn, ha (show j < 3 by omega), h0, hbj]); (repeat' (first | exact hK | trivial | omega | apply And.intro)); done)) | (refine T.ifT ?_ ?_; focus (simp [hjn, ha (show j < 3 by omega), h0, hbj]; done)) | (refine T.ifF ?_ ?_; focus (simp [hjn, ha (show j < 3 by omega), h0, hbj]; done)) | (apply T.rege; focus (intro K hK; (simp [hjn, ha (show j < 3 by omega), h0, hbj]); (repeat' (first | exact hK | trivial | omega | apply And.intro)); done)) | (apply T.regde; (focus kernel_rfl); focus (intro K hK; (simp [hjn, ha (show j < 3 by omega), h0, hbj]); (repeat' (first | exact hK | trivial | omega | apply And.intro)); done)) | refine T.skip ?_ | (refine T.condT ?_ ?_; focus (simp [hjn, ha (show j < 3 by omega), h0, hbj]; done)) | (refine T.condF ?_ ?_; focus (simp [hjn, ha (show j < 3 by omega), h0, hbj]; done)) | refine T.seq (T.block ?_) | ((first | refine T.exits ?_ | refine T.exit ?_); dsimp only; (repeat (first | rw [if_pos rfl] | rw [if_neg (by decide)]))) | refine T.rets ?_ | refine T.ret ?_ | dsimp only))
              refine ⟨n - (j + 1), _, by omega, .norm (keep := [0, 1, 2, 7, 59, 60, 10, 11]) (ks := [0, 3]) (by simp [NOk]), j + 1, rfl, by omega, ?_⟩
              simp [hts, bcs_append, wrap_succ (show j < 9223372036854775807 by omega)]
              simp [bcs]
            · simp only [hbj, if_true, List.append_nil] at hts
              (repeat (first | refine T.seq1 ?_ | refine T.skips ?_ | (apply T.reg; focus (intro K hK; (simp [hjn, ha (show j < 3 by omega), h0, hbj]); (repeat' (first | exact hK | trivial | omega | apply And.intro)); done)) | (apply T.regd; (focus kernel_rfl); focus (intro K hK; (simp [hjn, ha (show j < 3 by omega), h0, hbj]); (repeat' (first | exact hK | trivial | omega | apply And.intro)); done)) | (refine T.ifT ?_ ?_; focus (simp [hjn, ha (show j < 3 by omega), h0, hbj]; done)) | (refine T.ifF ?_ ?_; focus (simp [hjn, ha (show j < 3 by omega), h0, hbj]; done)) | (apply T.rege; focus (intro K hK; (simp [hjn, ha (show j < 3 by omega), h0, hbj]); (repeat' (first | exact hK | trivial | omega | apply And.intro)); done)) | (apply T.regde; (focus kernel_rfl); focus (intro K hK; (simp [hjn, ha (show j < 3 by omega), h0, hbj]); (repeat' (first | exact hK | trivial | omega | apply And.intro)); done)) | refine T.skip ?_ | (refine T.condT ?_ ?_; focus (simp [hjn, ha (show j < 3 by omega), h0, hbj]; done)) | (refine T.condF ?_ ?_; focus (simp [hjn, ha (show j < 3 by omega), h0, hbj]; done)) | refine T.seq (T.block ?_) | ((first | refine T.exits ?_ | refine T.exit ?_); dsimp only; (repeat (first | rw [if_pos rfl] | rw [if_neg (by decide)]))) | refine T.rets ?_ | refine T.ret ?_ | dsimp only))
              refine ⟨n - (j + 1), _, by omega, .norm (keep := [0, 1, 2, 7, 59, 60, 10, 11]) (ks := [0, 1]) (by simp [NOk]), j + 1, rfl, by omega, ?_⟩
              simp [hts, wrap_succ (show j < 9223372036854775807 by omega)]
          · obtain rfl : j = n := by omega
            have htl := tabs_length h j
            (repeat (first | refine T.seq1 ?_ | refine T.skips ?_ | (apply T.reg; focus (intro K hK; (simp [bytesD]); (repeat' (first | exact hK | trivial | omega | apply And.intro)); done)) | (apply T.regd; (focus kernel_rfl); focus (intro K hK; (simp [bytesD]); (repeat' (first | exact hK | trivial | omega | apply And.intro)); done)) | (refine T.ifT ?_ ?_; focus (simp [bytesD]; done)) | (refine T.ifF ?_ ?_; focus (simp [bytesD]; done)) | (apply T.rege; focus (intro K hK; (simp [bytesD]); (repeat' (first | exact hK | trivial | omega | apply And.intro)); done)) | (apply T.regde; (focus kernel_rfl); focus (intro K hK; (simp [bytesD]); (repeat' (first | exact hK | trivial | omega | apply And.intro)); done)) | refine T.skip ?_ | (refine T.condT ?_ ?_; focus (simp [bytesD]; done)) | (refine T.condF ?_ ?_; focus (simp [bytesD]; done)) | refine T.seq (T.block ?_) | ((first | refine T.exits ?_ | refine T.exit ?_); dsimp only; (repeat (first | rw [if_pos rfl] | rw [if_neg (by decide)]))) | refine T.rets ?_ | refine T.ret ?_ | dsimp only))
            refine ⟨_, _, hlt, .norm (keep := [0, 1, 2, 7]) (ks := [4]) (by simp [NOk]), acc ++ [tabs h j ++ l], u, v, rfl, ?_, ?_, by simp; omega, hu, hv⟩
            · simp [St0, bytesD, bcs_append]
              exact List.take_of_length_le (by simp)
            · rw [← hacc, hcm, told, hbit]
              simp
  · refine T.seq1 (T.reg (fun K hK => by simp [St0, linesD]; exact hK) ?_)
    refine T.ifs (t := false) (by simp) (fun h => by cases h) (fun _ => T.exits ?_)
    simp
    refine T.reg (fun K hK => by simp; exact hK) (T.ret ?_)
    simp
    refine ⟨[0], by simp [NOk], ?_⟩
    rw [← hacc, commS, List.append_nil]
    simp
end Go.Eng.R16.Q

namespace Go.Eng.R16.Q
open Go Go.Eng Go.Eng.R16 Go.Proofs

theorem rdl_of {H : AHeap} {Z : Nat → Prop} {v : Value} {ls : List (List UInt8)} (h : RD H Z (linesD ls) v) : RdL H any1 Z Z v ls := by
  have one : ∀ {d : DV} {w : Value} {l : List UInt8}, d = bytesD l → RD H Z d w → RdB H any1 Z w l := by
    intro d w l hd h
    cases h with
    | sl h1 h2 h3 h4 h5 h6 h7 h8 =>
      rename_i b o n c z cs vs st
      simp only [bytesD, DV.sl.injEq] at hd
      obtain ⟨rfl, rfl, rfl⟩ := hd
      refine .inr ⟨b, o, c, vs, st, by rw [bcells_length], by rw [bcells_length]; exact h5, h1, h2, h3, by rw [bcells_length]; rw [bcs_length] at h7; exact h7, ?_⟩
      refine List.ext_getElem? fun i => ?_
      rw [List.getElem?_take]
      simp only [bcells_length]
      split
      · rename_i hi
        rw [List.getElem?_drop]
        rw [bcs_length] at h7
        have hv : vs[o + i]? = some (vs[o + i]'(by omega)) := by simp [show o + i < vs.length by omega]
        have hrd := h8 i (.sc (.int .u8 (l[i]).toNat)) _ (by simp [bcs, hi]) hv
        rw [hv]
        generalize vs[o + i]'(by omega) = q at hrd
        cases hrd
        simp [bcells, hi]
      · rename_i hi
        simp [bcells, hi]
    | nil =>
      simp only [bytesD, DV.sl.injEq] at hd
      obtain ⟨_, h1, h2⟩ := hd
      obtain rfl := List.eq_nil_of_length_eq_zero h1.symm
      exact .inl ⟨rfl, rfl⟩
    | _ => cases hd
  unfold linesD at h
  generalize hn : ls.length = n at h
  generalize hcs : ls.map bytesD = cs at h
  cases h with
  | nil =>
    obtain rfl := List.eq_nil_of_length_eq_zero hn
    exact .nil
  | sl h1 h2 h3 h4 h5 h6 h7 h8 =>
    rename_i b o c vs st
    subst hcs
    simp only [List.length_map, Nat.mul_one] at h6 h7
    subst hn
    refine ⟨(vs.drop o).take ls.length, .inr ⟨b, o, c, vs, st, ?_, ?_, h1, h2, h3, ?_, ?_⟩, by simp; omega, fun i x l hx hl => ?_⟩
    · simp; omega
    · simp; omega
    · simp; omega
    · rw [List.length_take, List.length_drop, Nat.min_eq_left (by omega)]
    · rw [List.getElem?_take] at hx
      split at hx
      · rename_i hi
        rw [List.getElem?_drop] at hx
        exact one rfl (h8 i (bytesD l) x (by rw [List.getElem?_map, hl]; rfl) hx)
      · cases hx

theorem rd_of {H : AHeap} {a1 a2 : Nat → Prop} {v : Value} {ls : List (List UInt8)} (h : RdL H any1 a1 a2 v ls) : RD H (fun _ => True) (linesD ls) v := by
  have one : ∀ {w : Value} {l : List UInt8}, RdB H any1 a2 w l → RD H (fun _ => True) (bytesD l) w := by
    intro w l h
    rcases h with ⟨rfl, h⟩ | ⟨b, o, c, cs, s, rfl, e2, e3, e4, e5, e6, e7⟩
    · have : l = [] := by
        cases l with
        | nil => rfl
        | cons a l => simp [bcells] at h
      subst this
      exact .nil
    · rw [bcells_length] at e2 e6 e7 ⊢
      refine .sl trivial e4 e5 (by decide) e2 (by simp) (by simpa using e6) fun i x v hx hv => ?_
      have hi : i < l.length := by
        have := (List.getElem?_eq_some_iff.1 hx).1
        simpa using this
      have h7 := congrArg (fun l => l[i]?) e7
      simp only [List.getElem?_take, hi, if_true, List.getElem?_drop] at h7
      rw [hv] at h7
      simp [bcells, hi] at h7
      simp [bcs, hi] at hx
      subst hx
      subst h7
      exact .sc rfl
  obtain ⟨vs, h1, h2, h3⟩ := h
  rcases h1 with ⟨rfl, rfl⟩ | ⟨b, o, c, cs, s, rfl, e2, e3, e4, e5, e6, e7⟩
  · have : ls = [] := by cases ls <;> simp_all
    subst this
    exact .nil
  · rw [h2]
    rw [h2] at e2 e6 e7
    refine .sl trivial e4 e5 (by decide) e2 (by simp) (by simpa using e6) fun i x v hx hv => ?_
    rw [List.getElem?_map, Option.map_eq_some_iff] at hx
    obtain ⟨l, hl, rfl⟩ := hx
    have hi : i < ls.length := (List.getElem?_eq_some_iff.1 hl).1
    have h7 := congrArg (fun l => l[i]?) e7
    simp only [List.getElem?_take, hi, if_true, List.getElem?_drop] at h7
    rw [hv] at h7
    exact one (h3 i v l h7.symm hl)

/-- The reference's Comm, on lines that lie anywhere. -/
theorem commRef' (H : AHeap) (u v : Value) (h : Int) (ls ms : List (List UInt8)) (a1 a2 b1 b2 : Nat → Prop) (hu : RdL H any1 a1 a2 u ls) (hv : RdL H any1 b1 b2 v ms)
    (hls : ls.length ≤ 1048576) (hms : ms.length ≤ 1048576) (hl : ∀ l ∈ ls, l.length ≤ 1048576) (hm : ∀ l ∈ ms, l.length ≤ 1048576) :
    ∃ r H', evw C (.call 9 [u, v, .int .i64 h] H) = some (.ret r H') ∧ H.size ≤ H'.size ∧ (∀ b, b < H.size → H'[b]? = H[b]?) ∧ RdL H' any1 (fun _ => True) (fun _ => True) r (commS h ls ms) := by
  obtain ⟨x, os', w, H', B', Z', h1, h2, h3⟩ := commRef h ls ms hls hms hl hm H (fun _ => True) [] [u, v, .int .i64 h] ⟨rfl, fun k o h => by simp at h, fun j k b o1 o2 ⟨o, h1, _⟩ => by simp at h1, fun k b o ⟨o', h1, _⟩ => by simp at h1⟩
    (.cons (.dv (rd_of hu)) (.cons (.dv (rd_of hv)) (.cons (.dv (.sc rfl)) .nil)))
  rcases h1 with ⟨h1, h4⟩ | ⟨_, h4⟩
  · cases h4
    obtain ⟨Z2, _, h5, _⟩ := pfrz_ok h2 h3 (φ := 0 + (commS h ls ms).length * 1 ≤ ((commS h ls ms).map bytesD).length) (O' := [.fro 1 ((commS h ls ms).map bytesD)]) (d := .sl 1 (commS h ls ms).length ((((commS h ls ms).map bytesD).drop 0).take ((commS h ls ms).length * 1))) rfl (by simp)
    refine ⟨w, H', h1, h2.sz, fun b hb => h2.old b hb (by rintro ⟨k, o, ⟨o', h1, _⟩, _⟩; simp at h1), ?_⟩
    have := rdl_of (ls := commS h ls ms) (H := H') (Z := Z2) (v := w) (by simpa [linesD] using h5)
    exact this.mono (fun _ h => h) (fun _ _ _ => trivial) (fun _ _ _ => trivial)
  · cases h4

theorem told_length (h : Int) (n : Nat) (l : List UInt8) : (told h n l).length ≤ 1 := by unfold told; split <;> simp

theorem commS_length (h : Int) : ∀ ls ms : List (List UInt8), (commS h ls ms).length ≤ ls.length + ms.length
  | [], [] => by simp [commS]
  | [], y :: ms => by
    have h1 := commS_length h [] ms
    have h2 := told_length h 1 y
    rw [commS]; simp at h1 ⊢; omega
  | x :: ls, [] => by
    have h1 := commS_length h ls []
    have h2 := told_length h 0 x
    rw [commS]; simp at h1 ⊢; omega
  | x :: ls, y :: ms => by
    have h1 := commS_length h ls (y :: ms)
    have h2 := commS_length h (x :: ls) ms
    have h3 := commS_length h ls ms
    have h4 := told_length h 0 x
    have h5 := told_length h 1 y
    have h6 := told_length h 2 x
    rw [commS]
    split
    · simp at h1 ⊢; omega
    · split
      · simp at h2 ⊢; omega
      · simp at h3 ⊢; omega

theorem told_mem {h : Int} {n : Nat} {l x : List UInt8} (hn : n < 3) (hx : x ∈ told h n l) : x.length ≤ l.length + 2 := by
  unfold told at hx
  split at hx
  · simp at hx
  · have := tabs_length h n
    simp at hx
    subst hx
    simp; omega

theorem commS_mem (h : Int) (N : Nat) : ∀ ls ms : List (List UInt8), (∀ l ∈ ls, l.length ≤ N) → (∀ l ∈ ms, l.length ≤ N) → ∀ x ∈ commS h ls ms, x.length ≤ N + 2
  | [], [], _, _, x, hx => by simp [commS] at hx
  | [], y :: ms, hl, hm, x, hx => by
    rw [commS, List.mem_append] at hx
    rcases hx with hx | hx
    · have := told_mem (by decide) hx; have := hm y (by simp); omega
    · exact commS_mem h N [] ms hl (fun l h => hm l (by simp [h])) x hx
  | a :: ls, [], hl, hm, x, hx => by
    rw [commS, List.mem_append] at hx
    rcases hx with hx | hx
    · have := told_mem (by decide) hx; have := hl a (by simp); omega
    · exact commS_mem h N ls [] (fun l h => hl l (by simp [h])) hm x hx
  | a :: ls, y :: ms, hl, hm, x, hx => by
    rw [commS] at hx
    split at hx
    · rw [List.mem_append] at hx
      rcases hx with hx | hx
      · have := told_mem (by decide) hx; have := hl a (by simp); omega
      · exact commS_mem h N ls (y :: ms) (fun l h => hl l (by simp [h])) hm x hx
    · split at hx
      · rw [List.mem_append] at hx
        rcases hx with hx | hx
        · have := told_mem (by decide) hx; have := hm y (by simp); omega
        · exact commS_mem h N (a :: ls) ms hl (fun l h => hm l (by simp [h])) x hx
      · rw [List.mem_append] at hx
        rcases hx with hx | hx
        · have := told_mem (by decide) hx; have := hl a (by simp); omega
        · exact commS_mem h N ls ms (fun l h => hl l (by simp [h])) (fun l h => hm l (by simp [h])) x hx

theorem awakeC (H : AHeap) : evw C (.call 11 [] H) = some (.ret (.bool true) H) := evw_step (by simp [step1, C])

set_option maxHeartbeats 4000000 in
theorem law (H : AHeap) (u v : Value) (h : Int) (ls ms : List (List UInt8)) (a1 a2 b1 b2 : Nat → Prop) (hu : RdL H any1 a1 a2 u ls) (hv : RdL H any1 b1 b2 v ms)
    (hls : ls.length ≤ 1048576) (hms : ms.length ≤ 1048576) (hl : ∀ l ∈ ls, l.length ≤ 1048576) (hm : ∀ l ∈ ms, l.length ≤ 1048576) : ∃ H', evw C (.call 3 [u, v, .int .i64 h] H) = some (.ret (.bool true) H') := by
  have key : ∃ rep, evw C (.call 3 [u, v, .int .i64 h] H) = some rep ∧ ∃ H', rep = .ret (.bool true) H' := by
    obtain ⟨x, H1, c1, s1, k1, x1⟩ := copied H u ls a1 a2 hu hls hl
    have hv1 := (hv.mono (st' := any1) (at' := fun b => b < H.size) (at2' := fun b => b < H.size) (fun _ h => h) (fun b hb _ => hb) (fun b hb _ => hb)).frame (H' := H1) (fun b _ hb => k1 b hb) (fun b _ hb => k1 b hb)
    obtain ⟨y, H2, c2, s2, k2, y2⟩ := copied H1 v ms _ _ hv1 hms hm
    have x2 := (x1.mono (st' := own1) (at' := fun b => b < H1.size) (at2' := fun b => b < H1.size) (fun _ h => h) (fun b hb _ => hb) (fun b hb _ => hb)).frame (H' := H2) (fun b _ hb => k2 b hb) (fun b _ hb => k2 b hb)
    have x2' := x2.mono (st' := any1) (at' := fun b => b < H2.size) (at2' := fun b => b < H2.size) (fun _ h => h.any) (fun b hb _ => hb) (fun b hb _ => hb)
    have y2' := y2.mono (st' := any1) (at' := fun b => b < H2.size) (at2' := fun b => b < H2.size) (fun _ h => h.any) (fun b hb _ => hb) (fun b hb _ => hb)
    obtain ⟨c, H3, c3, s3, k3, z3⟩ := comm H2 x y h ls ms _ _ _ _ x2' y2' hls hms hl hm
    have old : ∀ {w : Value} {l : List (List UInt8)} {p q : Nat → Prop}, RdL H any1 p q w l → RdL H3 any1 (fun b => b < H.size) (fun b => b < H.size) w l := fun hw =>
      (hw.mono (st' := any1) (at' := fun b => b < H.size) (at2' := fun b => b < H.size) (fun _ h => h) (fun b hb _ => hb) (fun b hb _ => hb)).frame (fun b _ hb => by rw [k3 b (by omega), k2 b (by omega), k1 b hb]) (fun b _ hb => by rw [k3 b (by omega), k2 b (by omega), k1 b hb])
    obtain ⟨r, H4, c4, s4, k4, z4⟩ := commRef' H3 u v h ls ms _ _ _ _ (old hu) (old hv) hls hms hl hm
    have hcl : (commS h ls ms).length ≤ 2097152 := by
      have := commS_length h ls ms
      omega
    have z3' := (z3.mono (st' := any1) (at' := fun b => b < H3.size) (at2' := fun b => b < H3.size) (fun _ h => h.any) (fun b hb _ => hb) (fun b hb _ => hb)).frame (H' := H4) (fun b _ hb => k4 b hb) (fun b _ hb => k4 b hb)
    have c5 := same H4 c r (commS h ls ms) (commS h ls ms) _ _ _ _ z3' z4 (by omega)
    have z3o := (z3.mono (st' := own1) (at' := fun b => b < H3.size ∧ H2.size ≤ b) (at2' := fun b => b < H3.size ∧ H2.size ≤ b ∧ ¬ Mine c b) (fun _ h => h) (fun b hb h => ⟨hb, h⟩) (fun b hb h => ⟨hb, h⟩)).frame (H' := H4) (fun b _ hb => k4 b hb.1) (fun b _ hb => k4 b hb.1)
    obtain ⟨H5, c6, s6, k6⟩ := spoil H4 c (commS h ls ms) _ _ z3o (fun b hb => hb.2.2) (by omega) (fun l h' => by have := commS_mem h 1048576 ls ms hl hm l h'; omega)
    have keep : ∀ {b : Nat}, b < H2.size → H5[b]? = H2[b]? := fun {b} hb => by rw [k6 b (by omega), k4 b (by omega), k3 b hb]
    have x5 := x2'.frame (H' := H5) (fun b _ hb => keep hb) (fun b _ hb => keep hb)
    have y5 := y2'.frame (H' := H5) (fun b _ hb => keep hb) (fun b _ hb => keep hb)
    have old5 : ∀ {w : Value} {l : List (List UInt8)} {p q : Nat → Prop}, RdL H any1 p q w l → RdL H5 any1 (fun b => b < H.size) (fun b => b < H.size) w l := fun hw =>
      (hw.mono (st' := any1) (at' := fun b => b < H.size) (at2' := fun b => b < H.size) (fun _ h => h) (fun b hb _ => hb) (fun b hb _ => hb)).frame (fun b _ hb => by rw [keep (by omega), k2 b (by omega), k1 b hb]) (fun b _ hb => by rw [keep (by omega), k2 b (by omega), k1 b hb])
    have c7 := same H5 x u ls ls _ _ _ _ x5 (old5 hu) (by omega)
    have c8 := same H5 y v ms ms _ _ _ _ y5 (old5 hv) (by omega)
    have c9 := awakeC H5
    simp only [decide_true] at c5 c7 c8
    refine call_of (by simp [C]) Tryd.func3 rfl ?_
    simp only [Tryd.f3, List.length_cons, List.length_nil, Nat.reduceAdd, Nat.reduceSub, List.replicate, List.cons_append, List.nil_append]
    refine Wc.seq (Wc.region (by simp [aopsL, awanted, aop1, aout, isAlloc, heavy, ↓alight_conv, ↓alight_len, ↓alight_idx, ↓alight_slc0, ↓alight_slcl, ↓alight_slch, alight, aheavy, aeval, ASt.put, mapOpt, free, freeN, New.val, goInt, CP]; rfl) ?_)
    simp only
    refine Wc.seq (Wc.region (by simp [aopsL, awanted, aop1, aout, isAlloc, heavy, ↓alight_conv, ↓alight_len, ↓alight_idx, ↓alight_slc0, ↓alight_slcl, ↓alight_slch, alight, aheavy, aeval, ASt.put, mapOpt, free, freeN, New.val, goInt, CP, c1, c2]; rfl) ?_)
    simp only
    refine Wc.seq (Wc.region (by simp [aopsL, awanted, aop1, aout, isAlloc, heavy, ↓alight_conv, ↓alight_len, ↓alight_idx, ↓alight_slc0, ↓alight_slcl, ↓alight_slch, alight, aheavy, aeval, ASt.put, mapOpt, free, freeN, New.val, goInt, CP, c3]; rfl) ?_)
    simp only
    refine Wc.seq (Wc.region (by simp [aopsL, awanted, aop1, aout, isAlloc, heavy, ↓alight_conv, ↓alight_len, ↓alight_idx, ↓alight_slc0, ↓alight_slcl, ↓alight_slch, alight, aheavy, aeval, ASt.put, mapOpt, free, freeN, New.val, goInt, CP, c4, c5]; rfl) ?_)
    simp only
    refine Wc.seq (Wc.region (by simp [aopsL, awanted, aop1, aout, isAlloc, heavy, ↓alight_conv, ↓alight_len, ↓alight_idx, ↓alight_slc0, ↓alight_slcl, ↓alight_slch, alight, aheavy, aeval, ASt.put, mapOpt, free, freeN, New.val, goInt, CP, c6]; rfl) ?_)
    simp only
    refine Wc.seq (Wc.region (by simp [aopsL, awanted, aop1, aout, isAlloc, heavy, ↓alight_conv, ↓alight_len, ↓alight_idx, ↓alight_slc0, ↓alight_slcl, ↓alight_slch, alight, aheavy, aeval, ASt.put, mapOpt, free, freeN, New.val, goInt, CP, c7, c8, c9]; rfl) ?_)
    simp only
    refine Wc.ret ?_
    simp only
    exact ⟨.ret (.bool true) H5, by simp [leave, takeAll, mapOpt, aresult, oneOr], H5, rfl⟩
  obtain ⟨rep, h1, H', rfl⟩ := key
  exact ⟨H', h1⟩
end Go.Eng.R16.Q
