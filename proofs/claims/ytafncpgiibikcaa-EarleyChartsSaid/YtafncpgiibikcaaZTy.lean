/- Several texts, one behind the other; each begins with a remark of its own. -/
import Derived.Test.YtafncpgiibikcaaZAm0
import Derived.Test.YtafncpgiibikcaaProg
import Derived.KernelRfl
import Derived.Deep.Slices
import Derived.ProofKit
import Derived.OpenShut
import GoSem.ClaimJoined
import Derived.DeepKeys
import Derived.WideKeyRuns
import Derived.MapKept
namespace Go.Proofs.Ytafncpgiibikcaa.Ty
open Go.RowKit Go.Proofs.Ytafncpgiibikcaa.Am
theorem ti1 : tinfo Try.prog 1 = some ⟨false, 1, 8, some (.nilFunc)⟩ := by kernel_rfl
theorem ti2 : tinfo Try.prog 2 = some ⟨false, 1, 8, some (.int .i64 0)⟩ := by kernel_rfl
theorem ti3 : tinfo Try.prog 3 = some ⟨false, 1, 8, some (.int .i64 0)⟩ := by kernel_rfl
theorem ti4 : tinfo Try.prog 4 = some ⟨false, 1, 1, some (.bool false)⟩ := by kernel_rfl
theorem ti5 : tinfo Try.prog 5 = some ⟨false, 1, 1, some (.int .u8 0)⟩ := by kernel_rfl
theorem ti9 : tinfo Try.prog 9 = some ⟨false, 1, 16, some (.string ⟨#[]⟩)⟩ := by kernel_rfl
theorem ti12 : tinfo Try.prog 12 = some ⟨false, 1, 8, some (.int .u64 0)⟩ := by kernel_rfl
theorem ti20 : tinfo Try.prog 20 = some ⟨false, 1, 16, some (.nilIface)⟩ := by kernel_rfl
theorem ti21 : tinfo Try.prog 21 = some ⟨false, 1, 4, some (.int .i32 0)⟩ := by kernel_rfl
theorem ti22 : tinfo Try.prog 22 = some ⟨false, 1, 24, some (.slice none 0 0)⟩ := by kernel_rfl
theorem ti23 : tinfo Try.prog 23 = some ⟨true, 3, 40, some (.agg #[.int .i64 0, .int .i64 0, .slice none 0 0])⟩ := by kernel_rfl
theorem fo23_0 : fieldOff Try.prog 23 0 = some (0, 3) := by kernel_rfl
theorem fo23_1 : fieldOff Try.prog 23 1 = some (1, 3) := by kernel_rfl
theorem fo23_2 : fieldOff Try.prog 23 2 = some (2, 22) := by kernel_rfl
theorem pl23 : placesOf Try.prog 23 = some [(0, 1), (1, 1), (2, 1)] := by kernel_rfl
theorem ti24 : tinfo Try.prog 24 = some ⟨true, 3, 40, some (.agg #[.int .i64 0, .int .i64 0, .slice none 0 0])⟩ := by kernel_rfl
theorem fo24_0 : fieldOff Try.prog 24 0 = some (0, 3) := by kernel_rfl
theorem fo24_1 : fieldOff Try.prog 24 1 = some (1, 3) := by kernel_rfl
theorem fo24_2 : fieldOff Try.prog 24 2 = some (2, 22) := by kernel_rfl
theorem pl24 : placesOf Try.prog 24 = some [(0, 1), (1, 1), (2, 1)] := by kernel_rfl
theorem ti25 : tinfo Try.prog 25 = some ⟨false, 1, 24, some (.slice none 0 0)⟩ := by kernel_rfl
theorem ti26 : tinfo Try.prog 26 = some ⟨false, 1, 8, some (.nilFunc)⟩ := by kernel_rfl
theorem ti27 : tinfo Try.prog 27 = some ⟨false, 1, 8, some (.nilFunc)⟩ := by kernel_rfl
theorem ti28 : tinfo Try.prog 28 = some ⟨false, 1, 8, some (.int .i64 0)⟩ := by kernel_rfl
theorem ti30 : tinfo Try.prog 30 = some ⟨false, 1, 8, some (.nilFunc)⟩ := by kernel_rfl
theorem ti32 : tinfo Try.prog 32 = some ⟨false, 1, 8, some (.nilFunc)⟩ := by kernel_rfl
theorem ti33 : tinfo Try.prog 33 = some ⟨false, 1, 24, some (.slice none 0 0)⟩ := by kernel_rfl
theorem ti35 : tinfo Try.prog 35 = some ⟨false, 1, 8, some (.nilFunc)⟩ := by kernel_rfl
theorem ti36 : tinfo Try.prog 36 = some ⟨false, 1, 8, some (.nilFunc)⟩ := by kernel_rfl
theorem ti37 : tinfo Try.prog 37 = some ⟨false, 1, 8, some (.nilFunc)⟩ := by kernel_rfl
theorem ti38 : tinfo Try.prog 38 = some ⟨false, 1, 8, some (.nilFunc)⟩ := by kernel_rfl
theorem ti39 : tinfo Try.prog 39 = some ⟨false, 1, 8, some (.int .u64 0)⟩ := by kernel_rfl
theorem ti40 : tinfo Try.prog 40 = some ⟨true, 4, 32, some (.agg #[.int .u64 0, .int .u64 0, .int .u64 0, .int .u64 0])⟩ := by kernel_rfl
theorem ti41 : tinfo Try.prog 41 = some ⟨true, 4, 32, some (.agg #[.int .u64 0, .int .u64 0, .int .u64 0, .int .u64 0])⟩ := by kernel_rfl
theorem ti42 : tinfo Try.prog 42 = some ⟨true, 5, 40, some (.agg #[.int .i64 0, .int .u64 0, .int .u64 0, .int .u64 0, .int .u64 0])⟩ := by kernel_rfl
theorem fo42_0 : fieldOff Try.prog 42 0 = some (0, 3) := by kernel_rfl
theorem fo42_1 : fieldOff Try.prog 42 1 = some (1, 41) := by kernel_rfl
theorem pl42 : placesOf Try.prog 42 = some [(0, 1), (1, 4)] := by kernel_rfl
theorem ti43 : tinfo Try.prog 43 = some ⟨true, 5, 40, some (.agg #[.int .i64 0, .int .u64 0, .int .u64 0, .int .u64 0, .int .u64 0])⟩ := by kernel_rfl
theorem fo43_0 : fieldOff Try.prog 43 0 = some (0, 3) := by kernel_rfl
theorem fo43_1 : fieldOff Try.prog 43 1 = some (1, 41) := by kernel_rfl
theorem pl43 : placesOf Try.prog 43 = some [(0, 1), (1, 4)] := by kernel_rfl
theorem ti44 : tinfo Try.prog 44 = some ⟨false, 1, 24, some (.slice none 0 0)⟩ := by kernel_rfl
theorem ti45 : tinfo Try.prog 45 = some ⟨true, 2, 32, some (.agg #[.int .i64 0, .slice none 0 0])⟩ := by kernel_rfl
theorem fo45_0 : fieldOff Try.prog 45 0 = some (0, 3) := by kernel_rfl
theorem fo45_1 : fieldOff Try.prog 45 1 = some (1, 44) := by kernel_rfl
theorem pl45 : placesOf Try.prog 45 = some [(0, 1), (1, 1)] := by kernel_rfl
theorem ti46 : tinfo Try.prog 46 = some ⟨true, 2, 32, some (.agg #[.int .i64 0, .slice none 0 0])⟩ := by kernel_rfl
theorem fo46_0 : fieldOff Try.prog 46 0 = some (0, 3) := by kernel_rfl
theorem fo46_1 : fieldOff Try.prog 46 1 = some (1, 44) := by kernel_rfl
theorem pl46 : placesOf Try.prog 46 = some [(0, 1), (1, 1)] := by kernel_rfl
theorem ti47 : tinfo Try.prog 47 = some ⟨false, 1, 8, some (.nilFunc)⟩ := by kernel_rfl
theorem ti48 : tinfo Try.prog 48 = some ⟨false, 1, 8, some (.nilFunc)⟩ := by kernel_rfl
theorem ti49 : tinfo Try.prog 49 = some ⟨true, 2, 16, some (.agg #[.int .i64 0, .int .i64 0])⟩ := by kernel_rfl
theorem fo49_0 : fieldOff Try.prog 49 0 = some (0, 3) := by kernel_rfl
theorem fo49_1 : fieldOff Try.prog 49 1 = some (1, 3) := by kernel_rfl
theorem pl49 : placesOf Try.prog 49 = some [(0, 1), (1, 1)] := by kernel_rfl
theorem ti50 : tinfo Try.prog 50 = some ⟨true, 2, 16, some (.agg #[.int .i64 0, .int .i64 0])⟩ := by kernel_rfl
theorem fo50_0 : fieldOff Try.prog 50 0 = some (0, 3) := by kernel_rfl
theorem fo50_1 : fieldOff Try.prog 50 1 = some (1, 3) := by kernel_rfl
theorem pl50 : placesOf Try.prog 50 = some [(0, 1), (1, 1)] := by kernel_rfl
theorem ti51 : tinfo Try.prog 51 = some ⟨false, 1, 24, some (.slice none 0 0)⟩ := by kernel_rfl
theorem ti53 : tinfo Try.prog 53 = some ⟨false, 1, 8, some (.nilFunc)⟩ := by kernel_rfl
theorem ti54 : tinfo Try.prog 54 = some ⟨false, 1, 8, some (.nilFunc)⟩ := by kernel_rfl
theorem ti55 : tinfo Try.prog 55 = some ⟨false, 1, 24, some (.slice none 0 0)⟩ := by kernel_rfl
theorem ti56 : tinfo Try.prog 56 = some ⟨true, 3, 24, some (.agg #[.int .i64 0, .int .i64 0, .int .i64 0])⟩ := by kernel_rfl
theorem fo56_0 : fieldOff Try.prog 56 0 = some (0, 3) := by kernel_rfl
theorem fo56_1 : fieldOff Try.prog 56 1 = some (1, 3) := by kernel_rfl
theorem fo56_2 : fieldOff Try.prog 56 2 = some (2, 3) := by kernel_rfl
theorem pl56 : placesOf Try.prog 56 = some [(0, 1), (1, 1), (2, 1)] := by kernel_rfl
theorem ti57 : tinfo Try.prog 57 = some ⟨true, 3, 24, some (.agg #[.int .i64 0, .int .i64 0, .int .i64 0])⟩ := by kernel_rfl
theorem fo57_0 : fieldOff Try.prog 57 0 = some (0, 3) := by kernel_rfl
theorem fo57_1 : fieldOff Try.prog 57 1 = some (1, 3) := by kernel_rfl
theorem fo57_2 : fieldOff Try.prog 57 2 = some (2, 3) := by kernel_rfl
theorem pl57 : placesOf Try.prog 57 = some [(0, 1), (1, 1), (2, 1)] := by kernel_rfl
theorem ti58 : tinfo Try.prog 58 = some ⟨false, 1, 8, some (.nilFunc)⟩ := by kernel_rfl
theorem ti60 : tinfo Try.prog 60 = some ⟨false, 1, 8, some (.nilFunc)⟩ := by kernel_rfl
theorem ti61 : tinfo Try.prog 61 = some ⟨false, 1, 8, some (.nilFunc)⟩ := by kernel_rfl
theorem ti62 : tinfo Try.prog 62 = some ⟨false, 1, 8, some (.nilFunc)⟩ := by kernel_rfl
theorem ti63 : tinfo Try.prog 63 = some ⟨false, 1, 8, some (.nilFunc)⟩ := by kernel_rfl
theorem ti64 : tinfo Try.prog 64 = some ⟨false, 1, 8, some (.nilFunc)⟩ := by kernel_rfl
theorem ti65 : tinfo Try.prog 65 = some ⟨false, 1, 8, some (.nilFunc)⟩ := by kernel_rfl
theorem ti66 : tinfo Try.prog 66 = some ⟨false, 1, 8, some (.nilFunc)⟩ := by kernel_rfl
theorem ti67 : tinfo Try.prog 67 = some ⟨false, 1, 8, some (.pointer none)⟩ := by kernel_rfl
theorem ti68 : tinfo Try.prog 68 = some ⟨false, 1, 8, some (.nilFunc)⟩ := by kernel_rfl
theorem ti69 : tinfo Try.prog 69 = some ⟨false, 1, 24, some (.slice none 0 0)⟩ := by kernel_rfl
theorem ti70 : tinfo Try.prog 70 = some ⟨false, 1, 24, some (.slice none 0 0)⟩ := by kernel_rfl
theorem ti71 : tinfo Try.prog 71 = some ⟨false, 1, 8, some (.map none)⟩ := by kernel_rfl
theorem ti72 : tinfo Try.prog 72 = some ⟨true, 8, 144, some (.agg #[.int .i64 0, .int .i64 0, .slice none 0 0, .slice none 0 0, .slice none 0 0, .slice none 0 0, .slice none 0 0, .map none])⟩ := by kernel_rfl
theorem fo72_0 : fieldOff Try.prog 72 0 = some (0, 24) := by kernel_rfl
theorem fo72_1 : fieldOff Try.prog 72 1 = some (3, 25) := by kernel_rfl
theorem fo72_2 : fieldOff Try.prog 72 2 = some (4, 69) := by kernel_rfl
theorem fo72_3 : fieldOff Try.prog 72 3 = some (5, 51) := by kernel_rfl
theorem fo72_4 : fieldOff Try.prog 72 4 = some (6, 70) := by kernel_rfl
theorem fo72_5 : fieldOff Try.prog 72 5 = some (7, 71) := by kernel_rfl
theorem pl72 : placesOf Try.prog 72 = some [(0, 3), (3, 1), (4, 1), (5, 1), (6, 1), (7, 1)] := by kernel_rfl
theorem ti73 : tinfo Try.prog 73 = some ⟨true, 8, 144, some (.agg #[.int .i64 0, .int .i64 0, .slice none 0 0, .slice none 0 0, .slice none 0 0, .slice none 0 0, .slice none 0 0, .map none])⟩ := by kernel_rfl
theorem fo73_0 : fieldOff Try.prog 73 0 = some (0, 24) := by kernel_rfl
theorem fo73_1 : fieldOff Try.prog 73 1 = some (3, 25) := by kernel_rfl
theorem fo73_2 : fieldOff Try.prog 73 2 = some (4, 69) := by kernel_rfl
theorem fo73_3 : fieldOff Try.prog 73 3 = some (5, 51) := by kernel_rfl
theorem fo73_4 : fieldOff Try.prog 73 4 = some (6, 70) := by kernel_rfl
theorem fo73_5 : fieldOff Try.prog 73 5 = some (7, 71) := by kernel_rfl
theorem pl73 : placesOf Try.prog 73 = some [(0, 3), (3, 1), (4, 1), (5, 1), (6, 1), (7, 1)] := by kernel_rfl
theorem ti74 : tinfo Try.prog 74 = some ⟨false, 1, 8, some (.pointer none)⟩ := by kernel_rfl
theorem ti75 : tinfo Try.prog 75 = some ⟨false, 1, 8, some (.nilFunc)⟩ := by kernel_rfl
theorem ti76 : tinfo Try.prog 76 = some ⟨false, 1, 8, some (.nilFunc)⟩ := by kernel_rfl
theorem ti77 : tinfo Try.prog 77 = some ⟨false, 1, 24, some (.slice none 0 0)⟩ := by kernel_rfl
theorem ti78 : tinfo Try.prog 78 = some ⟨true, 6, 96, some (.agg #[.int .i64 0, .int .i64 0, .slice none 0 0, .slice none 0 0, .int .i64 0, .slice none 0 0])⟩ := by kernel_rfl
theorem fo78_0 : fieldOff Try.prog 78 0 = some (0, 24) := by kernel_rfl
theorem fo78_1 : fieldOff Try.prog 78 1 = some (3, 25) := by kernel_rfl
theorem fo78_2 : fieldOff Try.prog 78 2 = some (4, 3) := by kernel_rfl
theorem fo78_3 : fieldOff Try.prog 78 3 = some (5, 77) := by kernel_rfl
theorem pl78 : placesOf Try.prog 78 = some [(0, 3), (3, 1), (4, 1), (5, 1)] := by kernel_rfl
theorem ti79 : tinfo Try.prog 79 = some ⟨true, 6, 96, some (.agg #[.int .i64 0, .int .i64 0, .slice none 0 0, .slice none 0 0, .int .i64 0, .slice none 0 0])⟩ := by kernel_rfl
theorem fo79_0 : fieldOff Try.prog 79 0 = some (0, 24) := by kernel_rfl
theorem fo79_1 : fieldOff Try.prog 79 1 = some (3, 25) := by kernel_rfl
theorem fo79_2 : fieldOff Try.prog 79 2 = some (4, 3) := by kernel_rfl
theorem fo79_3 : fieldOff Try.prog 79 3 = some (5, 77) := by kernel_rfl
theorem pl79 : placesOf Try.prog 79 = some [(0, 3), (3, 1), (4, 1), (5, 1)] := by kernel_rfl
theorem ti80 : tinfo Try.prog 80 = some ⟨false, 1, 8, some (.nilFunc)⟩ := by kernel_rfl
theorem ti81 : tinfo Try.prog 81 = some ⟨false, 1, 8, some (.nilFunc)⟩ := by kernel_rfl
theorem ti82 : tinfo Try.prog 82 = some ⟨false, 1, 8, some (.nilFunc)⟩ := by kernel_rfl
theorem ti83 : tinfo Try.prog 83 = some ⟨false, 1, 8, some (.nilFunc)⟩ := by kernel_rfl
theorem ti84 : tinfo Try.prog 84 = some ⟨false, 1, 8, some (.nilFunc)⟩ := by kernel_rfl
theorem ti85 : tinfo Try.prog 85 = some ⟨false, 1, 8, some (.nilFunc)⟩ := by kernel_rfl
theorem ti86 : tinfo Try.prog 86 = some ⟨false, 1, 8, some (.nilFunc)⟩ := by kernel_rfl
theorem ti87 : tinfo Try.prog 87 = some ⟨false, 1, 8, some (.nilFunc)⟩ := by kernel_rfl
theorem ti89 : tinfo Try.prog 89 = some ⟨false, 1, 8, some (.nilFunc)⟩ := by kernel_rfl
theorem ti90 : tinfo Try.prog 90 = some ⟨false, 1, 8, some (.nilFunc)⟩ := by kernel_rfl
theorem ti91 : tinfo Try.prog 91 = some ⟨false, 1, 24, some (.slice none 0 0)⟩ := by kernel_rfl
theorem ti92 : tinfo Try.prog 92 = some ⟨false, 1, 8, some (.map none)⟩ := by kernel_rfl
theorem ti93 : tinfo Try.prog 93 = some ⟨false, 1, 8, some (.nilFunc)⟩ := by kernel_rfl
theorem ti94 : tinfo Try.prog 94 = some ⟨false, 1, 8, some (.nilFunc)⟩ := by kernel_rfl
theorem ti96 : tinfo Try.prog 96 = some ⟨false, 1, 8, some (.nilFunc)⟩ := by kernel_rfl
theorem ti97 : tinfo Try.prog 97 = some ⟨false, 1, 8, some (.nilFunc)⟩ := by kernel_rfl
theorem ti98 : tinfo Try.prog 98 = some ⟨false, 1, 8, some (.nilFunc)⟩ := by kernel_rfl
theorem ti99 : tinfo Try.prog 99 = some ⟨false, 1, 8, some (.nilFunc)⟩ := by kernel_rfl
theorem ti100 : tinfo Try.prog 100 = some ⟨false, 1, 8, some (.int .u64 0)⟩ := by kernel_rfl
theorem ti101 : tinfo Try.prog 101 = some ⟨false, 1, 8, some (.nilFunc)⟩ := by kernel_rfl
theorem ti102 : tinfo Try.prog 102 = some ⟨false, 1, 8, some (.nilFunc)⟩ := by kernel_rfl
theorem ti103 : tinfo Try.prog 103 = some ⟨false, 1, 8, some (.nilFunc)⟩ := by kernel_rfl
theorem ti104 : tinfo Try.prog 104 = some ⟨false, 1, 8, some (.nilFunc)⟩ := by kernel_rfl
theorem ti105 : tinfo Try.prog 105 = some ⟨false, 1, 8, some (.nilFunc)⟩ := by kernel_rfl
theorem ti106 : tinfo Try.prog 106 = some ⟨false, 1, 8, some (.int .i64 0)⟩ := by kernel_rfl
theorem ti108 : tinfo Try.prog 108 = some ⟨false, 1, 8, some (.nilFunc)⟩ := by kernel_rfl
theorem ti109 : tinfo Try.prog 109 = some ⟨false, 1, 8, some (.nilFunc)⟩ := by kernel_rfl
theorem ti110 : tinfo Try.prog 110 = some ⟨false, 1, 8, some (.nilFunc)⟩ := by kernel_rfl
theorem ti112 : tinfo Try.prog 112 = some ⟨false, 1, 8, some (.nilFunc)⟩ := by kernel_rfl
theorem ti113 : tinfo Try.prog 113 = some ⟨false, 1, 8, some (.nilFunc)⟩ := by kernel_rfl
theorem ti114 : tinfo Try.prog 114 = some ⟨false, 1, 4, some (.int .u32 0)⟩ := by kernel_rfl
theorem ti115 : tinfo Try.prog 115 = some ⟨false, 1, 8, some (.nilFunc)⟩ := by kernel_rfl
theorem ti116 : tinfo Try.prog 116 = some ⟨false, 1, 8, some (.nilFunc)⟩ := by kernel_rfl
theorem ti117 : tinfo Try.prog 117 = some ⟨false, 1, 8, some (.nilFunc)⟩ := by kernel_rfl
theorem ti118 : tinfo Try.prog 118 = some ⟨false, 1, 8, some (.nilFunc)⟩ := by kernel_rfl
theorem ti119 : tinfo Try.prog 119 = some ⟨false, 1, 8, some (.int .u64 0)⟩ := by kernel_rfl
theorem ti120 : tinfo Try.prog 120 = some ⟨false, 1, 8, some (.nilFunc)⟩ := by kernel_rfl
theorem ti121 : tinfo Try.prog 121 = some ⟨false, 1, 8, some (.nilFunc)⟩ := by kernel_rfl
theorem ti122 : tinfo Try.prog 122 = some ⟨false, 1, 8, some (.nilFunc)⟩ := by kernel_rfl
theorem ti123 : tinfo Try.prog 123 = some ⟨false, 1, 8, some (.pointer none)⟩ := by kernel_rfl
theorem ti124 : tinfo Try.prog 124 = some ⟨false, 1, 8, some (.nilFunc)⟩ := by kernel_rfl
theorem ti125 : tinfo Try.prog 125 = some ⟨false, 1, 8, some (.nilFunc)⟩ := by kernel_rfl
theorem ti126 : tinfo Try.prog 126 = some ⟨false, 1, 8, some (.pointer none)⟩ := by kernel_rfl
theorem ti128 : tinfo Try.prog 128 = some ⟨false, 1, 8, some (.nilFunc)⟩ := by kernel_rfl
theorem ti129 : tinfo Try.prog 129 = some ⟨false, 1, 8, some (.nilFunc)⟩ := by kernel_rfl
theorem ti130 : tinfo Try.prog 130 = some ⟨false, 1, 8, some (.nilFunc)⟩ := by kernel_rfl
theorem ti136 : tinfo Try.prog 136 = some ⟨false, 1, 8, some (.nilFunc)⟩ := by kernel_rfl
theorem ti140 : tinfo Try.prog 140 = some ⟨false, 1, 8, some (.pointer none)⟩ := by kernel_rfl
theorem mixed : Try.prog.follows .mixedOrders = true := by kernel_rfl
attribute [push_cast] ti1 ti2 ti3 ti4 ti5 ti9 ti12 ti20 ti21 ti22 ti23 ti24 ti25 ti26 ti27 ti28 ti30 ti32 ti33 ti35 ti36 ti37 ti38 ti39 ti40 ti41 ti42 ti43 ti44 ti45 ti46 ti47 ti48 ti49 ti50 ti51 ti53 ti54 ti55 ti56 ti57 ti58 ti60 ti61 ti62 ti63 ti64 ti65 ti66 ti67 ti68 ti69 ti70 ti71 ti72 ti73 ti74 ti75 ti76 ti77 ti78 ti79 ti80 ti81 ti82 ti83 ti84 ti85 ti86 ti87 ti89 ti90 ti91 ti92 ti93 ti94 ti96 ti97 ti98 ti99 ti100 ti101 ti102 ti103 ti104 ti105 ti106 ti108 ti109 ti110 ti112 ti113 ti114 ti115 ti116 ti117 ti118 ti119 ti120 ti121 ti122 ti123 ti124 ti125 ti126 ti128 ti129 ti130 ti136 ti140 fo23_0 fo23_1 fo23_2 pl23 fo24_0 fo24_1 fo24_2 pl24 fo42_0 fo42_1 pl42 fo43_0 fo43_1 pl43 fo45_0 fo45_1 pl45 fo46_0 fo46_1 pl46 fo49_0 fo49_1 pl49 fo50_0 fo50_1 pl50 fo56_0 fo56_1 fo56_2 pl56 fo57_0 fo57_1 fo57_2 pl57 fo72_0 fo72_1 fo72_2 fo72_3 fo72_4 fo72_5 pl72 fo73_0 fo73_1 fo73_2 fo73_3 fo73_4 fo73_5 pl73 fo78_0 fo78_1 fo78_2 fo78_3 pl78 fo79_0 fo79_1 fo79_2 fo79_3 pl79 Try.underlying1 Try.underlying2 Try.underlying3 Try.underlying4 Try.underlying5 Try.underlying9 Try.underlying12 Try.underlying20 Try.underlying21 Try.underlying22 Try.underlying23 Try.underlying24 Try.underlying25 Try.underlying26 Try.underlying27 Try.underlying28 Try.underlying30 Try.underlying32 Try.underlying33 Try.underlying35 Try.underlying36 Try.underlying37 Try.underlying38 Try.underlying39 Try.underlying40 Try.underlying41 Try.underlying42 Try.underlying43 Try.underlying44 Try.underlying45 Try.underlying46 Try.underlying47 Try.underlying48 Try.underlying49 Try.underlying50 Try.underlying51 Try.underlying53 Try.underlying54 Try.underlying55 Try.underlying56 Try.underlying57 Try.underlying58 Try.underlying60 Try.underlying61 Try.underlying62 Try.underlying63 Try.underlying64 Try.underlying65 Try.underlying66 Try.underlying67 Try.underlying68 Try.underlying69 Try.underlying70 Try.underlying71 Try.underlying72 Try.underlying73 Try.underlying74 Try.underlying75 Try.underlying76 Try.underlying77 Try.underlying78 Try.underlying79 Try.underlying80 Try.underlying81 Try.underlying82 Try.underlying83 Try.underlying84 Try.underlying85 Try.underlying86 Try.underlying87 Try.underlying89 Try.underlying90 Try.underlying91 Try.underlying92 Try.underlying93 Try.underlying94 Try.underlying96 Try.underlying97 Try.underlying98 Try.underlying99 Try.underlying100 Try.underlying101 Try.underlying102 Try.underlying103 Try.underlying104 Try.underlying105 Try.underlying106 Try.underlying108 Try.underlying109 Try.underlying110 Try.underlying112 Try.underlying113 Try.underlying114 Try.underlying115 Try.underlying116 Try.underlying117 Try.underlying118 Try.underlying119 Try.underlying120 Try.underlying121 Try.underlying122 Try.underlying123 Try.underlying124 Try.underlying125 Try.underlying126 Try.underlying128 Try.underlying129 Try.underlying130 Try.underlying136 Try.underlying140
end Go.Proofs.Ytafncpgiibikcaa.Ty

namespace Go.Proofs.Ytafncpgiibikcaa.Am
set_option linter.unusedSimpArgs false
set_option linter.unusedVariables false
open Go.RowKit

structure SubS (s0 s : St) : Prop where
  h : s0.h = s.h
  f : ∀ t, fget s0.fr t = .unk ∨ fget s.fr t = fget s0.fr t
  e : ∀ t p, eget s0.eph t = some p → eget s.eph t = some p
  n : ∀ t, fget s0.fr t ≠ .unk → eget s.eph t = eget s0.eph t
section
variable {N : Env} {s0 s : St}
theorem SubS.fg (H : SubS s0 s) {t : Nat} {sl : Slot} (h : fget s0.fr t = sl) (hn : sl ≠ .unk) : fget s.fr t = sl := by
  rcases H.f t with h1 | h1
  · exact (hn (h.symm.trans h1)).elim
  · exact h1.trans h
theorem ev_mono (H : SubS s0 s) {x : Operand} {v : Value} (h : ev s0 x = some v) : ev s x = some v := by
  cases x with
  | tmp t =>
    simp only [ev] at h ⊢
    split at h
    · rename_i u hu
      rw [H.fg hu (by simp)]
      exact h
    · cases h
  | const k => exact h
  | func f => exact h
  | global g => exact h
theorem plc_mono (H : SubS s0 s) {x : Operand} {p : Nat × Nat} (h : plc s0 x = some p) : plc s x = some p := by
  cases x with
  | tmp t =>
    simp only [plc] at h ⊢
    split at h
    · rename_i q hq
      rw [H.e _ _ hq]
      exact h
    · cases h
    · rename_i hq
      split at h
      · rename_i cs hb
        rw [H.n t (by rw [hb]; simp), hq, H.fg hb (by simp)]
        exact h
      · cases h
  | const k => exact h
  | func f => exact h
  | global g => exact h
theorem plc_same (H : SubS s0 s) {x : Operand} {v : Value} (h : ev s0 x = some v) : plc s x = plc s0 x := by
  cases x with
  | tmp t =>
    simp only [ev] at h
    split at h
    · rename_i u hu
      simp only [plc, H.n t (by rw [hu]; simp), H.fg hu (by simp), hu]
    · cases h
  | const k => rfl
  | func f => rfl
  | global g => rfl
theorem evs_mono (H : SubS s0 s) : ∀ {l : List Operand} {v : List Value}, evs s0 l = some v → evs s l = some v
  | [], _, h => h
  | x :: r, v, h => by
    simp only [evs] at h ⊢
    split at h
    · rename_i a b h1 h2
      rw [ev_mono H h1, evs_mono H h2]
      exact h
    · cases h
theorem evParts_mono (H : SubS s0 s) : ∀ {l : List (Nat × Operand)} {v : List (Nat × Value)}, evParts s0 l = some v → evParts s l = some v
  | [], _, h => h
  | (i, x) :: r, v, h => by
    simp only [evParts] at h ⊢
    split at h
    · rename_i a b h1 h2
      rw [ev_mono H h1, evParts_mono H h2]
      exact h
    · cases h
theorem evo_mono (H : SubS s0 s) {d : Int} {x : Option Operand} {v : Int} (h : evo s0 d x = some v) : evo s d x = some v := by
  cases x with
  | none => exact h
  | some x =>
    simp only [evo] at h ⊢
    split at h
    · rename_i k n h1
      rw [ev_mono H h1]
      exact h
    · cases h
theorem box_mono (H : SubS s0 s) {t : Nat} {cs : List Value} (h : fget s0.fr t = .box cs) : fget s.fr t = .box cs := H.fg h (by simp)
theorem loadV_mono (H : SubS s0 s) {t : TypeId} {a : Operand} {v : Value} (h : loadV N s0 t a = some v) : loadV N s t a = some v := by
  unfold loadV at h ⊢
  split at h
  · cases h
  · rename_i ti hti
    split at h
    · rename_i sl off hp
      rw [plc_mono H hp]
      simp only
      split at h
      · rename_i cs hb
        rw [box_mono H hb]
        exact h
      · cases h
    · rename_i hp
      split at h
      · rename_i ad he
        rw [plc_same H he, hp, ev_mono H he, ← H.h]
        exact h
      · cases h
theorem fieldAddrV_mono (H : SubS s0 s) {t : TypeId} {x : Operand} {f : Nat} {v : Value} (h : fieldAddrV N s0 t x f = some v) : fieldAddrV N s t x f = some v := by
  unfold fieldAddrV at h ⊢
  split at h
  · rename_i h1 h2
    rw [h1, ev_mono H h2]
    exact h
  · cases h
theorem indexAddrV_mono (H : SubS s0 s) {t : TypeId} {x i : Operand} {v : Value} (h : indexAddrV N s0 t x i = some v) : indexAddrV N s t x i = some v := by
  unfold indexAddrV at h ⊢
  split at h
  · rename_i h1 h2 h3
    rw [h1, ev_mono H h2, ev_mono H h3]
    exact h
  · rename_i h1 h2 h3
    rw [h1, ev_mono H h2, ev_mono H h3]
    exact h
  · cases h
theorem fieldV_mono (H : SubS s0 s) {t : TypeId} {x : Operand} {f : Nat} {v : Value} (h : fieldV N s0 t x f = some v) : fieldV N s t x f = some v := by
  unfold fieldV at h ⊢
  split at h
  · rename_i h1 h2
    rw [h1, ev_mono H h2]
    exact h
  · cases h
theorem indexV_mono (H : SubS s0 s) {t : TypeId} {x i : Operand} {v : Value} (h : indexV N s0 t x i = some v) : indexV N s t x i = some v := by
  unfold indexV at h ⊢
  split at h
  · rename_i h1 h2 h3
    rw [h1, ev_mono H h2, ev_mono H h3]
    exact h
  · rename_i h1 h2 h3
    rw [h1, ev_mono H h2, ev_mono H h3]
    exact h
  · cases h
theorem sliceV_mono (H : SubS s0 s) {t : TypeId} {x : Operand} {lo hi : Option Operand} {v : Value} (h : sliceV N s0 t x lo hi = some v) : sliceV N s t x lo hi = some v := by
  unfold sliceV at h ⊢
  split at h
  · rename_i h1 h2
    rw [h1, ev_mono H h2]
    simp only
    split at h
    · rename_i h3 h4 h5
      rw [h3, evo_mono H h4, evo_mono H h5, ← H.h]
      exact h
    · cases h
  · rename_i h1 h2
    rw [h1, ev_mono H h2]
    simp only
    split at h
    · rename_i h3 h4
      rw [evo_mono H h3, evo_mono H h4]
      exact h
    · cases h
  · cases h
theorem buildV_mono (H : SubS s0 s) {t : TypeId} {ps : Array (Nat × Operand)} {v : Value} (h : buildV N s0 t ps = some v) : buildV N s t ps = some v := by
  unfold buildV at h ⊢
  split at h
  · rename_i h1 h2
    rw [h1, evParts_mono H h2]
    exact h
  · cases h
theorem builtinV_mono (H : SubS s0 s) {b : Builtin} {args : Array Operand} {tys : Array TypeId} {v : Value} (h : builtinV N s0 b args tys = some v) : builtinV N s b args tys = some v := by
  unfold builtinV at h ⊢
  cases he : evs s0 args.toList with
  | none => rw [he] at h; split at h <;> simp_all
  | some l => rw [he] at h; rw [evs_mono H he]; exact h
theorem condV_mono (H : SubS s0 s) {c z : Operand} {t want : Bool} {u : Value} (h : condV s0 c t want z = some u) : condV s c t want z = some u := by
  cases z with
  | tmp r =>
    simp only [condV] at h ⊢
    split at h
    · rename_i v hv
      rw [H.fg hv (by simp)]
      exact h
    · rename_i d w q v hv
      rw [H.fg hv (by simp)]
      exact h
    · cases h
  | const k => exact h
  | func f => exact h
  | global g => exact h
theorem condV_ev {c z : Operand} {t want : Bool} {u : Value} (h : ev s z = some u) : condV s c t want z = some u := by
  cases z with
  | tmp r =>
    simp only [ev] at h
    split at h
    · rename_i v hv
      simp only [condV, hv]
      exact h
    · cases h
  | const k => exact h
  | func f => exact h
  | global g => exact h
theorem pickV_mono (H : SubS s0 s) {c x y : Operand} {t : Bool} {v : Value} (h : pickV s0 c t x y = some v) : pickV s c t x y = some v := by
  unfold pickV at h ⊢
  split at h
  · rename_i a b h1 h2
    rw [condV_mono H h1, condV_mono H h2]
    exact h
  · cases t with
    | true =>
      simp only at h
      have h1 := ev_mono H h
      rw [condV_ev (c := c) (t := true) (want := true) h1]
      split
      · rename_i a b h2 h3
        cases h2
        rfl
      · exact h1
    | false =>
      simp only at h
      have h1 := ev_mono H h
      rw [condV_ev (c := c) (t := false) (want := false) h1]
      split
      · rename_i a b h2 h3
        cases h3
        rfl
      · exact h1
theorem mapOf_mono (H : SubS s0 s) {m : Value} : mapOf s m = mapOf s0 m := by
  unfold mapOf
  rw [H.h]
theorem lookV_mono (H : SubS s0 s) {t : TypeId} {x i : Operand} {ok : Bool} {v : Value} (h : lookV N s0 t x i ok = some v) : lookV N s t x i ok = some v := by
  unfold lookV at h ⊢
  split at h
  · rename_i h1 h2 h3
    rw [h1, ev_mono H h2, ev_mono H h3]
    simp only [mapOf_mono H]
    exact h
  · cases h
theorem vop_mono (H : SubS s0 s) {o : Op} {v : Value} (h : vop N s0 o = some v) : vop N s o = some v := by
  unfold vop at h ⊢
  split at h
  · exact ev_mono H h
  · exact ev_mono H h
  · split at h
    · rename_i t hc
      simp only [ev_mono H hc]
      exact pickV_mono H h
    · cases h
  · exact buildV_mono H h
  · exact loadV_mono H h
  · split at h
    · rename_i h1 h2
      simp only [ev_mono H h1, ev_mono H h2]
      exact h
    · cases h
  · split at h
    · rename_i h1
      simp only [ev_mono H h1]
      exact h
    · cases h
  · split at h
    · rename_i h1
      simp only [ev_mono H h1, ← H.h]
      exact h
    · cases h
  · exact fieldAddrV_mono H h
  · exact indexAddrV_mono H h
  · exact fieldV_mono H h
  · exact indexV_mono H h
  · exact sliceV_mono H h
  · exact lookV_mono H h
  · split at h
    · rename_i h1
      simp only [ev_mono H h1]
      exact h
    · cases h
  · split at h
    · rename_i h1
      cases he : evs s0 _ with
      | none => rw [he] at h; cases h
      | some l =>
        rw [he] at h
        simp only [h1, if_true, evs_mono H he]
        exact h
    · cases h
  · split at h
    · rename_i b hb
      try simp only [hb]
      exact builtinV_mono H h
    · cases h
  · split at h
    · rename_i h1
      simp only [ev_mono H h1]
      exact h
    · rename_i h1
      simp only [ev_mono H h1]
      exact h
    · cases h
  · cases h
theorem epl_mono (H : SubS s0 s) {o : Op} {p : Nat × Nat} (h : epl N s0 o = some p) : epl N s o = some p := by
  unfold epl at h ⊢
  split at h
  · split at h
    · rename_i h1 h2
      simp only [h1, plc_mono H h2]
      exact h
    · cases h
  · split at h
    · rename_i h1 h2 h3
      simp only [h1, plc_mono H h2, ev_mono H h3]
      exact h
    · cases h
  · exact plc_mono H h
  · exact plc_mono H h
  · cases h
theorem wantedA_mono (H : SubS s0 s) {all : Array Oper} {o : Oper} {b : Bool} (h : wantedA all o s0 = some b) : wantedA all o s = some b := by
  unfold wantedA at h ⊢
  split at h
  · rename_i hg
    try simp only [hg]
    exact h
  · rename_i j want hg
    try simp only [hg]
    split at h
    · rename_i hj
      try simp only [hj]
      exact h
    · rename_i q hj
      try simp only [hj]
      split at h
      · rename_i hd
        try simp only [hd]
        exact h
      · rename_i d hd
        try simp only [hd]
        split at h
        · rename_i c hc
          rw [H.fg hc (by simp)]
          exact h
        · rename_i c hc
          rw [H.fg hc (by simp)]
          exact h
        · cases h
theorem boxC_mono (H : SubS s0 s) {o : Op} {p : TypeId × List Value} (h : boxC N s0 o = some p) : boxC N s o = some p := by
  unfold boxC at h ⊢
  split at h
  · exact h
  · split at h
    · rename_i h1 h2
      simp only [h1, ev_mono H h2]
      exact h
    · cases h
  · cases h
theorem bslC_mono (H : SubS s0 s) {o : Op} {p : TypeId × List Value × Nat} (h : bslC N s0 o = some p) : bslC N s o = some p := by
  unfold bslC at h ⊢
  split at h
  · split at h
    · rename_i h0
      try simp only [h0]
      split at h
      · rename_i h1 h2
        simp only [h1, evParts_mono H h2]
        exact h
      · cases h
    · cases h
  · cases h
theorem mkC_mono (H : SubS s0 s) {o : Op} {p : TypeId × List Value × Nat} (h : mkC N s0 o = some p) : mkC N s o = some p := by
  unfold mkC at h ⊢
  split at h
  · split at h
    · rename_i h0 h1 h2
      simp only [h0, ev_mono H h1, ev_mono H h2]
      exact h
    · cases h
  · cases h
theorem itemsC_mono (H : SubS s0 s) {h0 : Heap} {sz : Nat} {y : Operand} {p : List Value × Nat} (h : itemsC s0 h0 sz y = some p) : itemsC s h0 sz y = some p := by
  unfold itemsC at h ⊢
  split at h
  · split at h
    · rename_i hb
      simp only [H.fg hb (by simp)]
      exact h
    · rename_i hb
      simp only [H.fg hb (by simp)]
      exact h
    · cases h
  · cases h
theorem calleeA_mono (H : SubS s0 s) {c : Callee} {p : FuncId × List Value} (h : calleeA s0 c = some p) : calleeA s c = some p := by
  unfold calleeA at h ⊢
  split at h
  · split at h
    · rename_i h1
      simp only [ev_mono H h1]
      exact h
    · cases h
  · cases h

inductive Res where
  | sl (v : Slot)
  | ep (sl off : Nat)
def updR (s : St) (d : Option Nat) (r : Res) (h : Heap) : St :=
  match d, r with
  | some d, .sl v => ⟨fput s.fr d v, edrop s.eph d, h⟩
  | some d, .ep sl off => ⟨fput s.fr d .unk, (d, ([], (sl, off))) :: edrop s.eph d, h⟩
  | none, _ => ⟨s.fr, s.eph, h⟩
inductive One (N : Env) (all : Array Oper) (o : Oper) (s : St) : Res → Heap → Prop
  | skip : wantedA all o s = some false → One N all o s (.sl (.val (.tuple #[]))) s.h
  | val {v : Value} : wantedA all o s = some true → vop N s o.op = some v → One N all o s (.sl (.val v)) s.h
  | eph {d sl off : Nat} : wantedA all o s = some true → o.dst = some d → epl N s o.op = some (sl, off) → sl ≠ d → One N all o s (.ep sl off) s.h
  | bsl {d n : Nat} {t : TypeId} {cs : List Value} : wantedA all o s = some true → o.dst = some d → bslC N s o.op = some (t, cs, n) → One N all o s (.sl (.bsl cs n)) s.h
  | box {d : Nat} {t : TypeId} {cs : List Value} : wantedA all o s = some true → o.dst = some d → boxC N s o.op = some (t, cs) → One N all o s (.sl (.box cs)) s.h
  | mkP {d n : Nat} {t : TypeId} {cs : List Value} : wantedA all o s = some true → o.dst = some d → mkC N s o.op = some (t, cs, n) → One N all o s (.sl (.prv (.arr cs 0 true t) n)) s.h
  | mapP {d : Nat} {t kt et : TypeId} : wantedA all o s = some true → o.dst = some d → o.op = .makeMap t none → N.P.underlying t = some (.map kt et) → One N all o s (.sl (.prv (.map []) 0)) s.h
  | boxH {t : TypeId} {cs : List Value} : wantedA all o s = some true → boxC N s o.op = some (t, cs) → One N all o s (.sl (.val (.pointer (some ⟨s.h.length, 0, some 0⟩)))) (s.h ++ [HObj.arr cs 0 true t])
  | bslH {n : Nat} {t : TypeId} {cs : List Value} : wantedA all o s = some true → bslC N s o.op = some (t, cs, n) → One N all o s (.sl (.val (.slice (some ⟨s.h.length, 0, some 0⟩) n n))) (s.h ++ [HObj.arr cs 0 true t])
  | mk {n : Nat} {t : TypeId} {cs : List Value} : wantedA all o s = some true → mkC N s o.op = some (t, cs, n) → One N all o s (.sl (.val (.slice (some ⟨s.h.length, 0, some 0⟩) n n))) (s.h ++ [HObj.arr cs 0 true t])
  | stoH {t et : TypeId} {a x : Operand} {ti : TI} {id off ver : Nat} {cells vs cells' : List Value} {v : Value} {r : Res} : wantedA all o s = some true →
      o.op = .store t a x → tinfo N.P t = some ti → ev s a = some (.pointer (some ⟨id, off, some ver⟩)) → s.h[id]? = some (.arr cells ver true et) → ev s x = some v → vcells ti.size v = some vs →
      wrC cells off vs = some cells' → o.dst = none → One N all o s r (s.h.set id (HObj.arr cells' ver true et))
  | map {t kt et : TypeId} : wantedA all o s = some true → o.op = .makeMap t none → N.P.underlying t = some (.map kt et) → One N all o s (.sl (.val (.map (some s.h.length)))) (s.h ++ [HObj.map []])
  | upd {t kt et : TypeId} {x i y : Operand} {id : Nat} {es : List (Value × Value)} {kd : Value → Bool} {k v : Value} {r : Res} : wantedA all o s = some true →
      o.op = .mapUpdate t x i y → N.P.underlying t = some (.map kt et) → N.keys kt = some kd → ev s x = some (.map (some id)) → s.h[id]? = some (.map es) → ev s i = some k → ev s y = some v → kd k = true → mkeys kd es = true → o.dst = none →
      One N all o s r (s.h.set id (HObj.map (mput es k v)))
  | app0 {x y : Operand} {t t2 e : TypeId} {ti : TI} {cs : List Value} {m : Nat} : wantedA all o s = some true →
      o.op = .call { callee := .builtin .append, args := #[x, y], argTypes := #[t, t2] } → N.P.underlying t = some (.slice e) → t2 = t → tinfo N.P e = some ti → 0 < ti.size →
      (ti.zero.map fun z => z.cells.size) = some ti.size → ev s x = some (.slice none 0 0) → itemsC s s.h ti.size y = some (cs, m) → 0 < m → m * ti.bytes ≤ 140737488355328 → m ≤ 140737488355328 →
      One N all o s (.sl (.val (.slice (some ⟨s.h.length, 0, some 0⟩) m m))) (s.h ++ [HObj.arr cs 0 true e])
  | app {x y : Operand} {t t2 e : TypeId} {ti : TI} {cs cells : List Value} {m n c id ver : Nat} : wantedA all o s = some true →
      o.op = .call { callee := .builtin .append, args := #[x, y], argTypes := #[t, t2] } → N.P.underlying t = some (.slice e) → t2 = t → tinfo N.P e = some ti → 0 < ti.size →
      (ti.zero.map fun z => z.cells.size) = some ti.size → ev s x = some (.slice (some ⟨id, 0, some ver⟩) n c) → s.h[id]? = some (.arr cells ver true e) → n * ti.size ≤ cells.length →
      itemsC s s.h ti.size y = some (cs, m) → (n + m) * ti.bytes ≤ 140737488355328 → n + m ≤ 140737488355328 →
      One N all o s (.sl (.val (.slice (some ⟨id, 0, some (ver + 1)⟩) (n + m) (n + m)))) (s.h.set id (HObj.arr (cells.take (n * ti.size) ++ cs) (ver + 1) true e))
  | call {c : Call} {f : FuncId} {cap args : List Value} {fn : Func} {v : Value} {h' : Heap} : wantedA all o s = some true →
      o.op = .call c → calleeA s c.callee = some (f, cap) → evs s c.args.toList = some args → N.P.funcs[f]? = some fn → (fn.name == "runtime.NumGoroutine") = false → fn.body.isNone = false →
      Ev N (.call f (args ++ cap) s.h v h') → One N all o s (.sl (.val v)) h'
theorem putO_upd {d : Option Nat} {v : Value} {h : Heap} : ({ s with h := h }).putO d (.val v) = updR s d (.sl (.val v)) h := by
  cases d <;> rfl
theorem One.ev {all : Array Oper} {o : Oper} {r : Res} {h' : Heap} (k : One N all o s r h') : Ev N (.ops all [o] s (updR s o.dst r h')) := by
  cases k with
  | skip hw => exact .opSkip hw (by rw [← putO_upd]; exact .nil _ _)
  | val hw hv => exact .opVal hw hv (by rw [← putO_upd]; exact .nil _ _)
  | eph hw hd he hne => exact .opEph hw hd he hne (by rw [hd]; exact .nil _ _)
  | bsl hw hd hb => exact .opBsl hw hd hb (by rw [hd]; exact .nil _ _)
  | box hw hd hb => exact .opBox hw hd hb (by rw [hd]; exact .nil _ _)
  | mkP hw hd hb => exact .opMkP hw hd hb (by rw [hd]; exact .nil _ _)
  | mapP hw hd ho hu => exact .opMapP hw hd ho hu (by rw [hd]; exact .nil _ _)
  | boxH hw hb => exact .opBoxH hw hb (by rw [← putO_upd]; exact .nil _ _)
  | bslH hw hb => exact .opBslH hw hb (by rw [← putO_upd]; exact .nil _ _)
  | mk hw hb => exact .opMk hw hb (by rw [← putO_upd]; exact .nil _ _)
  | stoH hw ho ht ha hid hx hv hq hd => exact .opStoH hw ho ht ha hid hx hv hq hd (by rw [hd]; exact .nil _ _)
  | map hw ho hu => exact .opMap hw ho hu (by rw [← putO_upd]; exact .nil _ _)
  | upd hw ho hu hkd hx hid hk hv hkk hmk hd => exact .opUpd hw ho hu hkd hx hid hk hv hkk hmk hd (by rw [hd]; exact .nil _ _)
  | app0 hw ho hu h2 ht h3 h4 hx hi h5 h6 h7 => exact .opApp0 hw ho hu h2 ht h3 h4 hx hi h5 h6 h7 (by rw [← putO_upd]; exact .nil _ _)
  | app hw ho hu h2 ht h3 h4 hx hid h8 hi h5 h6 => exact .opApp hw ho hu h2 ht h3 h4 hx hid h8 hi h5 h6 (by rw [← putO_upd]; exact .nil _ _)
  | call hw ho hc ha hf hn hb he => exact .opCall hw ho hc ha hf hn hb he (by rw [← putO_upd]; exact .nil _ _)
theorem One.mono (H : SubS s0 s) {all : Array Oper} {o : Oper} {r : Res} {h' : Heap} (k : One N all o s0 r h') : One N all o s r h' := by
  have e := H.h
  cases k with
  | skip hw => rw [e]; exact .skip (wantedA_mono H hw)
  | val hw hv => rw [e]; exact .val (wantedA_mono H hw) (vop_mono H hv)
  | eph hw hd he hne => rw [e]; exact .eph (wantedA_mono H hw) hd (epl_mono H he) hne
  | bsl hw hd hb => rw [e]; exact .bsl (wantedA_mono H hw) hd (bslC_mono H hb)
  | box hw hd hb => rw [e]; exact .box (wantedA_mono H hw) hd (boxC_mono H hb)
  | mkP hw hd hb => rw [e]; exact .mkP (wantedA_mono H hw) hd (mkC_mono H hb)
  | mapP hw hd ho hu => rw [e]; exact .mapP (wantedA_mono H hw) hd ho hu
  | boxH hw hb => rw [e]; exact .boxH (wantedA_mono H hw) (boxC_mono H hb)
  | bslH hw hb => rw [e]; exact .bslH (wantedA_mono H hw) (bslC_mono H hb)
  | mk hw hb => rw [e]; exact .mk (wantedA_mono H hw) (mkC_mono H hb)
  | stoH hw ho ht ha hid hx hv hq hd => rw [e] at hid ⊢; exact .stoH (wantedA_mono H hw) ho ht (ev_mono H ha) hid (ev_mono H hx) hv hq hd
  | map hw ho hu => rw [e]; exact .map (wantedA_mono H hw) ho hu
  | upd hw ho hu hkd hx hid hk hv hkk hmk hd => rw [e] at hid ⊢; exact .upd (wantedA_mono H hw) ho hu hkd (ev_mono H hx) hid (ev_mono H hk) (ev_mono H hv) hkk hmk hd
  | app0 hw ho hu h2 ht h3 h4 hx hi h5 h6 h7 => rw [e] at hi ⊢; exact .app0 (wantedA_mono H hw) ho hu h2 ht h3 h4 (ev_mono H hx) (itemsC_mono H hi) h5 h6 h7
  | app hw ho hu h2 ht h3 h4 hx hid h8 hi h5 h6 => rw [e] at hi hid ⊢; exact .app (wantedA_mono H hw) ho hu h2 ht h3 h4 (ev_mono H hx) hid h8 (itemsC_mono H hi) h5 h6
  | call hw ho hc ha hf hn hb he => exact .call (wantedA_mono H hw) ho (calleeA_mono H hc) (evs_mono H ha) hf hn hb (e ▸ he)
end
end Go.Proofs.Ytafncpgiibikcaa.Am

namespace Go.Proofs.Ytafncpgiibikcaa.Am
set_option linter.unusedSimpArgs false
set_option linter.unusedVariables false
open Go.RowKit

def dstAt (ops : Array Oper) (j : Nat) : Option Nat := match ops[j]? with | some o => o.dst | none => none
def ancs (L : List (List Nat)) (i : Nat) : List Nat := (L[i]?).getD []
def ordB (ops : Array Oper) (L : List (List Nat)) (act : List Nat) : Bool :=
  ((List.range ops.size).all fun i => match ops[i]? with
    | some o => (o.after.toList.all fun e => !Region.binds .any e || decide (e.on < i)) && ((ancs L i).all fun j => o.after.toList.any fun e => Region.binds .any e && (decide (e.on = j) || (ancs L e.on).contains j))
    | none => true) &&
  ((List.range ops.size).all fun i => (List.range i).all fun j => match dstAt ops i, dstAt ops j with
    | some d, some d' => !decide (d = d')
    | _, _ => true) &&
  ((List.range act.length).all fun j => (List.range j).all fun i => (ancs L (act.getD j 0)).contains (act.getD i 0))
def stageB (L : List (List Nat)) (act : List Nat) (i k : Nat) : Bool :=
  (List.range act.length).all fun j => (!(ancs L i).contains (act.getD j 0) || decide (j < k)) && (!(ancs L (act.getD j 0)).contains i || decide (k ≤ j)) && (!decide (act.getD j 0 = i) || decide (k = j))

section
variable {N : Env} {ops : Array Oper} {L : List (List Nat)} {act : List Nat} {s0 : St} {res : Nat → Res} {Hs : Nat → Heap}
structure Cert (ops : Array Oper) (L : List (List Nat)) (act : List Nat) : Prop where
  low : ∀ i o, ops[i]? = some o → ∀ e ∈ o.after, Region.binds .any e = true → e.on < i
  anc : ∀ i j, j ∈ ancs L i → i < ops.size → ∃ o, ops[i]? = some o ∧ ∃ e ∈ o.after, Region.binds .any e = true ∧ (e.on = j ∨ j ∈ ancs L e.on)
  dst : ∀ i j d, dstAt ops i = some d → dstAt ops j = some d → i = j
  act : ∀ i j, i < j → j < act.length → act.getD i 0 ∈ ancs L (act.getD j 0)
theorem dstAt_lt {j d : Nat} (h : dstAt ops j = some d) : j < ops.size := by
  unfold dstAt at h
  split at h
  · rename_i o ho
    exact (Array.getElem?_eq_some_iff.1 ho).1
  · cases h
theorem ordB_cert (h : ordB ops L act = true) : Cert ops L act := by
  unfold ordB at h
  simp only [Bool.and_eq_true, List.all_eq_true, List.mem_range] at h
  obtain ⟨⟨h1, h2⟩, h3⟩ := h
  have hd : ∀ i j d, j < i → dstAt ops i = some d → dstAt ops j = some d → False := fun i j d hij hi hj => by
    have := h2 i (dstAt_lt hi) j hij
    rw [hi, hj] at this
    simp at this
  refine ⟨fun i o ho e he hb => ?_, fun i j hj hi => ?_, fun i j d hi hj => ?_, fun i j hij hj => ?_⟩
  · have := h1 i (Array.getElem?_eq_some_iff.1 ho).1
    rw [ho] at this
    simp only [Bool.and_eq_true, List.all_eq_true] at this
    have := this.1 e (by simpa using he)
    simpa [hb] using this
  · have := h1 i hi
    rw [Array.getElem?_eq_getElem hi] at this ⊢
    simp only [Bool.and_eq_true, List.all_eq_true, List.any_eq_true, Bool.or_eq_true, decide_eq_true_eq, List.contains_iff_mem] at this
    obtain ⟨e, he, hb, hc⟩ := this.2 j hj
    exact ⟨_, rfl, e, by simpa using he, hb, hc⟩
  · rcases Nat.lt_trichotomy i j with h | h | h
    · exact (hd j i d h hj hi).elim
    · exact h
    · exact (hd i j d h hi hj).elim
  · exact List.contains_iff_mem.1 (h3 j hj i hij)

structure OInv (N : Env) (ops : Array Oper) (act : List Nat) (s0 : St) (res : Nat → Res) (Hs : Nat → Heap) (S : Array Bool) (t : St) : Prop where
  size : S.size = ops.size
  closed : ∀ j o, ops[j]? = some o → S.getD j false = true → ∀ e ∈ o.after, Region.binds .any e = true → S.getD e.on false = true
  pre : ∃ k, k ≤ act.length ∧ t.h = Hs k ∧ ∀ j, j < act.length → (S.getD (act.getD j 0) false = true ↔ j < k)
  out : ∀ x, (∀ j, dstAt ops j ≠ some x) → fget t.fr x = fget s0.fr x ∧ eget t.eph x = none
  gotS : ∀ j d v, dstAt ops j = some d → S.getD j false = true → res j = .sl v → fget t.fr d = v ∧ eget t.eph d = none
  gotE : ∀ j d sl off, dstAt ops j = some d → S.getD j false = true → res j = .ep sl off → eget t.eph d = some ([], (sl, off))
  tgt : ∀ q ∈ t.eph, ∀ j, dstAt ops j ≠ some q.2.2.1
theorem anc_in (C : Cert ops L act) {S : Array Bool} (hsz : S.size = ops.size) (hcl : ∀ j o, ops[j]? = some o → S.getD j false = true → ∀ e ∈ o.after, Region.binds .any e = true → S.getD e.on false = true) :
    ∀ (i j : Nat), i < ops.size → (∀ o, ops[i]? = some o → ∀ e ∈ o.after, Region.binds .any e = true → S.getD e.on false = true) → j ∈ ancs L i → S.getD j false = true := by
  intro i
  induction i using Nat.strongRecOn with
  | _ i ih =>
    intro j hi hr hj
    obtain ⟨o, ho, e, he, hb, h⟩ := C.anc i j hj hi
    have h1 := hr o ho e he hb
    rcases h with rfl | h
    · exact h1
    · have hlt := C.low i o ho e he hb
      exact ih e.on hlt j (by omega) (fun o' ho' e' he' hb' => hcl e.on o' ho' h1 e' he' hb') h
theorem eget_edrop_self : ∀ (e : Eph) (d : Nat), eget (edrop e d) d = none
  | [], d => rfl
  | (k, (g, (s, o))) :: r, d => by
    simp only [edrop]
    split
    · exact eget_edrop_self r d
    · split
      · exact eget_edrop_self r d
      · rename_i h _
        simp only [eget, if_neg h]
        exact eget_edrop_self r d
theorem eget_edrop : ∀ {e : Eph} {d x : Nat}, (∀ q ∈ e, q.2.2.1 ≠ d) → x ≠ d → eget (edrop e d) x = eget e x
  | [], d, x, _, _ => rfl
  | (k, (g, (s, o))) :: r, d, x, h, hx => by
    have hr := eget_edrop (e := r) (d := d) (x := x) (fun q hq => h q (List.mem_cons_of_mem _ hq)) hx
    have hs : s ≠ d := h (k, (g, (s, o))) List.mem_cons_self
    simp only [edrop]
    split
    · rename_i hk
      simp only [eget]
      rw [if_neg (by omega)]
      exact hr
    · try rw [if_neg hs]
      simp only [eget]
      split
      · rfl
      · exact hr
theorem edrop_sub {q : Nat × (List Key × (Nat × Nat))} {d : Nat} : ∀ {e : Eph}, q ∈ edrop e d → q ∈ e
  | [], h => h
  | (k, (g, (s, o))) :: r, h => by
    simp only [edrop] at h
    split at h
    · exact List.mem_cons_of_mem _ (edrop_sub h)
    · split at h
      · exact List.mem_cons_of_mem _ (edrop_sub h)
      · rcases List.mem_cons.1 h with h | h
        · exact h ▸ List.mem_cons_self
        · exact List.mem_cons_of_mem _ (edrop_sub h)
structure View (ops : Array Oper) (L : List (List Nat)) (s0 : St) (res : Nat → Res) (i : Nat) (V : St) : Prop where
  f : ∀ x, fget V.fr x = .unk ∨ ((∀ j, dstAt ops j ≠ some x) ∧ fget s0.fr x = fget V.fr x) ∨ ∃ j, dstAt ops j = some x ∧ j ∈ ancs L i ∧ res j = .sl (fget V.fr x)
  e : ∀ x p, eget V.eph x = some p → ∃ j sl off, dstAt ops j = some x ∧ j ∈ ancs L i ∧ res j = .ep sl off ∧ p = ([], (sl, off))
  n : ∀ x, fget V.fr x ≠ .unk → eget V.eph x = none
theorem View.sub (C : Cert ops L act) {S : Array Bool} {t V : St} {i : Nat} (I : OInv N ops act s0 res Hs S t) (hi : i < ops.size) (hr : ∀ o, ops[i]? = some o → ∀ e ∈ o.after, Region.binds .any e = true → S.getD e.on false = true)
    (hV : View ops L s0 res i V) (hh : V.h = t.h) : SubS V t := by
  have hin : ∀ j, j ∈ ancs L i → S.getD j false = true := fun j hj => anc_in C I.size I.closed i j hi hr hj
  refine ⟨hh, fun x => ?_, fun x p hp => ?_, fun x hx => ?_⟩
  · rcases hV.f x with h | ⟨h, h2⟩ | ⟨j, h, h2, h3⟩
    · exact .inl h
    · exact .inr ((I.out x h).1.trans h2)
    · exact .inr (I.gotS j x _ h (hin j h2) h3).1
  · obtain ⟨j, sl, off, h, h2, h3, rfl⟩ := hV.e x p hp
    exact I.gotE j x sl off h (hin j h2) h3
  · rw [hV.n x hx]
    rcases hV.f x with h | ⟨h, h2⟩ | ⟨j, h, h2, h3⟩
    · exact (hx h).elim
    · exact (I.out x h).2
    · exact (I.gotS j x _ h (hin j h2) h3).2
theorem getD_set_ite {S : Array Bool} {i j : Nat} (hi : i < S.size) : ((S.setIfInBounds i true).getD j false = true) ↔ (j = i ∨ S.getD j false = true) := by
  by_cases h : i = j
  · subst h
    simp [hi]
  · rw [getD_set_ne false h]
    exact ⟨.inr, fun h' => h'.resolve_left fun e => h e.symm⟩
theorem OInv.step (C : Cert ops L act) (hT : ∀ j sl off, res j = .ep sl off → ∀ i, dstAt ops i ≠ some sl)
    {S : Array Bool} {t : St} {i : Nat} {o : Oper} (hstep : ∀ o k, ops[i]? = some o → k ≤ act.length → stageB L act i k = true → ∃ V, View ops L s0 res i V ∧ V.h = Hs k ∧ One N ops o V (res i) (Hs (if i ∈ act then k + 1 else k)))
    (I : OInv N ops act s0 res Hs S t) (hi : i ∈ Region.ready .any ops S) (ho : ops[i]? = some o) :
    ∃ s', Ev N (.ops ops [o] t s') ∧ OInv N ops act s0 res Hs (S.setIfInBounds i true) s' := by
  obtain ⟨hun, oi, hoi, hall⟩ := mem_ready.1 hi
  obtain rfl : oi = o := Option.some.inj (hoi.symm.trans ho)
  have hlt : i < ops.size := (Array.getElem?_eq_some_iff.1 ho).1
  have hltS : i < S.size := by rw [I.size]; exact hlt
  have hnot : ¬ S.getD i false = true := by
    have h1 := getD_both hun
    rw [h1]
    simp
  have hr : ∀ o, ops[i]? = some o → ∀ e ∈ o.after, Region.binds .any e = true → S.getD e.on false = true := fun o' ho' e he hb => by
    obtain rfl : oi = o' := Option.some.inj (ho.symm.trans ho')
    exact hall e he hb
  have hin : ∀ j, j ∈ ancs L i → S.getD j false = true := fun j hj => anc_in C I.size I.closed i j hlt hr hj
  obtain ⟨k, hk, hh, hpre⟩ := I.pre
  have hst : stageB L act i k = true := by
    unfold stageB
    rw [List.all_eq_true]
    intro j hj
    rw [List.mem_range] at hj
    simp only [Bool.and_eq_true, Bool.or_eq_true, Bool.not_eq_true', decide_eq_true_eq, decide_eq_false_iff_not]
    refine ⟨⟨?_, ?_⟩, ?_⟩
    · by_cases h : act.getD j 0 ∈ ancs L i
      · exact .inr ((hpre j hj).1 (hin _ h))
      · exact .inl (by simpa using h)
    · by_cases h : i ∈ ancs L (act.getD j 0)
      · refine .inr (Nat.le_of_not_lt fun hjk => ?_)
        have h1 := (hpre j hj).2 hjk
        have hal : act.getD j 0 < ops.size := by
          rcases Nat.lt_or_ge (act.getD j 0) ops.size with h2 | h2
          · exact h2
          · have : S.size ≤ act.getD j 0 := by rw [I.size]; exact h2
            rw [Array.getD_eq_getD_getElem?, Array.getElem?_eq_none this] at h1
            cases h1
        exact hnot (anc_in C I.size I.closed _ i hal (fun o' ho' e he hb => I.closed _ o' ho' h1 e he hb) h)
      · exact .inl (by simpa using h)
    · by_cases h : act.getD j 0 = i
      · refine .inr (Nat.le_antisymm (Nat.le_of_not_lt fun hjk => ?_) (Nat.le_of_not_lt fun hkj => ?_))
        · exact hnot (h ▸ (hpre j hj).2 hjk)
        · have h1 := C.act k j hkj hj
          rw [h] at h1
          have := (hpre k (by omega)).1 (hin _ h1)
          omega
      · exact .inl h
  obtain ⟨V, hV, hVh, hone⟩ := hstep oi k ho hk hst
  have hsub := hV.sub C I hlt hr (hVh.trans hh.symm)
  refine ⟨_, (hone.mono hsub).ev, ?_⟩
  have hset : ∀ j, ((S.setIfInBounds i true).getD j false = true) ↔ (j = i ∨ S.getD j false = true) := fun j => getD_set_ite hltS
  have hpre' : ∃ k', k' ≤ act.length ∧ Hs (if i ∈ act then k + 1 else k) = Hs k' ∧ ∀ j, j < act.length → ((S.setIfInBounds i true).getD (act.getD j 0) false = true ↔ j < k') := by
    have hst' : ∀ j, j < act.length → act.getD j 0 = i → k = j := fun j hj h => by
      unfold stageB at hst
      rw [List.all_eq_true] at hst
      have := hst j (List.mem_range.2 hj)
      simp only [Bool.and_eq_true, Bool.or_eq_true, Bool.not_eq_true', decide_eq_true_eq, decide_eq_false_iff_not] at this
      exact this.2.resolve_left fun hn => hn h
    by_cases hia : i ∈ act
    · rw [if_pos hia]
      obtain ⟨j0, hj0, hji⟩ := List.mem_iff_getElem.1 hia
      have hg : act.getD j0 0 = i := by simp [hj0, hji]
      have hk0 := hst' j0 hj0 hg
      refine ⟨k + 1, by omega, rfl, fun j hj => ?_⟩
      rw [hset]
      constructor
      · rintro (h | h)
        · have := hst' j hj h
          omega
        · have := (hpre j hj).1 h
          omega
      · intro h
        rcases Nat.lt_or_ge j k with h1 | h1
        · exact .inr ((hpre j hj).2 h1)
        · obtain rfl : j = j0 := by omega
          exact .inl hg
    · rw [if_neg hia]
      refine ⟨k, hk, rfl, fun j hj => ?_⟩
      rw [hset]
      constructor
      · rintro (h | h)
        · exact (hia (by rw [← h]; simp [hj])).elim
        · exact (hpre j hj).1 h
      · exact fun h => .inr ((hpre j hj).2 h)
  have hcl' : ∀ j o, ops[j]? = some o → (S.setIfInBounds i true).getD j false = true → ∀ e ∈ o.after, Region.binds .any e = true → (S.setIfInBounds i true).getD e.on false = true := fun j o hj hl e he hb => by
    rw [hset]
    rcases (hset j).1 hl with rfl | h
    · exact .inr (hr o hj e he hb)
    · exact .inr (I.closed j o hj h e he hb)
  cases hd : oi.dst with
  | none =>
    have hda : dstAt ops i = none := by simp [dstAt, ho, hd]
    have hne : ∀ j d, dstAt ops j = some d → j ≠ i := fun j d h e => by rw [e, hda] at h; cases h
    exact ⟨by simp [I.size], hcl', hpre', I.out, fun j d v hj hl => I.gotS j d v hj (((hset j).1 hl).resolve_left (hne j d hj)), fun j d sl off hj hl => I.gotE j d sl off hj (((hset j).1 hl).resolve_left (hne j d hj)), I.tgt⟩
  | some d =>
    have hda : dstAt ops i = some d := by simp [dstAt, ho, hd]
    have hdn : ∀ q ∈ t.eph, q.2.2.1 ≠ d := fun q hq e => I.tgt q hq i (by rw [e]; exact hda)
    have hdne : ∀ j d', j ≠ i → dstAt ops j = some d' → d' ≠ d := fun j d' hj h e => hj (C.dst j i d (e ▸ h) hda)
    cases hres : res i with
    | sl v =>
      refine ⟨by simp [I.size], hcl', hpre', fun x hx => ?_, fun j d' v' hj hl hv => ?_, fun j d' sl off hj hl hv => ?_, fun q hq => I.tgt q (edrop_sub hq)⟩
      · have hxd : x ≠ d := fun e => hx i (e ▸ hda)
        simp only [updR, fget_fput]
        rw [if_neg (fun e => hxd e.symm), eget_edrop hdn hxd]
        exact I.out x hx
      · simp only [updR, fget_fput]
        by_cases hji : j = i
        · subst hji
          obtain rfl : d = d' := Option.some.inj (hda.symm.trans hj)
          rw [if_pos rfl, eget_edrop_self]
          rw [hres] at hv
          cases hv
          exact ⟨rfl, rfl⟩
        · have := hdne j d' hji hj
          rw [if_neg (fun e => this e.symm), eget_edrop hdn this]
          exact I.gotS j d' v' hj (((hset j).1 hl).resolve_left hji) hv
      · by_cases hji : j = i
        · subst hji
          rw [hres] at hv
          cases hv
        · have := hdne j d' hji hj
          simp only [updR]
          rw [eget_edrop hdn this]
          exact I.gotE j d' sl off hj (((hset j).1 hl).resolve_left hji) hv
    | ep sl0 off0 =>
      refine ⟨by simp [I.size], hcl', hpre', fun x hx => ?_, fun j d' v' hj hl hv => ?_, fun j d' sl off hj hl hv => ?_, fun q hq => ?_⟩
      · have hxd : x ≠ d := fun e => hx i (e ▸ hda)
        simp only [updR, fget_fput, eget]
        rw [if_neg (fun e => hxd e.symm), if_neg (fun e => hxd e.symm), eget_edrop hdn hxd]
        exact I.out x hx
      · by_cases hji : j = i
        · subst hji
          rw [hres] at hv
          cases hv
        · have := hdne j d' hji hj
          simp only [updR, fget_fput, eget]
          rw [if_neg (fun e => this e.symm), if_neg (fun e => this e.symm), eget_edrop hdn this]
          exact I.gotS j d' v' hj (((hset j).1 hl).resolve_left hji) hv
      · by_cases hji : j = i
        · subst hji
          obtain rfl : d = d' := Option.some.inj (hda.symm.trans hj)
          simp only [updR, eget, if_true]
          rw [hres] at hv
          cases hv
          rfl
        · have := hdne j d' hji hj
          simp only [updR, eget]
          rw [if_neg (fun e => this e.symm), eget_edrop hdn this]
          exact I.gotE j d' sl off hj (((hset j).1 hl).resolve_left hji) hv
      · rcases List.mem_cons.1 hq with rfl | hq
        · exact fun j => hT i sl0 off0 hres j
        · exact I.tgt q (edrop_sub hq)
theorem ev_order {id : Nat} {s : St} {frF : Fr} (hm : N.P.follows .mixedOrders = true) (C : Cert ops L act) (hT : ∀ j sl off, res j = .ep sl off → ∀ i, dstAt ops i ≠ some sl)
    (hstep : ∀ i o k, ops[i]? = some o → k ≤ act.length → stageB L act i k = true → ∃ V, View ops L s res i V ∧ V.h = Hs k ∧ One N ops o V (res i) (Hs (if i ∈ act then k + 1 else k)))
    (hact : ∀ a ∈ act, a < ops.size) (h0 : s.h = Hs 0) (hF : ∀ p ∈ frF, ((∀ j, dstAt ops j ≠ some p.1) ∧ fget s.fr p.1 = p.2) ∨ ∃ j, dstAt ops j = some p.1 ∧ res j = .sl p.2) :
    Ev N (.code (.region id ops true) s .normal ⟨frF, [], Hs act.length⟩) := by
  classical
  refine .regionO (OInv N ops act s res Hs) (fun S t i => match ops[i]? with
    | some o => if h : ∃ s', Ev N (.ops ops [o] t s') ∧ OInv N ops act s res Hs (S.setIfInBounds i true) s' then h.choose else t
    | none => t) hm ?_ ?_ ?_ ?_ rfl
  · refine ⟨by simp, fun j o _ hl => ?_, ⟨0, Nat.zero_le _, h0, fun j _ => ?_⟩, fun x _ => ⟨rfl, rfl⟩, fun j d v _ hl => ?_, fun j d sl off _ hl => ?_, fun q hq => by cases hq⟩
    · rw [getD_replicate_false] at hl
      cases hl
    · rw [getD_replicate_false]
      simp
    · rw [getD_replicate_false] at hl
      cases hl
    · rw [getD_replicate_false] at hl
      cases hl
  · intro S t i o I hi ho
    simp only [ho]
    have h := I.step C hT (hstep i) hi ho
    rw [dif_pos h]
    exact h.choose_spec.1
  · intro S t i o I hi ho
    simp only [ho]
    have h := I.step C hT (hstep i) hi ho
    rw [dif_pos h]
    exact h.choose_spec.2
  · intro S t I hr
    have hall : ∀ i, i < ops.size → S.getD i false = true := by
      intro i
      induction i using Nat.strongRecOn with
      | _ i ih =>
        intro hi
        cases hb : S.getD i false with
        | true => rfl
        | false =>
          have : i ∈ Region.ready .any ops S := mem_ready.2 ⟨getD_in (by rw [I.size]; exact hi) hb, ops[i], Array.getElem?_eq_getElem hi, fun e he hbi => by
            have hlow := C.low i _ (Array.getElem?_eq_getElem hi) e he hbi
            exact ih e.on hlow (by omega)⟩
          rw [hr] at this
          cases this
    refine ⟨fun p hp => ?_, ?_⟩
    · rcases hF p hp with ⟨h1, h2⟩ | ⟨j, h1, h2⟩
      · exact (I.out p.1 h1).1.trans h2
      · exact (I.gotS j p.1 p.2 h1 (hall j (dstAt_lt h1)) h2).1
    · obtain ⟨k, hk, hh, hpre⟩ := I.pre
      have : k = act.length := by
        rcases Nat.lt_or_ge k act.length with h | h
        · have := (hpre k h).1 (hall _ (hact _ (by simp [h])))
          omega
        · omega
      rw [hh, this]
end
end Go.Proofs.Ytafncpgiibikcaa.Am

namespace Go.Proofs.Ytafncpgiibikcaa.Am
set_option linter.unusedSimpArgs false
set_option linter.unusedVariables false
open Go.RowKit

def dstsOf (ops : Array Oper) : List Nat := ops.toList.filterMap (·.dst)
def resF (resL : List Res) (j : Nat) : Res := (resL[j]?).getD (.sl .unk)
def hpF (hs : List Heap) (k : Nat) : Heap := (hs[k]?).getD []
def ancFr (ops : Array Oper) (resL : List Res) : List Nat → Fr
  | [] => []
  | j :: l => match dstAt ops j, resL[j]? with
    | some d, some (.sl v) => (d, v) :: ancFr ops resL l
    | _, _ => ancFr ops resL l
def ancE (ops : Array Oper) (resL : List Res) : List Nat → Eph
  | [] => []
  | j :: l => match dstAt ops j, resL[j]? with
    | some d, some (.ep sl off) => (d, ([], (sl, off))) :: ancE ops resL l
    | _, _ => ancE ops resL l
def baseFr (ds : List Nat) : Fr → Fr
  | [] => []
  | (k, v) :: r => if ds.contains k then baseFr ds r else (k, v) :: baseFr ds r
def viewOf (ops : Array Oper) (L : List (List Nat)) (resL : List Res) (fr : Fr) (h : Heap) (i : Nat) : St := ⟨baseFr (dstsOf ops) fr ++ ancFr ops resL (ancs L i), ancE ops resL (ancs L i), h⟩

section
variable {N : Env} {ops : Array Oper} {L : List (List Nat)} {act : List Nat} {resL : List Res}
theorem mem_dstsOf {j d : Nat} (h : dstAt ops j = some d) : d ∈ dstsOf ops := by
  unfold dstAt at h
  split at h
  · rename_i o ho
    unfold dstsOf
    rw [List.mem_filterMap]
    exact ⟨o, Array.mem_toList_iff.2 (Array.mem_of_getElem? ho), h⟩
  · cases h
theorem fget_ancFr {x : Nat} : ∀ {l : List Nat}, fget (ancFr ops resL l) x = .unk ∨ ∃ j, dstAt ops j = some x ∧ j ∈ l ∧ resL[j]? = some (.sl (fget (ancFr ops resL l) x))
  | [] => .inl rfl
  | j :: l => by
    have ih := fget_ancFr (x := x) (l := l)
    have ih' : fget (ancFr ops resL l) x = .unk ∨ ∃ j', dstAt ops j' = some x ∧ j' ∈ j :: l ∧ resL[j']? = some (.sl (fget (ancFr ops resL l) x)) := by
      rcases ih with h | ⟨j', h1, h2, h3⟩
      · exact .inl h
      · exact .inr ⟨j', h1, List.mem_cons_of_mem _ h2, h3⟩
    simp only [ancFr]
    split
    · rename_i d v hd hr
      simp only [fget]
      split
      · rename_i hx
        subst hx
        exact .inr ⟨j, hd, List.mem_cons_self, hr⟩
      · exact ih'
    · exact ih'
theorem eget_ancE {x : Nat} {p : List Key × (Nat × Nat)} : ∀ {l : List Nat}, eget (ancE ops resL l) x = some p → ∃ j sl off, dstAt ops j = some x ∧ j ∈ l ∧ resL[j]? = some (.ep sl off) ∧ p = ([], (sl, off))
  | [], h => by cases h
  | j :: l, h => by
    have ih : eget (ancE ops resL l) x = some p → ∃ j' sl off, dstAt ops j' = some x ∧ j' ∈ j :: l ∧ resL[j']? = some (.ep sl off) ∧ p = ([], (sl, off)) := fun h => by
      obtain ⟨j', sl, off, h1, h2, h3⟩ := eget_ancE h
      exact ⟨j', sl, off, h1, List.mem_cons_of_mem _ h2, h3⟩
    simp only [ancE] at h
    split at h
    · rename_i d sl off hd hr
      simp only [eget] at h
      split at h
      · rename_i hx
        subst hx
        cases h
        exact ⟨j, sl, off, hd, List.mem_cons_self, hr, rfl⟩
      · exact ih h
    · exact ih h
theorem fget_base {ds : List Nat} {B : Fr} {x : Nat} (hx : x ∈ ds) : ∀ {fr : Fr}, fget (baseFr ds fr ++ B) x = fget B x
  | [] => rfl
  | (k, v) :: r => by
    simp only [baseFr]
    split
    · exact fget_base hx
    · rename_i hk
      have : k ≠ x := fun e => hk (by rw [e]; simpa using hx)
      simp only [List.cons_append, fget, if_neg this]
      exact fget_base hx
theorem fget_base' {ds : List Nat} {B : Fr} {x : Nat} (hx : x ∉ ds) (hB : fget B x = .unk) : ∀ {fr : Fr}, fget (baseFr ds fr ++ B) x = fget fr x
  | [] => hB
  | (k, v) :: r => by
    simp only [baseFr]
    split
    · rename_i hk
      have : k ≠ x := fun e => hx (by rw [← e]; simpa using hk)
      simp only [fget, if_neg this]
      exact fget_base' hx hB
    · simp only [List.cons_append, fget]
      split
      · rfl
      · exact fget_base' hx hB
theorem resF_some {j : Nat} {r : Res} (h : resL[j]? = some r) : resF resL j = r := by simp [resF, h]
theorem view_ok (C : Cert ops L act) {s0 : St} {h : Heap} {i : Nat} : View ops L s0 (resF resL) i (viewOf ops L resL s0.fr h i) := by
  have hf : ∀ x, fget (viewOf ops L resL s0.fr h i).fr x = .unk ∨ ((∀ j, dstAt ops j ≠ some x) ∧ fget s0.fr x = fget (viewOf ops L resL s0.fr h i).fr x) ∨ ∃ j, dstAt ops j = some x ∧ j ∈ ancs L i ∧ resF resL j = .sl (fget (viewOf ops L resL s0.fr h i).fr x) := by
    intro x
    by_cases hx : x ∈ dstsOf ops
    · simp only [viewOf, fget_base hx]
      rcases fget_ancFr (ops := ops) (resL := resL) (x := x) (l := ancs L i) with h | ⟨j, h1, h2, h3⟩
      · exact .inl h
      · exact .inr (.inr ⟨j, h1, h2, resF_some h3⟩)
    · have hB : fget (ancFr ops resL (ancs L i)) x = .unk := by
        rcases fget_ancFr (ops := ops) (resL := resL) (x := x) (l := ancs L i) with h | ⟨j, h1, _⟩
        · exact h
        · exact (hx (mem_dstsOf h1)).elim
      refine .inr (.inl ⟨fun j hj => hx (mem_dstsOf hj), ?_⟩)
      simp only [viewOf, fget_base' hx hB]
  refine ⟨hf, fun x p hp => ?_, fun x hx => ?_⟩
  · obtain ⟨j, sl, off, h1, h2, h3, h4⟩ := eget_ancE hp
    exact ⟨j, sl, off, h1, h2, resF_some h3, h4⟩
  · cases he : eget (viewOf ops L resL s0.fr h i).eph x with
    | none => rfl
    | some p =>
      obtain ⟨j, sl, off, h1, h2, h3, _⟩ := eget_ancE he
      rcases hf x with h | ⟨h, _⟩ | ⟨j', k1, k2, k3⟩
      · exact (hx h).elim
      · exact (h j h1).elim
      · obtain rfl := C.dst j j' x h1 k1
        rw [resF_some h3] at k3
        cases k3

variable {call : FuncId → List Value → Heap → Option (Value × Heap)} {nm : FuncId → Bool}
def StageOK (N : Env) (ops : Array Oper) (L : List (List Nat)) (act : List Nat) (resL : List Res) (hs : List Heap) (fr : Fr) (i : Nat) (o : Oper) : List Nat → Prop
  | [] => True
  | k :: l => (stageB L act i k = true → One N ops o (viewOf ops L resL fr (hpF hs k) i) (resF resL i) (hpF hs (if i ∈ act then k + 1 else k))) ∧ StageOK N ops L act resL hs fr i o l
def StepsOK (N : Env) (ops : Array Oper) (L : List (List Nat)) (act : List Nat) (resL : List Res) (hs : List Heap) (fr : Fr) : Nat → List Oper → Prop
  | _, [] => True
  | i, o :: l => StageOK N ops L act resL hs fr i o (List.range (act.length + 1)) ∧ StepsOK N ops L act resL hs fr (i + 1) l
theorem StageOK.at {hs : List Heap} {fr : Fr} {i : Nat} {o : Oper} : ∀ {l : List Nat} {k : Nat}, StageOK N ops L act resL hs fr i o l → k ∈ l → stageB L act i k = true →
    One N ops o (viewOf ops L resL fr (hpF hs k) i) (resF resL i) (hpF hs (if i ∈ act then k + 1 else k))
  | [], _, _, h => by cases h
  | k' :: l, k, ⟨h1, h2⟩, h => by
    rcases List.mem_cons.1 h with rfl | h
    · exact h1
    · exact StageOK.at h2 h
theorem StepsOK.at {hs : List Heap} {fr : Fr} : ∀ {l : List Oper} {i j : Nat} {o : Oper}, StepsOK N ops L act resL hs fr i l → l[j]? = some o → StageOK N ops L act resL hs fr (i + j) o (List.range (act.length + 1))
  | [], _, _, _, _, h => by simp at h
  | o' :: l, i, 0, o, ⟨h1, _⟩, h => by
    simp only [List.getElem?_cons_zero, Option.some.injEq] at h
    exact h ▸ h1
  | o' :: l, i, j + 1, o, ⟨_, h2⟩, h => by
    have := StepsOK.at h2 (by simpa using h)
    rwa [show i + 1 + j = i + (j + 1) by omega] at this
def tgtB (ops : Array Oper) (resL : List Res) : Bool := resL.all fun r => match r with
  | .ep sl _ => !(dstsOf ops).contains sl
  | _ => true
def FinOK (ops : Array Oper) (resL : List Res) (fr : Fr) : Fr → Prop
  | [] => True
  | (x, v) :: r => ((x ∉ dstsOf ops ∧ fget fr x = v) ∨ fget (ancFr ops resL (List.range ops.size)) x = v ∧ v ≠ .unk) ∧ FinOK ops resL fr r
theorem FinOK.at {fr : Fr} : ∀ {frF : Fr} {p : Nat × Slot}, FinOK ops resL fr frF → p ∈ frF → ((∀ j, dstAt ops j ≠ some p.1) ∧ fget fr p.1 = p.2) ∨ ∃ j, dstAt ops j = some p.1 ∧ resF resL j = .sl p.2
  | [], p, _, h => by cases h
  | (x, v) :: r, p, ⟨h1, h2⟩, h => by
    rcases List.mem_cons.1 h with rfl | h
    · rcases h1 with ⟨h3, h4⟩ | ⟨h3, h4⟩
      · exact .inl ⟨fun j hj => h3 (mem_dstsOf hj), h4⟩
      · rcases fget_ancFr (ops := ops) (resL := resL) (x := x) (l := List.range ops.size) with h | ⟨j, k1, _, k3⟩
        · exact (h4 (h3.symm.trans h)).elim
        · exact .inr ⟨j, k1, by rw [resF_some k3, h3]⟩
    · exact FinOK.at h2 h
theorem ev_orderL {id : Nat} {s : St} {hs : List Heap} {frF : Fr} (hm : N.P.follows .mixedOrders = true) (hc : ordB ops L act = true) (ha : act.all (fun a => decide (a < ops.size)) = true) (ht : tgtB ops resL = true) (h0 : s.h = hpF hs 0)
    (hS : StepsOK N ops L act resL hs s.fr 0 ops.toList) (hF : FinOK ops resL s.fr frF) : Ev N (.code (.region id ops true) s .normal ⟨frF, [], hpF hs act.length⟩) := by
  have C := ordB_cert hc
  refine ev_order (res := resF resL) (Hs := hpF hs) hm C ?_ ?_ (fun a h => by simpa using List.all_eq_true.1 ha a h) h0 fun p hp => hF.at hp
  · intro j sl off hr i hi
    unfold resF at hr
    cases hj : resL[j]? with
    | none => simp [hj] at hr
    | some r =>
      simp only [hj, Option.getD_some] at hr
      have := List.all_eq_true.1 ht r (List.mem_of_getElem? hj)
      rw [hr] at this
      simp only [Bool.not_eq_true', List.contains_eq_mem, decide_eq_false_iff_not] at this
      exact this (mem_dstsOf hi)
  · intro i o k ho hk hst
    have h1 := StepsOK.at (j := i) hS (by simpa using ho)
    rw [Nat.zero_add] at h1
    exact ⟨_, view_ok C, rfl, h1.at (List.mem_range.2 (by omega)) hst⟩
end
end Go.Proofs.Ytafncpgiibikcaa.Am

namespace Go.Proofs.Ytafncpgiibikcaa.Am
set_option linter.unusedSimpArgs false
set_option linter.unusedVariables false
open Go.RowKit

section
variable (N : Env) (call : FuncId → List Value → Heap → Option (Value × Heap)) (nm : FuncId → Bool) (ops : Array Oper) (L : List (List Nat)) (act : List Nat) (fr : Fr)
end
section
variable {N : Env} {call : FuncId → List Value → Heap → Option (Value × Heap)} {nm : FuncId → Bool} {ops : Array Oper} {L : List (List Nat)} {act : List Nat} {fr : Fr} {resL : List Res} {hs : List Heap}
theorem FinOK.append {fr : Fr} : ∀ {a b : Fr}, FinOK ops resL fr a → FinOK ops resL fr b → FinOK ops resL fr (a ++ b)
  | [], _, _, h => h
  | (_, _) :: _, _, ⟨h1, h2⟩, h => ⟨h1, FinOK.append h2 h⟩
end
end Go.Proofs.Ytafncpgiibikcaa.Am

namespace Go.Proofs.Ytafncpgiibikcaa.Am
set_option linter.unusedSimpArgs false
set_option linter.unusedVariables false
open Go.RowKit

def vw (ops : Array Oper) (L : List (List Nat)) (resL : List Res) (fr0 : Fr) (h : Heap) (i : Nat) : St := ⟨fr0 ++ ancFr ops resL (ancs L i), ancE ops resL (ancs L i), h⟩
inductive Steps0 (N : Env) (ops : Array Oper) (L : List (List Nat)) (resL : List Res) (fr0 : Fr) (h : Heap) : Nat → List Oper → Prop
  | nil (i : Nat) : Steps0 N ops L resL fr0 h i []
  | cons {i : Nat} {o : Oper} {l : List Oper} {r : Res} : One N ops o (vw ops L resL fr0 h i) r h → resF resL i = r → Steps0 N ops L resL fr0 h (i + 1) l → Steps0 N ops L resL fr0 h i (o :: l)
section
variable {N : Env} {ops : Array Oper} {L : List (List Nat)} {resL : List Res}
theorem Steps0.ok {fr : Fr} {h : Heap} : ∀ {l : List Oper} {i : Nat}, Steps0 N ops L resL (baseFr (dstsOf ops) fr) h i l → StepsOK N ops L [] resL [h] fr i l
  | [], _, _ => trivial
  | o :: l, i, .cons h1 h2 h3 => by
    refine ⟨?_, h3.ok⟩
    subst h2
    exact ⟨fun _ => h1, trivial⟩
theorem cw_order0 {id : Nat} {s : St} {Q : AX → St → Prop} {h : Heap} (L : List (List Nat)) (resL : List Res) (fr0 : Fr) (frF : Fr) (hm : N.P.follows .mixedOrders = true) (hc : ordB ops L [] = true) (ht : tgtB ops resL = true) (h0 : s.h = h) (hb : baseFr (dstsOf ops) s.fr = fr0)
    (hS : Steps0 N ops L resL fr0 h 0 ops.toList) (hF : FinOK ops resL s.fr frF) (k : Q .normal ⟨frF, [], h⟩) : CW N (.region id ops true) s Q := by
  subst hb
  unfold CW
  exact ⟨_, _, ev_orderL (hs := [h]) hm hc rfl ht h0 hS.ok hF, k⟩
theorem one_call {all : Array Oper} {o : Oper} {s : St} {h : Heap} {c : Call} {f : FuncId} {cap args : List Value} {fn : Func} {v : Value} (hh : s.h = h) (hw : wantedA all o s = some true) (ho : o.op = .call c) (hc : calleeA s c.callee = some (f, cap)) (ha : evs s c.args.toList = some args)
    (hf : N.P.funcs[f]? = some fn) (hnm : (fn.name == "runtime.NumGoroutine") = false) (hb : fn.body.isNone = false) (k : FW N f (args ++ cap) h fun r h' => r = v ∧ h' = h) : One N all o s (.sl (.val v)) h := by
  unfold FW at k
  obtain ⟨r, h', k1, rfl, rfl⟩ := k
  exact .call hw ho hc ha hf hnm hb (hh ▸ k1)
def stpZ (N : Env) (all : Array Oper) (o : Oper) (s : St) : Option (Res × Heap) :=
  match wantedA all o s with
  | none => none
  | some false => some (.sl (.val (.tuple #[])), s.h)
  | some true => match o.op, o.dst with
    | .box t x, some _ => (boxC N s (.box t x)).map fun p => (.sl (.box p.2), s.h)
    | .alloc t, some _ => (boxC N s (.alloc t)).map fun p => (.sl (.box p.2), s.h)
    | .buildSlice t l ps, some _ => (bslC N s (.buildSlice t l ps)).map fun p => (.sl (.bsl p.2.1 p.2.2), s.h)
    | op, d => match vop N s op with
      | some v => some (.sl (.val v), s.h)
      | none => match epl N s op, d with
        | some (sl, off), some d => if sl = d then none else some (.ep sl off, s.h)
        | _, _ => none
theorem zz {all : Array Oper} {o : Oper} {s : St} {r : Res} {h : Heap} (hs : stpZ N all o s = some (r, h)) : One N all o s r h := by
  unfold stpZ at hs
  split at hs
  · cases hs
  · rename_i hw
    cases hs
    exact .skip hw
  · rename_i hw
    split at hs
    · rename_i t x d ho hd
      cases hb : boxC N s (.box t x) with
      | none => simp [hb] at hs
      | some p =>
        simp only [hb, Option.map_some, Option.some.injEq, Prod.mk.injEq] at hs
        obtain ⟨rfl, rfl⟩ := hs
        exact .box hw hd (by rw [ho]; exact hb)
    · rename_i t d ho hd
      cases hb : boxC N s (.alloc t) with
      | none => simp [hb] at hs
      | some p =>
        simp only [hb, Option.map_some, Option.some.injEq, Prod.mk.injEq] at hs
        obtain ⟨rfl, rfl⟩ := hs
        exact .box hw hd (by rw [ho]; exact hb)
    · rename_i t l ps d ho hd
      cases hb : bslC N s (.buildSlice t l ps) with
      | none => simp [hb] at hs
      | some p =>
        simp only [hb, Option.map_some, Option.some.injEq, Prod.mk.injEq] at hs
        obtain ⟨rfl, rfl⟩ := hs
        exact .bsl hw hd (by rw [ho]; exact hb)
    · split at hs
      · rename_i v hv
        cases hs
        exact .val hw hv
      · split at hs
        · rename_i sl off d he hd
          split at hs
          · cases hs
          · rename_i hne
            cases hs
            exact .eph hw hd he hne
        · cases hs
end
attribute [push_cast] stpZ vw ancs ancFr ancE dstAt resF Option.getD_some Option.getD_none
end Go.Proofs.Ytafncpgiibikcaa.Am

namespace Go.Proofs.Ytafncpgiibikcaa.Am
set_option linter.unusedSimpArgs false
set_option linter.unusedVariables false
open Go.RowKit

def conB (P : Program) : Nat → List Field → Option Nat
  | o, [] => some o
  | o, f :: r => if f.offset = o then conB P (o + P.cellsOf f.type) r else none
def kindB (P : Program) (ts : List TypeId) (t : TypeId) : Bool :=
  match P.underlying t with
  | some .bool => true
  | some (.int _) => true
  | some .string => true
  | some (.struct fs) => decide (conB P 0 fs.toList = some (P.cellsOf t)) && fs.toList.all fun f => ts.contains f.type
  | some (.array n e) => decide (P.cellsOf t = n * P.cellsOf e) && ts.contains e
  | some (.slice e) => decide (0 < P.cellsOf e) && ts.contains e
  | _ => false
def RdEs (c : Nat) (R : List Value → Prop) : Nat → List Value → Prop
  | 0, vs => vs = []
  | m + 1, vs => ∃ a b, vs = a ++ b ∧ a.length = c ∧ R a ∧ RdEs c R m b
def RdFs (P : Program) (R : TypeId → List Value → Prop) : List Field → List Value → Prop
  | [], vs => vs = []
  | f :: r, vs => ∃ a b, vs = a ++ b ∧ a.length = P.cellsOf f.type ∧ R f.type a ∧ RdFs P R r b
def RdT (P : Program) (h : Heap) : Nat → TypeId → List Value → Prop
  | 0, _, _ => False
  | n + 1, t, vs => match P.underlying t with
    | some .bool => ∃ b, vs = [.bool b]
    | some (.int k) => ∃ i, vs = [.int k i] ∧ (Lit.int k i).wf = true
    | some .string => ∃ s : ByteArray, vs = [.string s] ∧ s.size ≤ reachBytes
    | some (.struct fs) => RdFs P (RdT P h n) fs.toList vs
    | some (.array m e) => RdEs (P.cellsOf e) (RdT P h n e) m vs
    | some (.slice e) => vs = [.slice none 0 0] ∨ vs = [.slice (some ⟨0, 0, none⟩) 0 0] ∨
        ∃ id len c cells, vs = [.slice (some ⟨id, 0, some 0⟩) len c] ∧ len * P.bytesOf e ≤ reachBytes ∧ h[id]? = some (.arr cells 0 false e) ∧ RdEs (P.cellsOf e) (RdT P h n e) len cells
    | _ => False

theorem RdEs.mono {c : Nat} {R R' : List Value → Prop} (k : ∀ vs, R vs → R' vs) : ∀ {m : Nat} {vs : List Value}, RdEs c R m vs → RdEs c R' m vs
  | 0, _, h => h
  | _ + 1, _, ⟨a, b, h1, h2, h3, h4⟩ => ⟨a, b, h1, h2, k _ h3, RdEs.mono k h4⟩
theorem RdFs.mono {P : Program} {R R' : TypeId → List Value → Prop} (k : ∀ t vs, R t vs → R' t vs) : ∀ {l : List Field} {vs : List Value}, RdFs P R l vs → RdFs P R' l vs
  | [], _, h => h
  | _ :: _, _, ⟨a, b, h1, h2, h3, h4⟩ => ⟨a, b, h1, h2, k _ _ h3, RdFs.mono k h4⟩
theorem pre_get {h h' : Heap} (hp : h <+: h') {i : Nat} {x : HObj} (hx : h[i]? = some x) : h'[i]? = some x := by
  obtain ⟨t, rfl⟩ := hp
  rw [List.getElem?_append_left (List.getElem?_eq_some_iff.1 hx).1]
  exact hx
theorem RdT.mono {P : Program} {h h' : Heap} (hp : h <+: h') : ∀ {n : Nat} {t : TypeId} {vs : List Value}, RdT P h n t vs → RdT P h' n t vs
  | 0, _, _, k => k
  | n + 1, t, vs, k => by
    unfold RdT at k ⊢
    split at k
    · exact k
    · exact k
    · exact k
    · exact k.mono fun t vs h => RdT.mono hp h
    · exact k.mono fun vs h => RdT.mono hp h
    · rcases k with k | k | ⟨id, len, c, cells, k1, k2, k3, k4⟩
      · exact .inl k
      · exact .inr (.inl k)
      · exact .inr (.inr ⟨id, len, c, cells, k1, k2, pre_get hp k3, k4.mono fun vs h => RdT.mono hp h⟩)
    · exact k

section
variable {P : Program} {W : World} {μ μ' : Mu} {h h' : Heap}
def noOwn (h : Heap) : Prop := ∀ (id : Nat) (o : HObj), h[id]? = some o → o.own = false
theorem VRL.mono' (hx : Ext μ μ') : ∀ {a a' : List Value}, VRL P μ a a' → VRL P μ' a a'
  | [], [], _ => trivial
  | _ :: _, _ :: _, ⟨h1, h2⟩ => ⟨h1.mono hx, VRL.mono' hx h2⟩
  | [], _ :: _, k => k.elim
  | _ :: _, [], k => k.elim
theorem HeapR.addRO (H : HeapR P μ h W) (hn : noOwn h) {cells : List Value} {m : M} (hc : ∀ (j : Nat) (v : Value), cells[j]? = some v → ∃ v', W.cell? ⟨m.block, m.base + j, none⟩ = some v' ∧ VR P μ v v') (h1 : cells.all one = true) (hb : m.block < W.heap.size) :
    HeapR P (μ ++ [[m]]) (h ++ [.arr cells 0 false m.et]) W ∧ noOwn (h ++ [.arr cells 0 false m.et]) ∧ Ext μ (μ ++ [[m]]) ∧ mAt (μ ++ [[m]]) h.length 0 = some m := by
  have hx : Ext μ (μ ++ [[m]]) := fun id l hl => ⟨[], by rw [List.getElem?_append_left (List.getElem?_eq_some_iff.1 hl).1, List.append_nil]; exact hl⟩
  have hnew : noOwn (h ++ [.arr cells 0 false m.et]) := by
    intro id o ho
    rcases push_cases ho with ⟨_, ho'⟩ | ⟨rfl, rfl⟩
    · exact hn _ _ ho'
    · rfl
  refine ⟨⟨by simp [H.len], ?_, ?_⟩, hnew, hx, ?_⟩
  · intro id o ho
    rcases push_cases ho with ⟨hi, ho'⟩ | ⟨rfl, rfl⟩
    · obtain ⟨q, hq⟩ := H.ob _ _ ho'
      exact ⟨q, hq.mono hx (List.getElem?_append_left (by rw [H.len]; exact hi)) (Nat.le_refl _) rfl⟩
    · refine ⟨m, ⟨[m], by rw [← H.len]; simp, rfl, rfl⟩, rfl, fun j v hj => ?_, h1, hb, fun e => by cases e⟩
      obtain ⟨v', k1, k2⟩ := hc j v hj
      exact ⟨v', k1, k2.mono hx⟩
  · intro id1 id2 o1 o2 m1 m2 _ g1 _ ho
    have := hnew _ _ g1
    rw [ho] at this
    cases this
  · unfold mAt
    rw [← H.len]
    simp
def Tells (P : Program) (W : World) (R : Heap → List Value → Prop) (cs : List Value) : Prop :=
  ∀ μ h, HeapR P μ h W → noOwn h → ∃ μ' h' vs, h <+: h' ∧ Ext μ μ' ∧ HeapR P μ' h' W ∧ noOwn h' ∧ VRL P μ' vs cs ∧ vs.all one = true ∧ R h' vs
def Grows (R : Heap → List Value → Prop) : Prop := ∀ (h h' : Heap) (vs : List Value), h <+: h' → R h vs → R h' vs
theorem Tells.nil {R : Heap → List Value → Prop} (hR : ∀ h, R h []) : Tells P W R [] := fun μ h H hn => ⟨μ, h, [], List.prefix_refl _, Ext.refl _, H, hn, trivial, rfl, hR h⟩
theorem Tells.pure {R : Heap → List Value → Prop} {v v' : Value} (hv : ∀ μ, VR P μ v v') (h1 : one v = true) (hR : ∀ h, R h [v]) : Tells P W R [v'] :=
  fun μ h H hn => ⟨μ, h, [v], List.prefix_refl _, Ext.refl _, H, hn, ⟨hv μ, trivial⟩, by simp [h1], hR h⟩
theorem Tells.append {R1 R2 R : Heap → List Value → Prop} (g1 : Grows R1) {c1 c2 : List Value} (k1 : Tells P W R1 c1) (k2 : Tells P W R2 c2) (hR : ∀ h a b, a.length = c1.length → R1 h a → R2 h b → R h (a ++ b)) : Tells P W R (c1 ++ c2) := by
  intro μ h H hn
  obtain ⟨μ1, h1, a, p1, x1, H1, n1, v1, o1, r1⟩ := k1 μ h H hn
  obtain ⟨μ2, h2, b, p2, x2, H2, n2, v2, o2, r2⟩ := k2 μ1 h1 H1 n1
  refine ⟨μ2, h2, a ++ b, p1.trans p2, x1.trans x2, H2, n2, (v1.mono' x2).append v2, by rw [List.all_append, o1, o2]; rfl, hR h2 a b v1.length (g1 _ _ _ p2 r1) r2⟩
theorem Tells.es {R : Heap → List Value → Prop} (g : Grows R) {c : Nat} : ∀ {l : List (List Value)}, (∀ cs ∈ l, cs.length = c ∧ Tells P W R cs) → Tells P W (fun h vs => RdEs c (R h) l.length vs) l.flatten
  | [], _ => Tells.nil fun _ => rfl
  | cs :: l, k => by
    rw [List.flatten_cons]
    have hk := k cs List.mem_cons_self
    exact Tells.append (R1 := R) (R2 := fun h vs => RdEs c (R h) l.length vs) g hk.2 (Tells.es g fun cs h => k cs (List.mem_cons_of_mem _ h)) fun h a b ha h1 h2 => ⟨a, b, rfl, ha.trans hk.1, h1, h2⟩
theorem con_le {P : Program} : ∀ {l : List Field} {o n : Nat}, conB P o l = some n → o ≤ n
  | [], o, n, h => by
    simp only [conB, Option.some.injEq] at h
    omega
  | f :: l, o, n, h => by
    simp only [conB] at h
    split at h
    · have := con_le h
      omega
    · cases h
theorem Tells.fs {R : Heap → TypeId → List Value → Prop} (g : ∀ t, Grows fun h vs => R h t vs) {cs : List Value} : ∀ {l : List Field} {o : Nat}, conB P o l = some cs.length →
    (∀ f ∈ l, Tells P W (fun h vs => R h f.type vs) ((cs.drop f.offset).take (P.cellsOf f.type))) → Tells P W (fun h vs => RdFs P (R h) l vs) (cs.drop o)
  | [], o, hc, _ => by
    simp only [conB, Option.some.injEq] at hc
    rw [List.drop_of_length_le (by omega)]
    exact Tells.nil fun _ => rfl
  | f :: l, o, hc, k => by
    simp only [conB] at hc
    split at hc
    · rename_i ho
      have h1 := k f List.mem_cons_self
      rw [ho] at h1
      have h2 := Tells.fs g hc fun f' hf => k f' (List.mem_cons_of_mem _ hf)
      have hle : o + P.cellsOf f.type ≤ cs.length := con_le hc
      have e : cs.drop o = (cs.drop o).take (P.cellsOf f.type) ++ cs.drop (o + P.cellsOf f.type) := by
        rw [← List.drop_drop, List.take_append_drop]
      rw [e]
      refine Tells.append (R1 := fun h vs => R h f.type vs) (R2 := fun h vs => RdFs P (R h) l vs) (g f.type) h1 h2 fun h a b ha k1 k2 => ⟨a, b, rfl, ?_, k1, k2⟩
      rw [ha, List.length_take, List.length_drop]
      omega
    · cases hc
theorem weights_each {H : Type} : ∀ {ts : List TypeId} {ds : List (DataW H)}, (DataW.weightsEach P ts ds).all (fun b => decide (b ≤ reachBytes)) = true → ∀ (i : Nat) (t : TypeId) (d : DataW H), ts[i]? = some t → ds[i]? = some d → (d.weights P t).all (fun b => decide (b ≤ reachBytes)) = true
  | [], _, _, i, t, d, h, _ => by simp at h
  | _ :: _, [], _, i, t, d, _, h => by simp at h
  | t :: ts, d :: ds, k, i, t', d', h1, h2 => by
    unfold DataW.weightsEach at k
    rw [List.all_append, Bool.and_eq_true] at k
    cases i with
    | zero =>
      simp only [List.getElem?_cons_zero, Option.some.injEq] at h1 h2
      subst h1
      subst h2
      exact k.1
    | succ i => exact weights_each k.2 i t' d' (by simpa using h1) (by simpa using h2)
theorem weights_all {H : Type} {e : TypeId} : ∀ {ds : List (DataW H)}, (DataW.weightsAll P e ds).all (fun b => decide (b ≤ reachBytes)) = true → ∀ d ∈ ds, (d.weights P e).all (fun b => decide (b ≤ reachBytes)) = true
  | [], _, d, h => by cases h
  | d :: ds, k, d', h => by
    unfold DataW.weightsAll at k
    rw [List.all_append, Bool.and_eq_true] at k
    rcases List.mem_cons.1 h with rfl | h
    · exact k.1
    · exact weights_all k.2 d' h
theorem chunks_flatten {c : Nat} : ∀ {m : Nat} {cs : List Value}, cs.length = m * c → ((List.range m).map fun i => (cs.drop (i * c)).take c).flatten = cs
  | 0, cs, h => by
    rw [Nat.zero_mul] at h
    simp [List.eq_nil_of_length_eq_zero h]
  | m + 1, cs, h => by
    rw [Nat.succ_mul] at h
    have ih := chunks_flatten (c := c) (m := m) (cs := cs.drop c) (by rw [List.length_drop]; omega)
    rw [List.range_succ_eq_map, List.map_cons, List.map_map, List.flatten_cons, Nat.zero_mul, List.drop_zero]
    have e : ((fun i => (cs.drop (i * c)).take c) ∘ Nat.succ) = fun i => ((cs.drop c).drop (i * c)).take c := by
      funext i
      simp only [Function.comp, List.drop_drop, Nat.succ_mul]
      rw [Nat.add_comm]
    rw [e, ih, List.take_append_drop]
theorem flatten_cells {b c : Nat} : ∀ {l : List (List Value)} {o : Nat}, (∀ (i : Nat) (cs : List Value), l[i]? = some cs → cs.length = c ∧ ∀ r, r < c → W.cell? ⟨b, o + i * c + r, none⟩ = cs[r]?) →
    ∀ (j : Nat) (v : Value), l.flatten[j]? = some v → W.cell? ⟨b, o + j, none⟩ = some v
  | [], o, _, j, v, h => by simp at h
  | cs :: l, o, k, j, v, h => by
    obtain ⟨h1, h2⟩ := k 0 cs rfl
    rw [List.flatten_cons] at h
    rcases Nat.lt_or_ge j cs.length with hj | hj
    · rw [List.getElem?_append_left hj] at h
      have := h2 j (by omega)
      rw [Nat.zero_mul, Nat.add_zero] at this
      rw [this, h]
    · rw [List.getElem?_append_right hj] at h
      have ih := flatten_cells (b := b) (c := c) (l := l) (o := o + c) (fun i cs' hi => by
        obtain ⟨q1, q2⟩ := k (i + 1) cs' (by simpa using hi)
        refine ⟨q1, fun r hr => ?_⟩
        rw [← q2 r hr, Nat.succ_mul]
        congr 2
        omega) (j - cs.length) v h
      rw [← ih]
      congr 2
      omega
theorem grows_T {n : Nat} {t : TypeId} : Grows fun h vs => RdT P h n t vs := fun _ _ _ hp k => k.mono hp
theorem tells_trod {H : Type} {enc : TypeId × Value → H} {held : Bool} {ts : List TypeId} (hcl : ts.all (kindB P ts) = true) : ∀ (n : Nat) (t : TypeId) (cs : List Value) (x : DataW H × List MemPlace), t ∈ ts →
    DataW.trod enc P W 0 (fun _ => true) held n t cs = some x → (x.1.weights P t).all (fun b => decide (b ≤ reachBytes)) = true → Tells P W (fun h vs => RdT P h n t vs) cs
  | 0, t, cs, x, _, h, _ => by simp [DataW.trod] at h
  | n + 1, t, cs, x, ht, h, hw => by
    have hk := List.all_eq_true.1 hcl t ht
    unfold kindB at hk
    split at hk
    · rename_i hu
      obtain ⟨b, rfl, _⟩ := DataW.trod_bool hu h
      exact Tells.pure (v := .bool b) (fun _ => .pure rfl) rfl fun h => by unfold RdT; rw [hu]; exact ⟨b, rfl⟩
    · rename_i k hu
      obtain ⟨i, rfl, _, hwf⟩ := DataW.trod_int hu h
      exact Tells.pure (v := .int k i) (fun _ => .pure rfl) rfl fun h => by unfold RdT; rw [hu]; exact ⟨i, rfl, hwf⟩
    · rename_i hu
      obtain ⟨s, rfl, rfl, _⟩ := DataW.trod_string hu h
      refine Tells.pure (v := .string s) (fun _ => .pure rfl) rfl fun h => ?_
      unfold RdT
      rw [hu]
      refine ⟨s, rfl, ?_⟩
      unfold DataW.weights at hw
      simpa using hw
    · rename_i fs hu
      rw [Bool.and_eq_true, decide_eq_true_eq, List.all_eq_true] at hk
      obtain ⟨xs, n', hn', rfl, hlen, hxl, hf⟩ := DataW.trod_struct hu h
      obtain rfl : n' = n := by omega
      unfold DataW.weights at hw
      rw [hu] at hw
      simp only at hw
      have key := Tells.fs (P := P) (W := W) (R := fun h t vs => RdT P h n' t vs) (fun t => grows_T) (cs := cs) (l := fs.toList) (o := 0) (by rw [hlen]; exact hk.1) (fun f hfm => by
        obtain ⟨i, hi, rfl⟩ := List.mem_iff_getElem.1 hfm
        have hfi : fs[i]? = some fs.toList[i] := by simp
        have h1 := hf i _ hfi
        have hix : i < xs.length := by rw [hxl]; simpa using hi
        rw [List.getElem?_eq_getElem hix] at h1
        refine tells_trod hcl n' _ _ _ (by simpa using hk.2 _ (List.getElem_mem hi)) h1 ?_
        exact weights_each hw i _ _ (by rw [List.getElem?_map, List.getElem?_eq_getElem hi]; rfl) (by simp [hix]))
      rw [List.drop_zero] at key
      intro μ h H hn
      obtain ⟨μ', h', vs, a1, a2, a3, a4, a5, a6, a7⟩ := key μ h H hn
      exact ⟨μ', h', vs, a1, a2, a3, a4, a5, a6, by unfold RdT; rw [hu]; exact a7⟩
    · rename_i m e hu
      rw [Bool.and_eq_true, decide_eq_true_eq] at hk
      obtain ⟨xs, n', hn', rfl, hlen, hxl, hf⟩ := DataW.trod_array hu h
      obtain rfl : n' = n := by omega
      unfold DataW.weights at hw
      rw [hu] at hw
      simp only at hw
      have hcs : cs.length = m * P.cellsOf e := hlen.trans hk.1
      have key := Tells.es (P := P) (W := W) (R := fun h vs => RdT P h n' e vs) grows_T (c := P.cellsOf e) (l := (List.range m).map fun i => (cs.drop (i * P.cellsOf e)).take (P.cellsOf e)) (fun cs' hm => by
        rw [List.mem_map] at hm
        obtain ⟨i, hi, rfl⟩ := hm
        rw [List.mem_range] at hi
        have h1 := hf i hi
        have hix : i < xs.length := by rw [hxl]; exact hi
        rw [List.getElem?_eq_getElem hix] at h1
        refine ⟨?_, tells_trod hcl n' _ _ _ (by simpa using hk.2) h1 (weights_all hw _ (List.mem_map.2 ⟨_, List.getElem_mem hix, rfl⟩))⟩
        rw [List.length_take, List.length_drop, hcs]
        have : (i + 1) * P.cellsOf e ≤ m * P.cellsOf e := Nat.mul_le_mul_right _ hi
        rw [Nat.succ_mul] at this
        omega)
      rw [chunks_flatten hcs, List.length_map, List.length_range] at key
      intro μ h H hn
      obtain ⟨μ', h', vs, a1, a2, a3, a4, a5, a6, a7⟩ := key μ h H hn
      exact ⟨μ', h', vs, a1, a2, a3, a4, a5, a6, by unfold RdT; rw [hu]; exact a7⟩
    · rename_i e hu
      rw [Bool.and_eq_true, decide_eq_true_eq] at hk
      rcases DataW.trod_slice hu h with ⟨rfl, _⟩ | ⟨a, len, cap, elems, rest, n', hn', rfl, rfl, _, hlc, hcm, hel, hf, hsp, _⟩
      · exact Tells.pure (v := .slice none 0 0) (fun _ => .pure rfl) rfl fun h => by unfold RdT; rw [hu]; exact .inl rfl
      obtain rfl : n' = n := by omega
      obtain ⟨hrl, hr⟩ := hsp rfl
      unfold DataW.weights at hw
      rw [hu] at hw
      simp only [List.all_cons, List.all_append, Bool.and_eq_true, decide_eq_true_eq, List.length_map] at hw
      obtain ⟨hw1, hw2, _⟩ := hw
      by_cases hcap : cap = 0
      · subst hcap
        obtain rfl : len = 0 := by omega
        exact Tells.pure (v := .slice (some ⟨0, 0, none⟩) 0 0) (fun _ => .sliceE) rfl fun h => by unfold RdT; rw [hu]; exact .inr (.inl rfl)
      have hcell : ∃ cs', W.cells? 0 (a.add 0) (P.cellsOf e) = some cs' := by
        by_cases hl0 : 0 < len
        · have := hf 0 hl0
          rw [List.getElem?_eq_getElem (by omega), Nat.zero_mul, Option.bind_eq_some_iff] at this
          obtain ⟨cs', h1, _⟩ := this
          exact ⟨cs', h1⟩
        · have := hr 0 (by omega)
          obtain rfl : len = 0 := by omega
          rw [List.getElem?_eq_getElem (by omega), Nat.zero_add, Nat.zero_mul, Option.bind_eq_some_iff] at this
          obtain ⟨cs', h1, _⟩ := this
          exact ⟨cs', h1⟩
      obtain ⟨hspot, hblk⟩ : a.spot = none ∧ a.block < W.heap.size := by
        obtain ⟨cs', h1⟩ := hcell
        obtain ⟨_, h2, h3⟩ := World.cells?_some h1
        have h4 := h3 0 hk.1
        rw [List.getElem?_eq_getElem (by omega)] at h4
        obtain ⟨ab, ao, asp⟩ := a
        cases asp with
        | none =>
          refine ⟨rfl, ?_⟩
          rcases Nat.lt_or_ge ab W.heap.size with h5 | h5
          · exact h5
          · simp [World.cell?, Addr.add, Array.getElem?_eq_none h5] at h4
        | some sp =>
          exfalso
          unfold World.cell? at h4
          split at h4
          · simp [Addr.add] at h4
          · cases h4
      obtain ⟨ab, ao, asp⟩ := a
      simp only at hspot hblk
      subst hspot
      have hget : ∀ i, i < len → ∃ cs', W.cells? 0 ⟨ab, ao + i * P.cellsOf e, none⟩ (P.cellsOf e) = some cs' ∧ ∃ y ∈ elems, DataW.trod enc P W 0 (fun _ => true) held n' e cs' = some y := fun i hi => by
        have := hf i hi
        rw [List.getElem?_eq_getElem (by omega), Option.bind_eq_some_iff] at this
        obtain ⟨cs', h1, h2⟩ := this
        rw [Addr.add_lit] at h1
        exact ⟨cs', h1, _, List.getElem_mem _, h2⟩
      have key := Tells.es (P := P) (W := W) (R := fun h vs => RdT P h n' e vs) grows_T (c := P.cellsOf e) (l := (List.range len).map fun i => (W.cells? 0 ⟨ab, ao + i * P.cellsOf e, none⟩ (P.cellsOf e)).getD []) (fun cs' hm => by
        rw [List.mem_map] at hm
        obtain ⟨i, hi, rfl⟩ := hm
        rw [List.mem_range] at hi
        obtain ⟨cs', h1, y, hy, h2⟩ := hget i hi
        rw [h1]
        exact ⟨(World.cells?_some h1).2.1, tells_trod hcl n' _ _ _ (by simpa using hk.2) h2 (weights_all hw2 _ (List.mem_map.2 ⟨_, hy, rfl⟩))⟩)
      rw [List.length_map, List.length_range] at key
      intro μ h H hn
      obtain ⟨μ', h', vs, a1, a2, a3, a4, a5, a6, a7⟩ := key μ h H hn
      have hfl := flatten_cells (W := W) (b := ab) (c := P.cellsOf e) (l := (List.range len).map fun i => (W.cells? 0 ⟨ab, ao + i * P.cellsOf e, none⟩ (P.cellsOf e)).getD []) (o := ao) (fun i cs' hi => by
        rw [List.getElem?_map] at hi
        have hil : i < len := by
          rcases Nat.lt_or_ge i len with h5 | h5
          · exact h5
          · simp [List.getElem?_eq_none (l := List.range len) (by simpa using h5)] at hi
        rw [List.getElem?_eq_getElem (by simpa using hil), Option.map_some, List.getElem_range, Option.some.injEq] at hi
        subst hi
        obtain ⟨cs', h1, _⟩ := hget i hil
        rw [h1]
        obtain ⟨_, q1, q2⟩ := World.cells?_some h1
        refine ⟨q1, fun r hr => ?_⟩
        have := q2 r hr
        rwa [Addr.add_lit] at this)
      obtain ⟨b1, b2, b3, b4⟩ := a3.addRO a4 (cells := vs) (m := ⟨ab, ao, cap * P.cellsOf e, e⟩) (fun j v hj => by
        obtain ⟨v', k1, k2⟩ := a5.get hj
        exact ⟨v', hfl j v' k1, k2⟩) a6 hblk
      refine ⟨_, _, [.slice (some ⟨h'.length, 0, some 0⟩) len len], a1.trans ⟨_, rfl⟩, a2.trans b3, b1, b2, ⟨?_, trivial⟩, rfl, ?_⟩
      · have hv := VR.slice (P := P) (c := len) (len := len) (cap := cap) (off := 0) b4 hlc hcm (by simp)
        simpa using hv
      · unfold RdT
        rw [hu]
        refine .inr (.inr ⟨h'.length, len, len, vs, rfl, ?_, by simp, a7.mono fun vs k => k.mono ⟨_, rfl⟩⟩)
        have : len * P.bytesOf e ≤ (elems.length + rest.length) * P.bytesOf e := Nat.mul_le_mul_right _ (by omega)
        omega
    · cases hk
end
end Go.Proofs.Ytafncpgiibikcaa.Am

namespace Go.Proofs.Ytafncpgiibikcaa.Am
set_option linter.unusedSimpArgs false
set_option linter.unusedVariables false
open Go.RowKit

def AllP (P : Nat → Prop) : List Nat → Prop
  | [] => True
  | a :: l => P a ∧ AllP P l
theorem AllP.mem {P : Nat → Prop} : ∀ {l : List Nat}, AllP P l → ∀ k ∈ l, P k
  | [], _, k, h => by cases h
  | a :: l, ⟨h1, h2⟩, k, h => by
    rcases List.mem_cons.1 h with rfl | h
    · exact h1
    · exact AllP.mem h2 k h
def stg (L : List (List Nat)) (act : List Nat) (i : Nat) : List Nat := (List.range (act.length + 1)).filter (stageB L act i)
def nxtA (act : List Nat) (i k : Nat) : Nat := if act.contains i then k + 1 else k
inductive StepsA (N : Env) (ops : Array Oper) (L : List (List Nat)) (act : List Nat) (resL : List Res) (hs : List Heap) (fr0 : Fr) : Nat → List Oper → Prop
  | nil (i : Nat) : StepsA N ops L act resL hs fr0 i []
  | cons {i : Nat} {o : Oper} {l : List Oper} {r : Res} (ks : List Nat) : stg L act i = ks → AllP (fun k => One N ops o (vw ops L resL fr0 (hpF hs k) i) r (hpF hs (nxtA act i k))) ks → resF resL i = r → StepsA N ops L act resL hs fr0 (i + 1) l → StepsA N ops L act resL hs fr0 i (o :: l)
section
variable {N : Env} {ops : Array Oper} {L : List (List Nat)} {act : List Nat} {resL : List Res} {hs : List Heap}
theorem StageOK.of {fr : Fr} {i : Nat} {o : Oper} : ∀ {l : List Nat}, (∀ k ∈ l, stageB L act i k = true → One N ops o (viewOf ops L resL fr (hpF hs k) i) (resF resL i) (hpF hs (if i ∈ act then k + 1 else k))) → StageOK N ops L act resL hs fr i o l
  | [], _ => trivial
  | k :: l, h => ⟨h k List.mem_cons_self, StageOK.of fun k' hk => h k' (List.mem_cons_of_mem _ hk)⟩
theorem StepsA.ok {fr : Fr} : ∀ {l : List Oper} {i : Nat}, StepsA N ops L act resL hs (baseFr (dstsOf ops) fr) i l → StepsOK N ops L act resL hs fr i l
  | [], _, _ => trivial
  | o :: l, i, .cons ks h0 h1 h2 h3 => by
    refine ⟨StageOK.of fun k hk hb => ?_, h3.ok⟩
    have := h1.mem k (by rw [← h0]; exact List.mem_filter.2 ⟨hk, hb⟩)
    subst h2
    unfold nxtA at this
    simp only [List.contains_iff_mem] at this
    exact this
theorem cw_orderA {id : Nat} {s : St} {Q : AX → St → Prop} (L : List (List Nat)) (act : List Nat) (hs : List Heap) (resL : List Res) (fr0 : Fr) (frF : Fr) (hE : Heap) (hm : N.P.follows .mixedOrders = true) (hc : ordB ops L act = true) (ha : act.all (fun a => decide (a < ops.size)) = true) (ht : tgtB ops resL = true)
    (h0 : s.h = hpF hs 0) (hl : hpF hs act.length = hE) (hb : baseFr (dstsOf ops) s.fr = fr0) (hS : StepsA N ops L act resL hs fr0 0 ops.toList) (hF : FinOK ops resL s.fr frF) (k : Q .normal ⟨frF, [], hE⟩) : CW N (.region id ops true) s Q := by
  subst hb
  subst hl
  unfold CW
  exact ⟨_, _, ev_orderL (hs := hs) hm hc ha ht h0 hS.ok hF, k⟩
end
attribute [push_cast] hpF nxtA
end Go.Proofs.Ytafncpgiibikcaa.Am

namespace Go.Proofs.Ytafncpgiibikcaa
set_option linter.unusedSimpArgs false
set_option linter.unusedVariables false
open Go.RowKit Go.MapKept Am Ty

theorem kund_int : Try.prog.underlying 3 = some (.int .i64) := by kernel_rfl
theorem kpart_int {xs : Array Value} {off : Nat} {v : Value} {w : World} (h : xs[off]? = some v) : (part 3 xs off).run Try.prog w = .ok v w := run_part_plain w (by kernel_rfl) h
noncomputable def kfld (t i : Nat) : Option Field := (Try.prog.fieldsOf t)[i]?
theorem item_run (d : Nat) (a b c a' b' c' : Int) (w : World) : (Op.equalIn (d + 2) 57 (.agg #[.int .i64 a, .int .i64 b, .int .i64 c]) (.agg #[.int .i64 a', .int .i64 b', .int .i64 c'])).run Try.prog w =
    .ok (decide (a = a') && (decide (b = b') && decide (c = c'))) w := by
  obtain ⟨f0, h0⟩ : ∃ f, kfld 57 0 = some f := Option.isSome_iff_exists.1 (by kernel_rfl)
  obtain ⟨f1, h1⟩ : ∃ f, kfld 57 1 = some f := Option.isSome_iff_exists.1 (by kernel_rfl)
  obtain ⟨f2, h2⟩ : ∃ f, kfld 57 2 = some f := Option.isSome_iff_exists.1 (by kernel_rfl)
  have hsz : (Try.prog.fieldsOf 57).size = 3 := by kernel_rfl
  have hl : (Try.prog.fieldsOf 57).toList = [f0, f1, f2] := by
    apply List.ext_getElem?
    intro i
    match i with
    | 0 => simpa [kfld] using h0
    | 1 => simpa [kfld] using h1
    | 2 => simpa [kfld] using h2
    | i + 3 => simp [hsz]
  have t0 : (kfld 57 0).map (fun f => (f.type, f.offset, f.name == "_")) = some (3, 0, false) := by kernel_rfl
  have t1 : (kfld 57 1).map (fun f => (f.type, f.offset, f.name == "_")) = some (3, 1, false) := by kernel_rfl
  have t2 : (kfld 57 2).map (fun f => (f.type, f.offset, f.name == "_")) = some (3, 2, false) := by kernel_rfl
  rw [h0] at t0
  rw [h1] at t1
  rw [h2] at t2
  simp only [Option.map_some, Option.some.injEq, Prod.mk.injEq, beq_eq_false_iff_ne, ne_eq] at t0 t1 t2
  obtain ⟨a1, a2, a3⟩ := t0
  obtain ⟨b1, b2, b3⟩ := t1
  obtain ⟨c1, c2, c3⟩ := t2
  rw [run_equalIn_struct w (d + 1) _ _ _ (by kernel_rfl) (by kernel_rfl), hl]
  simp only [Op.eqFields, a1, a2, a3, b1, b2, b3, c1, c2, c3, ne_eq, not_false_eq_true, if_true, Sem.run_bind]
  rw [kpart_int (v := .int .i64 a) rfl]
  simp only [Result.andThen_ok]
  rw [kpart_int (v := .int .i64 a') rfl]
  simp only [Result.andThen_ok, run_equalIn_int w d _ _ _ _ _ kund_int]
  by_cases he : a = a'
  · simp only [he, beq_self_eq_true, Bool.not_true, Bool.false_eq_true, if_false, decide_true, Bool.true_and, Sem.run_bind]
    rw [kpart_int (v := .int .i64 b) rfl]
    simp only [Result.andThen_ok]
    rw [kpart_int (v := .int .i64 b') rfl]
    simp only [Result.andThen_ok, run_equalIn_int w d _ _ _ _ _ kund_int]
    by_cases he2 : b = b'
    · simp only [he2, beq_self_eq_true, Bool.not_true, Bool.false_eq_true, if_false, decide_true, Bool.true_and, Sem.run_bind]
      rw [kpart_int (v := .int .i64 c) rfl]
      simp only [Result.andThen_ok]
      rw [kpart_int (v := .int .i64 c') rfl]
      simp only [Result.andThen_ok, run_equalIn_int w d _ _ _ _ _ kund_int]
      by_cases he3 : c = c'
      · simp [he3]
      · simp [he3]
    · simp [he2]
  · simp [he]
theorem run_run (d : Nat) (a b a' b' : Int) (w : World) : (Op.equalIn (d + 2) 50 (.agg #[.int .i64 a, .int .i64 b]) (.agg #[.int .i64 a', .int .i64 b'])).run Try.prog w =
    .ok (decide (a = a') && decide (b = b')) w := by
  obtain ⟨f0, h0⟩ : ∃ f, kfld 50 0 = some f := Option.isSome_iff_exists.1 (by kernel_rfl)
  obtain ⟨f1, h1⟩ : ∃ f, kfld 50 1 = some f := Option.isSome_iff_exists.1 (by kernel_rfl)
  have hsz : (Try.prog.fieldsOf 50).size = 2 := by kernel_rfl
  have hl : (Try.prog.fieldsOf 50).toList = [f0, f1] := by
    apply List.ext_getElem?
    intro i
    match i with
    | 0 => simpa [kfld] using h0
    | 1 => simpa [kfld] using h1
    | i + 2 => simp [hsz]
  have t0 : (kfld 50 0).map (fun f => (f.type, f.offset, f.name == "_")) = some (3, 0, false) := by kernel_rfl
  have t1 : (kfld 50 1).map (fun f => (f.type, f.offset, f.name == "_")) = some (3, 1, false) := by kernel_rfl
  rw [h0] at t0
  rw [h1] at t1
  simp only [Option.map_some, Option.some.injEq, Prod.mk.injEq, beq_eq_false_iff_ne, ne_eq] at t0 t1
  obtain ⟨a1, a2, a3⟩ := t0
  obtain ⟨b1, b2, b3⟩ := t1
  rw [run_equalIn_struct w (d + 1) _ _ _ (by kernel_rfl) (by kernel_rfl), hl]
  simp only [Op.eqFields, a1, a2, a3, b1, b2, b3, ne_eq, not_false_eq_true, if_true, Sem.run_bind]
  rw [kpart_int (v := .int .i64 a) rfl]
  simp only [Result.andThen_ok]
  rw [kpart_int (v := .int .i64 a') rfl]
  simp only [Result.andThen_ok, run_equalIn_int w d _ _ _ _ _ kund_int]
  by_cases he : a = a'
  · simp only [he, beq_self_eq_true, Bool.not_true, Bool.false_eq_true, if_false, decide_true, Bool.true_and, Sem.run_bind]
    rw [kpart_int (v := .int .i64 b) rfl]
    simp only [Result.andThen_ok]
    rw [kpart_int (v := .int .i64 b') rfl]
    simp only [Result.andThen_ok, run_equalIn_int w d _ _ _ _ _ kund_int]
    by_cases he2 : b = b'
    · simp [he2]
    · simp [he2]
  · simp [he]

def kdInt : Value → Bool
  | .int .i64 _ => true
  | _ => false
def kdItem : Value → Bool
  | .agg xs => match xs.toList with
    | [.int .i64 _, .int .i64 _, .int .i64 _] => true
    | _ => false
  | _ => false
theorem kdInt_ex {v : Value} (h : kdInt v = true) : ∃ n, v = .int .i64 n := by
  unfold kdInt at h
  split at h
  · exact ⟨_, rfl⟩
  · cases h
theorem kdItem_ex {v : Value} (h : kdItem v = true) : ∃ a b c, v = .agg #[.int .i64 a, .int .i64 b, .int .i64 c] := by
  unfold kdItem at h
  split at h
  · rename_i xs
    split at h
    · rename_i a b c he
      refine ⟨a, b, c, ?_⟩
      congr 1
      exact Array.toList_inj.1 he
    · cases h
  · cases h
theorem int_key : KeyOK Try.prog 3 kdInt where
  pure := fun v h => by obtain ⟨n, rfl⟩ := kdInt_ex h; rfl
  eq := fun a b ha hb h => by
    obtain ⟨n, rfl⟩ := kdInt_ex ha
    obtain ⟨m, rfl⟩ := kdInt_ex hb
    simp only [eqK, eq1, decide_eq_true_eq] at h
    rw [h]
  refl := fun a ha => by obtain ⟨n, rfl⟩ := kdInt_ex ha; simp [eqK, eq1]
  check := fun em v w h => by
    obtain ⟨n, rfl⟩ := kdInt_ex h
    exact run_checkKey (d := .int .i64) kund_int (by simp [IsKey]) em 9999
  find := fun v es w h hes => by
    obtain ⟨n, rfl⟩ := kdInt_ex h
    refine run_findKey (d := .int .i64) kund_int ?_
    have key : ∀ (l : List MapEntry) (i : Nat), (∀ e ∈ l, kdInt e.key = true) → Instr.findNow (.int .i64) (.int .i64 n) l i = some (findE (.int .i64 n) l i) := by
      intro l
      induction l with
      | nil => intro i _; rfl
      | cons e l ih =>
        intro i hl
        obtain ⟨m, hm⟩ := kdInt_ex (hl e List.mem_cons_self)
        have ih' := ih (i + 1) fun x hx => hl x (List.mem_cons_of_mem _ hx)
        simp only [Instr.findNow, findE, hm, Instr.sameNow, eqK, eq1, if_true]
        by_cases hnm : n = m
        · simp [hnm]
        · have hb : (n == m) = false := by simpa using hnm
          rw [hb, decide_eq_false hnm]
          exact ih'
    exact key es 0 hes
  stays := fun v w h => by
    obtain ⟨n, rfl⟩ := kdInt_ex h
    exact run_keyThatStays (d := .int .i64) (by simp [IsKey])
theorem und_item : Try.prog.underlying 57 = some (.struct (Try.prog.fieldsOf 57)) := by kernel_rfl
theorem item_check (em : Bool) (a b c : Int) (w : World) : (Instr.checkKey em 10000 57 (.agg #[.int .i64 a, .int .i64 b, .int .i64 c])).run Try.prog w = .ok () w := by
  obtain ⟨f0, h0⟩ : ∃ f, kfld 57 0 = some f := Option.isSome_iff_exists.1 (by kernel_rfl)
  obtain ⟨f1, h1⟩ : ∃ f, kfld 57 1 = some f := Option.isSome_iff_exists.1 (by kernel_rfl)
  obtain ⟨f2, h2⟩ : ∃ f, kfld 57 2 = some f := Option.isSome_iff_exists.1 (by kernel_rfl)
  have hsz : (Try.prog.fieldsOf 57).size = 3 := by kernel_rfl
  have hl : (Try.prog.fieldsOf 57).toList = [f0, f1, f2] := by
    apply List.ext_getElem?
    intro i
    match i with
    | 0 => simpa [kfld] using h0
    | 1 => simpa [kfld] using h1
    | 2 => simpa [kfld] using h2
    | i + 3 => simp [hsz]
  have t0 : (kfld 57 0).map (fun f => (f.type, f.offset)) = some (3, 0) := by kernel_rfl
  have t1 : (kfld 57 1).map (fun f => (f.type, f.offset)) = some (3, 1) := by kernel_rfl
  have t2 : (kfld 57 2).map (fun f => (f.type, f.offset)) = some (3, 2) := by kernel_rfl
  rw [h0] at t0
  rw [h1] at t1
  rw [h2] at t2
  simp only [Option.map_some, Option.some.injEq, Prod.mk.injEq] at t0 t1 t2
  obtain ⟨a1, a2⟩ := t0
  obtain ⟨b1, b2⟩ := t1
  obtain ⟨c1, c2⟩ := t2
  have ck : ∀ (n : Int), (Instr.checkKey em 9999 3 (.int .i64 n)).run Try.prog w = .ok () w := fun n => run_checkKey (d := .int .i64) kund_int (by simp [IsKey]) em 9998
  rw [show (10000 : Nat) = 9999 + 1 from rfl]
  unfold Instr.checkKey
  simp only [Sem.run_bind, run_underlying und_item, Result.andThen_ok]
  rw [← Array.forIn_toList, hl]
  have p0 : (part 3 #[.int .i64 a, .int .i64 b, .int .i64 c] 0).run Try.prog w = .ok (.int .i64 a) w := kpart_int rfl
  have p1 : (part 3 #[.int .i64 a, .int .i64 b, .int .i64 c] 1).run Try.prog w = .ok (.int .i64 b) w := kpart_int rfl
  have p2 : (part 3 #[.int .i64 a, .int .i64 b, .int .i64 c] 2).run Try.prog w = .ok (.int .i64 c) w := kpart_int rfl
  simp only [List.forIn_cons, List.forIn_nil, a1, a2, b1, b2, c1, c2]
  split <;> split <;> split <;> simp [p0, p1, p2, ck, Result.andThen]
theorem item_key : KeyOK Try.prog 57 kdItem where
  pure := fun v h => by obtain ⟨a, b, c, rfl⟩ := kdItem_ex h; rfl
  eq := fun a b ha hb h => by
    obtain ⟨a, b, c, rfl⟩ := kdItem_ex ha
    obtain ⟨a', b', c', rfl⟩ := kdItem_ex hb
    simp only [eqK, eqL, eq1, Bool.and_eq_true, decide_eq_true_eq, and_true] at h
    obtain ⟨rfl, rfl, rfl⟩ := h
    rfl
  refl := fun a ha => by obtain ⟨a, b, c, rfl⟩ := kdItem_ex ha; simp [eqK, eqL, eq1]
  check := fun em v w h => by
    obtain ⟨a, b, c, rfl⟩ := kdItem_ex h
    exact item_check em a b c w
  find := fun v es w h hes => by
    obtain ⟨a, b, c, rfl⟩ := kdItem_ex h
    rw [run_findKey_eq w (by rw [und_item])]
    have key : ∀ (l : List MapEntry) (i : Nat), (∀ e ∈ l, kdItem e.key = true) → (Instr.findAsking 57 (.agg #[.int .i64 a, .int .i64 b, .int .i64 c]) l i).run Try.prog w = .ok (findE (.agg #[.int .i64 a, .int .i64 b, .int .i64 c]) l i) w := by
      intro l
      induction l with
      | nil => intro i _; simp [Instr.findAsking, findE]
      | cons e l ih =>
        intro i hl
        obtain ⟨a', b', c', hm⟩ := kdItem_ex (hl e List.mem_cons_self)
        have ih' := ih (i + 1) fun x hx => hl x (List.mem_cons_of_mem _ hx)
        have hq : (Op.equal 57 (.agg #[.int .i64 a, .int .i64 b, .int .i64 c]) (.agg #[.int .i64 a', .int .i64 b', .int .i64 c'])).run Try.prog w = .ok (decide (a = a') && (decide (b = b') && decide (c = c'))) w := by
          exact item_run 9998 a b c a' b' c' w
        simp only [Instr.findAsking, findE, Sem.run_bind, hm, hq, Result.andThen_ok, eqK, eqL, eq1, Bool.and_true]
        split
        · simp
        · exact ih'
    exact key es 0 hes
  stays := fun v w h => by
    obtain ⟨a, b, c, rfl⟩ := kdItem_ex h
    simp [Instr.keyThatStays, Instr.sameBits]
def keysTab : TypeId → Option (Value → Bool) := fun t => if t = 3 then some kdInt else if t = 57 then some kdItem else none
theorem keysTab_ok : ∀ kt kd, keysTab kt = some kd → KeyOK Try.prog kt kd := fun kt kd h => by
  unfold keysTab at h
  split at h
  · rename_i e; subst e; cases h; exact int_key
  · split at h
    · rename_i e; subst e; cases h; exact item_key
    · cases h
theorem kvrl {μ : Mu} : ∀ {l l' : List Value}, (∀ v ∈ l, ∃ k a, v = .int k a) → VRL Try.prog μ l l' → l' = l
  | [], [], _, _ => rfl
  | v :: l, v' :: l', h, ⟨h1, h2⟩ => by
    obtain ⟨k, a, rfl⟩ := h v List.mem_cons_self
    rw [VR.int h1, kvrl (fun u hu => h u (List.mem_cons_of_mem _ hu)) h2]
  | [], _ :: _, _, h => h.elim
  | _ :: _, [], _, h => h.elim
def chkItem : List Value → Bool
  | [.int .i64 _, .int .i64 _, .int .i64 _] => true
  | _ => false
def chkRun : List Value → Bool
  | [.int .i64 _, .int .i64 _] => true
  | _ => false
def eqsMore : TypeId → Option (List Value → Bool) := fun t => if t = 57 then some chkItem else if t = 50 then some chkRun else none
theorem eqsMore_ok : ∀ t chk, eqsMore t = some chk → EqOK Try.prog t chk ∧ ∀ l l' : List Value, ∀ μ : Mu, VRL Try.prog μ l l' → chk l = true → l' = l := fun t chk h => by
  have l3 : ∀ {l : List Value}, chkItem l = true → ∃ a b c, l = [.int .i64 a, .int .i64 b, .int .i64 c] := fun {l} h => by
    unfold chkItem at h
    split at h
    · exact ⟨_, _, _, rfl⟩
    · cases h
  have l2 : ∀ {l : List Value}, chkRun l = true → ∃ a b, l = [.int .i64 a, .int .i64 b] := fun {l} h => by
    unfold chkRun at h
    split at h
    · exact ⟨_, _, rfl⟩
    · cases h
  have arr : ∀ {xs : Array Value} {l : List Value}, xs.toList = l → xs = l.toArray := fun {xs l} h => by rw [← h]
  unfold eqsMore at h
  split at h
  · rename_i e; subst e; cases h
    refine ⟨fun xs ys h1 h2 => ⟨by kernel_rfl, fun w => ?_⟩, fun l l' μ hv hc => ?_⟩
    · obtain ⟨a, b, c, hx⟩ := l3 h1
      obtain ⟨a', b', c', hy⟩ := l3 h2
      rw [hx, hy, arr hx, arr hy]
      rw [show (10000 : Nat) = 9998 + 2 from rfl, item_run 9998]
      simp only [eqL, eq1, Bool.and_true]
    · obtain ⟨a, b, c, rfl⟩ := l3 hc
      exact kvrl (by simp) hv
  · split at h
    · rename_i e; subst e; cases h
      refine ⟨fun xs ys h1 h2 => ⟨by kernel_rfl, fun w => ?_⟩, fun l l' μ hv hc => ?_⟩
      · obtain ⟨a, b, hx⟩ := l2 h1
        obtain ⟨a', b', hy⟩ := l2 h2
        rw [hx, hy, arr hx, arr hy]
        rw [show (10000 : Nat) = 9998 + 2 from rfl, run_run 9998]
        simp only [eqL, eq1, Bool.and_true]
      · obtain ⟨a, b, rfl⟩ := l2 hc
        exact kvrl (by simp) hv
    · cases h
end Go.Proofs.Ytafncpgiibikcaa

namespace Go.Proofs.Ytafncpgiibikcaa
set_option linter.unusedSimpArgs false
set_option linter.unusedVariables false
open Go.RowKit Am Ty

structure BSet where
  a : Int
  b : Int
  c : Int
  d : Int
  deriving DecidableEq
structure KSym where
  nt : Int
  set : BSet
  deriving DecidableEq
structure Rule where
  lhs : Int
  rhs : List KSym
  deriving DecidableEq
structure Gram where
  nts : Int
  start : Int
  rules : List Rule
  deriving DecidableEq

def chkSet : List Value → Bool
  | [.int .u64 _, .int .u64 _, .int .u64 _, .int .u64 _] => true
  | _ => false
def chkSym : List Value → Bool
  | [.int .i64 _, .int .u64 _, .int .u64 _, .int .u64 _, .int .u64 _] => true
  | _ => false
noncomputable def env : Env := ⟨Try.prog, fun t => if t = 41 then some chkSet else if t = 43 then some chkSym else eqsMore t, keysTab⟩
@[push_cast] theorem env_P : env.P = Try.prog := rfl
@[push_cast] theorem env_eqs : env.eqs 41 = some chkSet := rfl
@[push_cast] theorem env_eqs2 : env.eqs 43 = some chkSym := rfl

abbrev i64 (n : Int) : Value := .int .i64 n
abbrev u64 (n : Int) : Value := .int .u64 n
def BSet.cells (s : BSet) : List Value := [.int .u64 s.a, .int .u64 s.b, .int .u64 s.c, .int .u64 s.d]
def KSym.cells (s : KSym) : List Value := [.int .i64 s.nt, .int .u64 s.set.a, .int .u64 s.set.b, .int .u64 s.set.c, .int .u64 s.set.d]

def SlR (h : Heap) (v : Value) (n : Nat) (cells : List Value) (et : TypeId) (b : Nat) : Prop :=
  n * b ≤ 140737488355328 ∧ (((v = .slice none 0 0 ∨ v = .slice (some ⟨0, 0, none⟩) 0 0) ∧ n = 0 ∧ cells = []) ∨ ∃ id ver own c, v = .slice (some ⟨id, 0, some ver⟩) n c ∧ h[id]? = some (.arr cells ver own et))
section
variable {h h' : Heap} {v : Value} {n b : Nat} {cells : List Value} {et : TypeId}
theorem SlR.at (hs : SlR h v n cells et b) (hn : 0 < n) : ∃ id ver own c, v = .slice (some ⟨id, 0, some ver⟩) n c ∧ h[id]? = some (.arr cells ver own et) := by
  rcases hs.2 with ⟨_, h0, _⟩ | hs
  · omega
  · exact hs
theorem SlR.form (hs : SlR h v n cells et b) : ∃ p c, v = .slice p n c := by
  rcases hs.2 with ⟨rfl | rfl, rfl, _⟩ | ⟨_, _, _, c, rfl, _⟩
  · exact ⟨_, _, rfl⟩
  · exact ⟨_, _, rfl⟩
  · exact ⟨_, c, rfl⟩
theorem getElem?_of_prefix {α : Type} {l l' : List α} (hp : l <+: l') {i : Nat} {x : α} (hx : l[i]? = some x) : l'[i]? = some x := by
  obtain ⟨t, rfl⟩ := hp
  have : i < l.length := (List.getElem?_eq_some_iff.1 hx).1
  rw [List.getElem?_append_left this]
  exact hx
theorem SlR.mono (hs : SlR h v n cells et b) (hp : h <+: h') : SlR h' v n cells et b := by
  refine ⟨hs.1, ?_⟩
  rcases hs.2 with hs | ⟨id, ver, own, c, h1, h2⟩
  · exact .inl hs
  · exact .inr ⟨id, ver, own, c, h1, getElem?_of_prefix hp h2⟩
end
def RdInts (h : Heap) (v : Value) (l : List Int) : Prop := SlR h v l.length (l.map i64) 3 8
def RdBools (h : Heap) (v : Value) (l : List Bool) : Prop := SlR h v l.length (l.map .bool) 4 1
def RdSets (h : Heap) (v : Value) (l : List BSet) : Prop := SlR h v l.length (l.flatMap BSet.cells) 41 32
def RdSyms (h : Heap) (v : Value) (l : List KSym) : Prop := SlR h v l.length (l.flatMap KSym.cells) 43 40
def RdRules (h : Heap) (v : Value) (l : List Rule) : Prop :=
  ∃ us : List Value, us.length = l.length ∧ SlR h v l.length ((l.zip us).flatMap fun p => [i64 p.1.lhs, p.2]) 46 32 ∧ ∀ (i : Nat) (r : Rule) (u : Value), l[i]? = some r → us[i]? = some u → RdSyms h u r.rhs
def RdGram (h : Heap) (v : Value) (g : Gram) : Prop := ∃ u, v = .agg #[i64 g.nts, i64 g.start, u] ∧ RdRules h u g.rules

theorem rdH_flatMap {α : Type} {f : α → List Value} {k : Nat} (hf : ∀ x, (f x).length = k) : ∀ (l : List α) (i : Nat) (x : α), l[i]? = some x → rdH (l.flatMap f) (i * k) k = some (f x)
  | [], i, x, h => by simp at h
  | y :: l, 0, x, h => by
    simp only [List.getElem?_cons_zero, Option.some.injEq] at h
    subst h
    simp only [rdH, rdC, List.flatMap_cons, Nat.zero_mul, Nat.zero_add, List.drop_zero, List.length_append, hf]
    rw [if_pos (by omega), List.take_left' (hf y)]
  | y :: l, i + 1, x, h => by
    have ih := rdH_flatMap hf l i x (by simpa using h)
    simp only [rdH, rdC, List.flatMap_cons, List.length_append, hf] at ih ⊢
    rw [Nat.succ_mul]
    split at ih
    · rename_i hle
      rw [if_pos (by omega)]
      rw [show i * k + k = (f y).length + i * k from by rw [hf]; omega, List.drop_length_add_append]
      exact ih
    · cases ih
theorem RdInts.get {h : Heap} {v : Value} {l : List Int} {i : Nat} (hi : i < l.length) : (l.map i64)[i]? = some (i64 l[i]) := by simp [hi]
theorem RdBools.get {l : List Bool} {i : Nat} (hi : i < l.length) : (l.map Value.bool)[i]? = some (.bool l[i]) := by simp [hi]
theorem syms_get {l : List KSym} {i : Nat} (hi : i < l.length) : rdH (l.flatMap KSym.cells) (i * 5) 5 = some l[i].cells := rdH_flatMap (f := KSym.cells) (fun _ => rfl) l i l[i] (by simp [hi])
theorem sets_get {l : List BSet} {i : Nat} (hi : i < l.length) : rdH (l.flatMap BSet.cells) (i * 4) 4 = some l[i].cells := rdH_flatMap (f := BSet.cells) (fun _ => rfl) l i l[i] (by simp [hi])
theorem rules_get {l : List Rule} {us : List Value} (hl : us.length = l.length) {i : Nat} (hi : i < l.length) :
    rdH ((l.zip us).flatMap fun p => [i64 p.1.lhs, p.2]) (i * 2) 2 = some [i64 l[i].lhs, us[i]'(hl ▸ hi)] := by
  refine rdH_flatMap (f := fun p : Rule × Value => [i64 p.1.lhs, p.2]) (fun _ => rfl) (l.zip us) i (l[i], us[i]'(hl ▸ hi)) ?_
  simp [List.getElem?_zip_eq_some, hi, hl ▸ hi]
theorem RdRules.at {h : Heap} {v : Value} {l : List Rule} (hr : RdRules h v l) {i : Nat} (hi : i < l.length) :
    ∃ id ver own c cells p n c', v = .slice (some ⟨id, 0, some ver⟩) l.length c ∧ h[id]? = some (.arr cells ver own 46) ∧ n = l[i].rhs.length ∧
      rdH cells (i * 2) 2 = some [i64 l[i].lhs, .slice p n c'] ∧ RdSyms h (.slice p n c') l[i].rhs := by
  obtain ⟨us, hl, hs, hu⟩ := hr
  obtain ⟨id, ver, own, c, rfl, hid⟩ := hs.at (by omega)
  have hi' : i < us.length := hl ▸ hi
  have hS := hu i l[i] us[i] (by simp [hi]) (by simp [hi'])
  obtain ⟨p, c', hp⟩ := hS.form
  refine ⟨id, ver, own, c, _, p, l[i].rhs.length, c', rfl, hid, rfl, ?_, ?_⟩
  · rw [← hp]
    exact rules_get hl hi
  · rw [← hp]
    exact hS
theorem RdRules.form {h : Heap} {v : Value} {l : List Rule} (hr : RdRules h v l) : ∃ p c, v = .slice p l.length c := by
  obtain ⟨_, _, hs, _⟩ := hr
  exact hs.form
theorem RdRules.le {h : Heap} {v : Value} {l : List Rule} (hr : RdRules h v l) : l.length ≤ 140737488355328 := by
  obtain ⟨_, _, hs, _⟩ := hr
  have := hs.1
  omega
theorem RdSyms.le {h : Heap} {v : Value} {l : List KSym} (hr : RdSyms h v l) : l.length ≤ 140737488355328 := by
  have := hr.1
  omega
theorem RdRules.mono {h h' : Heap} {v : Value} {l : List Rule} (hr : RdRules h v l) (hp : h <+: h') : RdRules h' v l := by
  obtain ⟨us, hl, hs, hu⟩ := hr
  exact ⟨us, hl, hs.mono hp, fun i r u h1 h2 => (hu i r u h1 h2).mono hp⟩
theorem RdGram.mono {h h' : Heap} {v : Value} {g : Gram} (hr : RdGram h v g) (hp : h <+: h') : RdGram h' v g := by
  obtain ⟨u, rfl, hu⟩ := hr
  exact ⟨u, rfl, hu.mono hp⟩
theorem RdSyms.at {h : Heap} {v : Value} {l : List KSym} (hr : RdSyms h v l) {i : Nat} (hi : i < l.length) :
    ∃ id ver own c cells, v = .slice (some ⟨id, 0, some ver⟩) l.length c ∧ h[id]? = some (.arr cells ver own 43) ∧ rdH cells (i * 5) 5 = some [i64 l[i].nt, u64 l[i].set.a, u64 l[i].set.b, u64 l[i].set.c, u64 l[i].set.d] := by
  obtain ⟨id, ver, own, c, rfl, hid⟩ := SlR.at hr (by omega)
  exact ⟨id, ver, own, c, _, rfl, hid, syms_get hi⟩
theorem RdInts.at {h : Heap} {v : Value} {l : List Int} (hr : RdInts h v l) {i : Nat} (hi : i < l.length) :
    ∃ id ver own c cells, v = .slice (some ⟨id, 0, some ver⟩) l.length c ∧ h[id]? = some (.arr cells ver own 3) ∧ cells[i]? = some (i64 l[i]) := by
  obtain ⟨id, ver, own, c, rfl, hid⟩ := SlR.at hr (by omega)
  exact ⟨id, ver, own, c, _, rfl, hid, by simp [hi]⟩
theorem RdBools.at {h : Heap} {v : Value} {l : List Bool} (hr : RdBools h v l) {i : Nat} (hi : i < l.length) :
    ∃ id ver own c cells, v = .slice (some ⟨id, 0, some ver⟩) l.length c ∧ h[id]? = some (.arr cells ver own 4) ∧ cells[i]? = some (.bool l[i]) := by
  obtain ⟨id, ver, own, c, rfl, hid⟩ := SlR.at hr (by omega)
  exact ⟨id, ver, own, c, _, rfl, hid, by simp [hi]⟩
theorem RdSets.at {h : Heap} {v : Value} {l : List BSet} (hr : RdSets h v l) {i : Nat} (hi : i < l.length) :
    ∃ id ver own c cells, v = .slice (some ⟨id, 0, some ver⟩) l.length c ∧ h[id]? = some (.arr cells ver own 41) ∧ rdH cells (i * 4) 4 = some [u64 l[i].a, u64 l[i].b, u64 l[i].c, u64 l[i].d] := by
  obtain ⟨id, ver, own, c, rfl, hid⟩ := SlR.at hr (by omega)
  exact ⟨id, ver, own, c, _, rfl, hid, sets_get hi⟩

def forK (n k : Nat) (F : Nat → Fr) (H : Nat → Heap) (I : Nat → Prop) (Q : AX → St → Prop) : AX → St → Prop
  | .normal, s => k < n ∧ SubL (F (k + 1)) s.fr ∧ s.h = H (k + 1) ∧ I (k + 1)
  | e, s => Q e s
theorem cw_for {N : Env} {c : Code} {s : St} {Q : AX → St → Prop} (n : Nat) (F : Nat → Fr) (H : Nat → Heap) (I : Nat → Prop) (h0 : SubL (F 0) s.fr) (hh : s.h = H 0) (hI : I 0)
    (hs : ∀ k, k ≤ n → I k → CW N c ⟨F k, [], H k⟩ (forK n k F H I Q)) : CW N (.loop c) s Q := by
  refine cw_loop (fun m s => ∃ k, m = n - k ∧ k ≤ n ∧ SubL (F k) s.fr ∧ s.h = H k ∧ I k) n ⟨0, rfl, Nat.zero_le _, h0, hh, hI⟩ ?_
  rintro m s ⟨k, rfl, hk, hf, hh, hI⟩
  refine cw_weakL _ hf ?_
  rw [hh]
  refine (hs k hk hI).mono fun e s' hq => ?_
  cases e with
  | normal =>
    obtain ⟨h1, h2, h3, h4⟩ := hq
    exact ⟨n - (k + 1), by omega, k + 1, rfl, by omega, h2, h3, h4⟩
  | exit id => exact hq
  | ret => exact hq
theorem lt_dec {k n : Nat} (h : k < n) : decide ((k : Int) < (n : Int)) = true := by simp [h]
theorem ge_dec {k n : Nat} (h : ¬ k < n) : decide ((k : Int) < (n : Int)) = false := by simp; omega
theorem rng {k n : Nat} (h : k < n) : (0 ≤ (k : Int) ∧ (k : Int) < (n : Int)) = True := by simp; omega
theorem inc {k : Nat} {n : Nat} (h : k < n) (hn : n ≤ 140737488355328) : IntKind.i64.wrap ((k : Int) + 1) = (k : Int) + 1 := wrap64_id (by omega) (by omega)
end Go.Proofs.Ytafncpgiibikcaa
