import Derived.Test.YtnlchlnkibpkaaaAmA
import Derived.Test.YtnlchlnkibpkaaaProg
import Derived.KernelRfl
namespace Go.Proofs.Ytnlchlnkibpkaaa.Ty
open Go.RowKit Go.Proofs.Ytnlchlnkibpkaaa.Am
theorem ti1 : tinfo Try.prog 1 = some ⟨false, 1, 8, some (.nilFunc)⟩ := by kernel_rfl
theorem ti2 : tinfo Try.prog 2 = some ⟨false, 1, 8, some (.int .i64 0)⟩ := by kernel_rfl
theorem ti3 : tinfo Try.prog 3 = some ⟨false, 1, 8, some (.int .i64 0)⟩ := by kernel_rfl
theorem ti4 : tinfo Try.prog 4 = some ⟨false, 1, 1, some (.bool false)⟩ := by kernel_rfl
theorem ti5 : tinfo Try.prog 5 = some ⟨false, 1, 1, some (.int .u8 0)⟩ := by kernel_rfl
theorem ti9 : tinfo Try.prog 9 = some ⟨false, 1, 16, some (.string ⟨#[]⟩)⟩ := by kernel_rfl
theorem ti12 : tinfo Try.prog 12 = some ⟨false, 1, 8, some (.int .u64 0)⟩ := by kernel_rfl
theorem ti20 : tinfo Try.prog 20 = some ⟨false, 1, 16, some (.nilIface)⟩ := by kernel_rfl
theorem ti21 : tinfo Try.prog 21 = some ⟨false, 1, 4, some (.int .i32 0)⟩ := by kernel_rfl
theorem ti22 : tinfo Try.prog 22 = some ⟨false, 1, 24, some (.slice none 0 0)⟩ := by kernel_rfl
theorem ti23 : tinfo Try.prog 23 = some ⟨true, 3, 40, some (.agg #[.int .i64 0, .int .i64 0, .slice none 0 0])⟩ := by kernel_rfl
theorem fo23_0 : fieldOff Try.prog 23 0 = some (0, 3) := by kernel_rfl
theorem fo23_1 : fieldOff Try.prog 23 1 = some (1, 3) := by kernel_rfl
theorem fo23_2 : fieldOff Try.prog 23 2 = some (2, 22) := by kernel_rfl
theorem pl23 : placesOf Try.prog 23 = some [(0, 1), (1, 1), (2, 1)] := by kernel_rfl
theorem ti24 : tinfo Try.prog 24 = some ⟨true, 3, 40, some (.agg #[.int .i64 0, .int .i64 0, .slice none 0 0])⟩ := by kernel_rfl
theorem fo24_0 : fieldOff Try.prog 24 0 = some (0, 3) := by kernel_rfl
theorem fo24_1 : fieldOff Try.prog 24 1 = some (1, 3) := by kernel_rfl
theorem fo24_2 : fieldOff Try.prog 24 2 = some (2, 22) := by kernel_rfl
theorem pl24 : placesOf Try.prog 24 = some [(0, 1), (1, 1), (2, 1)] := by kernel_rfl
theorem ti25 : tinfo Try.prog 25 = some ⟨false, 1, 8, some (.nilFunc)⟩ := by kernel_rfl
theorem ti26 : tinfo Try.prog 26 = some ⟨false, 1, 8, some (.nilFunc)⟩ := by kernel_rfl
theorem ti27 : tinfo Try.prog 27 = some ⟨false, 1, 8, some (.int .i64 0)⟩ := by kernel_rfl
theorem ti28 : tinfo Try.prog 28 = some ⟨false, 1, 8, some (.nilFunc)⟩ := by kernel_rfl
theorem ti29 : tinfo Try.prog 29 = some ⟨false, 1, 8, some (.nilFunc)⟩ := by kernel_rfl
theorem ti30 : tinfo Try.prog 30 = some ⟨false, 1, 8, some (.nilFunc)⟩ := by kernel_rfl
theorem ti31 : tinfo Try.prog 31 = some ⟨false, 1, 8, some (.nilFunc)⟩ := by kernel_rfl
theorem ti32 : tinfo Try.prog 32 = some ⟨false, 1, 8, some (.nilFunc)⟩ := by kernel_rfl
theorem ti33 : tinfo Try.prog 33 = some ⟨false, 1, 24, some (.slice none 0 0)⟩ := by kernel_rfl
theorem ti35 : tinfo Try.prog 35 = some ⟨false, 1, 8, some (.nilFunc)⟩ := by kernel_rfl
theorem ti36 : tinfo Try.prog 36 = some ⟨false, 1, 8, some (.nilFunc)⟩ := by kernel_rfl
theorem ti37 : tinfo Try.prog 37 = some ⟨false, 1, 24, some (.slice none 0 0)⟩ := by kernel_rfl
theorem ti39 : tinfo Try.prog 39 = some ⟨false, 1, 8, some (.nilFunc)⟩ := by kernel_rfl
theorem ti40 : tinfo Try.prog 40 = some ⟨false, 1, 24, some (.slice none 0 0)⟩ := by kernel_rfl
theorem ti42 : tinfo Try.prog 42 = some ⟨false, 1, 8, some (.nilFunc)⟩ := by kernel_rfl
theorem ti43 : tinfo Try.prog 43 = some ⟨false, 1, 8, some (.int .u64 0)⟩ := by kernel_rfl
theorem ti44 : tinfo Try.prog 44 = some ⟨true, 4, 32, some (.agg #[.int .u64 0, .int .u64 0, .int .u64 0, .int .u64 0])⟩ := by kernel_rfl
theorem ti45 : tinfo Try.prog 45 = some ⟨true, 4, 32, some (.agg #[.int .u64 0, .int .u64 0, .int .u64 0, .int .u64 0])⟩ := by kernel_rfl
theorem ti46 : tinfo Try.prog 46 = some ⟨false, 1, 24, some (.slice none 0 0)⟩ := by kernel_rfl
theorem ti47 : tinfo Try.prog 47 = some ⟨true, 2, 32, some (.agg #[.int .i64 0, .slice none 0 0])⟩ := by kernel_rfl
theorem fo47_0 : fieldOff Try.prog 47 0 = some (0, 3) := by kernel_rfl
theorem fo47_1 : fieldOff Try.prog 47 1 = some (1, 46) := by kernel_rfl
theorem pl47 : placesOf Try.prog 47 = some [(0, 1), (1, 1)] := by kernel_rfl
theorem ti48 : tinfo Try.prog 48 = some ⟨true, 2, 32, some (.agg #[.int .i64 0, .slice none 0 0])⟩ := by kernel_rfl
theorem fo48_0 : fieldOff Try.prog 48 0 = some (0, 3) := by kernel_rfl
theorem fo48_1 : fieldOff Try.prog 48 1 = some (1, 46) := by kernel_rfl
theorem pl48 : placesOf Try.prog 48 = some [(0, 1), (1, 1)] := by kernel_rfl
theorem ti50 : tinfo Try.prog 50 = some ⟨false, 1, 8, some (.nilFunc)⟩ := by kernel_rfl
theorem ti51 : tinfo Try.prog 51 = some ⟨false, 1, 8, some (.nilFunc)⟩ := by kernel_rfl
theorem ti52 : tinfo Try.prog 52 = some ⟨false, 1, 8, some (.nilFunc)⟩ := by kernel_rfl
theorem ti53 : tinfo Try.prog 53 = some ⟨false, 1, 8, some (.nilFunc)⟩ := by kernel_rfl
theorem ti54 : tinfo Try.prog 54 = some ⟨false, 1, 8, some (.nilFunc)⟩ := by kernel_rfl
theorem ti55 : tinfo Try.prog 55 = some ⟨true, 5, 40, some (.agg #[.int .i64 0, .int .u64 0, .int .u64 0, .int .u64 0, .int .u64 0])⟩ := by kernel_rfl
theorem fo55_0 : fieldOff Try.prog 55 0 = some (0, 3) := by kernel_rfl
theorem fo55_1 : fieldOff Try.prog 55 1 = some (1, 45) := by kernel_rfl
theorem pl55 : placesOf Try.prog 55 = some [(0, 1), (1, 4)] := by kernel_rfl
theorem ti56 : tinfo Try.prog 56 = some ⟨true, 5, 40, some (.agg #[.int .i64 0, .int .u64 0, .int .u64 0, .int .u64 0, .int .u64 0])⟩ := by kernel_rfl
theorem fo56_0 : fieldOff Try.prog 56 0 = some (0, 3) := by kernel_rfl
theorem fo56_1 : fieldOff Try.prog 56 1 = some (1, 45) := by kernel_rfl
theorem pl56 : placesOf Try.prog 56 = some [(0, 1), (1, 4)] := by kernel_rfl
theorem ti57 : tinfo Try.prog 57 = some ⟨false, 1, 8, some (.nilFunc)⟩ := by kernel_rfl
theorem ti58 : tinfo Try.prog 58 = some ⟨false, 1, 8, some (.nilFunc)⟩ := by kernel_rfl
theorem ti59 : tinfo Try.prog 59 = some ⟨false, 1, 8, some (.nilFunc)⟩ := by kernel_rfl
theorem ti60 : tinfo Try.prog 60 = some ⟨false, 1, 8, some (.nilFunc)⟩ := by kernel_rfl
theorem ti61 : tinfo Try.prog 61 = some ⟨false, 1, 8, some (.nilFunc)⟩ := by kernel_rfl
theorem ti62 : tinfo Try.prog 62 = some ⟨false, 1, 8, some (.nilFunc)⟩ := by kernel_rfl
theorem ti63 : tinfo Try.prog 63 = some ⟨false, 1, 24, some (.slice none 0 0)⟩ := by kernel_rfl
theorem ti64 : tinfo Try.prog 64 = some ⟨false, 1, 8, some (.nilFunc)⟩ := by kernel_rfl
theorem ti65 : tinfo Try.prog 65 = some ⟨false, 1, 8, some (.nilFunc)⟩ := by kernel_rfl
theorem ti66 : tinfo Try.prog 66 = some ⟨false, 1, 8, some (.nilFunc)⟩ := by kernel_rfl
theorem ti67 : tinfo Try.prog 67 = some ⟨false, 1, 8, some (.nilFunc)⟩ := by kernel_rfl
theorem ti68 : tinfo Try.prog 68 = some ⟨false, 1, 8, some (.nilFunc)⟩ := by kernel_rfl
theorem ti69 : tinfo Try.prog 69 = some ⟨false, 1, 8, some (.nilFunc)⟩ := by kernel_rfl
theorem ti70 : tinfo Try.prog 70 = some ⟨false, 1, 8, some (.nilFunc)⟩ := by kernel_rfl
theorem ti71 : tinfo Try.prog 71 = some ⟨false, 1, 8, some (.nilFunc)⟩ := by kernel_rfl
theorem ti72 : tinfo Try.prog 72 = some ⟨false, 1, 8, some (.nilFunc)⟩ := by kernel_rfl
theorem ti73 : tinfo Try.prog 73 = some ⟨false, 1, 8, some (.nilFunc)⟩ := by kernel_rfl
theorem ti74 : tinfo Try.prog 74 = some ⟨false, 1, 8, some (.nilFunc)⟩ := by kernel_rfl
theorem ti80 : tinfo Try.prog 80 = some ⟨false, 1, 8, some (.nilFunc)⟩ := by kernel_rfl
theorem ti81 : tinfo Try.prog 81 = some ⟨false, 1, 4, some (.int .u32 0)⟩ := by kernel_rfl
theorem ti85 : tinfo Try.prog 85 = some ⟨false, 1, 8, some (.pointer none)⟩ := by kernel_rfl
theorem mixed : Try.prog.follows .mixedOrders = true := by kernel_rfl
attribute [push_cast] ti1 ti2 ti3 ti4 ti5 ti9 ti12 ti20 ti21 ti22 ti23 ti24 ti25 ti26 ti27 ti28 ti29 ti30 ti31 ti32 ti33 ti35 ti36 ti37 ti39 ti40 ti42 ti43 ti44 ti45 ti46 ti47 ti48 ti50 ti51 ti52 ti53 ti54 ti55 ti56 ti57 ti58 ti59 ti60 ti61 ti62 ti63 ti64 ti65 ti66 ti67 ti68 ti69 ti70 ti71 ti72 ti73 ti74 ti80 ti81 ti85 fo23_0 fo23_1 fo23_2 pl23 fo24_0 fo24_1 fo24_2 pl24 fo47_0 fo47_1 pl47 fo48_0 fo48_1 pl48 fo55_0 fo55_1 pl55 fo56_0 fo56_1 pl56 Try.underlying1 Try.underlying2 Try.underlying3 Try.underlying4 Try.underlying5 Try.underlying9 Try.underlying12 Try.underlying20 Try.underlying21 Try.underlying22 Try.underlying23 Try.underlying24 Try.underlying25 Try.underlying26 Try.underlying27 Try.underlying28 Try.underlying29 Try.underlying30 Try.underlying31 Try.underlying32 Try.underlying33 Try.underlying35 Try.underlying36 Try.underlying37 Try.underlying39 Try.underlying40 Try.underlying42 Try.underlying43 Try.underlying44 Try.underlying45 Try.underlying46 Try.underlying47 Try.underlying48 Try.underlying50 Try.underlying51 Try.underlying52 Try.underlying53 Try.underlying54 Try.underlying55 Try.underlying56 Try.underlying57 Try.underlying58 Try.underlying59 Try.underlying60 Try.underlying61 Try.underlying62 Try.underlying63 Try.underlying64 Try.underlying65 Try.underlying66 Try.underlying67 Try.underlying68 Try.underlying69 Try.underlying70 Try.underlying71 Try.underlying72 Try.underlying73 Try.underlying74 Try.underlying80 Try.underlying81 Try.underlying85
end Go.Proofs.Ytnlchlnkibpkaaa.Ty
