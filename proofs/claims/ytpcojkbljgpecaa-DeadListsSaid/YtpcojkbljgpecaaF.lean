/- Closed facts on the types of the program. Printed by facts.py. -/
import Derived.Test.YtpcojkbljgpecaaE13
import Derived.Test.YtpcojkbljgpecaaProg
namespace Go.Proofs.Ytpcojkbljgpecaa
open Go
theorem mix_ok : Try.prog.follows .mixedOrders = true := by kernel_rfl
theorem as_105 : arrSize Try.prog 105 = some (8, 1) := by kernel_rfl
theorem as_111 : arrSize Try.prog 111 = some (64, 1) := by kernel_rfl
theorem as_112 : arrSize Try.prog 112 = some (16, 1) := by kernel_rfl
theorem as_114 : arrSize Try.prog 114 = some (64, 1) := by kernel_rfl
theorem as_28 : arrSize Try.prog 28 = some (32, 1) := by kernel_rfl
theorem as_98 : arrSize Try.prog 98 = some (512, 1) := by kernel_rfl
theorem ei_22 : einfoB Try.prog 22 30 36 64 = true := by kernel_rfl
theorem ei_25 : einfoB Try.prog 25 5 1 1 = true := by kernel_rfl
theorem ei_68 : einfoB Try.prog 68 49 2 16 = true := by kernel_rfl
theorem ei_75 : einfoB Try.prog 75 98 512 512 = true := by kernel_rfl
theorem es_22 : elemSize Try.prog 22 = some 36 := by kernel_rfl
theorem es_25 : elemSize Try.prog 25 = some 1 := by kernel_rfl
theorem es_68 : elemSize Try.prog 68 = some 2 := by kernel_rfl
theorem fo_108_0 : fieldOff Try.prog 108 0 = some 0 := by kernel_rfl
theorem fo_108_1 : fieldOff Try.prog 108 1 = some 8 := by kernel_rfl
theorem fo_30_0 : fieldOff Try.prog 30 0 = some 0 := by kernel_rfl
theorem fo_30_1 : fieldOff Try.prog 30 1 = some 1 := by kernel_rfl
theorem fo_30_2 : fieldOff Try.prog 30 2 = some 2 := by kernel_rfl
theorem fo_40_0 : fieldOff Try.prog 40 0 = some 0 := by kernel_rfl
theorem fo_40_1 : fieldOff Try.prog 40 1 = some 1 := by kernel_rfl
theorem fo_40_2 : fieldOff Try.prog 40 2 = some 2 := by kernel_rfl
theorem fo_40_3 : fieldOff Try.prog 40 3 = some 3 := by kernel_rfl
theorem fo_40_4 : fieldOff Try.prog 40 4 = some 4 := by kernel_rfl
theorem fo_49_0 : fieldOff Try.prog 49 0 = some 0 := by kernel_rfl
theorem fo_49_1 : fieldOff Try.prog 49 1 = some 1 := by kernel_rfl
theorem fo_71_0 : fieldOff Try.prog 71 0 = some 0 := by kernel_rfl
theorem fo_71_1 : fieldOff Try.prog 71 1 = some 2 := by kernel_rfl
theorem fo_71_2 : fieldOff Try.prog 71 2 = some 3 := by kernel_rfl
theorem fo_71_3 : fieldOff Try.prog 71 3 = some 4 := by kernel_rfl
theorem fo_71_4 : fieldOff Try.prog 71 4 = some 5 := by kernel_rfl
theorem fo_78_0 : fieldOff Try.prog 78 0 = some 0 := by kernel_rfl
theorem fo_78_1 : fieldOff Try.prog 78 1 = some 1 := by kernel_rfl
theorem fo_78_2 : fieldOff Try.prog 78 2 = some 2 := by kernel_rfl
theorem fo_78_3 : fieldOff Try.prog 78 3 = some 3 := by kernel_rfl
theorem fo_78_4 : fieldOff Try.prog 78 4 = some 4 := by kernel_rfl
theorem pl_108 : structPl Try.prog 108 = some [(0, 8), (8, 1)] := by kernel_rfl
theorem pl_30 : structPl Try.prog 30 = some [(0, 1), (1, 1), (2, 1), (3, 1), (4, 32)] := by kernel_rfl
theorem pl_40 : structPl Try.prog 40 = some [(0, 1), (1, 1), (2, 1), (3, 1), (4, 1)] := by kernel_rfl
theorem pl_49 : structPl Try.prog 49 = some [(0, 1), (1, 1)] := by kernel_rfl
theorem pl_71 : structPl Try.prog 71 = some [(0, 2), (2, 1), (3, 1), (4, 1), (5, 1), (6, 1)] := by kernel_rfl
theorem pl_78 : structPl Try.prog 78 = some [(0, 1), (1, 1), (2, 1), (3, 1), (4, 1)] := by kernel_rfl
theorem sz_108 : (Try.prog.info? 108).map (·.size) = some 9 := by kernel_rfl
theorem sz_111 : (Try.prog.info? 111).map (·.size) = some 64 := by kernel_rfl
theorem sz_112 : (Try.prog.info? 112).map (·.size) = some 16 := by kernel_rfl
theorem sz_114 : (Try.prog.info? 114).map (·.size) = some 64 := by kernel_rfl
theorem sz_28 : (Try.prog.info? 28).map (·.size) = some 32 := by kernel_rfl
theorem sz_30 : (Try.prog.info? 30).map (·.size) = some 36 := by kernel_rfl
theorem sz_49 : (Try.prog.info? 49).map (·.size) = some 2 := by kernel_rfl
theorem sz_5 : (Try.prog.info? 5).map (·.size) = some 1 := by kernel_rfl
theorem ptrT : PtrT Try.prog 30 3 27 28 5 := ⟨by kernel_rfl, by kernel_rfl, by kernel_rfl, by kernel_rfl, by kernel_rfl, by kernel_rfl, by kernel_rfl, by kernel_rfl, by kernel_rfl, by kernel_rfl⟩
end Go.Proofs.Ytpcojkbljgpecaa
