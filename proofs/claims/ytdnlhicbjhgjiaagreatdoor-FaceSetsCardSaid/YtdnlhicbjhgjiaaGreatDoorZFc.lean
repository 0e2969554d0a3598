/- What is told of the functions beside their texts: temporaries, plans. No condition. -/
import Derived.Test.YtdnlhicbjhgjiaaGreatDoorProg
import Derived.Test.YtdnlhicbjhgjiaaGreatDoorVxC
namespace Go.Proofs.YtdnlhicbjhgjiaaGreatDoor
open Go Go.Vx
theorem mixed : Tryz.prog.follows .mixedOrders = true := by kernel_rfl
def fc2 : FC := ⟨1, [], []⟩
theorem ok2 : fnCheck Tryz.f2 fc2 = true := by kernel_rfl
def fc3 : FC := ⟨85, [0, 1, 4, 5, 6, 7, 15, 23, 35, 39, 57], [(7, .take 0 (.take 1 (.take 2 (.take 3 (.take 4 (.take 5 (.take 6 (.take 7 (.take 8 (.take 9 (.done)))))))))))]⟩
theorem ok3 : fnCheck Tryz.f3 fc3 = true := by kernel_rfl
def fc4 : FC := ⟨73, [0, 1, 4, 5, 6, 8, 9, 10, 11, 12, 13, 26, 45], [(4, .take 0 (.take 1 (.loud 2 (.loud 3 (.take 4 (.take 5 (.take 6 (.loud 7 (.loud 8 (.take 9 (.done)) (.none)) (.none))))) (.loud 7 (.loud 3 (.take 4 (.take 5 (.take 6 (.loud 8 (.take 9 (.done)) (.none))))) (.none)) (.none))) (.loud 7 (.loud 2 (.loud 3 (.take 4 (.take 5 (.take 6 (.loud 8 (.take 9 (.done)) (.none))))) (.none)) (.none)) (.none))))), (11, .take 0 (.take 1 (.loud 2 (.loud 3 (.take 4 (.take 5 (.take 6 (.loud 7 (.loud 8 (.take 9 (.done)) (.none)) (.none))))) (.loud 7 (.loud 3 (.take 4 (.take 5 (.take 6 (.loud 8 (.take 9 (.done)) (.none))))) (.none)) (.none))) (.loud 7 (.loud 2 (.loud 3 (.take 4 (.take 5 (.take 6 (.loud 8 (.take 9 (.done)) (.none))))) (.none)) (.none)) (.none)))))]⟩
theorem ok4 : fnCheck Tryz.f4 fc4 = true := by kernel_rfl
def fc5 : FC := ⟨44, [0, 1, 2, 3, 4], []⟩
theorem ok5 : fnCheck Tryz.f5 fc5 = true := by kernel_rfl
def fc6 : FC := ⟨10, [0, 1, 4], []⟩
theorem ok6 : fnCheck Tryz.f6 fc6 = true := by kernel_rfl
def fc7 : FC := ⟨9, [0, 1, 4], []⟩
theorem ok7 : fnCheck Tryz.f7 fc7 = true := by kernel_rfl
def fc8 : FC := ⟨26, [0, 1, 4, 5, 10, 14, 25], [(6, .take 0 (.take 1 (.take 2 (.take 3 (.take 4 (.take 5 (.take 6 (.take 7 (.take 8 (.done))))))))))]⟩
theorem ok8 : fnCheck Tryz.f8 fc8 = true := by kernel_rfl
def fc9 : FC := ⟨33, [0, 1, 4, 5, 6, 7, 11, 23], []⟩
theorem ok9 : fnCheck Tryz.f9 fc9 = true := by kernel_rfl
def fc10 : FC := ⟨9, [0, 1, 3, 4], []⟩
theorem ok10 : fnCheck Tryz.f10 fc10 = true := by kernel_rfl
def fc11 : FC := ⟨19, [0, 1, 4, 5, 9, 18], []⟩
theorem ok11 : fnCheck Tryz.f11 fc11 = true := by kernel_rfl
def fc12 : FC := ⟨41, [0, 2, 3, 4, 5, 6, 7, 8, 9, 17, 30], [(7, .take 0 (.take 1 (.take 2 (.take 3 (.take 4 (.take 5 (.take 6 (.take 7 (.take 8 (.loud 9 (.take 10 (.take 11 (.done))) (.none)))))))))))]⟩
theorem ok12 : fnCheck Tryz.f12 fc12 = true := by kernel_rfl
def fc13 : FC := ⟨74, [0, 1, 2, 3, 4, 5, 6, 7, 9, 11, 28, 35, 36, 37, 38, 53, 54, 55, 56], [(5, .take 0 (.take 1 (.take 2 (.take 3 (.take 4 (.loud 5 (.take 6 (.done)) (.none))))))), (15, .take 0 (.take 1 (.take 2 (.loud 3 (.loud 4 (.loud 5 (.take 6 (.loud 7 (.done) (.none))) (.none)) (.none)) (.none)))))]⟩
theorem ok13 : fnCheck Tryz.f13 fc13 = true := by kernel_rfl
def fc14 : FC := ⟨25, [0, 2, 3, 4, 18], []⟩
theorem ok14 : fnCheck Tryz.f14 fc14 = true := by kernel_rfl
def fc15 : FC := ⟨102, [0, 1, 2, 3, 4, 5, 6, 7, 8, 24, 29, 42, 47, 101], [(6, .take 0 (.take 1 (.take 2 (.take 3 (.take 4 (.take 5 (.take 6 (.take 7 (.take 8 (.take 9 (.take 10 (.done)))))))))))), (11, .take 0 (.take 1 (.take 2 (.take 3 (.take 4 (.take 5 (.take 6 (.take 7 (.take 8 (.take 9 (.loud 10 (.loud 11 (.loud 12 (.loud 13 (.done) (.none)) (.none)) (.none)) (.loud 11 (.loud 10 (.loud 12 (.loud 13 (.done) (.none)) (.none)) (.none)) (.none)))))))))))))]⟩
theorem ok15 : fnCheck Tryz.f15 fc15 = true := by kernel_rfl
def fc16 : FC := ⟨26, [0, 1, 4, 5, 10, 14, 25], [(6, .take 0 (.take 1 (.take 2 (.take 3 (.take 4 (.take 5 (.take 6 (.take 7 (.take 8 (.done))))))))))]⟩
theorem ok16 : fnCheck Tryz.f16 fc16 = true := by kernel_rfl
def fc17 : FC := ⟨141, [0, 2, 3, 4, 5, 6, 7, 8, 9, 10, 11, 18, 24, 25, 26, 62, 138], [(9, .take 0 (.take 1 (.take 2 (.take 4 (.loud 3 (.loud 5 (.take 6 (.loud 7 (.loud 8 (.take 9 (.loud 10 (.done) (.none))) (.none)) (.none))) (.none)) (.none))))))]⟩
theorem ok17 : fnCheck Tryz.f17 fc17 = true := by kernel_rfl
def fc18 : FC := ⟨69, [0, 1, 2, 3, 5, 7, 8, 15, 16, 17, 18, 30, 31, 32, 33, 37], [(13, .take 0 (.take 1 (.take 2 (.take 3 (.take 4 (.take 5 (.take 6 (.take 7 (.take 8 (.take 9 (.take 10 (.loud 11 (.loud 12 (.loud 13 (.take 14 (.done)) (.none)) (.none)) (.none))))))))))))), (15, .take 0 (.take 1 (.take 2 (.take 3 (.take 7 (.take 8 (.loud 4 (.loud 5 (.loud 6 (.loud 9 (.take 10 (.done)) (.none)) (.none)) (.none)) (.none))))))))]⟩
theorem ok18 : fnCheck Tryz.f18 fc18 = true := by kernel_rfl
def fc19 : FC := ⟨4, [0, 2], []⟩
theorem ok19 : fnCheck Tryz.f19 fc19 = true := by kernel_rfl
def fc20 : FC := ⟨16, [0, 2, 3], []⟩
theorem ok20 : fnCheck Tryz.f20 fc20 = true := by kernel_rfl
def fc21 : FC := ⟨36, [0, 2, 3, 5, 6, 8, 9, 10, 11, 12, 20, 25, 26, 27, 28], []⟩
theorem ok21 : fnCheck Tryz.f21 fc21 = true := by kernel_rfl
def fc22 : FC := ⟨19, [0, 1, 4, 5, 9, 17], []⟩
theorem ok22 : fnCheck Tryz.f22 fc22 = true := by kernel_rfl
def fc23 : FC := ⟨58, [0, 1, 4, 5, 6, 18, 32, 42], []⟩
theorem ok23 : fnCheck Tryz.f23 fc23 = true := by kernel_rfl
def fc24 : FC := ⟨9, [0, 1, 4], []⟩
theorem ok24 : fnCheck Tryz.f24 fc24 = true := by kernel_rfl
def fc25 : FC := ⟨8, [0, 1, 3], []⟩
theorem ok25 : fnCheck Tryz.f25 fc25 = true := by kernel_rfl
def fc26 : FC := ⟨9, [0, 1, 4], []⟩
theorem ok26 : fnCheck Tryz.f26 fc26 = true := by kernel_rfl
def fc27 : FC := ⟨183, [0, 2, 3, 4, 5, 6, 7, 8, 9, 10, 11, 14, 18, 26, 38, 55, 67, 70, 95, 102, 106, 119, 132, 138, 165], []⟩
theorem ok27 : fnCheck Tryz.f27 fc27 = true := by kernel_rfl
def fc28 : FC := ⟨67, [0, 2, 3, 14, 45, 47, 56], [(5, .take 0 (.take 1 (.take 2 (.take 4 (.loud 3 (.loud 5 (.take 6 (.loud 7 (.loud 8 (.take 9 (.loud 10 (.done) (.none))) (.none)) (.none))) (.none)) (.none)))))), (7, .take 0 (.take 1 (.take 2 (.take 3 (.take 4 (.take 5 (.take 6 (.take 7 (.take 8 (.take 9 (.take 10 (.take 11 (.take 12 (.take 13 (.take 14 (.take 15 (.take 16 (.take 17 (.take 18 (.done)))))))))))))))))))), (9, .take 0 (.take 1 (.take 2 (.loud 3 (.loud 4 (.loud 5 (.take 6 (.loud 7 (.done) (.none))) (.none)) (.none)) (.none))))), (11, .take 0 (.take 1 (.take 2 (.loud 3 (.loud 4 (.loud 5 (.take 6 (.loud 7 (.done) (.none))) (.none)) (.none)) (.none)))))]⟩
theorem ok28 : fnCheck Tryz.f28 fc28 = true := by kernel_rfl
def fc29 : FC := ⟨86, [0, 1, 3, 4, 6, 8, 10, 12, 14, 19, 20, 21, 22, 34, 35, 36, 37, 49, 50, 51, 52, 64, 65, 66, 67, 71, 72, 73, 74], []⟩
theorem ok29 : fnCheck Tryz.f29 fc29 = true := by kernel_rfl
def fc30 : FC := ⟨60, [0, 1, 3, 5, 7, 9, 11, 12, 13, 14, 25, 26, 27, 28, 32, 33, 34, 35, 46], []⟩
theorem ok30 : fnCheck Tryz.f30 fc30 = true := by kernel_rfl
def fc31 : FC := ⟨34, [0, 1, 2, 3, 5, 19, 20, 21, 22], [(1, .take 0 (.take 1 (.take 2 (.take 3 (.take 4 (.take 5 (.take 6 (.take 7 (.take 8 (.take 9 (.loud 10 (.take 11 (.loud 12 (.loud 13 (.done) (.none)) (.none))) (.loud 12 (.loud 10 (.take 11 (.loud 13 (.done) (.none))) (.none)) (.none)))))))))))))]⟩
theorem ok31 : fnCheck Tryz.f31 fc31 = true := by kernel_rfl
def fc32 : FC := ⟨14, [0, 1, 4], []⟩
theorem ok32 : fnCheck Tryz.f32 fc32 = true := by kernel_rfl
def fc33 : FC := ⟨10, [0, 1, 2, 3, 4], []⟩
theorem ok33 : fnCheck Tryz.f33 fc33 = true := by kernel_rfl
def fc34 : FC := ⟨8, [0, 1, 4], []⟩
theorem ok34 : fnCheck Tryz.f34 fc34 = true := by kernel_rfl
def fc35 : FC := ⟨14, [0, 1, 4], []⟩
theorem ok35 : fnCheck Tryz.f35 fc35 = true := by kernel_rfl
def fc36 : FC := ⟨10, [0, 1, 2, 3, 4], []⟩
theorem ok36 : fnCheck Tryz.f36 fc36 = true := by kernel_rfl
def fc37 : FC := ⟨28, [0, 2, 3, 4, 5, 6, 7, 8, 9, 17], []⟩
theorem ok37 : fnCheck Tryz.f37 fc37 = true := by kernel_rfl
def fc38 : FC := ⟨63, [0, 1, 2, 3, 4, 5, 6, 7, 8, 9, 10, 25, 26, 27, 28, 43, 61], []⟩
theorem ok38 : fnCheck Tryz.f38 fc38 = true := by kernel_rfl
def fc39 : FC := ⟨38, [0, 2, 3, 4, 5, 33], []⟩
theorem ok39 : fnCheck Tryz.f39 fc39 = true := by kernel_rfl
def fc40 : FC := ⟨28, [0, 2, 3, 9], []⟩
theorem ok40 : fnCheck Tryz.f40 fc40 = true := by kernel_rfl
def fc41 : FC := ⟨24, [0, 2, 3, 4], []⟩
theorem ok41 : fnCheck Tryz.f41 fc41 = true := by kernel_rfl
def fc42 : FC := ⟨20, [0, 2, 3, 7, 19], [(4, .take 0 (.take 1 (.take 2 (.take 3 (.take 4 (.take 5 (.take 6 (.take 7 (.take 8 (.take 9 (.done)))))))))))]⟩
theorem ok42 : fnCheck Tryz.f42 fc42 = true := by kernel_rfl
def fc43 : FC := ⟨5, [0, 2], []⟩
theorem ok43 : fnCheck Tryz.f43 fc43 = true := by kernel_rfl
def fc44 : FC := ⟨24, [0, 2, 3, 5, 9, 10, 11, 12], []⟩
theorem ok44 : fnCheck Tryz.f44 fc44 = true := by kernel_rfl
def fc45 : FC := ⟨8, [0, 2, 4], []⟩
theorem ok45 : fnCheck Tryz.f45 fc45 = true := by kernel_rfl
def fc46 : FC := ⟨11, [0, 2], []⟩
theorem ok46 : fnCheck Tryz.f46 fc46 = true := by kernel_rfl
def fc47 : FC := ⟨61, [0, 2, 3, 4, 5, 8, 13, 25, 32, 44], [(6, .take 0 (.take 1 (.take 2 (.take 3 (.take 4 (.take 5 (.take 6 (.take 7 (.take 8 (.take 9 (.done))))))))))), (11, .take 0 (.take 1 (.take 2 (.take 3 (.take 4 (.take 5 (.take 6 (.take 7 (.take 8 (.take 9 (.done)))))))))))]⟩
theorem ok47 : fnCheck Tryz.f47 fc47 = true := by kernel_rfl
def fc48 : FC := ⟨27, [0, 1, 4, 6, 16], []⟩
theorem ok48 : fnCheck Tryz.f48 fc48 = true := by kernel_rfl
def fc49 : FC := ⟨19, [0, 1, 4, 5, 7, 8, 9, 16], []⟩
theorem ok49 : fnCheck Tryz.f49 fc49 = true := by kernel_rfl
def fc50 : FC := ⟨19, [0, 1, 4, 5, 7, 8, 9, 16], []⟩
theorem ok50 : fnCheck Tryz.f50 fc50 = true := by kernel_rfl
def fc51 : FC := ⟨9, [0, 2], []⟩
theorem ok51 : fnCheck Tryz.f51 fc51 = true := by kernel_rfl
def fc52 : FC := ⟨9, [0, 2], []⟩
theorem ok52 : fnCheck Tryz.f52 fc52 = true := by kernel_rfl
def fc53 : FC := ⟨20, [0, 2, 3, 4], []⟩
theorem ok53 : fnCheck Tryz.f53 fc53 = true := by kernel_rfl
def fc54 : FC := ⟨49, [0, 1, 4, 9, 14, 15, 26, 27], []⟩
theorem ok54 : fnCheck Tryz.f54 fc54 = true := by kernel_rfl
def fc55 : FC := ⟨10, [0, 1, 7], []⟩
theorem ok55 : fnCheck Tryz.f55 fc55 = true := by kernel_rfl
def fc56 : FC := ⟨14, [0, 2], [(1, .take 0 (.take 1 (.take 2 (.take 3 (.take 4 (.take 5 (.take 6 (.take 7 (.take 8 (.take 9 (.take 10 (.take 11 (.done)))))))))))))]⟩
theorem ok56 : fnCheck Tryz.f56 fc56 = true := by kernel_rfl
def fc57 : FC := ⟨35, [0, 2, 3, 23], [(1, .take 0 (.take 1 (.take 2 (.take 3 (.take 4 (.take 5 (.take 6 (.take 7 (.take 8 (.take 9 (.loud 10 (.loud 11 (.done) (.none)) (.none))))))))))))]⟩
theorem ok57 : fnCheck Tryz.f57 fc57 = true := by kernel_rfl
def fc58 : FC := ⟨16, [0, 1, 4, 8], []⟩
theorem ok58 : fnCheck Tryz.f58 fc58 = true := by kernel_rfl
def fc59 : FC := ⟨62, [0, 2, 3, 4, 5, 39, 54], [(6, .take 0 (.take 1 (.take 2 (.take 3 (.take 4 (.take 5 (.take 6 (.take 7 (.take 8 (.take 9 (.loud 10 (.loud 11 (.done) (.none)) (.none))))))))))))]⟩
theorem ok59 : fnCheck Tryz.f59 fc59 = true := by kernel_rfl
def fc60 : FC := ⟨80, [0, 2, 3, 4, 14, 19, 38, 42, 58, 63, 73], [(20, .take 0 (.take 1 (.take 2 (.loud 3 (.loud 4 (.loud 5 (.take 6 (.loud 7 (.done) (.none))) (.none)) (.none)) (.none)))))]⟩
theorem ok60 : fnCheck Tryz.f60 fc60 = true := by kernel_rfl
def fc61 : FC := ⟨27, [0, 1, 8], [(2, .take 0 (.take 1 (.take 2 (.take 3 (.take 4 (.take 5 (.take 6 (.take 7 (.take 8 (.take 9 (.take 10 (.take 11 (.take 12 (.take 13 (.loud 14 (.done) (.none))))))))))))))))]⟩
theorem ok61 : fnCheck Tryz.f61 fc61 = true := by kernel_rfl
def fc62 : FC := ⟨32, [0, 1, 2, 3, 8, 11], [(2, .take 0 (.take 1 (.take 2 (.take 3 (.take 4 (.take 5 (.take 6 (.take 7 (.take 8 (.take 9 (.take 10 (.take 11 (.loud 12 (.loud 13 (.take 14 (.take 15 (.loud 16 (.done) (.none)))) (.none)) (.none))))))))))))))]⟩
theorem ok62 : fnCheck Tryz.f62 fc62 = true := by kernel_rfl
def fc63 : FC := ⟨29, [0, 1, 2, 12], [(1, .take 0 (.take 1 (.take 2 (.take 3 (.take 4 (.take 5 (.take 6 (.take 7 (.take 8 (.take 9 (.take 10 (.take 11 (.loud 12 (.loud 13 (.take 14 (.take 15 (.loud 16 (.done) (.none)))) (.none)) (.none))))))))))))))]⟩
theorem ok63 : fnCheck Tryz.f63 fc63 = true := by kernel_rfl
def fc64 : FC := ⟨148, [0, 1, 2, 3, 4, 10, 11, 12, 13, 14, 15, 16, 17, 18, 19, 20, 25, 32, 39, 56, 75, 80, 97, 125], [(17, .take 0 (.take 1 (.take 2 (.take 3 (.take 4 (.take 5 (.take 6 (.take 7 (.take 8 (.take 9 (.take 10 (.take 11 (.take 12 (.loud 13 (.take 14 (.take 15 (.take 16 (.done)))) (.none)))))))))))))))]⟩
theorem ok64 : fnCheck Tryz.f64 fc64 = true := by kernel_rfl
def fc65 : FC := ⟨8, [0, 2], []⟩
theorem ok65 : fnCheck Tryz.f65 fc65 = true := by kernel_rfl
def fc66 : FC := ⟨8, [0, 1, 4], []⟩
theorem ok66 : fnCheck Tryz.f66 fc66 = true := by kernel_rfl
def fc67 : FC := ⟨148, [0, 1, 2, 3, 4, 10, 11, 12, 13, 14, 15, 16, 17, 18, 19, 20, 25, 32, 39, 56, 75, 80, 97, 125], [(17, .take 0 (.take 1 (.take 2 (.take 3 (.take 4 (.take 5 (.take 6 (.take 7 (.take 8 (.take 9 (.take 10 (.take 11 (.take 12 (.loud 13 (.take 14 (.take 15 (.take 16 (.done)))) (.none)))))))))))))))]⟩
theorem ok67 : fnCheck Tryz.f67 fc67 = true := by kernel_rfl
def fc68 : FC := ⟨90, [0, 2, 3, 4, 5, 6, 7, 8, 9, 10, 11, 12, 20, 46, 53, 61, 80], [(7, .take 0 (.take 1 (.take 2 (.take 3 (.take 4 (.take 5 (.take 6 (.take 7 (.take 8 (.take 9 (.take 10 (.take 11 (.take 12 (.take 13 (.take 14 (.take 15 (.take 16 (.take 17 (.take 18 (.done)))))))))))))))))))), (19, .take 0 (.take 1 (.take 2 (.take 3 (.take 4 (.take 5 (.take 6 (.take 7 (.take 8 (.take 9 (.take 10 (.done))))))))))))]⟩
theorem ok68 : fnCheck Tryz.f68 fc68 = true := by kernel_rfl
def fc69 : FC := ⟨153, [0, 2, 3, 4, 5, 6, 7, 8, 9, 10, 11, 12, 13, 14, 15, 19, 34, 44, 48, 51, 55, 70, 78, 99, 104, 109, 150], [(25, .take 0 (.take 1 (.take 2 (.take 3 (.take 4 (.take 5 (.take 6 (.take 10 (.take 11 (.take 12 (.take 13 (.take 14 (.take 15 (.loud 7 (.take 8 (.take 9 (.loud 16 (.take 17 (.loud 18 (.done) (.none))) (.none)))) (.none))))))))))))))), (35, .take 0 (.take 1 (.take 2 (.take 3 (.take 4 (.take 5 (.take 6 (.take 7 (.take 8 (.take 9 (.take 10 (.take 11 (.take 12 (.take 13 (.take 14 (.take 15 (.take 16 (.take 17 (.take 18 (.take 19 (.take 20 (.take 21 (.take 22 (.take 23 (.take 24 (.take 25 (.take 26 (.take 27 (.take 28 (.take 29 (.take 30 (.loud 31 (.done) (.none)))))))))))))))))))))))))))))))))]⟩
theorem ok69 : fnCheck Tryz.f69 fc69 = true := by kernel_rfl
def fc70 : FC := ⟨16, [0, 1, 2, 3, 4, 5], []⟩
theorem ok70 : fnCheck Tryz.f70 fc70 = true := by kernel_rfl
def fc71 : FC := ⟨49, [0, 1, 4, 5, 19], [(3, .take 0 (.take 1 (.take 2 (.take 3 (.take 4 (.take 5 (.take 6 (.take 7 (.take 8 (.take 9 (.take 10 (.take 11 (.take 12 (.take 13 (.take 14 (.take 15 (.take 16 (.take 17 (.take 18 (.take 19 (.take 20 (.take 21 (.take 22 (.take 23 (.take 24 (.take 25 (.take 26 (.take 27 (.take 28 (.take 29 (.take 30 (.done))))))))))))))))))))))))))))))))]⟩
theorem ok71 : fnCheck Tryz.f71 fc71 = true := by kernel_rfl
def fc72 : FC := ⟨18, [0, 2, 3, 4, 5, 12], []⟩
theorem ok72 : fnCheck Tryz.f72 fc72 = true := by kernel_rfl
def fc73 : FC := ⟨5, [0, 2], []⟩
theorem ok73 : fnCheck Tryz.f73 fc73 = true := by kernel_rfl
def fc74 : FC := ⟨15, [0, 2], []⟩
theorem ok74 : fnCheck Tryz.f74 fc74 = true := by kernel_rfl
def fc75 : FC := ⟨134, [0, 1, 2, 3, 8, 9, 10, 11, 12, 13, 14, 15, 16, 17, 18, 23, 29, 35, 50, 68, 72, 87, 113], [(17, .take 0 (.take 1 (.take 2 (.take 3 (.take 4 (.take 5 (.take 6 (.take 7 (.take 8 (.take 9 (.take 10 (.take 11 (.loud 12 (.take 13 (.take 14 (.done))) (.none))))))))))))))]⟩
theorem ok75 : fnCheck Tryz.f75 fc75 = true := by kernel_rfl
def fc76 : FC := ⟨37, [0, 1, 4, 5], [(1, .take 0 (.take 1 (.take 2 (.take 3 (.take 4 (.take 5 (.take 6 (.take 7 (.take 8 (.take 9 (.loud 10 (.loud 11 (.done) (.none)) (.none))))))))))))]⟩
theorem ok76 : fnCheck Tryz.f76 fc76 = true := by kernel_rfl
def fc77 : FC := ⟨20, [0, 2, 3, 4, 8], []⟩
theorem ok77 : fnCheck Tryz.f77 fc77 = true := by kernel_rfl
def fc78 : FC := ⟨31, [0, 2, 3, 15], []⟩
theorem ok78 : fnCheck Tryz.f78 fc78 = true := by kernel_rfl
def fc79 : FC := ⟨9, [0, 1, 2, 4], []⟩
theorem ok79 : fnCheck Tryz.f79 fc79 = true := by kernel_rfl
def fc80 : FC := ⟨53, [0, 1, 2, 3, 8, 9, 14, 34], [(4, .take 0 (.take 1 (.take 2 (.take 3 (.take 4 (.take 5 (.take 6 (.take 7 (.take 8 (.take 9 (.take 10 (.take 11 (.take 12 (.take 13 (.loud 14 (.take 15 (.take 16 (.done))) (.none)))))))))))))))), (6, .take 0 (.take 1 (.take 2 (.take 3 (.take 4 (.take 5 (.take 6 (.take 7 (.take 8 (.take 9 (.take 10 (.take 11 (.take 12 (.take 13 (.take 14 (.loud 15 (.take 16 (.loud 17 (.done) (.none))) (.none)))))))))))))))))]⟩
theorem ok80 : fnCheck Tryz.f80 fc80 = true := by kernel_rfl
def fc81 : FC := ⟨60, [0, 1, 2, 3, 8, 9, 10, 11, 12, 21, 33], [(10, .take 0 (.take 1 (.take 2 (.take 3 (.take 4 (.take 5 (.take 6 (.take 7 (.take 8 (.take 9 (.take 10 (.take 11 (.take 12 (.take 13 (.take 14 (.take 15 (.take 16 (.loud 17 (.take 18 (.loud 19 (.done) (.none))) (.none)))))))))))))))))))]⟩
theorem ok81 : fnCheck Tryz.f81 fc81 = true := by kernel_rfl
def fc82 : FC := ⟨67, [0, 1, 2, 8, 9, 10, 11, 12, 17, 35, 45], [(10, .take 0 (.take 1 (.take 2 (.take 3 (.take 4 (.take 5 (.take 6 (.take 7 (.take 8 (.take 9 (.take 10 (.take 11 (.take 12 (.take 13 (.take 14 (.take 15 (.take 16 (.loud 17 (.take 18 (.loud 19 (.done) (.none))) (.none)))))))))))))))))))]⟩
theorem ok82 : fnCheck Tryz.f82 fc82 = true := by kernel_rfl
def fc83 : FC := ⟨63, [0, 1, 2, 3, 8, 9, 10, 11, 12, 13, 14, 34, 36, 55, 57, 60], []⟩
theorem ok83 : fnCheck Tryz.f83 fc83 = true := by kernel_rfl
def fc84 : FC := ⟨34, [0, 1, 2, 8, 9, 15], [(3, .take 0 (.take 1 (.take 2 (.take 3 (.take 4 (.take 5 (.take 6 (.take 7 (.take 8 (.take 9 (.take 10 (.take 11 (.take 12 (.loud 13 (.take 14 (.loud 15 (.done) (.none))) (.none)))))))))))))))]⟩
theorem ok84 : fnCheck Tryz.f84 fc84 = true := by kernel_rfl
def fc85 : FC := ⟨141, [0, 1, 2, 3, 8, 9, 10, 11, 12, 16, 36, 41, 45, 65, 69, 84, 104, 109, 124], [(5, .take 0 (.take 1 (.take 2 (.take 3 (.take 4 (.take 5 (.take 6 (.take 7 (.take 8 (.take 9 (.take 10 (.take 11 (.take 12 (.take 13 (.loud 14 (.take 15 (.take 16 (.take 17 (.done)))) (.none)))))))))))))))), (11, .take 0 (.take 1 (.take 2 (.take 3 (.take 4 (.take 5 (.take 6 (.take 7 (.take 8 (.take 9 (.take 10 (.take 11 (.take 12 (.take 13 (.take 14 (.loud 15 (.take 16 (.loud 17 (.done) (.none))) (.none))))))))))))))))), (16, .take 0 (.take 1 (.take 2 (.take 3 (.take 4 (.take 5 (.take 6 (.take 7 (.take 8 (.take 9 (.loud 10 (.take 11 (.take 12 (.done))) (.none)))))))))))), (17, .take 0 (.take 1 (.take 2 (.take 3 (.take 4 (.take 5 (.take 6 (.take 7 (.take 8 (.take 9 (.take 10 (.take 11 (.take 12 (.take 13 (.take 14 (.loud 15 (.take 16 (.loud 17 (.done) (.none))) (.none))))))))))))))))), (22, .take 0 (.take 1 (.take 2 (.take 3 (.take 4 (.take 5 (.take 6 (.take 7 (.take 8 (.take 9 (.loud 10 (.take 11 (.take 12 (.done))) (.none)))))))))))), (23, .take 0 (.take 1 (.take 2 (.take 3 (.take 4 (.take 5 (.take 6 (.take 7 (.take 8 (.take 9 (.take 10 (.take 11 (.take 12 (.take 13 (.take 14 (.loud 15 (.take 16 (.loud 17 (.done) (.none))) (.none)))))))))))))))))]⟩
theorem ok85 : fnCheck Tryz.f85 fc85 = true := by kernel_rfl
def fc86 : FC := ⟨90, [0, 1, 2, 3, 4, 10, 11, 12, 47, 65, 70], [(1, .take 0 (.take 1 (.take 2 (.take 3 (.take 4 (.take 5 (.take 6 (.take 7 (.take 8 (.take 9 (.take 10 (.take 11 (.take 12 (.loud 13 (.take 14 (.loud 15 (.done) (.none))) (.none))))))))))))))), (3, .take 0 (.take 1 (.take 2 (.take 3 (.take 4 (.take 5 (.take 6 (.take 7 (.take 8 (.take 9 (.take 10 (.take 11 (.take 12 (.loud 13 (.take 14 (.take 15 (.take 16 (.done)))) (.none))))))))))))))), (5, .take 0 (.take 1 (.take 2 (.take 3 (.take 4 (.take 5 (.take 6 (.take 7 (.take 8 (.take 9 (.take 10 (.take 11 (.take 12 (.loud 13 (.take 14 (.take 15 (.done))) (.none))))))))))))))), (8, .take 0 (.take 1 (.take 2 (.take 3 (.take 4 (.take 5 (.take 6 (.take 7 (.take 8 (.take 9 (.take 10 (.take 11 (.take 12 (.loud 13 (.take 14 (.loud 15 (.done) (.none))) (.none)))))))))))))))]⟩
theorem ok86 : fnCheck Tryz.f86 fc86 = true := by kernel_rfl
def fc87 : FC := ⟨178, [0, 1, 2, 3, 4, 10, 11, 12, 13, 47, 66, 71, 120, 139, 144], [(1, .take 0 (.take 1 (.take 2 (.take 3 (.take 4 (.take 5 (.take 6 (.take 7 (.take 8 (.take 9 (.take 10 (.take 11 (.take 12 (.loud 13 (.take 14 (.loud 15 (.done) (.none))) (.none))))))))))))))), (3, .take 0 (.take 1 (.take 2 (.take 3 (.take 4 (.take 5 (.take 6 (.take 7 (.take 8 (.take 9 (.take 10 (.take 11 (.take 12 (.loud 13 (.take 14 (.take 15 (.done))) (.none))))))))))))))), (5, .take 0 (.take 1 (.take 2 (.take 3 (.take 4 (.take 5 (.take 6 (.take 7 (.take 8 (.take 9 (.take 10 (.take 11 (.take 12 (.loud 13 (.take 14 (.take 15 (.take 16 (.done)))) (.none))))))))))))))), (8, .take 0 (.take 1 (.take 2 (.take 3 (.take 4 (.take 5 (.take 6 (.take 7 (.take 8 (.take 9 (.take 10 (.take 11 (.take 12 (.loud 13 (.take 14 (.loud 15 (.done) (.none))) (.none))))))))))))))), (10, .take 0 (.take 1 (.take 2 (.take 3 (.take 4 (.take 5 (.take 6 (.take 7 (.take 8 (.take 9 (.take 10 (.take 11 (.take 12 (.loud 13 (.take 14 (.loud 15 (.done) (.none))) (.none))))))))))))))), (13, .take 0 (.take 1 (.take 2 (.take 3 (.take 4 (.take 5 (.take 6 (.take 7 (.take 8 (.take 9 (.take 10 (.take 11 (.take 12 (.loud 13 (.take 14 (.take 15 (.done))) (.none))))))))))))))), (15, .take 0 (.take 1 (.take 2 (.take 3 (.take 4 (.take 5 (.take 6 (.take 7 (.take 8 (.take 9 (.take 10 (.take 11 (.take 12 (.loud 13 (.take 14 (.take 15 (.take 16 (.done)))) (.none))))))))))))))), (18, .take 0 (.take 1 (.take 2 (.take 3 (.take 4 (.take 5 (.take 6 (.take 7 (.take 8 (.take 9 (.take 10 (.take 11 (.take 12 (.loud 13 (.take 14 (.loud 15 (.done) (.none))) (.none))))))))))))))), (21, .take 0 (.take 1 (.take 2 (.take 3 (.take 4 (.take 5 (.take 6 (.take 7 (.take 8 (.take 9 (.take 10 (.take 11 (.take 12 (.loud 13 (.take 14 (.loud 15 (.done) (.none))) (.none)))))))))))))))]⟩
theorem ok87 : fnCheck Tryz.f87 fc87 = true := by kernel_rfl
def fc88 : FC := ⟨19, [0, 2, 4, 8], []⟩
theorem ok88 : fnCheck Tryz.f88 fc88 = true := by kernel_rfl
def fc89 : FC := ⟨25, [0, 2, 4, 8, 14], []⟩
theorem ok89 : fnCheck Tryz.f89 fc89 = true := by kernel_rfl
def fc91 : FC := ⟨53, [0, 1, 2, 3, 8, 9, 14, 34], [(4, .take 0 (.take 1 (.take 2 (.take 3 (.take 4 (.take 5 (.take 6 (.take 7 (.take 8 (.take 9 (.take 10 (.take 11 (.take 12 (.take 13 (.loud 14 (.take 15 (.take 16 (.done))) (.none)))))))))))))))), (6, .take 0 (.take 1 (.take 2 (.take 3 (.take 4 (.take 5 (.take 6 (.take 7 (.take 8 (.take 9 (.take 10 (.take 11 (.take 12 (.take 13 (.take 14 (.loud 15 (.take 16 (.loud 17 (.done) (.none))) (.none)))))))))))))))))]⟩
theorem ok91 : fnCheck Tryz.f91 fc91 = true := by kernel_rfl
def fc92 : FC := ⟨60, [0, 1, 2, 3, 8, 9, 10, 11, 12, 21, 33], [(10, .take 0 (.take 1 (.take 2 (.take 3 (.take 4 (.take 5 (.take 6 (.take 7 (.take 8 (.take 9 (.take 10 (.take 11 (.take 12 (.take 13 (.take 14 (.take 15 (.take 16 (.loud 17 (.take 18 (.loud 19 (.done) (.none))) (.none)))))))))))))))))))]⟩
theorem ok92 : fnCheck Tryz.f92 fc92 = true := by kernel_rfl
def fc93 : FC := ⟨67, [0, 1, 2, 8, 9, 10, 11, 12, 17, 35, 45], [(10, .take 0 (.take 1 (.take 2 (.take 3 (.take 4 (.take 5 (.take 6 (.take 7 (.take 8 (.take 9 (.take 10 (.take 11 (.take 12 (.take 13 (.take 14 (.take 15 (.take 16 (.loud 17 (.take 18 (.loud 19 (.done) (.none))) (.none)))))))))))))))))))]⟩
theorem ok93 : fnCheck Tryz.f93 fc93 = true := by kernel_rfl
def fc94 : FC := ⟨63, [0, 1, 2, 3, 8, 9, 10, 11, 12, 13, 14, 34, 36, 55, 57, 60], []⟩
theorem ok94 : fnCheck Tryz.f94 fc94 = true := by kernel_rfl
def fc95 : FC := ⟨34, [0, 1, 2, 8, 9, 15], [(3, .take 0 (.take 1 (.take 2 (.take 3 (.take 4 (.take 5 (.take 6 (.take 7 (.take 8 (.take 9 (.take 10 (.take 11 (.take 12 (.loud 13 (.take 14 (.loud 15 (.done) (.none))) (.none)))))))))))))))]⟩
theorem ok95 : fnCheck Tryz.f95 fc95 = true := by kernel_rfl
def fc96 : FC := ⟨141, [0, 1, 2, 3, 8, 9, 10, 11, 12, 16, 36, 41, 45, 65, 69, 84, 104, 109, 124], [(5, .take 0 (.take 1 (.take 2 (.take 3 (.take 4 (.take 5 (.take 6 (.take 7 (.take 8 (.take 9 (.take 10 (.take 11 (.take 12 (.take 13 (.loud 14 (.take 15 (.take 16 (.take 17 (.done)))) (.none)))))))))))))))), (11, .take 0 (.take 1 (.take 2 (.take 3 (.take 4 (.take 5 (.take 6 (.take 7 (.take 8 (.take 9 (.take 10 (.take 11 (.take 12 (.take 13 (.take 14 (.loud 15 (.take 16 (.loud 17 (.done) (.none))) (.none))))))))))))))))), (16, .take 0 (.take 1 (.take 2 (.take 3 (.take 4 (.take 5 (.take 6 (.take 7 (.take 8 (.take 9 (.loud 10 (.take 11 (.take 12 (.done))) (.none)))))))))))), (17, .take 0 (.take 1 (.take 2 (.take 3 (.take 4 (.take 5 (.take 6 (.take 7 (.take 8 (.take 9 (.take 10 (.take 11 (.take 12 (.take 13 (.take 14 (.loud 15 (.take 16 (.loud 17 (.done) (.none))) (.none))))))))))))))))), (22, .take 0 (.take 1 (.take 2 (.take 3 (.take 4 (.take 5 (.take 6 (.take 7 (.take 8 (.take 9 (.loud 10 (.take 11 (.take 12 (.done))) (.none)))))))))))), (23, .take 0 (.take 1 (.take 2 (.take 3 (.take 4 (.take 5 (.take 6 (.take 7 (.take 8 (.take 9 (.take 10 (.take 11 (.take 12 (.take 13 (.take 14 (.loud 15 (.take 16 (.loud 17 (.done) (.none))) (.none)))))))))))))))))]⟩
theorem ok96 : fnCheck Tryz.f96 fc96 = true := by kernel_rfl
def fc97 : FC := ⟨90, [0, 1, 2, 3, 4, 10, 11, 12, 47, 65, 70], [(1, .take 0 (.take 1 (.take 2 (.take 3 (.take 4 (.take 5 (.take 6 (.take 7 (.take 8 (.take 9 (.take 10 (.take 11 (.take 12 (.loud 13 (.take 14 (.loud 15 (.done) (.none))) (.none))))))))))))))), (3, .take 0 (.take 1 (.take 2 (.take 3 (.take 4 (.take 5 (.take 6 (.take 7 (.take 8 (.take 9 (.take 10 (.take 11 (.take 12 (.loud 13 (.take 14 (.take 15 (.take 16 (.done)))) (.none))))))))))))))), (5, .take 0 (.take 1 (.take 2 (.take 3 (.take 4 (.take 5 (.take 6 (.take 7 (.take 8 (.take 9 (.take 10 (.take 11 (.take 12 (.loud 13 (.take 14 (.take 15 (.done))) (.none))))))))))))))), (8, .take 0 (.take 1 (.take 2 (.take 3 (.take 4 (.take 5 (.take 6 (.take 7 (.take 8 (.take 9 (.take 10 (.take 11 (.take 12 (.loud 13 (.take 14 (.loud 15 (.done) (.none))) (.none)))))))))))))))]⟩
theorem ok97 : fnCheck Tryz.f97 fc97 = true := by kernel_rfl
def fc98 : FC := ⟨178, [0, 1, 2, 3, 4, 10, 11, 12, 13, 47, 66, 71, 120, 139, 144], [(1, .take 0 (.take 1 (.take 2 (.take 3 (.take 4 (.take 5 (.take 6 (.take 7 (.take 8 (.take 9 (.take 10 (.take 11 (.take 12 (.loud 13 (.take 14 (.loud 15 (.done) (.none))) (.none))))))))))))))), (3, .take 0 (.take 1 (.take 2 (.take 3 (.take 4 (.take 5 (.take 6 (.take 7 (.take 8 (.take 9 (.take 10 (.take 11 (.take 12 (.loud 13 (.take 14 (.take 15 (.done))) (.none))))))))))))))), (5, .take 0 (.take 1 (.take 2 (.take 3 (.take 4 (.take 5 (.take 6 (.take 7 (.take 8 (.take 9 (.take 10 (.take 11 (.take 12 (.loud 13 (.take 14 (.take 15 (.take 16 (.done)))) (.none))))))))))))))), (8, .take 0 (.take 1 (.take 2 (.take 3 (.take 4 (.take 5 (.take 6 (.take 7 (.take 8 (.take 9 (.take 10 (.take 11 (.take 12 (.loud 13 (.take 14 (.loud 15 (.done) (.none))) (.none))))))))))))))), (10, .take 0 (.take 1 (.take 2 (.take 3 (.take 4 (.take 5 (.take 6 (.take 7 (.take 8 (.take 9 (.take 10 (.take 11 (.take 12 (.loud 13 (.take 14 (.loud 15 (.done) (.none))) (.none))))))))))))))), (13, .take 0 (.take 1 (.take 2 (.take 3 (.take 4 (.take 5 (.take 6 (.take 7 (.take 8 (.take 9 (.take 10 (.take 11 (.take 12 (.loud 13 (.take 14 (.take 15 (.done))) (.none))))))))))))))), (15, .take 0 (.take 1 (.take 2 (.take 3 (.take 4 (.take 5 (.take 6 (.take 7 (.take 8 (.take 9 (.take 10 (.take 11 (.take 12 (.loud 13 (.take 14 (.take 15 (.take 16 (.done)))) (.none))))))))))))))), (18, .take 0 (.take 1 (.take 2 (.take 3 (.take 4 (.take 5 (.take 6 (.take 7 (.take 8 (.take 9 (.take 10 (.take 11 (.take 12 (.loud 13 (.take 14 (.loud 15 (.done) (.none))) (.none))))))))))))))), (21, .take 0 (.take 1 (.take 2 (.take 3 (.take 4 (.take 5 (.take 6 (.take 7 (.take 8 (.take 9 (.take 10 (.take 11 (.take 12 (.loud 13 (.take 14 (.loud 15 (.done) (.none))) (.none)))))))))))))))]⟩
theorem ok98 : fnCheck Tryz.f98 fc98 = true := by kernel_rfl
def fc99 : FC := ⟨96, [0, 1, 4, 5, 6, 7, 8, 9, 10, 11, 12, 13, 14, 19, 24, 47, 65, 74], []⟩
theorem ok99 : fnCheck Tryz.f99 fc99 = true := by kernel_rfl
def fc100 : FC := ⟨77, [0, 2, 3, 4, 5, 6, 8, 9, 10, 30, 39, 44, 47, 48, 49, 50, 56, 66], []⟩
theorem ok100 : fnCheck Tryz.f100 fc100 = true := by kernel_rfl
def fc101 : FC := ⟨43, [0, 1, 2, 3, 4, 10, 11, 12, 19, 26, 34], []⟩
theorem ok101 : fnCheck Tryz.f101 fc101 = true := by kernel_rfl
def fc102 : FC := ⟨54, [0, 1, 4, 5, 6, 7, 9, 11, 17, 23, 34], []⟩
theorem ok102 : fnCheck Tryz.f102 fc102 = true := by kernel_rfl
def fc103 : FC := ⟨49, [0, 1, 2, 6, 7, 12, 30], [(4, .take 0 (.take 1 (.take 2 (.take 3 (.take 4 (.take 5 (.take 6 (.take 7 (.take 8 (.take 9 (.take 10 (.take 11 (.take 12 (.loud 13 (.take 14 (.done)) (.none))))))))))))))), (6, .take 0 (.take 1 (.take 2 (.take 3 (.take 4 (.take 5 (.take 6 (.take 7 (.take 8 (.take 9 (.take 10 (.take 11 (.take 12 (.take 13 (.take 14 (.loud 15 (.take 16 (.loud 17 (.done) (.none))) (.none)))))))))))))))))]⟩
theorem ok103 : fnCheck Tryz.f103 fc103 = true := by kernel_rfl
def fc104 : FC := ⟨56, [0, 1, 2, 6, 7, 8, 9, 10, 19, 30], [(10, .take 0 (.take 1 (.take 2 (.take 3 (.take 4 (.take 5 (.take 6 (.take 7 (.take 8 (.take 9 (.take 10 (.take 11 (.take 12 (.take 13 (.take 14 (.take 15 (.take 16 (.loud 17 (.take 18 (.loud 19 (.done) (.none))) (.none)))))))))))))))))))]⟩
theorem ok104 : fnCheck Tryz.f104 fc104 = true := by kernel_rfl
def fc105 : FC := ⟨65, [0, 1, 2, 6, 7, 8, 9, 10, 15, 33, 43], [(10, .take 0 (.take 1 (.take 2 (.take 3 (.take 4 (.take 5 (.take 6 (.take 7 (.take 8 (.take 9 (.take 10 (.take 11 (.take 12 (.take 13 (.take 14 (.take 15 (.take 16 (.loud 17 (.take 18 (.loud 19 (.done) (.none))) (.none)))))))))))))))))))]⟩
theorem ok105 : fnCheck Tryz.f105 fc105 = true := by kernel_rfl
def fc106 : FC := ⟨57, [0, 1, 2, 6, 7, 8, 9, 10, 11, 12, 32, 34, 49, 51, 54], []⟩
theorem ok106 : fnCheck Tryz.f106 fc106 = true := by kernel_rfl
def fc107 : FC := ⟨32, [0, 1, 2, 6, 7, 13], [(3, .take 0 (.take 1 (.take 2 (.take 3 (.take 4 (.take 5 (.take 6 (.take 7 (.take 8 (.take 9 (.take 10 (.take 11 (.take 12 (.loud 13 (.take 14 (.loud 15 (.done) (.none))) (.none)))))))))))))))]⟩
theorem ok107 : fnCheck Tryz.f107 fc107 = true := by kernel_rfl
def fc108 : FC := ⟨133, [0, 1, 2, 6, 7, 8, 9, 10, 14, 32, 37, 41, 61, 65, 78, 98, 103, 116], [(5, .take 0 (.take 1 (.take 2 (.take 3 (.take 4 (.take 5 (.take 6 (.take 7 (.take 8 (.take 9 (.take 10 (.take 11 (.take 12 (.loud 13 (.take 14 (.take 15 (.done))) (.none))))))))))))))), (11, .take 0 (.take 1 (.take 2 (.take 3 (.take 4 (.take 5 (.take 6 (.take 7 (.take 8 (.take 9 (.take 10 (.take 11 (.take 12 (.take 13 (.take 14 (.loud 15 (.take 16 (.loud 17 (.done) (.none))) (.none))))))))))))))))), (16, .take 0 (.take 1 (.take 2 (.take 3 (.take 4 (.take 5 (.take 6 (.take 7 (.take 8 (.loud 9 (.take 10 (.done)) (.none))))))))))), (17, .take 0 (.take 1 (.take 2 (.take 3 (.take 4 (.take 5 (.take 6 (.take 7 (.take 8 (.take 9 (.take 10 (.take 11 (.take 12 (.take 13 (.take 14 (.loud 15 (.take 16 (.loud 17 (.done) (.none))) (.none))))))))))))))))), (22, .take 0 (.take 1 (.take 2 (.take 3 (.take 4 (.take 5 (.take 6 (.take 7 (.take 8 (.loud 9 (.take 10 (.done)) (.none))))))))))), (23, .take 0 (.take 1 (.take 2 (.take 3 (.take 4 (.take 5 (.take 6 (.take 7 (.take 8 (.take 9 (.take 10 (.take 11 (.take 12 (.take 13 (.take 14 (.loud 15 (.take 16 (.loud 17 (.done) (.none))) (.none)))))))))))))))))]⟩
theorem ok108 : fnCheck Tryz.f108 fc108 = true := by kernel_rfl
def fc109 : FC := ⟨17, [0, 1, 4], []⟩
theorem ok109 : fnCheck Tryz.f109 fc109 = true := by kernel_rfl
def fc110 : FC := ⟨84, [0, 1, 2, 3, 8, 9, 10, 43, 59, 64], [(1, .take 0 (.take 1 (.take 2 (.take 3 (.take 4 (.take 5 (.take 6 (.take 7 (.take 8 (.take 9 (.take 10 (.take 11 (.take 12 (.loud 13 (.take 14 (.loud 15 (.done) (.none))) (.none))))))))))))))), (3, .take 0 (.take 1 (.take 2 (.take 3 (.take 4 (.take 5 (.take 6 (.take 7 (.take 8 (.take 9 (.take 10 (.take 11 (.loud 12 (.take 13 (.take 14 (.done))) (.none)))))))))))))), (5, .take 0 (.take 1 (.take 2 (.take 3 (.take 4 (.take 5 (.take 6 (.take 7 (.take 8 (.take 9 (.take 10 (.take 11 (.loud 12 (.take 13 (.done)) (.none)))))))))))))), (8, .take 0 (.take 1 (.take 2 (.take 3 (.take 4 (.take 5 (.take 6 (.take 7 (.take 8 (.take 9 (.take 10 (.take 11 (.take 12 (.loud 13 (.take 14 (.loud 15 (.done) (.none))) (.none)))))))))))))))]⟩
theorem ok110 : fnCheck Tryz.f110 fc110 = true := by kernel_rfl
def fc111 : FC := ⟨168, [0, 1, 2, 3, 8, 9, 10, 11, 43, 60, 65, 112, 129, 134], [(1, .take 0 (.take 1 (.take 2 (.take 3 (.take 4 (.take 5 (.take 6 (.take 7 (.take 8 (.take 9 (.take 10 (.take 11 (.take 12 (.loud 13 (.take 14 (.loud 15 (.done) (.none))) (.none))))))))))))))), (3, .take 0 (.take 1 (.take 2 (.take 3 (.take 4 (.take 5 (.take 6 (.take 7 (.take 8 (.take 9 (.take 10 (.take 11 (.loud 12 (.take 13 (.done)) (.none)))))))))))))), (5, .take 0 (.take 1 (.take 2 (.take 3 (.take 4 (.take 5 (.take 6 (.take 7 (.take 8 (.take 9 (.take 10 (.take 11 (.loud 12 (.take 13 (.take 14 (.done))) (.none)))))))))))))), (8, .take 0 (.take 1 (.take 2 (.take 3 (.take 4 (.take 5 (.take 6 (.take 7 (.take 8 (.take 9 (.take 10 (.take 11 (.take 12 (.loud 13 (.take 14 (.loud 15 (.done) (.none))) (.none))))))))))))))), (10, .take 0 (.take 1 (.take 2 (.take 3 (.take 4 (.take 5 (.take 6 (.take 7 (.take 8 (.take 9 (.take 10 (.take 11 (.take 12 (.loud 13 (.take 14 (.loud 15 (.done) (.none))) (.none))))))))))))))), (13, .take 0 (.take 1 (.take 2 (.take 3 (.take 4 (.take 5 (.take 6 (.take 7 (.take 8 (.take 9 (.take 10 (.take 11 (.loud 12 (.take 13 (.done)) (.none)))))))))))))), (15, .take 0 (.take 1 (.take 2 (.take 3 (.take 4 (.take 5 (.take 6 (.take 7 (.take 8 (.take 9 (.take 10 (.take 11 (.loud 12 (.take 13 (.take 14 (.done))) (.none)))))))))))))), (18, .take 0 (.take 1 (.take 2 (.take 3 (.take 4 (.take 5 (.take 6 (.take 7 (.take 8 (.take 9 (.take 10 (.take 11 (.take 12 (.loud 13 (.take 14 (.loud 15 (.done) (.none))) (.none))))))))))))))), (21, .take 0 (.take 1 (.take 2 (.take 3 (.take 4 (.take 5 (.take 6 (.take 7 (.take 8 (.take 9 (.take 10 (.take 11 (.take 12 (.loud 13 (.take 14 (.loud 15 (.done) (.none))) (.none)))))))))))))))]⟩
theorem ok111 : fnCheck Tryz.f111 fc111 = true := by kernel_rfl
def fc112 : FC := ⟨26, [0, 1, 13], []⟩
theorem ok112 : fnCheck Tryz.f112 fc112 = true := by kernel_rfl
def fc113 : FC := ⟨120, [0, 2, 3, 4, 5, 12, 47, 64, 73, 79, 86, 90, 101, 106], [(4, .take 0 (.take 1 (.take 2 (.take 3 (.take 4 (.take 5 (.take 6 (.take 7 (.take 8 (.take 9 (.take 10 (.take 11 (.take 12 (.take 13 (.take 14 (.take 15 (.take 16 (.take 17 (.take 18 (.take 19 (.done)))))))))))))))))))))]⟩
theorem ok113 : fnCheck Tryz.f113 fc113 = true := by kernel_rfl
def fc114 : FC := ⟨82, [0, 1, 2, 3, 4, 10, 11, 18, 40, 58], [(3, .take 0 (.take 1 (.take 2 (.take 3 (.take 4 (.take 5 (.take 6 (.take 7 (.take 8 (.take 9 (.take 10 (.take 11 (.take 12 (.take 13 (.take 14 (.take 15 (.take 16 (.take 17 (.take 18 (.loud 19 (.take 20 (.take 21 (.done))) (.none))))))))))))))))))))), (5, .take 0 (.take 1 (.take 2 (.take 3 (.take 4 (.take 5 (.take 6 (.take 7 (.take 8 (.take 9 (.take 10 (.take 11 (.take 12 (.loud 13 (.take 14 (.take 15 (.done))) (.none))))))))))))))), (6, .take 0 (.take 1 (.take 2 (.take 3 (.take 4 (.take 5 (.take 6 (.take 7 (.take 8 (.take 9 (.take 10 (.take 11 (.take 12 (.take 13 (.take 14 (.take 15 (.take 16 (.take 17 (.take 18 (.take 19 (.take 20 (.loud 21 (.take 22 (.loud 23 (.done) (.none))) (.none)))))))))))))))))))))))]⟩
theorem ok114 : fnCheck Tryz.f114 fc114 = true := by kernel_rfl
def fc115 : FC := ⟨7, [0, 2], []⟩
theorem ok115 : fnCheck Tryz.f115 fc115 = true := by kernel_rfl
def fc116 : FC := ⟨33, [0, 2], [(1, .take 0 (.take 1 (.take 2 (.take 3 (.take 4 (.take 5 (.take 6 (.take 7 (.take 8 (.loud 9 (.done) (.none))))))))))), (2, .take 0 (.take 1 (.take 2 (.take 3 (.take 4 (.take 5 (.take 6 (.take 7 (.take 8 (.loud 9 (.done) (.none))))))))))), (3, .take 0 (.take 1 (.take 2 (.take 3 (.take 4 (.take 5 (.take 6 (.take 7 (.take 8 (.loud 9 (.done) (.none)))))))))))]⟩
theorem ok116 : fnCheck Tryz.f116 fc116 = true := by kernel_rfl
def fc117 : FC := ⟨18, [0, 1, 2, 3, 8], []⟩
theorem ok117 : fnCheck Tryz.f117 fc117 = true := by kernel_rfl
def fc118 : FC := ⟨41, [0, 1, 2, 3, 4, 5, 12], []⟩
theorem ok118 : fnCheck Tryz.f118 fc118 = true := by kernel_rfl
def fc119 : FC := ⟨82, [0, 1, 2, 3, 4, 10, 11, 18, 40, 58], [(3, .take 0 (.take 1 (.take 2 (.take 3 (.take 4 (.take 5 (.take 6 (.take 7 (.take 8 (.take 9 (.take 10 (.take 11 (.take 12 (.take 13 (.take 14 (.take 15 (.take 16 (.take 17 (.take 18 (.loud 19 (.take 20 (.take 21 (.done))) (.none))))))))))))))))))))), (5, .take 0 (.take 1 (.take 2 (.take 3 (.take 4 (.take 5 (.take 6 (.take 7 (.take 8 (.take 9 (.take 10 (.take 11 (.take 12 (.loud 13 (.take 14 (.take 15 (.done))) (.none))))))))))))))), (6, .take 0 (.take 1 (.take 2 (.take 3 (.take 4 (.take 5 (.take 6 (.take 7 (.take 8 (.take 9 (.take 10 (.take 11 (.take 12 (.take 13 (.take 14 (.take 15 (.take 16 (.take 17 (.take 18 (.take 19 (.take 20 (.loud 21 (.take 22 (.loud 23 (.done) (.none))) (.none)))))))))))))))))))))))]⟩
theorem ok119 : fnCheck Tryz.f119 fc119 = true := by kernel_rfl
def fc120 : FC := ⟨18, [0, 1, 2, 3, 8], []⟩
theorem ok120 : fnCheck Tryz.f120 fc120 = true := by kernel_rfl
def fc121 : FC := ⟨41, [0, 1, 2, 3, 4, 5, 12], []⟩
theorem ok121 : fnCheck Tryz.f121 fc121 = true := by kernel_rfl
def fc122 : FC := ⟨65, [0, 2, 3, 4, 5, 6, 7, 8, 9, 10, 14, 20, 29, 55], []⟩
theorem ok122 : fnCheck Tryz.f122 fc122 = true := by kernel_rfl
def fc123 : FC := ⟨37, [0, 2, 3, 4, 5, 6, 10, 19], []⟩
theorem ok123 : fnCheck Tryz.f123 fc123 = true := by kernel_rfl
def fc124 : FC := ⟨73, [0, 1, 2, 6, 7, 8, 9, 10, 11, 13, 16, 17, 21, 38, 41, 52, 62, 69], []⟩
theorem ok124 : fnCheck Tryz.f124 fc124 = true := by kernel_rfl
def fc125 : FC := ⟨11, [0, 1, 4], [(1, .take 0 (.take 1 (.take 3 (.loud 2 (.take 4 (.loud 5 (.take 6 (.done)) (.none))) (.none)))))]⟩
theorem ok125 : fnCheck Tryz.f125 fc125 = true := by kernel_rfl
def fc126 : FC := ⟨11, [0, 1, 4], [(1, .take 0 (.take 1 (.take 3 (.loud 2 (.take 4 (.loud 5 (.take 6 (.done)) (.none))) (.none)))))]⟩
theorem ok126 : fnCheck Tryz.f126 fc126 = true := by kernel_rfl
def fc127 : FC := ⟨16, [0, 1, 2, 6], []⟩
theorem ok127 : fnCheck Tryz.f127 fc127 = true := by kernel_rfl
def fc128 : FC := ⟨16, [0, 1, 2, 6], []⟩
theorem ok128 : fnCheck Tryz.f128 fc128 = true := by kernel_rfl
def fc129 : FC := ⟨15, [0, 2, 4], []⟩
theorem ok129 : fnCheck Tryz.f129 fc129 = true := by kernel_rfl
def fc130 : FC := ⟨15, [0, 2, 3], []⟩
theorem ok130 : fnCheck Tryz.f130 fc130 = true := by kernel_rfl
def fc131 : FC := ⟨167, [0, 1, 4, 5, 6, 7, 8, 9, 10, 11, 12, 13, 14, 15, 16, 20, 99, 139, 161], [(7, .take 0 (.take 1 (.take 2 (.take 3 (.take 4 (.take 5 (.take 6 (.take 7 (.take 8 (.take 9 (.take 10 (.take 11 (.loud 12 (.take 13 (.loud 14 (.done) (.none))) (.none)))))))))))))), (8, .take 0 (.take 1 (.take 2 (.take 3 (.take 4 (.take 5 (.take 6 (.take 7 (.take 8 (.take 9 (.take 10 (.take 11 (.loud 12 (.take 13 (.loud 14 (.done) (.none))) (.none)))))))))))))), (9, .take 0 (.take 1 (.take 2 (.take 3 (.take 4 (.take 5 (.take 6 (.take 7 (.take 8 (.take 9 (.take 10 (.take 11 (.loud 12 (.take 13 (.loud 14 (.done) (.none))) (.none)))))))))))))), (10, .take 0 (.take 1 (.take 2 (.take 3 (.take 4 (.take 5 (.take 6 (.take 7 (.take 8 (.take 9 (.take 10 (.take 11 (.loud 12 (.take 13 (.loud 14 (.done) (.none))) (.none)))))))))))))), (17, .take 0 (.take 1 (.take 2 (.take 3 (.take 4 (.take 5 (.take 6 (.take 7 (.take 8 (.take 9 (.take 10 (.take 11 (.loud 12 (.take 13 (.loud 14 (.done) (.none))) (.none)))))))))))))), (18, .take 0 (.take 1 (.take 2 (.take 3 (.take 4 (.take 5 (.take 6 (.take 7 (.take 8 (.take 9 (.take 10 (.take 11 (.loud 12 (.take 13 (.loud 14 (.done) (.none))) (.none)))))))))))))), (23, .take 0 (.take 1 (.take 2 (.take 3 (.take 4 (.take 5 (.take 6 (.take 7 (.take 8 (.take 9 (.take 10 (.take 11 (.loud 12 (.take 13 (.loud 14 (.done) (.none))) (.none))))))))))))))]⟩
theorem ok131 : fnCheck Tryz.f131 fc131 = true := by kernel_rfl
def fc132 : FC := ⟨102, [0, 1, 2, 3, 4, 10, 11, 12, 13, 14, 15, 16, 17, 18, 28, 30, 34, 46, 68, 89, 94], []⟩
theorem ok132 : fnCheck Tryz.f132 fc132 = true := by kernel_rfl
def fc133 : FC := ⟨76, [0, 1, 2, 3, 8, 9, 16, 36, 52], [(3, .take 0 (.take 1 (.take 2 (.take 3 (.take 4 (.take 5 (.take 6 (.take 7 (.take 8 (.take 9 (.take 10 (.take 11 (.take 12 (.take 13 (.take 14 (.take 15 (.take 16 (.take 17 (.loud 18 (.take 19 (.done)) (.none)))))))))))))))))))), (5, .take 0 (.take 1 (.take 2 (.take 3 (.take 4 (.take 5 (.take 6 (.take 7 (.take 8 (.take 9 (.take 10 (.take 11 (.loud 12 (.take 13 (.done)) (.none)))))))))))))), (6, .take 0 (.take 1 (.take 2 (.take 3 (.take 4 (.take 5 (.take 6 (.take 7 (.take 8 (.take 9 (.take 10 (.take 11 (.take 12 (.take 13 (.take 14 (.take 15 (.take 16 (.take 17 (.take 18 (.take 19 (.take 20 (.loud 21 (.take 22 (.loud 23 (.done) (.none))) (.none)))))))))))))))))))))))]⟩
theorem ok133 : fnCheck Tryz.f133 fc133 = true := by kernel_rfl
def fc134 : FC := ⟨15, [0, 1, 2, 6], []⟩
theorem ok134 : fnCheck Tryz.f134 fc134 = true := by kernel_rfl
def fc135 : FC := ⟨36, [0, 1, 2, 3, 4, 10], []⟩
theorem ok135 : fnCheck Tryz.f135 fc135 = true := by kernel_rfl
def fc136 : FC := ⟨6, [0, 2], []⟩
theorem ok136 : fnCheck Tryz.f136 fc136 = true := by kernel_rfl
def fc137 : FC := ⟨13, [0, 2, 3, 4, 8], []⟩
theorem ok137 : fnCheck Tryz.f137 fc137 = true := by kernel_rfl
def fc138 : FC := ⟨39, [0, 1, 4, 5, 6, 7, 8, 16, 29], []⟩
theorem ok138 : fnCheck Tryz.f138 fc138 = true := by kernel_rfl
def fc139 : FC := ⟨56, [0, 1, 3, 4, 5, 6, 7, 8, 16, 37, 42, 52], [(15, .take 0 (.take 1 (.take 2 (.loud 3 (.loud 4 (.loud 5 (.take 6 (.loud 7 (.done) (.none))) (.none)) (.none)) (.none)))))]⟩
theorem ok139 : fnCheck Tryz.f139 fc139 = true := by kernel_rfl
def fc140 : FC := ⟨32, [0, 1, 2, 3, 4, 10, 11, 22], [(1, .take 0 (.take 1 (.take 2 (.take 3 (.take 4 (.take 5 (.take 6 (.take 7 (.take 8 (.loud 9 (.take 10 (.done)) (.none)))))))))))]⟩
theorem ok140 : fnCheck Tryz.f140 fc140 = true := by kernel_rfl
def fc141 : FC := ⟨32, [0, 1, 2, 3, 4, 10, 11, 22], [(1, .take 0 (.take 1 (.take 2 (.take 3 (.take 4 (.take 5 (.take 6 (.take 7 (.take 8 (.loud 9 (.take 10 (.done)) (.none)))))))))))]⟩
theorem ok141 : fnCheck Tryz.f141 fc141 = true := by kernel_rfl
def fc142 : FC := ⟨43, [0, 1, 4, 5, 6, 7, 11, 21, 41], []⟩
theorem ok142 : fnCheck Tryz.f142 fc142 = true := by kernel_rfl
def fc143 : FC := ⟨172, [0, 1, 2, 6, 7, 8, 9, 10, 11, 12, 13, 15, 16, 17, 19, 25, 32, 37, 40, 52, 64, 77, 83, 85, 90, 92, 99, 100, 101, 102, 106, 112, 121, 137, 141, 159, 169], []⟩
theorem ok143 : fnCheck Tryz.f143 fc143 = true := by kernel_rfl
def fc144 : FC := ⟨18, [0, 2, 3, 6], []⟩
theorem ok144 : fnCheck Tryz.f144 fc144 = true := by kernel_rfl
def fc145 : FC := ⟨7, [0, 2], []⟩
theorem ok145 : fnCheck Tryz.f145 fc145 = true := by kernel_rfl
def fc146 : FC := ⟨6, [0, 2], []⟩
theorem ok146 : fnCheck Tryz.f146 fc146 = true := by kernel_rfl
def fc147 : FC := ⟨4, [0, 2, 3], []⟩
theorem ok147 : fnCheck Tryz.f147 fc147 = true := by kernel_rfl
def fc148 : FC := ⟨8, [0, 2], []⟩
theorem ok148 : fnCheck Tryz.f148 fc148 = true := by kernel_rfl
def fc149 : FC := ⟨8, [0, 2], []⟩
theorem ok149 : fnCheck Tryz.f149 fc149 = true := by kernel_rfl
def fc150 : FC := ⟨28, [0, 1, 2, 3, 8, 9, 18], [(1, .take 0 (.take 1 (.take 2 (.take 3 (.take 4 (.take 5 (.take 6 (.take 7 (.loud 8 (.done) (.none))))))))))]⟩
theorem ok150 : fnCheck Tryz.f150 fc150 = true := by kernel_rfl
def fc151 : FC := ⟨40, [0, 1, 4, 5, 6, 14, 21, 30], []⟩
theorem ok151 : fnCheck Tryz.f151 fc151 = true := by kernel_rfl
def fc152 : FC := ⟨19, [0, 1, 2, 3, 8], []⟩
theorem ok152 : fnCheck Tryz.f152 fc152 = true := by kernel_rfl
def fc153 : FC := ⟨5, [0, 2], []⟩
theorem ok153 : fnCheck Tryz.f153 fc153 = true := by kernel_rfl
def fc154 : FC := ⟨94, [0, 2, 3, 4, 5, 18, 46, 54, 83, 87, 89, 91], []⟩
theorem ok154 : fnCheck Tryz.f154 fc154 = true := by kernel_rfl
def fc155 : FC := ⟨14, [0, 2, 4], []⟩
theorem ok155 : fnCheck Tryz.f155 fc155 = true := by kernel_rfl
def fc156 : FC := ⟨14, [0, 2, 4], []⟩
theorem ok156 : fnCheck Tryz.f156 fc156 = true := by kernel_rfl
def fc157 : FC := ⟨49, [0, 1, 4, 5, 6, 14, 21, 30, 39], []⟩
theorem ok157 : fnCheck Tryz.f157 fc157 = true := by kernel_rfl
def fc158 : FC := ⟨117, [0, 1, 4, 5, 6, 7, 8, 13, 25, 34, 59, 77, 97], [(3, .take 0 (.take 1 (.take 2 (.take 3 (.take 4 (.take 5 (.take 6 (.take 7 (.take 8 (.take 9 (.loud 10 (.loud 11 (.done) (.none)) (.none)))))))))))), (20, .take 0 (.take 1 (.take 2 (.take 4 (.take 5 (.loud 3 (.take 6 (.loud 7 (.loud 8 (.take 9 (.done)) (.none)) (.none))) (.none)))))))]⟩
theorem ok158 : fnCheck Tryz.f158 fc158 = true := by kernel_rfl
def fc185 : FC := ⟨5, [], []⟩
theorem ok185 : fnCheck Tryz.f185 fc185 = true := by kernel_rfl
end Go.Proofs.YtdnlhicbjhgjiaaGreatDoor
