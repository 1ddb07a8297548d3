/-
  awake: its table, the entries by the kernel, and its run (merged by program of Awt Awk0 Awk1 Awk2 Awk3 Awa Awr).
-/
import Derived.Test.YtknpjlcgjlnfbaaGreatDoorDox
import Derived.KernelRfl
import Derived.Test.YtknpjlcgjlnfbaaGreatDoorVdr
set_option maxRecDepth 100000
namespace Go.Proofs.YtknpjlcgjlnfbaaGreatDoor
open Go Go.AM Go.AMT
noncomputable def awS0 : AHeap := List.append H0 ([.row [.int .i64 8, .int .i64 0, .int .i64 0] true, .amap [], .row [.int .i64 0, .int .i64 0, .int .i64 0, .int .i64 0, .int .i64 0] true, .row [.int .i64 0, .int .i64 0, .int .i64 0] true, .row [.string ⟨#[]⟩, .string ⟨#[49]⟩, .slice (some ⟨12, 0, some 1⟩) 3 3, .slice none 0 0, .slice none 0 0, .slice none 0 0, .map (some 13), .int .i64 1, .int .i64 0, .slice (some ⟨14, 0, some 1⟩) 5 5, .slice (some ⟨15, 0, some 1⟩) 3 3, .slice none 0 0, .slice none 0 0] true])
noncomputable def awS1 : AHeap := List.append H0 (List.append ([.row [.int .i64 8, .int .i64 0, .int .i64 0] true, .amap [], .row [.int .i64 0, .int .i64 0, .int .i64 0, .int .i64 0, .int .i64 0] true, .row [.int .i64 0, .int .i64 0, .int .i64 0] true, .row [.string ⟨#[]⟩, .string ⟨#[48, 48, 49]⟩, .slice (some ⟨12, 0, some 1⟩) 3 3, .slice none 0 0, .slice none 0 0, .slice none 0 0, .map (some 13), .int .i64 1, .int .i64 0, .slice (some ⟨14, 0, some 1⟩) 5 5, .slice (some ⟨15, 0, some 1⟩) 3 3, .slice none 0 0, .slice (some ⟨23, 0, some 1⟩) 1 2] true]) (List.append (List.replicate 6 AObj.dead) ([.row [.string ⟨#[116, 105, 100, 101, 32, 45, 32, 48, 48, 49]⟩] true])))
noncomputable def awS2 : AHeap := List.append H0 (List.append ([.row [.int .i64 8, .int .i64 0, .int .i64 0] true, .amap [], .row [.int .i64 0, .int .i64 0, .int .i64 0, .int .i64 0, .int .i64 0] true, .row [.int .i64 0, .int .i64 0, .int .i64 0] true, .row [.string ⟨#[]⟩, .string ⟨#[48, 48, 49]⟩, .slice (some ⟨12, 0, some 1⟩) 3 3, .slice none 0 0, .slice none 0 0, .slice none 0 0, .map (some 13), .int .i64 1, .int .i64 0, .slice (some ⟨14, 0, some 1⟩) 5 5, .slice (some ⟨15, 0, some 1⟩) 3 3, .slice none 0 0, .slice (some ⟨23, 0, some 1⟩) 1 2] true]) (List.append (List.replicate 6 AObj.dead) (List.append ([.row [.string ⟨#[116, 105, 100, 101, 32, 45, 32, 48, 48, 49]⟩] true]) (List.replicate 16 AObj.dead))))
noncomputable def awS3 : AHeap := List.append H0 (List.append (List.replicate 1 AObj.dead) (List.append ([.amap [], .row [.int .i64 0, .int .i64 0, .int .i64 0, .int .i64 0, .int .i64 0] true, .row [.int .i64 0, .int .i64 0, .int .i64 0] true, .row [.string ⟨#[]⟩, .string ⟨#[48, 48, 49]⟩, .slice (some ⟨59, 0, some 1⟩) 3 4, .slice none 0 0, .slice none 0 0, .slice none 0 0, .map (some 13), .int .i64 1, .int .i64 0, .slice (some ⟨14, 0, some 1⟩) 5 5, .slice (some ⟨15, 0, some 1⟩) 3 3, .slice none 0 0, .slice (some ⟨61, 0, some 1⟩) 2 3] true]) (List.append (List.replicate 42 AObj.dead) (List.append ([.row [.int .i64 3, .int .i64 5, .int .i64 0] true]) (List.append (List.replicate 1 AObj.dead) ([.row [.string ⟨#[116, 105, 100, 101, 32, 45, 32, 48, 48, 49]⟩, .string ⟨#[112, 111, 117, 114, 32, 48, 32, 49]⟩] true]))))))
noncomputable def awS4 : AHeap := List.append H0 (List.append (List.replicate 1 AObj.dead) (List.append ([.amap [], .row [.int .i64 0, .int .i64 0, .int .i64 0, .int .i64 0, .int .i64 0] true, .row [.int .i64 0, .int .i64 0, .int .i64 0] true, .row [.string ⟨#[]⟩, .string ⟨#[48, 48, 49]⟩, .slice (some ⟨59, 0, some 1⟩) 3 4, .slice none 0 0, .slice none 0 0, .slice none 0 0, .map (some 13), .int .i64 1, .int .i64 0, .slice (some ⟨14, 0, some 1⟩) 5 5, .slice (some ⟨15, 0, some 1⟩) 3 3, .slice none 0 0, .slice (some ⟨61, 0, some 1⟩) 2 3] true]) (List.append (List.replicate 42 AObj.dead) (List.append ([.row [.int .i64 3, .int .i64 5, .int .i64 0] true]) (List.append (List.replicate 1 AObj.dead) (List.append ([.row [.string ⟨#[116, 105, 100, 101, 32, 45, 32, 48, 48, 49]⟩, .string ⟨#[112, 111, 117, 114, 32, 48, 32, 49]⟩] true]) (List.replicate 1213 AObj.dead)))))))
noncomputable def awS5 : AHeap := List.append H0 (List.append (List.replicate 1 AObj.dead) (List.append ([.amap [], .row [.int .i64 0, .int .i64 0, .int .i64 0, .int .i64 0, .int .i64 0] true, .row [.int .i64 0, .int .i64 0, .int .i64 0] true, .row [.string ⟨#[]⟩, .string ⟨#[48, 48, 49]⟩, .slice (some ⟨59, 0, some 1⟩) 3 4, .slice (some ⟨1279, 0, some 2⟩) 1 2, .slice none 0 0, .slice none 0 0, .map (some 13), .int .i64 1, .int .i64 0, .slice (some ⟨14, 0, some 1⟩) 5 5, .slice (some ⟨15, 0, some 1⟩) 3 3, .slice none 0 0, .slice (some ⟨1282, 0, some 1⟩) 3 4] true]) (List.append (List.replicate 42 AObj.dead) (List.append ([.row [.int .i64 3, .int .i64 5, .int .i64 0] true]) (List.append (List.replicate 1219 AObj.dead) (List.append ([.row [.int .i64 (-2), .int .i64 4] true]) (List.append (List.replicate 2 AObj.dead) ([.row [.string ⟨#[116, 105, 100, 101, 32, 45, 32, 48, 48, 49]⟩, .string ⟨#[112, 111, 117, 114, 32, 48, 32, 49]⟩, .string ⟨#[112, 108, 97, 110, 107, 32, 45, 50]⟩] true]))))))))
noncomputable def awS6 : AHeap := List.append H0 (List.append (List.replicate 1 AObj.dead) (List.append ([.amap [], .row [.int .i64 0, .int .i64 0, .int .i64 0, .int .i64 0, .int .i64 0] true, .row [.int .i64 0, .int .i64 0, .int .i64 0] true, .row [.string ⟨#[]⟩, .string ⟨#[48, 48, 49]⟩, .slice (some ⟨59, 0, some 1⟩) 3 4, .slice (some ⟨1279, 0, some 2⟩) 1 2, .slice none 0 0, .slice none 0 0, .map (some 13), .int .i64 1, .int .i64 0, .slice (some ⟨14, 0, some 1⟩) 5 5, .slice (some ⟨15, 0, some 1⟩) 3 3, .slice none 0 0, .slice (some ⟨1282, 0, some 1⟩) 3 4] true]) (List.append (List.replicate 42 AObj.dead) (List.append ([.row [.int .i64 3, .int .i64 5, .int .i64 0] true]) (List.append (List.replicate 1219 AObj.dead) (List.append ([.row [.int .i64 (-2), .int .i64 4] true]) (List.append (List.replicate 2 AObj.dead) (List.append ([.row [.string ⟨#[116, 105, 100, 101, 32, 45, 32, 48, 48, 49]⟩, .string ⟨#[112, 111, 117, 114, 32, 48, 32, 49]⟩, .string ⟨#[112, 108, 97, 110, 107, 32, 45, 50]⟩] true]) (List.replicate 15 AObj.dead)))))))))
noncomputable def awS7 : AHeap := List.append H0 (List.append (List.replicate 1 AObj.dead) (List.append ([.amap [], .row [.int .i64 0, .int .i64 0, .int .i64 0, .int .i64 0, .int .i64 0] true, .row [.int .i64 0, .int .i64 0, .int .i64 0] true, .row [.string ⟨#[]⟩, .string ⟨#[48, 48, 49]⟩, .slice (some ⟨59, 0, some 1⟩) 3 4, .slice (some ⟨1279, 0, some 2⟩) 1 2, .slice none 0 0, .slice (some ⟨1303, 0, some 2⟩) 1 2, .map (some 13), .int .i64 1, .int .i64 0, .slice (some ⟨14, 0, some 1⟩) 5 5, .slice (some ⟨15, 0, some 1⟩) 3 3, .slice none 0 0, .slice (some ⟨1305, 0, some 1⟩) 4 5] true]) (List.append (List.replicate 42 AObj.dead) (List.append ([.row [.int .i64 3, .int .i64 5, .int .i64 0] true]) (List.append (List.replicate 1219 AObj.dead) (List.append ([.row [.int .i64 (-2), .int .i64 4] true]) (List.append (List.replicate 23 AObj.dead) (List.append ([.row [.int .i64 0, .int .i64 1] true]) (List.append (List.replicate 1 AObj.dead) ([.row [.string ⟨#[116, 105, 100, 101, 32, 45, 32, 48, 48, 49]⟩, .string ⟨#[112, 111, 117, 114, 32, 48, 32, 49]⟩, .string ⟨#[112, 108, 97, 110, 107, 32, 45, 50]⟩, .string ⟨#[112, 97, 105, 114, 32, 48, 32, 49]⟩] true]))))))))))
noncomputable def awS8 : AHeap := List.append H0 (List.append (List.replicate 1 AObj.dead) (List.append ([.amap [], .row [.int .i64 0, .int .i64 0, .int .i64 0, .int .i64 0, .int .i64 0] true, .row [.int .i64 0, .int .i64 0, .int .i64 0] true, .row [.string ⟨#[]⟩, .string ⟨#[48, 48, 49]⟩, .slice (some ⟨59, 0, some 1⟩) 3 4, .slice (some ⟨1279, 0, some 2⟩) 1 2, .slice none 0 0, .slice (some ⟨1303, 0, some 2⟩) 1 2, .map (some 13), .int .i64 1, .int .i64 0, .slice (some ⟨14, 0, some 1⟩) 5 5, .slice (some ⟨15, 0, some 1⟩) 3 3, .slice none 0 0, .slice (some ⟨1305, 0, some 1⟩) 4 5] true]) (List.append (List.replicate 42 AObj.dead) (List.append ([.row [.int .i64 3, .int .i64 5, .int .i64 0] true]) (List.append (List.replicate 1219 AObj.dead) (List.append ([.row [.int .i64 (-2), .int .i64 4] true]) (List.append (List.replicate 23 AObj.dead) (List.append ([.row [.int .i64 0, .int .i64 1] true]) (List.append (List.replicate 1 AObj.dead) (List.append ([.row [.string ⟨#[116, 105, 100, 101, 32, 45, 32, 48, 48, 49]⟩, .string ⟨#[112, 111, 117, 114, 32, 48, 32, 49]⟩, .string ⟨#[112, 108, 97, 110, 107, 32, 45, 50]⟩, .string ⟨#[112, 97, 105, 114, 32, 48, 32, 49]⟩] true]) (List.replicate 1145 AObj.dead)))))))))))
noncomputable def awS9 : AHeap := List.append H0 (List.append (List.replicate 1 AObj.dead) (List.append ([.amap [], .row [.int .i64 0, .int .i64 0, .int .i64 0, .int .i64 0, .int .i64 0] true, .row [.int .i64 0, .int .i64 0, .int .i64 0] true, .row [.string ⟨#[]⟩, .string ⟨#[48, 48, 49]⟩, .slice (some ⟨59, 0, some 1⟩) 3 4, .slice (some ⟨1279, 0, some 2⟩) 1 2, .slice none 0 0, .slice (some ⟨1303, 0, some 2⟩) 1 2, .map (some 13), .int .i64 2, .int .i64 1, .slice (some ⟨14, 0, some 1⟩) 5 5, .slice (some ⟨15, 0, some 1⟩) 3 3, .slice none 0 0, .slice (some ⟨2469, 0, some 1⟩) 5 6] true]) (List.append (List.replicate 42 AObj.dead) (List.append ([.row [.int .i64 3, .int .i64 5, .int .i64 0] true]) (List.append (List.replicate 1219 AObj.dead) (List.append ([.row [.int .i64 (-2), .int .i64 4] true]) (List.append (List.replicate 23 AObj.dead) (List.append ([.row [.int .i64 0, .int .i64 1] true]) (List.append (List.replicate 1165 AObj.dead) ([.row [.string ⟨#[116, 105, 100, 101, 32, 45, 32, 48, 48, 49]⟩, .string ⟨#[112, 111, 117, 114, 32, 48, 32, 49]⟩, .string ⟨#[112, 108, 97, 110, 107, 32, 45, 50]⟩, .string ⟨#[112, 97, 105, 114, 32, 48, 32, 49]⟩, .string ⟨#[115, 116, 101, 101, 114, 32, 50, 32, 49]⟩] true]))))))))))
noncomputable def awS10 : AHeap := List.append H0 (List.append (List.replicate 1 AObj.dead) (List.append ([.amap [], .row [.int .i64 0, .int .i64 0, .int .i64 0, .int .i64 0, .int .i64 0] true, .row [.int .i64 0, .int .i64 0, .int .i64 0] true, .row [.string ⟨#[]⟩, .string ⟨#[48, 48, 49]⟩, .slice (some ⟨59, 0, some 1⟩) 3 4, .slice (some ⟨1279, 0, some 2⟩) 1 2, .slice none 0 0, .slice (some ⟨1303, 0, some 2⟩) 1 2, .map (some 13), .int .i64 2, .int .i64 1, .slice (some ⟨14, 0, some 1⟩) 5 5, .slice (some ⟨15, 0, some 1⟩) 3 3, .slice none 0 0, .slice (some ⟨2469, 0, some 1⟩) 5 6] true]) (List.append (List.replicate 42 AObj.dead) (List.append ([.row [.int .i64 3, .int .i64 5, .int .i64 0] true]) (List.append (List.replicate 1219 AObj.dead) (List.append ([.row [.int .i64 (-2), .int .i64 4] true]) (List.append (List.replicate 23 AObj.dead) (List.append ([.row [.int .i64 0, .int .i64 1] true]) (List.append (List.replicate 1165 AObj.dead) (List.append ([.row [.string ⟨#[116, 105, 100, 101, 32, 45, 32, 48, 48, 49]⟩, .string ⟨#[112, 111, 117, 114, 32, 48, 32, 49]⟩, .string ⟨#[112, 108, 97, 110, 107, 32, 45, 50]⟩, .string ⟨#[112, 97, 105, 114, 32, 48, 32, 49]⟩, .string ⟨#[115, 116, 101, 101, 114, 32, 50, 32, 49]⟩] true]) (List.replicate 18 AObj.dead)))))))))))
noncomputable def awS11 : AHeap := List.append H0 (List.append (List.replicate 1 AObj.dead) (List.append ([.amap []]) (List.append (List.replicate 1 AObj.dead) (List.append ([.row [.int .i64 0, .int .i64 0, .int .i64 0] true, .row [.string ⟨#[]⟩, .string ⟨#[48, 48, 49]⟩, .slice (some ⟨59, 0, some 1⟩) 3 4, .slice (some ⟨1279, 0, some 2⟩) 1 2, .slice none 0 0, .slice (some ⟨1303, 0, some 2⟩) 1 2, .map (some 13), .int .i64 2, .int .i64 1, .slice (some ⟨2493, 0, some 1⟩) 5 6, .slice (some ⟨15, 0, some 1⟩) 3 3, .slice none 0 0, .slice (some ⟨2495, 0, some 1⟩) 6 7] true]) (List.append (List.replicate 42 AObj.dead) (List.append ([.row [.int .i64 3, .int .i64 5, .int .i64 0] true]) (List.append (List.replicate 1219 AObj.dead) (List.append ([.row [.int .i64 (-2), .int .i64 4] true]) (List.append (List.replicate 23 AObj.dead) (List.append ([.row [.int .i64 0, .int .i64 1] true]) (List.append (List.replicate 1189 AObj.dead) (List.append ([.row [.int .i64 0, .int .i64 0, .int .i64 4, .int .i64 0, .int .i64 0] true]) (List.append (List.replicate 1 AObj.dead) ([.row [.string ⟨#[116, 105, 100, 101, 32, 45, 32, 48, 48, 49]⟩, .string ⟨#[112, 111, 117, 114, 32, 48, 32, 49]⟩, .string ⟨#[112, 108, 97, 110, 107, 32, 45, 50]⟩, .string ⟨#[112, 97, 105, 114, 32, 48, 32, 49]⟩, .string ⟨#[115, 116, 101, 101, 114, 32, 50, 32, 49]⟩, .string ⟨#[98, 114, 105, 110, 103, 32, 50, 32, 52]⟩] true]))))))))))))))
noncomputable def awS12 : AHeap := List.append H0 (List.append (List.replicate 1 AObj.dead) (List.append ([.amap []]) (List.append (List.replicate 1 AObj.dead) (List.append ([.row [.int .i64 0, .int .i64 0, .int .i64 0] true, .row [.string ⟨#[]⟩, .string ⟨#[48, 48, 49]⟩, .slice (some ⟨59, 0, some 1⟩) 3 4, .slice (some ⟨1279, 0, some 2⟩) 1 2, .slice none 0 0, .slice (some ⟨1303, 0, some 2⟩) 1 2, .map (some 13), .int .i64 2, .int .i64 1, .slice (some ⟨2493, 0, some 1⟩) 5 6, .slice (some ⟨15, 0, some 1⟩) 3 3, .slice none 0 0, .slice (some ⟨2495, 0, some 1⟩) 6 7] true]) (List.append (List.replicate 42 AObj.dead) (List.append ([.row [.int .i64 3, .int .i64 5, .int .i64 0] true]) (List.append (List.replicate 1219 AObj.dead) (List.append ([.row [.int .i64 (-2), .int .i64 4] true]) (List.append (List.replicate 23 AObj.dead) (List.append ([.row [.int .i64 0, .int .i64 1] true]) (List.append (List.replicate 1189 AObj.dead) (List.append ([.row [.int .i64 0, .int .i64 0, .int .i64 4, .int .i64 0, .int .i64 0] true]) (List.append (List.replicate 1 AObj.dead) (List.append ([.row [.string ⟨#[116, 105, 100, 101, 32, 45, 32, 48, 48, 49]⟩, .string ⟨#[112, 111, 117, 114, 32, 48, 32, 49]⟩, .string ⟨#[112, 108, 97, 110, 107, 32, 45, 50]⟩, .string ⟨#[112, 97, 105, 114, 32, 48, 32, 49]⟩, .string ⟨#[115, 116, 101, 101, 114, 32, 50, 32, 49]⟩, .string ⟨#[98, 114, 105, 110, 103, 32, 50, 32, 52]⟩] true]) (List.replicate 328 AObj.dead)))))))))))))))
noncomputable def awS13 : AHeap := List.append H0 (List.append (List.replicate 1 AObj.dead) (List.append ([.amap []]) (List.append (List.replicate 1 AObj.dead) (List.append ([.row [.int .i64 8, .int .i64 0, .int .i64 0] true, .row [.string ⟨#[]⟩, .string ⟨#[48, 48, 49]⟩, .slice (some ⟨59, 0, some 1⟩) 3 4, .slice (some ⟨1279, 0, some 2⟩) 1 2, .slice none 0 0, .slice (some ⟨1303, 0, some 2⟩) 1 2, .map (some 13), .int .i64 2, .int .i64 1, .slice (some ⟨2493, 0, some 1⟩) 5 6, .slice (some ⟨15, 0, some 1⟩) 3 3, .slice none 0 0, .slice (some ⟨2829, 0, some 1⟩) 7 8] true]) (List.append (List.replicate 42 AObj.dead) (List.append ([.row [.int .i64 3, .int .i64 5, .int .i64 0] true]) (List.append (List.replicate 1219 AObj.dead) (List.append ([.row [.int .i64 (-2), .int .i64 4] true]) (List.append (List.replicate 23 AObj.dead) (List.append ([.row [.int .i64 0, .int .i64 1] true]) (List.append (List.replicate 1189 AObj.dead) (List.append ([.row [.int .i64 0, .int .i64 0, .int .i64 4, .int .i64 0, .int .i64 0] true]) (List.append (List.replicate 335 AObj.dead) ([.row [.string ⟨#[116, 105, 100, 101, 32, 45, 32, 48, 48, 49]⟩, .string ⟨#[112, 111, 117, 114, 32, 48, 32, 49]⟩, .string ⟨#[112, 108, 97, 110, 107, 32, 45, 50]⟩, .string ⟨#[112, 97, 105, 114, 32, 48, 32, 49]⟩, .string ⟨#[115, 116, 101, 101, 114, 32, 50, 32, 49]⟩, .string ⟨#[98, 114, 105, 110, 103, 32, 50, 32, 52]⟩, .string ⟨#[102, 105, 108, 108, 32, 48, 32, 56]⟩] true]))))))))))))))
noncomputable def awS14 : AHeap := List.append H0 (List.append (List.replicate 1 AObj.dead) (List.append ([.amap []]) (List.append (List.replicate 1 AObj.dead) (List.append ([.row [.int .i64 8, .int .i64 0, .int .i64 0] true, .row [.string ⟨#[]⟩, .string ⟨#[48, 48, 49]⟩, .slice (some ⟨59, 0, some 1⟩) 3 4, .slice (some ⟨1279, 0, some 2⟩) 1 2, .slice none 0 0, .slice (some ⟨1303, 0, some 2⟩) 1 2, .map (some 13), .int .i64 2, .int .i64 1, .slice (some ⟨2493, 0, some 1⟩) 5 6, .slice (some ⟨15, 0, some 1⟩) 3 3, .slice none 0 0, .slice (some ⟨2829, 0, some 1⟩) 7 8] true]) (List.append (List.replicate 42 AObj.dead) (List.append ([.row [.int .i64 3, .int .i64 5, .int .i64 0] true]) (List.append (List.replicate 1219 AObj.dead) (List.append ([.row [.int .i64 (-2), .int .i64 4] true]) (List.append (List.replicate 23 AObj.dead) (List.append ([.row [.int .i64 0, .int .i64 1] true]) (List.append (List.replicate 1189 AObj.dead) (List.append ([.row [.int .i64 0, .int .i64 0, .int .i64 4, .int .i64 0, .int .i64 0] true]) (List.append (List.replicate 335 AObj.dead) (List.append ([.row [.string ⟨#[116, 105, 100, 101, 32, 45, 32, 48, 48, 49]⟩, .string ⟨#[112, 111, 117, 114, 32, 48, 32, 49]⟩, .string ⟨#[112, 108, 97, 110, 107, 32, 45, 50]⟩, .string ⟨#[112, 97, 105, 114, 32, 48, 32, 49]⟩, .string ⟨#[115, 116, 101, 101, 114, 32, 50, 32, 49]⟩, .string ⟨#[98, 114, 105, 110, 103, 32, 50, 32, 52]⟩, .string ⟨#[102, 105, 108, 108, 32, 48, 32, 56]⟩] true]) (List.replicate 93 AObj.dead)))))))))))))))
noncomputable def awS15 : AHeap := List.append H0 (List.append (List.replicate 1 AObj.dead) (List.append ([.amap []]) (List.append (List.replicate 1 AObj.dead) (List.append ([.row [.int .i64 8, .int .i64 0, .int .i64 0] true, .row [.string ⟨#[]⟩, .string ⟨#[48, 48, 49]⟩, .slice (some ⟨59, 0, some 1⟩) 3 4, .slice (some ⟨1279, 0, some 2⟩) 1 2, .slice none 0 0, .slice (some ⟨1303, 0, some 2⟩) 1 2, .map (some 13), .int .i64 2, .int .i64 1, .slice (some ⟨2493, 0, some 1⟩) 5 6, .slice (some ⟨15, 0, some 1⟩) 3 3, .slice none 0 0, .slice (some ⟨2829, 0, some 1⟩) 7 8] true]) (List.append (List.replicate 42 AObj.dead) (List.append ([.row [.int .i64 3, .int .i64 5, .int .i64 0] true]) (List.append (List.replicate 1219 AObj.dead) (List.append ([.row [.int .i64 (-2), .int .i64 4] true]) (List.append (List.replicate 23 AObj.dead) (List.append ([.row [.int .i64 0, .int .i64 1] true]) (List.append (List.replicate 1189 AObj.dead) (List.append ([.row [.int .i64 0, .int .i64 0, .int .i64 4, .int .i64 0, .int .i64 0] true]) (List.append (List.replicate 335 AObj.dead) (List.append ([.row [.string ⟨#[116, 105, 100, 101, 32, 45, 32, 48, 48, 49]⟩, .string ⟨#[112, 111, 117, 114, 32, 48, 32, 49]⟩, .string ⟨#[112, 108, 97, 110, 107, 32, 45, 50]⟩, .string ⟨#[112, 97, 105, 114, 32, 48, 32, 49]⟩, .string ⟨#[115, 116, 101, 101, 114, 32, 50, 32, 49]⟩, .string ⟨#[98, 114, 105, 110, 103, 32, 50, 32, 52]⟩, .string ⟨#[102, 105, 108, 108, 32, 48, 32, 56]⟩] true]) (List.replicate 113 AObj.dead)))))))))))))))
/-- tide - 001 -> ok -/
noncomputable def awE1 : Ent := ⟨[116, 105, 100, 101, 32, 45, 32, 48, 48, 49], awS0, [111, 107], awS1⟩
/-- next 3 -> next 2 -/
noncomputable def awE2 : Ent := ⟨[110, 101, 120, 116, 32, 51], awS1, [110, 101, 120, 116, 32, 50], awS2⟩
/-- pour 0 1 -> ok -/
noncomputable def awE3 : Ent := ⟨[112, 111, 117, 114, 32, 48, 32, 49], awS2, [111, 107], awS3⟩
/-- even -> even 6 -/
noncomputable def awE4 : Ent := ⟨[101, 118, 101, 110], awS3, [101, 118, 101, 110, 32, 54], awS4⟩
/-- plank -2 -> ok -/
noncomputable def awE5 : Ent := ⟨[112, 108, 97, 110, 107, 32, 45, 50], awS4, [111, 107], awS5⟩
/-- tower -> tower stands -/
noncomputable def awE6 : Ent := ⟨[116, 111, 119, 101, 114], awS5, [116, 111, 119, 101, 114, 32, 115, 116, 97, 110, 100, 115], awS6⟩
/-- pair 0 1 -> ok -/
noncomputable def awE7 : Ent := ⟨[112, 97, 105, 114, 32, 48, 32, 49], awS6, [111, 107], awS7⟩
/-- words -> words 360 -/
noncomputable def awE8 : Ent := ⟨[119, 111, 114, 100, 115], awS7, [119, 111, 114, 100, 115, 32, 51, 54, 48], awS8⟩
/-- steer 2 1 -> ok -/
noncomputable def awE9 : Ent := ⟨[115, 116, 101, 101, 114, 32, 50, 32, 49], awS8, [111, 107], awS9⟩
/-- course -> course 2 1 5 -/
noncomputable def awE10 : Ent := ⟨[99, 111, 117, 114, 115, 101], awS9, [99, 111, 117, 114, 115, 101, 32, 50, 32, 49, 32, 53], awS10⟩
/-- bring 2 4 -> ok -/
noncomputable def awE11 : Ent := ⟨[98, 114, 105, 110, 103, 32, 50, 32, 52], awS10, [111, 107], awS11⟩
/-- most 0 -> most 1 -/
noncomputable def awE12 : Ent := ⟨[109, 111, 115, 116, 32, 48], awS11, [109, 111, 115, 116, 32, 49], awS12⟩
/-- fill 0 8 -> ok -/
noncomputable def awE13 : Ent := ⟨[102, 105, 108, 108, 32, 48, 32, 56], awS12, [111, 107], awS13⟩
/-- levels -> levels 5/1 3/2 0/1 -/
noncomputable def awE14 : Ent := ⟨[108, 101, 118, 101, 108, 115], awS13, [108, 101, 118, 101, 108, 115, 32, 53, 47, 49, 32, 51, 47, 50, 32, 48, 47, 49], awS14⟩
/-- circle -> error 40 -/
noncomputable def awE15 : Ent := ⟨[99, 105, 114, 99, 108, 101], awS14, [101, 114, 114, 111, 114, 32, 52, 48], awS15⟩
noncomputable def awTab : List Ent := [awE1, awE2, awE3, awE4, awE5, awE6, awE7, awE8, awE9, awE10, awE11, awE12, awE13, awE14, awE15]
end Go.Proofs.YtknpjlcgjlnfbaaGreatDoor

set_option maxRecDepth 100000
namespace Go.Proofs.YtknpjlcgjlnfbaaGreatDoor
theorem awE1_ok : stepOK awE1 = true := by kernel_rfl
theorem awE2_ok : stepOK awE2 = true := by kernel_rfl
theorem awE3_ok : stepOK awE3 = true := by kernel_rfl
theorem awE5_ok : stepOK awE5 = true := by kernel_rfl
theorem awE6_ok : stepOK awE6 = true := by kernel_rfl
theorem awE7_ok : stepOK awE7 = true := by kernel_rfl
theorem awE9_ok : stepOK awE9 = true := by kernel_rfl
theorem awE10_ok : stepOK awE10 = true := by kernel_rfl
theorem awE11_ok : stepOK awE11 = true := by kernel_rfl
theorem awE13_ok : stepOK awE13 = true := by kernel_rfl
end Go.Proofs.YtknpjlcgjlnfbaaGreatDoor

set_option maxRecDepth 100000
namespace Go.Proofs.YtknpjlcgjlnfbaaGreatDoor
theorem awE4_ok : stepOK awE4 = true := by kernel_rfl
end Go.Proofs.YtknpjlcgjlnfbaaGreatDoor

set_option maxRecDepth 100000
namespace Go.Proofs.YtknpjlcgjlnfbaaGreatDoor
theorem awE8_ok : stepOK awE8 = true := by kernel_rfl
end Go.Proofs.YtknpjlcgjlnfbaaGreatDoor

set_option maxRecDepth 100000
namespace Go.Proofs.YtknpjlcgjlnfbaaGreatDoor
theorem awE12_ok : stepOK awE12 = true := by kernel_rfl
theorem awE14_ok : stepOK awE14 = true := by kernel_rfl
theorem awE15_ok : stepOK awE15 = true := by kernel_rfl
end Go.Proofs.YtknpjlcgjlnfbaaGreatDoor

set_option maxRecDepth 100000
namespace Go.Proofs.YtknpjlcgjlnfbaaGreatDoor
open Go Go.AM Go.AMT
theorem awTab_ok : ∀ e ∈ awTab, stepOK e = true := by
  intro e he
  unfold awTab at he
  simp only [List.mem_cons, List.not_mem_nil, or_false] at he
  rcases he with rfl | rfl | rfl | rfl | rfl | rfl | rfl | rfl | rfl | rfl | rfl | rfl | rfl | rfl | rfl
  · exact awE1_ok
  · exact awE2_ok
  · exact awE3_ok
  · exact awE4_ok
  · exact awE5_ok
  · exact awE6_ok
  · exact awE7_ok
  · exact awE8_ok
  · exact awE9_ok
  · exact awE10_ok
  · exact awE11_ok
  · exact awE12_ok
  · exact awE13_ok
  · exact awE14_ok
  · exact awE15_ok
end Go.Proofs.YtknpjlcgjlnfbaaGreatDoor

set_option maxRecDepth 100000
namespace Go.Proofs.YtknpjlcgjlnfbaaGreatDoor
open Go Go.AM
theorem awake_run : callTrue (acall Tryz.prog (AXD awTab) 60 (.fn 34) [] H0) = true := by kernel_rfl
end Go.Proofs.YtknpjlcgjlnfbaaGreatDoor
