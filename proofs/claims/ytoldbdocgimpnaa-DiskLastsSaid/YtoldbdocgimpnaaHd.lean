/-
  The types of this seat's program, as the small logic looks them up.
-/
import Derived.Test.YtoldbdocgimpnaaProg
import Derived.Test.YtoldbdocgimpnaaVcR
import Derived.KernelRfl
namespace Go.Proofs.Ytoldbdocgimpnaa
open Go.Vc
noncomputable def ti3 : TI := ⟨Try.t3.desc, 1, 8, Value.int .i64 0⟩
noncomputable def ti4 : TI := ⟨Try.t4.desc, 1, 1, Value.bool false⟩
noncomputable def ti5 : TI := ⟨Try.t5.desc, 1, 1, Value.int .u8 0⟩
noncomputable def ti22 : TI := ⟨Try.t22.desc, 1, 24, Value.slice none 0 0⟩
noncomputable def ti24 : TI := ⟨Try.t24.desc, 1, 8, Value.pointer none⟩
noncomputable def ti25 : TI := ⟨Try.t3.desc, 1, 8, Value.int .i64 0⟩
noncomputable def ti29 : TI := ⟨Try.t28.desc, 64, 64, Value.agg (List.replicate 64 (Value.int .u8 0)).toArray⟩
noncomputable def ti31 : TI := ⟨Try.t30.desc, 384, 384, Value.agg (List.replicate 384 (Value.int .u8 0)).toArray⟩
noncomputable def ti33 : TI := ⟨Try.t33.desc, 1, 24, Value.slice none 0 0⟩
noncomputable def ti35 : TI := ⟨Try.t34.desc, 4, 48, Value.agg ([Value.int .i64 0, Value.int .i64 0, Value.int .u8 0, Value.slice none 0 0]).toArray⟩
noncomputable def ti40 : TI := ⟨Try.t40.desc, 1, 24, Value.slice none 0 0⟩
noncomputable def ti45 : TI := ⟨Try.t45.desc, 1, 8, Value.nilFunc⟩
noncomputable def ti46 : TI := ⟨Try.t46.desc, 1, 24, Value.slice none 0 0⟩
noncomputable def ti48 : TI := ⟨Try.t47.desc, 6, 64, Value.agg ([Value.int .i64 0, Value.slice none 0 0, Value.bool false, Value.int .i64 0, Value.int .i64 0, Value.int .i64 0]).toArray⟩
noncomputable def ti61 : TI := ⟨Try.t61.desc, 1, 8, Value.int .u64 0⟩
noncomputable def ti66 : TI := ⟨Try.t66.desc, 1, 24, Value.slice none 0 0⟩
noncomputable def ti67 : TI := ⟨Try.t67.desc, 6, 144, Value.agg ([Value.slice none 0 0, Value.slice none 0 0, Value.slice none 0 0, Value.slice none 0 0, Value.slice none 0 0, Value.slice none 0 0]).toArray⟩
noncomputable def ti74 : TI := ⟨Try.t74.desc, 1, 24, Value.slice none 0 0⟩
noncomputable def ti76 : TI := ⟨Try.t75.desc, 6, 80, Value.agg ([Value.slice none 0 0, Value.slice none 0 0, Value.bool false, Value.int .i64 0, Value.int .i64 0, Value.int .i64 0]).toArray⟩
noncomputable def ti87 : TI := ⟨Try.t87.desc, 1, 8, Value.pointer none⟩
noncomputable def ti88 : TI := ⟨Try.t88.desc, 1, 8, Value.nilFunc⟩
noncomputable def ti90 : TI := ⟨Try.t89.desc, 66, 80, Value.agg ([Value.int .i64 0] ++ List.replicate 64 (Value.int .u8 0) ++ [Value.bool false]).toArray⟩
noncomputable def ti92 : TI := ⟨Try.t91.desc, 64, 64, Value.agg (List.replicate 64 (Value.int .u8 0)).toArray⟩
noncomputable def ti94 : TI := ⟨Try.t93.desc, 65, 88, Value.agg (List.replicate 64 (Value.int .u8 0) ++ [Value.slice none 0 0]).toArray⟩
noncomputable def ti96 : TI := ⟨Try.t96.desc, 1, 8, Value.pointer none⟩
noncomputable def ti97 : TI := ⟨Try.t97.desc, 1, 8, Value.nilFunc⟩
noncomputable def I : Info := [(3, ti3), (4, ti4), (5, ti5), (22, ti22), (24, ti24), (25, ti25), (29, ti29), (31, ti31), (33, ti33), (35, ti35), (40, ti40), (45, ti45), (46, ti46), (48, ti48), (61, ti61), (66, ti66), (67, ti67), (74, ti74), (76, ti76), (87, ti87), (88, ti88), (90, ti90), (92, ti92), (94, ti94), (96, ti96), (97, ti97)]
theorem ti3_ok : ti3.Ok Try.prog 3 := ⟨Try.underlying3, by kernel_rfl⟩
theorem ti4_ok : ti4.Ok Try.prog 4 := ⟨Try.underlying4, by kernel_rfl⟩
theorem ti5_ok : ti5.Ok Try.prog 5 := ⟨Try.underlying5, by kernel_rfl⟩
theorem ti22_ok : ti22.Ok Try.prog 22 := ⟨Try.underlying22, by kernel_rfl⟩
theorem ti24_ok : ti24.Ok Try.prog 24 := ⟨Try.underlying24, by kernel_rfl⟩
theorem ti25_ok : ti25.Ok Try.prog 25 := ⟨Try.underlying25, by kernel_rfl⟩
theorem ti29_ok : ti29.Ok Try.prog 29 := ⟨Try.underlying29, by kernel_rfl⟩
theorem ti31_ok : ti31.Ok Try.prog 31 := ⟨Try.underlying31, by kernel_rfl⟩
theorem ti33_ok : ti33.Ok Try.prog 33 := ⟨Try.underlying33, by kernel_rfl⟩
theorem ti35_ok : ti35.Ok Try.prog 35 := ⟨Try.underlying35, by kernel_rfl⟩
theorem ti40_ok : ti40.Ok Try.prog 40 := ⟨Try.underlying40, by kernel_rfl⟩
theorem ti45_ok : ti45.Ok Try.prog 45 := ⟨Try.underlying45, by kernel_rfl⟩
theorem ti46_ok : ti46.Ok Try.prog 46 := ⟨Try.underlying46, by kernel_rfl⟩
theorem ti48_ok : ti48.Ok Try.prog 48 := ⟨Try.underlying48, by kernel_rfl⟩
theorem ti61_ok : ti61.Ok Try.prog 61 := ⟨Try.underlying61, by kernel_rfl⟩
theorem ti66_ok : ti66.Ok Try.prog 66 := ⟨Try.underlying66, by kernel_rfl⟩
theorem ti67_ok : ti67.Ok Try.prog 67 := ⟨Try.underlying67, by kernel_rfl⟩
theorem ti74_ok : ti74.Ok Try.prog 74 := ⟨Try.underlying74, by kernel_rfl⟩
theorem ti76_ok : ti76.Ok Try.prog 76 := ⟨Try.underlying76, by kernel_rfl⟩
theorem ti87_ok : ti87.Ok Try.prog 87 := ⟨Try.underlying87, by kernel_rfl⟩
theorem ti88_ok : ti88.Ok Try.prog 88 := ⟨Try.underlying88, by kernel_rfl⟩
theorem ti90_ok : ti90.Ok Try.prog 90 := ⟨Try.underlying90, by kernel_rfl⟩
theorem ti92_ok : ti92.Ok Try.prog 92 := ⟨Try.underlying92, by kernel_rfl⟩
theorem ti94_ok : ti94.Ok Try.prog 94 := ⟨Try.underlying94, by kernel_rfl⟩
theorem ti96_ok : ti96.Ok Try.prog 96 := ⟨Try.underlying96, by kernel_rfl⟩
theorem ti97_ok : ti97.Ok Try.prog 97 := ⟨Try.underlying97, by kernel_rfl⟩
theorem I_ok : I.Ok Try.prog := ⟨ti3_ok, ti4_ok, ti5_ok, ti22_ok, ti24_ok, ti25_ok, ti29_ok, ti31_ok, ti33_ok, ti35_ok, ti40_ok, ti45_ok, ti46_ok, ti48_ok, ti61_ok, ti66_ok, ti67_ok, ti74_ok, ti76_ok, ti87_ok, ti88_ok, ti90_ok, ti92_ok, ti94_ok, ti96_ok, ti97_ok, trivial⟩
end Go.Proofs.Ytoldbdocgimpnaa
