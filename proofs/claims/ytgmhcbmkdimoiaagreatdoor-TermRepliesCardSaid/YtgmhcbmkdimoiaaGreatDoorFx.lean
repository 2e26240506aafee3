/-
  Whatever the table tells of a function, the function does. No conditions.
-/
import Derived.Test.YtgmhcbmkdimoiaaGreatDoorTb
import Derived.Test.YtgmhcbmkdimoiaaGreatDoorProg
import Derived.Shelf.SlIterI.Sorted
import Derived.Shelf.SlIterI.Keys
import Derived.Shelf.SortM.Plain
import Derived.Shelf.SortM.SortNone
import Derived.Ground.GgzProg
import Derived.Ground.SlgmProg
import Derived.KernelRfl
set_option maxRecDepth 100000
namespace Go.Proofs
open Go.RowKit Go.Maps Go.Sort Go.Shelf
def Tryz.keysA_ren : Go.Shelf.Ren := ⟨fun | 7 => 112 | 10 => 173 | n => n, fun | 23 => 166 | 26 => 3 | 3 => 216 | 28 => 213 | 0 => 0 | 27 => 212 | 33 => 143 | 4 => 4 | n => n, fun | n => n⟩
theorem Tryz.keysA : Go.Proofs.SlLaysZI.n7 Tryz.prog Tryz.keysA_ren := {
  mixed := by kernel_rfl,
  f7 := ⟨Tryz.f112.name, by decide, Tryz.func112.trans (congrArg some (by kernel_rfl))⟩,
  f10 := ⟨Tryz.f173.name, by decide, Tryz.func173.trans (congrArg some (by kernel_rfl))⟩,
  t0 := Tryz.underlying0,
  a0 := Tryz.isAgg0,
  z0 := Tryz.sizeOf0,
  v0 := Tryz.zeroValue0,
  t4 := Tryz.underlying4,
  a4 := Tryz.isAgg4,
  z4 := Tryz.sizeOf4,
  v4 := Tryz.zeroValue4,
  t23 := Tryz.underlying166,
  a23 := Tryz.isAgg166,
  z23 := Tryz.sizeOf166,
  v23 := Tryz.zeroValue166,
  t26 := Tryz.underlying3,
  a26 := Tryz.isAgg3,
  z26 := Tryz.sizeOf3,
  v26 := Tryz.zeroValue3,
  t27 := Tryz.underlying212,
  a27 := Tryz.isAgg212,
  z27 := Tryz.sizeOf212,
  v27 := Tryz.zeroValue212,
  t28 := Tryz.underlying213,
  a28 := Tryz.isAgg213,
  z28 := Tryz.sizeOf213,
  v28 := Tryz.zeroValue213,
  t33 := Tryz.underlying143,
  a33 := Tryz.isAgg143,
  z33 := Tryz.sizeOf143,
  v33 := Tryz.zeroValue143 }
def Tryz.keysB_ren : Go.Shelf.Ren := ⟨fun | 7 => 262 | 10 => 329 | n => n, fun | 23 => 94 | 26 => 3 | 3 => 4 | 28 => 213 | 0 => 0 | 27 => 212 | 33 => 143 | 4 => 4 | n => n, fun | n => n⟩
theorem Tryz.keysB : Go.Proofs.SlLaysZI.n7 Tryz.prog Tryz.keysB_ren := {
  mixed := by kernel_rfl,
  f7 := ⟨Tryz.f262.name, by decide, Tryz.func262.trans (congrArg some (by kernel_rfl))⟩,
  f10 := ⟨Tryz.f329.name, by decide, Tryz.func329.trans (congrArg some (by kernel_rfl))⟩,
  t0 := Tryz.underlying0,
  a0 := Tryz.isAgg0,
  z0 := Tryz.sizeOf0,
  v0 := Tryz.zeroValue0,
  t4 := Tryz.underlying4,
  a4 := Tryz.isAgg4,
  z4 := Tryz.sizeOf4,
  v4 := Tryz.zeroValue4,
  t23 := Tryz.underlying94,
  a23 := Tryz.isAgg94,
  z23 := Tryz.sizeOf94,
  v23 := Tryz.zeroValue94,
  t26 := Tryz.underlying3,
  a26 := Tryz.isAgg3,
  z26 := Tryz.sizeOf3,
  v26 := Tryz.zeroValue3,
  t27 := Tryz.underlying212,
  a27 := Tryz.isAgg212,
  z27 := Tryz.sizeOf212,
  v27 := Tryz.zeroValue212,
  t28 := Tryz.underlying213,
  a28 := Tryz.isAgg213,
  z28 := Tryz.sizeOf213,
  v28 := Tryz.zeroValue213,
  t33 := Tryz.underlying143,
  a33 := Tryz.isAgg143,
  z33 := Tryz.sizeOf143,
  v33 := Tryz.zeroValue143 }
def Tryz.sortedA_ren : Go.Shelf.Ren := ⟨fun | 6 => 111 | 8 => 171 | 9 => 172 | 11 => 253 | 13 => 255 | 12 => 254 | 23 => 326 | 24 => 327 | 14 => 317 | 15 => 318 | 16 => 319 | 17 => 320 | 18 => 321 | 19 => 322 | 20 => 323 | 21 => 324 | 22 => 325 | 25 => 364 | 26 => 365 | 27 => 366 | 28 => 367 | 29 => 368 | 30 => 369 | 31 => 395 | n => n, fun | 26 => 3 | 28 => 213 | 24 => 22 | 0 => 0 | 3 => 3 | 37 => 308 | 48 => 363 | 50 => 365 | 4 => 4 | 40 => 357 | 39 => 356 | 45 => 284 | 5 => 5 | 9 => 9 | 51 => 403 | 55 => 329 | 57 => 420 | 58 => 161 | 33 => 143 | n => n, fun | n => n⟩
theorem Tryz.sortedA : Go.Proofs.SlLaysZI.n6 Tryz.prog Tryz.sortedA_ren := {
  mixed := by kernel_rfl,
  f6 := ⟨Tryz.f111.name, by decide, Tryz.func111.trans (congrArg some (by kernel_rfl))⟩,
  f8 := ⟨Tryz.f171.name, by decide, Tryz.func171.trans (congrArg some (by kernel_rfl))⟩,
  f11 := ⟨Tryz.f253.name, by decide, Tryz.func253.trans (congrArg some (by kernel_rfl))⟩,
  t0 := Tryz.underlying0,
  a0 := Tryz.isAgg0,
  z0 := Tryz.sizeOf0,
  v0 := Tryz.zeroValue0,
  t24 := Tryz.underlying22,
  a24 := Tryz.isAgg22,
  z24 := Tryz.sizeOf22,
  v24 := Tryz.zeroValue22,
  t26 := Tryz.underlying3,
  a26 := Tryz.isAgg3,
  z26 := Tryz.sizeOf3,
  v26 := Tryz.zeroValue3,
  t28 := Tryz.underlying213,
  a28 := Tryz.isAgg213,
  z28 := Tryz.sizeOf213,
  v28 := Tryz.zeroValue213,
  i26 := by kernel_rfl }
def Tryz.sortA_ren : Go.Shelf.Ren := ⟨fun | 5 => 172 | 8 => 255 | 7 => 254 | 19 => 326 | 20 => 327 | 10 => 317 | 11 => 318 | 12 => 319 | 13 => 320 | 14 => 321 | 15 => 322 | 16 => 323 | 17 => 324 | 18 => 325 | 30 => 364 | 31 => 365 | 32 => 366 | 33 => 367 | 34 => 368 | 35 => 369 | 40 => 395 | n => n, fun | 23 => 22 | 25 => 3 | 3 => 3 | 32 => 308 | 22 => 22 | 0 => 0 | 44 => 363 | 46 => 365 | 4 => 4 | 36 => 357 | 35 => 356 | 41 => 284 | 5 => 5 | 9 => 9 | 53 => 403 | 57 => 329 | 63 => 420 | 64 => 161 | n => n, fun | n => n⟩
theorem Tryz.sortA : Go.Proofs.SlLaysM.n5 Tryz.prog Tryz.sortA_ren := {
  mixed := by kernel_rfl,
  f5 := ⟨Tryz.f172.name, by decide, Tryz.func172.trans (congrArg some (by kernel_rfl))⟩,
  f7 := ⟨Tryz.f254.name, by decide, Tryz.func254.trans (congrArg some (by kernel_rfl))⟩,
  f8 := Tryz.func255.trans (congrArg some (by kernel_rfl)),
  f10 := ⟨Tryz.f317.name, by decide, Tryz.func317.trans (congrArg some (by kernel_rfl))⟩,
  f11 := ⟨Tryz.f318.name, by decide, Tryz.func318.trans (congrArg some (by kernel_rfl))⟩,
  f12 := ⟨Tryz.f319.name, by decide, Tryz.func319.trans (congrArg some (by kernel_rfl))⟩,
  f13 := ⟨Tryz.f320.name, by decide, Tryz.func320.trans (congrArg some (by kernel_rfl))⟩,
  f14 := ⟨Tryz.f321.name, by decide, Tryz.func321.trans (congrArg some (by kernel_rfl))⟩,
  f15 := ⟨Tryz.f322.name, by decide, Tryz.func322.trans (congrArg some (by kernel_rfl))⟩,
  f16 := ⟨Tryz.f323.name, by decide, Tryz.func323.trans (congrArg some (by kernel_rfl))⟩,
  f17 := ⟨Tryz.f324.name, by decide, Tryz.func324.trans (congrArg some (by kernel_rfl))⟩,
  f18 := ⟨Tryz.f325.name, by decide, Tryz.func325.trans (congrArg some (by kernel_rfl))⟩,
  f19 := Tryz.func326.trans (congrArg some (by kernel_rfl)),
  f20 := Tryz.func327.trans (congrArg some (by kernel_rfl)),
  f30 := ⟨Tryz.f364.name, by decide, Tryz.func364.trans (congrArg some (by kernel_rfl))⟩,
  f31 := Tryz.func365.trans (congrArg some (by kernel_rfl)),
  f32 := Tryz.func366.trans (congrArg some (by kernel_rfl)),
  f33 := ⟨Tryz.f367.name, by decide, Tryz.func367.trans (congrArg some (by kernel_rfl))⟩,
  f34 := ⟨Tryz.f368.name, by decide, Tryz.func368.trans (congrArg some (by kernel_rfl))⟩,
  f35 := ⟨Tryz.f369.name, by decide, Tryz.func369.trans (congrArg some (by kernel_rfl))⟩,
  f40 := ⟨Tryz.f395.name, by decide, Tryz.func395.trans (congrArg some (by kernel_rfl))⟩,
  t0 := Tryz.underlying0,
  a0 := Tryz.isAgg0,
  z0 := Tryz.sizeOf0,
  v0 := Tryz.zeroValue0,
  t3 := Tryz.underlying3,
  a3 := Tryz.isAgg3,
  z3 := Tryz.sizeOf3,
  v3 := Tryz.zeroValue3,
  t4 := Tryz.underlying4,
  a4 := Tryz.isAgg4,
  z4 := Tryz.sizeOf4,
  v4 := Tryz.zeroValue4,
  t5 := Tryz.underlying5,
  a5 := Tryz.isAgg5,
  z5 := Tryz.sizeOf5,
  v5 := Tryz.zeroValue5,
  t9 := Tryz.underlying9,
  a9 := Tryz.isAgg9,
  z9 := Tryz.sizeOf9,
  v9 := Tryz.zeroValue9,
  t22 := Tryz.underlying22,
  a22 := Tryz.isAgg22,
  z22 := Tryz.sizeOf22,
  v22 := Tryz.zeroValue22,
  t23 := Tryz.underlying22,
  a23 := Tryz.isAgg22,
  z23 := Tryz.sizeOf22,
  v23 := Tryz.zeroValue22,
  t25 := Tryz.underlying3,
  a25 := Tryz.isAgg3,
  z25 := Tryz.sizeOf3,
  v25 := Tryz.zeroValue3,
  t32 := Tryz.underlying308,
  a32 := Tryz.isAgg308,
  z32 := Tryz.sizeOf308,
  v32 := Tryz.zeroValue308,
  t35 := Tryz.underlying356,
  a35 := Tryz.isAgg356,
  z35 := Tryz.sizeOf356,
  v35 := Tryz.zeroValue356,
  t36 := Tryz.underlying357,
  a36 := Tryz.isAgg357,
  z36 := Tryz.sizeOf357,
  v36 := Tryz.zeroValue357,
  t41 := Tryz.underlying284,
  a41 := Tryz.isAgg284,
  z41 := Tryz.sizeOf284,
  v41 := Tryz.zeroValue284,
  t44 := Tryz.underlying363,
  a44 := Tryz.isAgg363,
  z44 := Tryz.sizeOf363,
  v44 := Tryz.zeroValue363,
  t46 := Tryz.underlying365,
  a46 := Tryz.isAgg365,
  z46 := Tryz.sizeOf365,
  v46 := Tryz.zeroValue365,
  t53 := Tryz.underlying403,
  a53 := Tryz.isAgg403,
  z53 := Tryz.sizeOf403,
  v53 := Tryz.zeroValue403,
  t57 := Tryz.underlying329,
  a57 := Tryz.isAgg329,
  z57 := Tryz.sizeOf329,
  v57 := Tryz.zeroValue329,
  t63 := Tryz.underlying420,
  a63 := Tryz.isAgg420,
  z63 := Tryz.sizeOf420,
  v63 := Tryz.zeroValue420,
  t64 := Tryz.underlying161,
  a64 := Tryz.isAgg161,
  z64 := Tryz.sizeOf161,
  v64 := Tryz.zeroValue161 }
theorem Tryz.sortsA (m : Nat) : AnyZI.SortsIn Tryz.prog Tryz.sortedA_ren Fence.wide m :=
  ⟨fun blk off cap ss W hH hblk hsz => callsIn_wide.2 (AnyM.slices_Sort_int Tryz.sortA blk off cap ss W hH hblk hsz),
   fun p cap W => callsIn_wide.2 (AnyM.slices_Sort_int_none Tryz.sortA p cap W)⟩
end Go.Proofs
namespace Go.Am
open Go.RowKit Go.Maps Go.Sort Go.Shelf Go.Proofs
theorem t3 : Tryz.prog.underlying 3 = some (.int .i64) := by kernel_rfl
theorem sortsA173 : SortsKeys Tryz.prog 111 3 173 := by
  intro Bm b nn D0 R w hB hm hown h1
  refine (callsIn_wide (n := 5)).1 ?_
  have hseq : SeqGives Fence.wide 2 Tryz.prog 173 #[.pointer (some ⟨Bm, 0, none⟩)] encZ (fun ss => ss.Perm (intKeys D0)) (Maps.size D0) w :=
    AnyZI.keys_gives (ρ := Tryz.keysA_ren) { Tryz.keysA with } Fence.wide _ trivial rfl (by omega) Bm b nn D0 w hB hm hown
  exact AnyZI.sorted_in Tryz.sortedA Fence.wide 5 trivial trivial trivial trivial rfl (by omega) (Tryz.sortsA _) (enters_of Tryz.func172 (by kernel_rfl) rfl) 173 #[.pointer (some ⟨Bm, 0, none⟩)] trivial (enters_of Tryz.func173 (by kernel_rfl) rfl) _ _ (by unfold maxLen; omega) (by omega) _ hseq
theorem sortsA329 : SortsKeys Tryz.prog 111 3 329 := by
  intro Bm b nn D0 R w hB hm hown h1
  refine (callsIn_wide (n := 5)).1 ?_
  have hseq : SeqGives Fence.wide 2 Tryz.prog 329 #[.pointer (some ⟨Bm, 0, none⟩)] encZ (fun ss => ss.Perm (intKeys D0)) (Maps.size D0) w :=
    AnyZI.keys_gives (ρ := Tryz.keysB_ren) { Tryz.keysB with } Fence.wide _ trivial rfl (by omega) Bm b nn D0 w hB hm hown
  exact AnyZI.sorted_in Tryz.sortedA Fence.wide 5 trivial trivial trivial trivial rfl (by omega) (Tryz.sortsA _) (enters_of Tryz.func172 (by kernel_rfl) rfl) 329 #[.pointer (some ⟨Bm, 0, none⟩)] trivial (enters_of Tryz.func329 (by kernel_rfl) rfl) _ _ (by unfold maxLen; omega) (by omega) _ hseq
theorem sortsKeys : ∀ g ∈ ([173, 329] : List Nat), SortsKeys Tryz.prog 111 3 g := by
  intro g hg
  simp only [List.mem_cons, List.not_mem_nil, or_false] at hg
  rcases hg with rfl | rfl
  · exact sortsA173
  · exact sortsA329
theorem x316 : ExternAt Tryz.prog 316 Extern.MapsClone.clone := ⟨_, Tryz.func316, by kernel_rfl, by kernel_rfl, by kernel_rfl, by kernel_rfl⟩
theorem x116 : ExternAt Tryz.prog 116 Extern.AbiNoEscape.same := ⟨_, Tryz.func116, by kernel_rfl, by kernel_rfl, by kernel_rfl, by kernel_rfl⟩
theorem x370 : ExternAt Tryz.prog 370 Extern.BytealgIndexByte.indexByte := ⟨_, Tryz.func370, by kernel_rfl, by kernel_rfl, by kernel_rfl, by kernel_rfl⟩
theorem x371 : ExternAt Tryz.prog 371 Extern.BytealgIndexByte.indexByte := ⟨_, Tryz.func371, by kernel_rfl, by kernel_rfl, by kernel_rfl, by kernel_rfl⟩
theorem x374 : ExternAt Tryz.prog 374 Extern.BytealgCount.count := ⟨_, Tryz.func374, by kernel_rfl, by kernel_rfl, by kernel_rfl, by kernel_rfl⟩
theorem e4 : EntOK Tryz.prog 4 (.code a4) := ⟨_, Tryz.func4, by kernel_rfl⟩
theorem e5 : EntOK Tryz.prog 5 (.code a5) := ⟨_, Tryz.func5, by kernel_rfl⟩
theorem e6 : EntOK Tryz.prog 6 (.code a6) := ⟨_, Tryz.func6, by kernel_rfl⟩
theorem e7 : EntOK Tryz.prog 7 (.code a7) := ⟨_, Tryz.func7, by kernel_rfl⟩
theorem e8 : EntOK Tryz.prog 8 (.code a8) := ⟨_, Tryz.func8, by kernel_rfl⟩
theorem e9 : EntOK Tryz.prog 9 (.code a9) := ⟨_, Tryz.func9, by kernel_rfl⟩
theorem e10 : EntOK Tryz.prog 10 (.code a10) := ⟨_, Tryz.func10, by kernel_rfl⟩
theorem e11 : EntOK Tryz.prog 11 (.code a11) := ⟨_, Tryz.func11, by kernel_rfl⟩
theorem e12 : EntOK Tryz.prog 12 (.code a12) := ⟨_, Tryz.func12, by kernel_rfl⟩
theorem e13 : EntOK Tryz.prog 13 (.code a13) := ⟨_, Tryz.func13, by kernel_rfl⟩
theorem e14 : EntOK Tryz.prog 14 (.code a14) := ⟨_, Tryz.func14, by kernel_rfl⟩
theorem e15 : EntOK Tryz.prog 15 (.code a15) := ⟨_, Tryz.func15, by kernel_rfl⟩
theorem e16 : EntOK Tryz.prog 16 (.code a16) := ⟨_, Tryz.func16, by kernel_rfl⟩
theorem e17 : EntOK Tryz.prog 17 (.code a17) := ⟨_, Tryz.func17, by kernel_rfl⟩
theorem e18 : EntOK Tryz.prog 18 (.code a18) := ⟨_, Tryz.func18, by kernel_rfl⟩
theorem e19 : EntOK Tryz.prog 19 (.code a19) := ⟨_, Tryz.func19, by kernel_rfl⟩
theorem e20 : EntOK Tryz.prog 20 (.code a20) := ⟨_, Tryz.func20, by kernel_rfl⟩
theorem e21 : EntOK Tryz.prog 21 (.code a21) := ⟨_, Tryz.func21, by kernel_rfl⟩
theorem e22 : EntOK Tryz.prog 22 (.code a22) := ⟨_, Tryz.func22, by kernel_rfl⟩
theorem e23 : EntOK Tryz.prog 23 (.code a23) := ⟨_, Tryz.func23, by kernel_rfl⟩
theorem e24 : EntOK Tryz.prog 24 (.code a24) := ⟨_, Tryz.func24, by kernel_rfl⟩
theorem e25 : EntOK Tryz.prog 25 (.code a25) := ⟨_, Tryz.func25, by kernel_rfl⟩
theorem e26 : EntOK Tryz.prog 26 (.code a26) := ⟨_, Tryz.func26, by kernel_rfl⟩
theorem e27 : EntOK Tryz.prog 27 (.code a27) := ⟨_, Tryz.func27, by kernel_rfl⟩
theorem e28 : EntOK Tryz.prog 28 (.code a28) := ⟨_, Tryz.func28, by kernel_rfl⟩
theorem e29 : EntOK Tryz.prog 29 (.code a29) := ⟨_, Tryz.func29, by kernel_rfl⟩
theorem e30 : EntOK Tryz.prog 30 (.code a30) := ⟨_, Tryz.func30, by kernel_rfl⟩
theorem e31 : EntOK Tryz.prog 31 (.code a31) := ⟨_, Tryz.func31, by kernel_rfl⟩
theorem e32 : EntOK Tryz.prog 32 (.code a32) := ⟨_, Tryz.func32, by kernel_rfl⟩
theorem e33 : EntOK Tryz.prog 33 (.code a33) := ⟨_, Tryz.func33, by kernel_rfl⟩
theorem e34 : EntOK Tryz.prog 34 (.code a34) := ⟨_, Tryz.func34, by kernel_rfl⟩
theorem e35 : EntOK Tryz.prog 35 (.code a35) := ⟨_, Tryz.func35, by kernel_rfl⟩
theorem e37 : EntOK Tryz.prog 37 (.code a37) := ⟨_, Tryz.func37, by kernel_rfl⟩
theorem e38 : EntOK Tryz.prog 38 (.code a38) := ⟨_, Tryz.func38, by kernel_rfl⟩
theorem e43 : EntOK Tryz.prog 43 (.code a43) := ⟨_, Tryz.func43, by kernel_rfl⟩
theorem e44 : EntOK Tryz.prog 44 (.code a44) := ⟨_, Tryz.func44, by kernel_rfl⟩
theorem e46 : EntOK Tryz.prog 46 (.code a46) := ⟨_, Tryz.func46, by kernel_rfl⟩
theorem e47 : EntOK Tryz.prog 47 (.code a47) := ⟨_, Tryz.func47, by kernel_rfl⟩
theorem e48 : EntOK Tryz.prog 48 (.code a48) := ⟨_, Tryz.func48, by kernel_rfl⟩
theorem e49 : EntOK Tryz.prog 49 (.code a49) := ⟨_, Tryz.func49, by kernel_rfl⟩
theorem e50 : EntOK Tryz.prog 50 (.code a50) := ⟨_, Tryz.func50, by kernel_rfl⟩
theorem e51 : EntOK Tryz.prog 51 (.code a51) := ⟨_, Tryz.func51, by kernel_rfl⟩
theorem e52 : EntOK Tryz.prog 52 (.code a52) := ⟨_, Tryz.func52, by kernel_rfl⟩
theorem e53 : EntOK Tryz.prog 53 (.code a53) := ⟨_, Tryz.func53, by kernel_rfl⟩
theorem e54 : EntOK Tryz.prog 54 (.code a54) := ⟨_, Tryz.func54, by kernel_rfl⟩
theorem e55 : EntOK Tryz.prog 55 (.code a55) := ⟨_, Tryz.func55, by kernel_rfl⟩
theorem e56 : EntOK Tryz.prog 56 (.code a56) := ⟨_, Tryz.func56, by kernel_rfl⟩
theorem e57 : EntOK Tryz.prog 57 (.code a57) := ⟨_, Tryz.func57, by kernel_rfl⟩
theorem e58 : EntOK Tryz.prog 58 (.code a58) := ⟨_, Tryz.func58, by kernel_rfl⟩
theorem e59 : EntOK Tryz.prog 59 (.code a59) := ⟨_, Tryz.func59, by kernel_rfl⟩
theorem e60 : EntOK Tryz.prog 60 (.code a60) := ⟨_, Tryz.func60, by kernel_rfl⟩
theorem e61 : EntOK Tryz.prog 61 (.code a61) := ⟨_, Tryz.func61, by kernel_rfl⟩
theorem e62 : EntOK Tryz.prog 62 (.code a62) := ⟨_, Tryz.func62, by kernel_rfl⟩
theorem e63 : EntOK Tryz.prog 63 (.code a63) := ⟨_, Tryz.func63, by kernel_rfl⟩
theorem e64 : EntOK Tryz.prog 64 (.code a64) := ⟨_, Tryz.func64, by kernel_rfl⟩
theorem e68 : EntOK Tryz.prog 68 (.code a68) := ⟨_, Tryz.func68, by kernel_rfl⟩
theorem e69 : EntOK Tryz.prog 69 (.code a69) := ⟨_, Tryz.func69, by kernel_rfl⟩
theorem e70 : EntOK Tryz.prog 70 (.code a70) := ⟨_, Tryz.func70, by kernel_rfl⟩
theorem e71 : EntOK Tryz.prog 71 (.code a71) := ⟨_, Tryz.func71, by kernel_rfl⟩
theorem e72 : EntOK Tryz.prog 72 (.code a72) := ⟨_, Tryz.func72, by kernel_rfl⟩
theorem e73 : EntOK Tryz.prog 73 (.code a73) := ⟨_, Tryz.func73, by kernel_rfl⟩
theorem e74 : EntOK Tryz.prog 74 (.code a74) := ⟨_, Tryz.func74, by kernel_rfl⟩
theorem e75 : EntOK Tryz.prog 75 (.code a75) := ⟨_, Tryz.func75, by kernel_rfl⟩
theorem e76 : EntOK Tryz.prog 76 (.code a76) := ⟨_, Tryz.func76, by kernel_rfl⟩
theorem e77 : EntOK Tryz.prog 77 (.code a77) := ⟨_, Tryz.func77, by kernel_rfl⟩
theorem e78 : EntOK Tryz.prog 78 (.code a78) := ⟨_, Tryz.func78, by kernel_rfl⟩
theorem e79 : EntOK Tryz.prog 79 (.code a79) := ⟨_, Tryz.func79, by kernel_rfl⟩
theorem e80 : EntOK Tryz.prog 80 (.code a80) := ⟨_, Tryz.func80, by kernel_rfl⟩
theorem e81 : EntOK Tryz.prog 81 (.code a81) := ⟨_, Tryz.func81, by kernel_rfl⟩
theorem e82 : EntOK Tryz.prog 82 (.code a82) := ⟨_, Tryz.func82, by kernel_rfl⟩
theorem e83 : EntOK Tryz.prog 83 (.code a83) := ⟨_, Tryz.func83, by kernel_rfl⟩
theorem e84 : EntOK Tryz.prog 84 (.code a84) := ⟨_, Tryz.func84, by kernel_rfl⟩
theorem e88 : EntOK Tryz.prog 88 (.code a88) := ⟨_, Tryz.func88, by kernel_rfl⟩
theorem e92 : EntOK Tryz.prog 92 (.code a92) := ⟨_, Tryz.func92, by kernel_rfl⟩
theorem e93 : EntOK Tryz.prog 93 (.code a93) := ⟨_, Tryz.func93, by kernel_rfl⟩
theorem e94 : EntOK Tryz.prog 94 (.code a94) := ⟨_, Tryz.func94, by kernel_rfl⟩
theorem e97 : EntOK Tryz.prog 97 (.code a97) := ⟨_, Tryz.func97, by kernel_rfl⟩
theorem e98 : EntOK Tryz.prog 98 (.code a98) := ⟨_, Tryz.func98, by kernel_rfl⟩
theorem e100 : EntOK Tryz.prog 100 (.code a100) := ⟨_, Tryz.func100, by kernel_rfl⟩
theorem e101 : EntOK Tryz.prog 101 (.code a101) := ⟨_, Tryz.func101, by kernel_rfl⟩
theorem e102 : EntOK Tryz.prog 102 (.code a102) := ⟨_, Tryz.func102, by kernel_rfl⟩
theorem e103 : EntOK Tryz.prog 103 (.code a103) := ⟨_, Tryz.func103, by kernel_rfl⟩
theorem e104 : EntOK Tryz.prog 104 (.code a104) := ⟨_, Tryz.func104, by kernel_rfl⟩
theorem e105 : EntOK Tryz.prog 105 (.code a105) := ⟨_, Tryz.func105, by kernel_rfl⟩
theorem e106 : EntOK Tryz.prog 106 (.code a106) := ⟨_, Tryz.func106, by kernel_rfl⟩
theorem e107 : EntOK Tryz.prog 107 (.code a107) := ⟨_, Tryz.func107, by kernel_rfl⟩
theorem e108 : EntOK Tryz.prog 108 (.code a108) := ⟨_, Tryz.func108, by kernel_rfl⟩
theorem e109 : EntOK Tryz.prog 109 (.code a109) := ⟨_, Tryz.func109, by kernel_rfl⟩
theorem e110 : EntOK Tryz.prog 110 (.code a110) := ⟨_, Tryz.func110, by kernel_rfl⟩
theorem e111 : EntOK Tryz.prog 111 (.spec (specSorted 3 [173, 329])) := sorted_ok (P := Go.Proofs.Tryz.prog) t3 Go.Proofs.Tryz.func111 (by kernel_rfl) (by kernel_rfl) sortsKeys
theorem e112 : EntOK Tryz.prog 112 (.code a112) := ⟨_, Tryz.func112, by kernel_rfl⟩
theorem e113 : EntOK Tryz.prog 113 (.code a113) := ⟨_, Tryz.func113, by kernel_rfl⟩
theorem e114 : EntOK Tryz.prog 114 (.code a114) := ⟨_, Tryz.func114, by kernel_rfl⟩
theorem e116 : EntOK Tryz.prog 116 (.spec (specSame)) := same_ok x116
theorem e120 : EntOK Tryz.prog 120 (.code a120) := ⟨_, Tryz.func120, by kernel_rfl⟩
theorem e121 : EntOK Tryz.prog 121 (.code a121) := ⟨_, Tryz.func121, by kernel_rfl⟩
theorem e122 : EntOK Tryz.prog 122 (.code a122) := ⟨_, Tryz.func122, by kernel_rfl⟩
theorem e123 : EntOK Tryz.prog 123 (.code a123) := ⟨_, Tryz.func123, by kernel_rfl⟩
theorem e125 : EntOK Tryz.prog 125 (.code a125) := ⟨_, Tryz.func125, by kernel_rfl⟩
theorem e126 : EntOK Tryz.prog 126 (.code a126) := ⟨_, Tryz.func126, by kernel_rfl⟩
theorem e127 : EntOK Tryz.prog 127 (.code a127) := ⟨_, Tryz.func127, by kernel_rfl⟩
theorem e129 : EntOK Tryz.prog 129 (.code a129) := ⟨_, Tryz.func129, by kernel_rfl⟩
theorem e132 : EntOK Tryz.prog 132 (.code a132) := ⟨_, Tryz.func132, by kernel_rfl⟩
theorem e133 : EntOK Tryz.prog 133 (.code a133) := ⟨_, Tryz.func133, by kernel_rfl⟩
theorem e134 : EntOK Tryz.prog 134 (.code a134) := ⟨_, Tryz.func134, by kernel_rfl⟩
theorem e136 : EntOK Tryz.prog 136 (.code a136) := ⟨_, Tryz.func136, by kernel_rfl⟩
theorem e137 : EntOK Tryz.prog 137 (.code a137) := ⟨_, Tryz.func137, by kernel_rfl⟩
theorem e138 : EntOK Tryz.prog 138 (.code a138) := ⟨_, Tryz.func138, by kernel_rfl⟩
theorem e139 : EntOK Tryz.prog 139 (.code a139) := ⟨_, Tryz.func139, by kernel_rfl⟩
theorem e140 : EntOK Tryz.prog 140 (.code a140) := ⟨_, Tryz.func140, by kernel_rfl⟩
theorem e141 : EntOK Tryz.prog 141 (.code a141) := ⟨_, Tryz.func141, by kernel_rfl⟩
theorem e142 : EntOK Tryz.prog 142 (.code a142) := ⟨_, Tryz.func142, by kernel_rfl⟩
theorem e143 : EntOK Tryz.prog 143 (.code a143) := ⟨_, Tryz.func143, by kernel_rfl⟩
theorem e144 : EntOK Tryz.prog 144 (.code a144) := ⟨_, Tryz.func144, by kernel_rfl⟩
theorem e145 : EntOK Tryz.prog 145 (.code a145) := ⟨_, Tryz.func145, by kernel_rfl⟩
theorem e148 : EntOK Tryz.prog 148 (.code a148) := ⟨_, Tryz.func148, by kernel_rfl⟩
theorem e149 : EntOK Tryz.prog 149 (.code a149) := ⟨_, Tryz.func149, by kernel_rfl⟩
theorem e150 : EntOK Tryz.prog 150 (.code a150) := ⟨_, Tryz.func150, by kernel_rfl⟩
theorem e154 : EntOK Tryz.prog 154 (.code a154) := ⟨_, Tryz.func154, by kernel_rfl⟩
theorem e157 : EntOK Tryz.prog 157 (.code a157) := ⟨_, Tryz.func157, by kernel_rfl⟩
theorem e158 : EntOK Tryz.prog 158 (.code a158) := ⟨_, Tryz.func158, by kernel_rfl⟩
theorem e159 : EntOK Tryz.prog 159 (.code a159) := ⟨_, Tryz.func159, by kernel_rfl⟩
theorem e161 : EntOK Tryz.prog 161 (.code a161) := ⟨_, Tryz.func161, by kernel_rfl⟩
theorem e162 : EntOK Tryz.prog 162 (.code a162) := ⟨_, Tryz.func162, by kernel_rfl⟩
theorem e164 : EntOK Tryz.prog 164 (.code a164) := ⟨_, Tryz.func164, by kernel_rfl⟩
theorem e165 : EntOK Tryz.prog 165 (.code a165) := ⟨_, Tryz.func165, by kernel_rfl⟩
theorem e166 : EntOK Tryz.prog 166 (.code a166) := ⟨_, Tryz.func166, by kernel_rfl⟩
theorem e167 : EntOK Tryz.prog 167 (.code a167) := ⟨_, Tryz.func167, by kernel_rfl⟩
theorem e168 : EntOK Tryz.prog 168 (.code a168) := ⟨_, Tryz.func168, by kernel_rfl⟩
theorem e170 : EntOK Tryz.prog 170 (.code a170) := ⟨_, Tryz.func170, by kernel_rfl⟩
theorem e173 : EntOK Tryz.prog 173 (.code a173) := ⟨_, Tryz.func173, by kernel_rfl⟩
theorem e177 : EntOK Tryz.prog 177 (.code a177) := ⟨_, Tryz.func177, by kernel_rfl⟩
theorem e178 : EntOK Tryz.prog 178 (.code a178) := ⟨_, Tryz.func178, by kernel_rfl⟩
theorem e179 : EntOK Tryz.prog 179 (.code a179) := ⟨_, Tryz.func179, by kernel_rfl⟩
theorem e182 : EntOK Tryz.prog 182 (.code a182) := ⟨_, Tryz.func182, by kernel_rfl⟩
theorem e183 : EntOK Tryz.prog 183 (.code a183) := ⟨_, Tryz.func183, by kernel_rfl⟩
theorem e184 : EntOK Tryz.prog 184 (.code a184) := ⟨_, Tryz.func184, by kernel_rfl⟩
theorem e185 : EntOK Tryz.prog 185 (.code a185) := ⟨_, Tryz.func185, by kernel_rfl⟩
theorem e188 : EntOK Tryz.prog 188 (.code a188) := ⟨_, Tryz.func188, by kernel_rfl⟩
theorem e189 : EntOK Tryz.prog 189 (.code a189) := ⟨_, Tryz.func189, by kernel_rfl⟩
theorem e190 : EntOK Tryz.prog 190 (.code a190) := ⟨_, Tryz.func190, by kernel_rfl⟩
theorem e194 : EntOK Tryz.prog 194 (.code a194) := ⟨_, Tryz.func194, by kernel_rfl⟩
theorem e195 : EntOK Tryz.prog 195 (.code a195) := ⟨_, Tryz.func195, by kernel_rfl⟩
theorem e196 : EntOK Tryz.prog 196 (.code a196) := ⟨_, Tryz.func196, by kernel_rfl⟩
theorem e197 : EntOK Tryz.prog 197 (.code a197) := ⟨_, Tryz.func197, by kernel_rfl⟩
theorem e199 : EntOK Tryz.prog 199 (.code a199) := ⟨_, Tryz.func199, by kernel_rfl⟩
theorem e200 : EntOK Tryz.prog 200 (.code a200) := ⟨_, Tryz.func200, by kernel_rfl⟩
theorem e201 : EntOK Tryz.prog 201 (.code a201) := ⟨_, Tryz.func201, by kernel_rfl⟩
theorem e202 : EntOK Tryz.prog 202 (.code a202) := ⟨_, Tryz.func202, by kernel_rfl⟩
theorem e203 : EntOK Tryz.prog 203 (.code a203) := ⟨_, Tryz.func203, by kernel_rfl⟩
theorem e204 : EntOK Tryz.prog 204 (.code a204) := ⟨_, Tryz.func204, by kernel_rfl⟩
theorem e205 : EntOK Tryz.prog 205 (.code a205) := ⟨_, Tryz.func205, by kernel_rfl⟩
theorem e206 : EntOK Tryz.prog 206 (.code a206) := ⟨_, Tryz.func206, by kernel_rfl⟩
theorem e207 : EntOK Tryz.prog 207 (.code a207) := ⟨_, Tryz.func207, by kernel_rfl⟩
theorem e208 : EntOK Tryz.prog 208 (.code a208) := ⟨_, Tryz.func208, by kernel_rfl⟩
theorem e209 : EntOK Tryz.prog 209 (.code a209) := ⟨_, Tryz.func209, by kernel_rfl⟩
theorem e210 : EntOK Tryz.prog 210 (.code a210) := ⟨_, Tryz.func210, by kernel_rfl⟩
theorem e217 : EntOK Tryz.prog 217 (.code a217) := ⟨_, Tryz.func217, by kernel_rfl⟩
theorem e218 : EntOK Tryz.prog 218 (.code a218) := ⟨_, Tryz.func218, by kernel_rfl⟩
theorem e220 : EntOK Tryz.prog 220 (.code a220) := ⟨_, Tryz.func220, by kernel_rfl⟩
theorem e221 : EntOK Tryz.prog 221 (.code a221) := ⟨_, Tryz.func221, by kernel_rfl⟩
theorem e222 : EntOK Tryz.prog 222 (.code a222) := ⟨_, Tryz.func222, by kernel_rfl⟩
theorem e224 : EntOK Tryz.prog 224 (.code a224) := ⟨_, Tryz.func224, by kernel_rfl⟩
theorem e235 : EntOK Tryz.prog 235 (.code a235) := ⟨_, Tryz.func235, by kernel_rfl⟩
theorem e247 : EntOK Tryz.prog 247 (.code a247) := ⟨_, Tryz.func247, by kernel_rfl⟩
theorem e249 : EntOK Tryz.prog 249 (.code a249) := ⟨_, Tryz.func249, by kernel_rfl⟩
theorem e251 : EntOK Tryz.prog 251 (.code a251) := ⟨_, Tryz.func251, by kernel_rfl⟩
theorem e252 : EntOK Tryz.prog 252 (.code a252) := ⟨_, Tryz.func252, by kernel_rfl⟩
theorem e254 : EntOK Tryz.prog 254 (.code a254) := ⟨_, Tryz.func254, by kernel_rfl⟩
theorem e255 : EntOK Tryz.prog 255 (.code a255) := ⟨_, Tryz.func255, by kernel_rfl⟩
theorem e257 : EntOK Tryz.prog 257 (.code a257) := ⟨_, Tryz.func257, by kernel_rfl⟩
theorem e261 : EntOK Tryz.prog 261 (.code a261) := ⟨_, Tryz.func261, by kernel_rfl⟩
theorem e262 : EntOK Tryz.prog 262 (.code a262) := ⟨_, Tryz.func262, by kernel_rfl⟩
theorem e263 : EntOK Tryz.prog 263 (.code a263) := ⟨_, Tryz.func263, by kernel_rfl⟩
theorem e264 : EntOK Tryz.prog 264 (.code a264) := ⟨_, Tryz.func264, by kernel_rfl⟩
theorem e270 : EntOK Tryz.prog 270 (.code a270) := ⟨_, Tryz.func270, by kernel_rfl⟩
theorem e271 : EntOK Tryz.prog 271 (.code a271) := ⟨_, Tryz.func271, by kernel_rfl⟩
theorem e272 : EntOK Tryz.prog 272 (.code a272) := ⟨_, Tryz.func272, by kernel_rfl⟩
theorem e273 : EntOK Tryz.prog 273 (.code a273) := ⟨_, Tryz.func273, by kernel_rfl⟩
theorem e275 : EntOK Tryz.prog 275 (.code a275) := ⟨_, Tryz.func275, by kernel_rfl⟩
theorem e276 : EntOK Tryz.prog 276 (.code a276) := ⟨_, Tryz.func276, by kernel_rfl⟩
theorem e277 : EntOK Tryz.prog 277 (.code a277) := ⟨_, Tryz.func277, by kernel_rfl⟩
theorem e278 : EntOK Tryz.prog 278 (.code a278) := ⟨_, Tryz.func278, by kernel_rfl⟩
theorem e280 : EntOK Tryz.prog 280 (.code a280) := ⟨_, Tryz.func280, by kernel_rfl⟩
theorem e281 : EntOK Tryz.prog 281 (.code a281) := ⟨_, Tryz.func281, by kernel_rfl⟩
theorem e282 : EntOK Tryz.prog 282 (.code a282) := ⟨_, Tryz.func282, by kernel_rfl⟩
theorem e283 : EntOK Tryz.prog 283 (.code a283) := ⟨_, Tryz.func283, by kernel_rfl⟩
theorem e284 : EntOK Tryz.prog 284 (.code a284) := ⟨_, Tryz.func284, by kernel_rfl⟩
theorem e285 : EntOK Tryz.prog 285 (.code a285) := ⟨_, Tryz.func285, by kernel_rfl⟩
theorem e286 : EntOK Tryz.prog 286 (.code a286) := ⟨_, Tryz.func286, by kernel_rfl⟩
theorem e287 : EntOK Tryz.prog 287 (.code a287) := ⟨_, Tryz.func287, by kernel_rfl⟩
theorem e288 : EntOK Tryz.prog 288 (.code a288) := ⟨_, Tryz.func288, by kernel_rfl⟩
theorem e289 : EntOK Tryz.prog 289 (.code a289) := ⟨_, Tryz.func289, by kernel_rfl⟩
theorem e290 : EntOK Tryz.prog 290 (.code a290) := ⟨_, Tryz.func290, by kernel_rfl⟩
theorem e294 : EntOK Tryz.prog 294 (.code a294) := ⟨_, Tryz.func294, by kernel_rfl⟩
theorem e295 : EntOK Tryz.prog 295 (.code a295) := ⟨_, Tryz.func295, by kernel_rfl⟩
theorem e296 : EntOK Tryz.prog 296 (.code a296) := ⟨_, Tryz.func296, by kernel_rfl⟩
theorem e297 : EntOK Tryz.prog 297 (.code a297) := ⟨_, Tryz.func297, by kernel_rfl⟩
theorem e298 : EntOK Tryz.prog 298 (.code a298) := ⟨_, Tryz.func298, by kernel_rfl⟩
theorem e301 : EntOK Tryz.prog 301 (.code a301) := ⟨_, Tryz.func301, by kernel_rfl⟩
theorem e304 : EntOK Tryz.prog 304 (.code a304) := ⟨_, Tryz.func304, by kernel_rfl⟩
theorem e313 : EntOK Tryz.prog 313 (.code a313) := ⟨_, Tryz.func313, by kernel_rfl⟩
theorem e314 : EntOK Tryz.prog 314 (.code a314) := ⟨_, Tryz.func314, by kernel_rfl⟩
theorem e316 : EntOK Tryz.prog 316 (.spec (specClone)) := clone_ok x316
theorem e317 : EntOK Tryz.prog 317 (.code a317) := ⟨_, Tryz.func317, by kernel_rfl⟩
theorem e327 : EntOK Tryz.prog 327 (.code a327) := ⟨_, Tryz.func327, by kernel_rfl⟩
theorem e328 : EntOK Tryz.prog 328 (.code a328) := ⟨_, Tryz.func328, by kernel_rfl⟩
theorem e329 : EntOK Tryz.prog 329 (.code a329) := ⟨_, Tryz.func329, by kernel_rfl⟩
theorem e331 : EntOK Tryz.prog 331 (.code a331) := ⟨_, Tryz.func331, by kernel_rfl⟩
theorem e332 : EntOK Tryz.prog 332 (.code a332) := ⟨_, Tryz.func332, by kernel_rfl⟩
theorem e333 : EntOK Tryz.prog 333 (.code a333) := ⟨_, Tryz.func333, by kernel_rfl⟩
theorem e334 : EntOK Tryz.prog 334 (.code a334) := ⟨_, Tryz.func334, by kernel_rfl⟩
theorem e335 : EntOK Tryz.prog 335 (.code a335) := ⟨_, Tryz.func335, by kernel_rfl⟩
theorem e340 : EntOK Tryz.prog 340 (.code a340) := ⟨_, Tryz.func340, by kernel_rfl⟩
theorem e341 : EntOK Tryz.prog 341 (.code a341) := ⟨_, Tryz.func341, by kernel_rfl⟩
theorem e343 : EntOK Tryz.prog 343 (.code a343) := ⟨_, Tryz.func343, by kernel_rfl⟩
theorem e344 : EntOK Tryz.prog 344 (.code a344) := ⟨_, Tryz.func344, by kernel_rfl⟩
theorem e345 : EntOK Tryz.prog 345 (.code a345) := ⟨_, Tryz.func345, by kernel_rfl⟩
theorem e346 : EntOK Tryz.prog 346 (.code a346) := ⟨_, Tryz.func346, by kernel_rfl⟩
theorem e348 : EntOK Tryz.prog 348 (.code a348) := ⟨_, Tryz.func348, by kernel_rfl⟩
theorem e349 : EntOK Tryz.prog 349 (.code a349) := ⟨_, Tryz.func349, by kernel_rfl⟩
theorem e357 : EntOK Tryz.prog 357 (.code a357) := ⟨_, Tryz.func357, by kernel_rfl⟩
theorem e370 : EntOK Tryz.prog 370 (.spec (specIdxS)) := idxS_ok x370
theorem e371 : EntOK Tryz.prog 371 (.spec (specIdxL)) := idxL_ok x371
theorem e374 : EntOK Tryz.prog 374 (.spec (specCntS)) := cntS_ok x374
theorem e375 : EntOK Tryz.prog 375 (.code a375) := ⟨_, Tryz.func375, by kernel_rfl⟩
theorem e377 : EntOK Tryz.prog 377 (.code a377) := ⟨_, Tryz.func377, by kernel_rfl⟩
theorem e378 : EntOK Tryz.prog 378 (.code a378) := ⟨_, Tryz.func378, by kernel_rfl⟩
theorem e379 : EntOK Tryz.prog 379 (.code a379) := ⟨_, Tryz.func379, by kernel_rfl⟩
theorem e380 : EntOK Tryz.prog 380 (.code a380) := ⟨_, Tryz.func380, by kernel_rfl⟩
theorem e382 : EntOK Tryz.prog 382 (.code a382) := ⟨_, Tryz.func382, by kernel_rfl⟩
theorem e384 : EntOK Tryz.prog 384 (.code a384) := ⟨_, Tryz.func384, by kernel_rfl⟩
theorem e402 : EntOK Tryz.prog 402 (.code a402) := ⟨_, Tryz.func402, by kernel_rfl⟩
theorem e497 : EntOK Tryz.prog 497 (.code a497) := ⟨_, Tryz.func497, by kernel_rfl⟩
theorem e501 : EntOK Tryz.prog 501 (.code a501) := ⟨_, Tryz.func501, by kernel_rfl⟩
theorem e502 : EntOK Tryz.prog 502 (.code a502) := ⟨_, Tryz.func502, by kernel_rfl⟩
theorem e503 : EntOK Tryz.prog 503 (.code a503) := ⟨_, Tryz.func503, by kernel_rfl⟩
theorem e504 : EntOK Tryz.prog 504 (.code a504) := ⟨_, Tryz.func504, by kernel_rfl⟩
theorem e505 : EntOK Tryz.prog 505 (.code a505) := ⟨_, Tryz.func505, by kernel_rfl⟩
theorem e506 : EntOK Tryz.prog 506 (.code a506) := ⟨_, Tryz.func506, by kernel_rfl⟩
theorem e507 : EntOK Tryz.prog 507 (.code a507) := ⟨_, Tryz.func507, by kernel_rfl⟩
theorem e508 : EntOK Tryz.prog 508 (.code a508) := ⟨_, Tryz.func508, by kernel_rfl⟩
theorem e509 : EntOK Tryz.prog 509 (.code a509) := ⟨_, Tryz.func509, by kernel_rfl⟩
theorem e511 : EntOK Tryz.prog 511 (.code a511) := ⟨_, Tryz.func511, by kernel_rfl⟩
theorem e512 : EntOK Tryz.prog 512 (.code a512) := ⟨_, Tryz.func512, by kernel_rfl⟩
theorem e513 : EntOK Tryz.prog 513 (.code a513) := ⟨_, Tryz.func513, by kernel_rfl⟩
theorem e514 : EntOK Tryz.prog 514 (.code a514) := ⟨_, Tryz.func514, by kernel_rfl⟩
theorem e515 : EntOK Tryz.prog 515 (.code a515) := ⟨_, Tryz.func515, by kernel_rfl⟩
theorem e516 : EntOK Tryz.prog 516 (.code a516) := ⟨_, Tryz.func516, by kernel_rfl⟩
theorem e517 : EntOK Tryz.prog 517 (.code a517) := ⟨_, Tryz.func517, by kernel_rfl⟩
theorem e518 : EntOK Tryz.prog 518 (.code a518) := ⟨_, Tryz.func518, by kernel_rfl⟩
theorem e519 : EntOK Tryz.prog 519 (.code a519) := ⟨_, Tryz.func519, by kernel_rfl⟩
theorem e520 : EntOK Tryz.prog 520 (.code a520) := ⟨_, Tryz.func520, by kernel_rfl⟩
theorem e521 : EntOK Tryz.prog 521 (.code a521) := ⟨_, Tryz.func521, by kernel_rfl⟩
theorem e522 : EntOK Tryz.prog 522 (.code a522) := ⟨_, Tryz.func522, by kernel_rfl⟩
/-- A table of entries that are right, by its parts. -/
def AllOK (P : Program) (g : Nat → Nat) (t : Tr FEnt) : Prop := ∀ n e, 1 ≤ n → t.get n = some e → EntOK P (Nat.pred (g n)) e
theorem all_nil {P : Program} {g : Nat → Nat} : AllOK P g .nil := fun n e _ h => by rw [Tr.get_nil] at h; cases h
theorem all_node {P : Program} {g : Nat → Nat} {v : Option FEnt} {l r : Tr FEnt} (hv : ∀ e, v = some e → EntOK P (Nat.pred (g 1)) e) (hl : AllOK P (fun n => g (2 * n)) l) (hr : AllOK P (fun n => g (2 * n + 1)) r) : AllOK P g (.node v l r) := by
  intro n e hn h
  rw [Tr.get_node] at h
  by_cases h1 : n ≤ 1
  · rw [if_pos h1] at h
    have : n = 1 := by omega
    subst this
    exact hv e h
  · rw [if_neg h1] at h
    by_cases h2 : n % 2 = 0
    · rw [if_pos h2] at h
      have := hl (n / 2) e (by omega) h
      have e2 : 2 * (n / 2) = n := by omega
      dsimp only at this
      rwa [e2] at this
    · rw [if_neg h2] at h
      have := hr (n / 2) e (by omega) h
      have e2 : 2 * (n / 2) + 1 = n := by omega
      dsimp only at this
      rwa [e2] at this
theorem no_ent {P : Program} {f : FuncId} : ∀ e, (none : Option FEnt) = some e → EntOK P f e := fun e h => by cases h
theorem one_ent {P : Program} {f : FuncId} {x : FEnt} (hx : EntOK P f x) : ∀ e, some x = some e → EntOK P f e := fun e h => by cases h; exact hx
theorem tab_ok : AllOK Tryz.prog (fun n => n) tab :=
  (all_node no_ent (all_node no_ent (all_node no_ent (all_node (one_ent e7) (all_node (one_ent e15) (all_node (one_ent e31) (all_node (one_ent e63) (all_node (one_ent e127) (all_node (one_ent e255) (all_node (one_ent e511) all_nil all_nil) all_nil) all_nil) all_nil) (all_node no_ent (all_node (one_ent e159) (all_node (one_ent e287) all_nil all_nil) all_nil) all_nil)) (all_node (one_ent e47) (all_node (one_ent e79) (all_node (one_ent e143) (all_node (one_ent e271) all_nil all_nil) all_nil) (all_node (one_ent e207) (all_node (one_ent e335) all_nil all_nil) all_nil)) (all_node (one_ent e111) all_nil all_nil))) (all_node (one_ent e23) (all_node no_ent (all_node (one_ent e71) (all_node no_ent (all_node (one_ent e263) (all_node (one_ent e519) all_nil all_nil) all_nil) all_nil) (all_node (one_ent e199) (all_node (one_ent e327) all_nil all_nil) all_nil)) (all_node (one_ent e103) (all_node (one_ent e167) (all_node (one_ent e295) all_nil all_nil) all_nil) all_nil)) (all_node (one_ent e55) (all_node no_ent all_nil (all_node no_ent (all_node (one_ent e343) all_nil all_nil) all_nil)) (all_node no_ent (all_node (one_ent e183) all_nil all_nil) (all_node (one_ent e247) (all_node (one_ent e375) all_nil all_nil) (all_node (one_ent e503) all_nil all_nil)))))) (all_node (one_ent e11) (all_node (one_ent e19) (all_node (one_ent e35) (all_node no_ent (all_node no_ent (all_node no_ent (all_node (one_ent e515) all_nil all_nil) all_nil) all_nil) (all_node (one_ent e195) all_nil all_nil)) all_nil) (all_node (one_ent e51) (all_node (one_ent e83) (all_node no_ent (all_node (one_ent e275) all_nil all_nil) all_nil) all_nil) (all_node no_ent (all_node (one_ent e179) all_nil all_nil) (all_node no_ent (all_node (one_ent e371) all_nil all_nil) all_nil)))) (all_node (one_ent e27) (all_node (one_ent e43) (all_node (one_ent e75) (all_node (one_ent e139) all_nil all_nil) (all_node (one_ent e203) (all_node (one_ent e331) all_nil all_nil) all_nil)) (all_node (one_ent e107) all_nil (all_node (one_ent e235) all_nil all_nil))) (all_node (one_ent e59) (all_node no_ent (all_node no_ent (all_node (one_ent e283) all_nil all_nil) all_nil) all_nil) (all_node (one_ent e123) all_nil (all_node (one_ent e251) (all_node (one_ent e379) all_nil all_nil) (all_node (one_ent e507) all_nil all_nil))))))) (all_node (one_ent e5) (all_node (one_ent e9) (all_node (one_ent e17) (all_node (one_ent e33) (all_node no_ent (all_node (one_ent e129) (all_node (one_ent e257) (all_node (one_ent e513) all_nil all_nil) all_nil) all_nil) all_nil) (all_node (one_ent e97) (all_node (one_ent e161) (all_node (one_ent e289) all_nil all_nil) all_nil) all_nil)) (all_node (one_ent e49) (all_node (one_ent e81) (all_node (one_ent e145) (all_node (one_ent e273) all_nil all_nil) all_nil) (all_node (one_ent e209) all_nil all_nil)) (all_node (one_ent e113) (all_node (one_ent e177) all_nil all_nil) (all_node no_ent all_nil (all_node (one_ent e497) all_nil all_nil))))) (all_node (one_ent e25) (all_node no_ent (all_node (one_ent e73) (all_node (one_ent e137) (all_node no_ent (all_node (one_ent e521) all_nil all_nil) all_nil) all_nil) (all_node (one_ent e201) (all_node (one_ent e329) all_nil all_nil) all_nil)) (all_node (one_ent e105) (all_node no_ent (all_node (one_ent e297) all_nil all_nil) all_nil) all_nil)) (all_node (one_ent e57) (all_node no_ent (all_node no_ent (all_node (one_ent e281) all_nil all_nil) all_nil) (all_node (one_ent e217) (all_node (one_ent e345) all_nil all_nil) all_nil)) (all_node (one_ent e121) (all_node (one_ent e185) (all_node (one_ent e313) all_nil all_nil) all_nil) (all_node (one_ent e249) (all_node (one_ent e377) all_nil all_nil) (all_node (one_ent e505) all_nil all_nil)))))) (all_node (one_ent e13) (all_node (one_ent e21) (all_node (one_ent e37) (all_node (one_ent e69) (all_node (one_ent e133) (all_node (one_ent e261) (all_node (one_ent e517) all_nil all_nil) all_nil) all_nil) (all_node (one_ent e197) all_nil all_nil)) (all_node (one_ent e101) (all_node (one_ent e165) all_nil all_nil) (all_node no_ent (all_node (one_ent e357) all_nil all_nil) all_nil))) (all_node (one_ent e53) (all_node no_ent (all_node (one_ent e149) (all_node (one_ent e277) all_nil all_nil) all_nil) (all_node no_ent (all_node (one_ent e341) all_nil all_nil) all_nil)) (all_node no_ent all_nil (all_node no_ent all_nil (all_node (one_ent e501) all_nil all_nil))))) (all_node (one_ent e29) (all_node no_ent (all_node (one_ent e77) (all_node (one_ent e141) all_nil all_nil) (all_node (one_ent e205) (all_node (one_ent e333) all_nil all_nil) all_nil)) (all_node (one_ent e109) (all_node (one_ent e173) (all_node (one_ent e301) all_nil all_nil) all_nil) all_nil)) (all_node (one_ent e61) (all_node (one_ent e93) (all_node (one_ent e157) (all_node (one_ent e285) all_nil all_nil) all_nil) (all_node (one_ent e221) (all_node (one_ent e349) all_nil all_nil) all_nil)) (all_node (one_ent e125) (all_node (one_ent e189) (all_node (one_ent e317) all_nil all_nil) all_nil) (all_node no_ent all_nil (all_node (one_ent e509) all_nil all_nil)))))))) (all_node no_ent (all_node (one_ent e4) (all_node (one_ent e8) (all_node (one_ent e16) (all_node (one_ent e32) (all_node (one_ent e64) (all_node no_ent (all_node no_ent (all_node (one_ent e512) all_nil all_nil) all_nil) (all_node (one_ent e384) all_nil all_nil)) all_nil) (all_node no_ent (all_node no_ent (all_node (one_ent e288) all_nil all_nil) all_nil) (all_node (one_ent e224) all_nil all_nil))) (all_node (one_ent e48) (all_node (one_ent e80) (all_node (one_ent e144) (all_node (one_ent e272) all_nil all_nil) all_nil) (all_node (one_ent e208) all_nil all_nil)) (all_node (one_ent e112) (all_node no_ent (all_node (one_ent e304) all_nil all_nil) all_nil) all_nil))) (all_node (one_ent e24) (all_node no_ent (all_node (one_ent e72) (all_node (one_ent e136) (all_node (one_ent e264) (all_node (one_ent e520) all_nil all_nil) all_nil) all_nil) (all_node (one_ent e200) (all_node (one_ent e328) all_nil all_nil) all_nil)) (all_node (one_ent e104) (all_node (one_ent e168) (all_node (one_ent e296) all_nil all_nil) all_nil) all_nil)) (all_node (one_ent e56) (all_node (one_ent e88) (all_node no_ent (all_node (one_ent e280) all_nil all_nil) all_nil) (all_node no_ent (all_node (one_ent e344) all_nil all_nil) all_nil)) (all_node (one_ent e120) (all_node (one_ent e184) all_nil all_nil) (all_node no_ent all_nil (all_node (one_ent e504) all_nil all_nil)))))) (all_node (one_ent e12) (all_node (one_ent e20) (all_node no_ent (all_node (one_ent e68) (all_node (one_ent e132) (all_node no_ent (all_node (one_ent e516) all_nil all_nil) all_nil) all_nil) (all_node (one_ent e196) all_nil all_nil)) (all_node (one_ent e100) (all_node (one_ent e164) all_nil all_nil) all_nil)) (all_node (one_ent e52) (all_node (one_ent e84) (all_node (one_ent e148) (all_node (one_ent e276) all_nil all_nil) all_nil) (all_node no_ent (all_node (one_ent e340) all_nil all_nil) all_nil)) (all_node (one_ent e116) all_nil all_nil))) (all_node (one_ent e28) (all_node (one_ent e44) (all_node (one_ent e76) (all_node (one_ent e140) all_nil all_nil) (all_node (one_ent e204) (all_node (one_ent e332) all_nil all_nil) all_nil)) (all_node (one_ent e108) all_nil all_nil)) (all_node (one_ent e60) (all_node (one_ent e92) (all_node no_ent (all_node (one_ent e284) all_nil all_nil) all_nil) (all_node (one_ent e220) (all_node (one_ent e348) all_nil all_nil) all_nil)) (all_node no_ent (all_node (one_ent e188) (all_node (one_ent e316) all_nil all_nil) all_nil) (all_node (one_ent e252) (all_node (one_ent e380) all_nil all_nil) (all_node (one_ent e508) all_nil all_nil))))))) (all_node (one_ent e6) (all_node (one_ent e10) (all_node (one_ent e18) (all_node (one_ent e34) (all_node no_ent (all_node no_ent (all_node no_ent (all_node (one_ent e514) all_nil all_nil) all_nil) all_nil) (all_node (one_ent e194) all_nil all_nil)) (all_node (one_ent e98) (all_node (one_ent e162) (all_node (one_ent e290) all_nil all_nil) all_nil) all_nil)) (all_node (one_ent e50) (all_node (one_ent e82) (all_node no_ent all_nil (all_node (one_ent e402) all_nil all_nil)) (all_node (one_ent e210) all_nil all_nil)) (all_node (one_ent e114) (all_node (one_ent e178) all_nil all_nil) (all_node no_ent (all_node (one_ent e370) all_nil all_nil) all_nil)))) (all_node (one_ent e26) (all_node no_ent (all_node (one_ent e74) (all_node (one_ent e138) (all_node no_ent (all_node (one_ent e522) all_nil all_nil) all_nil) all_nil) (all_node (one_ent e202) all_nil all_nil)) (all_node (one_ent e106) (all_node (one_ent e170) (all_node (one_ent e298) all_nil all_nil) all_nil) all_nil)) (all_node (one_ent e58) (all_node no_ent (all_node (one_ent e154) (all_node (one_ent e282) all_nil all_nil) all_nil) (all_node (one_ent e218) (all_node (one_ent e346) all_nil all_nil) all_nil)) (all_node (one_ent e122) (all_node no_ent (all_node (one_ent e314) all_nil all_nil) all_nil) (all_node no_ent (all_node (one_ent e378) all_nil all_nil) (all_node (one_ent e506) all_nil all_nil)))))) (all_node (one_ent e14) (all_node (one_ent e22) (all_node (one_ent e38) (all_node (one_ent e70) (all_node (one_ent e134) (all_node (one_ent e262) (all_node (one_ent e518) all_nil all_nil) all_nil) all_nil) all_nil) (all_node (one_ent e102) (all_node (one_ent e166) (all_node (one_ent e294) all_nil all_nil) all_nil) all_nil)) (all_node (one_ent e54) (all_node no_ent (all_node (one_ent e150) (all_node (one_ent e278) all_nil all_nil) all_nil) all_nil) (all_node no_ent (all_node (one_ent e182) all_nil all_nil) (all_node no_ent (all_node (one_ent e374) all_nil all_nil) (all_node (one_ent e502) all_nil all_nil))))) (all_node (one_ent e30) (all_node (one_ent e46) (all_node (one_ent e78) (all_node (one_ent e142) (all_node (one_ent e270) all_nil all_nil) all_nil) (all_node (one_ent e206) (all_node (one_ent e334) all_nil all_nil) all_nil)) (all_node (one_ent e110) all_nil all_nil)) (all_node (one_ent e62) (all_node (one_ent e94) (all_node (one_ent e158) (all_node (one_ent e286) all_nil all_nil) all_nil) (all_node (one_ent e222) all_nil all_nil)) (all_node (one_ent e126) (all_node (one_ent e190) all_nil all_nil) (all_node (one_ent e254) (all_node (one_ent e382) all_nil all_nil) all_nil))))))))
theorem F_ok (f : FuncId) (e : FEnt) (h : F f = some e) : EntOK Tryz.prog f e := tab_ok (Nat.succ f) e (Nat.succ_pos _) h
theorem mixed : Tryz.prog.follows .mixedOrders = true := by kernel_rfl
theorem C_ok (n : Nat) : CallOK Tryz.prog (callk true F n) := callk_sound (draw_ok mixed) F_ok n
end Go.Am
