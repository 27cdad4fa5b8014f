/- The functions of the program that the law reaches, printed as predicates, with the proofs that they are the code. No conditions of its own. -/
import Derived.Test.YthbmhdlbphkljaaGreatDoorZb
import Derived.KernelRfl
namespace Go.Proofs.YthbmhdlbphkljaaGreatDoor
open Go Go.X
set_option maxRecDepth 1000000
noncomputable def law25_GridEntries_ann : Ann := ⟨67, [], []⟩
noncomputable def law25_GridEntries_j22 (Q : Value → H → Prop) (x6_22 : Value) (h60 : H) : Prop :=
 Q x6_22 h60
noncomputable def law25_GridEntries (a0 a1 a2 : Value) (h : H) (Q : Value → H → Prop) : Prop :=
 boxP h 30 a1 fun v0 h1 =>
 boxP h1 24 a2 fun v2 h3 =>
 blt EE h3 .len #[22] [a0] fun v5 h6 =>
 bindO (X.binOp EE .gtr 3 v5 (.int .i64 100)) fun v7 =>
 condP v7
 (CP n_law25_known [] h6 fun v8 h9 =>
 Q v8 h9)
 (bindO (aggV 3 h6 v2) fun v11 =>
 CP n_grid_Find [a0, v11] h6 fun v12 h13 =>
 bindO (extractV v12 0) fun v14 =>
 bindO (extractV v12 1) fun v15 =>
 bindO (aggV 3 h13 v2) fun v16 =>
 CP n_ref25_Find [a0, v16] h13 fun v17 h18 =>
 bindO (extractV v17 0) fun v19 =>
 bindO (extractV v17 1) fun v20 =>
 bindO (X.binOp EE .eql 3 v14 v19) fun v23 =>
 boolP v23 true
 (bindO (X.binOp EE .eql 4 v15 v20) fun v24 =>
 boolP v24 true
 (bindO (offA 0 v0) fun v25 =>
 bindO (aggV 3 h18 v25) fun v26 =>
 bindO (aggV 3 h18 v2) fun v27 =>
 CP n_grid_Less [v26, v27] h18 fun v28 h29 =>
 bindO (offA 0 v0) fun v30 =>
 bindO (aggV 3 h29 v30) fun v31 =>
 (aggV 3 h18 v30) = some v31 ∧
 bindO (aggV 3 h29 v2) fun v32 =>
 (aggV 3 h18 v2) = some v32 ∧
 CP n_ref25_Less [v31, v32] h29 fun v33 h34 =>
 bindO (X.binOp EE .eql 4 v28 v33) fun v35 =>
 boolP v35 true
 (bindO (aggV 11 h34 v0) fun v36 =>
 CP n_grid_Put [a0, v36] h34 fun v37 h38 =>
 bindO (aggV 11 h38 v0) fun v39 =>
 (aggV 11 h34 v0) = some v39 ∧
 CP n_ref25_Put [a0, v39] h38 fun v40 h41 =>
 CP n_ref25_Entries [v37, v40] h41 fun v42 h43 =>
 boolP v42 true
 (bindO (aggV 3 h43 v2) fun v44 =>
 CP n_grid_Drop [a0, v44] h43 fun v45 h46 =>
 bindO (aggV 3 h46 v2) fun v47 =>
 (aggV 3 h43 v2) = some v47 ∧
 CP n_ref25_Drop [a0, v47] h46 fun v48 h49 =>
 CP n_ref25_Entries [v45, v48] h49 fun v50 h51 =>
 boolP v50 true
 (CP n_law25_known [] h51 fun v52 h53 =>
 law25_GridEntries_j22 Q v52 h53)
 (law25_GridEntries_j22 Q (.bool false) h51))
 (law25_GridEntries_j22 Q (.bool false) h43))
 (law25_GridEntries_j22 Q (.bool false) h34))
 (law25_GridEntries_j22 Q (.bool false) h18))
 (law25_GridEntries_j22 Q (.bool false) h18))
theorem law25_GridEntries_eq (a0 a1 a2 : Value) (h : H) (Q : Value → H → Prop) : bodyC PP EE law25_GridEntries_ann Tryz.f3 [a0, a1, a2] h Q = law25_GridEntries a0 a1 a2 h Q := by kernel_rfl
theorem law25_GridEntries_get : EE.funcs.get n_law25_GridEntries = some Tryz.f3 := by kernel_rfl
theorem law25_GridEntries_ok {a0 a1 a2 : Value} {h : H} {Q : Value → H → Prop} (hh : law25_GridEntries a0 a1 a2 h Q) : CallW PP n_law25_GridEntries [a0, a1, a2] h Q := body_sound envOk law25_GridEntries_get (by kernel_rfl) ((law25_GridEntries_eq a0 a1 a2 h Q).mpr hh)
noncomputable def law25_GridOrders_ann : Ann := ⟨69, [(4, ([0, 5, 8], [0, 4, 5])), (2, ([0, 1, 5, 7], [0, 5])), (0, ([0, 1, 5, 6], [0, 1, 5]))], []⟩
noncomputable def law25_GridOrders_j83 (Q : Value → H → Prop) (x4_83 : Value) (h93 : H) : Prop :=
 Q x4_83 h93
noncomputable def law25_GridOrders_l58 (Q : Value → H → Prop) (I58 : List Value → H → Prop) (x0_58 x5_58 x8_58 : Value) (h59 : H) : Prop :=
 blt EE h59 .len #[22] [x5_58] fun v61 h62 =>
 bindO (X.binOp EE .lss 3 x8_58 v61) fun v63 =>
 condP v63
 (bindO (X.binOp EE .sub 3 x8_58 (.int .i64 1)) fun v68 =>
 bindO (ixA 11 x5_58 v68) fun v69 =>
 bindO (offA 0 v69) fun v70 =>
 bindO (aggV 3 h62 v70) fun v71 =>
 bindO (ixA 11 x5_58 x8_58) fun v72 =>
 bindO (offA 0 v72) fun v73 =>
 bindO (aggV 3 h62 v73) fun v74 =>
 CP n_ref25_Less [v71, v74] h62 fun v75 h76 =>
 bindO (X.unOp .not v75) fun v77 =>
 condP v77
 (Q (.bool false) h76)
 (bindO (X.binOp EE .add 3 x8_58 (.int .i64 1)) fun v80 =>
 I58 [x0_58, x5_58, v80] h76))
 (blt EE h62 .len #[22] [x5_58] fun v84 h85 =>
 blt EE h85 .len #[22] [x0_58] fun v86 h87 =>
 bindO (X.binOp EE .leq 3 v84 v86) fun v88 =>
 boolP v88 true
 (CP n_law25_known [] h87 fun v89 h90 =>
 law25_GridOrders_j83 Q v89 h90)
 (law25_GridOrders_j83 Q (.bool false) h87))
noncomputable def law25_GridOrders_l38 (Q : Value → H → Prop) (I38 : List Value → H → Prop) (x0_38 x1_38 x5_38 x7_38 : Value) (h39 : H) : Prop :=
 blt EE h39 .len #[39] [x1_38] fun v41 h42 =>
 bindO (X.binOp EE .lss 3 x7_38 v41) fun v43 =>
 condP v43
 (bindO (ixA 3 x1_38 x7_38) fun v48 =>
 bindO (aggV 3 h42 v48) fun v49 =>
 CP n_grid_Drop [x5_38, v49] h42 fun v50 h51 =>
 bindO (X.binOp EE .add 3 x7_38 (.int .i64 1)) fun v54 =>
 I38 [x0_38, x1_38, v50, v54] h51)
 (LoopG (fun I58 s h => law25_GridOrders_l58 Q I58 (nthD s 0) (nthD s 1) (nthD s 2) h) [x0_38, x5_38, (.int .i64 1)] h42)
noncomputable def law25_GridOrders_l18 (Q : Value → H → Prop) (I18 : List Value → H → Prop) (x0_18 x1_18 x5_18 x6_18 : Value) (h19 : H) : Prop :=
 blt EE h19 .len #[22] [x0_18] fun v21 h22 =>
 bindO (X.binOp EE .lss 3 x6_18 v21) fun v23 =>
 condP v23
 (bindO (ixA 11 x0_18 x6_18) fun v28 =>
 bindO (aggV 11 h22 v28) fun v29 =>
 CP n_grid_Put [x5_18, v29] h22 fun v30 h31 =>
 bindO (X.binOp EE .add 3 x6_18 (.int .i64 1)) fun v34 =>
 I18 [x0_18, x1_18, v30, v34] h31)
 (LoopG (fun I38 s h => law25_GridOrders_l38 Q I38 (nthD s 0) (nthD s 1) (nthD s 2) (nthD s 3) h) [x0_18, x1_18, x5_18, (.int .i64 0)] h22)
noncomputable def law25_GridOrders_j2 (Q : Value → H → Prop) (x0_2 x1_2 x16_2 : Value) (h11 : H) : Prop :=
 condP x16_2
 (CP n_law25_known [] h11 fun v13 h14 =>
 Q v13 h14)
 (LoopG (fun I18 s h => law25_GridOrders_l18 Q I18 (nthD s 0) (nthD s 1) (nthD s 2) (nthD s 3) h) [x0_2, x1_2, (.slice none 0 0), (.int .i64 0)] h11)
noncomputable def law25_GridOrders (a0 a1 : Value) (h : H) (Q : Value → H → Prop) : Prop :=
 blt EE h .len #[22] [a0] fun v3 h4 =>
 bindO (X.binOp EE .gtr 3 v3 (.int .i64 100)) fun v5 =>
 boolP v5 false
 (blt EE h4 .len #[39] [a1] fun v6 h7 =>
 bindO (X.binOp EE .gtr 3 v6 (.int .i64 100)) fun v8 =>
 law25_GridOrders_j2 Q a0 a1 v8 h7)
 (law25_GridOrders_j2 Q a0 a1 (.bool true) h4)
theorem law25_GridOrders_eq (a0 a1 : Value) (h : H) (Q : Value → H → Prop) : bodyC PP EE law25_GridOrders_ann Tryz.f4 [a0, a1] h Q = law25_GridOrders a0 a1 h Q := by kernel_rfl
theorem law25_GridOrders_get : EE.funcs.get n_law25_GridOrders = some Tryz.f4 := by kernel_rfl
theorem law25_GridOrders_ok {a0 a1 : Value} {h : H} {Q : Value → H → Prop} (hh : law25_GridOrders a0 a1 h Q) : CallW PP n_law25_GridOrders [a0, a1] h Q := body_sound envOk law25_GridOrders_get (by kernel_rfl) ((law25_GridOrders_eq a0 a1 h Q).mpr hh)
noncomputable def grid_Find_ann : Ann := ⟨22, [], []⟩
noncomputable def grid_Find (a0 a1 : Value) (h : H) (Q : Value → H → Prop) : Prop :=
 boxP h 24 a1 fun v0 h1 =>
 CP n_slices_IndexFunc__api_Entry_api_Entry_ [a0, (.func (.func n_grid_Find_1) ⟨[]⟩ ⟨[v0]⟩)] h1 fun v3 h4 =>
 bindO (X.binOp EE .geq 3 v3 (.int .i64 0)) fun v5 =>
 condP v5
 (Q (.tuple ⟨[v3, (.bool true)]⟩) h4)
 (CP n_slices_IndexFunc__api_Entry_api_Entry_ [a0, (.func (.func n_grid_Find_2) ⟨[]⟩ ⟨[v0]⟩)] h4 fun v8 h9 =>
 bindO (X.binOp EE .geq 3 v8 (.int .i64 0)) fun v10 =>
 condP v10
 (Q (.tuple ⟨[v8, (.bool false)]⟩) h9)
 (blt EE h9 .len #[22] [a0] fun v12 h13 =>
 Q (.tuple ⟨[v12, (.bool false)]⟩) h13))
theorem grid_Find_eq (a0 a1 : Value) (h : H) (Q : Value → H → Prop) : bodyC PP EE grid_Find_ann Tryz.f6 [a0, a1] h Q = grid_Find a0 a1 h Q := by kernel_rfl
theorem grid_Find_get : EE.funcs.get n_grid_Find = some Tryz.f6 := by kernel_rfl
theorem grid_Find_ok {a0 a1 : Value} {h : H} {Q : Value → H → Prop} (hh : grid_Find a0 a1 h Q) : CallW PP n_grid_Find [a0, a1] h Q := body_sound envOk grid_Find_get (by kernel_rfl) ((grid_Find_eq a0 a1 h Q).mpr hh)
noncomputable def ref25_Find_ann : Ann := ⟨38, [(2, ([0, 3, 7], [7])), (0, ([0, 3, 6], [0, 3, 4, 5]))], []⟩
noncomputable def ref25_Find_j29 (Q : Value → H → Prop) (I25 : List Value → H → Prop) (x0_29 x3_29 x7_29 x34_29 : Value) (h40 : H) : Prop :=
 condP x34_29
 (bindO (X.binOp EE .add 3 x7_29 (.int .i64 1)) fun v45 =>
 I25 [x0_29, x3_29, v45] h40)
 (Q (.tuple ⟨[x7_29, (.bool false)]⟩) h40)
noncomputable def ref25_Find_l25 (Q : Value → H → Prop) (I25 : List Value → H → Prop) (x0_25 x3_25 x7_25 : Value) (h26 : H) : Prop :=
 bindO ((builtinR EE h26 .len #[22] [x0_25]).bind valOf) fun v30 =>
 bindO (X.binOp EE .lss 3 x7_25 v30) fun v31 =>
 boolP v31 true
 (bindO (ixA 11 x0_25 x7_25) fun v32 =>
 bindO (offA 0 v32) fun v33 =>
 bindO (aggV 3 h26 v33) fun v34 =>
 bindO (aggV 3 h26 x3_25) fun v35 =>
 CP n_ref25_Less [v34, v35] h26 fun v36 h37 =>
 ref25_Find_j29 Q I25 x0_25 x3_25 x7_25 v36 h37)
 (ref25_Find_j29 Q I25 x0_25 x3_25 x7_25 (.bool false) h26)
noncomputable def ref25_Find_l4 (Q : Value → H → Prop) (I4 : List Value → H → Prop) (x0_4 x3_4 x6_4 : Value) (h5 : H) : Prop :=
 blt EE h5 .len #[22] [x0_4] fun v7 h8 =>
 bindO (X.binOp EE .lss 3 x6_4 v7) fun v9 =>
 condP v9
 (bindO (ixA 11 x0_4 x6_4) fun v14 =>
 bindO (offA 0 v14) fun v15 =>
 bindO (aggV 3 h8 v15) fun v16 =>
 bindO (aggV 3 h8 x3_4) fun v17 =>
 bindO (X.binOp EE .eql 24 v16 v17) fun v18 =>
 condP v18
 (Q (.tuple ⟨[x6_4, (.bool true)]⟩) h8)
 (bindO (X.binOp EE .add 3 x6_4 (.int .i64 1)) fun v21 =>
 I4 [x0_4, x3_4, v21] h8))
 (LoopG (fun I25 s h => ref25_Find_l25 Q I25 (nthD s 0) (nthD s 1) (nthD s 2) h) [x0_4, x3_4, (.int .i64 0)] h8)
noncomputable def ref25_Find (a0 a1 : Value) (h : H) (Q : Value → H → Prop) : Prop :=
 boxP h 24 a1 fun v0 h1 =>
 LoopG (fun I4 s h => ref25_Find_l4 Q I4 (nthD s 0) (nthD s 1) (nthD s 2) h) [a0, v0, (.int .i64 0)] h1
theorem ref25_Find_eq (a0 a1 : Value) (h : H) (Q : Value → H → Prop) : bodyC PP EE ref25_Find_ann Tryz.f7 [a0, a1] h Q = ref25_Find a0 a1 h Q := by kernel_rfl
theorem ref25_Find_get : EE.funcs.get n_ref25_Find = some Tryz.f7 := by kernel_rfl
theorem ref25_Find_ok {a0 a1 : Value} {h : H} {Q : Value → H → Prop} (hh : ref25_Find a0 a1 h Q) : CallW PP n_ref25_Find [a0, a1] h Q := body_sound envOk ref25_Find_get (by kernel_rfl) ((ref25_Find_eq a0 a1 h Q).mpr hh)
noncomputable def grid_Less_ann : Ann := ⟨23, [], []⟩
noncomputable def grid_Less (a0 a1 : Value) (h : H) (Q : Value → H → Prop) : Prop :=
 boxP h 24 a0 fun v0 h1 =>
 boxP h1 24 a1 fun v2 h3 =>
 bindO (offA 0 v0) fun v4 =>
 bindO (cellV h3 v4) fun v5 =>
 bindO (offA 0 v2) fun v6 =>
 bindO (cellV h3 v6) fun v7 =>
 CP n_cmp_Compare_int_ [v5, v7] h3 fun v8 h9 =>
 bindO (offA 2 v0) fun v10 =>
 bindO (cellV h9 v10) fun v11 =>
 (cellV h3 v10) = some v11 ∧
 bindO (offA 2 v2) fun v12 =>
 bindO (cellV h9 v12) fun v13 =>
 (cellV h3 v12) = some v13 ∧
 CP n_cmp_Compare_int_ [v11, v13] h9 fun v14 h15 =>
 bindO (offA 1 v0) fun v16 =>
 bindO (cellV h15 v16) fun v17 =>
 (cellV h9 v16) = some v17 ∧
 (cellV h3 v16) = some v17 ∧
 bindO (offA 1 v2) fun v18 =>
 bindO (cellV h15 v18) fun v19 =>
 (cellV h9 v18) = some v19 ∧
 (cellV h3 v18) = some v19 ∧
 CP n_cmp_Compare_int_ [v17, v19] h15 fun v20 h21 =>
 bldS EE h21 42 3 [(0, v8), (1, v14), (2, v20)] fun v22 h23 =>
 CP n_cmp_Or_int_ [v22] h23 fun v24 h25 =>
 bindO (X.binOp EE .lss 3 v24 (.int .i64 0)) fun v26 =>
 Q v26 h25
theorem grid_Less_eq (a0 a1 : Value) (h : H) (Q : Value → H → Prop) : bodyC PP EE grid_Less_ann Tryz.f8 [a0, a1] h Q = grid_Less a0 a1 h Q := by kernel_rfl
theorem grid_Less_get : EE.funcs.get n_grid_Less = some Tryz.f8 := by kernel_rfl
theorem grid_Less_ok {a0 a1 : Value} {h : H} {Q : Value → H → Prop} (hh : grid_Less a0 a1 h Q) : CallW PP n_grid_Less [a0, a1] h Q := body_sound envOk grid_Less_get (by kernel_rfl) ((grid_Less_eq a0 a1 h Q).mpr hh)
noncomputable def ref25_Less_ann : Ann := ⟨30, [], []⟩
noncomputable def ref25_Less (a0 a1 : Value) (h : H) (Q : Value → H → Prop) : Prop :=
 boxP h 24 a0 fun v0 h1 =>
 boxP h1 24 a1 fun v2 h3 =>
 bindO (offA 0 v0) fun v5 =>
 bindO (cellV h3 v5) fun v6 =>
 bindO (offA 0 v2) fun v7 =>
 bindO (cellV h3 v7) fun v8 =>
 bindO (X.binOp EE .neq 3 v6 v8) fun v9 =>
 condP v9
 (bindO (offA 0 v0) fun v10 =>
 bindO (cellV h3 v10) fun v11 =>
 bindO (offA 0 v2) fun v12 =>
 bindO (cellV h3 v12) fun v13 =>
 bindO (X.binOp EE .lss 3 v11 v13) fun v14 =>
 Q v14 h3)
 (bindO (offA 2 v0) fun v17 =>
 bindO (cellV h3 v17) fun v18 =>
 bindO (offA 2 v2) fun v19 =>
 bindO (cellV h3 v19) fun v20 =>
 bindO (X.binOp EE .neq 3 v18 v20) fun v21 =>
 condP v21
 (bindO (offA 2 v0) fun v22 =>
 bindO (cellV h3 v22) fun v23 =>
 bindO (offA 2 v2) fun v24 =>
 bindO (cellV h3 v24) fun v25 =>
 bindO (X.binOp EE .lss 3 v23 v25) fun v26 =>
 Q v26 h3)
 (bindO (offA 1 v0) fun v28 =>
 bindO (cellV h3 v28) fun v29 =>
 bindO (offA 1 v2) fun v30 =>
 bindO (cellV h3 v30) fun v31 =>
 bindO (X.binOp EE .lss 3 v29 v31) fun v32 =>
 Q v32 h3))
theorem ref25_Less_eq (a0 a1 : Value) (h : H) (Q : Value → H → Prop) : bodyC PP EE ref25_Less_ann Tryz.f9 [a0, a1] h Q = ref25_Less a0 a1 h Q := by kernel_rfl
theorem ref25_Less_get : EE.funcs.get n_ref25_Less = some Tryz.f9 := by kernel_rfl
theorem ref25_Less_ok {a0 a1 : Value} {h : H} {Q : Value → H → Prop} (hh : ref25_Less a0 a1 h Q) : CallW PP n_ref25_Less [a0, a1] h Q := body_sound envOk ref25_Less_get (by kernel_rfl) ((ref25_Less_eq a0 a1 h Q).mpr hh)
noncomputable def ref25_Entries_ann : Ann := ⟨26, [(0, ([0, 1, 5], [4]))], []⟩
noncomputable def ref25_Entries_l9 (Q : Value → H → Prop) (I9 : List Value → H → Prop) (x0_9 x1_9 x5_9 : Value) (h10 : H) : Prop :=
 blt EE h10 .len #[22] [x0_9] fun v12 h13 =>
 bindO (X.binOp EE .lss 3 x5_9 v12) fun v14 =>
 condP v14
 (bindO (ixA 11 x0_9 x5_9) fun v19 =>
 bindO (aggV 11 h13 v19) fun v20 =>
 bindO (ixA 11 x1_9 x5_9) fun v21 =>
 bindO (aggV 11 h13 v21) fun v22 =>
 bindO (X.binOp EE .neq 30 v20 v22) fun v23 =>
 condP v23
 (Q (.bool false) h13)
 (bindO (X.binOp EE .add 3 x5_9 (.int .i64 1)) fun v26 =>
 I9 [x0_9, x1_9, v26] h13))
 (Q (.bool true) h13)
noncomputable def ref25_Entries (a0 a1 : Value) (h : H) (Q : Value → H → Prop) : Prop :=
 blt EE h .len #[22] [a0] fun v1 h2 =>
 blt EE h2 .len #[22] [a1] fun v3 h4 =>
 bindO (X.binOp EE .neq 3 v1 v3) fun v5 =>
 condP v5
 (Q (.bool false) h4)
 (LoopG (fun I9 s h => ref25_Entries_l9 Q I9 (nthD s 0) (nthD s 1) (nthD s 2) h) [a0, a1, (.int .i64 0)] h4)
theorem ref25_Entries_eq (a0 a1 : Value) (h : H) (Q : Value → H → Prop) : bodyC PP EE ref25_Entries_ann Tryz.f10 [a0, a1] h Q = ref25_Entries a0 a1 h Q := by kernel_rfl
theorem ref25_Entries_get : EE.funcs.get n_ref25_Entries = some Tryz.f10 := by kernel_rfl
theorem ref25_Entries_ok {a0 a1 : Value} {h : H} {Q : Value → H → Prop} (hh : ref25_Entries a0 a1 h Q) : CallW PP n_ref25_Entries [a0, a1] h Q := body_sound envOk ref25_Entries_get (by kernel_rfl) ((ref25_Entries_eq a0 a1 h Q).mpr hh)
noncomputable def grid_Put_ann : Ann := ⟨27, [], []⟩
noncomputable def grid_Put (a0 a1 : Value) (h : H) (Q : Value → H → Prop) : Prop :=
 boxP h 30 a1 fun v0 h1 =>
 bindO (offA 0 v0) fun v2 =>
 bindO (aggV 3 h1 v2) fun v3 =>
 CP n_grid_Find [a0, v3] h1 fun v4 h5 =>
 bindO (extractV v4 0) fun v6 =>
 bindO (extractV v4 1) fun v7 =>
 CP n_slices_Clone__api_Entry_api_Entry_ [a0] h5 fun v8 h9 =>
 condP v7
 (bindO (aggV 11 h9 v0) fun v11 =>
 bindO (ixA 11 v8 v6) fun v12 =>
 bindO (stV 11 h9 v12 v11) fun h13 =>
 Q v8 h13)
 (bindO (aggV 11 h9 v0) fun v15 =>
 bldS EE h9 22 1 [(0, v15)] fun v16 h17 =>
 CP n_slices_Insert__api_Entry_api_Entry_ [v8, v6, v16] h17 fun v18 h19 =>
 Q v18 h19)
theorem grid_Put_eq (a0 a1 : Value) (h : H) (Q : Value → H → Prop) : bodyC PP EE grid_Put_ann Tryz.f11 [a0, a1] h Q = grid_Put a0 a1 h Q := by kernel_rfl
theorem grid_Put_get : EE.funcs.get n_grid_Put = some Tryz.f11 := by kernel_rfl
theorem grid_Put_ok {a0 a1 : Value} {h : H} {Q : Value → H → Prop} (hh : grid_Put a0 a1 h Q) : CallW PP n_grid_Put [a0, a1] h Q := body_sound envOk grid_Put_get (by kernel_rfl) ((grid_Put_eq a0 a1 h Q).mpr hh)
noncomputable def ref25_Put_ann : Ann := ⟨32, [], []⟩
noncomputable def ref25_Put_j16 (Q : Value → H → Prop) (x0_16 x5_16 x7_16 : Value) (h20 : H) : Prop :=
 bindO (sliceV EE h20 22 x0_16 (some x5_16) none none) fun v21 =>
 appP EE h20 #[22, 22] x7_16 v21 fun v22 h23 =>
 Q v22 h23
noncomputable def ref25_Put (a0 a1 : Value) (h : H) (Q : Value → H → Prop) : Prop :=
 boxP h 30 a1 fun v0 h1 =>
 bindO (offA 0 v0) fun v2 =>
 bindO (aggV 3 h1 v2) fun v3 =>
 CP n_ref25_Find [a0, v3] h1 fun v4 h5 =>
 bindO (extractV v4 0) fun v6 =>
 bindO (extractV v4 1) fun v7 =>
 bindO (sliceV EE h5 22 a0 none (some v6) none) fun v8 =>
 appP EE h5 #[22, 22] (.slice none 0 0) v8 fun v9 h10 =>
 bindO (aggV 11 h10 v0) fun v11 =>
 bldS EE h10 22 1 [(0, v11)] fun v12 h13 =>
 appP EE h13 #[22, 22] v9 v12 fun v14 h15 =>
 condP v7
 (bindO (X.binOp EE .add 3 v6 (.int .i64 1)) fun v17 =>
 ref25_Put_j16 Q a0 v17 v14 h15)
 (ref25_Put_j16 Q a0 v6 v14 h15)
theorem ref25_Put_eq (a0 a1 : Value) (h : H) (Q : Value → H → Prop) : bodyC PP EE ref25_Put_ann Tryz.f12 [a0, a1] h Q = ref25_Put a0 a1 h Q := by kernel_rfl
theorem ref25_Put_get : EE.funcs.get n_ref25_Put = some Tryz.f12 := by kernel_rfl
theorem ref25_Put_ok {a0 a1 : Value} {h : H} {Q : Value → H → Prop} (hh : ref25_Put a0 a1 h Q) : CallW PP n_ref25_Put [a0, a1] h Q := body_sound envOk ref25_Put_get (by kernel_rfl) ((ref25_Put_eq a0 a1 h Q).mpr hh)
noncomputable def grid_Drop_ann : Ann := ⟨23, [], []⟩
noncomputable def grid_Drop (a0 a1 : Value) (h : H) (Q : Value → H → Prop) : Prop :=
 boxP h 24 a1 fun v0 h1 =>
 bindO (aggV 3 h1 v0) fun v2 =>
 CP n_grid_Find [a0, v2] h1 fun v3 h4 =>
 bindO (extractV v3 0) fun v5 =>
 bindO (extractV v3 1) fun v6 =>
 CP n_slices_Clone__api_Entry_api_Entry_ [a0] h4 fun v7 h8 =>
 bindO (X.unOp .not v6) fun v10 =>
 condP v10
 (Q v7 h8)
 (bindO (X.binOp EE .add 3 v5 (.int .i64 1)) fun v12 =>
 CP n_slices_Delete__api_Entry_api_Entry_ [v7, v5, v12] h8 fun v13 h14 =>
 Q v13 h14)
theorem grid_Drop_eq (a0 a1 : Value) (h : H) (Q : Value → H → Prop) : bodyC PP EE grid_Drop_ann Tryz.f13 [a0, a1] h Q = grid_Drop a0 a1 h Q := by kernel_rfl
theorem grid_Drop_get : EE.funcs.get n_grid_Drop = some Tryz.f13 := by kernel_rfl
theorem grid_Drop_ok {a0 a1 : Value} {h : H} {Q : Value → H → Prop} (hh : grid_Drop a0 a1 h Q) : CallW PP n_grid_Drop [a0, a1] h Q := body_sound envOk grid_Drop_get (by kernel_rfl) ((grid_Drop_eq a0 a1 h Q).mpr hh)
noncomputable def ref25_Drop_ann : Ann := ⟨30, [], []⟩
noncomputable def ref25_Drop (a0 a1 : Value) (h : H) (Q : Value → H → Prop) : Prop :=
 boxP h 24 a1 fun v0 h1 =>
 bindO (aggV 3 h1 v0) fun v2 =>
 CP n_ref25_Find [a0, v2] h1 fun v3 h4 =>
 bindO (extractV v3 0) fun v5 =>
 bindO (extractV v3 1) fun v6 =>
 bindO (X.unOp .not v6) fun v8 =>
 condP v8
 (appP EE h4 #[22, 22] (.slice none 0 0) a0 fun v9 h10 =>
 Q v9 h10)
 (bindO (sliceV EE h4 22 a0 none (some v5) none) fun v12 =>
 appP EE h4 #[22, 22] (.slice none 0 0) v12 fun v13 h14 =>
 bindO (X.binOp EE .add 3 v5 (.int .i64 1)) fun v15 =>
 bindO (sliceV EE h14 22 a0 (some v15) none none) fun v16 =>
 appP EE h14 #[22, 22] v13 v16 fun v17 h18 =>
 Q v17 h18)
theorem ref25_Drop_eq (a0 a1 : Value) (h : H) (Q : Value → H → Prop) : bodyC PP EE ref25_Drop_ann Tryz.f14 [a0, a1] h Q = ref25_Drop a0 a1 h Q := by kernel_rfl
theorem ref25_Drop_get : EE.funcs.get n_ref25_Drop = some Tryz.f14 := by kernel_rfl
theorem ref25_Drop_ok {a0 a1 : Value} {h : H} {Q : Value → H → Prop} (hh : ref25_Drop a0 a1 h Q) : CallW PP n_ref25_Drop [a0, a1] h Q := body_sound envOk ref25_Drop_get (by kernel_rfl) ((ref25_Drop_eq a0 a1 h Q).mpr hh)
noncomputable def slices_IndexFunc__api_Entry_api_Entry__ann : Ann := ⟨19, [(0, ([0, 1, 7, 8], [4]))], []⟩
noncomputable def slices_IndexFunc__api_Entry_api_Entry__l4 (Q : Value → H → Prop) (I4 : List Value → H → Prop) (x0_4 x1_4 x7_4 x8_4 : Value) (h5 : H) : Prop :=
 bindO (X.binOp EE .lss 3 x8_4 x7_4) fun v6 =>
 condP v6
 (bindO (ixA 11 x0_4 x8_4) fun v12 =>
 bindO (aggV 11 h5 v12) fun v13 =>
 DP x1_4 [v13] h5 fun v14 h15 =>
 condP v14
 (Q x8_4 h15)
 (bindO (X.binOp EE .add 3 x8_4 (.int .i64 1)) fun v18 =>
 I4 [x0_4, x1_4, x7_4, v18] h15))
 (Q (.int .i64 (-1)) h5)
noncomputable def slices_IndexFunc__api_Entry_api_Entry_ (a0 a1 : Value) (h : H) (Q : Value → H → Prop) : Prop :=
 blt EE h .len #[22] [a0] fun v1 h2 =>
 LoopG (fun I4 s h => slices_IndexFunc__api_Entry_api_Entry__l4 Q I4 (nthD s 0) (nthD s 1) (nthD s 2) (nthD s 3) h) [a0, a1, v1, (.int .i64 0)] h2
theorem slices_IndexFunc__api_Entry_api_Entry__eq (a0 a1 : Value) (h : H) (Q : Value → H → Prop) : bodyC PP EE slices_IndexFunc__api_Entry_api_Entry__ann Tryz.f16 [a0, a1] h Q = slices_IndexFunc__api_Entry_api_Entry_ a0 a1 h Q := by kernel_rfl
theorem slices_IndexFunc__api_Entry_api_Entry__get : EE.funcs.get n_slices_IndexFunc__api_Entry_api_Entry_ = some Tryz.f16 := by kernel_rfl
theorem slices_IndexFunc__api_Entry_api_Entry__ok {a0 a1 : Value} {h : H} {Q : Value → H → Prop} (hh : slices_IndexFunc__api_Entry_api_Entry_ a0 a1 h Q) : CallW PP n_slices_IndexFunc__api_Entry_api_Entry_ [a0, a1] h Q := body_sound envOk slices_IndexFunc__api_Entry_api_Entry__get (by kernel_rfl) ((slices_IndexFunc__api_Entry_api_Entry__eq a0 a1 h Q).mpr hh)
noncomputable def grid_Find_1_ann : Ann := ⟨8, [], []⟩
noncomputable def grid_Find_1 (a0 a1 : Value) (h : H) (Q : Value → H → Prop) : Prop :=
 boxP h 30 a0 fun v0 h1 =>
 bindO (offA 0 v0) fun v2 =>
 bindO (aggV 3 h1 v2) fun v3 =>
 bindO (aggV 3 h1 a1) fun v4 =>
 bindO (X.binOp EE .eql 24 v3 v4) fun v5 =>
 Q v5 h1
theorem grid_Find_1_eq (a0 a1 : Value) (h : H) (Q : Value → H → Prop) : bodyC PP EE grid_Find_1_ann Tryz.f17 [a0, a1] h Q = grid_Find_1 a0 a1 h Q := by kernel_rfl
theorem grid_Find_1_get : EE.funcs.get n_grid_Find_1 = some Tryz.f17 := by kernel_rfl
theorem grid_Find_1_ok {a0 a1 : Value} {h : H} {Q : Value → H → Prop} (hh : grid_Find_1 a0 a1 h Q) : CallW PP n_grid_Find_1 [a0, a1] h Q := body_sound envOk grid_Find_1_get (by kernel_rfl) ((grid_Find_1_eq a0 a1 h Q).mpr hh)
noncomputable def grid_Find_2_ann : Ann := ⟨9, [], []⟩
noncomputable def grid_Find_2 (a0 a1 : Value) (h : H) (Q : Value → H → Prop) : Prop :=
 boxP h 30 a0 fun v0 h1 =>
 bindO (offA 0 v0) fun v2 =>
 bindO (aggV 3 h1 v2) fun v3 =>
 bindO (aggV 3 h1 a1) fun v4 =>
 CP n_grid_Less [v3, v4] h1 fun v5 h6 =>
 bindO (X.unOp .not v5) fun v7 =>
 Q v7 h6
theorem grid_Find_2_eq (a0 a1 : Value) (h : H) (Q : Value → H → Prop) : bodyC PP EE grid_Find_2_ann Tryz.f18 [a0, a1] h Q = grid_Find_2 a0 a1 h Q := by kernel_rfl
theorem grid_Find_2_get : EE.funcs.get n_grid_Find_2 = some Tryz.f18 := by kernel_rfl
theorem grid_Find_2_ok {a0 a1 : Value} {h : H} {Q : Value → H → Prop} (hh : grid_Find_2 a0 a1 h Q) : CallW PP n_grid_Find_2 [a0, a1] h Q := body_sound envOk grid_Find_2_get (by kernel_rfl) ((grid_Find_2_eq a0 a1 h Q).mpr hh)
noncomputable def cmp_Or_int__ann : Ann := ⟨18, [(0, ([3, 6, 7, 8], [2, 3]))], []⟩
noncomputable def cmp_Or_int__l4 (Q : Value → H → Prop) (I4 : List Value → H → Prop) (x3_4 x6_4 x7_4 x8_4 : Value) (h5 : H) : Prop :=
 bindO (X.binOp EE .lss 3 x8_4 x7_4) fun v6 =>
 condP v6
 (bindO (ixA 1 x6_4 x8_4) fun v12 =>
 bindO (cellV h5 v12) fun v13 =>
 bindO (X.binOp EE .neq 3 v13 x3_4) fun v14 =>
 condP v14
 (Q v13 h5)
 (bindO (X.binOp EE .add 3 x8_4 (.int .i64 1)) fun v17 =>
 I4 [x3_4, x6_4, x7_4, v17] h5))
 (Q x3_4 h5)
noncomputable def cmp_Or_int_ (a0 : Value) (h : H) (Q : Value → H → Prop) : Prop :=
 blt EE h .len #[42] [a0] fun v1 h2 =>
 LoopG (fun I4 s h => cmp_Or_int__l4 Q I4 (nthD s 0) (nthD s 1) (nthD s 2) (nthD s 3) h) [(.int .i64 0), a0, v1, (.int .i64 0)] h2
theorem cmp_Or_int__eq (a0 : Value) (h : H) (Q : Value → H → Prop) : bodyC PP EE cmp_Or_int__ann Tryz.f19 [a0] h Q = cmp_Or_int_ a0 h Q := by kernel_rfl
theorem cmp_Or_int__get : EE.funcs.get n_cmp_Or_int_ = some Tryz.f19 := by kernel_rfl
theorem cmp_Or_int__ok {a0 : Value} {h : H} {Q : Value → H → Prop} (hh : cmp_Or_int_ a0 h Q) : CallW PP n_cmp_Or_int_ [a0] h Q := body_sound envOk cmp_Or_int__get (by kernel_rfl) ((cmp_Or_int__eq a0 h Q).mpr hh)
noncomputable def cmp_Compare_int__ann : Ann := ⟨20, [], []⟩
noncomputable def cmp_Compare_int_ (a0 a1 : Value) (h : H) (Q : Value → H → Prop) : Prop :=
 CP n_cmp_isNaN_int_ [a0] h fun v0 h1 =>
 CP n_cmp_isNaN_int_ [a1] h1 fun v2 h3 =>
 condP v0
 (condP v2
 (Q (.int .i64 0) h3)
 (Q (.int .i64 (-1)) h3))
 (condP v2
 (Q (.int .i64 1) h3)
 (bindO (X.binOp EE .lss 3 a0 a1) fun v11 =>
 condP v11
 (Q (.int .i64 (-1)) h3)
 (bindO (X.binOp EE .gtr 3 a0 a1) fun v14 =>
 condP v14
 (Q (.int .i64 1) h3)
 (Q (.int .i64 0) h3))))
theorem cmp_Compare_int__eq (a0 a1 : Value) (h : H) (Q : Value → H → Prop) : bodyC PP EE cmp_Compare_int__ann Tryz.f20 [a0, a1] h Q = cmp_Compare_int_ a0 a1 h Q := by kernel_rfl
theorem cmp_Compare_int__get : EE.funcs.get n_cmp_Compare_int_ = some Tryz.f20 := by kernel_rfl
theorem cmp_Compare_int__ok {a0 a1 : Value} {h : H} {Q : Value → H → Prop} (hh : cmp_Compare_int_ a0 a1 h Q) : CallW PP n_cmp_Compare_int_ [a0, a1] h Q := body_sound envOk cmp_Compare_int__get (by kernel_rfl) ((cmp_Compare_int__eq a0 a1 h Q).mpr hh)
noncomputable def slices_Clone__api_Entry_api_Entry__ann : Ann := ⟨8, [], []⟩
noncomputable def slices_Clone__api_Entry_api_Entry_ (a0 : Value) (h : H) (Q : Value → H → Prop) : Prop :=
 bindO (X.binOp EE .eql 22 a0 (.slice none 0 0)) fun v1 =>
 condP v1
 (Q (.slice none 0 0) h)
 (bldS EE h 22 0 [] fun v3 h4 =>
 appP EE h4 #[22, 22] v3 a0 fun v5 h6 =>
 Q v5 h6)
theorem slices_Clone__api_Entry_api_Entry__eq (a0 : Value) (h : H) (Q : Value → H → Prop) : bodyC PP EE slices_Clone__api_Entry_api_Entry__ann Tryz.f21 [a0] h Q = slices_Clone__api_Entry_api_Entry_ a0 h Q := by kernel_rfl
theorem slices_Clone__api_Entry_api_Entry__get : EE.funcs.get n_slices_Clone__api_Entry_api_Entry_ = some Tryz.f21 := by kernel_rfl
theorem slices_Clone__api_Entry_api_Entry__ok {a0 : Value} {h : H} {Q : Value → H → Prop} (hh : slices_Clone__api_Entry_api_Entry_ a0 h Q) : CallW PP n_slices_Clone__api_Entry_api_Entry_ [a0] h Q := body_sound envOk slices_Clone__api_Entry_api_Entry__get (by kernel_rfl) ((slices_Clone__api_Entry_api_Entry__eq a0 h Q).mpr hh)
noncomputable def slices_Insert__api_Entry_api_Entry__ann : Ann := ⟨95, [], []⟩
noncomputable def slices_Insert__api_Entry_api_Entry_ (a0 a1 a2 : Value) (h : H) (Q : Value → H → Prop) : Prop :=
 bindO (sliceV EE h 22 a0 (some a1) none none) fun v0 =>
 blt EE h .len #[22] [a2] fun v1 h2 =>
 bindO (X.binOp EE .eql 3 v1 (.int .i64 0)) fun v4 =>
 condP v4
 (Q a0 h2)
 (blt EE h2 .len #[22] [a0] fun v6 h7 =>
 bindO (X.binOp EE .eql 3 a1 v6) fun v9 =>
 condP v9
 (appP EE h7 #[22, 22] a0 a2 fun v10 h11 =>
 Q v10 h11)
 (bindO (X.binOp EE .add 3 v6 v1) fun v14 =>
 capP EE h7 [22] a0 fun v15 h16 =>
 bindO (X.binOp EE .gtr 3 v14 v15) fun v17 =>
 condP v17
 (bindO (sliceV EE h16 22 a0 none (some a1) none) fun v18 =>
 bindO (X.binOp EE .add 3 v6 v1) fun v19 =>
 bindO (X.binOp EE .sub 3 v19 a1) fun v20 =>
 appP EE h16 #[22, 3] v18 v20 fun v21 h22 =>
 bindO (sliceV EE h22 22 v21 (some a1) none none) fun v23 =>
 blt EE h22 .copy #[22, 22] [v23, a2] fun v24 h25 =>
 bindO (X.binOp EE .add 3 a1 v1) fun v26 =>
 bindO (sliceV EE h25 22 v21 (some v26) none none) fun v27 =>
 bindO (sliceV EE h25 22 a0 (some a1) none none) fun v28 =>
 blt EE h25 .copy #[22, 22] [v27, v28] fun v29 h30 =>
 Q v21 h30)
 (bindO (X.binOp EE .add 3 v6 v1) fun v32 =>
 bindO (sliceV EE h16 22 a0 none (some v32) none) fun v33 =>
 bindO (X.binOp EE .add 3 a1 v1) fun v35 =>
 bindO (sliceV EE h16 22 v33 (some v35) none none) fun v36 =>
 CP n_slices_overlaps_api_Entry_ [a2, v36] h16 fun v37 h38 =>
 bindO (X.unOp .not v37) fun v39 =>
 condP v39
 (bindO (X.binOp EE .add 3 a1 v1) fun v40 =>
 bindO (sliceV EE h38 22 v33 (some v40) none none) fun v41 =>
 bindO (sliceV EE h38 22 v33 (some a1) none none) fun v42 =>
 blt EE h38 .copy #[22, 22] [v41, v42] fun v43 h44 =>
 bindO (sliceV EE h44 22 v33 (some a1) none none) fun v45 =>
 blt EE h44 .copy #[22, 22] [v45, a2] fun v46 h47 =>
 Q v33 h47)
 (bindO (sliceV EE h38 22 v33 (some v6) none none) fun v49 =>
 blt EE h38 .copy #[22, 22] [v49, a2] fun v50 h51 =>
 bindO (sliceV EE h51 22 v33 (some a1) none none) fun v52 =>
 CP n_slices_rotateRight_api_Entry_ [v52, v1] h51 fun v53 h54 =>
 Q v33 h54))))
theorem slices_Insert__api_Entry_api_Entry__eq (a0 a1 a2 : Value) (h : H) (Q : Value → H → Prop) : bodyC PP EE slices_Insert__api_Entry_api_Entry__ann Tryz.f22 [a0, a1, a2] h Q = slices_Insert__api_Entry_api_Entry_ a0 a1 a2 h Q := by kernel_rfl
theorem slices_Insert__api_Entry_api_Entry__get : EE.funcs.get n_slices_Insert__api_Entry_api_Entry_ = some Tryz.f22 := by kernel_rfl
theorem slices_Insert__api_Entry_api_Entry__ok {a0 a1 a2 : Value} {h : H} {Q : Value → H → Prop} (hh : slices_Insert__api_Entry_api_Entry_ a0 a1 a2 h Q) : CallW PP n_slices_Insert__api_Entry_api_Entry_ [a0, a1, a2] h Q := body_sound envOk slices_Insert__api_Entry_api_Entry__get (by kernel_rfl) ((slices_Insert__api_Entry_api_Entry__eq a0 a1 a2 h Q).mpr hh)
noncomputable def slices_Delete__api_Entry_api_Entry__ann : Ann := ⟨33, [], []⟩
noncomputable def slices_Delete__api_Entry_api_Entry_ (a0 a1 a2 : Value) (h : H) (Q : Value → H → Prop) : Prop :=
 blt EE h .len #[22] [a0] fun v0 h1 =>
 bindO (sliceV EE h1 22 a0 (some a1) (some a2) (some v0)) fun v2 =>
 bindO (X.binOp EE .eql 3 a1 a2) fun v4 =>
 condP v4
 (Q a0 h1)
 (blt EE h1 .len #[22] [a0] fun v6 h7 =>
 bindO (sliceV EE h7 22 a0 none (some a1) none) fun v8 =>
 bindO (sliceV EE h7 22 a0 (some a2) none none) fun v9 =>
 appP EE h7 #[22, 22] v8 v9 fun v10 h11 =>
 blt EE h11 .len #[22] [v10] fun v12 h13 =>
 bindO (sliceV EE h13 22 v10 (some v12) (some v6) none) fun v14 =>
 clearP EE h13 [22] v14 fun v15 h16 =>
 Q v10 h16)
theorem slices_Delete__api_Entry_api_Entry__eq (a0 a1 a2 : Value) (h : H) (Q : Value → H → Prop) : bodyC PP EE slices_Delete__api_Entry_api_Entry__ann Tryz.f23 [a0, a1, a2] h Q = slices_Delete__api_Entry_api_Entry_ a0 a1 a2 h Q := by kernel_rfl
theorem slices_Delete__api_Entry_api_Entry__get : EE.funcs.get n_slices_Delete__api_Entry_api_Entry_ = some Tryz.f23 := by kernel_rfl
theorem slices_Delete__api_Entry_api_Entry__ok {a0 a1 a2 : Value} {h : H} {Q : Value → H → Prop} (hh : slices_Delete__api_Entry_api_Entry_ a0 a1 a2 h Q) : CallW PP n_slices_Delete__api_Entry_api_Entry_ [a0, a1, a2] h Q := body_sound envOk slices_Delete__api_Entry_api_Entry__get (by kernel_rfl) ((slices_Delete__api_Entry_api_Entry__eq a0 a1 a2 h Q).mpr hh)
noncomputable def cmp_isNaN_int__ann : Ann := ⟨6, [], []⟩
noncomputable def cmp_isNaN_int_ (a0 : Value) (h : H) (Q : Value → H → Prop) : Prop :=
 bindO (X.binOp EE .neq 3 a0 a0) fun v0 =>
 Q v0 h
theorem cmp_isNaN_int__eq (a0 : Value) (h : H) (Q : Value → H → Prop) : bodyC PP EE cmp_isNaN_int__ann Tryz.f28 [a0] h Q = cmp_isNaN_int_ a0 h Q := by kernel_rfl
theorem cmp_isNaN_int__get : EE.funcs.get n_cmp_isNaN_int_ = some Tryz.f28 := by kernel_rfl
theorem cmp_isNaN_int__ok {a0 : Value} {h : H} {Q : Value → H → Prop} (hh : cmp_isNaN_int_ a0 h Q) : CallW PP n_cmp_isNaN_int_ [a0] h Q := body_sound envOk cmp_isNaN_int__get (by kernel_rfl) ((cmp_isNaN_int__eq a0 h Q).mpr hh)
end Go.Proofs.YthbmhdlbphkljaaGreatDoor
