/-
  Several texts in one: The functions of the program that this seat's laws reach, told as functions on values: each text is what the translation comes to. No condition.
-/
import Derived.Test.YtlhcgiegganbpaaDoorProg
import Derived.Test.YtlhcgiegganbpaaDoorVM7
import Derived.KernelRfl
set_option linter.unusedVariables false
set_option linter.unusedSimpArgs false
set_option maxRecDepth 100000
namespace Go.Proofs.YtlhcgiegganbpaaDoorVs
def L : List (Nat × Nat × Sig) := [
  (8, 0, { ps := [PSh.one (PM.fz)], rs := [RSh.one (PM.fz)] }),
  (74, 0, { ps := [PSh.nils, PSh.one (PM.fz)], rs := [RSh.one (PM.own)] }),
  (37, 0, { ps := [PSh.one (PM.own), PSh.one (PM.fz), PSh.one (PM.fz)], rs := [RSh.one (PM.own)] }),
  (48, 0, { ps := [PSh.one (PM.lent)], rs := [RSh.one (PM.own)] }),
  (33, 0, { ps := [PSh.ptr false [PM.fz, PM.fz, PM.fz, PM.fz, PM.fz, PM.own, PM.own, PM.own]], rs := [] }),
  (34, 0, { ps := [PSh.ptr false [PM.fz, PM.fz, PM.fz, PM.fz, PM.fz, PM.own, PM.own, PM.own], PSh.one (PM.fz)], rs := [RSh.one (PM.fz)] }),
  (6, 0, { ps := [PSh.ptr false [PM.fz, PM.fz, PM.fz, PM.fz, PM.fz, PM.own, PM.own, PM.own], PSh.one (PM.fz)], rs := [RSh.agg [PM.fz, PM.fz, PM.fz], RSh.one (PM.fz)] }),
  (6, 1, { ps := [PSh.nilp, PSh.one (PM.fz)], rs := [RSh.agg [PM.fz, PM.fz, PM.fz], RSh.one (PM.fz)] }),
  (36, 0, { ps := [PSh.agg [PM.fz, PM.fz, PM.fz], PSh.ptr true [PM.fz]], rs := [RSh.one (PM.fz)] }),
  (35, 0, { ps := [PSh.one (PM.lent), PSh.one (PM.lent)], rs := [RSh.one (PM.fz)] }),
  (7, 0, { ps := [PSh.ptr false [PM.fz, PM.fz, PM.fz, PM.fz, PM.fz, PM.own, PM.own, PM.own], PSh.one (PM.fz)], rs := [RSh.agg [PM.fz, PM.fz, PM.fz], RSh.one (PM.fz)] }),
  (7, 1, { ps := [PSh.nilp, PSh.one (PM.fz)], rs := [RSh.agg [PM.fz, PM.fz, PM.fz], RSh.one (PM.fz)] }),
  (39, 0, { ps := [PSh.agg [PM.fz, PM.fz, PM.fz]], rs := [RSh.one (PM.fz)] }),
  (65, 0, { ps := [PSh.one (PM.lent)], rs := [RSh.one (PM.own)] }),
  (41, 0, { ps := [PSh.ptr true [PM.fz, PM.fz, PM.fz, PM.fz, PM.fz, PM.lent, PM.lent, PM.lent]], rs := [RSh.one (PM.own)] }),
  (41, 1, { ps := [PSh.nilp], rs := [RSh.one (PM.own)] }),
  (64, 0, { ps := [PSh.agg [PM.fz, PM.fz, PM.fz], PSh.ptr true [PM.fz]], rs := [RSh.one (PM.fz)] }),
  (44, 0, { ps := [PSh.one (PM.lent), PSh.one (PM.lent)], rs := [RSh.one (PM.fz)] }),
  (40, 0, { ps := [PSh.one (PM.lent), PSh.one (PM.fz)], rs := [RSh.one (PM.fz)] }),
  (9, 0, { ps := [PSh.ptr false [PM.fz, PM.fz, PM.fz, PM.fz, PM.fz, PM.own, PM.own, PM.own], PSh.one (PM.fz), PSh.one (PM.fz)], rs := [RSh.one (PM.fz)] }),
  (9, 1, { ps := [PSh.nilp, PSh.one (PM.fz), PSh.one (PM.fz)], rs := [RSh.one (PM.fz)] }),
  (10, 0, { ps := [PSh.ptr false [PM.fz, PM.fz, PM.fz, PM.fz, PM.fz, PM.own, PM.own, PM.own], PSh.one (PM.fz)], rs := [RSh.one (PM.fz)] }),
  (10, 1, { ps := [PSh.nilp, PSh.one (PM.fz)], rs := [RSh.one (PM.fz)] }),
  (11, 0, { ps := [PSh.ptr false [PM.fz, PM.fz, PM.fz, PM.fz, PM.fz, PM.own, PM.own, PM.own]], rs := [RSh.one (PM.fz)] }),
  (11, 1, { ps := [PSh.nilp], rs := [RSh.one (PM.fz)] }),
  (12, 0, { ps := [PSh.ptr true [PM.fz, PM.fz, PM.fz, PM.fz, PM.fz, PM.lent, PM.lent, PM.lent]], rs := [RSh.one (PM.fz)] }),
  (12, 1, { ps := [PSh.nilp], rs := [RSh.one (PM.fz)] }),
  (13, 0, { ps := [PSh.one (PM.lent)], rs := [RSh.one (PM.fz)] }),
  (75, 0, { ps := [PSh.one (PM.lent), PSh.one (PM.lent)], rs := [RSh.one (PM.fz)] }),
  (66, 0, { ps := [PSh.one (PM.lent), PSh.one (PM.lent)], rs := [RSh.one (PM.fz)] }),
  (76, 0, { ps := [PSh.one (PM.lent), PSh.one (PM.lent)], rs := [RSh.one (PM.fz)] }),
  (68, 0, { ps := [PSh.one (PM.lent), PSh.one (PM.lent)], rs := [RSh.one (PM.fz)] }),
  (69, 0, { ps := [PSh.one (PM.fz)], rs := [RSh.one (PM.fz)] }),
  (67, 0, { ps := [PSh.one (PM.lent)], rs := [RSh.one (PM.fz)] }),
  (43, 0, { ps := [PSh.one (PM.lent)], rs := [RSh.one (PM.fz)] }),
  (18, 0, { ps := [PSh.one (PM.lent)], rs := [RSh.obx [PM.fz, PM.fz, PM.fz, PM.fz, PM.fz, PM.own, PM.own, PM.own], RSh.one (PM.fz)] }),
  (45, 0, { ps := [PSh.agg [PM.fz, PM.fz, PM.fz]], rs := [RSh.one (PM.fz)] }),
  (16, 0, { ps := [PSh.ptr true [PM.fz, PM.fz, PM.fz, PM.fz, PM.fz, PM.lent, PM.lent, PM.lent]], rs := [RSh.one (PM.fz)] }),
  (16, 1, { ps := [PSh.nilp], rs := [RSh.one (PM.fz)] }),
  (14, 0, { ps := [], rs := [RSh.one (PM.fz)] }),
  (42, 0, { ps := [PSh.one (PM.lent)], rs := [RSh.one (PM.own)] }),
  (19, 0, { ps := [PSh.one (PM.lent)], rs := [RSh.one (PM.own)] }),
  (15, 0, { ps := [PSh.agg [PM.fz, PM.fz, PM.fz, PM.fz, PM.fz, PM.lent, PM.lent, PM.lent]], rs := [RSh.obx [PM.fz, PM.fz, PM.fz, PM.fz, PM.fz, PM.own, PM.own, PM.own]] }),
  (46, 0, { ps := [PSh.one (PM.lent)], rs := [RSh.one (PM.fz)] }),
  (47, 0, { ps := [PSh.agg [PM.fz, PM.fz, PM.fz]], rs := [RSh.one (PM.fz)] }),
  (17, 0, { ps := [PSh.agg [PM.fz, PM.fz, PM.fz, PM.fz, PM.fz, PM.lent, PM.lent, PM.lent]], rs := [RSh.one (PM.fz)] }),
  (20, 1, { ps := [PSh.one (PM.fz)], rs := [RSh.agg [PM.fz, PM.fz, PM.fz, PM.fz, PM.fz, PM.fz, PM.fz, PM.fz], RSh.one (PM.fz)] }),
  (49, 0, { ps := [PSh.one (PM.lent), PSh.one (PM.lent)], rs := [RSh.one (PM.fz)] }),
  (21, 0, { ps := [PSh.ptr true [PM.fz, PM.fz, PM.fz, PM.fz, PM.fz, PM.lent, PM.lent, PM.lent], PSh.agg [PM.fz, PM.fz, PM.fz, PM.fz, PM.fz, PM.lent, PM.lent, PM.lent]], rs := [RSh.one (PM.fz)] }),
  (50, 0, { ps := [PSh.agg [PM.fz, PM.fz, PM.fz, PM.fz, PM.fz, PM.lent, PM.lent, PM.lent], PSh.one (PM.fz)], rs := [RSh.one (PM.fz)] }),
  (51, 0, { ps := [PSh.agg [PM.fz, PM.fz, PM.fz, PM.fz, PM.fz, PM.lent, PM.lent, PM.lent]], rs := [RSh.one (PM.fz)] }),
  (52, 0, { ps := [PSh.one (PM.lent), PSh.agg [PM.fz, PM.fz, PM.fz]], rs := [RSh.one (PM.own)] }),
  (22, 1, { ps := [PSh.agg [PM.fz, PM.fz, PM.fz, PM.fz, PM.fz, PM.fz, PM.fz, PM.fz], PSh.one (PM.fz), PSh.one (PM.fz)], rs := [RSh.agg [PM.fz, PM.fz, PM.fz, PM.fz, PM.fz, PM.fz, PM.fz, PM.fz], RSh.one (PM.fz)] }),
  (23, 0, { ps := [PSh.agg [PM.fz, PM.fz, PM.fz, PM.fz, PM.fz, PM.fz, PM.fz, PM.fz], PSh.one (PM.fz)], rs := [RSh.agg [PM.fz, PM.fz, PM.fz, PM.fz, PM.fz, PM.fz, PM.fz, PM.fz], RSh.agg [PM.fz, PM.fz, PM.fz], RSh.one (PM.fz)] }),
  (24, 1, { ps := [PSh.agg [PM.fz, PM.fz, PM.fz, PM.fz, PM.fz, PM.fz, PM.fz, PM.fz], PSh.one (PM.fz)], rs := [RSh.agg [PM.fz, PM.fz, PM.fz, PM.fz, PM.fz, PM.fz, PM.fz, PM.fz], RSh.one (PM.fz)] }),
  (25, 1, { ps := [PSh.agg [PM.fz, PM.fz, PM.fz, PM.fz, PM.fz, PM.fz, PM.fz, PM.fz], PSh.one (PM.fz)], rs := [RSh.agg [PM.fz, PM.fz, PM.fz, PM.fz, PM.fz, PM.fz, PM.fz, PM.fz], RSh.agg [PM.fz, PM.fz, PM.fz], RSh.one (PM.fz)] }),
  (26, 1, { ps := [PSh.agg [PM.fz, PM.fz, PM.fz, PM.fz, PM.fz, PM.fz, PM.fz, PM.fz]], rs := [RSh.agg [PM.fz, PM.fz, PM.fz, PM.fz, PM.fz, PM.fz, PM.fz, PM.fz], RSh.one (PM.fz)] }),
  (27, 0, { ps := [PSh.agg [PM.fz, PM.fz, PM.fz, PM.fz, PM.fz, PM.lent, PM.lent, PM.lent]], rs := [RSh.one (PM.fz)] }),
  (3, 0, { ps := [PSh.agg [PM.fz, PM.fz, PM.fz, PM.fz, PM.fz, PM.fz, PM.fz, PM.fz], PSh.one (PM.fz)], rs := [RSh.one (PM.fz)] }),
  (28, 0, { ps := [PSh.ptr true [PM.fz, PM.fz, PM.fz, PM.fz, PM.fz, PM.lent, PM.lent, PM.lent]], rs := [RSh.one (PM.fz)] }),
  (4, 0, { ps := [PSh.agg [PM.fz, PM.fz, PM.fz, PM.fz, PM.fz, PM.fz, PM.fz, PM.fz], PSh.one (PM.fz)], rs := [RSh.one (PM.fz)] })]
def sg : Sigs := sgL L

/-! (*colloquy/proc.Sched).rest -/
def g33_0 : Sig := { ps := [PSh.ptr false [PM.fz, PM.fz, PM.fz, PM.fz, PM.fz, PM.own, PM.own, PM.own]], rs := [] }
noncomputable def F33_0 (Φ : Funs) (n : Nat) (v0 v1 v2 v3 v4 v5 v6 v7 : V) : TR :=
  chkV 2 v1 <|
  chkV 2 v2 <|
  chkV 2 v3 <|
  chkV 2 v4 <|
  chkV 2 v5 <|
  chkV 2 v6 <|
  chkV 2 v7 <|
  some (.ret [[(.bool false), (.int .i64 0), (.int .i64 0), (.int .i64 0), (.int .i64 0), v5, v6, v7]])
theorem x33_0 (Φ : Funs) (n : Nat) (v0 v1 v2 v3 v4 v5 v6 v7 : V) : (textE Tryd.prog sg [] Tryd.f33 g33_0).map (fun t => t.eval Φ n [v7, v6, v5, v4, v3, v2, v1, v0]) = some (F33_0 Φ n v0 v1 v2 v3 v4 v5 v6 v7) := by kernel_rfl

/-! (*colloquy/proc.Sched).quantum -/
def g34_0 : Sig := { ps := [PSh.ptr false [PM.fz, PM.fz, PM.fz, PM.fz, PM.fz, PM.own, PM.own, PM.own], PSh.one (PM.fz)], rs := [RSh.one (PM.fz)] }
noncomputable def F34_0 (Φ : Funs) (n : Nat) (v0 v1 v2 v3 v4 v5 v6 v7 v8 : V) : TR :=
  chkV 2 v8 <|
  op1V Φ (.len) [[v7]] fun v9 =>
  op1V Φ (.bin .geq 0) [[v8], [v9]] fun v10 =>
  blkV (none) [1] (gdV v10 false false (op1V Φ (.eix 63) [[v7], [v8]] fun v11 =>
      op1V Φ (.ldo 0 1 false) [[v11], [v7]] fun v12 =>
      chkV 2 v12 <|
      op1V Φ (.len) [[v12]] fun v13 =>
      op1V Φ (.bin .eql 0) [[v13], [(.int .i64 0)]] fun v14 =>
      some (.norm [1] [v14])) (some (.norm [1] [(.undef)]))) <| app 1 <| fun v11 => 
  op1V Φ (.pick) [[v10], [(.bool true)], [v11]] fun v12 =>
  iteV v12 (chkV 2 v0 <|
    chkV 2 v1 <|
    chkV 2 v2 <|
    chkV 2 v3 <|
    chkV 2 v4 <|
    chkV 2 v5 <|
    chkV 2 v6 <|
    chkV 2 v7 <|
    some (.ret [[(.int .i64 (-1))], [v0, v1, v2, v3, v4, v5, v6, v7]])) <|
  op1V Φ (.eix 63) [[v7], [v8]] fun v13 =>
  op1V Φ (.ldo 0 1 false) [[v13], [v7]] fun v14 =>
  op1V Φ (.idx 3) [[v14], [(.int .i64 0)]] fun v15 =>
  op1V Φ (.ldi 0 1 false []) [[v15]] fun v16 =>
  chkV 2 v16 <|
  op1V Φ (.eix 63) [[v7], [v8]] fun v17 =>
  op1V Φ (.ldo 0 1 false) [[v17], [v7]] fun v18 =>
  op1V Φ (.slc 3 true false) [[v18], [(.int .i64 1)]] fun v19 =>
  op1V Φ (.eix 63) [[v7], [v8]] fun v20 =>
  op1V Φ (.sto 0 1 [(0, 0)]) [[v20], [v7], [v19]] fun v21 =>
  chkV 2 v0 <|
  chkV 2 v1 <|
  chkV 2 v2 <|
  chkV 2 v3 <|
  chkV 2 v4 <|
  chkV 2 v5 <|
  chkV 2 v6 <|
  some (.ret [[v16], [v0, v1, v2, v3, v4, v5, v6, v21]])
theorem x34_0 (Φ : Funs) (n : Nat) (v0 v1 v2 v3 v4 v5 v6 v7 v8 : V) : (textE Tryd.prog sg [] Tryd.f34 g34_0).map (fun t => t.eval Φ n [v8, v7, v6, v5, v4, v3, v2, v1, v0]) = some (F34_0 Φ n v0 v1 v2 v3 v4 v5 v6 v7 v8) := by kernel_rfl

/-! (*colloquy/proc.Sched).Turn -/
def g6_0 : Sig := { ps := [PSh.ptr false [PM.fz, PM.fz, PM.fz, PM.fz, PM.fz, PM.own, PM.own, PM.own], PSh.one (PM.fz)], rs := [RSh.agg [PM.fz, PM.fz, PM.fz], RSh.one (PM.fz)] }
noncomputable def F6_0 (Φ : Funs) (n : Nat) (v0 v1 v2 v3 v4 v5 v6 v7 v8 : V) : TR :=
  chkV 2 v0 <|
  blkV (none) [1] (gdV v0 true false (chkV 2 v8 <|
      some (.norm [1] [v8])) (some (.norm [1] [(.undef)]))) <| app 1 <| fun v9 => 
  op1V Φ (.pick) [[v0], [v9], [(.bool false)]] fun v10 =>
  chkV 2 v10 <|
  blkV (none) [1] (gdV v10 true false (chkV 2 v4 <|
      op1V Φ (.bin .eql 0) [[v4], [(.int .i64 0)]] fun v11 =>
      some (.norm [1] [v11])) (some (.norm [1] [(.undef)]))) <| app 1 <| fun v11 => 
  op1V Φ (.pick) [[v10], [v11], [(.bool false)]] fun v12 =>
  blkV (none) [8, 1, 1, 1] (iteV v12 (chkV 2 v1 <|
      chkV 2 v2 <|
      chkV 2 v3 <|
      op1V Φ (.mk 30 [(true, [(0, 0), (1, 1), (2, 2)])]) [[v1, v2, v3], [v1, v2, v3], [v1, v2, v3]] fun v13 =>
      op1V Φ (.app 30 24 false) [[v5], [v13]] fun v14 =>
      chkV 2 v4 <|
      chkV 2 v6 <|
      chkV 2 v7 <|
      callV Φ 33 0 [[v0, v1, v2, v3, v4, v14, v6, v7]] 8 [(0, 0), (0, 1), (0, 2), (0, 3), (0, 4), (0, 5), (0, 6), (0, 7)] <| fun v15 v16 v17 v18 v19 v20 v21 v22 => 
      some (.norm [8, 1, 1, 1] [v15, v16, v17, v18, v19, (.unit), (.unit), (.unit), v20, v21, v22])) <|
    some (.norm [8, 1, 1, 1] [v0, v1, v2, v3, v4, (.unit), (.unit), (.unit), v5, v6, v7])) <| app 11 <| fun v13 v14 v15 v16 v17 v18 v19 v20 v21 v22 v23 => 
  chkV 2 v13 <|
  op1V Φ (.un .not) [[v13]] fun v24 =>
  blkV (none) [1, 1, 8, 1, 1, 1, 3] (iteV v24 (chkV 2 v18 <|
      chkV 0 v18 <|
      op1V Φ (.len) [[v21]] fun v25 =>
      op1V Φ (.bin .eql 0) [[v25], [(.int .i64 0)]] fun v26 =>
      iteV v26 (chkV 0 v18 <|
        chkV 0 v19 <|
        chkV 0 v20 <|
        chkV 2 v14 <|
        chkV 2 v15 <|
        chkV 2 v16 <|
        chkV 2 v17 <|
        chkV 2 v21 <|
        chkV 2 v22 <|
        chkV 2 v23 <|
        some (.ret [[(.int .i64 0), (.int .i64 0), (.int .i64 0)], [(.bool false)], [v13, v14, v15, v16, v17, v21, v22, v23]])) <|
      chkV 0 v18 <|
      op1V Φ (.eix 30) [[v21], [(.int .i64 0)]] fun v27 =>
      opnV Φ (.ldo 0 3 true) [[v27], [v21]] 3 <| fun v28 v29 v30 => 
      chkV 0 v18 <|
      op1V Φ (.slc 30 true false) [[v21], [(.int .i64 1)]] fun v31 =>
      chkV 2 v14 <|
      chkV 2 v15 <|
      chkV 2 v16 <|
      chkV 2 v17 <|
      chkV 2 v19 <|
      chkV 2 v20 <|
      chkV 2 v28 <|
      chkV 2 v29 <|
      chkV 2 v30 <|
      chkV 0 v19 <|
      chkV 0 v20 <|
      chkV 2 v22 <|
      chkV 2 v23 <|
      callV Φ 34 0 [[(.bool true), v28, v29, v30, v17, v31, v22, v23], [v29]] 9 [(0, 0), (1, 0), (1, 1), (1, 2), (1, 3), (1, 4), (1, 5), (1, 6), (1, 7)] <| fun v32 v33 v34 v35 v36 v37 v38 v39 v40 => 
      some (.norm [1, 1, 8, 1, 1, 1, 3] [(.bool true), (.bool false), v33, v34, v35, v36, v32, (.unit), (.unit), (.unit), v38, v39, v40, (.int .i64 0), (.int .i64 0), (.int .i64 0)])) <|
    some (.norm [1, 1, 8, 1, 1, 1, 3] [v8, (.bool false), v13, v14, v15, v16, v17, v18, v19, v20, v21, v22, v23, (.int .i64 0), (.int .i64 0), (.int .i64 0)])) <| app 16 <| fun v25 v26 v27 v28 v29 v30 v31 v32 v33 v34 v35 v36 v37 v38 v39 v40 => 
  chkV 2 v25 <|
  blkV (none) [1] (gdV v25 true false (chkV 2 v31 <|
      op1V Φ (.bin .gtr 0) [[v31], [(.int .i64 0)]] fun v41 =>
      some (.norm [1] [v41])) (some (.norm [1] [(.undef)]))) <| app 1 <| fun v41 => 
  op1V Φ (.pick) [[v25], [v41], [(.bool false)]] fun v42 =>
  blkV (none) [8] (iteV v42 (chkV 2 v31 <|
      op1V Φ (.bin .sub 0) [[v31], [(.int .i64 1)]] fun v43 =>
      chkV 2 v27 <|
      chkV 2 v28 <|
      chkV 2 v29 <|
      chkV 2 v30 <|
      chkV 2 v32 <|
      chkV 2 v33 <|
      chkV 2 v34 <|
      some (.norm [8] [v27, v28, v29, v30, v43, v32, v33, v34])) <|
    some (.norm [8] [v27, v28, v29, v30, v31, v32, v33, v34])) <| app 8 <| fun v43 v44 v45 v46 v47 v48 v49 v50 => 
  chkV 2 v44 <|
  chkV 2 v45 <|
  chkV 2 v46 <|
  chkV 0 v48 <|
  chkV 0 v49 <|
  chkV 0 v50 <|
  chkV 2 v43 <|
  chkV 2 v47 <|
  chkV 2 v35 <|
  chkV 2 v36 <|
  chkV 2 v37 <|
  some (.ret [[v44, v45, v46], [(.bool true)], [v43, v44, v45, v46, v47, v35, v36, v37]])
theorem x6_0 (Φ : Funs) (n : Nat) (v0 v1 v2 v3 v4 v5 v6 v7 v8 : V) : (textE Tryd.prog sg [9013] Tryd.f6 g6_0).map (fun t => t.eval Φ n [v8, v7, v6, v5, v4, v3, v2, v1, v0]) = some (F6_0 Φ n v0 v1 v2 v3 v4 v5 v6 v7 v8) := by kernel_rfl

/-! (*colloquy/proc.Sched).Turn -/
def g6_1 : Sig := { ps := [PSh.nilp, PSh.one (PM.fz)], rs := [RSh.agg [PM.fz, PM.fz, PM.fz], RSh.one (PM.fz)] }
noncomputable def F6_1 (Φ : Funs) (n : Nat) (v0 : V) : TR :=
  some (.ret [[(.int .i64 0), (.int .i64 0), (.int .i64 0)], [(.bool false)]])
theorem x6_1 (Φ : Funs) (n : Nat) (v0 : V) : (textE Tryd.prog sg [] Tryd.f6 g6_1).map (fun t => t.eval Φ n [v0]) = some (F6_1 Φ n v0) := by kernel_rfl

/-! (*colloquy/proc.Sched).Signal$1 -/
def g36_0 : Sig := { ps := [PSh.agg [PM.fz, PM.fz, PM.fz], PSh.ptr true [PM.fz]], rs := [RSh.one (PM.fz)] }
noncomputable def F36_0 (Φ : Funs) (n : Nat) (v0 v1 v2 v3 : V) : TR :=
  chkV 2 v0 <|
  chkV 2 v1 <|
  chkV 2 v2 <|
  chkV 2 v3 <|
  op1V Φ (.bin .eql 0) [[v2], [v3]] fun v4 =>
  some (.ret [[v4]])
theorem x36_0 (Φ : Funs) (n : Nat) (v0 v1 v2 v3 : V) : (textE Tryd.prog sg [] Tryd.f36 g36_0).map (fun t => t.eval Φ n [v3, v2, v1, v0]) = some (F36_0 Φ n v0 v1 v2 v3) := by kernel_rfl

/-! slices.IndexFunc[[]colloquy/proc.Proc,colloquy/proc.Proc] -/
def g35_0 : Sig := { ps := [PSh.one (PM.lent), PSh.one (PM.lent)], rs := [RSh.one (PM.fz)] }
noncomputable def F35_0_b0 (Φ : Funs) (n : Nat) (v0 v1 v2 : V) : List V → TR := app 2 <| fun v3 v4 => 
  op1V Φ (.bin .lss 0) [[v4], [v2]] fun v5 =>
  iteV v5 (chkV 2 v4 <|
    chkV 2 v1 <|
    op1V Φ (.idx 30) [[v0], [v4]] fun v6 =>
    opnV Φ (.ldi 0 3 true [true, true, true]) [[v6]] 3 <| fun v7 v8 v9 => 
    op1V Φ (.callc [(36, 0, [[true]]), (39, 0, []), (45, 0, []), (47, 0, []), (64, 0, [[true]])] [[(1, 0), (2, 1), (3, 2)]] [[some (0, 0)]]) [[v1], [v7, v8, v9], [v7, v8, v9], [v7, v8, v9]] fun v10 =>
    iteV v10 (some (.ret [[v4]])) <|
    op1V Φ (.bin .add 0) [[v4], [(.int .i64 1)]] fun v11 =>
    some (.norm [1, 1] [v3, v11])) <|
  some (.exit 0 [1, 1] [v3, v4])
noncomputable def F35_0 (Φ : Funs) (n : Nat) (v0 v1 : V) : TR :=
  chkV 2 v0 <|
  op1V Φ (.len) [[v0]] fun v2 =>
  blkV (some 0) [1, 1] (lpV [1, 1] (F35_0_b0 Φ n v0 v1 v2) n [(.int .i64 0), (.int .i64 0)]) <| app 2 <| fun v3 v4 => 
  some (.ret [[(.int .i64 (-1))]])
theorem x35_0 (Φ : Funs) (n : Nat) (v0 v1 : V) : (textE Tryd.prog sg [] Tryd.f35 g35_0).map (fun t => t.eval Φ n [v1, v0]) = some (F35_0 Φ n v0 v1) := by kernel_rfl

/-! (*colloquy/proc.Sched).Signal -/
def g7_0 : Sig := { ps := [PSh.ptr false [PM.fz, PM.fz, PM.fz, PM.fz, PM.fz, PM.own, PM.own, PM.own], PSh.one (PM.fz)], rs := [RSh.agg [PM.fz, PM.fz, PM.fz], RSh.one (PM.fz)] }
noncomputable def F7_0 (Φ : Funs) (n : Nat) (v0 v1 v2 v3 v4 v5 v6 v7 v8 : V) : TR :=
  chkV 2 v8 <|
  op1V Φ (.mkc 36) [[v8]] fun v9 =>
  chkV 2 v6 <|
  callV Φ 35 0 [[v6], [v9]] 1 [(0, 0)] <| fun v10 => 
  op1V Φ (.bin .lss 0) [[v10], [(.int .i64 0)]] fun v11 =>
  iteV v11 (chkV 2 v0 <|
    chkV 2 v1 <|
    chkV 2 v2 <|
    chkV 2 v3 <|
    chkV 2 v4 <|
    chkV 2 v5 <|
    chkV 2 v7 <|
    some (.ret [[(.int .i64 0), (.int .i64 0), (.int .i64 0)], [(.bool false)], [v0, v1, v2, v3, v4, v5, v6, v7]])) <|
  op1V Φ (.eix 30) [[v6], [v10]] fun v12 =>
  opnV Φ (.ldo 0 3 true) [[v12], [v6]] 3 <| fun v13 v14 v15 => 
  chkV 2 v13 <|
  chkV 2 v14 <|
  chkV 2 v15 <|
  op1V Φ (.bin .add 0) [[v10], [(.int .i64 1)]] fun v16 =>
  callV Φ 37 0 [[v6], [v10], [v16]] 1 [(0, 0)] <| fun v17 => 
  chkV 2 v0 <|
  chkV 2 v1 <|
  chkV 2 v2 <|
  chkV 2 v3 <|
  chkV 2 v4 <|
  op1V Φ (.mk 30 [(true, [(0, 0), (1, 1), (2, 2)])]) [[v13, v14, (.int .i64 0)], [v13, v14, (.int .i64 0)], [v13, v14, (.int .i64 0)]] fun v18 =>
  op1V Φ (.app 30 24 false) [[v5], [v18]] fun v19 =>
  chkV 2 v7 <|
  some (.ret [[v13, v14, (.int .i64 0)], [(.bool true)], [v0, v1, v2, v3, v4, v19, v17, v7]])
theorem x7_0 (Φ : Funs) (n : Nat) (v0 v1 v2 v3 v4 v5 v6 v7 v8 : V) : (textE Tryd.prog sg [] Tryd.f7 g7_0).map (fun t => t.eval Φ n [v8, v7, v6, v5, v4, v3, v2, v1, v0]) = some (F7_0 Φ n v0 v1 v2 v3 v4 v5 v6 v7 v8) := by kernel_rfl

/-! (*colloquy/proc.Sched).Signal -/
def g7_1 : Sig := { ps := [PSh.nilp, PSh.one (PM.fz)], rs := [RSh.agg [PM.fz, PM.fz, PM.fz], RSh.one (PM.fz)] }
noncomputable def F7_1 (Φ : Funs) (n : Nat) (v0 : V) : TR :=
  chkV 2 v0 <|
  some (.ret [[(.int .i64 0), (.int .i64 0), (.int .i64 0)], [(.bool false)]])
theorem x7_1 (Φ : Funs) (n : Nat) (v0 : V) : (textE Tryd.prog sg [] Tryd.f7 g7_1).map (fun t => t.eval Φ n [v0]) = some (F7_1 Φ n v0) := by kernel_rfl

/-! (colloquy/proc.Proc).may -/
def g39_0 : Sig := { ps := [PSh.agg [PM.fz, PM.fz, PM.fz]], rs := [RSh.one (PM.fz)] }
noncomputable def F39_0 (Φ : Funs) (n : Nat) (v0 v1 v2 : V) : TR :=
  chkV 2 v0 <|
  chkV 2 v1 <|
  chkV 2 v2 <|
  op1V Φ (.bin .geq 0) [[v0], [(.int .i64 0)]] fun v3 =>
  blkV (none) [1] (gdV v3 true false (op1V Φ (.bin .leq 0) [[v0], [(.int .i64 9007199254740991)]] fun v4 =>
      some (.norm [1] [v4])) (some (.norm [1] [(.undef)]))) <| app 1 <| fun v4 => 
  op1V Φ (.pick) [[v3], [v4], [(.bool false)]] fun v5 =>
  chkV 2 v5 <|
  blkV (none) [1] (gdV v5 true false (op1V Φ (.bin .geq 0) [[v1], [(.int .i64 0)]] fun v6 =>
      some (.norm [1] [v6])) (some (.norm [1] [(.undef)]))) <| app 1 <| fun v6 => 
  op1V Φ (.pick) [[v5], [v6], [(.bool false)]] fun v7 =>
  chkV 2 v7 <|
  blkV (none) [1] (gdV v7 true false (op1V Φ (.bin .lss 0) [[v1], [(.int .i64 8)]] fun v8 =>
      some (.norm [1] [v8])) (some (.norm [1] [(.undef)]))) <| app 1 <| fun v8 => 
  op1V Φ (.pick) [[v7], [v8], [(.bool false)]] fun v9 =>
  chkV 2 v9 <|
  blkV (none) [1] (gdV v9 true false (op1V Φ (.bin .geq 0) [[v2], [(.int .i64 0)]] fun v10 =>
      some (.norm [1] [v10])) (some (.norm [1] [(.undef)]))) <| app 1 <| fun v10 => 
  op1V Φ (.pick) [[v9], [v10], [(.bool false)]] fun v11 =>
  chkV 2 v11 <|
  blkV (none) [1] (gdV v11 true false (op1V Φ (.bin .lss 0) [[v2], [(.int .i64 65536)]] fun v12 =>
      some (.norm [1] [v12])) (some (.norm [1] [(.undef)]))) <| app 1 <| fun v12 => 
  op1V Φ (.pick) [[v11], [v12], [(.bool false)]] fun v13 =>
  chkV 2 v13 <|
  some (.ret [[v13]])
theorem x39_0 (Φ : Funs) (n : Nat) (v0 v1 v2 : V) : (textE Tryd.prog sg [] Tryd.f39 g39_0).map (fun t => t.eval Φ n [v2, v1, v0]) = some (F39_0 Φ n v0 v1 v2) := by kernel_rfl

/-! slices.Concat[[]colloquy/proc.Proc,colloquy/proc.Proc] -/
def g65_0 : Sig := { ps := [PSh.one (PM.lent)], rs := [RSh.one (PM.own)] }
noncomputable def F65_0_b0 (Φ : Funs) (n : Nat) (v0 v1 : V) : List V → TR := app 2 <| fun v2 v3 => 
  op1V Φ (.bin .lss 0) [[v3], [v1]] fun v4 =>
  iteV v4 (op1V Φ (.idx 77) [[v0], [v3]] fun v5 =>
    op1V Φ (.ldi 0 1 false [false]) [[v5]] fun v6 =>
    chkV 2 v6 <|
    chkV 2 v2 <|
    op1V Φ (.len) [[v6]] fun v7 =>
    op1V Φ (.bin .add 0) [[v2], [v7]] fun v8 =>
    op1V Φ (.bin .lss 0) [[v8], [(.int .i64 0)]] fun v9 =>
    iteV v9 (none) <|
    op1V Φ (.bin .add 0) [[v3], [(.int .i64 1)]] fun v10 =>
    some (.norm [1, 1] [v8, v10])) <|
  some (.exit 0 [1, 1] [v2, v3])
noncomputable def F65_0_b1 (Φ : Funs) (n : Nat) (v0 v5 : V) : List V → TR := app 3 <| fun v6 v7 v8 => 
  op1V Φ (.bin .lss 0) [[v8], [v5]] fun v9 =>
  iteV v9 (op1V Φ (.idx 77) [[v0], [v8]] fun v10 =>
    op1V Φ (.ldi 0 1 false [false]) [[v10]] fun v11 =>
    chkV 2 v11 <|
    chkV 2 v7 <|
    chkV 0 v7 <|
    op1V Φ (.app 30 24 true) [[v6], [v11]] fun v12 =>
    op1V Φ (.bin .add 0) [[v8], [(.int .i64 1)]] fun v13 =>
    some (.norm [1, 1, 1] [v12, (.unit), v13])) <|
  some (.exit 2 [1, 1, 1] [v7, v6, v8])
noncomputable def F65_0 (Φ : Funs) (n : Nat) (v0 : V) : TR :=
  chkV 2 v0 <|
  op1V Φ (.len) [[v0]] fun v1 =>
  blkV (some 0) [1, 1] (lpV [1, 1] (F65_0_b0 Φ n v0 v1) n [(.int .i64 0), (.int .i64 0)]) <| app 2 <| fun v2 v3 => 
  chkV 2 v2 <|
  callV Φ 74 0 [[], [v2]] 1 [(0, 0)] <| fun v4 => 
  op1V Φ (.len) [[v0]] fun v5 =>
  blkV (some 2) [1, 1, 1] (lpV [1, 1, 1] (F65_0_b1 Φ n v0 v5) n [v4, (.unit), (.int .i64 0)]) <| app 3 <| fun v6 v7 v8 => 
  chkV 2 v6 <|
  chkV 0 v6 <|
  chkV 2 v7 <|
  some (.ret [[v7]])
theorem x65_0 (Φ : Funs) (n : Nat) (v0 : V) : (textE Tryd.prog sg [] Tryd.f65 g65_0).map (fun t => t.eval Φ n [v0]) = some (F65_0 Φ n v0) := by kernel_rfl

/-! (*colloquy/proc.Sched).all -/
def g41_0 : Sig := { ps := [PSh.ptr true [PM.fz, PM.fz, PM.fz, PM.fz, PM.fz, PM.lent, PM.lent, PM.lent]], rs := [RSh.one (PM.own)] }
noncomputable def F41_0 (Φ : Funs) (n : Nat) (v0 v1 v2 v3 v4 v5 v6 v7 : V) : TR :=
  chkV 2 v5 <|
  chkV 2 v6 <|
  op1V Φ (.mk 77 [(false, [(0, 0)]), (false, [(1, 0)])]) [[v5], [v6]] fun v8 =>
  callV Φ 65 0 [[v8]] 1 [(0, 0)] <| fun v9 => 
  chkV 2 v0 <|
  blkV (none) [1, 1] (iteV v0 (chkV 2 v1 <|
      chkV 2 v2 <|
      chkV 2 v3 <|
      op1V Φ (.mk 30 [(true, [(0, 0), (1, 1), (2, 2)])]) [[v1, v2, v3], [v1, v2, v3], [v1, v2, v3]] fun v10 =>
      op1V Φ (.app 30 24 false) [[v9], [v10]] fun v11 =>
      some (.norm [1, 1] [(.unit), v11])) <|
    some (.norm [1, 1] [(.unit), v9])) <| app 2 <| fun v10 v11 => 
  chkV 2 v10 <|
  chkV 0 v10 <|
  chkV 2 v11 <|
  some (.ret [[v11]])
theorem x41_0 (Φ : Funs) (n : Nat) (v0 v1 v2 v3 v4 v5 v6 v7 : V) : (textE Tryd.prog sg [] Tryd.f41 g41_0).map (fun t => t.eval Φ n [v7, v6, v5, v4, v3, v2, v1, v0]) = some (F41_0 Φ n v0 v1 v2 v3 v4 v5 v6 v7) := by kernel_rfl

/-! (*colloquy/proc.Sched).all -/
def g41_1 : Sig := { ps := [PSh.nilp], rs := [RSh.one (PM.own)] }
noncomputable def F41_1 (Φ : Funs) (n : Nat) : TR :=
  none
theorem x41_1 (Φ : Funs) (n : Nat) : (textE Tryd.prog sg [] Tryd.f41 g41_1).map (fun t => t.eval Φ n []) = some (F41_1 Φ n) := by kernel_rfl

/-! colloquy/proc.has$1 -/
def g64_0 : Sig := { ps := [PSh.agg [PM.fz, PM.fz, PM.fz], PSh.ptr true [PM.fz]], rs := [RSh.one (PM.fz)] }
noncomputable def F64_0 (Φ : Funs) (n : Nat) (v0 v1 v2 v3 : V) : TR :=
  chkV 2 v0 <|
  chkV 2 v1 <|
  chkV 2 v2 <|
  chkV 2 v3 <|
  op1V Φ (.bin .eql 0) [[v0], [v3]] fun v4 =>
  some (.ret [[v4]])
theorem x64_0 (Φ : Funs) (n : Nat) (v0 v1 v2 v3 : V) : (textE Tryd.prog sg [] Tryd.f64 g64_0).map (fun t => t.eval Φ n [v3, v2, v1, v0]) = some (F64_0 Φ n v0 v1 v2 v3) := by kernel_rfl

/-! slices.ContainsFunc[[]colloquy/proc.Proc,colloquy/proc.Proc] -/
def g44_0 : Sig := { ps := [PSh.one (PM.lent), PSh.one (PM.lent)], rs := [RSh.one (PM.fz)] }
noncomputable def F44_0 (Φ : Funs) (n : Nat) (v0 v1 : V) : TR :=
  chkV 2 v0 <|
  chkV 2 v1 <|
  callV Φ 35 0 [[v0], [v1]] 1 [(0, 0)] <| fun v2 => 
  op1V Φ (.bin .geq 0) [[v2], [(.int .i64 0)]] fun v3 =>
  some (.ret [[v3]])
theorem x44_0 (Φ : Funs) (n : Nat) (v0 v1 : V) : (textE Tryd.prog sg [] Tryd.f44 g44_0).map (fun t => t.eval Φ n [v1, v0]) = some (F44_0 Φ n v0 v1) := by kernel_rfl

/-! colloquy/proc.has -/
def g40_0 : Sig := { ps := [PSh.one (PM.lent), PSh.one (PM.fz)], rs := [RSh.one (PM.fz)] }
noncomputable def F40_0 (Φ : Funs) (n : Nat) (v0 v1 : V) : TR :=
  chkV 2 v1 <|
  chkV 2 v0 <|
  op1V Φ (.mkc 64) [[v1]] fun v2 =>
  callV Φ 44 0 [[v0], [v2]] 1 [(0, 0)] <| fun v3 => 
  some (.ret [[v3]])
theorem x40_0 (Φ : Funs) (n : Nat) (v0 v1 : V) : (textE Tryd.prog sg [] Tryd.f40 g40_0).map (fun t => t.eval Φ n [v1, v0]) = some (F40_0 Φ n v0 v1) := by kernel_rfl

/-! (*colloquy/proc.Sched).Add -/
def g9_0 : Sig := { ps := [PSh.ptr false [PM.fz, PM.fz, PM.fz, PM.fz, PM.fz, PM.own, PM.own, PM.own], PSh.one (PM.fz), PSh.one (PM.fz)], rs := [RSh.one (PM.fz)] }
noncomputable def F9_0 (Φ : Funs) (n : Nat) (v0 v1 v2 v3 v4 v5 v6 v7 v8 v9 : V) : TR :=
  chkV 2 v8 <|
  chkV 2 v9 <|
  blkV (none) [1] (gdV (.bool false) false false (callV Φ 39 0 [[v8, v9, (.int .i64 0)]] 1 [(0, 0)] <| fun v10 => 
      op1V Φ (.un .not) [[v10]] fun v11 =>
      some (.norm [1] [v11])) (some (.norm [1] [(.undef)]))) <| app 1 <| fun v10 => 
  op1V Φ (.pick) [[(.bool false)], [(.bool true)], [v10]] fun v11 =>
  chkV 2 v11 <|
  blkV (none) [1] (gdV v11 false false (chkV 2 v0 <|
      chkV 2 v1 <|
      chkV 2 v2 <|
      chkV 2 v3 <|
      chkV 2 v4 <|
      chkV 2 v5 <|
      chkV 2 v6 <|
      chkV 2 v7 <|
      callV Φ 41 0 [[v0, v1, v2, v3, v4, v5, v6, v7]] 1 [(0, 0)] <| fun v12 => 
      callV Φ 40 0 [[v12], [v8]] 1 [(0, 0)] <| fun v13 => 
      some (.norm [1] [v13])) (some (.norm [1] [(.undef)]))) <| app 1 <| fun v12 => 
  op1V Φ (.pick) [[v11], [(.bool true)], [v12]] fun v13 =>
  chkV 2 v13 <|
  iteV v13 (op1V Φ (.ifc 84) [[(.int .i64 1)]] fun v14 =>
    chkV 2 v0 <|
    chkV 2 v1 <|
    chkV 2 v2 <|
    chkV 2 v3 <|
    chkV 2 v4 <|
    chkV 2 v5 <|
    chkV 2 v6 <|
    chkV 2 v7 <|
    some (.ret [[v14], [v0, v1, v2, v3, v4, v5, v6, v7]])) <|
  chkV 2 v0 <|
  chkV 2 v1 <|
  chkV 2 v2 <|
  chkV 2 v3 <|
  chkV 2 v4 <|
  chkV 2 v5 <|
  chkV 2 v6 <|
  chkV 2 v7 <|
  callV Φ 41 0 [[v0, v1, v2, v3, v4, v5, v6, v7]] 1 [(0, 0)] <| fun v14 => 
  op1V Φ (.len) [[v14]] fun v15 =>
  op1V Φ (.bin .geq 0) [[v15], [(.int .i64 8)]] fun v16 =>
  iteV v16 (op1V Φ (.ifc 84) [[(.int .i64 12)]] fun v17 =>
    some (.ret [[v17], [v0, v1, v2, v3, v4, v5, v6, v7]])) <|
  op1V Φ (.mk 30 [(true, [(0, 0), (1, 1), (2, 2)])]) [[v8, v9, (.int .i64 0)], [v8, v9, (.int .i64 0)], [v8, v9, (.int .i64 0)]] fun v17 =>
  op1V Φ (.app 30 24 false) [[v5], [v17]] fun v18 =>
  some (.ret [[(.nilI)], [v0, v1, v2, v3, v4, v18, v6, v7]])
theorem x9_0 (Φ : Funs) (n : Nat) (v0 v1 v2 v3 v4 v5 v6 v7 v8 v9 : V) : (textE Tryd.prog sg [] Tryd.f9 g9_0).map (fun t => t.eval Φ n [v9, v8, v7, v6, v5, v4, v3, v2, v1, v0]) = some (F9_0 Φ n v0 v1 v2 v3 v4 v5 v6 v7 v8 v9) := by kernel_rfl

/-! (*colloquy/proc.Sched).Add -/
def g9_1 : Sig := { ps := [PSh.nilp, PSh.one (PM.fz), PSh.one (PM.fz)], rs := [RSh.one (PM.fz)] }
noncomputable def F9_1 (Φ : Funs) (n : Nat) (v0 v1 : V) : TR :=
  chkV 2 v0 <|
  chkV 2 v1 <|
  blkV (none) [1] (gdV (.bool true) false false (callV Φ 39 0 [[v0, v1, (.int .i64 0)]] 1 [(0, 0)] <| fun v2 => 
      op1V Φ (.un .not) [[v2]] fun v3 =>
      some (.norm [1] [v3])) (some (.norm [1] [(.undef)]))) <| app 1 <| fun v2 => 
  op1V Φ (.pick) [[(.bool true)], [(.bool true)], [v2]] fun v3 =>
  chkV 2 v3 <|
  blkV (none) [1] (gdV v3 false false (callV Φ 41 1 [[]] 1 [(0, 0)] <| fun v4 => 
      callV Φ 40 0 [[v4], [v0]] 1 [(0, 0)] <| fun v5 => 
      some (.norm [1] [v5])) (some (.norm [1] [(.undef)]))) <| app 1 <| fun v4 => 
  op1V Φ (.pick) [[v3], [(.bool true)], [v4]] fun v5 =>
  chkV 2 v5 <|
  iteV v5 (op1V Φ (.ifc 84) [[(.int .i64 1)]] fun v6 =>
    some (.ret [[v6]])) <|
  callV Φ 41 1 [[]] 1 [(0, 0)] <| fun v6 => 
  op1V Φ (.len) [[v6]] fun v7 =>
  op1V Φ (.bin .geq 0) [[v7], [(.int .i64 8)]] fun v8 =>
  iteV v8 (op1V Φ (.ifc 84) [[(.int .i64 12)]] fun v9 =>
    some (.ret [[v9]])) <|
  none
theorem x9_1 (Φ : Funs) (n : Nat) (v0 v1 : V) : (textE Tryd.prog sg [] Tryd.f9 g9_1).map (fun t => t.eval Φ n [v1, v0]) = some (F9_1 Φ n v0 v1) := by kernel_rfl

/-! (*colloquy/proc.Sched).Wait -/
def g10_0 : Sig := { ps := [PSh.ptr false [PM.fz, PM.fz, PM.fz, PM.fz, PM.fz, PM.own, PM.own, PM.own], PSh.one (PM.fz)], rs := [RSh.one (PM.fz)] }
noncomputable def F10_0 (Φ : Funs) (n : Nat) (v0 v1 v2 v3 v4 v5 v6 v7 v8 : V) : TR :=
  blkV (none) [1] (gdV (.bool false) false false (chkV 2 v8 <|
      op1V Φ (.bin .lss 0) [[v8], [(.int .i64 0)]] fun v9 =>
      some (.norm [1] [v9])) (some (.norm [1] [(.undef)]))) <| app 1 <| fun v9 => 
  op1V Φ (.pick) [[(.bool false)], [(.bool true)], [v9]] fun v10 =>
  chkV 2 v10 <|
  blkV (none) [1] (gdV v10 false false (chkV 2 v8 <|
      op1V Φ (.bin .geq 0) [[v8], [(.int .i64 65536)]] fun v11 =>
      some (.norm [1] [v11])) (some (.norm [1] [(.undef)]))) <| app 1 <| fun v11 => 
  op1V Φ (.pick) [[v10], [(.bool true)], [v11]] fun v12 =>
  chkV 2 v12 <|
  iteV v12 (op1V Φ (.ifc 84) [[(.int .i64 1)]] fun v13 =>
    chkV 2 v0 <|
    chkV 2 v1 <|
    chkV 2 v2 <|
    chkV 2 v3 <|
    chkV 2 v4 <|
    chkV 2 v5 <|
    chkV 2 v6 <|
    chkV 2 v7 <|
    some (.ret [[v13], [v0, v1, v2, v3, v4, v5, v6, v7]])) <|
  chkV 2 v0 <|
  op1V Φ (.un .not) [[v0]] fun v13 =>
  iteV v13 (op1V Φ (.ifc 84) [[(.int .i64 6)]] fun v14 =>
    chkV 2 v1 <|
    chkV 2 v2 <|
    chkV 2 v3 <|
    chkV 2 v4 <|
    chkV 2 v5 <|
    chkV 2 v6 <|
    chkV 2 v7 <|
    some (.ret [[v14], [v0, v1, v2, v3, v4, v5, v6, v7]])) <|
  chkV 2 v1 <|
  chkV 2 v2 <|
  chkV 2 v3 <|
  chkV 2 v8 <|
  op1V Φ (.mk 30 [(true, [(0, 0), (1, 1), (2, 2)])]) [[v1, v2, v8], [v1, v2, v8], [v1, v2, v8]] fun v14 =>
  op1V Φ (.app 30 24 false) [[v6], [v14]] fun v15 =>
  chkV 2 v4 <|
  chkV 2 v5 <|
  chkV 2 v7 <|
  callV Φ 33 0 [[v0, v1, v2, v3, v4, v5, v15, v7]] 8 [(0, 0), (0, 1), (0, 2), (0, 3), (0, 4), (0, 5), (0, 6), (0, 7)] <| fun v16 v17 v18 v19 v20 v21 v22 v23 => 
  some (.ret [[(.nilI)], [v16, v17, v18, v19, v20, v21, v22, v23]])
theorem x10_0 (Φ : Funs) (n : Nat) (v0 v1 v2 v3 v4 v5 v6 v7 v8 : V) : (textE Tryd.prog sg [] Tryd.f10 g10_0).map (fun t => t.eval Φ n [v8, v7, v6, v5, v4, v3, v2, v1, v0]) = some (F10_0 Φ n v0 v1 v2 v3 v4 v5 v6 v7 v8) := by kernel_rfl

/-! (*colloquy/proc.Sched).Wait -/
def g10_1 : Sig := { ps := [PSh.nilp, PSh.one (PM.fz)], rs := [RSh.one (PM.fz)] }
noncomputable def F10_1 (Φ : Funs) (n : Nat) (v0 : V) : TR :=
  blkV (none) [1] (gdV (.bool true) false false (chkV 2 v0 <|
      op1V Φ (.bin .lss 0) [[v0], [(.int .i64 0)]] fun v1 =>
      some (.norm [1] [v1])) (some (.norm [1] [(.undef)]))) <| app 1 <| fun v1 => 
  op1V Φ (.pick) [[(.bool true)], [(.bool true)], [v1]] fun v2 =>
  chkV 2 v2 <|
  blkV (none) [1] (gdV v2 false false (chkV 2 v0 <|
      op1V Φ (.bin .geq 0) [[v0], [(.int .i64 65536)]] fun v3 =>
      some (.norm [1] [v3])) (some (.norm [1] [(.undef)]))) <| app 1 <| fun v3 => 
  op1V Φ (.pick) [[v2], [(.bool true)], [v3]] fun v4 =>
  chkV 2 v4 <|
  iteV v4 (op1V Φ (.ifc 84) [[(.int .i64 1)]] fun v5 =>
    some (.ret [[v5]])) <|
  none
theorem x10_1 (Φ : Funs) (n : Nat) (v0 : V) : (textE Tryd.prog sg [] Tryd.f10 g10_1).map (fun t => t.eval Φ n [v0]) = some (F10_1 Φ n v0) := by kernel_rfl

/-! (*colloquy/proc.Sched).End -/
def g11_0 : Sig := { ps := [PSh.ptr false [PM.fz, PM.fz, PM.fz, PM.fz, PM.fz, PM.own, PM.own, PM.own]], rs := [RSh.one (PM.fz)] }
noncomputable def F11_0 (Φ : Funs) (n : Nat) (v0 v1 v2 v3 v4 v5 v6 v7 : V) : TR :=
  chkV 2 v0 <|
  op1V Φ (.un .not) [[v0]] fun v8 =>
  iteV v8 (op1V Φ (.ifc 84) [[(.int .i64 6)]] fun v9 =>
    chkV 2 v1 <|
    chkV 2 v2 <|
    chkV 2 v3 <|
    chkV 2 v4 <|
    chkV 2 v5 <|
    chkV 2 v6 <|
    chkV 2 v7 <|
    some (.ret [[v9], [v0, v1, v2, v3, v4, v5, v6, v7]])) <|
  chkV 2 v1 <|
  chkV 2 v2 <|
  chkV 2 v3 <|
  chkV 2 v4 <|
  chkV 2 v5 <|
  chkV 2 v6 <|
  chkV 2 v7 <|
  callV Φ 33 0 [[v0, v1, v2, v3, v4, v5, v6, v7]] 8 [(0, 0), (0, 1), (0, 2), (0, 3), (0, 4), (0, 5), (0, 6), (0, 7)] <| fun v9 v10 v11 v12 v13 v14 v15 v16 => 
  some (.ret [[(.nilI)], [v9, v10, v11, v12, v13, v14, v15, v16]])
theorem x11_0 (Φ : Funs) (n : Nat) (v0 v1 v2 v3 v4 v5 v6 v7 : V) : (textE Tryd.prog sg [] Tryd.f11 g11_0).map (fun t => t.eval Φ n [v7, v6, v5, v4, v3, v2, v1, v0]) = some (F11_0 Φ n v0 v1 v2 v3 v4 v5 v6 v7) := by kernel_rfl

/-! (*colloquy/proc.Sched).End -/
def g11_1 : Sig := { ps := [PSh.nilp], rs := [RSh.one (PM.fz)] }
noncomputable def F11_1 (Φ : Funs) (n : Nat) : TR :=
  op1V Φ (.ifc 84) [[(.int .i64 1)]] fun v0 =>
  some (.ret [[v0]])
theorem x11_1 (Φ : Funs) (n : Nat) : (textE Tryd.prog sg [] Tryd.f11 g11_1).map (fun t => t.eval Φ n []) = some (F11_1 Φ n) := by kernel_rfl

/-! (*colloquy/proc.Sched).Dead -/
def g12_0 : Sig := { ps := [PSh.ptr true [PM.fz, PM.fz, PM.fz, PM.fz, PM.fz, PM.lent, PM.lent, PM.lent]], rs := [RSh.one (PM.fz)] }
noncomputable def F12_0 (Φ : Funs) (n : Nat) (v0 v1 v2 v3 v4 v5 v6 v7 : V) : TR :=
  blkV (none) [1] (gdV (.bool true) true false (chkV 2 v0 <|
      op1V Φ (.un .not) [[v0]] fun v8 =>
      some (.norm [1] [v8])) (some (.norm [1] [(.undef)]))) <| app 1 <| fun v8 => 
  op1V Φ (.pick) [[(.bool true)], [v8], [(.bool false)]] fun v9 =>
  chkV 2 v9 <|
  blkV (none) [1] (gdV v9 true false (chkV 2 v5 <|
      op1V Φ (.len) [[v5]] fun v10 =>
      op1V Φ (.bin .eql 0) [[v10], [(.int .i64 0)]] fun v11 =>
      some (.norm [1] [v11])) (some (.norm [1] [(.undef)]))) <| app 1 <| fun v10 => 
  op1V Φ (.pick) [[v9], [v10], [(.bool false)]] fun v11 =>
  chkV 2 v11 <|
  blkV (none) [1] (gdV v11 true false (chkV 2 v6 <|
      op1V Φ (.len) [[v6]] fun v12 =>
      op1V Φ (.bin .gtr 0) [[v12], [(.int .i64 0)]] fun v13 =>
      some (.norm [1] [v13])) (some (.norm [1] [(.undef)]))) <| app 1 <| fun v12 => 
  op1V Φ (.pick) [[v11], [v12], [(.bool false)]] fun v13 =>
  chkV 2 v13 <|
  some (.ret [[v13]])
theorem x12_0 (Φ : Funs) (n : Nat) (v0 v1 v2 v3 v4 v5 v6 v7 : V) : (textE Tryd.prog sg [] Tryd.f12 g12_0).map (fun t => t.eval Φ n [v7, v6, v5, v4, v3, v2, v1, v0]) = some (F12_0 Φ n v0 v1 v2 v3 v4 v5 v6 v7) := by kernel_rfl

/-! (*colloquy/proc.Sched).Dead -/
def g12_1 : Sig := { ps := [PSh.nilp], rs := [RSh.one (PM.fz)] }
noncomputable def F12_1 (Φ : Funs) (n : Nat) : TR :=
  blkV (none) [1] (gdV (.bool false) true false (chkV 2 (.undef) <|
      callV Φ 0 0 [[(.undef)]] 0 [] <| 
      chkV 2 (.undef) <|
      callV Φ 0 0 [[(.undef)]] 0 [] <| 
      chkV 2 (.undef) <|
      callV Φ 0 0 [[(.undef)]] 0 [] <| 
      op1V Φ (.un .not) [[(.unit)]] fun v0 =>
      some (.norm [1] [v0])) (some (.norm [1] [(.undef)]))) <| app 1 <| fun v0 => 
  op1V Φ (.pick) [[(.bool false)], [v0], [(.bool false)]] fun v1 =>
  chkV 2 v1 <|
  blkV (none) [1] (gdV v1 true false (chkV 2 (.undef) <|
      callV Φ 0 0 [[(.undef)]] 0 [] <| 
      chkV 2 (.undef) <|
      callV Φ 0 0 [[(.undef)]] 0 [] <| 
      chkV 2 (.undef) <|
      callV Φ 0 0 [[(.undef)]] 0 [] <| 
      op1V Φ (.len) [[(.unit)]] fun v2 =>
      op1V Φ (.bin .eql 0) [[v2], [(.int .i64 0)]] fun v3 =>
      some (.norm [1] [v3])) (some (.norm [1] [(.undef)]))) <| app 1 <| fun v2 => 
  op1V Φ (.pick) [[v1], [v2], [(.bool false)]] fun v3 =>
  chkV 2 v3 <|
  blkV (none) [1] (gdV v3 true false (chkV 2 (.undef) <|
      callV Φ 0 0 [[(.undef)]] 0 [] <| 
      chkV 2 (.undef) <|
      callV Φ 0 0 [[(.undef)]] 0 [] <| 
      chkV 2 (.undef) <|
      callV Φ 0 0 [[(.undef)]] 0 [] <| 
      op1V Φ (.len) [[(.unit)]] fun v4 =>
      op1V Φ (.bin .gtr 0) [[v4], [(.int .i64 0)]] fun v5 =>
      some (.norm [1] [v5])) (some (.norm [1] [(.undef)]))) <| app 1 <| fun v4 => 
  op1V Φ (.pick) [[v3], [v4], [(.bool false)]] fun v5 =>
  chkV 2 v5 <|
  some (.ret [[v5]])
theorem x12_1 (Φ : Funs) (n : Nat) : (textE Tryd.prog sg [] Tryd.f12 g12_1).map (fun t => t.eval Φ n []) = some (F12_1 Φ n) := by kernel_rfl

/-! colloquy/colloquylaw23.bigTicks -/
def g13_0 : Sig := { ps := [PSh.one (PM.lent)], rs := [RSh.one (PM.fz)] }
noncomputable def F13_0_b0 (Φ : Funs) (n : Nat) (v0 : V) : List V → TR := app 2 <| fun v1 v2 => 
  chkV 2 v2 <|
  chkV 2 v0 <|
  op1V Φ (.len) [[v0]] fun v3 =>
  op1V Φ (.bin .lss 0) [[v2], [v3]] fun v4 =>
  iteV v4 (op1V Φ (.idx 63) [[v0], [v2]] fun v5 =>
    op1V Φ (.ldi 0 1 false [false]) [[v5]] fun v6 =>
    op1V Φ (.len) [[v6]] fun v7 =>
    op1V Φ (.bin .gtr 0) [[v7], [(.int .i64 300)]] fun v8 =>
    iteV v8 (some (.ret [[(.bool true)]])) <|
    op1V Φ (.bin .add 0) [[v2], [(.int .i64 1)]] fun v9 =>
    some (.norm [1, 1] [v1, v9])) <|
  some (.exit 0 [1, 1] [v1, v2])
noncomputable def F13_0 (Φ : Funs) (n : Nat) (v0 : V) : TR :=
  blkV (some 0) [1, 1] (lpV [1, 1] (F13_0_b0 Φ n v0) n [(.bool false), (.int .i64 0)]) <| app 2 <| fun v1 v2 => 
  chkV 2 v0 <|
  op1V Φ (.len) [[v0]] fun v3 =>
  op1V Φ (.bin .gtr 0) [[v3], [(.int .i64 20)]] fun v4 =>
  some (.ret [[v4]])
theorem x13_0 (Φ : Funs) (n : Nat) (v0 : V) : (textE Tryd.prog sg [] Tryd.f13 g13_0).map (fun t => t.eval Φ n [v0]) = some (F13_0 Φ n v0) := by kernel_rfl

/-! slices.IndexFunc[[][]int,[]int] -/
def g75_0 : Sig := { ps := [PSh.one (PM.lent), PSh.one (PM.lent)], rs := [RSh.one (PM.fz)] }
noncomputable def F75_0_b0 (Φ : Funs) (n : Nat) (v0 v1 v2 : V) : List V → TR := app 2 <| fun v3 v4 => 
  op1V Φ (.bin .lss 0) [[v4], [v2]] fun v5 =>
  iteV v5 (chkV 2 v4 <|
    chkV 2 v1 <|
    op1V Φ (.idx 63) [[v0], [v4]] fun v6 =>
    op1V Φ (.ldi 0 1 false [false]) [[v6]] fun v7 =>
    op1V Φ (.callc [(13, 0, []), (43, 0, []), (46, 0, []), (67, 0, [])] [[(1, 0)]] [[some (0, 0)]]) [[v1], [v7]] fun v8 =>
    iteV v8 (some (.ret [[v4]])) <|
    op1V Φ (.bin .add 0) [[v4], [(.int .i64 1)]] fun v9 =>
    some (.norm [1, 1] [v3, v9])) <|
  some (.exit 0 [1, 1] [v3, v4])
noncomputable def F75_0 (Φ : Funs) (n : Nat) (v0 v1 : V) : TR :=
  chkV 2 v0 <|
  op1V Φ (.len) [[v0]] fun v2 =>
  blkV (some 0) [1, 1] (lpV [1, 1] (F75_0_b0 Φ n v0 v1 v2) n [(.int .i64 0), (.int .i64 0)]) <| app 2 <| fun v3 v4 => 
  some (.ret [[(.int .i64 (-1))]])
theorem x75_0 (Φ : Funs) (n : Nat) (v0 v1 : V) : (textE Tryd.prog sg [] Tryd.f75 g75_0).map (fun t => t.eval Φ n [v1, v0]) = some (F75_0 Φ n v0 v1) := by kernel_rfl

/-! slices.ContainsFunc[[][]int,[]int] -/
def g66_0 : Sig := { ps := [PSh.one (PM.lent), PSh.one (PM.lent)], rs := [RSh.one (PM.fz)] }
noncomputable def F66_0 (Φ : Funs) (n : Nat) (v0 v1 : V) : TR :=
  chkV 2 v0 <|
  chkV 2 v1 <|
  callV Φ 75 0 [[v0], [v1]] 1 [(0, 0)] <| fun v2 => 
  op1V Φ (.bin .geq 0) [[v2], [(.int .i64 0)]] fun v3 =>
  some (.ret [[v3]])
theorem x66_0 (Φ : Funs) (n : Nat) (v0 v1 : V) : (textE Tryd.prog sg [] Tryd.f66 g66_0).map (fun t => t.eval Φ n [v1, v0]) = some (F66_0 Φ n v0 v1) := by kernel_rfl

/-! slices.IndexFunc[[]int,int] -/
def g76_0 : Sig := { ps := [PSh.one (PM.lent), PSh.one (PM.lent)], rs := [RSh.one (PM.fz)] }
noncomputable def F76_0_b0 (Φ : Funs) (n : Nat) (v0 v1 v2 : V) : List V → TR := app 2 <| fun v3 v4 => 
  op1V Φ (.bin .lss 0) [[v4], [v2]] fun v5 =>
  iteV v5 (chkV 2 v4 <|
    chkV 2 v1 <|
    op1V Φ (.idx 3) [[v0], [v4]] fun v6 =>
    op1V Φ (.ldi 0 1 false [true]) [[v6]] fun v7 =>
    op1V Φ (.callc [(8, 0, []), (69, 0, [])] [[(1, 0)]] [[some (0, 0)]]) [[v1], [v7]] fun v8 =>
    iteV v8 (some (.ret [[v4]])) <|
    op1V Φ (.bin .add 0) [[v4], [(.int .i64 1)]] fun v9 =>
    some (.norm [1, 1] [v3, v9])) <|
  some (.exit 0 [1, 1] [v3, v4])
noncomputable def F76_0 (Φ : Funs) (n : Nat) (v0 v1 : V) : TR :=
  chkV 2 v0 <|
  op1V Φ (.len) [[v0]] fun v2 =>
  blkV (some 0) [1, 1] (lpV [1, 1] (F76_0_b0 Φ n v0 v1 v2) n [(.int .i64 0), (.int .i64 0)]) <| app 2 <| fun v3 v4 => 
  some (.ret [[(.int .i64 (-1))]])
theorem x76_0 (Φ : Funs) (n : Nat) (v0 v1 : V) : (textE Tryd.prog sg [] Tryd.f76 g76_0).map (fun t => t.eval Φ n [v1, v0]) = some (F76_0 Φ n v0 v1) := by kernel_rfl

/-! slices.ContainsFunc[[]int,int] -/
def g68_0 : Sig := { ps := [PSh.one (PM.lent), PSh.one (PM.lent)], rs := [RSh.one (PM.fz)] }
noncomputable def F68_0 (Φ : Funs) (n : Nat) (v0 v1 : V) : TR :=
  chkV 2 v0 <|
  chkV 2 v1 <|
  callV Φ 76 0 [[v0], [v1]] 1 [(0, 0)] <| fun v2 => 
  op1V Φ (.bin .geq 0) [[v2], [(.int .i64 0)]] fun v3 =>
  some (.ret [[v3]])
theorem x68_0 (Φ : Funs) (n : Nat) (v0 v1 : V) : (textE Tryd.prog sg [] Tryd.f68 g68_0).map (fun t => t.eval Φ n [v1, v0]) = some (F68_0 Φ n v0 v1) := by kernel_rfl

/-! colloquy/proc.tick -/
def g69_0 : Sig := { ps := [PSh.one (PM.fz)], rs := [RSh.one (PM.fz)] }
noncomputable def F69_0 (Φ : Funs) (n : Nat) (v0 : V) : TR :=
  chkV 2 v0 <|
  op1V Φ (.bin .lss 0) [[v0], [(.int .i64 1)]] fun v1 =>
  blkV (none) [1] (gdV v1 false false (op1V Φ (.bin .gtr 0) [[v0], [(.int .i64 65536)]] fun v2 =>
      some (.norm [1] [v2])) (some (.norm [1] [(.undef)]))) <| app 1 <| fun v2 => 
  op1V Φ (.pick) [[v1], [(.bool true)], [v2]] fun v3 =>
  chkV 2 v3 <|
  some (.ret [[v3]])
theorem x69_0 (Φ : Funs) (n : Nat) (v0 : V) : (textE Tryd.prog sg [] Tryd.f69 g69_0).map (fun t => t.eval Φ n [v0]) = some (F69_0 Φ n v0) := by kernel_rfl

/-! colloquy/proc.ticks$1 -/
def g67_0 : Sig := { ps := [PSh.one (PM.lent)], rs := [RSh.one (PM.fz)] }
noncomputable def F67_0 (Φ : Funs) (n : Nat) (v0 : V) : TR :=
  chkV 2 v0 <|
  op1V Φ (.len) [[v0]] fun v1 =>
  op1V Φ (.bin .gtr 0) [[v1], [(.int .i64 256)]] fun v2 =>
  blkV (none) [1] (gdV v2 false false (callV Φ 68 0 [[v0], [(.clo 69 [])]] 1 [(0, 0)] <| fun v3 => 
      some (.norm [1] [v3])) (some (.norm [1] [(.undef)]))) <| app 1 <| fun v3 => 
  op1V Φ (.pick) [[v2], [(.bool true)], [v3]] fun v4 =>
  chkV 2 v4 <|
  some (.ret [[v4]])
theorem x67_0 (Φ : Funs) (n : Nat) (v0 : V) : (textE Tryd.prog sg [] Tryd.f67 g67_0).map (fun t => t.eval Φ n [v0]) = some (F67_0 Φ n v0) := by kernel_rfl

/-! colloquy/proc.ticks -/
def g43_0 : Sig := { ps := [PSh.one (PM.lent)], rs := [RSh.one (PM.fz)] }
noncomputable def F43_0 (Φ : Funs) (n : Nat) (v0 : V) : TR :=
  chkV 2 v0 <|
  op1V Φ (.len) [[v0]] fun v1 =>
  op1V Φ (.bin .leq 0) [[v1], [(.int .i64 8)]] fun v2 =>
  blkV (none) [1] (gdV v2 true false (callV Φ 66 0 [[v0], [(.clo 67 [])]] 1 [(0, 0)] <| fun v3 => 
      op1V Φ (.un .not) [[v3]] fun v4 =>
      some (.norm [1] [v4])) (some (.norm [1] [(.undef)]))) <| app 1 <| fun v3 => 
  op1V Φ (.pick) [[v2], [v3], [(.bool false)]] fun v4 =>
  chkV 2 v4 <|
  some (.ret [[v4]])
theorem x43_0 (Φ : Funs) (n : Nat) (v0 : V) : (textE Tryd.prog sg [] Tryd.f43 g43_0).map (fun t => t.eval Φ n [v0]) = some (F43_0 Φ n v0) := by kernel_rfl

/-! colloquy/proc.New -/
def g18_0 : Sig := { ps := [PSh.one (PM.lent)], rs := [RSh.obx [PM.fz, PM.fz, PM.fz, PM.fz, PM.fz, PM.own, PM.own, PM.own], RSh.one (PM.fz)] }
noncomputable def F18_0_b0 (Φ : Funs) (n : Nat) (v0 v3 : V) : List V → TR := app 10 <| fun v4 v5 v6 v7 v8 v9 v10 v11 v12 v13 => 
  op1V Φ (.bin .lss 0) [[v13], [v3]] fun v14 =>
  iteV v14 (op1V Φ (.idx 63) [[v0], [v13]] fun v15 =>
    op1V Φ (.ldi 0 1 false [false]) [[v15]] fun v16 =>
    chkV 2 v16 <|
    chkV 2 v12 <|
    callV Φ 48 0 [[v16]] 1 [(0, 0)] <| fun v17 => 
    op1V Φ (.mk 63 [(false, [(0, 0)])]) [[v17]] fun v18 =>
    chkV 0 v12 <|
    op1V Φ (.app 63 24 false) [[v4], [v18]] fun v19 =>
    chkV 2 v5 <|
    chkV 2 v6 <|
    chkV 2 v7 <|
    chkV 2 v8 <|
    chkV 2 v9 <|
    chkV 2 v10 <|
    chkV 2 v11 <|
    op1V Φ (.bin .add 0) [[v13], [(.int .i64 1)]] fun v20 =>
    some (.norm [1, 8, 1] [v19, v5, v6, v7, v8, v9, v10, v11, (.unit), v20])) <|
  some (.exit 0 [1, 8, 1] [v13, v5, v6, v7, v8, v9, v10, v11, v12, v4])
noncomputable def F18_0 (Φ : Funs) (n : Nat) (v0 : V) : TR :=
  chkV 2 v0 <|
  callV Φ 43 0 [[v0]] 1 [(0, 0)] <| fun v1 => 
  op1V Φ (.un .not) [[v1]] fun v2 =>
  iteV v2 (op1V Φ (.ifc 84) [[(.int .i64 1)]] fun v3 =>
    some (.ret [[(.bool false), (.unit), (.unit), (.unit), (.unit), (.unit), (.unit), (.unit), (.unit)], [v3]])) <|
  op1V Φ (.len) [[v0]] fun v3 =>
  blkV (some 0) [1, 8, 1] (lpV [1, 8, 1] (F18_0_b0 Φ n v0 v3) n [(.list 63 []), (.bool false), (.int .i64 0), (.int .i64 0), (.int .i64 0), (.int .i64 0), (.unit), (.unit), (.unit), (.int .i64 0)]) <| app 10 <| fun v4 v5 v6 v7 v8 v9 v10 v11 v12 v13 => 
  chkV 0 v10 <|
  chkV 0 v11 <|
  chkV 0 v12 <|
  chkV 2 v5 <|
  chkV 2 v6 <|
  chkV 2 v7 <|
  chkV 2 v8 <|
  chkV 2 v9 <|
  chkV 2 v13 <|
  some (.ret [[(.bool true), v5, v6, v7, v8, v9, (.list 30 []), (.list 30 []), v13], [(.nilI)]])
theorem x18_0 (Φ : Funs) (n : Nat) (v0 : V) : (textE Tryd.prog sg [] Tryd.f18 g18_0).map (fun t => t.eval Φ n [v0]) = some (F18_0 Φ n v0) := by kernel_rfl

/-! colloquy/proc.Check$1 -/
def g45_0 : Sig := { ps := [PSh.agg [PM.fz, PM.fz, PM.fz]], rs := [RSh.one (PM.fz)] }
noncomputable def F45_0 (Φ : Funs) (n : Nat) (v0 v1 v2 : V) : TR :=
  chkV 2 v0 <|
  chkV 2 v1 <|
  chkV 2 v2 <|
  op1V Φ (.bin .neq 0) [[v2], [(.int .i64 0)]] fun v3 =>
  some (.ret [[v3]])
theorem x45_0 (Φ : Funs) (n : Nat) (v0 v1 v2 : V) : (textE Tryd.prog sg [] Tryd.f45 g45_0).map (fun t => t.eval Φ n [v2, v1, v0]) = some (F45_0 Φ n v0 v1 v2) := by kernel_rfl

/-! colloquy/proc.Check -/
def g16_0 : Sig := { ps := [PSh.ptr true [PM.fz, PM.fz, PM.fz, PM.fz, PM.fz, PM.lent, PM.lent, PM.lent]], rs := [RSh.one (PM.fz)] }
noncomputable def F16_0_b0 (Φ : Funs) (n : Nat) (v22 v23 : V) : List V → TR := app 2 <| fun v24 v25 => 
  op1V Φ (.bin .lss 0) [[v25], [v23]] fun v26 =>
  iteV v26 (chkV 2 v25 <|
    op1V Φ (.eix 30) [[v22], [v25]] fun v27 =>
    opnV Φ (.ldo 0 3 true) [[v27], [v22]] 3 <| fun v28 v29 v30 => 
    chkV 2 v28 <|
    chkV 2 v29 <|
    chkV 2 v30 <|
    callV Φ 39 0 [[v28, v29, v30]] 1 [(0, 0)] <| fun v31 => 
    op1V Φ (.un .not) [[v31]] fun v32 =>
    blkV (none) [1] (gdV v32 false false (op1V Φ (.slc 30 false true) [[v22], [v25]] fun v33 =>
        callV Φ 40 0 [[v33], [v28]] 1 [(0, 0)] <| fun v34 => 
        some (.norm [1] [v34])) (some (.norm [1] [(.undef)]))) <| app 1 <| fun v33 => 
    op1V Φ (.pick) [[v32], [(.bool true)], [v33]] fun v34 =>
    iteV v34 (op1V Φ (.ifc 84) [[(.int .i64 1)]] fun v35 =>
      some (.ret [[v35]])) <|
    op1V Φ (.bin .add 0) [[v25], [(.int .i64 1)]] fun v35 =>
    some (.norm [1, 1] [v24, v35])) <|
  some (.exit 0 [1, 1] [v24, v25])
noncomputable def F16_0 (Φ : Funs) (n : Nat) (v0 v1 v2 v3 v4 v5 v6 v7 : V) : TR :=
  blkV (none) [1] (gdV (.bool false) false false (chkV 2 v7 <|
      callV Φ 43 0 [[v7]] 1 [(0, 0)] <| fun v8 => 
      op1V Φ (.un .not) [[v8]] fun v9 =>
      some (.norm [1] [v9])) (some (.norm [1] [(.undef)]))) <| app 1 <| fun v8 => 
  op1V Φ (.pick) [[(.bool false)], [(.bool true)], [v8]] fun v9 =>
  chkV 2 v9 <|
  blkV (none) [1] (gdV v9 false false (chkV 2 v4 <|
      op1V Φ (.bin .lss 0) [[v4], [(.int .i64 (-1))]] fun v10 =>
      some (.norm [1] [v10])) (some (.norm [1] [(.undef)]))) <| app 1 <| fun v10 => 
  op1V Φ (.pick) [[v9], [(.bool true)], [v10]] fun v11 =>
  chkV 2 v11 <|
  blkV (none) [1] (gdV v11 false false (chkV 2 v4 <|
      op1V Φ (.bin .gtr 0) [[v4], [(.int .i64 65536)]] fun v12 =>
      some (.norm [1] [v12])) (some (.norm [1] [(.undef)]))) <| app 1 <| fun v12 => 
  op1V Φ (.pick) [[v11], [(.bool true)], [v12]] fun v13 =>
  chkV 2 v13 <|
  blkV (none) [1] (gdV v13 false false (chkV 2 v0 <|
      op1V Φ (.un .not) [[v0]] fun v14 =>
      some (.norm [1] [v14])) (some (.norm [1] [(.undef)]))) <| app 1 <| fun v14 => 
  blkV (none) [1] (gdV v14 true true (chkV 2 v4 <|
      op1V Φ (.bin .neq 0) [[v4], [(.int .i64 0)]] fun v15 =>
      some (.norm [1] [v15])) (some (.norm [1] [(.undef)]))) <| app 1 <| fun v15 => 
  blkV (none) [1] (gdV v15 false true (chkV 2 v1 <|
      chkV 2 v2 <|
      chkV 2 v3 <|
      op1V Φ (.eqA [0, 0, 0] true) [[v1, v2, v3], [(.int .i64 0), (.int .i64 0), (.int .i64 0)]] fun v16 =>
      some (.norm [1] [v16])) (some (.norm [1] [(.undef)]))) <| app 1 <| fun v16 => 
  blkV (none) [1] (gdV v14 true true (op1V Φ (.pick) [[v15], [(.bool true)], [v16]] fun v17 =>
      chkV 2 v17 <|
      some (.norm [1] [v17])) (some (.norm [1] [(.undef)]))) <| app 1 <| fun v17 => 
  blkV (none) [1] (gdV v13 false false (op1V Φ (.pick) [[v14], [v17], [(.bool false)]] fun v18 =>
      chkV 2 v18 <|
      some (.norm [1] [v18])) (some (.norm [1] [(.undef)]))) <| app 1 <| fun v18 => 
  op1V Φ (.pick) [[v13], [(.bool true)], [v18]] fun v19 =>
  chkV 2 v19 <|
  blkV (none) [1] (gdV v19 false false (chkV 2 v3 <|
      op1V Φ (.bin .neq 0) [[v3], [(.int .i64 0)]] fun v20 =>
      some (.norm [1] [v20])) (some (.norm [1] [(.undef)]))) <| app 1 <| fun v20 => 
  op1V Φ (.pick) [[v19], [(.bool true)], [v20]] fun v21 =>
  iteV v21 (op1V Φ (.ifc 84) [[(.int .i64 1)]] fun v22 =>
    some (.ret [[v22]])) <|
  chkV 2 v0 <|
  chkV 2 v1 <|
  chkV 2 v2 <|
  chkV 2 v3 <|
  chkV 2 v4 <|
  chkV 2 v5 <|
  chkV 2 v6 <|
  chkV 2 v7 <|
  callV Φ 41 0 [[v0, v1, v2, v3, v4, v5, v6, v7]] 1 [(0, 0)] <| fun v22 => 
  op1V Φ (.len) [[v22]] fun v23 =>
  blkV (some 0) [1, 1] (lpV [1, 1] (F16_0_b0 Φ n v22 v23) n [(.nilI), (.int .i64 0)]) <| app 2 <| fun v24 v25 => 
  op1V Φ (.len) [[v22]] fun v26 =>
  op1V Φ (.bin .gtr 0) [[v26], [(.int .i64 8)]] fun v27 =>
  blkV (none) [1] (gdV v27 false false (callV Φ 44 0 [[v5], [(.clo 45 [])]] 1 [(0, 0)] <| fun v28 => 
      some (.norm [1] [v28])) (some (.norm [1] [(.undef)]))) <| app 1 <| fun v28 => 
  op1V Φ (.pick) [[v27], [(.bool true)], [v28]] fun v29 =>
  iteV v29 (op1V Φ (.ifc 84) [[(.int .i64 1)]] fun v30 =>
    some (.ret [[v30]])) <|
  some (.ret [[(.nilI)]])
theorem x16_0 (Φ : Funs) (n : Nat) (v0 v1 v2 v3 v4 v5 v6 v7 : V) : (textE Tryd.prog sg [] Tryd.f16 g16_0).map (fun t => t.eval Φ n [v7, v6, v5, v4, v3, v2, v1, v0]) = some (F16_0 Φ n v0 v1 v2 v3 v4 v5 v6 v7) := by kernel_rfl

/-! colloquy/proc.Check -/
def g16_1 : Sig := { ps := [PSh.nilp], rs := [RSh.one (PM.fz)] }
noncomputable def F16_1_b0 (Φ : Funs) (n : Nat) (v14 v15 : V) : List V → TR := app 2 <| fun v16 v17 => 
  op1V Φ (.bin .lss 0) [[v17], [v15]] fun v18 =>
  iteV v18 (chkV 2 v17 <|
    op1V Φ (.eix 30) [[v14], [v17]] fun v19 =>
    opnV Φ (.ldo 0 3 true) [[v19], [v14]] 3 <| fun v20 v21 v22 => 
    chkV 2 v20 <|
    chkV 2 v21 <|
    chkV 2 v22 <|
    callV Φ 39 0 [[v20, v21, v22]] 1 [(0, 0)] <| fun v23 => 
    op1V Φ (.un .not) [[v23]] fun v24 =>
    blkV (none) [1] (gdV v24 false false (op1V Φ (.slc 30 false true) [[v14], [v17]] fun v25 =>
        callV Φ 40 0 [[v25], [v20]] 1 [(0, 0)] <| fun v26 => 
        some (.norm [1] [v26])) (some (.norm [1] [(.undef)]))) <| app 1 <| fun v25 => 
    op1V Φ (.pick) [[v24], [(.bool true)], [v25]] fun v26 =>
    iteV v26 (op1V Φ (.ifc 84) [[(.int .i64 1)]] fun v27 =>
      some (.ret [[v27]])) <|
    op1V Φ (.bin .add 0) [[v17], [(.int .i64 1)]] fun v27 =>
    some (.norm [1, 1] [v16, v27])) <|
  some (.exit 0 [1, 1] [v16, v17])
noncomputable def F16_1 (Φ : Funs) (n : Nat) : TR :=
  blkV (none) [1] (gdV (.bool true) false false (chkV 2 (.undef) <|
      callV Φ 0 0 [[(.undef)]] 0 [] <| 
      chkV 2 (.undef) <|
      callV Φ 0 0 [[(.undef)]] 0 [] <| 
      chkV 2 (.undef) <|
      callV Φ 0 0 [[(.undef)]] 0 [] <| 
      callV Φ 43 0 [[(.unit)]] 1 [(0, 0)] <| fun v0 => 
      op1V Φ (.un .not) [[v0]] fun v1 =>
      some (.norm [1] [v1])) (some (.norm [1] [(.undef)]))) <| app 1 <| fun v0 => 
  op1V Φ (.pick) [[(.bool true)], [(.bool true)], [v0]] fun v1 =>
  chkV 2 v1 <|
  blkV (none) [1] (gdV v1 false false (chkV 2 (.undef) <|
      callV Φ 0 0 [[(.undef)]] 0 [] <| 
      chkV 2 (.undef) <|
      callV Φ 0 0 [[(.undef)]] 0 [] <| 
      chkV 2 (.undef) <|
      callV Φ 0 0 [[(.undef)]] 0 [] <| 
      op1V Φ (.bin .lss 0) [[(.unit)], [(.int .i64 (-1))]] fun v2 =>
      some (.norm [1] [v2])) (some (.norm [1] [(.undef)]))) <| app 1 <| fun v2 => 
  op1V Φ (.pick) [[v1], [(.bool true)], [v2]] fun v3 =>
  chkV 2 v3 <|
  blkV (none) [1] (gdV v3 false false (chkV 2 (.undef) <|
      callV Φ 0 0 [[(.undef)]] 0 [] <| 
      chkV 2 (.undef) <|
      callV Φ 0 0 [[(.undef)]] 0 [] <| 
      chkV 2 (.undef) <|
      callV Φ 0 0 [[(.undef)]] 0 [] <| 
      op1V Φ (.bin .gtr 0) [[(.unit)], [(.int .i64 65536)]] fun v4 =>
      some (.norm [1] [v4])) (some (.norm [1] [(.undef)]))) <| app 1 <| fun v4 => 
  op1V Φ (.pick) [[v3], [(.bool true)], [v4]] fun v5 =>
  chkV 2 v5 <|
  blkV (none) [1] (gdV v5 false false (chkV 2 (.undef) <|
      callV Φ 0 0 [[(.undef)]] 0 [] <| 
      chkV 2 (.undef) <|
      callV Φ 0 0 [[(.undef)]] 0 [] <| 
      chkV 2 (.undef) <|
      callV Φ 0 0 [[(.undef)]] 0 [] <| 
      op1V Φ (.un .not) [[(.unit)]] fun v6 =>
      some (.norm [1] [v6])) (some (.norm [1] [(.undef)]))) <| app 1 <| fun v6 => 
  blkV (none) [1] (gdV v6 true true (chkV 2 (.undef) <|
      callV Φ 0 0 [[(.undef)]] 0 [] <| 
      chkV 2 (.undef) <|
      callV Φ 0 0 [[(.undef)]] 0 [] <| 
      chkV 2 (.undef) <|
      callV Φ 0 0 [[(.undef)]] 0 [] <| 
      op1V Φ (.bin .neq 0) [[(.unit)], [(.int .i64 0)]] fun v7 =>
      some (.norm [1] [v7])) (some (.norm [1] [(.undef)]))) <| app 1 <| fun v7 => 
  blkV (none) [1] (gdV v7 false true (chkV 2 (.undef) <|
      callV Φ 0 0 [[(.undef)]] 0 [] <| 
      chkV 2 (.undef) <|
      callV Φ 0 0 [[(.undef)]] 0 [] <| 
      chkV 2 (.undef) <|
      callV Φ 0 0 [[(.undef)]] 0 [] <| 
      chkV 2 (.undef) <|
      callV Φ 0 0 [[(.undef)]] 0 [] <| 
      some (.norm [1] [(.unit)])) (some (.norm [1] [(.undef)]))) <| app 1 <| fun v8 => 
  blkV (none) [1] (gdV v6 true true (op1V Φ (.pick) [[v7], [(.bool true)], [v8]] fun v9 =>
      chkV 2 v9 <|
      some (.norm [1] [v9])) (some (.norm [1] [(.undef)]))) <| app 1 <| fun v9 => 
  blkV (none) [1] (gdV v5 false false (op1V Φ (.pick) [[v6], [v9], [(.bool false)]] fun v10 =>
      chkV 2 v10 <|
      some (.norm [1] [v10])) (some (.norm [1] [(.undef)]))) <| app 1 <| fun v10 => 
  op1V Φ (.pick) [[v5], [(.bool true)], [v10]] fun v11 =>
  chkV 2 v11 <|
  blkV (none) [1] (gdV v11 false false (chkV 2 (.undef) <|
      callV Φ 0 0 [[(.undef)]] 0 [] <| 
      chkV 2 (.undef) <|
      callV Φ 0 0 [[(.undef)]] 0 [] <| 
      chkV 2 (.undef) <|
      callV Φ 0 0 [[(.undef)]] 0 [] <| 
      chkV 2 (.undef) <|
      callV Φ 0 0 [[(.undef)]] 0 [] <| 
      op1V Φ (.bin .neq 0) [[(.unit)], [(.int .i64 0)]] fun v12 =>
      some (.norm [1] [v12])) (some (.norm [1] [(.undef)]))) <| app 1 <| fun v12 => 
  op1V Φ (.pick) [[v11], [(.bool true)], [v12]] fun v13 =>
  iteV v13 (op1V Φ (.ifc 84) [[(.int .i64 1)]] fun v14 =>
    some (.ret [[v14]])) <|
  callV Φ 41 1 [[]] 1 [(0, 0)] <| fun v14 => 
  op1V Φ (.len) [[v14]] fun v15 =>
  blkV (some 0) [1, 1] (lpV [1, 1] (F16_1_b0 Φ n v14 v15) n [(.nilI), (.int .i64 0)]) <| app 2 <| fun v16 v17 => 
  op1V Φ (.len) [[v14]] fun v18 =>
  op1V Φ (.bin .gtr 0) [[v18], [(.int .i64 8)]] fun v19 =>
  blkV (none) [1] (gdV v19 false false (chkV 2 (.undef) <|
      callV Φ 0 0 [[(.undef)]] 0 [] <| 
      chkV 2 (.undef) <|
      callV Φ 0 0 [[(.undef)]] 0 [] <| 
      chkV 2 (.undef) <|
      callV Φ 0 0 [[(.undef)]] 0 [] <| 
      callV Φ 44 0 [[(.unit)], [(.clo 45 [])]] 1 [(0, 0)] <| fun v20 => 
      some (.norm [1] [v20])) (some (.norm [1] [(.undef)]))) <| app 1 <| fun v20 => 
  op1V Φ (.pick) [[v19], [(.bool true)], [v20]] fun v21 =>
  iteV v21 (op1V Φ (.ifc 84) [[(.int .i64 1)]] fun v22 =>
    some (.ret [[v22]])) <|
  some (.ret [[(.nilI)]])
theorem x16_1 (Φ : Funs) (n : Nat) : (textE Tryd.prog sg [] Tryd.f16 g16_1).map (fun t => t.eval Φ n []) = some (F16_1 Φ n) := by kernel_rfl

/-! colloquy/colloquylaw23.sure -/
def g14_0 : Sig := { ps := [], rs := [RSh.one (PM.fz)] }
noncomputable def F14_0_b0 (Φ : Funs) (n : Nat) (v2 : V) : List V → TR := app 14 <| fun v43 v44 v45 v46 v47 v48 v49 v50 v51 v52 v53 v54 v55 v56 => 
  chkV 2 v56 <|
  op1V Φ (.bin .lss 0) [[v56], [(.int .i64 5)]] fun v57 =>
  iteV v57 (chkV 0 v48 <|
    chkV 0 v49 <|
    chkV 0 v50 <|
    chkV 1 v2 <|
    chkV 2 v43 <|
    chkV 2 v44 <|
    chkV 2 v45 <|
    chkV 2 v46 <|
    chkV 2 v47 <|
    chkV 2 v51 <|
    chkV 2 v52 <|
    chkV 2 v53 <|
    callV Φ 6 0 [[v43, v44, v45, v46, v47, v51, v52, v53], [(.bool true)]] 12 [(0, 0), (0, 1), (0, 2), (1, 0), (2, 0), (2, 1), (2, 2), (2, 3), (2, 4), (2, 5), (2, 6), (2, 7)] <| fun v58 v59 v60 v61 v62 v63 v64 v65 v66 v67 v68 v69 => 
    chkV 2 v55 <|
    op1V Φ (.mk 3 [(false, [(0, 0)])]) [[v58]] fun v70 =>
    chkV 0 v55 <|
    op1V Φ (.app 3 8 false) [[v54], [v70]] fun v71 =>
    op1V Φ (.bin .add 0) [[v56], [(.int .i64 1)]] fun v72 =>
    some (.norm [8, 1, 1, 1, 1, 1, 1] [v62, v63, v64, v65, v66, (.unit), (.unit), (.unit), v67, v68, v69, v71, (.unit), v72])) <|
  some (.exit 0 [1, 1, 1, 8, 1, 1, 1] [v55, v54, v56, v43, v44, v45, v46, v47, v48, v49, v50, v51, v52, v53])
noncomputable def F14_0 (Φ : Funs) (n : Nat) : TR :=
  op1V Φ (.mk 3 [(false, [(0, 0)]), (false, [(1, 0)])]) [[(.int .i64 2)], [(.int .i64 1)]] fun v0 =>
  op1V Φ (.mk 63 [(false, [(0, 0)])]) [[v0]] fun v1 =>
  callV Φ 18 0 [[v1]] 10 [(0, 0), (1, 0), (0, 1), (0, 2), (0, 3), (0, 4), (0, 5), (0, 6), (0, 7), (0, 8)] <| fun v2 v3 v4 v5 v6 v7 v8 v9 v10 v11 => 
  op1V Φ (.mk 3 [(false, [(0, 0)])]) [[(.int .i64 0)]] fun v12 =>
  op1V Φ (.mk 63 [(false, [(0, 0)])]) [[v12]] fun v13 =>
  callV Φ 18 0 [[v13]] 10 [(0, 0), (1, 0), (0, 1), (0, 2), (0, 3), (0, 4), (0, 5), (0, 6), (0, 7), (0, 8)] <| fun v14 v15 v16 v17 v18 v19 v20 v21 v22 v23 => 
  op1V Φ (.notv) [[v2]] fun v24 =>
  iteV v24 (some (.ret [[(.bool false)]])) <|
  chkV 1 v2 <|
  callV Φ 9 0 [[v4, v5, v6, v7, v8, v9, v10, v11], [(.int .i64 1)], [(.int .i64 0)]] 9 [(0, 0), (1, 0), (1, 1), (1, 2), (1, 3), (1, 4), (1, 5), (1, 6), (1, 7)] <| fun v25 v26 v27 v28 v29 v30 v31 v32 v33 => 
  chkV 1 v2 <|
  callV Φ 9 0 [[v26, v27, v28, v29, v30, v31, v32, v33], [(.int .i64 2)], [(.int .i64 0)]] 9 [(0, 0), (1, 0), (1, 1), (1, 2), (1, 3), (1, 4), (1, 5), (1, 6), (1, 7)] <| fun v34 v35 v36 v37 v38 v39 v40 v41 v42 => 
  blkV (some 0) [1, 1, 1, 8, 1, 1, 1] (lpV [8, 1, 1, 1, 1, 1, 1] (F14_0_b0 Φ n v2) n [v35, v36, v37, v38, v39, (.unit), (.unit), (.unit), v40, v41, v42, (.list 3 []), (.unit), (.int .i64 0)]) <| app 14 <| fun v43 v44 v45 v46 v47 v48 v49 v50 v51 v52 v53 v54 v55 v56 => 
  chkV 0 v51 <|
  chkV 0 v52 <|
  chkV 0 v53 <|
  chkV 1 v2 <|
  chkV 2 v46 <|
  chkV 2 v47 <|
  chkV 2 v48 <|
  chkV 2 v49 <|
  chkV 2 v50 <|
  chkV 2 v54 <|
  chkV 2 v55 <|
  chkV 2 v56 <|
  callV Φ 10 0 [[v46, v47, v48, v49, v50, v54, v55, v56], [(.int .i64 7)]] 9 [(0, 0), (1, 0), (1, 1), (1, 2), (1, 3), (1, 4), (1, 5), (1, 6), (1, 7)] <| fun v57 v58 v59 v60 v61 v62 v63 v64 v65 => 
  chkV 1 v2 <|
  callV Φ 11 0 [[v58, v59, v60, v61, v62, v63, v64, v65]] 9 [(0, 0), (1, 0), (1, 1), (1, 2), (1, 3), (1, 4), (1, 5), (1, 6), (1, 7)] <| fun v66 v67 v68 v69 v70 v71 v72 v73 v74 => 
  chkV 1 v2 <|
  callV Φ 7 0 [[v67, v68, v69, v70, v71, v72, v73, v74], [(.int .i64 7)]] 12 [(0, 0), (0, 1), (0, 2), (1, 0), (2, 0), (2, 1), (2, 2), (2, 3), (2, 4), (2, 5), (2, 6), (2, 7)] <| fun v75 v76 v77 v78 v79 v80 v81 v82 v83 v84 v85 v86 => 
  chkV 1 v2 <|
  callV Φ 7 0 [[v79, v80, v81, v82, v83, v84, v85, v86], [(.int .i64 7)]] 12 [(0, 0), (0, 1), (0, 2), (1, 0), (2, 0), (2, 1), (2, 2), (2, 3), (2, 4), (2, 5), (2, 6), (2, 7)] <| fun v87 v88 v89 v90 v91 v92 v93 v94 v95 v96 v97 v98 => 
  op1V Φ (.bin .eql 3) [[v3], [(.nilI)]] fun v99 =>
  blkV (none) [1] (gdV v99 true false (callV Φ 8 0 [[v15]] 1 [(0, 0)] <| fun v100 => 
      op1V Φ (.bin .eql 0) [[v100], [(.int .i64 1)]] fun v101 =>
      some (.norm [1] [v101])) (some (.norm [1] [(.undef)]))) <| app 1 <| fun v100 => 
  op1V Φ (.pick) [[v99], [v100], [(.bool false)]] fun v101 =>
  chkV 2 v101 <|
  blkV (none) [1] (gdV v101 true false (op1V Φ (.bin .eql 3) [[v25], [(.nilI)]] fun v102 =>
      some (.norm [1] [v102])) (some (.norm [1] [(.undef)]))) <| app 1 <| fun v102 => 
  op1V Φ (.pick) [[v101], [v102], [(.bool false)]] fun v103 =>
  chkV 2 v103 <|
  blkV (none) [1] (gdV v103 true false (op1V Φ (.bin .eql 3) [[v34], [(.nilI)]] fun v104 =>
      some (.norm [1] [v104])) (some (.norm [1] [(.undef)]))) <| app 1 <| fun v104 => 
  op1V Φ (.pick) [[v103], [v104], [(.bool false)]] fun v105 =>
  chkV 2 v105 <|
  blkV (none) [1] (gdV v105 true false (chkV 2 v43 <|
      chkV 0 v43 <|
      op1V Φ (.eix 3) [[v44], [(.int .i64 0)]] fun v106 =>
      op1V Φ (.ldo 0 1 false) [[v106], [v44]] fun v107 =>
      chkV 2 v107 <|
      op1V Φ (.bin .eql 0) [[v107], [(.int .i64 1)]] fun v108 =>
      some (.norm [1] [v108])) (some (.norm [1] [(.undef)]))) <| app 1 <| fun v106 => 
  op1V Φ (.pick) [[v105], [v106], [(.bool false)]] fun v107 =>
  chkV 2 v107 <|
  blkV (none) [1] (gdV v107 true false (chkV 2 v43 <|
      chkV 0 v43 <|
      op1V Φ (.eix 3) [[v44], [(.int .i64 1)]] fun v108 =>
      op1V Φ (.ldo 0 1 false) [[v108], [v44]] fun v109 =>
      chkV 2 v109 <|
      op1V Φ (.bin .eql 0) [[v109], [(.int .i64 1)]] fun v110 =>
      some (.norm [1] [v110])) (some (.norm [1] [(.undef)]))) <| app 1 <| fun v108 => 
  op1V Φ (.pick) [[v107], [v108], [(.bool false)]] fun v109 =>
  chkV 2 v109 <|
  blkV (none) [1] (gdV v109 true false (chkV 2 v43 <|
      chkV 0 v43 <|
      op1V Φ (.eix 3) [[v44], [(.int .i64 2)]] fun v110 =>
      op1V Φ (.ldo 0 1 false) [[v110], [v44]] fun v111 =>
      chkV 2 v111 <|
      op1V Φ (.bin .eql 0) [[v111], [(.int .i64 2)]] fun v112 =>
      some (.norm [1] [v112])) (some (.norm [1] [(.undef)]))) <| app 1 <| fun v110 => 
  op1V Φ (.pick) [[v109], [v110], [(.bool false)]] fun v111 =>
  chkV 2 v111 <|
  blkV (none) [1] (gdV v111 true false (chkV 2 v43 <|
      chkV 0 v43 <|
      op1V Φ (.eix 3) [[v44], [(.int .i64 3)]] fun v112 =>
      op1V Φ (.ldo 0 1 false) [[v112], [v44]] fun v113 =>
      chkV 2 v113 <|
      op1V Φ (.bin .eql 0) [[v113], [(.int .i64 1)]] fun v114 =>
      some (.norm [1] [v114])) (some (.norm [1] [(.undef)]))) <| app 1 <| fun v112 => 
  op1V Φ (.pick) [[v111], [v112], [(.bool false)]] fun v113 =>
  chkV 2 v113 <|
  blkV (none) [1] (gdV v113 true false (chkV 2 v43 <|
      chkV 0 v43 <|
      op1V Φ (.eix 3) [[v44], [(.int .i64 4)]] fun v114 =>
      op1V Φ (.ldo 0 1 false) [[v114], [v44]] fun v115 =>
      chkV 2 v115 <|
      op1V Φ (.bin .eql 0) [[v115], [(.int .i64 1)]] fun v116 =>
      some (.norm [1] [v116])) (some (.norm [1] [(.undef)]))) <| app 1 <| fun v114 => 
  op1V Φ (.pick) [[v113], [v114], [(.bool false)]] fun v115 =>
  chkV 2 v115 <|
  blkV (none) [1] (gdV v115 true false (op1V Φ (.bin .eql 3) [[v57], [(.nilI)]] fun v116 =>
      some (.norm [1] [v116])) (some (.norm [1] [(.undef)]))) <| app 1 <| fun v116 => 
  op1V Φ (.pick) [[v115], [v116], [(.bool false)]] fun v117 =>
  chkV 2 v117 <|
  blkV (none) [1] (gdV v117 true false (callV Φ 8 0 [[v66]] 1 [(0, 0)] <| fun v118 => 
      op1V Φ (.bin .eql 0) [[v118], [(.int .i64 6)]] fun v119 =>
      some (.norm [1] [v119])) (some (.norm [1] [(.undef)]))) <| app 1 <| fun v118 => 
  op1V Φ (.pick) [[v117], [v118], [(.bool false)]] fun v119 =>
  chkV 2 v119 <|
  blkV (none) [1] (gdV v119 true false (some (.norm [1] [v78])) (some (.norm [1] [(.undef)]))) <| app 1 <| fun v120 => 
  op1V Φ (.pick) [[v119], [v120], [(.bool false)]] fun v121 =>
  chkV 2 v121 <|
  blkV (none) [1] (gdV v121 true false (op1V Φ (.bin .eql 0) [[v75], [(.int .i64 1)]] fun v122 =>
      some (.norm [1] [v122])) (some (.norm [1] [(.undef)]))) <| app 1 <| fun v122 => 
  op1V Φ (.pick) [[v121], [v122], [(.bool false)]] fun v123 =>
  chkV 2 v123 <|
  blkV (none) [1] (gdV v123 true false (op1V Φ (.un .not) [[v90]] fun v124 =>
      some (.norm [1] [v124])) (some (.norm [1] [(.undef)]))) <| app 1 <| fun v124 => 
  op1V Φ (.pick) [[v123], [v124], [(.bool false)]] fun v125 =>
  chkV 2 v125 <|
  blkV (none) [1] (gdV v125 true false (chkV 1 v2 <|
      callV Φ 12 0 [[v91, v92, v93, v94, v95, v96, v97, v98]] 1 [(0, 0)] <| fun v126 => 
      op1V Φ (.un .not) [[v126]] fun v127 =>
      some (.norm [1] [v127])) (some (.norm [1] [(.undef)]))) <| app 1 <| fun v126 => 
  op1V Φ (.pick) [[v125], [v126], [(.bool false)]] fun v127 =>
  chkV 2 v127 <|
  blkV (none) [1] (gdV v127 true false (chkV 1 v2 <|
      callV Φ 16 0 [[v91, v92, v93, v94, v95, v96, v97, v98]] 1 [(0, 0)] <| fun v128 => 
      op1V Φ (.bin .eql 3) [[v128], [(.nilI)]] fun v129 =>
      some (.norm [1] [v129])) (some (.norm [1] [(.undef)]))) <| app 1 <| fun v128 => 
  op1V Φ (.pick) [[v127], [v128], [(.bool false)]] fun v129 =>
  chkV 2 v129 <|
  blkV (none) [1] (gdV v129 true false (callV Φ 16 1 [[]] 1 [(0, 0)] <| fun v130 => 
      callV Φ 8 0 [[v130]] 1 [(0, 0)] <| fun v131 => 
      op1V Φ (.bin .eql 0) [[v131], [(.int .i64 1)]] fun v132 =>
      some (.norm [1] [v132])) (some (.norm [1] [(.undef)]))) <| app 1 <| fun v130 => 
  op1V Φ (.pick) [[v129], [v130], [(.bool false)]] fun v131 =>
  chkV 2 v131 <|
  blkV (none) [1] (gdV v131 true false (chkV 1 v2 <|
      op1V Φ (.len) [[v96]] fun v132 =>
      op1V Φ (.bin .eql 0) [[v132], [(.int .i64 2)]] fun v133 =>
      some (.norm [1] [v133])) (some (.norm [1] [(.undef)]))) <| app 1 <| fun v132 => 
  op1V Φ (.pick) [[v131], [v132], [(.bool false)]] fun v133 =>
  chkV 2 v133 <|
  some (.ret [[v133]])
theorem x14_0 (Φ : Funs) (n : Nat) : (textE Tryd.prog sg [] Tryd.f14 g14_0).map (fun t => t.eval Φ n []) = some (F14_0 Φ n) := by kernel_rfl

/-! colloquy/colloquylaw23.giveProcs -/
def g42_0 : Sig := { ps := [PSh.one (PM.lent)], rs := [RSh.one (PM.own)] }
noncomputable def F42_0_b0 (Φ : Funs) (n : Nat) (v0 : V) : List V → TR := app 3 <| fun v1 v2 v3 => 
  chkV 2 v3 <|
  chkV 2 v0 <|
  op1V Φ (.len) [[v0]] fun v4 =>
  op1V Φ (.bin .lss 0) [[v3], [v4]] fun v5 =>
  iteV v5 (chkV 2 v2 <|
    op1V Φ (.idx 23) [[v0], [v3]] fun v6 =>
    opnV Φ (.ldi 0 3 true [true, true, true]) [[v6]] 3 <| fun v7 v8 v9 => 
    op1V Φ (.mk 30 [(true, [(0, 0), (1, 1), (2, 2)])]) [[v7, v8, v9], [v7, v8, v9], [v7, v8, v9]] fun v10 =>
    chkV 0 v2 <|
    op1V Φ (.app 30 24 false) [[v1], [v10]] fun v11 =>
    op1V Φ (.bin .add 0) [[v3], [(.int .i64 1)]] fun v12 =>
    some (.norm [1, 1, 1] [v11, (.unit), v12])) <|
  some (.exit 0 [1, 1, 1] [v2, v1, v3])
noncomputable def F42_0 (Φ : Funs) (n : Nat) (v0 : V) : TR :=
  blkV (some 0) [1, 1, 1] (lpV [1, 1, 1] (F42_0_b0 Φ n v0) n [(.list 30 []), (.unit), (.int .i64 0)]) <| app 3 <| fun v1 v2 v3 => 
  chkV 2 v1 <|
  chkV 0 v1 <|
  chkV 2 v2 <|
  some (.ret [[v2]])
theorem x42_0 (Φ : Funs) (n : Nat) (v0 : V) : (textE Tryd.prog sg [] Tryd.f42 g42_0).map (fun t => t.eval Φ n [v0]) = some (F42_0 Φ n v0) := by kernel_rfl

/-! colloquy/colloquylaw23.giveTicks -/
def g19_0 : Sig := { ps := [PSh.one (PM.lent)], rs := [RSh.one (PM.own)] }
noncomputable def F19_0_b0 (Φ : Funs) (n : Nat) (v0 : V) : List V → TR := app 3 <| fun v1 v2 v3 => 
  chkV 2 v3 <|
  chkV 2 v0 <|
  op1V Φ (.len) [[v0]] fun v4 =>
  op1V Φ (.bin .lss 0) [[v3], [v4]] fun v5 =>
  iteV v5 (chkV 2 v2 <|
    op1V Φ (.mk 3 []) [] fun v6 =>
    op1V Φ (.idx 63) [[v0], [v3]] fun v7 =>
    op1V Φ (.ldi 0 1 false [false]) [[v7]] fun v8 =>
    op1V Φ (.app 3 8 true) [[v6], [v8]] fun v9 =>
    op1V Φ (.mk 63 [(false, [(0, 0)])]) [[v9]] fun v10 =>
    chkV 0 v2 <|
    op1V Φ (.app 63 24 false) [[v1], [v10]] fun v11 =>
    op1V Φ (.bin .add 0) [[v3], [(.int .i64 1)]] fun v12 =>
    some (.norm [1, 1, 1] [v11, (.unit), v12])) <|
  some (.exit 0 [1, 1, 1] [v2, v1, v3])
noncomputable def F19_0 (Φ : Funs) (n : Nat) (v0 : V) : TR :=
  blkV (some 0) [1, 1, 1] (lpV [1, 1, 1] (F19_0_b0 Φ n v0) n [(.list 63 []), (.unit), (.int .i64 0)]) <| app 3 <| fun v1 v2 v3 => 
  chkV 2 v1 <|
  chkV 0 v1 <|
  chkV 2 v2 <|
  some (.ret [[v2]])
theorem x19_0 (Φ : Funs) (n : Nat) (v0 : V) : (textE Tryd.prog sg [] Tryd.f19 g19_0).map (fun t => t.eval Φ n [v0]) = some (F19_0 Φ n v0) := by kernel_rfl

/-! colloquy/colloquylaw23.giveSched -/
def g15_0 : Sig := { ps := [PSh.agg [PM.fz, PM.fz, PM.fz, PM.fz, PM.fz, PM.lent, PM.lent, PM.lent]], rs := [RSh.obx [PM.fz, PM.fz, PM.fz, PM.fz, PM.fz, PM.own, PM.own, PM.own]] }
noncomputable def F15_0 (Φ : Funs) (n : Nat) (v0 v1 v2 v3 v4 v5 v6 v7 : V) : TR :=
  chkV 2 v0 <|
  chkV 2 v1 <|
  chkV 2 v2 <|
  chkV 2 v3 <|
  chkV 2 v4 <|
  chkV 2 v5 <|
  chkV 2 v6 <|
  chkV 2 v7 <|
  callV Φ 42 0 [[v5]] 1 [(0, 0)] <| fun v8 => 
  callV Φ 42 0 [[v6]] 1 [(0, 0)] <| fun v9 => 
  callV Φ 19 0 [[v7]] 1 [(0, 0)] <| fun v10 => 
  some (.ret [[(.bool true), v0, v1, v2, v3, v4, v8, v9, v10]])
theorem x15_0 (Φ : Funs) (n : Nat) (v0 v1 v2 v3 v4 v5 v6 v7 : V) : (textE Tryd.prog sg [] Tryd.f15 g15_0).map (fun t => t.eval Φ n [v7, v6, v5, v4, v3, v2, v1, v0]) = some (F15_0 Φ n v0 v1 v2 v3 v4 v5 v6 v7) := by kernel_rfl

/-! colloquy/colloquyref23.Ticks -/
def g46_0 : Sig := { ps := [PSh.one (PM.lent)], rs := [RSh.one (PM.fz)] }
noncomputable def F46_0_b0 (Φ : Funs) (n : Nat) (v0 v4 : V) : List V → TR := app 2 <| fun v11 v12 => 
  chkV 2 v12 <|
  op1V Φ (.idx 63) [[v0], [v4]] fun v13 =>
  op1V Φ (.ldi 0 1 false [false]) [[v13]] fun v14 =>
  op1V Φ (.len) [[v14]] fun v15 =>
  op1V Φ (.bin .lss 0) [[v12], [v15]] fun v16 =>
  iteV v16 (op1V Φ (.idx 63) [[v0], [v4]] fun v17 =>
    op1V Φ (.ldi 0 1 false [false]) [[v17]] fun v18 =>
    op1V Φ (.idx 3) [[v18], [v12]] fun v19 =>
    op1V Φ (.ldi 0 1 false [true]) [[v19]] fun v20 =>
    op1V Φ (.bin .lss 0) [[v20], [(.int .i64 1)]] fun v21 =>
    blkV (none) [1] (gdV v21 false false (op1V Φ (.idx 63) [[v0], [v4]] fun v22 =>
        chkV 2 v22 <|
        op1V Φ (.ldi 0 1 false [false]) [[v22]] fun v23 =>
        chkV 2 v23 <|
        op1V Φ (.idx 3) [[v23], [v12]] fun v24 =>
        chkV 2 v24 <|
        op1V Φ (.ldi 0 1 false [true]) [[v24]] fun v25 =>
        chkV 2 v25 <|
        op1V Φ (.bin .gtr 0) [[v25], [(.int .i64 65536)]] fun v26 =>
        some (.norm [1] [v26])) (some (.norm [1] [(.undef)]))) <| app 1 <| fun v22 => 
    op1V Φ (.pick) [[v21], [(.bool true)], [v22]] fun v23 =>
    iteV v23 (some (.ret [[(.bool false)]])) <|
    op1V Φ (.bin .add 0) [[v12], [(.int .i64 1)]] fun v24 =>
    some (.norm [1, 1] [v11, v24])) <|
  some (.exit 2 [1, 1] [v11, v12])
noncomputable def F46_0_b1 (Φ : Funs) (n : Nat) (v0 : V) : List V → TR := app 2 <| fun v3 v4 => 
  chkV 2 v4 <|
  op1V Φ (.len) [[v0]] fun v5 =>
  op1V Φ (.bin .lss 0) [[v4], [v5]] fun v6 =>
  iteV v6 (op1V Φ (.idx 63) [[v0], [v4]] fun v7 =>
    op1V Φ (.ldi 0 1 false [false]) [[v7]] fun v8 =>
    op1V Φ (.len) [[v8]] fun v9 =>
    op1V Φ (.bin .gtr 0) [[v9], [(.int .i64 256)]] fun v10 =>
    iteV v10 (some (.ret [[(.bool false)]])) <|
    blkV (some 2) [1, 1] (lpV [1, 1] (F46_0_b0 Φ n v0 v4) n [v3, (.int .i64 0)]) <| app 2 <| fun v11 v12 => 
    op1V Φ (.bin .add 0) [[v4], [(.int .i64 1)]] fun v13 =>
    some (.norm [1, 1] [v11, v13])) <|
  some (.exit 0 [1, 1] [v3, v4])
noncomputable def F46_0 (Φ : Funs) (n : Nat) (v0 : V) : TR :=
  chkV 2 v0 <|
  op1V Φ (.len) [[v0]] fun v1 =>
  op1V Φ (.bin .gtr 0) [[v1], [(.int .i64 8)]] fun v2 =>
  iteV v2 (some (.ret [[(.bool false)]])) <|
  blkV (some 0) [1, 1] (lpV [1, 1] (F46_0_b1 Φ n v0) n [(.bool false), (.int .i64 0)]) <| app 2 <| fun v3 v4 => 
  some (.ret [[(.bool true)]])
theorem x46_0 (Φ : Funs) (n : Nat) (v0 : V) : (textE Tryd.prog sg [] Tryd.f46 g46_0).map (fun t => t.eval Φ n [v0]) = some (F46_0 Φ n v0) := by kernel_rfl

/-! colloquy/colloquyref23.one -/
def g47_0 : Sig := { ps := [PSh.agg [PM.fz, PM.fz, PM.fz]], rs := [RSh.one (PM.fz)] }
noncomputable def F47_0 (Φ : Funs) (n : Nat) (v0 v1 v2 : V) : TR :=
  chkV 2 v0 <|
  chkV 2 v1 <|
  chkV 2 v2 <|
  op1V Φ (.bin .geq 0) [[v0], [(.int .i64 0)]] fun v3 =>
  blkV (none) [1] (gdV v3 true false (op1V Φ (.bin .leq 0) [[v0], [(.int .i64 9007199254740991)]] fun v4 =>
      some (.norm [1] [v4])) (some (.norm [1] [(.undef)]))) <| app 1 <| fun v4 => 
  op1V Φ (.pick) [[v3], [v4], [(.bool false)]] fun v5 =>
  chkV 2 v5 <|
  blkV (none) [1] (gdV v5 true false (op1V Φ (.bin .geq 0) [[v1], [(.int .i64 0)]] fun v6 =>
      some (.norm [1] [v6])) (some (.norm [1] [(.undef)]))) <| app 1 <| fun v6 => 
  op1V Φ (.pick) [[v5], [v6], [(.bool false)]] fun v7 =>
  chkV 2 v7 <|
  blkV (none) [1] (gdV v7 true false (op1V Φ (.bin .leq 0) [[v1], [(.int .i64 7)]] fun v8 =>
      some (.norm [1] [v8])) (some (.norm [1] [(.undef)]))) <| app 1 <| fun v8 => 
  op1V Φ (.pick) [[v7], [v8], [(.bool false)]] fun v9 =>
  chkV 2 v9 <|
  blkV (none) [1] (gdV v9 true false (op1V Φ (.bin .geq 0) [[v2], [(.int .i64 0)]] fun v10 =>
      some (.norm [1] [v10])) (some (.norm [1] [(.undef)]))) <| app 1 <| fun v10 => 
  op1V Φ (.pick) [[v9], [v10], [(.bool false)]] fun v11 =>
  chkV 2 v11 <|
  blkV (none) [1] (gdV v11 true false (op1V Φ (.bin .leq 0) [[v2], [(.int .i64 65535)]] fun v12 =>
      some (.norm [1] [v12])) (some (.norm [1] [(.undef)]))) <| app 1 <| fun v12 => 
  op1V Φ (.pick) [[v11], [v12], [(.bool false)]] fun v13 =>
  chkV 2 v13 <|
  some (.ret [[v13]])
theorem x47_0 (Φ : Funs) (n : Nat) (v0 v1 v2 : V) : (textE Tryd.prog sg [] Tryd.f47 g47_0).map (fun t => t.eval Φ n [v2, v1, v0]) = some (F47_0 Φ n v0 v1 v2) := by kernel_rfl

/-! colloquy/colloquyref23.May -/
def g17_0 : Sig := { ps := [PSh.agg [PM.fz, PM.fz, PM.fz, PM.fz, PM.fz, PM.lent, PM.lent, PM.lent]], rs := [RSh.one (PM.fz)] }
noncomputable def F17_0_b0 (Φ : Funs) (n : Nat) (v5 : V) : List V → TR := app 4 <| fun v18 v19 v20 v21 => 
  chkV 2 v21 <|
  op1V Φ (.len) [[v5]] fun v22 =>
  op1V Φ (.bin .lss 0) [[v21], [v22]] fun v23 =>
  iteV v23 (chkV 2 v18 <|
    blkV (none) [1] (gdV v18 true false (op1V Φ (.idx 23) [[v5], [v21]] fun v24 =>
        chkV 2 v24 <|
        opnV Φ (.ldi 0 3 true [true, true, true]) [[v24]] 3 <| fun v25 v26 v27 => 
        chkV 2 v25 <|
        chkV 2 v26 <|
        chkV 2 v27 <|
        callV Φ 47 0 [[v25, v26, v27]] 1 [(0, 0)] <| fun v28 => 
        some (.norm [1] [v28])) (some (.norm [1] [(.undef)]))) <| app 1 <| fun v24 => 
    op1V Φ (.pick) [[v18], [v24], [(.bool false)]] fun v25 =>
    chkV 2 v25 <|
    blkV (none) [1] (gdV v25 true false (op1V Φ (.idx 23) [[v5], [v21]] fun v26 =>
        chkV 2 v26 <|
        chkV 2 v26 <|
        op1V Φ (.ldi 2 1 false [true]) [[v26]] fun v27 =>
        chkV 2 v27 <|
        op1V Φ (.bin .eql 0) [[v27], [(.int .i64 0)]] fun v28 =>
        some (.norm [1] [v28])) (some (.norm [1] [(.undef)]))) <| app 1 <| fun v26 => 
    op1V Φ (.pick) [[v25], [v26], [(.bool false)]] fun v27 =>
    chkV 2 v27 <|
    chkV 2 v20 <|
    op1V Φ (.idx 23) [[v5], [v21]] fun v28 =>
    chkV 2 v28 <|
    op1V Φ (.ldi 0 1 false [true]) [[v28]] fun v29 =>
    op1V Φ (.mk 3 [(false, [(0, 0)])]) [[v29]] fun v30 =>
    chkV 0 v20 <|
    op1V Φ (.app 3 8 false) [[v19], [v30]] fun v31 =>
    op1V Φ (.bin .add 0) [[v21], [(.int .i64 1)]] fun v32 =>
    some (.norm [1, 1, 1, 1] [v27, v31, (.unit), v32])) <|
  some (.exit 0 [1, 1, 1, 1] [v20, v19, v18, v21])
noncomputable def F17_0_b1 (Φ : Funs) (n : Nat) (v6 : V) : List V → TR := app 4 <| fun v22 v23 v24 v25 => 
  chkV 2 v25 <|
  op1V Φ (.len) [[v6]] fun v26 =>
  op1V Φ (.bin .lss 0) [[v25], [v26]] fun v27 =>
  iteV v27 (chkV 2 v22 <|
    blkV (none) [1] (gdV v22 true false (op1V Φ (.idx 23) [[v6], [v25]] fun v28 =>
        chkV 2 v28 <|
        opnV Φ (.ldi 0 3 true [true, true, true]) [[v28]] 3 <| fun v29 v30 v31 => 
        chkV 2 v29 <|
        chkV 2 v30 <|
        chkV 2 v31 <|
        callV Φ 47 0 [[v29, v30, v31]] 1 [(0, 0)] <| fun v32 => 
        some (.norm [1] [v32])) (some (.norm [1] [(.undef)]))) <| app 1 <| fun v28 => 
    op1V Φ (.pick) [[v22], [v28], [(.bool false)]] fun v29 =>
    chkV 2 v29 <|
    chkV 2 v24 <|
    op1V Φ (.idx 23) [[v6], [v25]] fun v30 =>
    chkV 2 v30 <|
    op1V Φ (.ldi 0 1 false [true]) [[v30]] fun v31 =>
    op1V Φ (.mk 3 [(false, [(0, 0)])]) [[v31]] fun v32 =>
    chkV 0 v24 <|
    op1V Φ (.app 3 8 false) [[v23], [v32]] fun v33 =>
    op1V Φ (.bin .add 0) [[v25], [(.int .i64 1)]] fun v34 =>
    some (.norm [1, 1, 1, 1] [v29, v33, (.unit), v34])) <|
  some (.exit 2 [1, 1, 1, 1] [v24, v23, v22, v25])
noncomputable def F17_0_b2 (Φ : Funs) (n : Nat) (v22 v23 v27 : V) : List V → TR := app 2 <| fun v32 v33 => 
  chkV 2 v33 <|
  op1V Φ (.bin .lss 0) [[v33], [v27]] fun v34 =>
  iteV v34 (chkV 2 v32 <|
    blkV (none) [1] (gdV v32 true false (chkV 0 v22 <|
        op1V Φ (.eix 3) [[v23], [v33]] fun v35 =>
        op1V Φ (.ldo 0 1 false) [[v35], [v23]] fun v36 =>
        chkV 2 v36 <|
        chkV 0 v22 <|
        op1V Φ (.eix 3) [[v23], [v27]] fun v37 =>
        op1V Φ (.ldo 0 1 false) [[v37], [v23]] fun v38 =>
        chkV 2 v38 <|
        op1V Φ (.bin .neq 0) [[v36], [v38]] fun v39 =>
        some (.norm [1] [v39])) (some (.norm [1] [(.undef)]))) <| app 1 <| fun v35 => 
    op1V Φ (.pick) [[v32], [v35], [(.bool false)]] fun v36 =>
    chkV 2 v36 <|
    op1V Φ (.bin .add 0) [[v33], [(.int .i64 1)]] fun v37 =>
    some (.norm [1, 1] [v36, v37])) <|
  some (.exit 6 [1, 1] [v32, v33])
noncomputable def F17_0_b3 (Φ : Funs) (n : Nat) (v22 v23 : V) : List V → TR := app 2 <| fun v26 v27 => 
  chkV 2 v27 <|
  chkV 2 v22 <|
  chkV 0 v22 <|
  op1V Φ (.len) [[v23]] fun v28 =>
  op1V Φ (.bin .lss 0) [[v27], [v28]] fun v29 =>
  blkV (none) [1] (gdV v29 true false (chkV 0 v22 <|
      op1V Φ (.len) [[v23]] fun v30 =>
      op1V Φ (.bin .leq 0) [[v30], [(.int .i64 8)]] fun v31 =>
      some (.norm [1] [v31])) (some (.norm [1] [(.undef)]))) <| app 1 <| fun v30 => 
  op1V Φ (.pick) [[v29], [v30], [(.bool false)]] fun v31 =>
  iteV v31 (blkV (some 6) [1, 1] (lpV [1, 1] (F17_0_b2 Φ n v22 v23 v27) n [v26, (.int .i64 0)]) <| app 2 <| fun v32 v33 => 
    op1V Φ (.bin .add 0) [[v27], [(.int .i64 1)]] fun v34 =>
    some (.norm [1, 1] [v32, v34])) <|
  some (.exit 4 [1, 1] [v26, v27])
noncomputable def F17_0 (Φ : Funs) (n : Nat) (v0 v1 v2 v3 v4 v5 v6 v7 : V) : TR :=
  chkV 2 v0 <|
  chkV 2 v1 <|
  chkV 2 v2 <|
  chkV 2 v3 <|
  chkV 2 v4 <|
  chkV 2 v5 <|
  chkV 2 v6 <|
  chkV 2 v7 <|
  callV Φ 46 0 [[v7]] 1 [(0, 0)] <| fun v8 => 
  blkV (none) [1] (gdV v8 true false (op1V Φ (.bin .geq 0) [[v4], [(.int .i64 (-1))]] fun v9 =>
      some (.norm [1] [v9])) (some (.norm [1] [(.undef)]))) <| app 1 <| fun v9 => 
  op1V Φ (.pick) [[v8], [v9], [(.bool false)]] fun v10 =>
  chkV 2 v10 <|
  blkV (none) [1] (gdV v10 true false (op1V Φ (.bin .leq 0) [[v4], [(.int .i64 65536)]] fun v11 =>
      some (.norm [1] [v11])) (some (.norm [1] [(.undef)]))) <| app 1 <| fun v11 => 
  op1V Φ (.pick) [[v10], [v11], [(.bool false)]] fun v12 =>
  chkV 2 v12 <|
  blkV (none) [1] (gdV v12 true false (op1V Φ (.bin .eql 0) [[v3], [(.int .i64 0)]] fun v13 =>
      some (.norm [1] [v13])) (some (.norm [1] [(.undef)]))) <| app 1 <| fun v13 => 
  op1V Φ (.pick) [[v12], [v13], [(.bool false)]] fun v14 =>
  chkV 2 v14 <|
  blkV (none) [1, 1, 1] (iteV v0 (blkV (none) [1] (gdV v14 true false (callV Φ 47 0 [[v1, v2, v3]] 1 [(0, 0)] <| fun v15 => 
          some (.norm [1] [v15])) (some (.norm [1] [(.undef)]))) <| app 1 <| fun v15 => 
      op1V Φ (.pick) [[v14], [v15], [(.bool false)]] fun v16 =>
      chkV 2 v16 <|
      op1V Φ (.mk 3 [(false, [(0, 0)])]) [[v1]] fun v17 =>
      op1V Φ (.app 3 8 false) [[(.list 3 [])], [v17]] fun v18 =>
      some (.norm [1, 1, 1] [(.unit), v18, v16])) <|
    blkV (none) [1] (gdV v14 true false (op1V Φ (.bin .eql 0) [[v1], [(.int .i64 0)]] fun v15 =>
        some (.norm [1] [v15])) (some (.norm [1] [(.undef)]))) <| app 1 <| fun v15 => 
    op1V Φ (.pick) [[v14], [v15], [(.bool false)]] fun v16 =>
    chkV 2 v16 <|
    blkV (none) [1] (gdV v16 true false (op1V Φ (.bin .eql 0) [[v2], [(.int .i64 0)]] fun v17 =>
        some (.norm [1] [v17])) (some (.norm [1] [(.undef)]))) <| app 1 <| fun v17 => 
    op1V Φ (.pick) [[v16], [v17], [(.bool false)]] fun v18 =>
    chkV 2 v18 <|
    blkV (none) [1] (gdV v18 true false (op1V Φ (.bin .eql 0) [[v4], [(.int .i64 0)]] fun v19 =>
        some (.norm [1] [v19])) (some (.norm [1] [(.undef)]))) <| app 1 <| fun v19 => 
    op1V Φ (.pick) [[v18], [v19], [(.bool false)]] fun v20 =>
    chkV 2 v20 <|
    some (.norm [1, 1, 1] [(.unit), (.list 3 []), v20])) <| app 3 <| fun v15 v16 v17 => 
  blkV (some 0) [1, 1, 1, 1] (lpV [1, 1, 1, 1] (F17_0_b0 Φ n v5) n [v17, v16, v15, (.int .i64 0)]) <| app 4 <| fun v18 v19 v20 v21 => 
  blkV (some 2) [1, 1, 1, 1] (lpV [1, 1, 1, 1] (F17_0_b1 Φ n v6) n [v20, v19, v18, (.int .i64 0)]) <| app 4 <| fun v22 v23 v24 v25 => 
  blkV (some 4) [1, 1] (lpV [1, 1] (F17_0_b3 Φ n v22 v23) n [v24, (.int .i64 0)]) <| app 2 <| fun v26 v27 => 
  chkV 2 v26 <|
  blkV (none) [1] (gdV v26 true false (chkV 2 v22 <|
      chkV 0 v22 <|
      op1V Φ (.len) [[v23]] fun v28 =>
      op1V Φ (.bin .leq 0) [[v28], [(.int .i64 8)]] fun v29 =>
      some (.norm [1] [v29])) (some (.norm [1] [(.undef)]))) <| app 1 <| fun v28 => 
  op1V Φ (.pick) [[v26], [v28], [(.bool false)]] fun v29 =>
  chkV 2 v29 <|
  some (.ret [[v29]])
theorem x17_0 (Φ : Funs) (n : Nat) (v0 v1 v2 v3 v4 v5 v6 v7 : V) : (textE Tryd.prog sg [] Tryd.f17 g17_0).map (fun t => t.eval Φ n [v7, v6, v5, v4, v3, v2, v1, v0]) = some (F17_0 Φ n v0 v1 v2 v3 v4 v5 v6 v7) := by kernel_rfl

/-! colloquy/colloquyref23.New -/
def g20_1 : Sig := { ps := [PSh.one (PM.fz)], rs := [RSh.agg [PM.fz, PM.fz, PM.fz, PM.fz, PM.fz, PM.fz, PM.fz, PM.fz], RSh.one (PM.fz)] }
noncomputable def F20_1 (Φ : Funs) (n : Nat) (v0 : V) : TR :=
  chkV 2 v0 <|
  callV Φ 46 0 [[v0]] 1 [(0, 0)] <| fun v1 => 
  op1V Φ (.un .not) [[v1]] fun v2 =>
  iteV v2 (some (.ret [[(.bool false), (.int .i64 0), (.int .i64 0), (.int .i64 0), (.int .i64 0), (.list 23 []), (.list 23 []), (.list 63 [])], [(.int .i64 1)]])) <|
  some (.ret [[(.bool false), (.int .i64 0), (.int .i64 0), (.int .i64 0), (.int .i64 0), (.list 23 []), (.list 23 []), v0], [(.int .i64 0)]])
theorem x20_1 (Φ : Funs) (n : Nat) (v0 : V) : (textE Tryd.prog sg [] Tryd.f20 g20_1).map (fun t => t.eval Φ n [v0]) = some (F20_1 Φ n v0) := by kernel_rfl

/-! colloquy/colloquylaw23.areProcs -/
def g49_0 : Sig := { ps := [PSh.one (PM.lent), PSh.one (PM.lent)], rs := [RSh.one (PM.fz)] }
noncomputable def F49_0_b0 (Φ : Funs) (n : Nat) (v0 v1 : V) : List V → TR := app 2 <| fun v5 v6 => 
  chkV 2 v6 <|
  op1V Φ (.len) [[v1]] fun v7 =>
  op1V Φ (.bin .lss 0) [[v6], [v7]] fun v8 =>
  iteV v8 (op1V Φ (.idx 30) [[v0], [v6]] fun v9 =>
    opnV Φ (.ldi 0 3 true [true, true, true]) [[v9]] 3 <| fun v10 v11 v12 => 
    op1V Φ (.idx 23) [[v1], [v6]] fun v13 =>
    opnV Φ (.ldi 0 3 true [true, true, true]) [[v13]] 3 <| fun v14 v15 v16 => 
    op1V Φ (.eqA [0, 0, 0] true) [[v10, v11, v12], [v14, v15, v16]] fun v17 =>
    iteV v17 (some (.ret [[(.bool false)]])) <|
    op1V Φ (.bin .add 0) [[v6], [(.int .i64 1)]] fun v18 =>
    some (.norm [1, 1] [v5, v18])) <|
  some (.exit 0 [1, 1] [v5, v6])
noncomputable def F49_0 (Φ : Funs) (n : Nat) (v0 v1 : V) : TR :=
  chkV 2 v0 <|
  op1V Φ (.len) [[v0]] fun v2 =>
  chkV 2 v1 <|
  op1V Φ (.len) [[v1]] fun v3 =>
  op1V Φ (.bin .neq 0) [[v2], [v3]] fun v4 =>
  iteV v4 (some (.ret [[(.bool false)]])) <|
  blkV (some 0) [1, 1] (lpV [1, 1] (F49_0_b0 Φ n v0 v1) n [(.bool false), (.int .i64 0)]) <| app 2 <| fun v5 v6 => 
  some (.ret [[(.bool true)]])
theorem x49_0 (Φ : Funs) (n : Nat) (v0 v1 : V) : (textE Tryd.prog sg [] Tryd.f49 g49_0).map (fun t => t.eval Φ n [v1, v0]) = some (F49_0 Φ n v0 v1) := by kernel_rfl

/-! colloquy/colloquylaw23.isSched -/
def g21_0 : Sig := { ps := [PSh.ptr true [PM.fz, PM.fz, PM.fz, PM.fz, PM.fz, PM.lent, PM.lent, PM.lent], PSh.agg [PM.fz, PM.fz, PM.fz, PM.fz, PM.fz, PM.lent, PM.lent, PM.lent]], rs := [RSh.one (PM.fz)] }
noncomputable def F21_0_b0 (Φ : Funs) (n : Nat) (v7 v15 v29 : V) : List V → TR := app 2 <| fun v39 v40 => 
  chkV 2 v40 <|
  op1V Φ (.idx 63) [[v15], [v29]] fun v41 =>
  op1V Φ (.ldi 0 1 false [false]) [[v41]] fun v42 =>
  op1V Φ (.len) [[v42]] fun v43 =>
  op1V Φ (.bin .lss 0) [[v40], [v43]] fun v44 =>
  iteV v44 (op1V Φ (.idx 63) [[v7], [v29]] fun v45 =>
    op1V Φ (.ldi 0 1 false [false]) [[v45]] fun v46 =>
    op1V Φ (.idx 3) [[v46], [v40]] fun v47 =>
    op1V Φ (.ldi 0 1 false [true]) [[v47]] fun v48 =>
    op1V Φ (.idx 63) [[v15], [v29]] fun v49 =>
    op1V Φ (.ldi 0 1 false [false]) [[v49]] fun v50 =>
    op1V Φ (.idx 3) [[v50], [v40]] fun v51 =>
    op1V Φ (.ldi 0 1 false [true]) [[v51]] fun v52 =>
    op1V Φ (.bin .neq 0) [[v48], [v52]] fun v53 =>
    iteV v53 (some (.ret [[(.bool false)]])) <|
    op1V Φ (.bin .add 0) [[v40], [(.int .i64 1)]] fun v54 =>
    some (.norm [1, 1] [v39, v54])) <|
  some (.exit 2 [1, 1] [v39, v40])
noncomputable def F21_0_b1 (Φ : Funs) (n : Nat) (v7 v15 : V) : List V → TR := app 2 <| fun v28 v29 => 
  chkV 2 v29 <|
  op1V Φ (.len) [[v15]] fun v30 =>
  op1V Φ (.bin .lss 0) [[v29], [v30]] fun v31 =>
  iteV v31 (chkV 2 v7 <|
    op1V Φ (.idx 63) [[v7], [v29]] fun v32 =>
    op1V Φ (.ldi 0 1 false [false]) [[v32]] fun v33 =>
    op1V Φ (.len) [[v33]] fun v34 =>
    op1V Φ (.idx 63) [[v15], [v29]] fun v35 =>
    op1V Φ (.ldi 0 1 false [false]) [[v35]] fun v36 =>
    op1V Φ (.len) [[v36]] fun v37 =>
    op1V Φ (.bin .neq 0) [[v34], [v37]] fun v38 =>
    iteV v38 (some (.ret [[(.bool false)]])) <|
    blkV (some 2) [1, 1] (lpV [1, 1] (F21_0_b0 Φ n v7 v15 v29) n [v28, (.int .i64 0)]) <| app 2 <| fun v39 v40 => 
    op1V Φ (.bin .add 0) [[v29], [(.int .i64 1)]] fun v41 =>
    some (.norm [1, 1] [v39, v41])) <|
  some (.exit 0 [1, 1] [v28, v29])
noncomputable def F21_0 (Φ : Funs) (n : Nat) (v0 v1 v2 v3 v4 v5 v6 v7 v8 v9 v10 v11 v12 v13 v14 v15 : V) : TR :=
  chkV 2 v8 <|
  chkV 2 v9 <|
  chkV 2 v10 <|
  chkV 2 v11 <|
  chkV 2 v12 <|
  chkV 2 v13 <|
  chkV 2 v14 <|
  chkV 2 v15 <|
  blkV (none) [1] (gdV (.bool false) false false (chkV 2 v0 <|
      op1V Φ (.bin .neq 2) [[v0], [v8]] fun v16 =>
      some (.norm [1] [v16])) (some (.norm [1] [(.undef)]))) <| app 1 <| fun v16 => 
  op1V Φ (.pick) [[(.bool false)], [(.bool true)], [v16]] fun v17 =>
  chkV 2 v17 <|
  blkV (none) [1] (gdV v17 false false (chkV 2 v1 <|
      chkV 2 v2 <|
      chkV 2 v3 <|
      op1V Φ (.eqA [0, 0, 0] true) [[v1, v2, v3], [v9, v10, v11]] fun v18 =>
      some (.norm [1] [v18])) (some (.norm [1] [(.undef)]))) <| app 1 <| fun v18 => 
  op1V Φ (.pick) [[v17], [(.bool true)], [v18]] fun v19 =>
  chkV 2 v19 <|
  blkV (none) [1] (gdV v19 false false (chkV 2 v4 <|
      op1V Φ (.bin .neq 0) [[v4], [v12]] fun v20 =>
      some (.norm [1] [v20])) (some (.norm [1] [(.undef)]))) <| app 1 <| fun v20 => 
  op1V Φ (.pick) [[v19], [(.bool true)], [v20]] fun v21 =>
  chkV 2 v21 <|
  blkV (none) [1] (gdV v21 false false (chkV 2 v5 <|
      callV Φ 49 0 [[v5], [v13]] 1 [(0, 0)] <| fun v22 => 
      op1V Φ (.un .not) [[v22]] fun v23 =>
      some (.norm [1] [v23])) (some (.norm [1] [(.undef)]))) <| app 1 <| fun v22 => 
  op1V Φ (.pick) [[v21], [(.bool true)], [v22]] fun v23 =>
  chkV 2 v23 <|
  blkV (none) [1] (gdV v23 false false (chkV 2 v6 <|
      callV Φ 49 0 [[v6], [v14]] 1 [(0, 0)] <| fun v24 => 
      op1V Φ (.un .not) [[v24]] fun v25 =>
      some (.norm [1] [v25])) (some (.norm [1] [(.undef)]))) <| app 1 <| fun v24 => 
  op1V Φ (.pick) [[v23], [(.bool true)], [v24]] fun v25 =>
  chkV 2 v25 <|
  blkV (none) [1] (gdV v25 false false (chkV 2 v7 <|
      op1V Φ (.len) [[v7]] fun v26 =>
      op1V Φ (.len) [[v15]] fun v27 =>
      op1V Φ (.bin .neq 0) [[v26], [v27]] fun v28 =>
      some (.norm [1] [v28])) (some (.norm [1] [(.undef)]))) <| app 1 <| fun v26 => 
  op1V Φ (.pick) [[v25], [(.bool true)], [v26]] fun v27 =>
  iteV v27 (some (.ret [[(.bool false)]])) <|
  blkV (some 0) [1, 1] (lpV [1, 1] (F21_0_b1 Φ n v7 v15) n [(.bool false), (.int .i64 0)]) <| app 2 <| fun v28 v29 => 
  some (.ret [[(.bool true)]])
theorem x21_0 (Φ : Funs) (n : Nat) (v0 v1 v2 v3 v4 v5 v6 v7 v8 v9 v10 v11 v12 v13 v14 v15 : V) : (textE Tryd.prog sg [] Tryd.f21 g21_0).map (fun t => t.eval Φ n [v15, v14, v13, v12, v11, v10, v9, v8, v7, v6, v5, v4, v3, v2, v1, v0]) = some (F21_0 Φ n v0 v1 v2 v3 v4 v5 v6 v7 v8 v9 v10 v11 v12 v13 v14 v15) := by kernel_rfl

/-! colloquy/colloquyref23.is -/
def g50_0 : Sig := { ps := [PSh.agg [PM.fz, PM.fz, PM.fz, PM.fz, PM.fz, PM.lent, PM.lent, PM.lent], PSh.one (PM.fz)], rs := [RSh.one (PM.fz)] }
noncomputable def F50_0_b0 (Φ : Funs) (n : Nat) (v5 v8 : V) : List V → TR := app 2 <| fun v11 v12 => 
  chkV 2 v12 <|
  op1V Φ (.len) [[v5]] fun v13 =>
  op1V Φ (.bin .lss 0) [[v12], [v13]] fun v14 =>
  iteV v14 (chkV 2 v11 <|
    blkV (none) [1] (gdV v11 false false (op1V Φ (.idx 23) [[v5], [v12]] fun v15 =>
        chkV 2 v15 <|
        chkV 2 v15 <|
        op1V Φ (.ldi 0 1 false [true]) [[v15]] fun v16 =>
        chkV 2 v16 <|
        chkV 2 v8 <|
        op1V Φ (.bin .eql 0) [[v16], [v8]] fun v17 =>
        some (.norm [1] [v17])) (some (.norm [1] [(.undef)]))) <| app 1 <| fun v15 => 
    op1V Φ (.pick) [[v11], [(.bool true)], [v15]] fun v16 =>
    chkV 2 v16 <|
    op1V Φ (.bin .add 0) [[v12], [(.int .i64 1)]] fun v17 =>
    some (.norm [1, 1] [v16, v17])) <|
  some (.exit 0 [1, 1] [v11, v12])
noncomputable def F50_0_b1 (Φ : Funs) (n : Nat) (v6 v8 : V) : List V → TR := app 2 <| fun v13 v14 => 
  chkV 2 v14 <|
  op1V Φ (.len) [[v6]] fun v15 =>
  op1V Φ (.bin .lss 0) [[v14], [v15]] fun v16 =>
  iteV v16 (chkV 2 v13 <|
    blkV (none) [1] (gdV v13 false false (op1V Φ (.idx 23) [[v6], [v14]] fun v17 =>
        chkV 2 v17 <|
        chkV 2 v17 <|
        op1V Φ (.ldi 0 1 false [true]) [[v17]] fun v18 =>
        chkV 2 v18 <|
        chkV 2 v8 <|
        op1V Φ (.bin .eql 0) [[v18], [v8]] fun v19 =>
        some (.norm [1] [v19])) (some (.norm [1] [(.undef)]))) <| app 1 <| fun v17 => 
    op1V Φ (.pick) [[v13], [(.bool true)], [v17]] fun v18 =>
    chkV 2 v18 <|
    op1V Φ (.bin .add 0) [[v14], [(.int .i64 1)]] fun v19 =>
    some (.norm [1, 1] [v18, v19])) <|
  some (.exit 2 [1, 1] [v13, v14])
noncomputable def F50_0 (Φ : Funs) (n : Nat) (v0 v1 v2 v3 v4 v5 v6 v7 v8 : V) : TR :=
  chkV 2 v0 <|
  chkV 2 v1 <|
  chkV 2 v2 <|
  chkV 2 v3 <|
  chkV 2 v4 <|
  chkV 2 v5 <|
  chkV 2 v6 <|
  chkV 2 v7 <|
  blkV (none) [1] (gdV v0 true false (chkV 2 v8 <|
      op1V Φ (.bin .eql 0) [[v1], [v8]] fun v9 =>
      some (.norm [1] [v9])) (some (.norm [1] [(.undef)]))) <| app 1 <| fun v9 => 
  op1V Φ (.pick) [[v0], [v9], [(.bool false)]] fun v10 =>
  chkV 2 v10 <|
  blkV (some 0) [1, 1] (lpV [1, 1] (F50_0_b0 Φ n v5 v8) n [v10, (.int .i64 0)]) <| app 2 <| fun v11 v12 => 
  blkV (some 2) [1, 1] (lpV [1, 1] (F50_0_b1 Φ n v6 v8) n [v11, (.int .i64 0)]) <| app 2 <| fun v13 v14 => 
  chkV 2 v13 <|
  some (.ret [[v13]])
theorem x50_0 (Φ : Funs) (n : Nat) (v0 v1 v2 v3 v4 v5 v6 v7 v8 : V) : (textE Tryd.prog sg [] Tryd.f50 g50_0).map (fun t => t.eval Φ n [v8, v7, v6, v5, v4, v3, v2, v1, v0]) = some (F50_0 Φ n v0 v1 v2 v3 v4 v5 v6 v7 v8) := by kernel_rfl

/-! colloquy/colloquyref23.count -/
def g51_0 : Sig := { ps := [PSh.agg [PM.fz, PM.fz, PM.fz, PM.fz, PM.fz, PM.lent, PM.lent, PM.lent]], rs := [RSh.one (PM.fz)] }
noncomputable def F51_0 (Φ : Funs) (n : Nat) (v0 v1 v2 v3 v4 v5 v6 v7 : V) : TR :=
  chkV 2 v0 <|
  chkV 2 v1 <|
  chkV 2 v2 <|
  chkV 2 v3 <|
  chkV 2 v4 <|
  chkV 2 v5 <|
  chkV 2 v6 <|
  chkV 2 v7 <|
  op1V Φ (.len) [[v5]] fun v8 =>
  op1V Φ (.len) [[v6]] fun v9 =>
  op1V Φ (.bin .add 0) [[v8], [v9]] fun v10 =>
  blkV (none) [1] (iteV v0 (op1V Φ (.bin .add 0) [[v10], [(.int .i64 1)]] fun v11 =>
      some (.norm [1] [v11])) <|
    some (.norm [1] [v10])) <| app 1 <| fun v11 => 
  chkV 2 v11 <|
  some (.ret [[v11]])
theorem x51_0 (Φ : Funs) (n : Nat) (v0 v1 v2 v3 v4 v5 v6 v7 : V) : (textE Tryd.prog sg [] Tryd.f51 g51_0).map (fun t => t.eval Φ n [v7, v6, v5, v4, v3, v2, v1, v0]) = some (F51_0 Φ n v0 v1 v2 v3 v4 v5 v6 v7) := by kernel_rfl

/-! colloquy/colloquyref23.with -/
def g52_0 : Sig := { ps := [PSh.one (PM.lent), PSh.agg [PM.fz, PM.fz, PM.fz]], rs := [RSh.one (PM.own)] }
noncomputable def F52_0 (Φ : Funs) (n : Nat) (v0 v1 v2 v3 : V) : TR :=
  chkV 2 v1 <|
  chkV 2 v2 <|
  chkV 2 v3 <|
  op1V Φ (.mk 23 []) [] fun v4 =>
  chkV 2 v0 <|
  op1V Φ (.app 23 24 true) [[v4], [v0]] fun v5 =>
  op1V Φ (.mk 23 [(true, [(0, 0), (1, 1), (2, 2)])]) [[v1, v2, v3], [v1, v2, v3], [v1, v2, v3]] fun v6 =>
  op1V Φ (.app 23 24 false) [[v5], [v6]] fun v7 =>
  some (.ret [[v7]])
theorem x52_0 (Φ : Funs) (n : Nat) (v0 v1 v2 v3 : V) : (textE Tryd.prog sg [] Tryd.f52 g52_0).map (fun t => t.eval Φ n [v3, v2, v1, v0]) = some (F52_0 Φ n v0 v1 v2 v3) := by kernel_rfl

/-! colloquy/colloquyref23.Add -/
def g22_1 : Sig := { ps := [PSh.agg [PM.fz, PM.fz, PM.fz, PM.fz, PM.fz, PM.fz, PM.fz, PM.fz], PSh.one (PM.fz), PSh.one (PM.fz)], rs := [RSh.agg [PM.fz, PM.fz, PM.fz, PM.fz, PM.fz, PM.fz, PM.fz, PM.fz], RSh.one (PM.fz)] }
noncomputable def F22_1 (Φ : Funs) (n : Nat) (v0 v1 v2 v3 v4 v5 v6 v7 v8 v9 : V) : TR :=
  chkV 2 v0 <|
  chkV 2 v1 <|
  chkV 2 v2 <|
  chkV 2 v3 <|
  chkV 2 v4 <|
  chkV 2 v5 <|
  chkV 2 v6 <|
  chkV 2 v7 <|
  chkV 2 v8 <|
  chkV 2 v9 <|
  callV Φ 47 0 [[v8, v9, (.int .i64 0)]] 1 [(0, 0)] <| fun v10 => 
  op1V Φ (.un .not) [[v10]] fun v11 =>
  blkV (none) [1] (gdV v11 false false (callV Φ 50 0 [[v0, v1, v2, v3, v4, v5, v6, v7], [v8]] 1 [(0, 0)] <| fun v12 => 
      some (.norm [1] [v12])) (some (.norm [1] [(.undef)]))) <| app 1 <| fun v12 => 
  op1V Φ (.pick) [[v11], [(.bool true)], [v12]] fun v13 =>
  iteV v13 (some (.ret [[v0, v1, v2, v3, v4, v5, v6, v7], [(.int .i64 1)]])) <|
  callV Φ 51 0 [[v0, v1, v2, v3, v4, v5, v6, v7]] 1 [(0, 0)] <| fun v14 => 
  op1V Φ (.bin .geq 0) [[v14], [(.int .i64 8)]] fun v15 =>
  iteV v15 (some (.ret [[v0, v1, v2, v3, v4, v5, v6, v7], [(.int .i64 12)]])) <|
  callV Φ 52 0 [[v5], [v8, v9, (.int .i64 0)]] 1 [(0, 0)] <| fun v16 => 
  some (.ret [[v0, v1, v2, v3, v4, v16, v6, v7], [(.int .i64 0)]])
theorem x22_1 (Φ : Funs) (n : Nat) (v0 v1 v2 v3 v4 v5 v6 v7 v8 v9 : V) : (textE Tryd.prog sg [] Tryd.f22 g22_1).map (fun t => t.eval Φ n [v9, v8, v7, v6, v5, v4, v3, v2, v1, v0]) = some (F22_1 Φ n v0 v1 v2 v3 v4 v5 v6 v7 v8 v9) := by kernel_rfl

/-! colloquy/colloquyref23.Turn -/
def g23_0 : Sig := { ps := [PSh.agg [PM.fz, PM.fz, PM.fz, PM.fz, PM.fz, PM.fz, PM.fz, PM.fz], PSh.one (PM.fz)], rs := [RSh.agg [PM.fz, PM.fz, PM.fz, PM.fz, PM.fz, PM.fz, PM.fz, PM.fz], RSh.agg [PM.fz, PM.fz, PM.fz], RSh.one (PM.fz)] }
noncomputable def F23_0_b0 (Φ : Funs) (n : Nat) (v20 v26 : V) : List V → TR := app 3 <| fun v37 v38 v39 => 
  chkV 2 v39 <|
  op1V Φ (.len) [[v20]] fun v40 =>
  op1V Φ (.bin .lss 0) [[v39], [v40]] fun v41 =>
  iteV v41 (op1V Φ (.bin .eql 0) [[v39], [v26]] fun v42 =>
    blkV (none) [1, 1] (iteV v42 (chkV 2 v38 <|
        op1V Φ (.idx 63) [[v20], [v39]] fun v43 =>
        op1V Φ (.ldi 0 1 false []) [[v43]] fun v44 =>
        op1V Φ (.slc 3 true false) [[v44], [(.int .i64 1)]] fun v45 =>
        op1V Φ (.mk 63 [(false, [(0, 0)])]) [[v45]] fun v46 =>
        chkV 0 v38 <|
        op1V Φ (.app 63 24 false) [[v37], [v46]] fun v47 =>
        some (.norm [1, 1] [(.unit), v47])) <|
      chkV 2 v38 <|
      op1V Φ (.idx 63) [[v20], [v39]] fun v43 =>
      op1V Φ (.ldi 0 1 false []) [[v43]] fun v44 =>
      op1V Φ (.mk 63 [(false, [(0, 0)])]) [[v44]] fun v45 =>
      chkV 0 v38 <|
      op1V Φ (.app 63 24 false) [[v37], [v45]] fun v46 =>
      some (.norm [1, 1] [(.unit), v46])) <| app 2 <| fun v43 v44 => 
    op1V Φ (.bin .add 0) [[v39], [(.int .i64 1)]] fun v45 =>
    some (.norm [1, 1, 1] [v44, v43, v45])) <|
  some (.exit 0 [1, 1, 1] [v38, v37, v39])
noncomputable def F23_0 (Φ : Funs) (n : Nat) (v0 v1 v2 v3 v4 v5 v6 v7 v8 : V) : TR :=
  chkV 2 v0 <|
  chkV 2 v1 <|
  chkV 2 v2 <|
  chkV 2 v3 <|
  chkV 2 v4 <|
  chkV 2 v5 <|
  chkV 2 v6 <|
  chkV 2 v7 <|
  blkV (none) [1] (gdV v0 true false (chkV 2 v8 <|
      some (.norm [1] [v8])) (some (.norm [1] [(.undef)]))) <| app 1 <| fun v9 => 
  op1V Φ (.pick) [[v0], [v9], [(.bool false)]] fun v10 =>
  chkV 2 v10 <|
  blkV (none) [1] (gdV v10 true false (op1V Φ (.bin .eql 0) [[v4], [(.int .i64 0)]] fun v11 =>
      some (.norm [1] [v11])) (some (.norm [1] [(.undef)]))) <| app 1 <| fun v11 => 
  op1V Φ (.pick) [[v10], [v11], [(.bool false)]] fun v12 =>
  blkV (none) [8] (iteV v12 (callV Φ 52 0 [[v5], [v1, v2, v3]] 1 [(0, 0)] <| fun v13 => 
      some (.norm [8] [(.bool false), v1, v2, v3, v4, v13, v6, v7])) <|
    some (.norm [8] [v0, v1, v2, v3, v4, v5, v6, v7])) <| app 8 <| fun v13 v14 v15 v16 v17 v18 v19 v20 => 
  chkV 2 v13 <|
  op1V Φ (.un .not) [[v13]] fun v21 =>
  blkV (none) [1, 1, 8, 8, 3] (iteV v21 (chkV 2 v17 <|
      chkV 2 v18 <|
      chkV 2 v19 <|
      chkV 2 v20 <|
      op1V Φ (.len) [[v18]] fun v22 =>
      op1V Φ (.bin .eql 0) [[v22], [(.int .i64 0)]] fun v23 =>
      iteV v23 (some (.ret [[v13, (.int .i64 0), (.int .i64 0), (.int .i64 0), (.int .i64 0), v18, v19, v20], [(.int .i64 0), (.int .i64 0), (.int .i64 0)], [(.bool false)]])) <|
      op1V Φ (.idx 23) [[v18], [(.int .i64 0)]] fun v24 =>
      opnV Φ (.ldi 0 3 true []) [[v24]] 3 <| fun v25 v26 v27 => 
      op1V Φ (.slc 23 true false) [[v18], [(.int .i64 1)]] fun v28 =>
      chkV 2 v25 <|
      chkV 2 v26 <|
      chkV 2 v27 <|
      op1V Φ (.len) [[v20]] fun v29 =>
      op1V Φ (.bin .lss 0) [[v26], [v29]] fun v30 =>
      blkV (none) [1] (gdV v30 true false (op1V Φ (.idx 63) [[v20], [v26]] fun v31 =>
          chkV 2 v31 <|
          op1V Φ (.ldi 0 1 false []) [[v31]] fun v32 =>
          chkV 2 v32 <|
          op1V Φ (.len) [[v32]] fun v33 =>
          op1V Φ (.bin .gtr 0) [[v33], [(.int .i64 0)]] fun v34 =>
          some (.norm [1] [v34])) (some (.norm [1] [(.undef)]))) <| app 1 <| fun v31 => 
      op1V Φ (.pick) [[v30], [v31], [(.bool false)]] fun v32 =>
      blkV (none) [8] (iteV v32 (op1V Φ (.idx 63) [[v20], [v26]] fun v33 =>
          op1V Φ (.ldi 0 1 false []) [[v33]] fun v34 =>
          op1V Φ (.idx 3) [[v34], [(.int .i64 0)]] fun v35 =>
          op1V Φ (.ldi 0 1 false []) [[v35]] fun v36 =>
          chkV 2 v36 <|
          blkV (some 0) [1, 1, 1] (lpV [1, 1, 1] (F23_0_b0 Φ n v20 v26) n [(.list 63 []), (.unit), (.int .i64 0)]) <| app 3 <| fun v37 v38 v39 => 
          chkV 2 v37 <|
          chkV 0 v37 <|
          chkV 2 v38 <|
          some (.norm [8] [(.bool true), v25, v26, v27, v36, v28, v19, v38])) <|
        some (.norm [8] [(.bool true), v25, v26, v27, (.int .i64 (-1)), v28, v19, v20])) <| app 8 <| fun v33 v34 v35 v36 v37 v38 v39 v40 => 
      some (.norm [1, 1, 8, 8, 3] [(.bool true), (.bool false), v33, v34, v35, v36, v37, v38, v39, v40, (.bool false), (.int .i64 0), (.int .i64 0), (.int .i64 0), (.int .i64 0), (.unit), (.unit), (.unit), (.int .i64 0), (.int .i64 0), (.int .i64 0)])) <|
    some (.norm [1, 1, 8, 8, 3] [v8, (.bool false), v13, v14, v15, v16, v17, v18, v19, v20, (.bool false), (.int .i64 0), (.int .i64 0), (.int .i64 0), (.int .i64 0), (.unit), (.unit), (.unit), (.int .i64 0), (.int .i64 0), (.int .i64 0)])) <| app 21 <| fun v22 v23 v24 v25 v26 v27 v28 v29 v30 v31 v32 v33 v34 v35 v36 v37 v38 v39 v40 v41 v42 => 
  chkV 2 v22 <|
  blkV (none) [1] (gdV v22 true false (chkV 2 v28 <|
      op1V Φ (.bin .gtr 0) [[v28], [(.int .i64 0)]] fun v43 =>
      some (.norm [1] [v43])) (some (.norm [1] [(.undef)]))) <| app 1 <| fun v43 => 
  op1V Φ (.pick) [[v22], [v43], [(.bool false)]] fun v44 =>
  blkV (none) [8] (iteV v44 (chkV 2 v28 <|
      op1V Φ (.bin .sub 0) [[v28], [(.int .i64 1)]] fun v45 =>
      chkV 2 v24 <|
      chkV 2 v25 <|
      chkV 2 v26 <|
      chkV 2 v27 <|
      chkV 2 v29 <|
      chkV 2 v30 <|
      chkV 2 v31 <|
      some (.norm [8] [v24, v25, v26, v27, v45, v29, v30, v31])) <|
    some (.norm [8] [v24, v25, v26, v27, v28, v29, v30, v31])) <| app 8 <| fun v45 v46 v47 v48 v49 v50 v51 v52 => 
  chkV 2 v45 <|
  chkV 2 v46 <|
  chkV 2 v47 <|
  chkV 2 v48 <|
  chkV 2 v49 <|
  chkV 2 v50 <|
  chkV 2 v51 <|
  chkV 2 v52 <|
  some (.ret [[v45, v46, v47, v48, v49, v50, v51, v52], [v46, v47, v48], [(.bool true)]])
theorem x23_0 (Φ : Funs) (n : Nat) (v0 v1 v2 v3 v4 v5 v6 v7 v8 : V) : (textE Tryd.prog sg [] Tryd.f23 g23_0).map (fun t => t.eval Φ n [v8, v7, v6, v5, v4, v3, v2, v1, v0]) = some (F23_0 Φ n v0 v1 v2 v3 v4 v5 v6 v7 v8) := by kernel_rfl

/-! colloquy/colloquyref23.Wait -/
def g24_1 : Sig := { ps := [PSh.agg [PM.fz, PM.fz, PM.fz, PM.fz, PM.fz, PM.fz, PM.fz, PM.fz], PSh.one (PM.fz)], rs := [RSh.agg [PM.fz, PM.fz, PM.fz, PM.fz, PM.fz, PM.fz, PM.fz, PM.fz], RSh.one (PM.fz)] }
noncomputable def F24_1 (Φ : Funs) (n : Nat) (v0 v1 v2 v3 v4 v5 v6 v7 v8 : V) : TR :=
  chkV 2 v0 <|
  chkV 2 v1 <|
  chkV 2 v2 <|
  chkV 2 v3 <|
  chkV 2 v4 <|
  chkV 2 v5 <|
  chkV 2 v6 <|
  chkV 2 v7 <|
  chkV 2 v8 <|
  op1V Φ (.bin .lss 0) [[v8], [(.int .i64 0)]] fun v9 =>
  blkV (none) [1] (gdV v9 false false (op1V Φ (.bin .gtr 0) [[v8], [(.int .i64 65535)]] fun v10 =>
      some (.norm [1] [v10])) (some (.norm [1] [(.undef)]))) <| app 1 <| fun v10 => 
  op1V Φ (.pick) [[v9], [(.bool true)], [v10]] fun v11 =>
  iteV v11 (some (.ret [[v0, v1, v2, v3, v4, v5, v6, v7], [(.int .i64 1)]])) <|
  op1V Φ (.un .not) [[v0]] fun v12 =>
  iteV v12 (some (.ret [[v0, v1, v2, v3, v4, v5, v6, v7], [(.int .i64 6)]])) <|
  callV Φ 52 0 [[v6], [v1, v2, v8]] 1 [(0, 0)] <| fun v13 => 
  some (.ret [[(.bool false), (.int .i64 0), (.int .i64 0), (.int .i64 0), (.int .i64 0), v5, v13, v7], [(.int .i64 0)]])
theorem x24_1 (Φ : Funs) (n : Nat) (v0 v1 v2 v3 v4 v5 v6 v7 v8 : V) : (textE Tryd.prog sg [] Tryd.f24 g24_1).map (fun t => t.eval Φ n [v8, v7, v6, v5, v4, v3, v2, v1, v0]) = some (F24_1 Φ n v0 v1 v2 v3 v4 v5 v6 v7 v8) := by kernel_rfl

/-! colloquy/colloquyref23.Signal -/
def g25_1 : Sig := { ps := [PSh.agg [PM.fz, PM.fz, PM.fz, PM.fz, PM.fz, PM.fz, PM.fz, PM.fz], PSh.one (PM.fz)], rs := [RSh.agg [PM.fz, PM.fz, PM.fz, PM.fz, PM.fz, PM.fz, PM.fz, PM.fz], RSh.agg [PM.fz, PM.fz, PM.fz], RSh.one (PM.fz)] }
noncomputable def F25_1_b0 (Φ : Funs) (n : Nat) (v8 : V) : List V → TR := app 22 <| fun v9 v10 v11 v12 v13 v14 v15 v16 v17 v18 v19 v20 v21 v22 v23 v24 v25 v26 v27 v28 v29 v30 => 
  chkV 2 v30 <|
  chkV 2 v15 <|
  op1V Φ (.len) [[v15]] fun v31 =>
  op1V Φ (.bin .lss 0) [[v30], [v31]] fun v32 =>
  iteV v32 (op1V Φ (.idx 23) [[v15], [v30]] fun v33 =>
    opnV Φ (.ldi 0 3 true []) [[v33]] 3 <| fun v34 v35 v36 => 
    chkV 2 v34 <|
    chkV 2 v35 <|
    chkV 2 v36 <|
    chkV 2 v8 <|
    op1V Φ (.bin .eql 0) [[v36], [v8]] fun v37 =>
    iteV v37 (op1V Φ (.mk 23 []) [] fun v38 =>
      op1V Φ (.slc 23 false true) [[v15], [v30]] fun v39 =>
      op1V Φ (.app 23 24 false) [[v38], [v39]] fun v40 =>
      op1V Φ (.bin .add 0) [[v30], [(.int .i64 1)]] fun v41 =>
      op1V Φ (.slc 23 true false) [[v15], [v41]] fun v42 =>
      op1V Φ (.app 23 24 false) [[v40], [v42]] fun v43 =>
      chkV 2 v9 <|
      chkV 2 v10 <|
      chkV 2 v11 <|
      chkV 2 v12 <|
      chkV 2 v13 <|
      chkV 2 v14 <|
      chkV 2 v16 <|
      callV Φ 52 0 [[v14], [v34, v35, (.int .i64 0)]] 1 [(0, 0)] <| fun v44 => 
      some (.ret [[v9, v10, v11, v12, v13, v44, v43, v16], [v34, v35, (.int .i64 0)], [(.bool true)]])) <|
    op1V Φ (.bin .add 0) [[v30], [(.int .i64 1)]] fun v38 =>
    some (.norm [8, 8, 3, 1, 1, 1] [v9, v10, v11, v12, v13, v14, v15, v16, v17, v18, v19, v20, v21, v22, v23, v24, v25, v26, v27, v28, v29, v38])) <|
  some (.exit 0 [1, 1, 8, 8, 1, 3] [v28, v30, v9, v10, v11, v12, v13, v14, v15, v16, v17, v18, v19, v20, v21, v22, v23, v24, v29, v25, v26, v27])
noncomputable def F25_1 (Φ : Funs) (n : Nat) (v0 v1 v2 v3 v4 v5 v6 v7 v8 : V) : TR :=
  chkV 2 v0 <|
  chkV 2 v1 <|
  chkV 2 v2 <|
  chkV 2 v3 <|
  chkV 2 v4 <|
  chkV 2 v5 <|
  chkV 2 v6 <|
  chkV 2 v7 <|
  blkV (some 0) [1, 1, 8, 8, 1, 3] (lpV [8, 8, 3, 1, 1, 1] (F25_1_b0 Φ n v8) n [v0, v1, v2, v3, v4, v5, v6, v7, (.bool false), (.int .i64 0), (.int .i64 0), (.int .i64 0), (.int .i64 0), (.unit), (.unit), (.unit), (.int .i64 0), (.int .i64 0), (.int .i64 0), (.bool false), (.list 23 []), (.int .i64 0)]) <| app 22 <| fun v9 v10 v11 v12 v13 v14 v15 v16 v17 v18 v19 v20 v21 v22 v23 v24 v25 v26 v27 v28 v29 v30 => 
  chkV 2 v11 <|
  chkV 2 v12 <|
  chkV 2 v13 <|
  chkV 2 v14 <|
  chkV 2 v15 <|
  chkV 2 v16 <|
  chkV 2 v17 <|
  chkV 2 v18 <|
  some (.ret [[v11, v12, v13, v14, v15, v16, v17, v18], [(.int .i64 0), (.int .i64 0), (.int .i64 0)], [(.bool false)]])
theorem x25_1 (Φ : Funs) (n : Nat) (v0 v1 v2 v3 v4 v5 v6 v7 v8 : V) : (textE Tryd.prog sg [] Tryd.f25 g25_1).map (fun t => t.eval Φ n [v8, v7, v6, v5, v4, v3, v2, v1, v0]) = some (F25_1 Φ n v0 v1 v2 v3 v4 v5 v6 v7 v8) := by kernel_rfl

/-! colloquy/colloquyref23.End -/
def g26_1 : Sig := { ps := [PSh.agg [PM.fz, PM.fz, PM.fz, PM.fz, PM.fz, PM.fz, PM.fz, PM.fz]], rs := [RSh.agg [PM.fz, PM.fz, PM.fz, PM.fz, PM.fz, PM.fz, PM.fz, PM.fz], RSh.one (PM.fz)] }
noncomputable def F26_1 (Φ : Funs) (n : Nat) (v0 v1 v2 v3 v4 v5 v6 v7 : V) : TR :=
  chkV 2 v0 <|
  chkV 2 v1 <|
  chkV 2 v2 <|
  chkV 2 v3 <|
  chkV 2 v4 <|
  chkV 2 v5 <|
  chkV 2 v6 <|
  chkV 2 v7 <|
  op1V Φ (.un .not) [[v0]] fun v8 =>
  iteV v8 (some (.ret [[v0, v1, v2, v3, v4, v5, v6, v7], [(.int .i64 6)]])) <|
  some (.ret [[(.bool false), (.int .i64 0), (.int .i64 0), (.int .i64 0), (.int .i64 0), v5, v6, v7], [(.int .i64 0)]])
theorem x26_1 (Φ : Funs) (n : Nat) (v0 v1 v2 v3 v4 v5 v6 v7 : V) : (textE Tryd.prog sg [] Tryd.f26 g26_1).map (fun t => t.eval Φ n [v7, v6, v5, v4, v3, v2, v1, v0]) = some (F26_1 Φ n v0 v1 v2 v3 v4 v5 v6 v7) := by kernel_rfl

/-! colloquy/colloquyref23.Dead -/
def g27_0 : Sig := { ps := [PSh.agg [PM.fz, PM.fz, PM.fz, PM.fz, PM.fz, PM.lent, PM.lent, PM.lent]], rs := [RSh.one (PM.fz)] }
noncomputable def F27_0 (Φ : Funs) (n : Nat) (v0 v1 v2 v3 v4 v5 v6 v7 : V) : TR :=
  chkV 2 v0 <|
  chkV 2 v1 <|
  chkV 2 v2 <|
  chkV 2 v3 <|
  chkV 2 v4 <|
  chkV 2 v5 <|
  chkV 2 v6 <|
  chkV 2 v7 <|
  op1V Φ (.un .not) [[v0]] fun v8 =>
  blkV (none) [1] (gdV v8 true false (op1V Φ (.len) [[v5]] fun v9 =>
      op1V Φ (.bin .eql 0) [[v9], [(.int .i64 0)]] fun v10 =>
      some (.norm [1] [v10])) (some (.norm [1] [(.undef)]))) <| app 1 <| fun v9 => 
  op1V Φ (.pick) [[v8], [v9], [(.bool false)]] fun v10 =>
  chkV 2 v10 <|
  blkV (none) [1] (gdV v10 true false (op1V Φ (.len) [[v6]] fun v11 =>
      op1V Φ (.bin .gtr 0) [[v11], [(.int .i64 0)]] fun v12 =>
      some (.norm [1] [v12])) (some (.norm [1] [(.undef)]))) <| app 1 <| fun v11 => 
  op1V Φ (.pick) [[v10], [v11], [(.bool false)]] fun v12 =>
  chkV 2 v12 <|
  some (.ret [[v12]])
theorem x27_0 (Φ : Funs) (n : Nat) (v0 v1 v2 v3 v4 v5 v6 v7 : V) : (textE Tryd.prog sg [] Tryd.f27 g27_0).map (fun t => t.eval Φ n [v7, v6, v5, v4, v3, v2, v1, v0]) = some (F27_0 Φ n v0 v1 v2 v3 v4 v5 v6 v7) := by kernel_rfl

/-! colloquy/colloquylaw23.ProcRuns -/
def g3_0 : Sig := { ps := [PSh.agg [PM.fz, PM.fz, PM.fz, PM.fz, PM.fz, PM.fz, PM.fz, PM.fz], PSh.one (PM.fz)], rs := [RSh.one (PM.fz)] }
noncomputable def F3_0_b0 (Φ : Funs) (n : Nat) (v8 v33 : V) : List V → TR := app 22 <| fun v78 v79 v80 v81 v82 v83 v84 v85 v86 v87 v88 v89 v90 v91 v92 v93 v94 v95 v96 v97 v98 v99 => 
  chkV 2 v99 <|
  chkV 2 v8 <|
  op1V Φ (.len) [[v8]] fun v100 =>
  op1V Φ (.bin .lss 0) [[v99], [v100]] fun v101 =>
  blkV (none) [1] (gdV v101 true false (op1V Φ (.bin .lss 0) [[v99], [(.int .i64 80)]] fun v102 =>
      some (.norm [1] [v102])) (some (.norm [1] [(.undef)]))) <| app 1 <| fun v102 => 
  op1V Φ (.pick) [[v101], [v102], [(.bool false)]] fun v103 =>
  iteV v103 (op1V Φ (.idx 52) [[v8], [v99]] fun v104 =>
    opnV Φ (.ldi 0 5 true []) [[v104]] 5 <| fun v105 v106 v107 v108 v109 => 
    chkV 2 v105 <|
    chkV 2 v106 <|
    chkV 2 v107 <|
    chkV 2 v108 <|
    chkV 2 v109 <|
    op1V Φ (.bin .eql 0) [[v105], [(.int .u8 0)]] fun v110 =>
    blkV (none) [1, 1, 1, 1, 8, 8, 1, 1, 1, 3, 3] (iteV v110 (chkV 0 v83 <|
        chkV 0 v84 <|
        chkV 0 v85 <|
        chkV 1 v33 <|
        chkV 2 v78 <|
        chkV 2 v79 <|
        chkV 2 v80 <|
        chkV 2 v81 <|
        chkV 2 v82 <|
        chkV 2 v86 <|
        chkV 2 v87 <|
        chkV 2 v88 <|
        callV Φ 9 0 [[v78, v79, v80, v81, v82, v86, v87, v88], [v106], [v107]] 9 [(0, 0), (1, 0), (1, 1), (1, 2), (1, 3), (1, 4), (1, 5), (1, 6), (1, 7)] <| fun v111 v112 v113 v114 v115 v116 v117 v118 v119 => 
        chkV 2 v89 <|
        chkV 2 v90 <|
        chkV 2 v91 <|
        chkV 2 v92 <|
        chkV 2 v93 <|
        chkV 2 v94 <|
        chkV 2 v95 <|
        chkV 2 v96 <|
        callV Φ 22 1 [[v89, v90, v91, v92, v93, v94, v95, v96], [v106], [v107]] 9 [(0, 0), (0, 1), (0, 2), (0, 3), (0, 4), (0, 5), (0, 6), (0, 7), (1, 0)] <| fun v120 v121 v122 v123 v124 v125 v126 v127 v128 => 
        some (.norm [1, 1, 1, 1, 8, 8, 1, 1, 1, 3, 3] [v128, (.bool false), (.bool false), v111, v120, v121, v122, v123, v124, v125, v126, v127, v112, v113, v114, v115, v116, (.unit), (.unit), (.unit), v117, v118, v119, (.int .i64 0), (.int .i64 0), (.int .i64 0), (.int .i64 0), (.int .i64 0), (.int .i64 0)])) <|
      op1V Φ (.bin .eql 0) [[v105], [(.int .u8 1)]] fun v111 =>
      blkV (none) [1, 1, 1, 1, 8, 8, 1, 1, 1, 3, 3] (iteV v111 (chkV 0 v83 <|
          chkV 0 v84 <|
          chkV 0 v85 <|
          chkV 1 v33 <|
          chkV 2 v78 <|
          chkV 2 v79 <|
          chkV 2 v80 <|
          chkV 2 v81 <|
          chkV 2 v82 <|
          chkV 2 v86 <|
          chkV 2 v87 <|
          chkV 2 v88 <|
          callV Φ 6 0 [[v78, v79, v80, v81, v82, v86, v87, v88], [v109]] 12 [(0, 0), (0, 1), (0, 2), (1, 0), (2, 0), (2, 1), (2, 2), (2, 3), (2, 4), (2, 5), (2, 6), (2, 7)] <| fun v112 v113 v114 v115 v116 v117 v118 v119 v120 v121 v122 v123 => 
          chkV 2 v89 <|
          chkV 2 v90 <|
          chkV 2 v91 <|
          chkV 2 v92 <|
          chkV 2 v93 <|
          chkV 2 v94 <|
          chkV 2 v95 <|
          chkV 2 v96 <|
          callV Φ 23 0 [[v89, v90, v91, v92, v93, v94, v95, v96], [v109]] 12 [(0, 0), (0, 1), (0, 2), (0, 3), (0, 4), (0, 5), (0, 6), (0, 7), (1, 0), (1, 1), (1, 2), (2, 0)] <| fun v124 v125 v126 v127 v128 v129 v130 v131 v132 v133 v134 v135 => 
          some (.norm [1, 1, 1, 1, 8, 8, 1, 1, 1, 3, 3] [(.int .i64 0), v115, v135, (.nilI), v124, v125, v126, v127, v128, v129, v130, v131, v116, v117, v118, v119, v120, (.unit), (.unit), (.unit), v121, v122, v123, v112, v113, v114, v132, v133, v134])) <|
        op1V Φ (.bin .eql 0) [[v105], [(.int .u8 2)]] fun v112 =>
        blkV (none) [1, 1, 1, 1, 8, 8, 1, 1, 1, 3, 3] (iteV v112 (chkV 0 v83 <|
            chkV 0 v84 <|
            chkV 0 v85 <|
            chkV 1 v33 <|
            chkV 2 v78 <|
            chkV 2 v79 <|
            chkV 2 v80 <|
            chkV 2 v81 <|
            chkV 2 v82 <|
            chkV 2 v86 <|
            chkV 2 v87 <|
            chkV 2 v88 <|
            callV Φ 10 0 [[v78, v79, v80, v81, v82, v86, v87, v88], [v108]] 9 [(0, 0), (1, 0), (1, 1), (1, 2), (1, 3), (1, 4), (1, 5), (1, 6), (1, 7)] <| fun v113 v114 v115 v116 v117 v118 v119 v120 v121 => 
            chkV 2 v89 <|
            chkV 2 v90 <|
            chkV 2 v91 <|
            chkV 2 v92 <|
            chkV 2 v93 <|
            chkV 2 v94 <|
            chkV 2 v95 <|
            chkV 2 v96 <|
            callV Φ 24 1 [[v89, v90, v91, v92, v93, v94, v95, v96], [v108]] 9 [(0, 0), (0, 1), (0, 2), (0, 3), (0, 4), (0, 5), (0, 6), (0, 7), (1, 0)] <| fun v122 v123 v124 v125 v126 v127 v128 v129 v130 => 
            some (.norm [1, 1, 1, 1, 8, 8, 1, 1, 1, 3, 3] [v130, (.bool false), (.bool false), v113, v122, v123, v124, v125, v126, v127, v128, v129, v114, v115, v116, v117, v118, (.unit), (.unit), (.unit), v119, v120, v121, (.int .i64 0), (.int .i64 0), (.int .i64 0), (.int .i64 0), (.int .i64 0), (.int .i64 0)])) <|
          op1V Φ (.bin .eql 0) [[v105], [(.int .u8 3)]] fun v113 =>
          blkV (none) [1, 1, 1, 1, 8, 8, 1, 1, 1, 3, 3] (iteV v113 (chkV 0 v83 <|
              chkV 0 v84 <|
              chkV 0 v85 <|
              chkV 1 v33 <|
              chkV 2 v78 <|
              chkV 2 v79 <|
              chkV 2 v80 <|
              chkV 2 v81 <|
              chkV 2 v82 <|
              chkV 2 v86 <|
              chkV 2 v87 <|
              chkV 2 v88 <|
              callV Φ 7 0 [[v78, v79, v80, v81, v82, v86, v87, v88], [v108]] 12 [(0, 0), (0, 1), (0, 2), (1, 0), (2, 0), (2, 1), (2, 2), (2, 3), (2, 4), (2, 5), (2, 6), (2, 7)] <| fun v114 v115 v116 v117 v118 v119 v120 v121 v122 v123 v124 v125 => 
              chkV 2 v89 <|
              chkV 2 v90 <|
              chkV 2 v91 <|
              chkV 2 v92 <|
              chkV 2 v93 <|
              chkV 2 v94 <|
              chkV 2 v95 <|
              chkV 2 v96 <|
              callV Φ 25 1 [[v89, v90, v91, v92, v93, v94, v95, v96], [v108]] 12 [(0, 0), (0, 1), (0, 2), (0, 3), (0, 4), (0, 5), (0, 6), (0, 7), (1, 0), (1, 1), (1, 2), (2, 0)] <| fun v126 v127 v128 v129 v130 v131 v132 v133 v134 v135 v136 v137 => 
              some (.norm [1, 1, 1, 1, 8, 8, 1, 1, 1, 3, 3] [(.int .i64 0), v117, v137, (.nilI), v126, v127, v128, v129, v130, v131, v132, v133, v118, v119, v120, v121, v122, (.unit), (.unit), (.unit), v123, v124, v125, v114, v115, v116, v134, v135, v136])) <|
            chkV 0 v83 <|
            chkV 0 v84 <|
            chkV 0 v85 <|
            chkV 1 v33 <|
            chkV 2 v78 <|
            chkV 2 v79 <|
            chkV 2 v80 <|
            chkV 2 v81 <|
            chkV 2 v82 <|
            chkV 2 v86 <|
            chkV 2 v87 <|
            chkV 2 v88 <|
            callV Φ 11 0 [[v78, v79, v80, v81, v82, v86, v87, v88]] 9 [(0, 0), (1, 0), (1, 1), (1, 2), (1, 3), (1, 4), (1, 5), (1, 6), (1, 7)] <| fun v114 v115 v116 v117 v118 v119 v120 v121 v122 => 
            chkV 2 v89 <|
            chkV 2 v90 <|
            chkV 2 v91 <|
            chkV 2 v92 <|
            chkV 2 v93 <|
            chkV 2 v94 <|
            chkV 2 v95 <|
            chkV 2 v96 <|
            callV Φ 26 1 [[v89, v90, v91, v92, v93, v94, v95, v96]] 9 [(0, 0), (0, 1), (0, 2), (0, 3), (0, 4), (0, 5), (0, 6), (0, 7), (1, 0)] <| fun v123 v124 v125 v126 v127 v128 v129 v130 v131 => 
            some (.norm [1, 1, 1, 1, 8, 8, 1, 1, 1, 3, 3] [v131, (.bool false), (.bool false), v114, v123, v124, v125, v126, v127, v128, v129, v130, v115, v116, v117, v118, v119, (.unit), (.unit), (.unit), v120, v121, v122, (.int .i64 0), (.int .i64 0), (.int .i64 0), (.int .i64 0), (.int .i64 0), (.int .i64 0)])) <| app 29 <| fun v114 v115 v116 v117 v118 v119 v120 v121 v122 v123 v124 v125 v126 v127 v128 v129 v130 v131 v132 v133 v134 v135 v136 v137 v138 v139 v140 v141 v142 => 
          some (.norm [1, 1, 1, 1, 8, 8, 1, 1, 1, 3, 3] [v114, v115, v116, v117, v118, v119, v120, v121, v122, v123, v124, v125, v126, v127, v128, v129, v130, v131, v132, v133, v134, v135, v136, v137, v138, v139, v140, v141, v142])) <| app 29 <| fun v113 v114 v115 v116 v117 v118 v119 v120 v121 v122 v123 v124 v125 v126 v127 v128 v129 v130 v131 v132 v133 v134 v135 v136 v137 v138 v139 v140 v141 => 
        some (.norm [1, 1, 1, 1, 8, 8, 1, 1, 1, 3, 3] [v113, v114, v115, v116, v117, v118, v119, v120, v121, v122, v123, v124, v125, v126, v127, v128, v129, v130, v131, v132, v133, v134, v135, v136, v137, v138, v139, v140, v141])) <| app 29 <| fun v112 v113 v114 v115 v116 v117 v118 v119 v120 v121 v122 v123 v124 v125 v126 v127 v128 v129 v130 v131 v132 v133 v134 v135 v136 v137 v138 v139 v140 => 
      some (.norm [1, 1, 1, 1, 8, 8, 1, 1, 1, 3, 3] [v112, v113, v114, v115, v116, v117, v118, v119, v120, v121, v122, v123, v124, v125, v126, v127, v128, v129, v130, v131, v132, v133, v134, v135, v136, v137, v138, v139, v140])) <| app 29 <| fun v111 v112 v113 v114 v115 v116 v117 v118 v119 v120 v121 v122 v123 v124 v125 v126 v127 v128 v129 v130 v131 v132 v133 v134 v135 v136 v137 v138 v139 => 
    chkV 2 v114 <|
    callV Φ 8 0 [[v114]] 1 [(0, 0)] <| fun v140 => 
    chkV 2 v111 <|
    op1V Φ (.bin .neq 0) [[v140], [v111]] fun v141 =>
    blkV (none) [1] (gdV v141 false false (chkV 2 v112 <|
        chkV 2 v113 <|
        op1V Φ (.bin .neq 2) [[v112], [v113]] fun v142 =>
        some (.norm [1] [v142])) (some (.norm [1] [(.undef)]))) <| app 1 <| fun v142 => 
    op1V Φ (.pick) [[v141], [(.bool true)], [v142]] fun v143 =>
    chkV 2 v143 <|
    blkV (none) [1] (gdV v143 false false (chkV 2 v134 <|
        chkV 2 v135 <|
        chkV 2 v136 <|
        chkV 2 v137 <|
        chkV 2 v138 <|
        chkV 2 v139 <|
        op1V Φ (.eqA [0, 0, 0] true) [[v134, v135, v136], [v137, v138, v139]] fun v144 =>
        some (.norm [1] [v144])) (some (.norm [1] [(.undef)]))) <| app 1 <| fun v144 => 
    op1V Φ (.pick) [[v143], [(.bool true)], [v144]] fun v145 =>
    chkV 2 v145 <|
    blkV (none) [1] (gdV v145 false false (chkV 0 v128 <|
        chkV 0 v129 <|
        chkV 0 v130 <|
        chkV 1 v33 <|
        chkV 2 v123 <|
        chkV 2 v124 <|
        chkV 2 v125 <|
        chkV 2 v126 <|
        chkV 2 v127 <|
        chkV 2 v131 <|
        chkV 2 v132 <|
        chkV 2 v133 <|
        callV Φ 12 0 [[v123, v124, v125, v126, v127, v131, v132, v133]] 1 [(0, 0)] <| fun v146 => 
        chkV 2 v115 <|
        chkV 2 v116 <|
        chkV 2 v117 <|
        chkV 2 v118 <|
        chkV 2 v119 <|
        chkV 2 v120 <|
        chkV 2 v121 <|
        chkV 2 v122 <|
        callV Φ 27 0 [[v115, v116, v117, v118, v119, v120, v121, v122]] 1 [(0, 0)] <| fun v147 => 
        op1V Φ (.bin .neq 2) [[v146], [v147]] fun v148 =>
        some (.norm [1] [v148])) (some (.norm [1] [(.undef)]))) <| app 1 <| fun v146 => 
    op1V Φ (.pick) [[v145], [(.bool true)], [v146]] fun v147 =>
    chkV 2 v147 <|
    blkV (none) [1] (gdV v147 false false (chkV 2 v115 <|
        chkV 2 v116 <|
        chkV 2 v117 <|
        chkV 2 v118 <|
        chkV 2 v119 <|
        chkV 2 v120 <|
        chkV 2 v121 <|
        chkV 2 v122 <|
        chkV 0 v128 <|
        chkV 0 v129 <|
        chkV 0 v130 <|
        chkV 1 v33 <|
        chkV 2 v123 <|
        chkV 2 v124 <|
        chkV 2 v125 <|
        chkV 2 v126 <|
        chkV 2 v127 <|
        chkV 2 v131 <|
        chkV 2 v132 <|
        chkV 2 v133 <|
        callV Φ 21 0 [[v123, v124, v125, v126, v127, v131, v132, v133], [v115, v116, v117, v118, v119, v120, v121, v122]] 1 [(0, 0)] <| fun v148 => 
        op1V Φ (.un .not) [[v148]] fun v149 =>
        some (.norm [1] [v149])) (some (.norm [1] [(.undef)]))) <| app 1 <| fun v148 => 
    op1V Φ (.pick) [[v147], [(.bool true)], [v148]] fun v149 =>
    iteV v149 (some (.ret [[(.bool false)]])) <|
    op1V Φ (.bin .add 0) [[v99], [(.int .i64 1)]] fun v150 =>
    some (.norm [8, 1, 1, 1, 8, 1, 1, 1] [v123, v124, v125, v126, v127, v128, v129, v130, v131, v132, v133, v115, v116, v117, v118, v119, v120, v121, v122, v111, v98, v150])) <|
  some (.exit 0 [1, 1, 1, 8, 8, 1, 1, 1] [v98, v97, v99, v89, v90, v91, v92, v93, v94, v95, v96, v78, v79, v80, v81, v82, v83, v84, v85, v86, v87, v88])
noncomputable def F3_0 (Φ : Funs) (n : Nat) (v0 v1 v2 v3 v4 v5 v6 v7 v8 : V) : TR :=
  chkV 2 v0 <|
  chkV 2 v1 <|
  chkV 2 v2 <|
  chkV 2 v3 <|
  chkV 2 v4 <|
  chkV 2 v5 <|
  chkV 2 v6 <|
  chkV 2 v7 <|
  callV Φ 6 1 [[], [(.bool true)]] 4 [(0, 0), (0, 1), (0, 2), (1, 0)] <| fun v9 v10 v11 v12 => 
  callV Φ 7 1 [[], [(.int .i64 0)]] 4 [(0, 0), (0, 1), (0, 2), (1, 0)] <| fun v13 v14 v15 v16 => 
  blkV (none) [1] (gdV v12 false false (some (.norm [1] [v16])) (some (.norm [1] [(.undef)]))) <| app 1 <| fun v17 => 
  op1V Φ (.pick) [[v12], [(.bool true)], [v17]] fun v18 =>
  chkV 2 v18 <|
  blkV (none) [1] (gdV v18 false false (callV Φ 9 1 [[], [(.int .i64 0)], [(.int .i64 0)]] 1 [(0, 0)] <| fun v19 => 
      callV Φ 8 0 [[v19]] 1 [(0, 0)] <| fun v20 => 
      op1V Φ (.bin .neq 0) [[v20], [(.int .i64 1)]] fun v21 =>
      some (.norm [1] [v21])) (some (.norm [1] [(.undef)]))) <| app 1 <| fun v19 => 
  op1V Φ (.pick) [[v18], [(.bool true)], [v19]] fun v20 =>
  chkV 2 v20 <|
  blkV (none) [1] (gdV v20 false false (callV Φ 10 1 [[], [(.int .i64 0)]] 1 [(0, 0)] <| fun v21 => 
      callV Φ 8 0 [[v21]] 1 [(0, 0)] <| fun v22 => 
      op1V Φ (.bin .neq 0) [[v22], [(.int .i64 1)]] fun v23 =>
      some (.norm [1] [v23])) (some (.norm [1] [(.undef)]))) <| app 1 <| fun v21 => 
  op1V Φ (.pick) [[v20], [(.bool true)], [v21]] fun v22 =>
  chkV 2 v22 <|
  blkV (none) [1] (gdV v22 false false (callV Φ 11 1 [[]] 1 [(0, 0)] <| fun v23 => 
      callV Φ 8 0 [[v23]] 1 [(0, 0)] <| fun v24 => 
      op1V Φ (.bin .neq 0) [[v24], [(.int .i64 1)]] fun v25 =>
      some (.norm [1] [v25])) (some (.norm [1] [(.undef)]))) <| app 1 <| fun v23 => 
  op1V Φ (.pick) [[v22], [(.bool true)], [v23]] fun v24 =>
  chkV 2 v24 <|
  blkV (none) [1] (gdV v24 false false (callV Φ 12 1 [[]] 1 [(0, 0)] <| fun v25 => 
      some (.norm [1] [v25])) (some (.norm [1] [(.undef)]))) <| app 1 <| fun v25 => 
  op1V Φ (.pick) [[v24], [(.bool true)], [v25]] fun v26 =>
  iteV v26 (some (.ret [[(.bool false)]])) <|
  op1V Φ (.len) [[v5]] fun v27 =>
  op1V Φ (.bin .gtr 0) [[v27], [(.int .i64 20)]] fun v28 =>
  blkV (none) [1] (gdV v28 false false (op1V Φ (.len) [[v6]] fun v29 =>
      op1V Φ (.bin .gtr 0) [[v29], [(.int .i64 20)]] fun v30 =>
      some (.norm [1] [v30])) (some (.norm [1] [(.undef)]))) <| app 1 <| fun v29 => 
  op1V Φ (.pick) [[v28], [(.bool true)], [v29]] fun v30 =>
  chkV 2 v30 <|
  blkV (none) [1] (gdV v30 false false (callV Φ 13 0 [[v7]] 1 [(0, 0)] <| fun v31 => 
      some (.norm [1] [v31])) (some (.norm [1] [(.undef)]))) <| app 1 <| fun v31 => 
  op1V Φ (.pick) [[v30], [(.bool true)], [v31]] fun v32 =>
  iteV v32 (callV Φ 14 0 [] 1 [(0, 0)] <| fun v33 => 
    some (.ret [[v33]])) <|
  callV Φ 15 0 [[v0, v1, v2, v3, v4, v5, v6, v7]] 9 [(0, 0), (0, 1), (0, 2), (0, 3), (0, 4), (0, 5), (0, 6), (0, 7), (0, 8)] <| fun v33 v34 v35 v36 v37 v38 v39 v40 v41 => 
  chkV 1 v33 <|
  callV Φ 16 0 [[v34, v35, v36, v37, v38, v39, v40, v41]] 1 [(0, 0)] <| fun v42 => 
  op1V Φ (.bin .eql 3) [[v42], [(.nilI)]] fun v43 =>
  callV Φ 17 0 [[v0, v1, v2, v3, v4, v5, v6, v7]] 1 [(0, 0)] <| fun v44 => 
  op1V Φ (.bin .neq 2) [[v43], [v44]] fun v45 =>
  blkV (none) [1] (gdV v45 false false (chkV 1 v33 <|
      callV Φ 16 0 [[v34, v35, v36, v37, v38, v39, v40, v41]] 1 [(0, 0)] <| fun v46 => 
      callV Φ 8 0 [[v46]] 1 [(0, 0)] <| fun v47 => 
      op1V Φ (.bin .gtr 0) [[v47], [(.int .i64 1)]] fun v48 =>
      some (.norm [1] [v48])) (some (.norm [1] [(.undef)]))) <| app 1 <| fun v46 => 
  op1V Φ (.pick) [[v45], [(.bool true)], [v46]] fun v47 =>
  iteV v47 (some (.ret [[(.bool false)]])) <|
  callV Φ 19 0 [[v7]] 1 [(0, 0)] <| fun v48 => 
  callV Φ 18 0 [[v48]] 10 [(0, 0), (1, 0), (0, 1), (0, 2), (0, 3), (0, 4), (0, 5), (0, 6), (0, 7), (0, 8)] <| fun v49 v50 v51 v52 v53 v54 v55 v56 v57 v58 => 
  callV Φ 20 1 [[v7]] 9 [(0, 0), (0, 1), (0, 2), (0, 3), (0, 4), (0, 5), (0, 6), (0, 7), (1, 0)] <| fun v59 v60 v61 v62 v63 v64 v65 v66 v67 => 
  callV Φ 8 0 [[v50]] 1 [(0, 0)] <| fun v68 => 
  op1V Φ (.bin .neq 0) [[v68], [v67]] fun v69 =>
  blkV (none) [1] (gdV v69 false false (op1V Φ (.notv) [[v49]] fun v70 =>
      op1V Φ (.bin .neq 0) [[v67], [(.int .i64 0)]] fun v71 =>
      op1V Φ (.bin .neq 2) [[v70], [v71]] fun v72 =>
      some (.norm [1] [v72])) (some (.norm [1] [(.undef)]))) <| app 1 <| fun v70 => 
  op1V Φ (.pick) [[v69], [(.bool true)], [v70]] fun v71 =>
  chkV 2 v71 <|
  blkV (none) [1] (gdV v71 false false (op1V Φ (.notv) [[v49]] fun v72 =>
      op1V Φ (.notv) [[v72]] fun v73 =>
      some (.norm [1] [v73])) (some (.norm [1] [(.undef)]))) <| app 1 <| fun v72 => 
  blkV (none) [1] (gdV v72 true true (chkV 1 v49 <|
      callV Φ 21 0 [[v51, v52, v53, v54, v55, v56, v57, v58], [v59, v60, v61, v62, v63, v64, v65, v66]] 1 [(0, 0)] <| fun v73 => 
      op1V Φ (.un .not) [[v73]] fun v74 =>
      some (.norm [1] [v74])) (some (.norm [1] [(.undef)]))) <| app 1 <| fun v73 => 
  blkV (none) [1] (gdV v71 false false (op1V Φ (.pick) [[v72], [v73], [(.bool false)]] fun v74 =>
      chkV 2 v74 <|
      some (.norm [1] [v74])) (some (.norm [1] [(.undef)]))) <| app 1 <| fun v74 => 
  op1V Φ (.pick) [[v71], [(.bool true)], [v74]] fun v75 =>
  iteV v75 (some (.ret [[(.bool false)]])) <|
  callV Φ 17 0 [[v0, v1, v2, v3, v4, v5, v6, v7]] 1 [(0, 0)] <| fun v76 => 
  op1V Φ (.un .not) [[v76]] fun v77 =>
  iteV v77 (callV Φ 14 0 [] 1 [(0, 0)] <| fun v78 => 
    some (.ret [[v78]])) <|
  blkV (some 0) [1, 1, 1, 8, 8, 1, 1, 1] (lpV [8, 1, 1, 1, 8, 1, 1, 1] (F3_0_b0 Φ n v8 v33) n [v34, v35, v36, v37, v38, (.unit), (.unit), (.unit), v39, v40, v41, v0, v1, v2, v3, v4, v5, v6, v7, v67, (.bool false), (.int .i64 0)]) <| app 22 <| fun v78 v79 v80 v81 v82 v83 v84 v85 v86 v87 v88 v89 v90 v91 v92 v93 v94 v95 v96 v97 v98 v99 => 
  chkV 0 v94 <|
  chkV 0 v95 <|
  chkV 0 v96 <|
  chkV 1 v33 <|
  chkV 2 v89 <|
  chkV 2 v90 <|
  chkV 2 v91 <|
  chkV 2 v92 <|
  chkV 2 v93 <|
  chkV 2 v97 <|
  chkV 2 v98 <|
  chkV 2 v99 <|
  callV Φ 16 0 [[v89, v90, v91, v92, v93, v97, v98, v99]] 1 [(0, 0)] <| fun v100 => 
  op1V Φ (.bin .eql 3) [[v100], [(.nilI)]] fun v101 =>
  blkV (none) [1] (gdV v101 true false (callV Φ 14 0 [] 1 [(0, 0)] <| fun v102 => 
      some (.norm [1] [v102])) (some (.norm [1] [(.undef)]))) <| app 1 <| fun v102 => 
  op1V Φ (.pick) [[v101], [v102], [(.bool false)]] fun v103 =>
  chkV 2 v103 <|
  some (.ret [[v103]])
theorem x3_0 (Φ : Funs) (n : Nat) (v0 v1 v2 v3 v4 v5 v6 v7 v8 : V) : (textE Tryd.prog sg [] Tryd.f3 g3_0).map (fun t => t.eval Φ n [v8, v7, v6, v5, v4, v3, v2, v1, v0]) = some (F3_0 Φ n v0 v1 v2 v3 v4 v5 v6 v7 v8) := by kernel_rfl

/-! colloquy/colloquylaw23.procs -/
def g28_0 : Sig := { ps := [PSh.ptr true [PM.fz, PM.fz, PM.fz, PM.fz, PM.fz, PM.lent, PM.lent, PM.lent]], rs := [RSh.one (PM.fz)] }
noncomputable def F28_0 (Φ : Funs) (n : Nat) (v0 v1 v2 v3 v4 v5 v6 v7 : V) : TR :=
  chkV 2 v5 <|
  op1V Φ (.len) [[v5]] fun v8 =>
  chkV 2 v6 <|
  op1V Φ (.len) [[v6]] fun v9 =>
  op1V Φ (.bin .add 0) [[v8], [v9]] fun v10 =>
  chkV 2 v0 <|
  blkV (none) [1] (iteV v0 (op1V Φ (.bin .add 0) [[v10], [(.int .i64 1)]] fun v11 =>
      some (.norm [1] [v11])) <|
    some (.norm [1] [v10])) <| app 1 <| fun v11 => 
  chkV 2 v11 <|
  some (.ret [[v11]])
theorem x28_0 (Φ : Funs) (n : Nat) (v0 v1 v2 v3 v4 v5 v6 v7 : V) : (textE Tryd.prog sg [] Tryd.f28 g28_0).map (fun t => t.eval Φ n [v7, v6, v5, v4, v3, v2, v1, v0]) = some (F28_0 Φ n v0 v1 v2 v3 v4 v5 v6 v7) := by kernel_rfl

/-! colloquy/colloquylaw23.ProcKeeps -/
def g4_0 : Sig := { ps := [PSh.agg [PM.fz, PM.fz, PM.fz, PM.fz, PM.fz, PM.fz, PM.fz, PM.fz], PSh.one (PM.fz)], rs := [RSh.one (PM.fz)] }
noncomputable def F4_0_b0 (Φ : Funs) (n : Nat) (v8 v15 : V) : List V → TR := app 13 <| fun v26 v27 v28 v29 v30 v31 v32 v33 v34 v35 v36 v37 v38 => 
  chkV 2 v38 <|
  chkV 2 v8 <|
  op1V Φ (.len) [[v8]] fun v39 =>
  op1V Φ (.bin .lss 0) [[v38], [v39]] fun v40 =>
  blkV (none) [1] (gdV v40 true false (op1V Φ (.bin .lss 0) [[v38], [(.int .i64 80)]] fun v41 =>
      some (.norm [1] [v41])) (some (.norm [1] [(.undef)]))) <| app 1 <| fun v41 => 
  op1V Φ (.pick) [[v40], [v41], [(.bool false)]] fun v42 =>
  iteV v42 (chkV 0 v31 <|
    chkV 0 v32 <|
    chkV 0 v33 <|
    chkV 1 v15 <|
    chkV 2 v26 <|
    chkV 2 v27 <|
    chkV 2 v28 <|
    chkV 2 v29 <|
    chkV 2 v30 <|
    chkV 2 v34 <|
    chkV 2 v35 <|
    chkV 2 v36 <|
    callV Φ 28 0 [[v26, v27, v28, v29, v30, v34, v35, v36]] 1 [(0, 0)] <| fun v43 => 
    op1V Φ (.idx 52) [[v8], [v38]] fun v44 =>
    opnV Φ (.ldi 0 5 true []) [[v44]] 5 <| fun v45 v46 v47 v48 v49 => 
    chkV 2 v45 <|
    chkV 2 v46 <|
    chkV 2 v47 <|
    chkV 2 v48 <|
    chkV 2 v49 <|
    op1V Φ (.bin .eql 0) [[v45], [(.int .u8 0)]] fun v50 =>
    blkV (none) [1, 8, 1, 1, 1] (iteV v50 (chkV 0 v31 <|
        chkV 0 v32 <|
        chkV 0 v33 <|
        chkV 1 v15 <|
        callV Φ 9 0 [[v26, v27, v28, v29, v30, v34, v35, v36], [v46], [v47]] 9 [(0, 0), (1, 0), (1, 1), (1, 2), (1, 3), (1, 4), (1, 5), (1, 6), (1, 7)] <| fun v51 v52 v53 v54 v55 v56 v57 v58 v59 => 
        op1V Φ (.bin .eql 3) [[v51], [(.nilI)]] fun v60 =>
        blkV (none) [1] (iteV v60 (op1V Φ (.bin .add 0) [[v43], [(.int .i64 1)]] fun v61 =>
            some (.norm [1] [v61])) <|
          some (.norm [1] [v43])) <| app 1 <| fun v61 => 
        some (.norm [1, 8, 1, 1, 1] [v61, v52, v53, v54, v55, v56, (.unit), (.unit), (.unit), v57, v58, v59])) <|
      op1V Φ (.bin .eql 0) [[v45], [(.int .u8 1)]] fun v51 =>
      blkV (none) [1, 8, 1, 1, 1] (iteV v51 (chkV 0 v31 <|
          chkV 0 v32 <|
          chkV 0 v33 <|
          chkV 1 v15 <|
          callV Φ 6 0 [[v26, v27, v28, v29, v30, v34, v35, v36], [v49]] 12 [(0, 0), (0, 1), (0, 2), (1, 0), (2, 0), (2, 1), (2, 2), (2, 3), (2, 4), (2, 5), (2, 6), (2, 7)] <| fun v52 v53 v54 v55 v56 v57 v58 v59 v60 v61 v62 v63 => 
          some (.norm [1, 8, 1, 1, 1] [v43, v56, v57, v58, v59, v60, (.unit), (.unit), (.unit), v61, v62, v63])) <|
        op1V Φ (.bin .eql 0) [[v45], [(.int .u8 2)]] fun v52 =>
        blkV (none) [1, 8, 1, 1, 1] (iteV v52 (chkV 0 v31 <|
            chkV 0 v32 <|
            chkV 0 v33 <|
            chkV 1 v15 <|
            callV Φ 10 0 [[v26, v27, v28, v29, v30, v34, v35, v36], [v48]] 9 [(0, 0), (1, 0), (1, 1), (1, 2), (1, 3), (1, 4), (1, 5), (1, 6), (1, 7)] <| fun v53 v54 v55 v56 v57 v58 v59 v60 v61 => 
            some (.norm [1, 8, 1, 1, 1] [v43, v54, v55, v56, v57, v58, (.unit), (.unit), (.unit), v59, v60, v61])) <|
          op1V Φ (.bin .eql 0) [[v45], [(.int .u8 3)]] fun v53 =>
          blkV (none) [1, 8, 1, 1, 1] (iteV v53 (chkV 0 v31 <|
              chkV 0 v32 <|
              chkV 0 v33 <|
              chkV 1 v15 <|
              callV Φ 7 0 [[v26, v27, v28, v29, v30, v34, v35, v36], [v48]] 12 [(0, 0), (0, 1), (0, 2), (1, 0), (2, 0), (2, 1), (2, 2), (2, 3), (2, 4), (2, 5), (2, 6), (2, 7)] <| fun v54 v55 v56 v57 v58 v59 v60 v61 v62 v63 v64 v65 => 
              some (.norm [1, 8, 1, 1, 1] [v43, v58, v59, v60, v61, v62, (.unit), (.unit), (.unit), v63, v64, v65])) <|
            chkV 0 v31 <|
            chkV 0 v32 <|
            chkV 0 v33 <|
            chkV 1 v15 <|
            callV Φ 11 0 [[v26, v27, v28, v29, v30, v34, v35, v36]] 9 [(0, 0), (1, 0), (1, 1), (1, 2), (1, 3), (1, 4), (1, 5), (1, 6), (1, 7)] <| fun v54 v55 v56 v57 v58 v59 v60 v61 v62 => 
            op1V Φ (.bin .eql 3) [[v54], [(.nilI)]] fun v63 =>
            blkV (none) [1] (iteV v63 (op1V Φ (.bin .sub 0) [[v43], [(.int .i64 1)]] fun v64 =>
                some (.norm [1] [v64])) <|
              some (.norm [1] [v43])) <| app 1 <| fun v64 => 
            some (.norm [1, 8, 1, 1, 1] [v64, v55, v56, v57, v58, v59, (.unit), (.unit), (.unit), v60, v61, v62])) <| app 12 <| fun v54 v55 v56 v57 v58 v59 v60 v61 v62 v63 v64 v65 => 
          some (.norm [1, 8, 1, 1, 1] [v54, v55, v56, v57, v58, v59, v60, v61, v62, v63, v64, v65])) <| app 12 <| fun v53 v54 v55 v56 v57 v58 v59 v60 v61 v62 v63 v64 => 
        some (.norm [1, 8, 1, 1, 1] [v53, v54, v55, v56, v57, v58, v59, v60, v61, v62, v63, v64])) <| app 12 <| fun v52 v53 v54 v55 v56 v57 v58 v59 v60 v61 v62 v63 => 
      some (.norm [1, 8, 1, 1, 1] [v52, v53, v54, v55, v56, v57, v58, v59, v60, v61, v62, v63])) <| app 12 <| fun v51 v52 v53 v54 v55 v56 v57 v58 v59 v60 v61 v62 => 
    chkV 0 v57 <|
    chkV 0 v58 <|
    chkV 0 v59 <|
    chkV 1 v15 <|
    chkV 2 v52 <|
    chkV 2 v53 <|
    chkV 2 v54 <|
    chkV 2 v55 <|
    chkV 2 v56 <|
    chkV 2 v60 <|
    chkV 2 v61 <|
    chkV 2 v62 <|
    callV Φ 16 0 [[v52, v53, v54, v55, v56, v60, v61, v62]] 1 [(0, 0)] <| fun v63 => 
    op1V Φ (.bin .neq 3) [[v63], [(.nilI)]] fun v64 =>
    blkV (none) [1] (gdV v64 false false (chkV 0 v57 <|
        chkV 0 v58 <|
        chkV 0 v59 <|
        chkV 1 v15 <|
        callV Φ 28 0 [[v52, v53, v54, v55, v56, v60, v61, v62]] 1 [(0, 0)] <| fun v65 => 
        chkV 2 v51 <|
        op1V Φ (.bin .neq 0) [[v65], [v51]] fun v66 =>
        some (.norm [1] [v66])) (some (.norm [1] [(.undef)]))) <| app 1 <| fun v65 => 
    op1V Φ (.pick) [[v64], [(.bool true)], [v65]] fun v66 =>
    iteV v66 (some (.ret [[(.bool false)]])) <|
    op1V Φ (.bin .add 0) [[v38], [(.int .i64 1)]] fun v67 =>
    some (.norm [8, 1, 1, 1, 1, 1] [v52, v53, v54, v55, v56, v57, v58, v59, v60, v61, v62, v37, v67])) <|
  some (.exit 0 [1, 1, 8, 1, 1, 1] [v37, v38, v26, v27, v28, v29, v30, v31, v32, v33, v34, v35, v36])
noncomputable def F4_0 (Φ : Funs) (n : Nat) (v0 v1 v2 v3 v4 v5 v6 v7 v8 : V) : TR :=
  chkV 2 v0 <|
  chkV 2 v1 <|
  chkV 2 v2 <|
  chkV 2 v3 <|
  chkV 2 v4 <|
  chkV 2 v5 <|
  chkV 2 v6 <|
  chkV 2 v7 <|
  op1V Φ (.len) [[v5]] fun v9 =>
  op1V Φ (.bin .gtr 0) [[v9], [(.int .i64 20)]] fun v10 =>
  blkV (none) [1] (gdV v10 false false (op1V Φ (.len) [[v6]] fun v11 =>
      op1V Φ (.bin .gtr 0) [[v11], [(.int .i64 20)]] fun v12 =>
      some (.norm [1] [v12])) (some (.norm [1] [(.undef)]))) <| app 1 <| fun v11 => 
  op1V Φ (.pick) [[v10], [(.bool true)], [v11]] fun v12 =>
  chkV 2 v12 <|
  blkV (none) [1] (gdV v12 false false (callV Φ 13 0 [[v7]] 1 [(0, 0)] <| fun v13 => 
      some (.norm [1] [v13])) (some (.norm [1] [(.undef)]))) <| app 1 <| fun v13 => 
  op1V Φ (.pick) [[v12], [(.bool true)], [v13]] fun v14 =>
  iteV v14 (callV Φ 14 0 [] 1 [(0, 0)] <| fun v15 => 
    some (.ret [[v15]])) <|
  callV Φ 15 0 [[v0, v1, v2, v3, v4, v5, v6, v7]] 9 [(0, 0), (0, 1), (0, 2), (0, 3), (0, 4), (0, 5), (0, 6), (0, 7), (0, 8)] <| fun v15 v16 v17 v18 v19 v20 v21 v22 v23 => 
  chkV 1 v15 <|
  callV Φ 16 0 [[v16, v17, v18, v19, v20, v21, v22, v23]] 1 [(0, 0)] <| fun v24 => 
  op1V Φ (.bin .neq 3) [[v24], [(.nilI)]] fun v25 =>
  iteV v25 (callV Φ 14 0 [] 1 [(0, 0)] <| fun v26 => 
    some (.ret [[v26]])) <|
  blkV (some 0) [1, 1, 8, 1, 1, 1] (lpV [8, 1, 1, 1, 1, 1] (F4_0_b0 Φ n v8 v15) n [v16, v17, v18, v19, v20, (.unit), (.unit), (.unit), v21, v22, v23, (.bool false), (.int .i64 0)]) <| app 13 <| fun v26 v27 v28 v29 v30 v31 v32 v33 v34 v35 v36 v37 v38 => 
  callV Φ 14 0 [] 1 [(0, 0)] <| fun v39 => 
  some (.ret [[v39]])
theorem x4_0 (Φ : Funs) (n : Nat) (v0 v1 v2 v3 v4 v5 v6 v7 v8 : V) : (textE Tryd.prog sg [] Tryd.f4 g4_0).map (fun t => t.eval Φ n [v8, v7, v6, v5, v4, v3, v2, v1, v0]) = some (F4_0 Φ n v0 v1 v2 v3 v4 v5 v6 v7 v8) := by kernel_rfl
end Go.Proofs.YtlhcgiegganbpaaDoorVs
