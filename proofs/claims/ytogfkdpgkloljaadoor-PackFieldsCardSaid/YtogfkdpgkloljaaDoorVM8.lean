/-
  Several texts in one: The functions of the program that this seat's laws reach, told as functions on values: each text is what the translation comes to. No condition.
-/
import Derived.Test.YtogfkdpgkloljaaDoorProg
import Derived.Test.YtogfkdpgkloljaaDoorVM7
import Derived.KernelRfl
set_option linter.unusedVariables false
set_option linter.unusedSimpArgs false
set_option maxRecDepth 100000
namespace Go.Proofs.YtogfkdpgkloljaaDoorVs
def L : List (Nat × Nat × Sig) := [
  (12, 0, { ps := [PSh.one (PM.fz)], rs := [RSh.one (PM.fz)] }),
  (24, 0, { ps := [PSh.one (PM.lent)], rs := [RSh.one (PM.own)] }),
  (32, 0, { ps := [PSh.one (PM.lent), PSh.one (PM.fz)], rs := [RSh.one (PM.own)] }),
  (22, 0, { ps := [PSh.ptr false [PM.own], PSh.one (PM.lent)], rs := [] }),
  (22, 1, { ps := [PSh.nilp, PSh.one (PM.lent)], rs := [] }),
  (23, 0, { ps := [PSh.ptr false [PM.own], PSh.one (PM.lent)], rs := [] }),
  (23, 1, { ps := [PSh.nilp, PSh.one (PM.lent)], rs := [] }),
  (7, 0, { ps := [PSh.ptr false [PM.own], PSh.one (PM.fz)], rs := [] }),
  (7, 1, { ps := [PSh.nilp, PSh.one (PM.fz)], rs := [] }),
  (6, 0, { ps := [PSh.ptr false [PM.own], PSh.agg [PM.fz, PM.fz, PM.lent, PM.fz, PM.fz, PM.fz, PM.fz]], rs := [] }),
  (6, 1, { ps := [PSh.nilp, PSh.agg [PM.fz, PM.fz, PM.lent, PM.fz, PM.fz, PM.fz, PM.fz]], rs := [] }),
  (8, 0, { ps := [PSh.ptr true [PM.lent]], rs := [RSh.one (PM.own)] }),
  (8, 1, { ps := [PSh.nilp], rs := [RSh.one (PM.own)] }),
  (25, 0, { ps := [PSh.ptr true [PM.lent, PM.fz]], rs := [RSh.one (PM.fz)] }),
  (25, 1, { ps := [PSh.nilp], rs := [RSh.one (PM.fz)] }),
  (33, 0, { ps := [PSh.one (PM.lent), PSh.one (PM.lent)], rs := [RSh.one (PM.fz)] }),
  (26, 0, { ps := [PSh.one (PM.lent)], rs := [RSh.one (PM.fz), RSh.one (PM.fz), RSh.one (PM.fz)] }),
  (27, 0, { ps := [PSh.ptr false [PM.own, PM.fz]], rs := [] }),
  (27, 1, { ps := [PSh.nilp], rs := [] }),
  (9, 0, { ps := [PSh.ptr false [PM.own, PM.fz], PSh.one (PM.fz), PSh.one (PM.fz)], rs := [RSh.one (PM.fz)] }),
  (9, 1, { ps := [PSh.nilp, PSh.one (PM.fz), PSh.one (PM.fz)], rs := [RSh.one (PM.fz)] }),
  (28, 0, { ps := [PSh.ptr false [PM.own, PM.fz], PSh.one (PM.fz)], rs := [RSh.one (PM.fz)] }),
  (28, 1, { ps := [PSh.nilp, PSh.one (PM.fz)], rs := [RSh.one (PM.fz)] }),
  (10, 0, { ps := [PSh.ptr false [PM.own, PM.fz], PSh.one (PM.fz), PSh.one (PM.fz), PSh.one (PM.fz)], rs := [RSh.one (PM.own)] }),
  (10, 1, { ps := [PSh.nilp, PSh.one (PM.fz), PSh.one (PM.fz), PSh.one (PM.fz)], rs := [RSh.one (PM.own)] }),
  (11, 0, { ps := [PSh.ptr false [PM.own, PM.fz], PSh.one (PM.fz)], rs := [RSh.one (PM.fz)] }),
  (11, 1, { ps := [PSh.nilp, PSh.one (PM.fz)], rs := [RSh.one (PM.fz)] }),
  (13, 0, { ps := [PSh.ptr true [PM.lent, PM.fz]], rs := [RSh.one (PM.fz)] }),
  (13, 1, { ps := [PSh.nilp], rs := [RSh.one (PM.fz)] }),
  (14, 0, { ps := [PSh.one (PM.lent)], rs := [RSh.one (PM.fz)] }),
  (16, 0, { ps := [PSh.one (PM.lent)], rs := [RSh.obx [PM.own, PM.fz]] }),
  (21, 0, { ps := [PSh.one (PM.lent), PSh.one (PM.lent)], rs := [RSh.one (PM.fz)] }),
  (15, 0, { ps := [], rs := [RSh.one (PM.fz)] }),
  (30, 0, { ps := [PSh.one (PM.lent), PSh.one (PM.fz)], rs := [RSh.one (PM.own)] }),
  (17, 0, { ps := [PSh.one (PM.lent), PSh.agg [PM.fz, PM.fz, PM.lent, PM.fz, PM.fz, PM.fz, PM.fz]], rs := [RSh.one (PM.own)] }),
  (38, 0, { ps := [PSh.one (PM.lent)], rs := [RSh.one (PM.fz), RSh.one (PM.fz), RSh.one (PM.fz)] }),
  (31, 0, { ps := [PSh.one (PM.lent), PSh.one (PM.fz), PSh.one (PM.fz), PSh.one (PM.fz)], rs := [RSh.one (PM.fz), RSh.one (PM.fz)] }),
  (18, 0, { ps := [PSh.one (PM.lent), PSh.one (PM.fz), PSh.agg [PM.fz, PM.fz, PM.lent, PM.fz, PM.fz, PM.fz, PM.fz]], rs := [RSh.agg [PM.fz, PM.fz, PM.own, PM.fz, PM.fz, PM.fz, PM.fz], RSh.one (PM.fz)] }),
  (20, 0, { ps := [PSh.ptr false [PM.own, PM.fz], PSh.agg [PM.fz, PM.fz, PM.lent, PM.fz, PM.fz, PM.fz, PM.fz]], rs := [RSh.agg [PM.fz, PM.fz, PM.own, PM.fz, PM.fz, PM.fz, PM.fz]] }),
  (19, 0, { ps := [PSh.agg [PM.fz, PM.fz, PM.lent, PM.fz, PM.fz, PM.fz, PM.fz], PSh.agg [PM.fz, PM.fz, PM.lent, PM.fz, PM.fz, PM.fz, PM.fz]], rs := [RSh.one (PM.fz)] }),
  (3, 0, { ps := [PSh.one (PM.lent), PSh.one (PM.lent)], rs := [RSh.one (PM.fz)] }),
  (4, 0, { ps := [PSh.one (PM.lent), PSh.one (PM.fz)], rs := [RSh.one (PM.fz)] }),
  (5, 0, { ps := [PSh.one (PM.lent), PSh.one (PM.fz), PSh.one (PM.fz), PSh.one (PM.fz)], rs := [RSh.one (PM.fz)] })]
def sg : Sigs := sgL L

/-! colloquy/varint.Put -/
def g32_0 : Sig := { ps := [PSh.one (PM.lent), PSh.one (PM.fz)], rs := [RSh.one (PM.own)] }
noncomputable def F32_0_b0 (Φ : Funs) (n : Nat) : List V → TR := app 5 <| fun v3 v4 v5 v6 v7 => 
  chkV 2 v3 <|
  op1V Φ (.bin .and 0) [[v3], [(.int .i64 127)]] fun v8 =>
  op1V Φ (.conv .u8) [[v8]] fun v9 =>
  op1V Φ (.bin .shr 0) [[v3], [(.int .u64 7)]] fun v10 =>
  op1V Φ (.bin .eql 0) [[v10], [(.int .i64 0)]] fun v11 =>
  blkV (none) [1] (gdV v11 true false (op1V Φ (.bin .and 0) [[v9], [(.int .u8 64)]] fun v12 =>
      op1V Φ (.bin .eql 0) [[v12], [(.int .u8 0)]] fun v13 =>
      some (.norm [1] [v13])) (some (.norm [1] [(.undef)]))) <| app 1 <| fun v12 => 
  op1V Φ (.pick) [[v11], [v12], [(.bool false)]] fun v13 =>
  chkV 2 v13 <|
  blkV (none) [1] (gdV v13 false false (op1V Φ (.bin .eql 0) [[v10], [(.int .i64 (-1))]] fun v14 =>
      some (.norm [1] [v14])) (some (.norm [1] [(.undef)]))) <| app 1 <| fun v14 => 
  blkV (none) [1] (gdV v14 true true (op1V Φ (.bin .and 0) [[v9], [(.int .u8 64)]] fun v15 =>
      op1V Φ (.bin .neq 0) [[v15], [(.int .u8 0)]] fun v16 =>
      some (.norm [1] [v16])) (some (.norm [1] [(.undef)]))) <| app 1 <| fun v15 => 
  blkV (none) [1] (gdV v13 false false (op1V Φ (.pick) [[v14], [v15], [(.bool false)]] fun v16 =>
      chkV 2 v16 <|
      some (.norm [1] [v16])) (some (.norm [1] [(.undef)]))) <| app 1 <| fun v16 => 
  op1V Φ (.pick) [[v13], [(.bool true)], [v16]] fun v17 =>
  iteV v17 (chkV 2 v7 <|
    op1V Φ (.mk 5 [(false, [(0, 0)])]) [[v9]] fun v18 =>
    chkV 0 v7 <|
    op1V Φ (.app 5 1 false) [[v6], [v18]] fun v19 =>
    some (.ret [[v19]])) <|
  chkV 2 v7 <|
  op1V Φ (.bin .or 0) [[v9], [(.int .u8 128)]] fun v18 =>
  op1V Φ (.mk 5 [(false, [(0, 0)])]) [[v18]] fun v19 =>
  chkV 0 v7 <|
  op1V Φ (.app 5 1 false) [[v6], [v19]] fun v20 =>
  some (.norm [1, 1, 1, 1, 1] [v10, v4, v5, v20, (.unit)])
noncomputable def F32_0 (Φ : Funs) (n : Nat) (v0 v1 : V) : TR :=
  chkV 2 v0 <|
  callV Φ 24 0 [[v0]] 1 [(0, 0)] <| fun v2 => 
  lpV [1, 1, 1, 1, 1] (F32_0_b0 Φ n) n [v1, (.unit), (.list 5 []), v2, (.unit)]
theorem x32_0 (Φ : Funs) (n : Nat) (v0 v1 : V) : (textE Tryd.prog sg [] Tryd.f32 g32_0).map (fun t => t.eval Φ n [v1, v0]) = some (F32_0 Φ n v0 v1) := by kernel_rfl

/-! (*colloquy/pack.Writer).Int -/
def g22_0 : Sig := { ps := [PSh.ptr false [PM.own], PSh.one (PM.lent)], rs := [] }
noncomputable def F22_0_b0 (Φ : Funs) (n : Nat) (v1 v2 : V) : List V → TR := app 3 <| fun v3 v4 v5 => 
  op1V Φ (.bin .lss 0) [[v5], [v2]] fun v6 =>
  iteV v6 (op1V Φ (.idx 3) [[v1], [v5]] fun v7 =>
    op1V Φ (.ldi 0 1 false [true]) [[v7]] fun v8 =>
    chkV 2 v8 <|
    chkV 2 v4 <|
    callV Φ 32 0 [[(.list 5 [])], [v8]] 1 [(0, 0)] <| fun v9 => 
    chkV 0 v4 <|
    op1V Φ (.app 5 1 false) [[v3], [v9]] fun v10 =>
    op1V Φ (.bin .add 0) [[v5], [(.int .i64 1)]] fun v11 =>
    some (.norm [1, 1, 1] [v10, (.unit), v11])) <|
  some (.exit 0 [1, 1, 1] [v5, v4, v3])
noncomputable def F22_0 (Φ : Funs) (n : Nat) (v0 v1 : V) : TR :=
  chkV 2 v1 <|
  op1V Φ (.len) [[v1]] fun v2 =>
  blkV (some 0) [1, 1, 1] (lpV [1, 1, 1] (F22_0_b0 Φ n v1 v2) n [v0, (.unit), (.int .i64 0)]) <| app 3 <| fun v3 v4 v5 => 
  chkV 0 v4 <|
  chkV 2 v5 <|
  some (.ret [[v5]])
theorem x22_0 (Φ : Funs) (n : Nat) (v0 v1 : V) : (textE Tryd.prog sg [] Tryd.f22 g22_0).map (fun t => t.eval Φ n [v1, v0]) = some (F22_0 Φ n v0 v1) := by kernel_rfl

/-! (*colloquy/pack.Writer).Int -/
def g22_1 : Sig := { ps := [PSh.nilp, PSh.one (PM.lent)], rs := [] }
noncomputable def F22_1 (Φ : Funs) (n : Nat) (v0 : V) : TR :=
  some (.ret [])
theorem x22_1 (Φ : Funs) (n : Nat) (v0 : V) : (textE Tryd.prog sg [] Tryd.f22 g22_1).map (fun t => t.eval Φ n [v0]) = some (F22_1 Φ n v0) := by kernel_rfl

/-! (*colloquy/pack.Writer).Ints -/
def g23_0 : Sig := { ps := [PSh.ptr false [PM.own], PSh.one (PM.lent)], rs := [] }
noncomputable def F23_0 (Φ : Funs) (n : Nat) (v0 v1 : V) : TR :=
  chkV 2 v1 <|
  op1V Φ (.len) [[v1]] fun v2 =>
  op1V Φ (.mk 3 [(false, [(0, 0)])]) [[v2]] fun v3 =>
  chkV 2 v0 <|
  callV Φ 22 0 [[v0], [v3]] 1 [(0, 0)] <| fun v4 => 
  callV Φ 22 0 [[v4], [v1]] 1 [(0, 0)] <| fun v5 => 
  some (.ret [[v5]])
theorem x23_0 (Φ : Funs) (n : Nat) (v0 v1 : V) : (textE Tryd.prog sg [] Tryd.f23 g23_0).map (fun t => t.eval Φ n [v1, v0]) = some (F23_0 Φ n v0 v1) := by kernel_rfl

/-! (*colloquy/pack.Writer).Ints -/
def g23_1 : Sig := { ps := [PSh.nilp, PSh.one (PM.lent)], rs := [] }
noncomputable def F23_1 (Φ : Funs) (n : Nat) (v0 : V) : TR :=
  chkV 2 v0 <|
  op1V Φ (.len) [[v0]] fun v1 =>
  op1V Φ (.mk 3 [(false, [(0, 0)])]) [[v1]] fun v2 =>
  callV Φ 22 1 [[], [v2]] 0 [] <| 
  callV Φ 22 1 [[], [v0]] 0 [] <| 
  some (.ret [])
theorem x23_1 (Φ : Funs) (n : Nat) (v0 : V) : (textE Tryd.prog sg [] Tryd.f23 g23_1).map (fun t => t.eval Φ n [v0]) = some (F23_1 Φ n v0) := by kernel_rfl

/-! (*colloquy/pack.Writer).Text -/
def g7_0 : Sig := { ps := [PSh.ptr false [PM.own], PSh.one (PM.fz)], rs := [] }
noncomputable def F7_0 (Φ : Funs) (n : Nat) (v0 v1 : V) : TR :=
  chkV 2 v1 <|
  op1V Φ (.lens) [[v1]] fun v2 =>
  op1V Φ (.mk 3 [(false, [(0, 0)])]) [[v2]] fun v3 =>
  chkV 2 v0 <|
  callV Φ 22 0 [[v0], [v3]] 1 [(0, 0)] <| fun v4 => 
  op1V Φ (.aps 5 1) [[v4], [v1]] fun v5 =>
  some (.ret [[v5]])
theorem x7_0 (Φ : Funs) (n : Nat) (v0 v1 : V) : (textE Tryd.prog sg [] Tryd.f7 g7_0).map (fun t => t.eval Φ n [v1, v0]) = some (F7_0 Φ n v0 v1) := by kernel_rfl

/-! (*colloquy/pack.Writer).Text -/
def g7_1 : Sig := { ps := [PSh.nilp, PSh.one (PM.fz)], rs := [] }
noncomputable def F7_1 (Φ : Funs) (n : Nat) (v0 : V) : TR :=
  chkV 2 v0 <|
  op1V Φ (.lens) [[v0]] fun v1 =>
  op1V Φ (.mk 3 [(false, [(0, 0)])]) [[v1]] fun v2 =>
  callV Φ 22 1 [[], [v2]] 0 [] <| 
  some (.ret [])
theorem x7_1 (Φ : Funs) (n : Nat) (v0 : V) : (textE Tryd.prog sg [] Tryd.f7 g7_1).map (fun t => t.eval Φ n [v0]) = some (F7_1 Φ n v0) := by kernel_rfl

/-! colloquy/colloquylaw06.write -/
def g6_0 : Sig := { ps := [PSh.ptr false [PM.own], PSh.agg [PM.fz, PM.fz, PM.lent, PM.fz, PM.fz, PM.fz, PM.fz]], rs := [] }
noncomputable def F6_0 (Φ : Funs) (n : Nat) (v0 v1 v2 v3 v4 v5 v6 v7 : V) : TR :=
  chkV 2 v1 <|
  chkV 2 v2 <|
  chkV 2 v3 <|
  chkV 2 v4 <|
  chkV 2 v5 <|
  chkV 2 v6 <|
  chkV 2 v7 <|
  op1V Φ (.bin .eql 0) [[v1], [(.int .u8 0)]] fun v8 =>
  blkV (none) [1, 1] (iteV v8 (op1V Φ (.mk 3 [(false, [(0, 0)])]) [[v2]] fun v9 =>
      chkV 2 v0 <|
      callV Φ 22 0 [[v0], [v9]] 1 [(0, 0)] <| fun v10 => 
      some (.norm [1, 1] [(.unit), v10])) <|
    op1V Φ (.bin .eql 0) [[v1], [(.int .u8 1)]] fun v9 =>
    blkV (none) [1, 1] (iteV v9 (chkV 2 v0 <|
        callV Φ 23 0 [[v0], [v3]] 1 [(0, 0)] <| fun v10 => 
        some (.norm [1, 1] [(.unit), v10])) <|
      chkV 2 v0 <|
      callV Φ 7 0 [[v0], [v4]] 1 [(0, 0)] <| fun v10 => 
      some (.norm [1, 1] [(.unit), v10])) <| app 2 <| fun v10 v11 => 
    some (.norm [1, 1] [v10, v11])) <| app 2 <| fun v9 v10 => 
  chkV 0 v9 <|
  chkV 2 v10 <|
  some (.ret [[v10]])
theorem x6_0 (Φ : Funs) (n : Nat) (v0 v1 v2 v3 v4 v5 v6 v7 : V) : (textE Tryd.prog sg [] Tryd.f6 g6_0).map (fun t => t.eval Φ n [v7, v6, v5, v4, v3, v2, v1, v0]) = some (F6_0 Φ n v0 v1 v2 v3 v4 v5 v6 v7) := by kernel_rfl

/-! colloquy/colloquylaw06.write -/
def g6_1 : Sig := { ps := [PSh.nilp, PSh.agg [PM.fz, PM.fz, PM.lent, PM.fz, PM.fz, PM.fz, PM.fz]], rs := [] }
noncomputable def F6_1 (Φ : Funs) (n : Nat) (v0 v1 v2 v3 v4 v5 v6 : V) : TR :=
  chkV 2 v0 <|
  chkV 2 v1 <|
  chkV 2 v2 <|
  chkV 2 v3 <|
  chkV 2 v4 <|
  chkV 2 v5 <|
  chkV 2 v6 <|
  op1V Φ (.bin .eql 0) [[v0], [(.int .u8 0)]] fun v7 =>
  blkV (none) [] (iteV v7 (op1V Φ (.mk 3 [(false, [(0, 0)])]) [[v1]] fun v8 =>
      callV Φ 22 1 [[], [v8]] 0 [] <| 
      some (.norm [] [])) <|
    op1V Φ (.bin .eql 0) [[v0], [(.int .u8 1)]] fun v8 =>
    blkV (none) [] (iteV v8 (callV Φ 23 1 [[], [v2]] 0 [] <| 
        some (.norm [] [])) <|
      callV Φ 7 1 [[], [v3]] 0 [] <| 
      some (.norm [] [])) <| app 0 <| 
    some (.norm [] [])) <| app 0 <| 
  some (.ret [])
theorem x6_1 (Φ : Funs) (n : Nat) (v0 v1 v2 v3 v4 v5 v6 : V) : (textE Tryd.prog sg [] Tryd.f6 g6_1).map (fun t => t.eval Φ n [v6, v5, v4, v3, v2, v1, v0]) = some (F6_1 Φ n v0 v1 v2 v3 v4 v5 v6) := by kernel_rfl

/-! (*colloquy/pack.Writer).All -/
def g8_0 : Sig := { ps := [PSh.ptr true [PM.lent]], rs := [RSh.one (PM.own)] }
noncomputable def F8_0 (Φ : Funs) (n : Nat) (v0 : V) : TR :=
  chkV 2 v0 <|
  callV Φ 24 0 [[v0]] 1 [(0, 0)] <| fun v1 => 
  some (.ret [[v1]])
theorem x8_0 (Φ : Funs) (n : Nat) (v0 : V) : (textE Tryd.prog sg [] Tryd.f8 g8_0).map (fun t => t.eval Φ n [v0]) = some (F8_0 Φ n v0) := by kernel_rfl

/-! (*colloquy/pack.Writer).All -/
def g8_1 : Sig := { ps := [PSh.nilp], rs := [RSh.one (PM.own)] }
noncomputable def F8_1 (Φ : Funs) (n : Nat) : TR :=
  some (.ret [[(.list 5 [])]])
theorem x8_1 (Φ : Funs) (n : Nat) : (textE Tryd.prog sg [] Tryd.f8 g8_1).map (fun t => t.eval Φ n []) = some (F8_1 Φ n) := by kernel_rfl

/-! (*colloquy/pack.Reader).ok -/
def g25_0 : Sig := { ps := [PSh.ptr true [PM.lent, PM.fz]], rs := [RSh.one (PM.fz)] }
noncomputable def F25_0 (Φ : Funs) (n : Nat) (v0 v1 : V) : TR :=
  blkV (none) [1] (gdV (.bool true) true false (chkV 2 v1 <|
      op1V Φ (.un .not) [[v1]] fun v2 =>
      some (.norm [1] [v2])) (some (.norm [1] [(.undef)]))) <| app 1 <| fun v2 => 
  op1V Φ (.pick) [[(.bool true)], [v2], [(.bool false)]] fun v3 =>
  chkV 2 v3 <|
  some (.ret [[v3]])
theorem x25_0 (Φ : Funs) (n : Nat) (v0 v1 : V) : (textE Tryd.prog sg [] Tryd.f25 g25_0).map (fun t => t.eval Φ n [v1, v0]) = some (F25_0 Φ n v0 v1) := by kernel_rfl

/-! (*colloquy/pack.Reader).ok -/
def g25_1 : Sig := { ps := [PSh.nilp], rs := [RSh.one (PM.fz)] }
noncomputable def F25_1 (Φ : Funs) (n : Nat) : TR :=
  blkV (none) [1] (gdV (.bool false) true false (chkV 2 (.undef) <|
      callV Φ 0 0 [[(.undef)]] 0 [] <| 
      chkV 2 (.undef) <|
      callV Φ 0 0 [[(.undef)]] 0 [] <| 
      chkV 2 (.undef) <|
      callV Φ 0 0 [[(.undef)]] 0 [] <| 
      op1V Φ (.un .not) [[(.unit)]] fun v0 =>
      some (.norm [1] [v0])) (some (.norm [1] [(.undef)]))) <| app 1 <| fun v0 => 
  op1V Φ (.pick) [[(.bool false)], [v0], [(.bool false)]] fun v1 =>
  chkV 2 v1 <|
  some (.ret [[v1]])
theorem x25_1 (Φ : Funs) (n : Nat) : (textE Tryd.prog sg [] Tryd.f25 g25_1).map (fun t => t.eval Φ n []) = some (F25_1 Φ n) := by kernel_rfl

/-! slices.Equal[[]byte,byte] -/
def g33_0 : Sig := { ps := [PSh.one (PM.lent), PSh.one (PM.lent)], rs := [RSh.one (PM.fz)] }
noncomputable def F33_0_b0 (Φ : Funs) (n : Nat) (v0 v1 v5 : V) : List V → TR := app 2 <| fun v6 v7 => 
  op1V Φ (.bin .lss 0) [[v7], [v5]] fun v8 =>
  iteV v8 (chkV 2 v7 <|
    op1V Φ (.idx 5) [[v0], [v7]] fun v9 =>
    op1V Φ (.ldi 0 1 false [true]) [[v9]] fun v10 =>
    op1V Φ (.idx 5) [[v1], [v7]] fun v11 =>
    op1V Φ (.ldi 0 1 false [true]) [[v11]] fun v12 =>
    op1V Φ (.bin .neq 0) [[v10], [v12]] fun v13 =>
    iteV v13 (some (.ret [[(.bool false)]])) <|
    op1V Φ (.bin .add 0) [[v7], [(.int .i64 1)]] fun v14 =>
    some (.norm [1, 1] [v6, v14])) <|
  some (.exit 0 [1, 1] [v6, v7])
noncomputable def F33_0 (Φ : Funs) (n : Nat) (v0 v1 : V) : TR :=
  chkV 2 v0 <|
  op1V Φ (.len) [[v0]] fun v2 =>
  chkV 2 v1 <|
  op1V Φ (.len) [[v1]] fun v3 =>
  op1V Φ (.bin .neq 0) [[v2], [v3]] fun v4 =>
  iteV v4 (some (.ret [[(.bool false)]])) <|
  op1V Φ (.len) [[v0]] fun v5 =>
  blkV (some 0) [1, 1] (lpV [1, 1] (F33_0_b0 Φ n v0 v1 v5) n [(.bool false), (.int .i64 0)]) <| app 2 <| fun v6 v7 => 
  some (.ret [[(.bool true)]])
theorem x33_0 (Φ : Funs) (n : Nat) (v0 v1 : V) : (textE Tryd.prog sg [] Tryd.f33 g33_0).map (fun t => t.eval Φ n [v1, v0]) = some (F33_0 Φ n v0 v1) := by kernel_rfl

/-! colloquy/varint.Get -/
def g26_0 : Sig := { ps := [PSh.one (PM.lent)], rs := [RSh.one (PM.fz), RSh.one (PM.fz), RSh.one (PM.fz)] }
noncomputable def F26_0_b0 (Φ : Funs) (n : Nat) (v0 v1 : V) : List V → TR := app 6 <| fun v2 v3 v4 v5 v6 v7 => 
  op1V Φ (.bin .lss 0) [[v7], [v1]] fun v8 =>
  iteV v8 (blkV (some 1) [1, 1, 1, 1, 1, 1, 1] (chkV 2 v7 <|
      op1V Φ (.idx 5) [[v0], [v7]] fun v9 =>
      op1V Φ (.ldi 0 1 false [true]) [[v9]] fun v10 =>
      chkV 2 v10 <|
      chkV 2 v2 <|
      op1V Φ (.bin .geq 0) [[v2], [(.int .u64 64)]] fun v11 =>
      iteV v11 (some (.exit 0 [1, 1, 1, 1, 1, 1] [v4, v5, v6, v3, v2, v7])) <|
      chkV 2 v3 <|
      op1V Φ (.bin .and 0) [[v10], [(.int .u8 127)]] fun v12 =>
      op1V Φ (.conv .i64) [[v12]] fun v13 =>
      op1V Φ (.bin .shl 0) [[v13], [v2]] fun v14 =>
      op1V Φ (.bin .or 0) [[v3], [v14]] fun v15 =>
      op1V Φ (.bin .add 0) [[v2], [(.int .u64 7)]] fun v16 =>
      op1V Φ (.bin .and 0) [[v10], [(.int .u8 128)]] fun v17 =>
      op1V Φ (.bin .neq 0) [[v17], [(.int .u8 0)]] fun v18 =>
      iteV v18 (some (.exit 1 [1, 1, 1, 1, 1, 1, 1] [v4, v5, v6, v15, v16, v7, v10])) <|
      op1V Φ (.bin .and 0) [[v10], [(.int .u8 64)]] fun v19 =>
      op1V Φ (.bin .neq 0) [[v19], [(.int .u8 0)]] fun v20 =>
      blkV (none) [1] (gdV v20 true false (op1V Φ (.bin .lss 0) [[v16], [(.int .u64 64)]] fun v21 =>
          some (.norm [1] [v21])) (some (.norm [1] [(.undef)]))) <| app 1 <| fun v21 => 
      op1V Φ (.pick) [[v20], [v21], [(.bool false)]] fun v22 =>
      blkV (none) [1] (iteV v22 (op1V Φ (.bin .shl 0) [[(.int .i64 (-1))], [v16]] fun v23 =>
          op1V Φ (.bin .or 0) [[v15], [v23]] fun v24 =>
          some (.norm [1] [v24])) <|
        some (.norm [1] [v15])) <| app 1 <| fun v23 => 
      chkV 2 v23 <|
      callV Φ 32 0 [[(.list 5 [])], [v23]] 1 [(0, 0)] <| fun v24 => 
      op1V Φ (.bin .add 0) [[v7], [(.int .i64 1)]] fun v25 =>
      op1V Φ (.slc 5 false true) [[v0], [v25]] fun v26 =>
      callV Φ 33 0 [[v24], [v26]] 1 [(0, 0)] <| fun v27 => 
      op1V Φ (.un .not) [[v27]] fun v28 =>
      iteV v28 (some (.exit 0 [1, 1, 1, 1, 1, 1] [v4, v5, v6, v23, v16, v7])) <|
      op1V Φ (.bin .add 0) [[v7], [(.int .i64 1)]] fun v29 =>
      some (.ret [[v23], [v29], [(.nilI)]])) <| app 7 <| fun v9 v10 v11 v12 v13 v14 v15 => 
    op1V Φ (.bin .add 0) [[v7], [(.int .i64 1)]] fun v16 =>
    some (.norm [1, 1, 1, 1, 1, 1] [v13, v12, v9, v10, v11, v16])) <|
  some (.exit 0 [1, 1, 1, 1, 1, 1] [v4, v5, v6, v3, v2, v7])
noncomputable def F26_0 (Φ : Funs) (n : Nat) (v0 : V) : TR :=
  chkV 2 v0 <|
  op1V Φ (.len) [[v0]] fun v1 =>
  blkV (some 0) [1, 1, 1, 1, 1, 1] (lpV [1, 1, 1, 1, 1, 1] (F26_0_b0 Φ n v0 v1) n [(.int .u64 0), (.int .i64 0), (.int .i64 0), (.int .i64 0), (.nilI), (.int .i64 0)]) <| app 6 <| fun v2 v3 v4 v5 v6 v7 => 
  op1V Φ (.ifc 62) [[(.int .i64 2)]] fun v8 =>
  some (.ret [[(.int .i64 0)], [(.int .i64 0)], [v8]])
theorem x26_0 (Φ : Funs) (n : Nat) (v0 : V) : (textE Tryd.prog sg [] Tryd.f26 g26_0).map (fun t => t.eval Φ n [v0]) = some (F26_0 Φ n v0) := by kernel_rfl

/-! (*colloquy/pack.Reader).fail -/
def g27_0 : Sig := { ps := [PSh.ptr false [PM.own, PM.fz]], rs := [] }
noncomputable def F27_0 (Φ : Funs) (n : Nat) (v0 v1 : V) : TR :=
  chkV 2 v1 <|
  some (.ret [[(.list 5 []), (.bool true)]])
theorem x27_0 (Φ : Funs) (n : Nat) (v0 v1 : V) : (textE Tryd.prog sg [] Tryd.f27 g27_0).map (fun t => t.eval Φ n [v1, v0]) = some (F27_0 Φ n v0 v1) := by kernel_rfl

/-! (*colloquy/pack.Reader).fail -/
def g27_1 : Sig := { ps := [PSh.nilp], rs := [] }
noncomputable def F27_1 (Φ : Funs) (n : Nat) : TR :=
  some (.ret [])
theorem x27_1 (Φ : Funs) (n : Nat) : (textE Tryd.prog sg [] Tryd.f27 g27_1).map (fun t => t.eval Φ n []) = some (F27_1 Φ n) := by kernel_rfl

/-! (*colloquy/pack.Reader).Int -/
def g9_0 : Sig := { ps := [PSh.ptr false [PM.own, PM.fz], PSh.one (PM.fz), PSh.one (PM.fz)], rs := [RSh.one (PM.fz)] }
noncomputable def F9_0 (Φ : Funs) (n : Nat) (v0 v1 v2 v3 : V) : TR :=
  chkV 2 v0 <|
  chkV 2 v1 <|
  callV Φ 25 0 [[v0, v1]] 1 [(0, 0)] <| fun v4 => 
  op1V Φ (.un .not) [[v4]] fun v5 =>
  iteV v5 (some (.ret [[(.int .i64 0)], [v0, v1]])) <|
  callV Φ 26 0 [[v0]] 3 [(0, 0), (1, 0), (2, 0)] <| fun v6 v7 v8 => 
  op1V Φ (.bin .neq 3) [[v8], [(.nilI)]] fun v9 =>
  blkV (none) [1] (gdV v9 false false (chkV 2 v2 <|
      op1V Φ (.bin .lss 0) [[v6], [v2]] fun v10 =>
      some (.norm [1] [v10])) (some (.norm [1] [(.undef)]))) <| app 1 <| fun v10 => 
  op1V Φ (.pick) [[v9], [(.bool true)], [v10]] fun v11 =>
  chkV 2 v11 <|
  blkV (none) [1] (gdV v11 false false (chkV 2 v3 <|
      op1V Φ (.bin .gtr 0) [[v6], [v3]] fun v12 =>
      some (.norm [1] [v12])) (some (.norm [1] [(.undef)]))) <| app 1 <| fun v12 => 
  op1V Φ (.pick) [[v11], [(.bool true)], [v12]] fun v13 =>
  iteV v13 (callV Φ 27 0 [[v0, v1]] 2 [(0, 1), (0, 0)] <| fun v14 v15 => 
    some (.ret [[(.int .i64 0)], [v15, v14]])) <|
  op1V Φ (.slc 5 true false) [[v0], [v7]] fun v14 =>
  some (.ret [[v6], [v14, v1]])
theorem x9_0 (Φ : Funs) (n : Nat) (v0 v1 v2 v3 : V) : (textE Tryd.prog sg [7006] Tryd.f9 g9_0).map (fun t => t.eval Φ n [v3, v2, v1, v0]) = some (F9_0 Φ n v0 v1 v2 v3) := by kernel_rfl

/-! (*colloquy/pack.Reader).Int -/
def g9_1 : Sig := { ps := [PSh.nilp, PSh.one (PM.fz), PSh.one (PM.fz)], rs := [RSh.one (PM.fz)] }
noncomputable def F9_1 (Φ : Funs) (n : Nat) (v0 v1 : V) : TR :=
  callV Φ 25 1 [[]] 1 [(0, 0)] <| fun v2 => 
  op1V Φ (.un .not) [[v2]] fun v3 =>
  iteV v3 (some (.ret [[(.int .i64 0)]])) <|
  none
theorem x9_1 (Φ : Funs) (n : Nat) (v0 v1 : V) : (textE Tryd.prog sg [] Tryd.f9 g9_1).map (fun t => t.eval Φ n [v1, v0]) = some (F9_1 Φ n v0 v1) := by kernel_rfl

/-! (*colloquy/pack.Reader).count -/
def g28_0 : Sig := { ps := [PSh.ptr false [PM.own, PM.fz], PSh.one (PM.fz)], rs := [RSh.one (PM.fz)] }
noncomputable def F28_0 (Φ : Funs) (n : Nat) (v0 v1 v2 : V) : TR :=
  chkV 2 v2 <|
  chkV 2 v0 <|
  chkV 2 v1 <|
  callV Φ 9 0 [[v0, v1], [(.int .i64 0)], [v2]] 3 [(0, 0), (1, 1), (1, 0)] <| fun v3 v4 v5 => 
  callV Φ 25 0 [[v5, v4]] 1 [(0, 0)] <| fun v6 => 
  op1V Φ (.un .not) [[v6]] fun v7 =>
  blkV (none) [1] (gdV v7 false false (op1V Φ (.len) [[v5]] fun v8 =>
      op1V Φ (.bin .gtr 0) [[v3], [v8]] fun v9 =>
      some (.norm [1] [v9])) (some (.norm [1] [(.undef)]))) <| app 1 <| fun v8 => 
  op1V Φ (.pick) [[v7], [(.bool true)], [v8]] fun v9 =>
  iteV v9 (callV Φ 27 0 [[v5, v4]] 2 [(0, 1), (0, 0)] <| fun v10 v11 => 
    some (.ret [[(.int .i64 0)], [v11, v10]])) <|
  some (.ret [[v3], [v5, v4]])
theorem x28_0 (Φ : Funs) (n : Nat) (v0 v1 v2 : V) : (textE Tryd.prog sg [] Tryd.f28 g28_0).map (fun t => t.eval Φ n [v2, v1, v0]) = some (F28_0 Φ n v0 v1 v2) := by kernel_rfl

/-! (*colloquy/pack.Reader).count -/
def g28_1 : Sig := { ps := [PSh.nilp, PSh.one (PM.fz)], rs := [RSh.one (PM.fz)] }
noncomputable def F28_1 (Φ : Funs) (n : Nat) (v0 : V) : TR :=
  chkV 2 v0 <|
  callV Φ 9 1 [[], [(.int .i64 0)], [v0]] 1 [(0, 0)] <| fun v1 => 
  callV Φ 25 1 [[]] 1 [(0, 0)] <| fun v2 => 
  op1V Φ (.un .not) [[v2]] fun v3 =>
  blkV (none) [1] (gdV v3 false false (chkV 2 (.undef) <|
      callV Φ 0 0 [[(.undef)]] 0 [] <| 
      chkV 2 (.undef) <|
      callV Φ 0 0 [[(.undef)]] 0 [] <| 
      chkV 2 (.undef) <|
      callV Φ 0 0 [[(.undef)]] 0 [] <| 
      op1V Φ (.len) [[(.unit)]] fun v4 =>
      op1V Φ (.bin .gtr 0) [[v1], [v4]] fun v5 =>
      some (.norm [1] [v5])) (some (.norm [1] [(.undef)]))) <| app 1 <| fun v4 => 
  op1V Φ (.pick) [[v3], [(.bool true)], [v4]] fun v5 =>
  iteV v5 (callV Φ 27 1 [[]] 0 [] <| 
    some (.ret [[(.int .i64 0)]])) <|
  some (.ret [[v1]])
theorem x28_1 (Φ : Funs) (n : Nat) (v0 : V) : (textE Tryd.prog sg [] Tryd.f28 g28_1).map (fun t => t.eval Φ n [v0]) = some (F28_1 Φ n v0) := by kernel_rfl

/-! (*colloquy/pack.Reader).Ints -/
def g10_0 : Sig := { ps := [PSh.ptr false [PM.own, PM.fz], PSh.one (PM.fz), PSh.one (PM.fz), PSh.one (PM.fz)], rs := [RSh.one (PM.own)] }
noncomputable def F10_0_b0 (Φ : Funs) (n : Nat) (v3 v4 v5 : V) : List V → TR := app 6 <| fun v8 v9 v10 v11 v12 v13 => 
  op1V Φ (.bin .lss 0) [[v13], [v5]] fun v14 =>
  iteV v14 (chkV 2 v12 <|
    chkV 2 v3 <|
    chkV 2 v4 <|
    chkV 0 v8 <|
    chkV 2 v10 <|
    chkV 2 v9 <|
    callV Φ 9 0 [[v10, v9], [v3], [v4]] 3 [(0, 0), (1, 1), (1, 0)] <| fun v15 v16 v17 => 
    op1V Φ (.mk 3 [(false, [(0, 0)])]) [[v15]] fun v18 =>
    chkV 0 v12 <|
    op1V Φ (.app 3 8 false) [[v11], [v18]] fun v19 =>
    op1V Φ (.bin .add 0) [[v13], [(.int .i64 1)]] fun v20 =>
    some (.norm [2, 1, 1, 1, 1] [(.unit), v16, v17, v19, (.unit), v20])) <|
  some (.exit 0 [1, 1, 1, 2, 1] [v12, v11, v13, v8, v9, v10])
noncomputable def F10_0 (Φ : Funs) (n : Nat) (v0 v1 v2 v3 v4 : V) : TR :=
  chkV 2 v2 <|
  chkV 2 v0 <|
  chkV 2 v1 <|
  callV Φ 28 0 [[v0, v1], [v2]] 3 [(0, 0), (1, 1), (1, 0)] <| fun v5 v6 v7 => 
  blkV (some 0) [1, 1, 1, 2, 1] (lpV [2, 1, 1, 1, 1] (F10_0_b0 Φ n v3 v4 v5) n [(.unit), v6, v7, (.list 3 []), (.unit), (.int .i64 0)]) <| app 6 <| fun v8 v9 v10 v11 v12 v13 => 
  chkV 0 v11 <|
  chkV 2 v13 <|
  chkV 2 v12 <|
  callV Φ 25 0 [[v13, v12]] 1 [(0, 0)] <| fun v14 => 
  op1V Φ (.un .not) [[v14]] fun v15 =>
  iteV v15 (chkV 0 v11 <|
    some (.ret [[(.list 3 [])], [v13, v12]])) <|
  chkV 2 v8 <|
  chkV 0 v8 <|
  chkV 0 v11 <|
  chkV 2 v9 <|
  some (.ret [[v9], [v13, v12]])
theorem x10_0 (Φ : Funs) (n : Nat) (v0 v1 v2 v3 v4 : V) : (textE Tryd.prog sg [] Tryd.f10 g10_0).map (fun t => t.eval Φ n [v4, v3, v2, v1, v0]) = some (F10_0 Φ n v0 v1 v2 v3 v4) := by kernel_rfl

/-! (*colloquy/pack.Reader).Ints -/
def g10_1 : Sig := { ps := [PSh.nilp, PSh.one (PM.fz), PSh.one (PM.fz), PSh.one (PM.fz)], rs := [RSh.one (PM.own)] }
noncomputable def F10_1_b0 (Φ : Funs) (n : Nat) (v1 v2 v3 : V) : List V → TR := app 3 <| fun v4 v5 v6 => 
  op1V Φ (.bin .lss 0) [[v6], [v3]] fun v7 =>
  iteV v7 (chkV 2 v5 <|
    chkV 2 v1 <|
    chkV 2 v2 <|
    callV Φ 9 1 [[], [v1], [v2]] 1 [(0, 0)] <| fun v8 => 
    op1V Φ (.mk 3 [(false, [(0, 0)])]) [[v8]] fun v9 =>
    chkV 0 v5 <|
    op1V Φ (.app 3 8 false) [[v4], [v9]] fun v10 =>
    op1V Φ (.bin .add 0) [[v6], [(.int .i64 1)]] fun v11 =>
    some (.norm [1, 1, 1] [v10, (.unit), v11])) <|
  some (.exit 0 [1, 1, 1] [v5, v4, v6])
noncomputable def F10_1 (Φ : Funs) (n : Nat) (v0 v1 v2 : V) : TR :=
  chkV 2 v0 <|
  callV Φ 28 1 [[], [v0]] 1 [(0, 0)] <| fun v3 => 
  blkV (some 0) [1, 1, 1] (lpV [1, 1, 1] (F10_1_b0 Φ n v1 v2 v3) n [(.list 3 []), (.unit), (.int .i64 0)]) <| app 3 <| fun v4 v5 v6 => 
  callV Φ 25 1 [[]] 1 [(0, 0)] <| fun v7 => 
  op1V Φ (.un .not) [[v7]] fun v8 =>
  iteV v8 (some (.ret [[(.list 3 [])]])) <|
  chkV 2 v4 <|
  chkV 0 v4 <|
  chkV 2 v5 <|
  some (.ret [[v5]])
theorem x10_1 (Φ : Funs) (n : Nat) (v0 v1 v2 : V) : (textE Tryd.prog sg [] Tryd.f10 g10_1).map (fun t => t.eval Φ n [v2, v1, v0]) = some (F10_1 Φ n v0 v1 v2) := by kernel_rfl

/-! (*colloquy/pack.Reader).Text -/
def g11_0 : Sig := { ps := [PSh.ptr false [PM.own, PM.fz], PSh.one (PM.fz)], rs := [RSh.one (PM.fz)] }
noncomputable def F11_0 (Φ : Funs) (n : Nat) (v0 v1 v2 : V) : TR :=
  chkV 2 v2 <|
  chkV 2 v0 <|
  chkV 2 v1 <|
  callV Φ 28 0 [[v0, v1], [v2]] 3 [(0, 0), (1, 1), (1, 0)] <| fun v3 v4 v5 => 
  callV Φ 25 0 [[v5, v4]] 1 [(0, 0)] <| fun v6 => 
  op1V Φ (.un .not) [[v6]] fun v7 =>
  iteV v7 (some (.ret [[(.str ⟨#[]⟩)], [v5, v4]])) <|
  op1V Φ (.slc 5 false true) [[v5], [v3]] fun v8 =>
  op1V Φ (.str 5) [[v8]] fun v9 =>
  op1V Φ (.slc 5 true false) [[v5], [v3]] fun v10 =>
  some (.ret [[v9], [v10, v4]])
theorem x11_0 (Φ : Funs) (n : Nat) (v0 v1 v2 : V) : (textE Tryd.prog sg [5006] Tryd.f11 g11_0).map (fun t => t.eval Φ n [v2, v1, v0]) = some (F11_0 Φ n v0 v1 v2) := by kernel_rfl

/-! (*colloquy/pack.Reader).Text -/
def g11_1 : Sig := { ps := [PSh.nilp, PSh.one (PM.fz)], rs := [RSh.one (PM.fz)] }
noncomputable def F11_1 (Φ : Funs) (n : Nat) (v0 : V) : TR :=
  chkV 2 v0 <|
  callV Φ 28 1 [[], [v0]] 1 [(0, 0)] <| fun v1 => 
  callV Φ 25 1 [[]] 1 [(0, 0)] <| fun v2 => 
  op1V Φ (.un .not) [[v2]] fun v3 =>
  iteV v3 (some (.ret [[(.str ⟨#[]⟩)]])) <|
  none
theorem x11_1 (Φ : Funs) (n : Nat) (v0 : V) : (textE Tryd.prog sg [] Tryd.f11 g11_1).map (fun t => t.eval Φ n [v0]) = some (F11_1 Φ n v0) := by kernel_rfl

/-! (*colloquy/pack.Reader).Done -/
def g13_0 : Sig := { ps := [PSh.ptr true [PM.lent, PM.fz]], rs := [RSh.one (PM.fz)] }
noncomputable def F13_0 (Φ : Funs) (n : Nat) (v0 v1 : V) : TR :=
  chkV 2 v0 <|
  chkV 2 v1 <|
  callV Φ 25 0 [[v0, v1]] 1 [(0, 0)] <| fun v2 => 
  op1V Φ (.un .not) [[v2]] fun v3 =>
  blkV (none) [1] (gdV v3 false false (op1V Φ (.len) [[v0]] fun v4 =>
      op1V Φ (.bin .gtr 0) [[v4], [(.int .i64 0)]] fun v5 =>
      some (.norm [1] [v5])) (some (.norm [1] [(.undef)]))) <| app 1 <| fun v4 => 
  op1V Φ (.pick) [[v3], [(.bool true)], [v4]] fun v5 =>
  iteV v5 (op1V Φ (.ifc 62) [[(.int .i64 2)]] fun v6 =>
    some (.ret [[v6]])) <|
  some (.ret [[(.nilI)]])
theorem x13_0 (Φ : Funs) (n : Nat) (v0 v1 : V) : (textE Tryd.prog sg [] Tryd.f13 g13_0).map (fun t => t.eval Φ n [v1, v0]) = some (F13_0 Φ n v0 v1) := by kernel_rfl

/-! (*colloquy/pack.Reader).Done -/
def g13_1 : Sig := { ps := [PSh.nilp], rs := [RSh.one (PM.fz)] }
noncomputable def F13_1 (Φ : Funs) (n : Nat) : TR :=
  callV Φ 25 1 [[]] 1 [(0, 0)] <| fun v0 => 
  op1V Φ (.un .not) [[v0]] fun v1 =>
  blkV (none) [1] (gdV v1 false false (chkV 2 (.undef) <|
      callV Φ 0 0 [[(.undef)]] 0 [] <| 
      chkV 2 (.undef) <|
      callV Φ 0 0 [[(.undef)]] 0 [] <| 
      chkV 2 (.undef) <|
      callV Φ 0 0 [[(.undef)]] 0 [] <| 
      op1V Φ (.len) [[(.unit)]] fun v2 =>
      op1V Φ (.bin .gtr 0) [[v2], [(.int .i64 0)]] fun v3 =>
      some (.norm [1] [v3])) (some (.norm [1] [(.undef)]))) <| app 1 <| fun v2 => 
  op1V Φ (.pick) [[v1], [(.bool true)], [v2]] fun v3 =>
  iteV v3 (op1V Φ (.ifc 62) [[(.int .i64 2)]] fun v4 =>
    some (.ret [[v4]])) <|
  some (.ret [[(.nilI)]])
theorem x13_1 (Φ : Funs) (n : Nat) : (textE Tryd.prog sg [] Tryd.f13 g13_1).map (fun t => t.eval Φ n []) = some (F13_1 Φ n) := by kernel_rfl

/-! colloquy/colloquylaw06.great -/
def g14_0 : Sig := { ps := [PSh.one (PM.lent)], rs := [RSh.one (PM.fz)] }
noncomputable def F14_0_b0 (Φ : Funs) (n : Nat) (v0 : V) : List V → TR := app 2 <| fun v1 v2 => 
  chkV 2 v2 <|
  chkV 2 v0 <|
  op1V Φ (.len) [[v0]] fun v3 =>
  op1V Φ (.bin .lss 0) [[v2], [v3]] fun v4 =>
  blkV (none) [1] (gdV v4 true false (op1V Φ (.bin .lss 0) [[v2], [(.int .i64 20)]] fun v5 =>
      some (.norm [1] [v5])) (some (.norm [1] [(.undef)]))) <| app 1 <| fun v5 => 
  op1V Φ (.pick) [[v4], [v5], [(.bool false)]] fun v6 =>
  iteV v6 (op1V Φ (.idx 29) [[v0], [v2]] fun v7 =>
    chkV 2 v7 <|
    op1V Φ (.ldi 2 1 false [false]) [[v7]] fun v8 =>
    op1V Φ (.len) [[v8]] fun v9 =>
    op1V Φ (.bin .gtr 0) [[v9], [(.int .i64 60)]] fun v10 =>
    blkV (none) [1] (gdV v10 false false (op1V Φ (.idx 29) [[v0], [v2]] fun v11 =>
        chkV 2 v11 <|
        chkV 2 v11 <|
        op1V Φ (.ldi 3 1 false [true]) [[v11]] fun v12 =>
        chkV 2 v12 <|
        op1V Φ (.lens) [[v12]] fun v13 =>
        op1V Φ (.bin .gtr 0) [[v13], [(.int .i64 300)]] fun v14 =>
        some (.norm [1] [v14])) (some (.norm [1] [(.undef)]))) <| app 1 <| fun v11 => 
    op1V Φ (.pick) [[v10], [(.bool true)], [v11]] fun v12 =>
    iteV v12 (some (.ret [[(.bool true)]])) <|
    op1V Φ (.bin .add 0) [[v2], [(.int .i64 1)]] fun v13 =>
    some (.norm [1, 1] [v1, v13])) <|
  some (.exit 0 [1, 1] [v1, v2])
noncomputable def F14_0 (Φ : Funs) (n : Nat) (v0 : V) : TR :=
  blkV (some 0) [1, 1] (lpV [1, 1] (F14_0_b0 Φ n v0) n [(.bool false), (.int .i64 0)]) <| app 2 <| fun v1 v2 => 
  chkV 2 v0 <|
  op1V Φ (.len) [[v0]] fun v3 =>
  op1V Φ (.bin .gtr 0) [[v3], [(.int .i64 20)]] fun v4 =>
  some (.ret [[v4]])
theorem x14_0 (Φ : Funs) (n : Nat) (v0 : V) : (textE Tryd.prog sg [] Tryd.f14 g14_0).map (fun t => t.eval Φ n [v0]) = some (F14_0 Φ n v0) := by kernel_rfl

/-! colloquy/pack.Read -/
def g16_0 : Sig := { ps := [PSh.one (PM.lent)], rs := [RSh.obx [PM.own, PM.fz]] }
noncomputable def F16_0 (Φ : Funs) (n : Nat) (v0 : V) : TR :=
  chkV 2 v0 <|
  callV Φ 24 0 [[v0]] 1 [(0, 0)] <| fun v1 => 
  some (.ret [[(.bool true), v1, (.bool false)]])
theorem x16_0 (Φ : Funs) (n : Nat) (v0 : V) : (textE Tryd.prog sg [] Tryd.f16 g16_0).map (fun t => t.eval Φ n [v0]) = some (F16_0 Φ n v0) := by kernel_rfl

/-! colloquy/colloquylaw06.ints -/
def g21_0 : Sig := { ps := [PSh.one (PM.lent), PSh.one (PM.lent)], rs := [RSh.one (PM.fz)] }
noncomputable def F21_0_b0 (Φ : Funs) (n : Nat) (v0 v1 : V) : List V → TR := app 2 <| fun v5 v6 => 
  chkV 2 v6 <|
  op1V Φ (.len) [[v0]] fun v7 =>
  op1V Φ (.bin .lss 0) [[v6], [v7]] fun v8 =>
  iteV v8 (op1V Φ (.idx 3) [[v0], [v6]] fun v9 =>
    op1V Φ (.ldi 0 1 false [true]) [[v9]] fun v10 =>
    op1V Φ (.idx 3) [[v1], [v6]] fun v11 =>
    op1V Φ (.ldi 0 1 false [true]) [[v11]] fun v12 =>
    op1V Φ (.bin .neq 0) [[v10], [v12]] fun v13 =>
    iteV v13 (some (.ret [[(.bool false)]])) <|
    op1V Φ (.bin .add 0) [[v6], [(.int .i64 1)]] fun v14 =>
    some (.norm [1, 1] [v5, v14])) <|
  some (.exit 0 [1, 1] [v5, v6])
noncomputable def F21_0 (Φ : Funs) (n : Nat) (v0 v1 : V) : TR :=
  chkV 2 v0 <|
  op1V Φ (.len) [[v0]] fun v2 =>
  chkV 2 v1 <|
  op1V Φ (.len) [[v1]] fun v3 =>
  op1V Φ (.bin .neq 0) [[v2], [v3]] fun v4 =>
  iteV v4 (some (.ret [[(.bool false)]])) <|
  blkV (some 0) [1, 1] (lpV [1, 1] (F21_0_b0 Φ n v0 v1) n [(.bool false), (.int .i64 0)]) <| app 2 <| fun v5 v6 => 
  some (.ret [[(.bool true)]])
theorem x21_0 (Φ : Funs) (n : Nat) (v0 v1 : V) : (textE Tryd.prog sg [] Tryd.f21 g21_0).map (fun t => t.eval Φ n [v1, v0]) = some (F21_0 Φ n v0 v1) := by kernel_rfl

/-! colloquy/colloquylaw06.sure -/
def g15_0 : Sig := { ps := [], rs := [RSh.one (PM.fz)] }
noncomputable def F15_0 (Φ : Funs) (n : Nat) : TR :=
  op1V Φ (.mk 3 [(false, [(0, 0)]), (false, [(1, 0)])]) [[(.int .i64 300)], [(.int .i64 (-1))]] fun v0 =>
  callV Φ 22 0 [[(.list 5 [])], [v0]] 1 [(0, 0)] <| fun v1 => 
  callV Φ 7 0 [[v1], [(.str ⟨#[97, 98]⟩)]] 1 [(0, 0)] <| fun v2 => 
  op1V Φ (.mk 3 [(false, [(0, 0)]), (false, [(1, 0)])]) [[(.int .i64 5)], [(.int .i64 6)]] fun v3 =>
  callV Φ 23 0 [[v2], [v3]] 1 [(0, 0)] <| fun v4 => 
  callV Φ 8 0 [[v4]] 1 [(0, 0)] <| fun v5 => 
  callV Φ 16 0 [[v5]] 3 [(0, 0), (0, 2), (0, 1)] <| fun v6 v7 v8 => 
  chkV 1 v6 <|
  callV Φ 9 0 [[v8, v7], [(.int .i64 300)], [(.int .i64 300)]] 3 [(0, 0), (1, 1), (1, 0)] <| fun v9 v10 v11 => 
  chkV 1 v6 <|
  callV Φ 9 0 [[v11, v10], [(.int .i64 (-1))], [(.int .i64 0)]] 3 [(0, 0), (1, 1), (1, 0)] <| fun v12 v13 v14 => 
  chkV 1 v6 <|
  callV Φ 11 0 [[v14, v13], [(.int .i64 2)]] 3 [(0, 0), (1, 1), (1, 0)] <| fun v15 v16 v17 => 
  chkV 1 v6 <|
  callV Φ 10 0 [[v17, v16], [(.int .i64 2)], [(.int .i64 5)], [(.int .i64 6)]] 3 [(0, 0), (1, 1), (1, 0)] <| fun v18 v19 v20 => 
  chkV 1 v6 <|
  callV Φ 13 0 [[v20, v19]] 1 [(0, 0)] <| fun v21 => 
  chkV 1 v6 <|
  callV Φ 9 0 [[v20, v19], [(.int .i64 0)], [(.int .i64 9)]] 3 [(0, 0), (1, 1), (1, 0)] <| fun v22 v23 v24 => 
  op1V Φ (.bin .eql 0) [[v9], [(.int .i64 300)]] fun v25 =>
  blkV (none) [1] (gdV v25 true false (op1V Φ (.bin .eql 0) [[v12], [(.int .i64 (-1))]] fun v26 =>
      some (.norm [1] [v26])) (some (.norm [1] [(.undef)]))) <| app 1 <| fun v26 => 
  op1V Φ (.pick) [[v25], [v26], [(.bool false)]] fun v27 =>
  chkV 2 v27 <|
  blkV (none) [1] (gdV v27 true false (op1V Φ (.bin .eql 1) [[v15], [(.str ⟨#[97, 98]⟩)]] fun v28 =>
      some (.norm [1] [v28])) (some (.norm [1] [(.undef)]))) <| app 1 <| fun v28 => 
  op1V Φ (.pick) [[v27], [v28], [(.bool false)]] fun v29 =>
  chkV 2 v29 <|
  blkV (none) [1] (gdV v29 true false (op1V Φ (.mk 3 [(false, [(0, 0)]), (false, [(1, 0)])]) [[(.int .i64 5)], [(.int .i64 6)]] fun v30 =>
      callV Φ 21 0 [[v18], [v30]] 1 [(0, 0)] <| fun v31 => 
      some (.norm [1] [v31])) (some (.norm [1] [(.undef)]))) <| app 1 <| fun v30 => 
  op1V Φ (.pick) [[v29], [v30], [(.bool false)]] fun v31 =>
  chkV 2 v31 <|
  blkV (none) [1] (gdV v31 true false (op1V Φ (.bin .eql 3) [[v21], [(.nilI)]] fun v32 =>
      some (.norm [1] [v32])) (some (.norm [1] [(.undef)]))) <| app 1 <| fun v32 => 
  op1V Φ (.pick) [[v31], [v32], [(.bool false)]] fun v33 =>
  chkV 2 v33 <|
  blkV (none) [1] (gdV v33 true false (op1V Φ (.bin .eql 0) [[v22], [(.int .i64 0)]] fun v34 =>
      some (.norm [1] [v34])) (some (.norm [1] [(.undef)]))) <| app 1 <| fun v34 => 
  op1V Φ (.pick) [[v33], [v34], [(.bool false)]] fun v35 =>
  chkV 2 v35 <|
  blkV (none) [1] (gdV v35 true false (chkV 1 v6 <|
      callV Φ 13 0 [[v24, v23]] 1 [(0, 0)] <| fun v36 => 
      callV Φ 12 0 [[v36]] 1 [(0, 0)] <| fun v37 => 
      op1V Φ (.bin .eql 0) [[v37], [(.int .i64 2)]] fun v38 =>
      some (.norm [1] [v38])) (some (.norm [1] [(.undef)]))) <| app 1 <| fun v36 => 
  op1V Φ (.pick) [[v35], [v36], [(.bool false)]] fun v37 =>
  chkV 2 v37 <|
  some (.ret [[v37]])
theorem x15_0 (Φ : Funs) (n : Nat) : (textE Tryd.prog sg [] Tryd.f15 g15_0).map (fun t => t.eval Φ n []) = some (F15_0 Φ n) := by kernel_rfl

/-! colloquy/colloquyref04.Put -/
def g30_0 : Sig := { ps := [PSh.one (PM.lent), PSh.one (PM.fz)], rs := [RSh.one (PM.own)] }
noncomputable def F30_0_b0 (Φ : Funs) (n : Nat) : List V → TR := app 6 <| fun v3 v4 v5 v6 v7 v8 => 
  chkV 2 v8 <|
  op1V Φ (.bin .lss 0) [[v8], [(.int .i64 10)]] fun v9 =>
  iteV v9 (chkV 2 v3 <|
    op1V Φ (.bin .rem 0) [[v3], [(.int .i64 128)]] fun v10 =>
    op1V Φ (.bin .lss 0) [[v10], [(.int .i64 0)]] fun v11 =>
    blkV (none) [1] (iteV v11 (op1V Φ (.bin .add 0) [[v10], [(.int .i64 128)]] fun v12 =>
        some (.norm [1] [v12])) <|
      some (.norm [1] [v10])) <| app 1 <| fun v12 => 
    chkV 2 v12 <|
    op1V Φ (.bin .sub 0) [[v3], [v12]] fun v13 =>
    op1V Φ (.bin .quo 0) [[v13], [(.int .i64 128)]] fun v14 =>
    op1V Φ (.bin .eql 0) [[v8], [(.int .i64 9)]] fun v15 =>
    blkV (none) [1] (iteV v15 (op1V Φ (.bin .rem 0) [[v12], [(.int .i64 128)]] fun v16 =>
        some (.norm [1] [v16])) <|
      some (.norm [1] [v12])) <| app 1 <| fun v16 => 
    op1V Φ (.bin .eql 0) [[v14], [(.int .i64 0)]] fun v17 =>
    blkV (none) [1] (gdV v17 true false (chkV 2 v16 <|
        op1V Φ (.bin .lss 0) [[v16], [(.int .i64 64)]] fun v18 =>
        some (.norm [1] [v18])) (some (.norm [1] [(.undef)]))) <| app 1 <| fun v18 => 
    op1V Φ (.pick) [[v17], [v18], [(.bool false)]] fun v19 =>
    chkV 2 v19 <|
    blkV (none) [1] (gdV v19 false false (op1V Φ (.bin .eql 0) [[v14], [(.int .i64 (-1))]] fun v20 =>
        some (.norm [1] [v20])) (some (.norm [1] [(.undef)]))) <| app 1 <| fun v20 => 
    blkV (none) [1] (gdV v20 true true (chkV 2 v16 <|
        op1V Φ (.bin .geq 0) [[v16], [(.int .i64 64)]] fun v21 =>
        some (.norm [1] [v21])) (some (.norm [1] [(.undef)]))) <| app 1 <| fun v21 => 
    blkV (none) [1] (gdV v19 false false (op1V Φ (.pick) [[v20], [v21], [(.bool false)]] fun v22 =>
        chkV 2 v22 <|
        some (.norm [1] [v22])) (some (.norm [1] [(.undef)]))) <| app 1 <| fun v22 => 
    op1V Φ (.pick) [[v19], [(.bool true)], [v22]] fun v23 =>
    iteV v23 (chkV 2 v7 <|
      chkV 2 v16 <|
      op1V Φ (.conv .u8) [[v16]] fun v24 =>
      op1V Φ (.mk 5 [(false, [(0, 0)])]) [[v24]] fun v25 =>
      chkV 0 v7 <|
      op1V Φ (.app 5 1 false) [[v6], [v25]] fun v26 =>
      some (.ret [[v26]])) <|
    chkV 2 v7 <|
    chkV 2 v16 <|
    op1V Φ (.bin .add 0) [[v16], [(.int .i64 128)]] fun v24 =>
    op1V Φ (.conv .u8) [[v24]] fun v25 =>
    op1V Φ (.mk 5 [(false, [(0, 0)])]) [[v25]] fun v26 =>
    chkV 0 v7 <|
    op1V Φ (.app 5 1 false) [[v6], [v26]] fun v27 =>
    op1V Φ (.bin .add 0) [[v8], [(.int .i64 1)]] fun v28 =>
    some (.norm [1, 1, 1, 1, 1, 1] [v14, v4, v5, v27, (.unit), v28])) <|
  some (.exit 0 [1, 1, 1, 1, 1, 1] [v3, v4, v5, v7, v6, v8])
noncomputable def F30_0 (Φ : Funs) (n : Nat) (v0 v1 : V) : TR :=
  chkV 2 v0 <|
  op1V Φ (.app 5 1 true) [[(.list 5 [])], [v0]] fun v2 =>
  blkV (some 0) [1, 1, 1, 1, 1, 1] (lpV [1, 1, 1, 1, 1, 1] (F30_0_b0 Φ n) n [v1, (.unit), (.list 5 []), v2, (.unit), (.int .i64 0)]) <| app 6 <| fun v3 v4 v5 v6 v7 v8 => 
  chkV 2 v6 <|
  chkV 0 v6 <|
  chkV 2 v7 <|
  some (.ret [[v7]])
theorem x30_0 (Φ : Funs) (n : Nat) (v0 v1 : V) : (textE Tryd.prog sg [] Tryd.f30 g30_0).map (fun t => t.eval Φ n [v1, v0]) = some (F30_0 Φ n v0 v1) := by kernel_rfl

/-! colloquy/colloquyref06.Put -/
def g17_0 : Sig := { ps := [PSh.one (PM.lent), PSh.agg [PM.fz, PM.fz, PM.lent, PM.fz, PM.fz, PM.fz, PM.fz]], rs := [RSh.one (PM.own)] }
noncomputable def F17_0_b0 (Φ : Funs) (n : Nat) (v3 : V) : List V → TR := app 3 <| fun v12 v13 v14 => 
  chkV 2 v14 <|
  op1V Φ (.len) [[v3]] fun v15 =>
  op1V Φ (.bin .lss 0) [[v14], [v15]] fun v16 =>
  iteV v16 (chkV 2 v12 <|
    op1V Φ (.idx 3) [[v3], [v14]] fun v17 =>
    op1V Φ (.ldi 0 1 false [true]) [[v17]] fun v18 =>
    chkV 0 v12 <|
    chkV 2 v13 <|
    chkV 2 v18 <|
    callV Φ 30 0 [[v13], [v18]] 1 [(0, 0)] <| fun v19 => 
    op1V Φ (.bin .add 0) [[v14], [(.int .i64 1)]] fun v20 =>
    some (.norm [1, 1, 1] [(.unit), v19, v20])) <|
  some (.exit 1 [1, 1, 1] [v12, v13, v14])
noncomputable def F17_0 (Φ : Funs) (n : Nat) (v0 v1 v2 v3 v4 v5 v6 v7 : V) : TR :=
  chkV 2 v1 <|
  chkV 2 v2 <|
  chkV 2 v3 <|
  chkV 2 v4 <|
  chkV 2 v5 <|
  chkV 2 v6 <|
  chkV 2 v7 <|
  op1V Φ (.bin .eql 0) [[v1], [(.int .u8 0)]] fun v8 =>
  iteV v8 (chkV 2 v0 <|
    callV Φ 30 0 [[v0], [v2]] 1 [(0, 0)] <| fun v9 => 
    some (.ret [[v9]])) <|
  op1V Φ (.bin .eql 0) [[v1], [(.int .u8 1)]] fun v9 =>
  iteV v9 (chkV 2 v0 <|
    op1V Φ (.len) [[v3]] fun v10 =>
    callV Φ 30 0 [[v0], [v10]] 1 [(0, 0)] <| fun v11 => 
    blkV (some 1) [1, 1, 1] (lpV [1, 1, 1] (F17_0_b0 Φ n v3) n [(.unit), v11, (.int .i64 0)]) <| app 3 <| fun v12 v13 v14 => 
    chkV 2 v12 <|
    chkV 0 v12 <|
    chkV 2 v13 <|
    some (.ret [[v13]])) <|
  chkV 2 v0 <|
  op1V Φ (.lens) [[v4]] fun v10 =>
  callV Φ 30 0 [[v0], [v10]] 1 [(0, 0)] <| fun v11 => 
  op1V Φ (.byt 5) [[v4]] fun v12 =>
  op1V Φ (.app 5 1 false) [[v11], [v12]] fun v13 =>
  some (.ret [[v13]])
theorem x17_0 (Φ : Funs) (n : Nat) (v0 v1 v2 v3 v4 v5 v6 v7 : V) : (textE Tryd.prog sg [] Tryd.f17 g17_0).map (fun t => t.eval Φ n [v7, v6, v5, v4, v3, v2, v1, v0]) = some (F17_0 Φ n v0 v1 v2 v3 v4 v5 v6 v7) := by kernel_rfl

/-! colloquy/colloquyref04.Get -/
def g38_0 : Sig := { ps := [PSh.one (PM.lent)], rs := [RSh.one (PM.fz), RSh.one (PM.fz), RSh.one (PM.fz)] }
noncomputable def F38_0_b0 (Φ : Funs) (n : Nat) (v0 : V) : List V → TR := app 5 <| fun v1 v2 v3 v4 v5 => 
  chkV 2 v5 <|
  chkV 2 v0 <|
  op1V Φ (.len) [[v0]] fun v6 =>
  op1V Φ (.bin .lss 0) [[v5], [v6]] fun v7 =>
  blkV (none) [1] (gdV v7 true false (op1V Φ (.bin .lss 0) [[v5], [(.int .i64 10)]] fun v8 =>
      some (.norm [1] [v8])) (some (.norm [1] [(.undef)]))) <| app 1 <| fun v8 => 
  op1V Φ (.pick) [[v7], [v8], [(.bool false)]] fun v9 =>
  iteV v9 (blkV (some 1) [1, 1, 1, 1] (chkV 2 v1 <|
      op1V Φ (.idx 5) [[v0], [v5]] fun v10 =>
      op1V Φ (.ldi 0 1 false [true]) [[v10]] fun v11 =>
      op1V Φ (.bin .rem 0) [[v11], [(.int .u8 128)]] fun v12 =>
      op1V Φ (.conv .u64) [[v12]] fun v13 =>
      op1V Φ (.bin .mul 0) [[(.int .i64 7)], [v5]] fun v14 =>
      op1V Φ (.conv .u64) [[v14]] fun v15 =>
      op1V Φ (.bin .shl 0) [[v13], [v15]] fun v16 =>
      op1V Φ (.bin .add 0) [[v1], [v16]] fun v17 =>
      op1V Φ (.idx 5) [[v0], [v5]] fun v18 =>
      op1V Φ (.ldi 0 1 false [true]) [[v18]] fun v19 =>
      op1V Φ (.bin .geq 0) [[v19], [(.int .u8 128)]] fun v20 =>
      iteV v20 (some (.exit 1 [1, 1, 1, 1] [v2, v3, v4, v17])) <|
      op1V Φ (.idx 5) [[v0], [v5]] fun v21 =>
      op1V Φ (.ldi 0 1 false [true]) [[v21]] fun v22 =>
      op1V Φ (.bin .geq 0) [[v22], [(.int .u8 64)]] fun v23 =>
      blkV (none) [1] (gdV v23 true false (op1V Φ (.bin .lss 0) [[v5], [(.int .i64 9)]] fun v24 =>
          some (.norm [1] [v24])) (some (.norm [1] [(.undef)]))) <| app 1 <| fun v24 => 
      op1V Φ (.pick) [[v23], [v24], [(.bool false)]] fun v25 =>
      blkV (none) [1] (iteV v25 (op1V Φ (.bin .mul 0) [[(.int .i64 7)], [v5]] fun v26 =>
          op1V Φ (.conv .u64) [[v26]] fun v27 =>
          op1V Φ (.bin .shl 0) [[(.int .u64 128)], [v27]] fun v28 =>
          op1V Φ (.bin .sub 0) [[v17], [v28]] fun v29 =>
          some (.norm [1] [v29])) <|
        some (.norm [1] [v17])) <| app 1 <| fun v26 => 
      chkV 2 v26 <|
      op1V Φ (.conv .i64) [[v26]] fun v27 =>
      callV Φ 30 0 [[(.list 5 [])], [v27]] 1 [(0, 0)] <| fun v28 => 
      op1V Φ (.str 5) [[v28]] fun v29 =>
      op1V Φ (.bin .add 0) [[v5], [(.int .i64 1)]] fun v30 =>
      op1V Φ (.slc 5 false true) [[v0], [v30]] fun v31 =>
      op1V Φ (.str 5) [[v31]] fun v32 =>
      op1V Φ (.bin .eql 1) [[v29], [v32]] fun v33 =>
      iteV v33 (op1V Φ (.bin .add 0) [[v5], [(.int .i64 1)]] fun v34 =>
        some (.ret [[v27], [v34], [(.int .i64 0)]])) <|
      some (.ret [[(.int .i64 0)], [(.int .i64 0)], [(.int .i64 2)]])) <| app 4 <| fun v10 v11 v12 v13 => 
    op1V Φ (.bin .add 0) [[v5], [(.int .i64 1)]] fun v14 =>
    some (.norm [1, 1, 1, 1, 1] [v13, v10, v11, v12, v14])) <|
  some (.exit 0 [1, 1, 1, 1, 1] [v2, v3, v4, v1, v5])
noncomputable def F38_0 (Φ : Funs) (n : Nat) (v0 : V) : TR :=
  blkV (some 0) [1, 1, 1, 1, 1] (lpV [1, 1, 1, 1, 1] (F38_0_b0 Φ n v0) n [(.int .u64 0), (.int .i64 0), (.int .i64 0), (.int .i64 0), (.int .i64 0)]) <| app 5 <| fun v1 v2 v3 v4 v5 => 
  some (.ret [[(.int .i64 0)], [(.int .i64 0)], [(.int .i64 2)]])
theorem x38_0 (Φ : Funs) (n : Nat) (v0 : V) : (textE Tryd.prog sg [] Tryd.f38 g38_0).map (fun t => t.eval Φ n [v0]) = some (F38_0 Φ n v0) := by kernel_rfl

/-! colloquy/colloquyref06.num -/
def g31_0 : Sig := { ps := [PSh.one (PM.lent), PSh.one (PM.fz), PSh.one (PM.fz), PSh.one (PM.fz)], rs := [RSh.one (PM.fz), RSh.one (PM.fz)] }
noncomputable def F31_0 (Φ : Funs) (n : Nat) (v0 v1 v2 v3 : V) : TR :=
  chkV 2 v1 <|
  op1V Φ (.bin .lss 0) [[v1], [(.int .i64 0)]] fun v4 =>
  iteV v4 (some (.ret [[(.int .i64 0)], [(.int .i64 (-1))]])) <|
  chkV 2 v0 <|
  op1V Φ (.slc 5 true false) [[v0], [v1]] fun v5 =>
  callV Φ 38 0 [[v5]] 3 [(0, 0), (1, 0), (2, 0)] <| fun v6 v7 v8 => 
  op1V Φ (.bin .neq 0) [[v8], [(.int .i64 0)]] fun v9 =>
  blkV (none) [1] (gdV v9 false false (chkV 2 v2 <|
      op1V Φ (.bin .lss 0) [[v6], [v2]] fun v10 =>
      some (.norm [1] [v10])) (some (.norm [1] [(.undef)]))) <| app 1 <| fun v10 => 
  op1V Φ (.pick) [[v9], [(.bool true)], [v10]] fun v11 =>
  chkV 2 v11 <|
  blkV (none) [1] (gdV v11 false false (chkV 2 v3 <|
      op1V Φ (.bin .gtr 0) [[v6], [v3]] fun v12 =>
      some (.norm [1] [v12])) (some (.norm [1] [(.undef)]))) <| app 1 <| fun v12 => 
  op1V Φ (.pick) [[v11], [(.bool true)], [v12]] fun v13 =>
  iteV v13 (some (.ret [[(.int .i64 0)], [(.int .i64 (-1))]])) <|
  op1V Φ (.bin .add 0) [[v1], [v7]] fun v14 =>
  some (.ret [[v6], [v14]])
theorem x31_0 (Φ : Funs) (n : Nat) (v0 v1 v2 v3 : V) : (textE Tryd.prog sg [] Tryd.f31 g31_0).map (fun t => t.eval Φ n [v3, v2, v1, v0]) = some (F31_0 Φ n v0 v1 v2 v3) := by kernel_rfl

/-! colloquy/colloquyref06.Take -/
def g18_0 : Sig := { ps := [PSh.one (PM.lent), PSh.one (PM.fz), PSh.agg [PM.fz, PM.fz, PM.lent, PM.fz, PM.fz, PM.fz, PM.fz]], rs := [RSh.agg [PM.fz, PM.fz, PM.own, PM.fz, PM.fz, PM.fz, PM.fz], RSh.one (PM.fz)] }
noncomputable def F18_0_b0 (Φ : Funs) (n : Nat) (v0 v7 v8 v10 : V) : List V → TR := app 10 <| fun v16 v17 v18 v19 v20 v21 v22 v23 v24 v25 => 
  chkV 2 v25 <|
  op1V Φ (.bin .lss 0) [[v25], [v10]] fun v26 =>
  blkV (none) [1] (gdV v26 true false (chkV 2 v16 <|
      op1V Φ (.bin .geq 0) [[v16], [(.int .i64 0)]] fun v27 =>
      some (.norm [1] [v27])) (some (.norm [1] [(.undef)]))) <| app 1 <| fun v27 => 
  op1V Φ (.pick) [[v26], [v27], [(.bool false)]] fun v28 =>
  iteV v28 (chkV 2 v16 <|
    callV Φ 31 0 [[v0], [v16], [v7], [v8]] 2 [(0, 0), (1, 0)] <| fun v29 v30 => 
    chkV 2 v20 <|
    op1V Φ (.mk 3 [(false, [(0, 0)])]) [[v29]] fun v31 =>
    chkV 0 v20 <|
    op1V Φ (.app 3 8 false) [[v17], [v31]] fun v32 =>
    chkV 2 v18 <|
    chkV 2 v19 <|
    chkV 2 v21 <|
    chkV 2 v22 <|
    chkV 2 v23 <|
    chkV 2 v24 <|
    op1V Φ (.bin .add 0) [[v25], [(.int .i64 1)]] fun v33 =>
    some (.norm [1, 1, 7, 1] [v30, v32, v18, v19, (.unit), v21, v22, v23, v24, v33])) <|
  some (.exit 0 [1, 1, 7, 1] [v16, v25, v18, v19, v20, v21, v22, v23, v24, v17])
noncomputable def F18_0 (Φ : Funs) (n : Nat) (v0 v1 v2 v3 v4 v5 v6 v7 v8 : V) : TR :=
  chkV 2 v2 <|
  chkV 2 v3 <|
  chkV 2 v4 <|
  chkV 2 v5 <|
  chkV 2 v6 <|
  chkV 2 v7 <|
  chkV 2 v8 <|
  op1V Φ (.bin .eql 0) [[v2], [(.int .u8 0)]] fun v9 =>
  iteV v9 (chkV 2 v0 <|
    chkV 2 v1 <|
    callV Φ 31 0 [[v0], [v1], [v7], [v8]] 2 [(0, 0), (1, 0)] <| fun v10 v11 => 
    some (.ret [[v2, v10, (.list 3 []), (.str ⟨#[]⟩), (.int .i64 0), (.int .i64 0), (.int .i64 0)], [v11]])) <|
  chkV 2 v0 <|
  chkV 2 v1 <|
  callV Φ 31 0 [[v0], [v1], [(.int .i64 0)], [v6]] 2 [(0, 0), (1, 0)] <| fun v10 v11 => 
  op1V Φ (.bin .lss 0) [[v11], [(.int .i64 0)]] fun v12 =>
  blkV (none) [1] (gdV v12 false false (op1V Φ (.len) [[v0]] fun v13 =>
      op1V Φ (.bin .sub 0) [[v13], [v11]] fun v14 =>
      op1V Φ (.bin .gtr 0) [[v10], [v14]] fun v15 =>
      some (.norm [1] [v15])) (some (.norm [1] [(.undef)]))) <| app 1 <| fun v13 => 
  op1V Φ (.pick) [[v12], [(.bool true)], [v13]] fun v14 =>
  iteV v14 (some (.ret [[v2, (.int .i64 0), (.list 3 []), (.str ⟨#[]⟩), (.int .i64 0), (.int .i64 0), (.int .i64 0)], [(.int .i64 (-1))]])) <|
  op1V Φ (.bin .eql 0) [[v2], [(.int .u8 1)]] fun v15 =>
  iteV v15 (blkV (some 0) [1, 1, 7, 1] (lpV [1, 1, 7, 1] (F18_0_b0 Φ n v0 v7 v8 v10) n [v11, (.list 3 []), v2, (.int .i64 0), (.unit), (.str ⟨#[]⟩), (.int .i64 0), (.int .i64 0), (.int .i64 0), (.int .i64 0)]) <| app 10 <| fun v16 v17 v18 v19 v20 v21 v22 v23 v24 v25 => 
    chkV 2 v16 <|
    op1V Φ (.bin .lss 0) [[v16], [(.int .i64 0)]] fun v26 =>
    blkV (none) [7, 1] (iteV v26 (chkV 2 v18 <|
        chkV 2 v19 <|
        chkV 2 v21 <|
        chkV 2 v22 <|
        chkV 2 v23 <|
        chkV 2 v24 <|
        some (.norm [7, 1] [v18, v19, (.unit), v21, v22, v23, v24, (.list 3 [])])) <|
      some (.norm [7, 1] [v18, v19, v20, v21, v22, v23, v24, v25])) <| app 8 <| fun v27 v28 v29 v30 v31 v32 v33 v34 => 
    chkV 2 v27 <|
    chkV 2 v28 <|
    chkV 2 v29 <|
    chkV 2 v30 <|
    chkV 2 v31 <|
    chkV 2 v32 <|
    chkV 2 v33 <|
    chkV 0 v29 <|
    chkV 2 v34 <|
    some (.ret [[v27, v28, v34, v30, v31, v32, v33], [v16]])) <|
  op1V Φ (.bin .add 0) [[v11], [v10]] fun v16 =>
  op1V Φ (.slc 5 true true) [[v0], [v11], [v16]] fun v17 =>
  op1V Φ (.str 5) [[v17]] fun v18 =>
  op1V Φ (.bin .add 0) [[v11], [v10]] fun v19 =>
  some (.ret [[v2, (.int .i64 0), (.list 3 []), v18, (.int .i64 0), (.int .i64 0), (.int .i64 0)], [v19]])
theorem x18_0 (Φ : Funs) (n : Nat) (v0 v1 v2 v3 v4 v5 v6 v7 v8 : V) : (textE Tryd.prog sg [] Tryd.f18 g18_0).map (fun t => t.eval Φ n [v8, v7, v6, v5, v4, v3, v2, v1, v0]) = some (F18_0 Φ n v0 v1 v2 v3 v4 v5 v6 v7 v8) := by kernel_rfl

/-! colloquy/colloquylaw06.read -/
def g20_0 : Sig := { ps := [PSh.ptr false [PM.own, PM.fz], PSh.agg [PM.fz, PM.fz, PM.lent, PM.fz, PM.fz, PM.fz, PM.fz]], rs := [RSh.agg [PM.fz, PM.fz, PM.own, PM.fz, PM.fz, PM.fz, PM.fz]] }
noncomputable def F20_0 (Φ : Funs) (n : Nat) (v0 v1 v2 v3 v4 v5 v6 v7 v8 : V) : TR :=
  chkV 2 v2 <|
  chkV 2 v3 <|
  chkV 2 v4 <|
  chkV 2 v5 <|
  chkV 2 v6 <|
  chkV 2 v7 <|
  chkV 2 v8 <|
  op1V Φ (.bin .eql 0) [[v2], [(.int .u8 0)]] fun v9 =>
  blkV (none) [2, 1, 7, 1] (iteV v9 (chkV 2 v0 <|
      chkV 2 v1 <|
      callV Φ 9 0 [[v0, v1], [v7], [v8]] 3 [(0, 0), (1, 1), (1, 0)] <| fun v10 v11 v12 => 
      some (.norm [2, 1, 7, 1] [(.unit), v11, v12, v2, v10, (.unit), (.str ⟨#[]⟩), (.int .i64 0), (.int .i64 0), (.int .i64 0), (.list 3 [])])) <|
    op1V Φ (.bin .eql 0) [[v2], [(.int .u8 1)]] fun v10 =>
    blkV (none) [2, 1, 7, 1] (iteV v10 (chkV 2 v0 <|
        chkV 2 v1 <|
        callV Φ 10 0 [[v0, v1], [v6], [v7], [v8]] 3 [(0, 0), (1, 1), (1, 0)] <| fun v11 v12 v13 => 
        some (.norm [2, 1, 7, 1] [(.unit), v12, v13, v2, (.int .i64 0), (.unit), (.str ⟨#[]⟩), (.int .i64 0), (.int .i64 0), (.int .i64 0), v11])) <|
      chkV 2 v0 <|
      chkV 2 v1 <|
      callV Φ 11 0 [[v0, v1], [v6]] 3 [(0, 0), (1, 1), (1, 0)] <| fun v11 v12 v13 => 
      some (.norm [2, 1, 7, 1] [(.unit), v12, v13, v2, (.int .i64 0), (.unit), v11, (.int .i64 0), (.int .i64 0), (.int .i64 0), (.list 3 [])])) <| app 11 <| fun v11 v12 v13 v14 v15 v16 v17 v18 v19 v20 v21 => 
    some (.norm [2, 1, 7, 1] [v11, v12, v13, v14, v15, v16, v17, v18, v19, v20, v21])) <| app 11 <| fun v10 v11 v12 v13 v14 v15 v16 v17 v18 v19 v20 => 
  chkV 2 v13 <|
  chkV 2 v14 <|
  chkV 2 v15 <|
  chkV 2 v16 <|
  chkV 2 v17 <|
  chkV 2 v18 <|
  chkV 2 v19 <|
  chkV 0 v15 <|
  chkV 0 v10 <|
  chkV 2 v20 <|
  chkV 2 v12 <|
  chkV 2 v11 <|
  some (.ret [[v13, v14, v20, v16, v17, v18, v19], [v12, v11]])
theorem x20_0 (Φ : Funs) (n : Nat) (v0 v1 v2 v3 v4 v5 v6 v7 v8 : V) : (textE Tryd.prog sg [] Tryd.f20 g20_0).map (fun t => t.eval Φ n [v8, v7, v6, v5, v4, v3, v2, v1, v0]) = some (F20_0 Φ n v0 v1 v2 v3 v4 v5 v6 v7 v8) := by kernel_rfl

/-! colloquy/colloquylaw06.same -/
def g19_0 : Sig := { ps := [PSh.agg [PM.fz, PM.fz, PM.lent, PM.fz, PM.fz, PM.fz, PM.fz], PSh.agg [PM.fz, PM.fz, PM.lent, PM.fz, PM.fz, PM.fz, PM.fz]], rs := [RSh.one (PM.fz)] }
noncomputable def F19_0 (Φ : Funs) (n : Nat) (v0 v1 v2 v3 v4 v5 v6 v7 v8 v9 v10 v11 v12 v13 : V) : TR :=
  chkV 2 v0 <|
  chkV 2 v1 <|
  chkV 2 v2 <|
  chkV 2 v3 <|
  chkV 2 v4 <|
  chkV 2 v5 <|
  chkV 2 v6 <|
  chkV 2 v7 <|
  chkV 2 v8 <|
  chkV 2 v9 <|
  chkV 2 v10 <|
  chkV 2 v11 <|
  chkV 2 v12 <|
  chkV 2 v13 <|
  op1V Φ (.bin .eql 0) [[v0], [v7]] fun v14 =>
  blkV (none) [1] (gdV v14 true false (op1V Φ (.bin .eql 0) [[v1], [v8]] fun v15 =>
      some (.norm [1] [v15])) (some (.norm [1] [(.undef)]))) <| app 1 <| fun v15 => 
  op1V Φ (.pick) [[v14], [v15], [(.bool false)]] fun v16 =>
  chkV 2 v16 <|
  blkV (none) [1] (gdV v16 true false (callV Φ 21 0 [[v2], [v9]] 1 [(0, 0)] <| fun v17 => 
      some (.norm [1] [v17])) (some (.norm [1] [(.undef)]))) <| app 1 <| fun v17 => 
  op1V Φ (.pick) [[v16], [v17], [(.bool false)]] fun v18 =>
  chkV 2 v18 <|
  blkV (none) [1] (gdV v18 true false (op1V Φ (.bin .eql 1) [[v3], [v10]] fun v19 =>
      some (.norm [1] [v19])) (some (.norm [1] [(.undef)]))) <| app 1 <| fun v19 => 
  op1V Φ (.pick) [[v18], [v19], [(.bool false)]] fun v20 =>
  chkV 2 v20 <|
  some (.ret [[v20]])
theorem x19_0 (Φ : Funs) (n : Nat) (v0 v1 v2 v3 v4 v5 v6 v7 v8 v9 v10 v11 v12 v13 : V) : (textE Tryd.prog sg [] Tryd.f19 g19_0).map (fun t => t.eval Φ n [v13, v12, v11, v10, v9, v8, v7, v6, v5, v4, v3, v2, v1, v0]) = some (F19_0 Φ n v0 v1 v2 v3 v4 v5 v6 v7 v8 v9 v10 v11 v12 v13) := by kernel_rfl

/-! colloquy/colloquylaw06.PackFields -/
def g3_0 : Sig := { ps := [PSh.one (PM.lent), PSh.one (PM.lent)], rs := [RSh.one (PM.fz)] }
noncomputable def F3_0_b0 (Φ : Funs) (n : Nat) (v0 v1 v16 : V) : List V → TR := app 10 <| fun v19 v20 v21 v22 v23 v24 v25 v26 v27 v28 => 
  chkV 2 v28 <|
  op1V Φ (.len) [[v0]] fun v29 =>
  op1V Φ (.bin .lss 0) [[v28], [v29]] fun v30 =>
  iteV v30 (op1V Φ (.idx 29) [[v0], [v28]] fun v31 =>
    opnV Φ (.ldi 0 7 true [true, true, false, true, true, true, true]) [[v31]] 7 <| fun v32 v33 v34 v35 v36 v37 v38 => 
    chkV 0 v19 <|
    chkV 2 v20 <|
    chkV 2 v32 <|
    chkV 2 v33 <|
    chkV 2 v34 <|
    chkV 2 v35 <|
    chkV 2 v36 <|
    chkV 2 v37 <|
    chkV 2 v38 <|
    callV Φ 6 0 [[v20], [v32, v33, v34, v35, v36, v37, v38]] 1 [(0, 0)] <| fun v39 => 
    chkV 2 v21 <|
    op1V Φ (.idx 29) [[v0], [v28]] fun v40 =>
    opnV Φ (.ldi 0 7 true [true, true, false, true, true, true, true]) [[v40]] 7 <| fun v41 v42 v43 v44 v45 v46 v47 => 
    chkV 0 v21 <|
    chkV 2 v22 <|
    chkV 2 v41 <|
    chkV 2 v42 <|
    chkV 2 v43 <|
    chkV 2 v44 <|
    chkV 2 v45 <|
    chkV 2 v46 <|
    chkV 2 v47 <|
    callV Φ 17 0 [[v22], [v41, v42, v43, v44, v45, v46, v47]] 1 [(0, 0)] <| fun v48 => 
    chkV 2 v23 <|
    op1V Φ (.idx 29) [[v0], [v28]] fun v49 =>
    opnV Φ (.ldi 0 7 true [true, true, false, true, true, true, true]) [[v49]] 7 <| fun v50 v51 v52 v53 v54 v55 v56 => 
    chkV 2 v50 <|
    chkV 2 v51 <|
    chkV 2 v52 <|
    chkV 2 v53 <|
    chkV 2 v54 <|
    chkV 2 v55 <|
    chkV 2 v56 <|
    callV Φ 18 0 [[v1], [v23], [v50, v51, v52, v53, v54, v55, v56]] 8 [(0, 0), (0, 1), (0, 3), (0, 4), (0, 5), (0, 6), (1, 0), (0, 2)] <| fun v57 v58 v59 v60 v61 v62 v63 v64 => 
    op1V Φ (.idx 29) [[v0], [v28]] fun v65 =>
    opnV Φ (.ldi 0 7 true [true, true, false, true, true, true, true]) [[v65]] 7 <| fun v66 v67 v68 v69 v70 v71 v72 => 
    chkV 0 v24 <|
    chkV 1 v16 <|
    chkV 2 v26 <|
    chkV 2 v25 <|
    chkV 2 v66 <|
    chkV 2 v67 <|
    chkV 2 v68 <|
    chkV 2 v69 <|
    chkV 2 v70 <|
    chkV 2 v71 <|
    chkV 2 v72 <|
    callV Φ 20 0 [[v26, v25], [v66, v67, v68, v69, v70, v71, v72]] 9 [(0, 0), (0, 1), (0, 3), (0, 4), (0, 5), (0, 6), (0, 2), (1, 1), (1, 0)] <| fun v73 v74 v75 v76 v77 v78 v79 v80 v81 => 
    callV Φ 19 0 [[v73, v74, v79, v75, v76, v77, v78], [v57, v58, v64, v59, v60, v61, v62]] 1 [(0, 0)] <| fun v82 => 
    op1V Φ (.un .not) [[v82]] fun v83 =>
    blkV (none) [1] (gdV v83 false false (callV Φ 8 0 [[v39]] 1 [(0, 0)] <| fun v84 => 
        op1V Φ (.str 5) [[v84]] fun v85 =>
        op1V Φ (.str 5) [[v48]] fun v86 =>
        op1V Φ (.bin .neq 1) [[v85], [v86]] fun v87 =>
        some (.norm [1] [v87])) (some (.norm [1] [(.undef)]))) <| app 1 <| fun v84 => 
    op1V Φ (.pick) [[v83], [(.bool true)], [v84]] fun v85 =>
    iteV v85 (some (.ret [[(.bool false)]])) <|
    chkV 1 v16 <|
    callV Φ 13 0 [[v81, v80]] 1 [(0, 0)] <| fun v86 => 
    op1V Φ (.bin .eql 3) [[v86], [(.nilI)]] fun v87 =>
    op1V Φ (.len) [[v1]] fun v88 =>
    op1V Φ (.bin .eql 0) [[v63], [v88]] fun v89 =>
    op1V Φ (.bin .neq 2) [[v87], [v89]] fun v90 =>
    blkV (none) [1] (gdV v90 false false (op1V Φ (.bin .neq 3) [[v86], [(.nilI)]] fun v91 =>
        some (.norm [1] [v91])) (some (.norm [1] [(.undef)]))) <| app 1 <| fun v91 => 
    blkV (none) [1] (gdV v91 true true (callV Φ 12 0 [[v86]] 1 [(0, 0)] <| fun v92 => 
        op1V Φ (.bin .neq 0) [[v92], [(.int .i64 2)]] fun v93 =>
        some (.norm [1] [v93])) (some (.norm [1] [(.undef)]))) <| app 1 <| fun v92 => 
    blkV (none) [1] (gdV v90 false false (op1V Φ (.pick) [[v91], [v92], [(.bool false)]] fun v93 =>
        chkV 2 v93 <|
        some (.norm [1] [v93])) (some (.norm [1] [(.undef)]))) <| app 1 <| fun v93 => 
    op1V Φ (.pick) [[v90], [(.bool true)], [v93]] fun v94 =>
    iteV v94 (some (.ret [[(.bool false)]])) <|
    op1V Φ (.bin .add 0) [[v28], [(.int .i64 1)]] fun v95 =>
    some (.norm [1, 1, 1, 1, 1, 2, 1, 1, 1] [(.unit), v39, (.unit), v48, v63, (.unit), v80, v81, v27, v95])) <|
  some (.exit 0 [1, 1, 1, 1, 1, 1, 1, 2, 1] [v27, v21, v22, v23, v28, v19, v20, v24, v25, v26])
noncomputable def F3_0 (Φ : Funs) (n : Nat) (v0 v1 : V) : TR :=
  callV Φ 6 1 [[], [(.int .u8 0), (.int .i64 0), (.list 3 []), (.str ⟨#[]⟩), (.int .i64 0), (.int .i64 0), (.int .i64 0)]] 0 [] <| 
  callV Φ 7 1 [[], [(.str ⟨#[120]⟩)]] 0 [] <| 
  callV Φ 8 1 [[]] 1 [(0, 0)] <| fun v2 => 
  op1V Φ (.len) [[v2]] fun v3 =>
  op1V Φ (.bin .neq 0) [[v3], [(.int .i64 0)]] fun v4 =>
  blkV (none) [1] (gdV v4 false false (callV Φ 9 1 [[], [(.int .i64 0)], [(.int .i64 9)]] 1 [(0, 0)] <| fun v5 => 
      op1V Φ (.bin .neq 0) [[v5], [(.int .i64 0)]] fun v6 =>
      some (.norm [1] [v6])) (some (.norm [1] [(.undef)]))) <| app 1 <| fun v5 => 
  op1V Φ (.pick) [[v4], [(.bool true)], [v5]] fun v6 =>
  chkV 2 v6 <|
  blkV (none) [1] (gdV v6 false false (callV Φ 10 1 [[], [(.int .i64 3)], [(.int .i64 0)], [(.int .i64 3)]] 1 [(0, 0)] <| fun v7 => 
      op1V Φ (.len) [[v7]] fun v8 =>
      op1V Φ (.bin .neq 0) [[v8], [(.int .i64 0)]] fun v9 =>
      some (.norm [1] [v9])) (some (.norm [1] [(.undef)]))) <| app 1 <| fun v7 => 
  op1V Φ (.pick) [[v6], [(.bool true)], [v7]] fun v8 =>
  chkV 2 v8 <|
  blkV (none) [1] (gdV v8 false false (callV Φ 11 1 [[], [(.int .i64 3)]] 1 [(0, 0)] <| fun v9 => 
      op1V Φ (.bin .neq 1) [[v9], [(.str ⟨#[]⟩)]] fun v10 =>
      some (.norm [1] [v10])) (some (.norm [1] [(.undef)]))) <| app 1 <| fun v9 => 
  op1V Φ (.pick) [[v8], [(.bool true)], [v9]] fun v10 =>
  chkV 2 v10 <|
  blkV (none) [1] (gdV v10 false false (callV Φ 13 1 [[]] 1 [(0, 0)] <| fun v11 => 
      callV Φ 12 0 [[v11]] 1 [(0, 0)] <| fun v12 => 
      op1V Φ (.bin .neq 0) [[v12], [(.int .i64 2)]] fun v13 =>
      some (.norm [1] [v13])) (some (.norm [1] [(.undef)]))) <| app 1 <| fun v11 => 
  op1V Φ (.pick) [[v10], [(.bool true)], [v11]] fun v12 =>
  iteV v12 (some (.ret [[(.bool false)]])) <|
  chkV 2 v0 <|
  callV Φ 14 0 [[v0]] 1 [(0, 0)] <| fun v13 => 
  blkV (none) [1] (gdV v13 false false (chkV 2 v1 <|
      op1V Φ (.len) [[v1]] fun v14 =>
      op1V Φ (.bin .gtr 0) [[v14], [(.int .i64 900)]] fun v15 =>
      some (.norm [1] [v15])) (some (.norm [1] [(.undef)]))) <| app 1 <| fun v14 => 
  op1V Φ (.pick) [[v13], [(.bool true)], [v14]] fun v15 =>
  iteV v15 (callV Φ 15 0 [] 1 [(0, 0)] <| fun v16 => 
    some (.ret [[v16]])) <|
  chkV 2 v1 <|
  callV Φ 16 0 [[v1]] 3 [(0, 0), (0, 2), (0, 1)] <| fun v16 v17 v18 => 
  blkV (some 0) [1, 1, 1, 1, 1, 1, 1, 2, 1] (lpV [1, 1, 1, 1, 1, 2, 1, 1, 1] (F3_0_b0 Φ n v0 v1 v16) n [(.unit), (.list 5 []), (.unit), (.list 5 []), (.int .i64 0), (.unit), v17, v18, (.bool false), (.int .i64 0)]) <| app 10 <| fun v19 v20 v21 v22 v23 v24 v25 v26 v27 v28 => 
  callV Φ 15 0 [] 1 [(0, 0)] <| fun v29 => 
  some (.ret [[v29]])
theorem x3_0 (Φ : Funs) (n : Nat) (v0 v1 : V) : (textE Tryd.prog sg [] Tryd.f3 g3_0).map (fun t => t.eval Φ n [v1, v0]) = some (F3_0 Φ n v0 v1) := by kernel_rfl

/-! colloquy/colloquylaw06.PackBack -/
def g4_0 : Sig := { ps := [PSh.one (PM.lent), PSh.one (PM.fz)], rs := [RSh.one (PM.fz)] }
noncomputable def F4_0_b0 (Φ : Funs) (n : Nat) (v0 : V) : List V → TR := app 3 <| fun v3 v4 v5 => 
  chkV 2 v5 <|
  op1V Φ (.len) [[v0]] fun v6 =>
  op1V Φ (.bin .lss 0) [[v5], [v6]] fun v7 =>
  iteV v7 (op1V Φ (.idx 29) [[v0], [v5]] fun v8 =>
    opnV Φ (.ldi 0 7 true [true, true, false, true, true, true, true]) [[v8]] 7 <| fun v9 v10 v11 v12 v13 v14 v15 => 
    chkV 0 v3 <|
    chkV 2 v4 <|
    chkV 2 v9 <|
    chkV 2 v10 <|
    chkV 2 v11 <|
    chkV 2 v12 <|
    chkV 2 v13 <|
    chkV 2 v14 <|
    chkV 2 v15 <|
    callV Φ 6 0 [[v4], [v9, v10, v11, v12, v13, v14, v15]] 1 [(0, 0)] <| fun v16 => 
    op1V Φ (.bin .add 0) [[v5], [(.int .i64 1)]] fun v17 =>
    some (.norm [1, 1, 1] [(.unit), v16, v17])) <|
  some (.exit 0 [1, 1, 1] [v5, v3, v4])
noncomputable def F4_0_b1 (Φ : Funs) (n : Nat) (v0 v7 v15 : V) : List V → TR := app 8 <| fun v18 v19 v20 v21 v22 v23 v24 v25 => 
  chkV 2 v25 <|
  op1V Φ (.len) [[v0]] fun v26 =>
  op1V Φ (.bin .lss 0) [[v25], [v26]] fun v27 =>
  iteV v27 (op1V Φ (.idx 29) [[v0], [v25]] fun v28 =>
    opnV Φ (.ldi 0 7 true [true, true, false, true, true, true, true]) [[v28]] 7 <| fun v29 v30 v31 v32 v33 v34 v35 => 
    chkV 2 v29 <|
    chkV 2 v30 <|
    chkV 2 v31 <|
    chkV 2 v32 <|
    chkV 2 v33 <|
    chkV 2 v34 <|
    chkV 2 v35 <|
    chkV 0 v18 <|
    chkV 1 v7 <|
    chkV 2 v20 <|
    chkV 2 v19 <|
    callV Φ 20 0 [[v20, v19], [v29, v30, v31, v32, (.int .i64 300), (.int .i64 (-9223372036854775808)), (.int .i64 9223372036854775807)]] 9 [(0, 0), (0, 1), (0, 3), (0, 4), (0, 5), (0, 6), (0, 2), (1, 1), (1, 0)] <| fun v36 v37 v38 v39 v40 v41 v42 v43 v44 => 
    chkV 0 v21 <|
    chkV 1 v15 <|
    chkV 2 v23 <|
    chkV 2 v22 <|
    callV Φ 20 0 [[v23, v22], [v29, v30, v31, v32, (.int .i64 300), (.int .i64 (-9223372036854775808)), (.int .i64 9223372036854775807)]] 9 [(0, 0), (0, 1), (0, 3), (0, 4), (0, 5), (0, 6), (0, 2), (1, 1), (1, 0)] <| fun v45 v46 v47 v48 v49 v50 v51 v52 v53 => 
    op1V Φ (.bin .eql 0) [[v29], [(.int .u8 0)]] fun v54 =>
    blkV (none) [1] (iteV v54 (op1V Φ (.bin .neq 0) [[v37], [v30]] fun v55 =>
        iteV v55 (some (.ret [[(.bool false)]])) <|
        some (.norm [1] [v24])) <|
      op1V Φ (.bin .eql 0) [[v29], [(.int .u8 1)]] fun v55 =>
      blkV (none) [1] (iteV v55 (callV Φ 21 0 [[v42], [v31]] 1 [(0, 0)] <| fun v56 => 
          op1V Φ (.un .not) [[v56]] fun v57 =>
          iteV v57 (some (.ret [[(.bool false)]])) <|
          some (.norm [1] [v24])) <|
        op1V Φ (.bin .neq 1) [[v38], [v32]] fun v56 =>
        iteV v56 (some (.ret [[(.bool false)]])) <|
        some (.norm [1] [v24])) <| app 1 <| fun v56 => 
      some (.norm [1] [v56])) <| app 1 <| fun v55 => 
    op1V Φ (.bin .add 0) [[v25], [(.int .i64 1)]] fun v56 =>
    some (.norm [2, 1, 2, 1, 1, 1] [(.unit), v43, v44, (.unit), v52, v53, v55, v56])) <|
  some (.exit 2 [1, 1, 2, 1, 2, 1] [v24, v25, v18, v19, v20, v21, v22, v23])
noncomputable def F4_0 (Φ : Funs) (n : Nat) (v0 v1 : V) : TR :=
  chkV 2 v0 <|
  callV Φ 14 0 [[v0]] 1 [(0, 0)] <| fun v2 => 
  iteV v2 (callV Φ 15 0 [] 1 [(0, 0)] <| fun v3 => 
    some (.ret [[v3]])) <|
  blkV (some 0) [1, 1, 1] (lpV [1, 1, 1] (F4_0_b0 Φ n v0) n [(.unit), (.list 5 []), (.int .i64 0)]) <| app 3 <| fun v3 v4 v5 => 
  chkV 0 v4 <|
  chkV 2 v5 <|
  callV Φ 8 0 [[v5]] 1 [(0, 0)] <| fun v6 => 
  callV Φ 16 0 [[v6]] 3 [(0, 0), (0, 2), (0, 1)] <| fun v7 v8 v9 => 
  chkV 2 v1 <|
  op1V Φ (.conv .i64) [[v1]] fun v10 =>
  op1V Φ (.len) [[v6]] fun v11 =>
  op1V Φ (.mx) [[(.int .i64 1)], [v11]] fun v12 =>
  op1V Φ (.bin .rem 0) [[v10], [v12]] fun v13 =>
  op1V Φ (.slc 5 false true) [[v6], [v13]] fun v14 =>
  callV Φ 16 0 [[v14]] 3 [(0, 0), (0, 2), (0, 1)] <| fun v15 v16 v17 => 
  blkV (some 2) [1, 1, 2, 1, 2, 1] (lpV [2, 1, 2, 1, 1, 1] (F4_0_b1 Φ n v0 v7 v15) n [(.unit), v8, v9, (.unit), v16, v17, (.bool false), (.int .i64 0)]) <| app 8 <| fun v18 v19 v20 v21 v22 v23 v24 v25 => 
  chkV 0 v20 <|
  chkV 1 v7 <|
  chkV 2 v22 <|
  chkV 2 v21 <|
  callV Φ 13 0 [[v22, v21]] 1 [(0, 0)] <| fun v26 => 
  op1V Φ (.bin .eql 3) [[v26], [(.nilI)]] fun v27 =>
  blkV (none) [1] (gdV v27 true false (op1V Φ (.len) [[v6]] fun v28 =>
      op1V Φ (.bin .eql 0) [[v28], [(.int .i64 0)]] fun v29 =>
      some (.norm [1] [v29])) (some (.norm [1] [(.undef)]))) <| app 1 <| fun v28 => 
  blkV (none) [1] (gdV v28 false true (chkV 0 v23 <|
      chkV 1 v15 <|
      chkV 2 v25 <|
      chkV 2 v24 <|
      callV Φ 13 0 [[v25, v24]] 1 [(0, 0)] <| fun v29 => 
      callV Φ 12 0 [[v29]] 1 [(0, 0)] <| fun v30 => 
      op1V Φ (.bin .eql 0) [[v30], [(.int .i64 2)]] fun v31 =>
      some (.norm [1] [v31])) (some (.norm [1] [(.undef)]))) <| app 1 <| fun v29 => 
  blkV (none) [1] (gdV v27 true false (op1V Φ (.pick) [[v28], [(.bool true)], [v29]] fun v30 =>
      chkV 2 v30 <|
      some (.norm [1] [v30])) (some (.norm [1] [(.undef)]))) <| app 1 <| fun v30 => 
  op1V Φ (.pick) [[v27], [v30], [(.bool false)]] fun v31 =>
  chkV 2 v31 <|
  blkV (none) [1] (gdV v31 true false (callV Φ 15 0 [] 1 [(0, 0)] <| fun v32 => 
      some (.norm [1] [v32])) (some (.norm [1] [(.undef)]))) <| app 1 <| fun v32 => 
  op1V Φ (.pick) [[v31], [v32], [(.bool false)]] fun v33 =>
  chkV 2 v33 <|
  some (.ret [[v33]])
theorem x4_0 (Φ : Funs) (n : Nat) (v0 v1 : V) : (textE Tryd.prog sg [] Tryd.f4 g4_0).map (fun t => t.eval Φ n [v1, v0]) = some (F4_0 Φ n v0 v1) := by kernel_rfl

/-! colloquy/colloquylaw06.PackWrong -/
def g5_0 : Sig := { ps := [PSh.one (PM.lent), PSh.one (PM.fz), PSh.one (PM.fz), PSh.one (PM.fz)], rs := [RSh.one (PM.fz)] }
noncomputable def F5_0 (Φ : Funs) (n : Nat) (v0 v1 v2 v3 : V) : TR :=
  op1V Φ (.mk 5 []) [] fun v4 =>
  chkV 2 v0 <|
  op1V Φ (.app 5 1 true) [[v4], [v0]] fun v5 =>
  callV Φ 16 0 [[v5]] 3 [(0, 0), (0, 2), (0, 1)] <| fun v6 v7 v8 => 
  op1V Φ (.notv) [[v6]] fun v9 =>
  blkV (none) [2, 1, 1] (gdV v9 false false (chkV 1 v6 <|
      callV Φ 9 0 [[v8, v7], [(.int .i64 1)], [(.int .i64 0)]] 3 [(0, 0), (1, 1), (1, 0)] <| fun v10 v11 v12 => 
      op1V Φ (.bin .neq 0) [[v10], [(.int .i64 0)]] fun v13 =>
      some (.norm [2, 1, 1] [(.unit), v11, v12, v13])) (some (.norm [2, 1, 1] [(.unit), v7, v8, (.undef)]))) <| app 4 <| fun v10 v11 v12 v13 => 
  op1V Φ (.pick) [[v9], [(.bool true)], [v13]] fun v14 =>
  chkV 2 v14 <|
  blkV (none) [1] (gdV v14 false false (chkV 0 v10 <|
      chkV 1 v6 <|
      chkV 2 v12 <|
      chkV 2 v11 <|
      callV Φ 13 0 [[v12, v11]] 1 [(0, 0)] <| fun v15 => 
      callV Φ 12 0 [[v15]] 1 [(0, 0)] <| fun v16 => 
      op1V Φ (.bin .neq 0) [[v16], [(.int .i64 2)]] fun v17 =>
      some (.norm [1] [v17])) (some (.norm [1] [(.undef)]))) <| app 1 <| fun v15 => 
  op1V Φ (.pick) [[v14], [(.bool true)], [v15]] fun v16 =>
  iteV v16 (some (.ret [[(.bool false)]])) <|
  chkV 2 v1 <|
  chkV 2 v2 <|
  chkV 0 v10 <|
  chkV 1 v6 <|
  chkV 2 v12 <|
  chkV 2 v11 <|
  callV Φ 9 0 [[v12, v11], [v1], [v2]] 3 [(0, 0), (1, 1), (1, 0)] <| fun v17 v18 v19 => 
  op1V Φ (.bin .eql 0) [[v17], [(.int .i64 0)]] fun v20 =>
  blkV (none) [2, 1, 1] (gdV v20 true false (chkV 2 v3 <|
      chkV 1 v6 <|
      callV Φ 10 0 [[v19, v18], [v3], [v1], [v2]] 3 [(0, 0), (1, 1), (1, 0)] <| fun v21 v22 v23 => 
      op1V Φ (.len) [[v21]] fun v24 =>
      op1V Φ (.bin .eql 0) [[v24], [(.int .i64 0)]] fun v25 =>
      some (.norm [2, 1, 1] [(.unit), v22, v23, v25])) (some (.norm [2, 1, 1] [(.unit), v18, v19, (.undef)]))) <| app 4 <| fun v21 v22 v23 v24 => 
  op1V Φ (.pick) [[v20], [v24], [(.bool false)]] fun v25 =>
  chkV 2 v25 <|
  blkV (none) [2, 1, 1] (gdV v25 true false (chkV 2 v3 <|
      chkV 0 v21 <|
      chkV 1 v6 <|
      chkV 2 v23 <|
      chkV 2 v22 <|
      callV Φ 11 0 [[v23, v22], [v3]] 3 [(0, 0), (1, 1), (1, 0)] <| fun v26 v27 v28 => 
      op1V Φ (.bin .eql 1) [[v26], [(.str ⟨#[]⟩)]] fun v29 =>
      some (.norm [2, 1, 1] [(.unit), v27, v28, v29])) (some (.norm [2, 1, 1] [v21, v22, v23, (.undef)]))) <| app 4 <| fun v26 v27 v28 v29 => 
  op1V Φ (.pick) [[v25], [v29], [(.bool false)]] fun v30 =>
  chkV 2 v30 <|
  blkV (none) [1] (gdV v30 true false (chkV 0 v26 <|
      chkV 1 v6 <|
      chkV 2 v28 <|
      chkV 2 v27 <|
      callV Φ 13 0 [[v28, v27]] 1 [(0, 0)] <| fun v31 => 
      callV Φ 12 0 [[v31]] 1 [(0, 0)] <| fun v32 => 
      op1V Φ (.bin .eql 0) [[v32], [(.int .i64 2)]] fun v33 =>
      some (.norm [1] [v33])) (some (.norm [1] [(.undef)]))) <| app 1 <| fun v31 => 
  op1V Φ (.pick) [[v30], [v31], [(.bool false)]] fun v32 =>
  chkV 2 v32 <|
  blkV (none) [1] (gdV v32 true false (callV Φ 15 0 [] 1 [(0, 0)] <| fun v33 => 
      some (.norm [1] [v33])) (some (.norm [1] [(.undef)]))) <| app 1 <| fun v33 => 
  op1V Φ (.pick) [[v32], [v33], [(.bool false)]] fun v34 =>
  chkV 2 v34 <|
  some (.ret [[v34]])
theorem x5_0 (Φ : Funs) (n : Nat) (v0 v1 v2 v3 : V) : (textE Tryd.prog sg [] Tryd.f5 g5_0).map (fun t => t.eval Φ n [v3, v2, v1, v0]) = some (F5_0 Φ n v0 v1 v2 v3) := by kernel_rfl
end Go.Proofs.YtogfkdpgkloljaaDoorVs
