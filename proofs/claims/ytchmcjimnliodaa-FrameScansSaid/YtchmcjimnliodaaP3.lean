/- Printed by wip/tools/gen.py: the conditions of functions. -/
import Derived.Test.YtchmcjimnliodaaMix
import Derived.Test.YtchmcjimnliodaaVcR
import Derived.Test.YtchmcjimnliodaaChecked
namespace Go.Proofs.Ytchmcjimnliodaa
open Go
set_option maxRecDepth 100000
def c3_1 (x29 x21 x94 x25 x26 x12 x27 x22 x28 x23 : Value) (q : World → World → Exit → World → Prop) (w_1 : World) (w_3 : World) (w_2 : World) : Prop :=
  val Try.prog (bin .neq 36 true x29 (Value.int .i64 0)) w_2 fun x126 w_2 => 
  gd x126 false (
  val Try.prog (ld1 3 x21) w_2 fun x129 w_2 => 
  val Try.prog (bin .neq 3 false x94 x129) w_2 fun x130 w_2 => 
  gd x130 false (
  val Try.prog (ldS 29 x25) w_2 fun x133 w_2 => 
  val Try.prog (ldS 29 x26) w_2 fun x134 w_2 => 
  Ret Try.prog 17 #[x133, x134] w_2 fun x135 w_2 => 
  val Try.prog (Op.unary .not x135) w_2 fun x136 w_2 => 
  gd x136 true (
  unt Try.prog (st1 4 x12 (Value.bool false)) w_2 fun w_2 => 
  q w_1 w_3 .ret w_2) (
  val Try.prog (ld1 3 x21) w_2 fun x138 w_2 => 
  val Try.prog (bin .add 3 false x138 x27) w_2 fun x140 w_2 => 
  unt Try.prog (st1 3 x21 x140) w_2 fun w_2 => 
  unt Try.prog (st1 22 x22 x28) w_2 fun w_2 => 
  val Try.prog (ld1 3 x23) w_2 fun x142_1 w_2 => 
  val Try.prog (bin .add 3 true x142_1 (Value.int .i64 1)) w_2 fun x143_1 w_2 => 
  unt Try.prog (st1 3 x23 x143_1) w_2 fun w_2 => 
  q w_1 w_3 .normal w_2)) (
  unt Try.prog (st1 4 x12 (Value.bool false)) w_2 fun w_2 => 
  q w_1 w_3 .ret w_2)) (
  unt Try.prog (st1 4 x12 (Value.bool false)) w_2 fun w_2 => 
  q w_1 w_3 .ret w_2)
def c3_2 (x23 x7 x14 x94 x25 x12 x21 x22 x20 : Value) (q : World → World → Exit → World → Prop) (w_1 : World) (w_3 : World) : Prop :=
  val Try.prog (ld1 3 x23) w_3 fun x96 w_2 => 
  val Try.prog (ld1 23 x7) w_2 fun x97 w_2 => 
  val Try.prog (Builtin.len_ #[23] 3 #[x97]) w_2 fun x98 w_2 => 
  val Try.prog (bin .lss 3 false x96 x98) w_2 fun x99 w_2 => 
  gd x99 true (
  drw w_2 fun T w_2 => 
  tk Try.prog T 0 (ld1 27 x14) fun x101 => 
  tk Try.prog T 0 (ld1 3 x23) fun x102 => 
  pu Try.prog (Instr.indexAt 27 x101 x102) fun x103 => 
  tk Try.prog T 0 (ld1 3 x103) fun x104 => 
  pu Try.prog (bin .neq 3 false x94 x104) fun x105 => 
  gd x105 false (
  tk Try.prog T 0 (ldS 29 x25) fun x107 => 
  tk Try.prog T 0 (ld1 23 x7) fun x108 => 
  tk Try.prog T 0 (ld1 3 x23) fun x109 => 
  pu Try.prog (Instr.indexAt 23 x108 x109) fun x110 => 
  tk Try.prog T 0 (ldS 29 x110) fun x111 => 
  Ret Try.prog 17 #[x107, x111] w_2 fun x112 w_2 => 
  ph T 1 w_2 (pu Try.prog (Op.unary .not x112) fun x113 => 
  gd x113 true (
  unt Try.prog (st1 4 x12 (Value.bool false)) w_2 fun w_2 => 
  q w_1 w_3 .ret w_2) (
  val Try.prog (ld1 3 x23) w_2 fun x142 w_2 => 
  val Try.prog (bin .add 3 true x142 (Value.int .i64 1)) w_2 fun x143 w_2 => 
  unt Try.prog (st1 3 x23 x143) w_2 fun w_2 => 
  q w_1 w_3 .normal w_2))) (
  ph T 1 w_2 (unt Try.prog (st1 4 x12 (Value.bool false)) w_2 fun w_2 => 
  q w_1 w_3 .ret w_2))) (
  joinK 4 (fun (x26 x27 x28 x29 : Value) (w_2 : World) => 
  c3_1 x29 x21 x94 x25 x26 x12 x27 x22 x28 x23 q w_1 w_3 w_2)
  fun j_1 => drw w_2 fun T w_2 => 
  tk Try.prog T 1 (ld1 22 x22) fun x116 => 
  tk Try.prog T 1 (ld1 24 x20) fun x117 => 
  tk Try.prog T 1 (ld1 3 x21) fun x118 => 
  pu Try.prog (Instr.sliceAt 24 x117 (some x118) none none) fun x119 => 
  two (
  Ret Try.prog 18 #[x116, x119] w_2 fun x120 w_2 => 
  ph T 1 w_2 (pu Try.prog (Instr.extract x120 0) fun x121 => 
  pu Try.prog (Instr.extract x120 1) fun x122 => 
  pu Try.prog (Instr.extract x120 2) fun x123 => 
  pu Try.prog (Instr.extract x120 3) fun x124 => 
  val Try.prog (Instr.alloc 29 true (.tuple #[])) w_2 fun x26_1 w_2 => 
  ph T 2 w_2 (unt Try.prog (stS 29 x26_1 x121) w_2 fun w_2 => 
  ph T 3 w_2 (j_1 x26_1 x122 x123 x124 w_2)))) (
  val Try.prog (Instr.alloc 29 true (.tuple #[])) w_2 fun x26_2 w_2 => 
  ph T 1 w_2 (Ret Try.prog 18 #[x116, x119] w_2 fun x120_1 w_2 => 
  ph T 2 w_2 (pu Try.prog (Instr.extract x120_1 0) fun x121_1 => 
  pu Try.prog (Instr.extract x120_1 1) fun x122_1 => 
  pu Try.prog (Instr.extract x120_1 2) fun x123_1 => 
  pu Try.prog (Instr.extract x120_1 3) fun x124_1 => 
  unt Try.prog (stS 29 x26_2 x121_1) w_2 fun w_2 => 
  ph T 3 w_2 (j_1 x26_2 x122_1 x123_1 x124_1 w_2)))))
def c3_3 (x13 x242 x5 x0 x12 : Value) (D_1 : Nat) (D : Nat) (R : Value → World → Prop) (w : World) : Prop :=
  val Try.prog (Instr.buildSlice 24 0 #[]) w fun x271 w => 
  val Try.prog (Builtin.append_ #[24, 24] 24 #[x271, x13]) w fun x273 w => 
  val Try.prog (Instr.indexAt 24 x273 x242) w fun x276 w => 
  val Try.prog (ld1 5 x276) w fun x277 w => 
  val Try.prog (bin .xor 5 false x277 x5) w fun x279 w => 
  val Try.prog (Instr.indexAt 24 x273 x242) w fun x280 w => 
  unt Try.prog (st1 5 x280 x279) w fun w => 
  Ret Try.prog 19 #[x0, x273] w fun x284 w => 
  val Try.prog (Instr.extract x284 0) w fun x285 w => 
  val Try.prog (Instr.extract x284 1) w fun _ w => 
  val Try.prog (bin .leq 3 false x285 x242) w fun x289 w => 
  unt Try.prog (st1 4 x12 x289) w fun w => 
  fin (D_1 :: (D :: [])) w fun w => rd Try.prog (ld1 4 x12) w fun r_6 => R r_6 w
def c3_4 (x245 x244 x243 x14 x242 x12 x13 x5 x0 : Value) (D_1 : Nat) (D : Nat) (R : Value → World → Prop) (next_1 : Car 1) (w : World) : Prop :=
  val Try.prog (bin .lss 3 false x245 x244) w fun x246 w => 
  gd x246 true (
  val Try.prog (Instr.indexAt 23 x243 x245) w fun x248 w => 
  val Try.prog (ldS 29 x248) w fun x249 w => 
  val Try.prog (Instr.alloc 29 true (.tuple #[])) w fun x40 w => 
  unt Try.prog (stS 29 x40 x249) w fun w => 
  val Try.prog (ld1 27 x14) w fun x250 w => 
  val Try.prog (Instr.indexAt 27 x250 x245) w fun x252 w => 
  val Try.prog (ld1 3 x252) w fun x253 w => 
  val Try.prog (bin .add 3 true x253 (Value.int .i64 2)) w fun x254 w => 
  val Try.prog (bin .geq 3 false x242 x254) w fun x257 w => 
  gd x257 true (
  val Try.prog (Instr.fieldAt 29 x40 1) w fun x261 w => 
  val Try.prog (ld1 24 x261) w fun x262 w => 
  val Try.prog (Builtin.len_ #[24] 3 #[x262]) w fun x263 w => 
  val Try.prog (convert 3 42 x263) w fun x264 w => 
  Ret Try.prog 20 #[x264] w fun x265 w => 
  val Try.prog (Builtin.len_ #[9] 3 #[x265]) w fun x266 w => 
  val Try.prog (bin .add 3 false x254 x266) w fun x267 w => 
  val Try.prog (bin .lss 3 false x242 x267) w fun x268 w => 
  gd x268 true (
  unt Try.prog (st1 4 x12 (Value.bool true)) w fun w => 
  fin (D_1 :: (D :: [])) w fun w => rd Try.prog (ld1 4 x12) w fun r_5 => R r_5 w) (
  val Try.prog (bin .add 3 true x245 (Value.int .i64 1)) w fun x270 w => 
  next_1 x270 w)) (
  val Try.prog (bin .add 3 true x245 (Value.int .i64 1)) w fun x270_1 w => 
  next_1 x270_1 w)) (
  c3_3 x13 x242 x5 x0 x12 D_1 D R w)
def c3_5 (x23 x37 x12 x13 x5 x4 x7 x14 x0 : Value) (D_1 : Nat) (D : Nat) (R : Value → World → Prop) (w : World) : Prop :=
  val Try.prog (ld1 3 x23) w fun x228 w => 
  val Try.prog (bin .neq 3 false x228 x37) w fun x230 w => 
  gd x230 true (
  unt Try.prog (st1 4 x12 (Value.bool false)) w fun w => 
  fin (D_1 :: (D :: [])) w fun w => rd Try.prog (ld1 4 x12) w fun r_3 => R r_3 w) (
  val Try.prog (Builtin.len_ #[24] 3 #[x13]) w fun x232 w => 
  val Try.prog (bin .eql 3 true x232 (Value.int .i64 0)) w fun x233 w => 
  gd x233 false (
  val Try.prog (bin .eql 5 true x5 (Value.int .u8 0)) w fun x236 w => 
  gd x236 true (
  unt Try.prog (st1 4 x12 (Value.bool true)) w fun w => 
  fin (D_1 :: (D :: [])) w fun w => rd Try.prog (ld1 4 x12) w fun r_4 => R r_4 w) (
  val Try.prog (convert 25 3 x4) w fun x239 w => 
  val Try.prog (Builtin.len_ #[24] 3 #[x13]) w fun x241 w => 
  val Try.prog (bin .rem 3 false x239 x241) w fun x242 w => 
  val Try.prog (ld1 23 x7) w fun x243 w => 
  val Try.prog (Builtin.len_ #[23] 3 #[x243]) w fun x244 w => 
  loopK 1 [(Value.int .i64 0)] w fun next_1 => fun (x245 : Value) (w : World) => 
  c3_4 x245 x244 x243 x14 x242 x12 x13 x5 x0 D_1 D R next_1 w)) (
  unt Try.prog (st1 4 x12 (Value.bool true)) w fun w => 
  fin (D_1 :: (D :: [])) w fun w => rd Try.prog (ld1 4 x12) w fun r_7 => R r_7 w))
def c3_6 (x23 x13 x183 x0 x37 x12 x5 x4 x7 x14 : Value) (D : Nat) (R : Value → World → Prop) (w : World) : Prop :=
  unt Try.prog (st1 3 x23 (Value.int .i64 0)) w fun w => 
  val Try.prog (Instr.sliceAt 24 x13 none (some x183) none) w fun x222 w => 
  Ret Try.prog 16 #[x0, x222] w fun x223 w => 
  Rng Try.prog x223 2 w (fun q_1 => fun (x224 x225 : Value) (w_4 : World) => 
  asn w.heap.size w_4 w_4 fun w_6 => 
  val Try.prog (ld1 3 x23) w_6 fun x226 w_5 => 
  val Try.prog (bin .add 3 true x226 (Value.int .i64 1)) w_5 fun x227 w_5 => 
  unt Try.prog (st1 3 x23 x227) w_5 fun w_5 => 
  q_1 w_4 w_6 .normal w_5)
  (fun D_1 w => c3_5 x23 x37 x12 x13 x5 x4 x7 x14 x0 D_1 D R w)
  []
def c3_7 (x7 x37_1 x14 x183 x13 : Value) (next_2 : Car 1) (j_3 : Car 1) (w : World) : Prop :=
  val Try.prog (ld1 23 x7) w fun x185 w => 
  val Try.prog (Builtin.len_ #[23] 3 #[x185]) w fun x186 w => 
  val Try.prog (bin .lss 3 false x37_1 x186) w fun x187 w => 
  gd x187 true (
  val Try.prog (bin .add 3 true x37_1 (Value.int .i64 1)) w fun x190 w => 
  val Try.prog (ld1 23 x7) w fun x191 w => 
  val Try.prog (Builtin.len_ #[23] 3 #[x191]) w fun x192 w => 
  val Try.prog (bin .lss 3 false x190 x192) w fun x193 w => 
  gd x193 true (
  val Try.prog (ld1 27 x14) w fun x195 w => 
  val Try.prog (bin .add 3 true x37_1 (Value.int .i64 1)) w fun x197 w => 
  val Try.prog (Instr.indexAt 27 x195 x197) w fun x198 w => 
  val Try.prog (ld1 3 x198) w fun x199 w => 
  val Try.prog (bin .leq 3 false x199 x183) w fun x201 w => 
  gd x201 false (
  val Try.prog (bin .add 3 true x37_1 (Value.int .i64 1)) w fun x205 w => 
  val Try.prog (ld1 23 x7) w fun x206 w => 
  val Try.prog (Builtin.len_ #[23] 3 #[x206]) w fun x207 w => 
  val Try.prog (bin .eql 3 false x205 x207) w fun x208 w => 
  gd x208 true (
  val Try.prog (Builtin.len_ #[24] 3 #[x13]) w fun x211 w => 
  val Try.prog (bin .leq 3 false x211 x183) w fun x213 w => 
  gd x213 true (
  val Try.prog (bin .add 3 true x37_1 (Value.int .i64 1)) w fun x218 w => 
  next_2 x218 w) (
  j_3 x37_1 w)) (
  j_3 x37_1 w)) (
  val Try.prog (bin .add 3 true x37_1 (Value.int .i64 1)) w fun x218_1 w => 
  next_2 x218_1 w)) (
  val Try.prog (bin .add 3 true x37_1 (Value.int .i64 1)) w fun x205_1 w => 
  val Try.prog (ld1 23 x7) w fun x206_1 w => 
  val Try.prog (Builtin.len_ #[23] 3 #[x206_1]) w fun x207_1 w => 
  val Try.prog (bin .eql 3 false x205_1 x207_1) w fun x208_1 w => 
  gd x208_1 true (
  val Try.prog (Builtin.len_ #[24] 3 #[x13]) w fun x211_1 w => 
  val Try.prog (bin .leq 3 false x211_1 x183) w fun x213_1 w => 
  gd x213_1 true (
  val Try.prog (bin .add 3 true x37_1 (Value.int .i64 1)) w fun x218_2 w => 
  next_2 x218_2 w) (
  j_3 x37_1 w)) (
  j_3 x37_1 w))) (
  j_3 x37_1 w)
def c3_8 (x35 x21 x148 x22 x149 x23 x7 x12 x3 x13 x0 x5 x4 x14 : Value) (D : Nat) (R : Value → World → Prop) (w : World) : Prop :=
  val Try.prog (bin .eql 36 true x35 (Value.int .i64 0)) w fun x161 w => 
  gd x161 false (
  val Try.prog (ld1 3 x21) w fun x164 w => 
  val Try.prog (bin .neq 3 false x148 x164) w fun x165 w => 
  gd x165 false (
  val Try.prog (ld1 22 x22) w fun x169 w => 
  val Try.prog (bin .neq 22 false x149 x169) w fun x170 w => 
  gd x170 false (
  val Try.prog (ld1 3 x23) w fun x173 w => 
  val Try.prog (ld1 23 x7) w fun x174 w => 
  val Try.prog (Builtin.len_ #[23] 3 #[x174]) w fun x175 w => 
  val Try.prog (bin .lss 3 false x173 x175) w fun x176 w => 
  gd x176 true (
  unt Try.prog (st1 4 x12 (Value.bool false)) w fun w => 
  fin (D :: []) w fun w => rd Try.prog (ld1 4 x12) w fun r_2 => R r_2 w) (
  val Try.prog (convert 25 3 x3) w fun x179 w => 
  val Try.prog (Builtin.len_ #[24] 3 #[x13]) w fun x181 w => 
  val Try.prog (bin .add 3 true x181 (Value.int .i64 1)) w fun x182 w => 
  val Try.prog (bin .rem 3 false x179 x182) w fun x183 w => 
  joinK 1 (fun (x37 : Value) (w : World) => 
  c3_6 x23 x13 x183 x0 x37 x12 x5 x4 x7 x14 D R w)
  fun j_3 => loopK 1 [(Value.int .i64 0)] w fun next_2 => fun (x37_1 : Value) (w : World) => 
  c3_7 x7 x37_1 x14 x183 x13 next_2 j_3 w)) (
  unt Try.prog (st1 4 x12 (Value.bool false)) w fun w => 
  fin (D :: []) w fun w => rd Try.prog (ld1 4 x12) w fun r_8 => R r_8 w)) (
  unt Try.prog (st1 4 x12 (Value.bool false)) w fun w => 
  fin (D :: []) w fun w => rd Try.prog (ld1 4 x12) w fun r_9 => R r_9 w)) (
  unt Try.prog (st1 4 x12 (Value.bool false)) w fun w => 
  fin (D :: []) w fun w => rd Try.prog (ld1 4 x12) w fun r_10 => R r_10 w)
def c3_9 (x20 x0 x21 x22 x23 x7 x12 x3 x13 x5 x4 x14 : Value) (D : Nat) (R : Value → World → Prop) (w : World) : Prop :=
  val Try.prog (ld1 24 x20) w fun x146 w => 
  Ret Try.prog 19 #[x0, x146] w fun x147 w => 
  val Try.prog (Instr.extract x147 0) w fun x148 w => 
  val Try.prog (Instr.extract x147 1) w fun x149 w => 
  joinK 1 (fun (x35 : Value) (w : World) => 
  c3_8 x35 x21 x148 x22 x149 x23 x7 x12 x3 x13 x0 x5 x4 x14 D R w)
  fun j_2 => drw w fun T w => 
  tk Try.prog T 1 (ld1 22 x22) fun x151 => 
  tk Try.prog T 1 (ld1 24 x20) fun x152 => 
  tk Try.prog T 1 (ld1 3 x21) fun x153 => 
  pu Try.prog (Instr.sliceAt 24 x152 (some x153) none none) fun x154 => 
  two (
  Ret Try.prog 18 #[x151, x154] w fun x155 w => 
  ph T 1 w (pu Try.prog (Instr.extract x155 0) fun x156 => 
  pu Try.prog (Instr.extract x155 1) fun _ => 
  pu Try.prog (Instr.extract x155 2) fun _ => 
  pu Try.prog (Instr.extract x155 3) fun x159 => 
  val Try.prog (Instr.alloc 29 true (.tuple #[])) w fun x32 w => 
  ph T 2 w (unt Try.prog (stS 29 x32 x156) w fun w => 
  ph T 3 w (j_2 x159 w)))) (
  val Try.prog (Instr.alloc 29 true (.tuple #[])) w fun x32_1 w => 
  ph T 1 w (Ret Try.prog 18 #[x151, x154] w fun x155_1 w => 
  ph T 2 w (pu Try.prog (Instr.extract x155_1 0) fun x156_1 => 
  pu Try.prog (Instr.extract x155_1 1) fun _ => 
  pu Try.prog (Instr.extract x155_1 2) fun _ => 
  pu Try.prog (Instr.extract x155_1 3) fun x159_1 => 
  unt Try.prog (stS 29 x32_1 x156_1) w fun w => 
  ph T 3 w (j_2 x159_1 w))))
def c3_10 (x13 x2 x15 x0 x7 x14 x12 x3 x5 x4 : Value) (R : Value → World → Prop) (w : World) : Prop :=
  val Try.prog (Instr.buildSlice 24 0 #[]) w fun x83 w => 
  val Try.prog (Builtin.append_ #[24, 24] 24 #[x83, x13]) w fun x85 w => 
  val Try.prog (Builtin.append_ #[24, 24] 24 #[x85, x2]) w fun x87 w => 
  val Try.prog (Instr.alloc 24 true (.tuple #[])) w fun x20 w => 
  unt Try.prog (st1 24 x20 x87) w fun w => 
  val Try.prog (Builtin.len_ #[24] 3 #[x13]) w fun x89 w => 
  val Try.prog (Instr.alloc 3 true (.tuple #[])) w fun x21 w => 
  val Try.prog (Instr.alloc 22 true (.tuple #[])) w fun x22 w => 
  unt Try.prog (st1 3 x21 x89) w fun w => 
  unt Try.prog (st1 22 x22 x15) w fun w => 
  val Try.prog (Instr.alloc 3 true (.tuple #[])) w fun x23 w => 
  unt Try.prog (st1 3 x23 (Value.int .i64 0)) w fun w => 
  val Try.prog (ld1 24 x20) w fun x92 w => 
  Ret Try.prog 16 #[x0, x92] w fun x93 w => 
  Rng Try.prog x93 2 w (fun q => fun (x94 x95 : Value) (w_1 : World) => 
  val Try.prog (Instr.alloc 29 true (.tuple #[])) w_1 fun x25 w_2 => 
  unt Try.prog (stS 29 x25 x95) w_2 fun w_2 => 
  asn w.heap.size w_1 w_2 fun w_3 => 
  c3_2 x23 x7 x14 x94 x25 x12 x21 x22 x20 q w_1 w_3)
  (fun D w => c3_9 x20 x0 x21 x22 x23 x7 x12 x3 x13 x5 x4 x14 D R w)
  [(.rt, fun D w => fin (D :: []) w fun w => rd Try.prog (ld1 4 x12) w fun r_11 => R r_11 w)]
def c3_11 (x59 x58 x57 x12 x15 x14 x13 x2 x0 x7 x3 x5 x4 : Value) (R : Value → World → Prop) (next : Car 3) (w : World) : Prop :=
  val Try.prog (bin .lss 3 false x59 x58) w fun x60 w => 
  gd x60 true (
  val Try.prog (Instr.indexAt 23 x57 x59) w fun x61 w => 
  val Try.prog (ldS 29 x61) w fun x62 w => 
  val Try.prog (Instr.alloc 29 true (.tuple #[])) w fun x17 w => 
  unt Try.prog (stS 29 x17 x62) w fun w => 
  val Try.prog (Instr.fieldAt 29 x17 1) w fun x63 w => 
  val Try.prog (ld1 24 x63) w fun x64 w => 
  val Try.prog (Builtin.len_ #[24] 3 #[x64]) w fun x65 w => 
  val Try.prog (bin .gtr 3 true x65 (Value.int .i64 100)) w fun x66 w => 
  gd x66 true (
  unt Try.prog (st1 4 x12 (Value.bool true)) w fun w => 
  rd Try.prog (ld1 4 x12) w fun r_1 => R r_1 w) (
  val Try.prog (ldS 29 x17) w fun x69 w => 
  Ret Try.prog 15 #[x15, x69] w fun x70 w => 
  val Try.prog (Instr.extract x70 0) w fun x71 w => 
  val Try.prog (Instr.extract x70 1) w fun x72 w => 
  val Try.prog (ld1 27 x14) w fun x73 w => 
  val Try.prog (Builtin.len_ #[24] 3 #[x13]) w fun x75 w => 
  val Try.prog (Instr.buildSlice 27 1 #[(0, x75)]) w fun x76 w => 
  val Try.prog (Builtin.append_ #[27, 27] 27 #[x73, x76]) w fun x77 w => 
  unt Try.prog (st1 27 x14 x77) w fun w => 
  val Try.prog (Builtin.append_ #[24, 24] 24 #[x13, x71]) w fun x80 w => 
  val Try.prog (bin .add 3 true x59 (Value.int .i64 1)) w fun x82 w => 
  next x80 x72 x82 w)) (
  c3_10 x13 x2 x15 x0 x7 x14 x12 x3 x5 x4 R w)
def c3_12 (x54 x12 x7 x0 x2 x3 x5 x4 : Value) (R : Value → World → Prop) (w : World) : Prop :=
  gd x54 true (
  Ret Try.prog 14 #[] w fun x55 w => 
  unt Try.prog (st1 4 x12 x55) w fun w => 
  rd Try.prog (ld1 4 x12) w fun r => R r w) (
  val Try.prog (Instr.alloc 27 true (.tuple #[])) w fun x14 w => 
  val Try.prog (ld1 23 x7) w fun x57 w => 
  val Try.prog (Builtin.len_ #[23] 3 #[x57]) w fun x58 w => 
  loopK 3 [(Value.slice none 0 0), x0, (Value.int .i64 0)] w fun next => fun (x13 x15 x59 : Value) (w : World) => 
  c3_11 x59 x58 x57 x12 x15 x14 x13 x2 x0 x7 x3 x5 x4 R next w)
def c3 (x0 x1 x2 x3 x4 x5 : Value) (w : World) (R : Value → World → Prop) : Prop :=
  val Try.prog (Instr.box 23 x1) w fun x7 w => 
  val Try.prog (Instr.alloc 4 true (.tuple #[])) w fun x12 w => 
  joinK 1 (fun (x54 : Value) (w : World) => 
  c3_12 x54 x12 x7 x0 x2 x3 x5 x4 R w)
  fun j => Ret Try.prog 14 #[] w fun x43 w => 
  val Try.prog (Op.unary .not x43) w fun x44 w => 
  gd x44 false (
  val Try.prog (ld1 23 x7) w fun x46 w => 
  val Try.prog (Builtin.len_ #[23] 3 #[x46]) w fun x47 w => 
  val Try.prog (bin .gtr 3 true x47 (Value.int .i64 20)) w fun x48 w => 
  gd x48 false (
  val Try.prog (Builtin.len_ #[24] 3 #[x2]) w fun x52 w => 
  val Try.prog (bin .gtr 3 true x52 (Value.int .i64 60)) w fun x53 w => 
  j x53 w) (
  j (Value.bool true) w)) (
  j (Value.bool true) w)
theorem v3 (x0 x1 x2 x3 x4 x5 : Value) (w : World) (R : Value → World → Prop) : vc Try.prog true (Try.f3.body.getD .skip) (.seq .leaf (.seq (.join [54] .leaf (.cond (.seq .leaf .leaf) .leaf)) (.seq .leaf (.seq .leaf (.seq .leaf (.seq (.seq .leaf (.one (.loop [13, 15, 59] (.seq .leaf (.seq (.cond .leaf .leaf) (.seq (.one (.seq .leaf (.seq (.seq .leaf (.cond (.seq .leaf .leaf) .leaf)) (.seq .leaf (.seq .leaf .leaf))))) .leaf)))))) (.seq .leaf (.seq .leaf (.seq .leaf (.seq (.seq .leaf (.one (.rng [.rt] (.seq .leaf .leaf) (.one (.seq (.seq .leaf (.cond (.seq (.draw (.tk 0 0 (.tk 1 0 (.tk 2 0 (.tk 3 0 (.tk 4 0 (.tk 5 0 (.tk 6 0 (.tk 7 0 (.tk 8 0 (.tk 9 0 (.tk 10 0 (.tk 11 0 (.one 12 (.tk 13 1 (.tk 14 1 .nil)))))))))))))))) (.cond (.seq .leaf .leaf) .leaf)) (.join [26, 27, 28, 29] (.draw (.tk 0 1 (.tk 1 1 (.tk 2 1 (.tk 3 1 (.two 4 (.tk 5 2 (.tk 6 2 (.tk 7 3 (.tk 8 3 (.tk 9 3 (.one 10 (.one 11 (.tk 12 3 (.tk 13 3 (.tk 14 3 .nil)))))))))) 10 (.one 4 (.tk 5 2 (.tk 6 2 (.tk 7 3 (.tk 8 3 (.tk 9 3 (.one 11 (.tk 12 3 (.tk 13 3 (.tk 14 3 .nil)))))))))))))))) (.seq (.seq .leaf (.cond (.seq .leaf .leaf) .leaf)) .leaf)))) .leaf))))) (.seq .leaf (.seq (.join [35] (.draw (.tk 0 1 (.tk 1 1 (.tk 2 1 (.tk 3 1 (.two 4 (.tk 5 2 (.tk 6 2 (.tk 7 3 (.tk 8 3 (.tk 9 3 (.one 10 (.one 11 (.tk 12 3 (.tk 13 3 (.tk 14 3 .nil)))))))))) 10 (.one 4 (.tk 5 2 (.tk 6 2 (.tk 7 3 (.tk 8 3 (.tk 9 3 (.one 11 (.tk 12 3 (.tk 13 3 (.tk 14 3 .nil)))))))))))))))) (.seq .leaf (.cond (.seq .leaf .leaf) .leaf))) (.seq .leaf (.seq .leaf (.join [37] (.one (.loop [37] (.seq (.seq .leaf (.cond .leaf .leaf)) (.one .leaf)))) (.seq .leaf (.seq (.seq .leaf (.one (.rng [] .leaf (.one .leaf)))) (.seq (.seq .leaf (.cond (.seq .leaf .leaf) .leaf)) (.seq (.seq .leaf (.cond (.seq .leaf .leaf) .leaf)) (.seq .leaf (.seq (.seq .leaf (.one (.loop [245] (.seq .leaf (.seq (.cond .leaf .leaf) (.seq (.one (.seq .leaf (.seq .leaf (.seq .leaf (.cond (.seq .leaf .leaf) .leaf))))) .leaf)))))) (.seq .leaf (.seq .leaf (.seq .leaf (.seq .leaf .leaf))))))))))))))))))))))))) { get := argEnv [x0, x1, x2, x3, x4, x5], ds := [] } (retQ Try.prog Try.f3.results.toList R) w = c3 x0 x1 x2 x3 x4 x5 w R := by kernel_rfl
theorem e3 {x0 x1 x2 x3 x4 x5 : Value} {w : World} {R : Value → World → Prop} (h : c3 x0 x1 x2 x3 x4 x5 w R) : Ret Try.prog 3 #[x0, x1, x2, x3, x4, x5] w R :=
  ret_of_vc mixed Try.call3 Try.func3 rfl (by kernel_rfl) (by kernel_rfl) ((v3 x0 x1 x2 x3 x4 x5 w R).mpr h)
end Go.Proofs.Ytchmcjimnliodaa
