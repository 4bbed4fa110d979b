/-
  Facts on the types that are met. No conditions.
-/
import Derived.Test.YtiicpeidjhbhiaaGreatProg
import Derived.Test.YtiicpeidjhbhiaaGreatAm33
namespace Go.Proofs.YtiicpeidjhbhiaaGreat.ty
open Go Go.Am
theorem s2 : szT Tryz.prog 2 = some 1 := by kernel_rfl
theorem s4 : szT Tryz.prog 4 = some 1 := by kernel_rfl
theorem s5 : szT Tryz.prog 5 = some 1 := by kernel_rfl
theorem s22 : szT Tryz.prog 22 = some 1 := by kernel_rfl
theorem s53 : szT Tryz.prog 53 = some 1 := by kernel_rfl
theorem s60 : szT Tryz.prog 60 = some 1 := by kernel_rfl
theorem s98 : szT Tryz.prog 98 = some 5 := by kernel_rfl
theorem s107 : szT Tryz.prog 107 = some 1 := by kernel_rfl
theorem s109 : szT Tryz.prog 109 = some 1 := by kernel_rfl
theorem s154 : szT Tryz.prog 154 = some 1 := by kernel_rfl
theorem s179 : szT Tryz.prog 179 = some 1 := by kernel_rfl
theorem s277 : szT Tryz.prog 277 = some 10 := by kernel_rfl
theorem s281 : szT Tryz.prog 281 = some 3 := by kernel_rfl
theorem s284 : szT Tryz.prog 284 = some 2 := by kernel_rfl
theorem z2 : zrT Tryz.prog 2 = some (.int .i64 0) := by kernel_rfl
theorem z5 : zrT Tryz.prog 5 = some (.int .u8 0) := by kernel_rfl
theorem z22 : zrT Tryz.prog 22 = some (.int .i64 0) := by kernel_rfl
theorem z60 : zrT Tryz.prog 60 = some (.snil) := by kernel_rfl
theorem z98 : zrT Tryz.prog 98 = some (.agg [.int .i64 0, .int .i64 0, .int .i64 0, .int .i64 0, .int .i64 0]) := by kernel_rfl
theorem z109 : zrT Tryz.prog 109 = some (.agg [.snil]) := by kernel_rfl
theorem z179 : zrT Tryz.prog 179 = some (.nilp) := by kernel_rfl
theorem z277 : zrT Tryz.prog 277 = some (.agg [.int .u8 0, .int .u8 0, .int .u8 0, .int .u8 0, .int .u8 0, .int .u8 0, .int .u8 0, .int .u8 0, .int .u8 0, .int .u8 0]) := by kernel_rfl
theorem z281 : zrT Tryz.prog 281 = some (.agg [.snil, .int .i64 0, .bool false]) := by kernel_rfl
theorem z284 : zrT Tryz.prog 284 = some (.agg [.snil, .int .i64 0]) := by kernel_rfl
theorem el2 : El Tryz.prog 2 1 8 := ⟨⟨_, z2, rfl⟩, s2, by kernel_rfl⟩
theorem el5 : El Tryz.prog 5 1 1 := ⟨⟨_, z5, rfl⟩, s5, by kernel_rfl⟩
theorem el22 : El Tryz.prog 22 1 8 := ⟨⟨_, z22, rfl⟩, s22, by kernel_rfl⟩
theorem el60 : El Tryz.prog 60 1 24 := ⟨⟨_, z60, rfl⟩, s60, by kernel_rfl⟩
theorem ld2 {st : St} (n off : Nat) : out1 (loadA Tryz.prog 2 (.ptr n off)) st = ldH (st.h.get n) off false 1 st := ld_ptr Tryz.underlying2 s2 n off
theorem ldr2 {st : St} (n off : Nat) : outR (loadA Tryz.prog 2 (.ptr n off)) st = ldR (st.h.get n) n off false 1 st := ldr_ptr Tryz.underlying2 s2 n off
theorem li2 {st : St} (cs : List V) (off : Nat) : out1 (loadA Tryz.prog 2 (.iptr cs off)) st = rtV (takeCells cs off false 1) st := ld_iptr Tryz.underlying2 s2 cs off
theorem st2 {st : St} (n off : Nat) (v : V) : out1 (storeA Tryz.prog 2 (.ptr n off) v) st = stH (st.h.get n) n off 1 v st := st_ptr s2 n off v
theorem ld4 {st : St} (n off : Nat) : out1 (loadA Tryz.prog 4 (.ptr n off)) st = ldH (st.h.get n) off false 1 st := ld_ptr Tryz.underlying4 s4 n off
theorem ldr4 {st : St} (n off : Nat) : outR (loadA Tryz.prog 4 (.ptr n off)) st = ldR (st.h.get n) n off false 1 st := ldr_ptr Tryz.underlying4 s4 n off
theorem li4 {st : St} (cs : List V) (off : Nat) : out1 (loadA Tryz.prog 4 (.iptr cs off)) st = rtV (takeCells cs off false 1) st := ld_iptr Tryz.underlying4 s4 cs off
theorem st4 {st : St} (n off : Nat) (v : V) : out1 (storeA Tryz.prog 4 (.ptr n off) v) st = stH (st.h.get n) n off 1 v st := st_ptr s4 n off v
theorem ld5 {st : St} (n off : Nat) : out1 (loadA Tryz.prog 5 (.ptr n off)) st = ldH (st.h.get n) off false 1 st := ld_ptr Tryz.underlying5 s5 n off
theorem ldr5 {st : St} (n off : Nat) : outR (loadA Tryz.prog 5 (.ptr n off)) st = ldR (st.h.get n) n off false 1 st := ldr_ptr Tryz.underlying5 s5 n off
theorem li5 {st : St} (cs : List V) (off : Nat) : out1 (loadA Tryz.prog 5 (.iptr cs off)) st = rtV (takeCells cs off false 1) st := ld_iptr Tryz.underlying5 s5 cs off
theorem st5 {st : St} (n off : Nat) (v : V) : out1 (storeA Tryz.prog 5 (.ptr n off) v) st = stH (st.h.get n) n off 1 v st := st_ptr s5 n off v
theorem ld22 {st : St} (n off : Nat) : out1 (loadA Tryz.prog 22 (.ptr n off)) st = ldH (st.h.get n) off false 1 st := ld_ptr Tryz.underlying22 s22 n off
theorem ldr22 {st : St} (n off : Nat) : outR (loadA Tryz.prog 22 (.ptr n off)) st = ldR (st.h.get n) n off false 1 st := ldr_ptr Tryz.underlying22 s22 n off
theorem li22 {st : St} (cs : List V) (off : Nat) : out1 (loadA Tryz.prog 22 (.iptr cs off)) st = rtV (takeCells cs off false 1) st := ld_iptr Tryz.underlying22 s22 cs off
theorem st22 {st : St} (n off : Nat) (v : V) : out1 (storeA Tryz.prog 22 (.ptr n off) v) st = stH (st.h.get n) n off 1 v st := st_ptr s22 n off v
theorem ld53 {st : St} (n off : Nat) : out1 (loadA Tryz.prog 53 (.ptr n off)) st = ldH (st.h.get n) off false 1 st := ld_ptr Tryz.underlying53 s53 n off
theorem ldr53 {st : St} (n off : Nat) : outR (loadA Tryz.prog 53 (.ptr n off)) st = ldR (st.h.get n) n off false 1 st := ldr_ptr Tryz.underlying53 s53 n off
theorem li53 {st : St} (cs : List V) (off : Nat) : out1 (loadA Tryz.prog 53 (.iptr cs off)) st = rtV (takeCells cs off false 1) st := ld_iptr Tryz.underlying53 s53 cs off
theorem st53 {st : St} (n off : Nat) (v : V) : out1 (storeA Tryz.prog 53 (.ptr n off) v) st = stH (st.h.get n) n off 1 v st := st_ptr s53 n off v
theorem ld60 {st : St} (n off : Nat) : out1 (loadA Tryz.prog 60 (.ptr n off)) st = ldH (st.h.get n) off false 1 st := ld_ptr Tryz.underlying60 s60 n off
theorem ldr60 {st : St} (n off : Nat) : outR (loadA Tryz.prog 60 (.ptr n off)) st = ldR (st.h.get n) n off false 1 st := ldr_ptr Tryz.underlying60 s60 n off
theorem li60 {st : St} (cs : List V) (off : Nat) : out1 (loadA Tryz.prog 60 (.iptr cs off)) st = rtV (takeCells cs off false 1) st := ld_iptr Tryz.underlying60 s60 cs off
theorem st60 {st : St} (n off : Nat) (v : V) : out1 (storeA Tryz.prog 60 (.ptr n off) v) st = stH (st.h.get n) n off 1 v st := st_ptr s60 n off v
theorem ld98 {st : St} (n off : Nat) : out1 (loadA Tryz.prog 98 (.ptr n off)) st = ldH (st.h.get n) off true 5 st := ld_ptr Tryz.underlying98 s98 n off
theorem ldr98 {st : St} (n off : Nat) : outR (loadA Tryz.prog 98 (.ptr n off)) st = ldR (st.h.get n) n off true 5 st := ldr_ptr Tryz.underlying98 s98 n off
theorem li98 {st : St} (cs : List V) (off : Nat) : out1 (loadA Tryz.prog 98 (.iptr cs off)) st = rtV (takeCells cs off true 5) st := ld_iptr Tryz.underlying98 s98 cs off
theorem st98 {st : St} (n off : Nat) (v : V) : out1 (storeA Tryz.prog 98 (.ptr n off) v) st = stH (st.h.get n) n off 5 v st := st_ptr s98 n off v
theorem ld107 {st : St} (n off : Nat) : out1 (loadA Tryz.prog 107 (.ptr n off)) st = ldH (st.h.get n) off false 1 st := ld_ptr Tryz.underlying107 s107 n off
theorem ldr107 {st : St} (n off : Nat) : outR (loadA Tryz.prog 107 (.ptr n off)) st = ldR (st.h.get n) n off false 1 st := ldr_ptr Tryz.underlying107 s107 n off
theorem li107 {st : St} (cs : List V) (off : Nat) : out1 (loadA Tryz.prog 107 (.iptr cs off)) st = rtV (takeCells cs off false 1) st := ld_iptr Tryz.underlying107 s107 cs off
theorem st107 {st : St} (n off : Nat) (v : V) : out1 (storeA Tryz.prog 107 (.ptr n off) v) st = stH (st.h.get n) n off 1 v st := st_ptr s107 n off v
theorem ld154 {st : St} (n off : Nat) : out1 (loadA Tryz.prog 154 (.ptr n off)) st = ldH (st.h.get n) off false 1 st := ld_ptr Tryz.underlying154 s154 n off
theorem ldr154 {st : St} (n off : Nat) : outR (loadA Tryz.prog 154 (.ptr n off)) st = ldR (st.h.get n) n off false 1 st := ldr_ptr Tryz.underlying154 s154 n off
theorem li154 {st : St} (cs : List V) (off : Nat) : out1 (loadA Tryz.prog 154 (.iptr cs off)) st = rtV (takeCells cs off false 1) st := ld_iptr Tryz.underlying154 s154 cs off
theorem st154 {st : St} (n off : Nat) (v : V) : out1 (storeA Tryz.prog 154 (.ptr n off) v) st = stH (st.h.get n) n off 1 v st := st_ptr s154 n off v
theorem ld179 {st : St} (n off : Nat) : out1 (loadA Tryz.prog 179 (.ptr n off)) st = ldH (st.h.get n) off false 1 st := ld_ptr Tryz.underlying179 s179 n off
theorem ldr179 {st : St} (n off : Nat) : outR (loadA Tryz.prog 179 (.ptr n off)) st = ldR (st.h.get n) n off false 1 st := ldr_ptr Tryz.underlying179 s179 n off
theorem li179 {st : St} (cs : List V) (off : Nat) : out1 (loadA Tryz.prog 179 (.iptr cs off)) st = rtV (takeCells cs off false 1) st := ld_iptr Tryz.underlying179 s179 cs off
theorem st179 {st : St} (n off : Nat) (v : V) : out1 (storeA Tryz.prog 179 (.ptr n off) v) st = stH (st.h.get n) n off 1 v st := st_ptr s179 n off v
theorem ld277 {st : St} (n off : Nat) : out1 (loadA Tryz.prog 277 (.ptr n off)) st = ldH (st.h.get n) off true 10 st := ld_ptr Tryz.underlying277 s277 n off
theorem ldr277 {st : St} (n off : Nat) : outR (loadA Tryz.prog 277 (.ptr n off)) st = ldR (st.h.get n) n off true 10 st := ldr_ptr Tryz.underlying277 s277 n off
theorem li277 {st : St} (cs : List V) (off : Nat) : out1 (loadA Tryz.prog 277 (.iptr cs off)) st = rtV (takeCells cs off true 10) st := ld_iptr Tryz.underlying277 s277 cs off
theorem st277 {st : St} (n off : Nat) (v : V) : out1 (storeA Tryz.prog 277 (.ptr n off) v) st = stH (st.h.get n) n off 10 v st := st_ptr s277 n off v
theorem fa98_0 {call : CallF} {mu : Bool} {env : Env} {st : St} (x : Operand) : op1 Tryz.prog call mu (.fieldAddr 98 x 0) env st = rtV (addrA (opv env x) 0) st := fa_of (k := 0) (ft := 2) (off := 0) Tryz.underlying98 rfl s2 x
theorem fa98_1 {call : CallF} {mu : Bool} {env : Env} {st : St} (x : Operand) : op1 Tryz.prog call mu (.fieldAddr 98 x 1) env st = rtV (addrA (opv env x) 1) st := fa_of (k := 0) (ft := 22) (off := 1) Tryz.underlying98 rfl s22 x
theorem fa98_2 {call : CallF} {mu : Bool} {env : Env} {st : St} (x : Operand) : op1 Tryz.prog call mu (.fieldAddr 98 x 2) env st = rtV (addrA (opv env x) 2) st := fa_of (k := 0) (ft := 22) (off := 2) Tryz.underlying98 rfl s22 x
theorem fa98_3 {call : CallF} {mu : Bool} {env : Env} {st : St} (x : Operand) : op1 Tryz.prog call mu (.fieldAddr 98 x 3) env st = rtV (addrA (opv env x) 3) st := fa_of (k := 0) (ft := 22) (off := 3) Tryz.underlying98 rfl s22 x
theorem fa98_4 {call : CallF} {mu : Bool} {env : Env} {st : St} (x : Operand) : op1 Tryz.prog call mu (.fieldAddr 98 x 4) env st = rtV (addrA (opv env x) 4) st := fa_of (k := 0) (ft := 22) (off := 4) Tryz.underlying98 rfl s22 x
theorem fa109_0 {call : CallF} {mu : Bool} {env : Env} {st : St} (x : Operand) : op1 Tryz.prog call mu (.fieldAddr 109 x 0) env st = rtV (addrA (opv env x) 0) st := fa_of (k := 0) (ft := 107) (off := 0) Tryz.underlying109 rfl s107 x
theorem fa156_0 {call : CallF} {mu : Bool} {env : Env} {st : St} (x : Operand) : op1 Tryz.prog call mu (.fieldAddr 156 x 0) env st = rtV (addrA (opv env x) 0) st := fa_of (k := 0) (ft := 107) (off := 0) Tryz.underlying156 rfl s107 x
theorem fa156_1 {call : CallF} {mu : Bool} {env : Env} {st : St} (x : Operand) : op1 Tryz.prog call mu (.fieldAddr 156 x 1) env st = rtV (addrA (opv env x) 1) st := fa_of (k := 0) (ft := 154) (off := 1) Tryz.underlying156 rfl s154 x
theorem fa281_0 {call : CallF} {mu : Bool} {env : Env} {st : St} (x : Operand) : op1 Tryz.prog call mu (.fieldAddr 281 x 0) env st = rtV (addrA (opv env x) 0) st := fa_of (k := 0) (ft := 60) (off := 0) Tryz.underlying281 rfl s60 x
theorem fa281_1 {call : CallF} {mu : Bool} {env : Env} {st : St} (x : Operand) : op1 Tryz.prog call mu (.fieldAddr 281 x 1) env st = rtV (addrA (opv env x) 1) st := fa_of (k := 0) (ft := 53) (off := 1) Tryz.underlying281 rfl s53 x
theorem fa281_2 {call : CallF} {mu : Bool} {env : Env} {st : St} (x : Operand) : op1 Tryz.prog call mu (.fieldAddr 281 x 2) env st = rtV (addrA (opv env x) 2) st := fa_of (k := 0) (ft := 4) (off := 2) Tryz.underlying281 rfl s4 x
theorem fa284_0 {call : CallF} {mu : Bool} {env : Env} {st : St} (x : Operand) : op1 Tryz.prog call mu (.fieldAddr 284 x 0) env st = rtV (addrA (opv env x) 0) st := fa_of (k := 0) (ft := 60) (off := 0) Tryz.underlying284 rfl s60 x
theorem fa284_1 {call : CallF} {mu : Bool} {env : Env} {st : St} (x : Operand) : op1 Tryz.prog call mu (.fieldAddr 284 x 1) env st = rtV (addrA (opv env x) 1) st := fa_of (k := 0) (ft := 53) (off := 1) Tryz.underlying284 rfl s53 x
theorem far98_0 {call : CallF} {mu : Bool} {env : Env} {st : St} (x : Operand) : opR Tryz.prog call mu (.fieldAddr 98 x 0) env st = dryR (rtV (addrA (opv env x) 0) st) := r_fa (k := 0) (ft := 2) (off := 0) Tryz.underlying98 rfl s2 x
theorem far98_1 {call : CallF} {mu : Bool} {env : Env} {st : St} (x : Operand) : opR Tryz.prog call mu (.fieldAddr 98 x 1) env st = dryR (rtV (addrA (opv env x) 1) st) := r_fa (k := 0) (ft := 22) (off := 1) Tryz.underlying98 rfl s22 x
theorem far98_2 {call : CallF} {mu : Bool} {env : Env} {st : St} (x : Operand) : opR Tryz.prog call mu (.fieldAddr 98 x 2) env st = dryR (rtV (addrA (opv env x) 2) st) := r_fa (k := 0) (ft := 22) (off := 2) Tryz.underlying98 rfl s22 x
theorem far98_3 {call : CallF} {mu : Bool} {env : Env} {st : St} (x : Operand) : opR Tryz.prog call mu (.fieldAddr 98 x 3) env st = dryR (rtV (addrA (opv env x) 3) st) := r_fa (k := 0) (ft := 22) (off := 3) Tryz.underlying98 rfl s22 x
theorem far98_4 {call : CallF} {mu : Bool} {env : Env} {st : St} (x : Operand) : opR Tryz.prog call mu (.fieldAddr 98 x 4) env st = dryR (rtV (addrA (opv env x) 4) st) := r_fa (k := 0) (ft := 22) (off := 4) Tryz.underlying98 rfl s22 x
theorem far109_0 {call : CallF} {mu : Bool} {env : Env} {st : St} (x : Operand) : opR Tryz.prog call mu (.fieldAddr 109 x 0) env st = dryR (rtV (addrA (opv env x) 0) st) := r_fa (k := 0) (ft := 107) (off := 0) Tryz.underlying109 rfl s107 x
theorem far156_0 {call : CallF} {mu : Bool} {env : Env} {st : St} (x : Operand) : opR Tryz.prog call mu (.fieldAddr 156 x 0) env st = dryR (rtV (addrA (opv env x) 0) st) := r_fa (k := 0) (ft := 107) (off := 0) Tryz.underlying156 rfl s107 x
theorem far156_1 {call : CallF} {mu : Bool} {env : Env} {st : St} (x : Operand) : opR Tryz.prog call mu (.fieldAddr 156 x 1) env st = dryR (rtV (addrA (opv env x) 1) st) := r_fa (k := 0) (ft := 154) (off := 1) Tryz.underlying156 rfl s154 x
theorem far281_0 {call : CallF} {mu : Bool} {env : Env} {st : St} (x : Operand) : opR Tryz.prog call mu (.fieldAddr 281 x 0) env st = dryR (rtV (addrA (opv env x) 0) st) := r_fa (k := 0) (ft := 60) (off := 0) Tryz.underlying281 rfl s60 x
theorem far281_1 {call : CallF} {mu : Bool} {env : Env} {st : St} (x : Operand) : opR Tryz.prog call mu (.fieldAddr 281 x 1) env st = dryR (rtV (addrA (opv env x) 1) st) := r_fa (k := 0) (ft := 53) (off := 1) Tryz.underlying281 rfl s53 x
theorem far281_2 {call : CallF} {mu : Bool} {env : Env} {st : St} (x : Operand) : opR Tryz.prog call mu (.fieldAddr 281 x 2) env st = dryR (rtV (addrA (opv env x) 2) st) := r_fa (k := 0) (ft := 4) (off := 2) Tryz.underlying281 rfl s4 x
theorem far284_0 {call : CallF} {mu : Bool} {env : Env} {st : St} (x : Operand) : opR Tryz.prog call mu (.fieldAddr 284 x 0) env st = dryR (rtV (addrA (opv env x) 0) st) := r_fa (k := 0) (ft := 60) (off := 0) Tryz.underlying284 rfl s60 x
theorem far284_1 {call : CallF} {mu : Bool} {env : Env} {st : St} (x : Operand) : opR Tryz.prog call mu (.fieldAddr 284 x 1) env st = dryR (rtV (addrA (opv env x) 1) st) := r_fa (k := 0) (ft := 53) (off := 1) Tryz.underlying284 rfl s53 x
theorem ix60 {call : CallF} {mu : Bool} {env : Env} {st : St} (x i : Operand) : op1 Tryz.prog call mu (.indexAddr 60 x i) env st = ixS 1 (opv env x) (opv env i) st := o_ixS Tryz.underlying60 s5 x i
theorem ix63 {call : CallF} {mu : Bool} {env : Env} {st : St} (x i : Operand) : op1 Tryz.prog call mu (.indexAddr 63 x i) env st = ixS 1 (opv env x) (opv env i) st := o_ixS Tryz.underlying63 s22 x i
theorem ix176 {call : CallF} {mu : Bool} {env : Env} {st : St} (x i : Operand) : op1 Tryz.prog call mu (.indexAddr 176 x i) env st = ixS 1 (opv env x) (opv env i) st := o_ixS Tryz.underlying176 s2 x i
theorem ix277 {call : CallF} {mu : Bool} {env : Env} {st : St} (x i : Operand) : op1 Tryz.prog call mu (.indexAddr 277 x i) env st = ixA 10 1 (opv env x) (opv env i) st := o_ixA Tryz.underlying277 s5 x i
theorem al98 {call : CallF} {mu : Bool} {env : Env} {st : St} : op1 Tryz.prog call mu (.alloc 98) env st = alH (st.h.get st.nx) [.int .i64 0, .int .i64 0, .int .i64 0, .int .i64 0, .int .i64 0] st := o_al z98
theorem al109 {call : CallF} {mu : Bool} {env : Env} {st : St} : op1 Tryz.prog call mu (.alloc 109) env st = alH (st.h.get st.nx) [.snil] st := o_al z109
theorem al179 {call : CallF} {mu : Bool} {env : Env} {st : St} : op1 Tryz.prog call mu (.alloc 179) env st = alH (st.h.get st.nx) [.nilp] st := o_al z179
theorem al277 {call : CallF} {mu : Bool} {env : Env} {st : St} : op1 Tryz.prog call mu (.alloc 277) env st = alH (st.h.get st.nx) [.int .u8 0, .int .u8 0, .int .u8 0, .int .u8 0, .int .u8 0, .int .u8 0, .int .u8 0, .int .u8 0, .int .u8 0, .int .u8 0] st := o_al z277
theorem al281 {call : CallF} {mu : Bool} {env : Env} {st : St} : op1 Tryz.prog call mu (.alloc 281) env st = alH (st.h.get st.nx) [.snil, .int .i64 0, .bool false] st := o_al z281
theorem al284 {call : CallF} {mu : Bool} {env : Env} {st : St} : op1 Tryz.prog call mu (.alloc 284) env st = alH (st.h.get st.nx) [.snil, .int .i64 0] st := o_al z284
theorem bl98 {call : CallF} {mu : Bool} {env : Env} {st : St} (parts : Array (Nat × Operand)) : op1 Tryz.prog call mu (.build 98 parts) env st = aggO (fillV (plc [(0, 1), (1, 1), (2, 1), (3, 1), (4, 1)]) [.int .i64 0, .int .i64 0, .int .i64 0, .int .i64 0, .int .i64 0] (parts.toList.map fun p => (p.1, opv env p.2))) st := o_bld Tryz.underlying98 z98 (by kernel_rfl) parts
theorem bl109 {call : CallF} {mu : Bool} {env : Env} {st : St} (parts : Array (Nat × Operand)) : op1 Tryz.prog call mu (.build 109 parts) env st = aggO (fillV (plc [(0, 1)]) [.snil] (parts.toList.map fun p => (p.1, opv env p.2))) st := o_bld Tryz.underlying109 z109 (by kernel_rfl) parts
theorem bl281 {call : CallF} {mu : Bool} {env : Env} {st : St} (parts : Array (Nat × Operand)) : op1 Tryz.prog call mu (.build 281 parts) env st = aggO (fillV (plc [(0, 1), (1, 1), (2, 1)]) [.snil, .int .i64 0, .bool false] (parts.toList.map fun p => (p.1, opv env p.2))) st := o_bld Tryz.underlying281 z281 (by kernel_rfl) parts
theorem bl284 {call : CallF} {mu : Bool} {env : Env} {st : St} (parts : Array (Nat × Operand)) : op1 Tryz.prog call mu (.build 284 parts) env st = aggO (fillV (plc [(0, 1), (1, 1)]) [.snil, .int .i64 0] (parts.toList.map fun p => (p.1, opv env p.2))) st := o_bld Tryz.underlying284 z284 (by kernel_rfl) parts
theorem bs60 {call : CallF} {env : Env} {st : St} (len : Nat) (parts : Array (Nat × Operand)) (hl : parts.size = len ∧ len * 1 ≤ 16777216 ∧ okIdx env 1 0 parts.toList = true) : op1 Tryz.prog call false (.buildSlice 60 len parts) env st = some (.sl (catP env parts.toList) len 1 .ex, st) := o_bs Tryz.underlying60 el5 parts hl
theorem bs63 {call : CallF} {env : Env} {st : St} (len : Nat) (parts : Array (Nat × Operand)) (hl : parts.size = len ∧ len * 1 ≤ 16777216 ∧ okIdx env 1 0 parts.toList = true) : op1 Tryz.prog call false (.buildSlice 63 len parts) env st = some (.sl (catP env parts.toList) len 1 .ex, st) := o_bs Tryz.underlying63 el22 parts hl
theorem bs107 {call : CallF} {env : Env} {st : St} (len : Nat) (parts : Array (Nat × Operand)) (hl : parts.size = len ∧ len * 1 ≤ 16777216 ∧ okIdx env 1 0 parts.toList = true) : op1 Tryz.prog call false (.buildSlice 107 len parts) env st = some (.sl (catP env parts.toList) len 1 .ex, st) := o_bs Tryz.underlying107 el60 parts hl
theorem bs176 {call : CallF} {env : Env} {st : St} (len : Nat) (parts : Array (Nat × Operand)) (hl : parts.size = len ∧ len * 1 ≤ 16777216 ∧ okIdx env 1 0 parts.toList = true) : op1 Tryz.prog call false (.buildSlice 176 len parts) env st = some (.sl (catP env parts.toList) len 1 .ex, st) := o_bs Tryz.underlying176 el2 parts hl
theorem slo60 {st : St} (cs : List V) (len : Nat) (cp : Cp) (k : IntKind) (i : Int) : out1 (sliceA Tryz.prog 60 (.sl cs len 1 cp) (some (.int k i)) none none) st = if 0 ≤ i ∧ i ≤ len then some (.sl ((cs.drop (i.toNat * 1)).take ((len - i.toNat) * 1)) (len - i.toNat) 1 (bif Nat.blt i.toNat len then cp else .unk), st) else none := sl_lo Tryz.underlying60 s5 cs len cp k i
theorem shi60 {st : St} (cs : List V) (len : Nat) (cp : Cp) (k : IntKind) (i : Int) : out1 (sliceA Tryz.prog 60 (.sl cs len 1 cp) none (some (.int k i)) none) st = if 0 ≤ i ∧ i ≤ len then some (.sl (cs.take (i.toNat * 1)) i.toNat 1 (bif Nat.beq i.toNat len && Nat.blt 0 len then cp else .unk), st) else none := sl_hi Tryz.underlying60 s5 cs len cp k i
theorem ahr277 {st : St} (b off : Nat) (k : IntKind) (i : Int) : outR (sliceA Tryz.prog 277 (.ptr b off) none (some (.int k i)) none) st = arR (st.h.get b) b off 10 1 i st := arr_hi Tryz.underlying277 s5 b off k i
theorem ahi277 {st : St} (b off : Nat) (k : IntKind) (i : Int) : out1 (sliceA Tryz.prog 277 (.ptr b off) none (some (.int k i)) none) st = arH (st.h.get b) b off 10 1 i st := ar_hi Tryz.underlying277 s5 b off k i
theorem app60_60 {mu : Bool} (s x : V) : builtinA Tryz.prog mu .append [60, 60] [s, x] = appendA Tryz.prog mu 5 s x := bi_app Tryz.underlying60 Tryz.underlying60 s x
theorem app107_107 {mu : Bool} (s x : V) : builtinA Tryz.prog mu .append [107, 107] [s, x] = appendA Tryz.prog mu 60 s x := bi_app Tryz.underlying107 Tryz.underlying107 s x
theorem len60 {mu : Bool} {st : St} (x : V) : out1 (builtinA Tryz.prog mu .len [60] [x]) st = lenV x st := bi_len Tryz.underlying60 x
theorem len63 {mu : Bool} {st : St} (x : V) : out1 (builtinA Tryz.prog mu .len [63] [x]) st = lenV x st := bi_len Tryz.underlying63 x
theorem len107 {mu : Bool} {st : St} (x : V) : out1 (builtinA Tryz.prog mu .len [107] [x]) st = lenV x st := bi_len Tryz.underlying107 x
theorem len176 {mu : Bool} {st : St} (x : V) : out1 (builtinA Tryz.prog mu .len [176] [x]) st = lenV x st := bi_len Tryz.underlying176 x
theorem cvr2_178 {st : St} (k : IntKind) (n : Int) : outR (convA Tryz.prog 2 178 (.int k n)) st = some (.int .u64 (IntKind.wrap .u64 n), st, []) := cvr_int Tryz.underlying2 Tryz.underlying178 k n
theorem cv2_178 {st : St} (k : IntKind) (n : Int) : out1 (convA Tryz.prog 2 178 (.int k n)) st = some (.int .u64 (IntKind.wrap .u64 n), st) := cv_int Tryz.underlying2 Tryz.underlying178 k n
theorem cvr3_178 {st : St} (k : IntKind) (n : Int) : outR (convA Tryz.prog 3 178 (.int k n)) st = some (.int .u64 (IntKind.wrap .u64 n), st, []) := cvr_int Tryz.underlying3 Tryz.underlying178 k n
theorem cv3_178 {st : St} (k : IntKind) (n : Int) : out1 (convA Tryz.prog 3 178 (.int k n)) st = some (.int .u64 (IntKind.wrap .u64 n), st) := cv_int Tryz.underlying3 Tryz.underlying178 k n
theorem cvr5_178 {st : St} (k : IntKind) (n : Int) : outR (convA Tryz.prog 5 178 (.int k n)) st = some (.int .u64 (IntKind.wrap .u64 n), st, []) := cvr_int Tryz.underlying5 Tryz.underlying178 k n
theorem cv5_178 {st : St} (k : IntKind) (n : Int) : out1 (convA Tryz.prog 5 178 (.int k n)) st = some (.int .u64 (IntKind.wrap .u64 n), st) := cv_int Tryz.underlying5 Tryz.underlying178 k n
theorem cvr22_178 {st : St} (k : IntKind) (n : Int) : outR (convA Tryz.prog 22 178 (.int k n)) st = some (.int .u64 (IntKind.wrap .u64 n), st, []) := cvr_int Tryz.underlying22 Tryz.underlying178 k n
theorem cv22_178 {st : St} (k : IntKind) (n : Int) : out1 (convA Tryz.prog 22 178 (.int k n)) st = some (.int .u64 (IntKind.wrap .u64 n), st) := cv_int Tryz.underlying22 Tryz.underlying178 k n
theorem cvr178_2 {st : St} (k : IntKind) (n : Int) : outR (convA Tryz.prog 178 2 (.int k n)) st = some (.int .i64 (IntKind.wrap .i64 n), st, []) := cvr_int Tryz.underlying178 Tryz.underlying2 k n
theorem cv178_2 {st : St} (k : IntKind) (n : Int) : out1 (convA Tryz.prog 178 2 (.int k n)) st = some (.int .i64 (IntKind.wrap .i64 n), st) := cv_int Tryz.underlying178 Tryz.underlying2 k n
theorem cvr178_5 {st : St} (k : IntKind) (n : Int) : outR (convA Tryz.prog 178 5 (.int k n)) st = some (.int .u8 (IntKind.wrap .u8 n), st, []) := cvr_int Tryz.underlying178 Tryz.underlying5 k n
theorem cv178_5 {st : St} (k : IntKind) (n : Int) : out1 (convA Tryz.prog 178 5 (.int k n)) st = some (.int .u8 (IntKind.wrap .u8 n), st) := cv_int Tryz.underlying178 Tryz.underlying5 k n
theorem cvr178_22 {st : St} (k : IntKind) (n : Int) : outR (convA Tryz.prog 178 22 (.int k n)) st = some (.int .i64 (IntKind.wrap .i64 n), st, []) := cvr_int Tryz.underlying178 Tryz.underlying22 k n
theorem cv178_22 {st : St} (k : IntKind) (n : Int) : out1 (convA Tryz.prog 178 22 (.int k n)) st = some (.int .i64 (IntKind.wrap .i64 n), st) := cv_int Tryz.underlying178 Tryz.underlying22 k n
theorem pl77_2 : (regAt 2 (Tryz.f77.body.getD .skip)).map planOf = some ⟨[0, 1, 0, 4, 15, 31], [0, 1, 2, 3, 4, 5], true⟩ := by kernel_rfl
theorem pl90_3 : (regAt 3 (Tryz.f90.body.getD .skip)).map planOf = some ⟨[0, 1, 3, 7, 0, 16, 63, 127, 255, 255, 511, 2047], [0, 1, 2, 3, 4, 5, 6, 7, 8, 9, 10, 11], true⟩ := by kernel_rfl
theorem pl90_8 : (regAt 8 (Tryz.f90.body.getD .skip)).map planOf = some ⟨[0, 0, 2, 6, 14, 0, 32, 96, 254, 511, 1023, 2047], [5, 6, 0, 1, 2, 3, 4, 7, 8, 9, 10, 11], true⟩ := by kernel_rfl
theorem pl90_10 : (regAt 10 (Tryz.f90.body.getD .skip)).map planOf = some ⟨[0, 1, 3, 7, 0, 16, 0, 127], [0, 1, 2, 3, 4, 5, 6, 7], true⟩ := by kernel_rfl
theorem pl5_7 : (regAt 7 (Tryz.f5.body.getD .skip)).map planOf = some ⟨[0, 0, 3, 7, 15, 15, 31, 127], [0, 1, 2, 3, 4, 5, 6, 7], true⟩ := by kernel_rfl
theorem pl5_9 : (regAt 9 (Tryz.f5.body.getD .skip)).map planOf = some ⟨[0, 0, 3, 7, 15, 15, 63, 127, 255, 511, 511, 2047, 4095, 8191, 16383, 16383, 65535, 131071, 262143, 524287, 524287, 2097151, 4194303, 8388607, 16777215, 16777215, 67108863, 134217727, 268435455, 536870911, 1073741823, 536870911, 4294967295, 8589934591, 17179869183, 34359738367], [0, 1, 2, 3, 4, 5, 6, 7, 8, 9, 10, 11, 12, 13, 14, 15, 16, 17, 18, 19, 20, 21, 22, 23, 24, 25, 26, 27, 28, 29, 30, 31, 32, 33, 34, 35], true⟩ := by kernel_rfl
theorem bpe47 (n o : Nat) : binV Tryz.prog .eql 47 (.ptr n o) .nilp = some (.bool false) := b_pp Tryz.underlying47 n o
theorem bpn47 (n o : Nat) : binV Tryz.prog .neq 47 (.ptr n o) .nilp = some (.bool true) := b_pq Tryz.underlying47 n o
theorem bsn60 (cs : List V) (l z : Nat) (cp : Cp) : binV Tryz.prog .eql 60 (.sl cs l z cp) .snil = some (.bool false) := b_slnil Tryz.underlying60 cs l z cp
theorem bnn60 : binV Tryz.prog .eql 60 .snil .snil = some (.bool true) := b_snnil Tryz.underlying60
theorem bpe179 (n o : Nat) : binV Tryz.prog .eql 179 (.ptr n o) .nilp = some (.bool false) := b_pp Tryz.underlying179 n o
theorem bpn179 (n o : Nat) : binV Tryz.prog .neq 179 (.ptr n o) .nilp = some (.bool true) := b_pq Tryz.underlying179 n o
theorem lenr60 {mu : Bool} {st : St} (x : V) : wetR (outR (builtinA Tryz.prog mu .len [60] [x]) st) = dryR (lenV x st) := bir_len Tryz.underlying60 x
theorem lenr63 {mu : Bool} {st : St} (x : V) : wetR (outR (builtinA Tryz.prog mu .len [63] [x]) st) = dryR (lenV x st) := bir_len Tryz.underlying63 x
theorem lenr107 {mu : Bool} {st : St} (x : V) : wetR (outR (builtinA Tryz.prog mu .len [107] [x]) st) = dryR (lenV x st) := bir_len Tryz.underlying107 x
theorem lenr176 {mu : Bool} {st : St} (x : V) : wetR (outR (builtinA Tryz.prog mu .len [176] [x]) st) = dryR (lenV x st) := bir_len Tryz.underlying176 x
theorem bsm60 {call : CallF} {env : Env} {st : St} (len : Nat) (parts : Array (Nat × Operand)) (hl : parts.size = len ∧ len * 1 ≤ 16777216 ∧ okIdx env 1 0 parts.toList = true) : opR Tryz.prog call true (.buildSlice 60 len parts) env st = wetR (nwR (st.h.get st.nx) (catP env parts.toList) len 1 st) := r_bsm Tryz.underlying60 el5 parts hl
theorem bsm63 {call : CallF} {env : Env} {st : St} (len : Nat) (parts : Array (Nat × Operand)) (hl : parts.size = len ∧ len * 1 ≤ 16777216 ∧ okIdx env 1 0 parts.toList = true) : opR Tryz.prog call true (.buildSlice 63 len parts) env st = wetR (nwR (st.h.get st.nx) (catP env parts.toList) len 1 st) := r_bsm Tryz.underlying63 el22 parts hl
theorem bsm107 {call : CallF} {env : Env} {st : St} (len : Nat) (parts : Array (Nat × Operand)) (hl : parts.size = len ∧ len * 1 ≤ 16777216 ∧ okIdx env 1 0 parts.toList = true) : opR Tryz.prog call true (.buildSlice 107 len parts) env st = wetR (nwR (st.h.get st.nx) (catP env parts.toList) len 1 st) := r_bsm Tryz.underlying107 el60 parts hl
theorem bsm176 {call : CallF} {env : Env} {st : St} (len : Nat) (parts : Array (Nat × Operand)) (hl : parts.size = len ∧ len * 1 ≤ 16777216 ∧ okIdx env 1 0 parts.toList = true) : opR Tryz.prog call true (.buildSlice 176 len parts) env st = wetR (nwR (st.h.get st.nx) (catP env parts.toList) len 1 st) := r_bsm Tryz.underlying176 el2 parts hl
end Go.Proofs.YtiicpeidjhbhiaaGreat.ty
