/-
  Facts on the types that are met. No conditions.
-/
import Derived.Test.YtiicpeidjhbhiaaProg
import Derived.Test.YtiicpeidjhbhiaaAm33
namespace Go.Proofs.Ytiicpeidjhbhiaa.ty
open Go Go.Am
theorem s2 : szT Try.prog 2 = some 1 := by kernel_rfl
theorem s3 : szT Try.prog 3 = some 1 := by kernel_rfl
theorem s5 : szT Try.prog 5 = some 1 := by kernel_rfl
theorem s9 : szT Try.prog 9 = some 1 := by kernel_rfl
theorem s22 : szT Try.prog 22 = some 1 := by kernel_rfl
theorem s24 : szT Try.prog 24 = some 5 := by kernel_rfl
theorem s26 : szT Try.prog 26 = some 7 := by kernel_rfl
theorem s28 : szT Try.prog 28 = some 1 := by kernel_rfl
theorem s30 : szT Try.prog 30 = some 3 := by kernel_rfl
theorem s32 : szT Try.prog 32 = some 1 := by kernel_rfl
theorem s33 : szT Try.prog 33 = some 1 := by kernel_rfl
theorem s34 : szT Try.prog 34 = some 1 := by kernel_rfl
theorem s36 : szT Try.prog 36 = some 2 := by kernel_rfl
theorem s39 : szT Try.prog 39 = some 24 := by kernel_rfl
theorem s41 : szT Try.prog 41 = some 25 := by kernel_rfl
theorem s107 : szT Try.prog 107 = some 10 := by kernel_rfl
theorem z5 : zrT Try.prog 5 = some (.int .u8 0) := by kernel_rfl
theorem z24 : zrT Try.prog 24 = some (.agg [.int .i64 0, .str [], .str [], .int .i64 0, .snil]) := by kernel_rfl
theorem z26 : zrT Try.prog 26 = some (.agg [.int .i64 0, .int .i64 0, .int .i64 0, .str [], .str [], .int .i64 0, .snil]) := by kernel_rfl
theorem z28 : zrT Try.prog 28 = some (.snil) := by kernel_rfl
theorem z32 : zrT Try.prog 32 = some (.nilp) := by kernel_rfl
theorem z36 : zrT Try.prog 36 = some (.agg [.int .i64 0, .int .i64 0]) := by kernel_rfl
theorem z41 : zrT Try.prog 41 = some (.agg [.nilm, .int .i64 0, .int .i64 0, .int .i64 0, .int .i64 0, .int .i64 0, .int .i64 0, .int .i64 0, .int .i64 0, .int .i64 0, .int .i64 0, .int .i64 0, .int .i64 0, .int .i64 0, .int .i64 0, .int .i64 0, .int .i64 0, .int .i64 0, .int .i64 0, .int .i64 0, .int .i64 0, .int .i64 0, .int .i64 0, .int .i64 0, .int .i64 0]) := by kernel_rfl
theorem z107 : zrT Try.prog 107 = some (.agg [.int .u8 0, .int .u8 0, .int .u8 0, .int .u8 0, .int .u8 0, .int .u8 0, .int .u8 0, .int .u8 0, .int .u8 0, .int .u8 0]) := by kernel_rfl
theorem el5 : El Try.prog 5 1 1 := ⟨⟨_, z5, rfl⟩, s5, by kernel_rfl⟩
theorem el28 : El Try.prog 28 1 24 := ⟨⟨_, z28, rfl⟩, s28, by kernel_rfl⟩
theorem el32 : El Try.prog 32 1 8 := ⟨⟨_, z32, rfl⟩, s32, by kernel_rfl⟩
theorem ld2 {st : St} (n off : Nat) : out1 (loadA Try.prog 2 (.ptr n off)) st = ldH (st.h.get n) off false 1 st := ld_ptr Try.underlying2 s2 n off
theorem ldr2 {st : St} (n off : Nat) : outR (loadA Try.prog 2 (.ptr n off)) st = ldR (st.h.get n) n off false 1 st := ldr_ptr Try.underlying2 s2 n off
theorem li2 {st : St} (cs : List V) (off : Nat) : out1 (loadA Try.prog 2 (.iptr cs off)) st = rtV (takeCells cs off false 1) st := ld_iptr Try.underlying2 s2 cs off
theorem st2 {st : St} (n off : Nat) (v : V) : out1 (storeA Try.prog 2 (.ptr n off) v) st = stH (st.h.get n) n off 1 v st := st_ptr s2 n off v
theorem ld5 {st : St} (n off : Nat) : out1 (loadA Try.prog 5 (.ptr n off)) st = ldH (st.h.get n) off false 1 st := ld_ptr Try.underlying5 s5 n off
theorem ldr5 {st : St} (n off : Nat) : outR (loadA Try.prog 5 (.ptr n off)) st = ldR (st.h.get n) n off false 1 st := ldr_ptr Try.underlying5 s5 n off
theorem li5 {st : St} (cs : List V) (off : Nat) : out1 (loadA Try.prog 5 (.iptr cs off)) st = rtV (takeCells cs off false 1) st := ld_iptr Try.underlying5 s5 cs off
theorem st5 {st : St} (n off : Nat) (v : V) : out1 (storeA Try.prog 5 (.ptr n off) v) st = stH (st.h.get n) n off 1 v st := st_ptr s5 n off v
theorem ld9 {st : St} (n off : Nat) : out1 (loadA Try.prog 9 (.ptr n off)) st = ldH (st.h.get n) off false 1 st := ld_ptr Try.underlying9 s9 n off
theorem ldr9 {st : St} (n off : Nat) : outR (loadA Try.prog 9 (.ptr n off)) st = ldR (st.h.get n) n off false 1 st := ldr_ptr Try.underlying9 s9 n off
theorem li9 {st : St} (cs : List V) (off : Nat) : out1 (loadA Try.prog 9 (.iptr cs off)) st = rtV (takeCells cs off false 1) st := ld_iptr Try.underlying9 s9 cs off
theorem st9 {st : St} (n off : Nat) (v : V) : out1 (storeA Try.prog 9 (.ptr n off) v) st = stH (st.h.get n) n off 1 v st := st_ptr s9 n off v
theorem ld26 {st : St} (n off : Nat) : out1 (loadA Try.prog 26 (.ptr n off)) st = ldH (st.h.get n) off true 7 st := ld_ptr Try.underlying26 s26 n off
theorem ldr26 {st : St} (n off : Nat) : outR (loadA Try.prog 26 (.ptr n off)) st = ldR (st.h.get n) n off true 7 st := ldr_ptr Try.underlying26 s26 n off
theorem li26 {st : St} (cs : List V) (off : Nat) : out1 (loadA Try.prog 26 (.iptr cs off)) st = rtV (takeCells cs off true 7) st := ld_iptr Try.underlying26 s26 cs off
theorem st26 {st : St} (n off : Nat) (v : V) : out1 (storeA Try.prog 26 (.ptr n off) v) st = stH (st.h.get n) n off 7 v st := st_ptr s26 n off v
theorem ld28 {st : St} (n off : Nat) : out1 (loadA Try.prog 28 (.ptr n off)) st = ldH (st.h.get n) off false 1 st := ld_ptr Try.underlying28 s28 n off
theorem ldr28 {st : St} (n off : Nat) : outR (loadA Try.prog 28 (.ptr n off)) st = ldR (st.h.get n) n off false 1 st := ldr_ptr Try.underlying28 s28 n off
theorem li28 {st : St} (cs : List V) (off : Nat) : out1 (loadA Try.prog 28 (.iptr cs off)) st = rtV (takeCells cs off false 1) st := ld_iptr Try.underlying28 s28 cs off
theorem st28 {st : St} (n off : Nat) (v : V) : out1 (storeA Try.prog 28 (.ptr n off) v) st = stH (st.h.get n) n off 1 v st := st_ptr s28 n off v
theorem ld30 {st : St} (n off : Nat) : out1 (loadA Try.prog 30 (.ptr n off)) st = ldH (st.h.get n) off true 3 st := ld_ptr Try.underlying30 s30 n off
theorem ldr30 {st : St} (n off : Nat) : outR (loadA Try.prog 30 (.ptr n off)) st = ldR (st.h.get n) n off true 3 st := ldr_ptr Try.underlying30 s30 n off
theorem li30 {st : St} (cs : List V) (off : Nat) : out1 (loadA Try.prog 30 (.iptr cs off)) st = rtV (takeCells cs off true 3) st := ld_iptr Try.underlying30 s30 cs off
theorem st30 {st : St} (n off : Nat) (v : V) : out1 (storeA Try.prog 30 (.ptr n off) v) st = stH (st.h.get n) n off 3 v st := st_ptr s30 n off v
theorem ld32 {st : St} (n off : Nat) : out1 (loadA Try.prog 32 (.ptr n off)) st = ldH (st.h.get n) off false 1 st := ld_ptr Try.underlying32 s32 n off
theorem ldr32 {st : St} (n off : Nat) : outR (loadA Try.prog 32 (.ptr n off)) st = ldR (st.h.get n) n off false 1 st := ldr_ptr Try.underlying32 s32 n off
theorem li32 {st : St} (cs : List V) (off : Nat) : out1 (loadA Try.prog 32 (.iptr cs off)) st = rtV (takeCells cs off false 1) st := ld_iptr Try.underlying32 s32 cs off
theorem st32 {st : St} (n off : Nat) (v : V) : out1 (storeA Try.prog 32 (.ptr n off) v) st = stH (st.h.get n) n off 1 v st := st_ptr s32 n off v
theorem ld34 {st : St} (n off : Nat) : out1 (loadA Try.prog 34 (.ptr n off)) st = ldH (st.h.get n) off false 1 st := ld_ptr Try.underlying34 s34 n off
theorem ldr34 {st : St} (n off : Nat) : outR (loadA Try.prog 34 (.ptr n off)) st = ldR (st.h.get n) n off false 1 st := ldr_ptr Try.underlying34 s34 n off
theorem li34 {st : St} (cs : List V) (off : Nat) : out1 (loadA Try.prog 34 (.iptr cs off)) st = rtV (takeCells cs off false 1) st := ld_iptr Try.underlying34 s34 cs off
theorem st34 {st : St} (n off : Nat) (v : V) : out1 (storeA Try.prog 34 (.ptr n off) v) st = stH (st.h.get n) n off 1 v st := st_ptr s34 n off v
theorem ld36 {st : St} (n off : Nat) : out1 (loadA Try.prog 36 (.ptr n off)) st = ldH (st.h.get n) off true 2 st := ld_ptr Try.underlying36 s36 n off
theorem ldr36 {st : St} (n off : Nat) : outR (loadA Try.prog 36 (.ptr n off)) st = ldR (st.h.get n) n off true 2 st := ldr_ptr Try.underlying36 s36 n off
theorem li36 {st : St} (cs : List V) (off : Nat) : out1 (loadA Try.prog 36 (.iptr cs off)) st = rtV (takeCells cs off true 2) st := ld_iptr Try.underlying36 s36 cs off
theorem st36 {st : St} (n off : Nat) (v : V) : out1 (storeA Try.prog 36 (.ptr n off) v) st = stH (st.h.get n) n off 2 v st := st_ptr s36 n off v
theorem ld107 {st : St} (n off : Nat) : out1 (loadA Try.prog 107 (.ptr n off)) st = ldH (st.h.get n) off true 10 st := ld_ptr Try.underlying107 s107 n off
theorem ldr107 {st : St} (n off : Nat) : outR (loadA Try.prog 107 (.ptr n off)) st = ldR (st.h.get n) n off true 10 st := ldr_ptr Try.underlying107 s107 n off
theorem li107 {st : St} (cs : List V) (off : Nat) : out1 (loadA Try.prog 107 (.iptr cs off)) st = rtV (takeCells cs off true 10) st := ld_iptr Try.underlying107 s107 cs off
theorem st107 {st : St} (n off : Nat) (v : V) : out1 (storeA Try.prog 107 (.ptr n off) v) st = stH (st.h.get n) n off 10 v st := st_ptr s107 n off v
theorem fa30_0 {call : CallF} {mu : Bool} {env : Env} {st : St} (x : Operand) : op1 Try.prog call mu (.fieldAddr 30 x 0) env st = rtV (addrA (opv env x) 0) st := fa_of (k := 0) (ft := 9) (off := 0) Try.underlying30 rfl s9 x
theorem fa30_1 {call : CallF} {mu : Bool} {env : Env} {st : St} (x : Operand) : op1 Try.prog call mu (.fieldAddr 30 x 1) env st = rtV (addrA (opv env x) 1) st := fa_of (k := 0) (ft := 2) (off := 1) Try.underlying30 rfl s2 x
theorem fa30_2 {call : CallF} {mu : Bool} {env : Env} {st : St} (x : Operand) : op1 Try.prog call mu (.fieldAddr 30 x 2) env st = rtV (addrA (opv env x) 2) st := fa_of (k := 0) (ft := 28) (off := 2) Try.underlying30 rfl s28 x
theorem fa36_0 {call : CallF} {mu : Bool} {env : Env} {st : St} (x : Operand) : op1 Try.prog call mu (.fieldAddr 36 x 0) env st = rtV (addrA (opv env x) 0) st := fa_of (k := 0) (ft := 34) (off := 0) Try.underlying36 rfl s34 x
theorem far30_0 {call : CallF} {mu : Bool} {env : Env} {st : St} (x : Operand) : opR Try.prog call mu (.fieldAddr 30 x 0) env st = dryR (rtV (addrA (opv env x) 0) st) := r_fa (k := 0) (ft := 9) (off := 0) Try.underlying30 rfl s9 x
theorem far30_1 {call : CallF} {mu : Bool} {env : Env} {st : St} (x : Operand) : opR Try.prog call mu (.fieldAddr 30 x 1) env st = dryR (rtV (addrA (opv env x) 1) st) := r_fa (k := 0) (ft := 2) (off := 1) Try.underlying30 rfl s2 x
theorem far30_2 {call : CallF} {mu : Bool} {env : Env} {st : St} (x : Operand) : opR Try.prog call mu (.fieldAddr 30 x 2) env st = dryR (rtV (addrA (opv env x) 2) st) := r_fa (k := 0) (ft := 28) (off := 2) Try.underlying30 rfl s28 x
theorem far36_0 {call : CallF} {mu : Bool} {env : Env} {st : St} (x : Operand) : opR Try.prog call mu (.fieldAddr 36 x 0) env st = dryR (rtV (addrA (opv env x) 0) st) := r_fa (k := 0) (ft := 34) (off := 0) Try.underlying36 rfl s34 x
theorem ix28 {call : CallF} {mu : Bool} {env : Env} {st : St} (x i : Operand) : op1 Try.prog call mu (.indexAddr 28 x i) env st = ixS 1 (opv env x) (opv env i) st := o_ixS Try.underlying28 s5 x i
theorem ix42 {call : CallF} {mu : Bool} {env : Env} {st : St} (x i : Operand) : op1 Try.prog call mu (.indexAddr 42 x i) env st = ixS 1 (opv env x) (opv env i) st := o_ixS Try.underlying42 s32 x i
theorem ix43 {call : CallF} {mu : Bool} {env : Env} {st : St} (x i : Operand) : op1 Try.prog call mu (.indexAddr 43 x i) env st = ixS 3 (opv env x) (opv env i) st := o_ixS Try.underlying43 s30 x i
theorem ix107 {call : CallF} {mu : Bool} {env : Env} {st : St} (x i : Operand) : op1 Try.prog call mu (.indexAddr 107 x i) env st = ixA 10 1 (opv env x) (opv env i) st := o_ixA Try.underlying107 s5 x i
theorem al24 {call : CallF} {mu : Bool} {env : Env} {st : St} : op1 Try.prog call mu (.alloc 24) env st = alH (st.h.get st.nx) [.int .i64 0, .str [], .str [], .int .i64 0, .snil] st := o_al z24
theorem al26 {call : CallF} {mu : Bool} {env : Env} {st : St} : op1 Try.prog call mu (.alloc 26) env st = alH (st.h.get st.nx) [.int .i64 0, .int .i64 0, .int .i64 0, .str [], .str [], .int .i64 0, .snil] st := o_al z26
theorem al36 {call : CallF} {mu : Bool} {env : Env} {st : St} : op1 Try.prog call mu (.alloc 36) env st = alH (st.h.get st.nx) [.int .i64 0, .int .i64 0] st := o_al z36
theorem al41 {call : CallF} {mu : Bool} {env : Env} {st : St} : op1 Try.prog call mu (.alloc 41) env st = alH (st.h.get st.nx) [.nilm, .int .i64 0, .int .i64 0, .int .i64 0, .int .i64 0, .int .i64 0, .int .i64 0, .int .i64 0, .int .i64 0, .int .i64 0, .int .i64 0, .int .i64 0, .int .i64 0, .int .i64 0, .int .i64 0, .int .i64 0, .int .i64 0, .int .i64 0, .int .i64 0, .int .i64 0, .int .i64 0, .int .i64 0, .int .i64 0, .int .i64 0, .int .i64 0] st := o_al z41
theorem al107 {call : CallF} {mu : Bool} {env : Env} {st : St} : op1 Try.prog call mu (.alloc 107) env st = alH (st.h.get st.nx) [.int .u8 0, .int .u8 0, .int .u8 0, .int .u8 0, .int .u8 0, .int .u8 0, .int .u8 0, .int .u8 0, .int .u8 0, .int .u8 0] st := o_al z107
theorem bl24 {call : CallF} {mu : Bool} {env : Env} {st : St} (parts : Array (Nat × Operand)) : op1 Try.prog call mu (.build 24 parts) env st = aggO (fillV (plc [(0, 1), (1, 1), (2, 1), (3, 1), (4, 1)]) [.int .i64 0, .str [], .str [], .int .i64 0, .snil] (parts.toList.map fun p => (p.1, opv env p.2))) st := o_bld Try.underlying24 z24 (by kernel_rfl) parts
theorem bl26 {call : CallF} {mu : Bool} {env : Env} {st : St} (parts : Array (Nat × Operand)) : op1 Try.prog call mu (.build 26 parts) env st = aggO (fillV (plc [(0, 1), (1, 1), (2, 5)]) [.int .i64 0, .int .i64 0, .int .i64 0, .str [], .str [], .int .i64 0, .snil] (parts.toList.map fun p => (p.1, opv env p.2))) st := o_bld Try.underlying26 z26 (by kernel_rfl) parts
theorem bl36 {call : CallF} {mu : Bool} {env : Env} {st : St} (parts : Array (Nat × Operand)) : op1 Try.prog call mu (.build 36 parts) env st = aggO (fillV (plc [(0, 1), (1, 1)]) [.int .i64 0, .int .i64 0] (parts.toList.map fun p => (p.1, opv env p.2))) st := o_bld Try.underlying36 z36 (by kernel_rfl) parts
theorem bl41 {call : CallF} {mu : Bool} {env : Env} {st : St} (parts : Array (Nat × Operand)) : op1 Try.prog call mu (.build 41 parts) env st = aggO (fillV (plc [(0, 1), (1, 24)]) [.nilm, .int .i64 0, .int .i64 0, .int .i64 0, .int .i64 0, .int .i64 0, .int .i64 0, .int .i64 0, .int .i64 0, .int .i64 0, .int .i64 0, .int .i64 0, .int .i64 0, .int .i64 0, .int .i64 0, .int .i64 0, .int .i64 0, .int .i64 0, .int .i64 0, .int .i64 0, .int .i64 0, .int .i64 0, .int .i64 0, .int .i64 0, .int .i64 0] (parts.toList.map fun p => (p.1, opv env p.2))) st := o_bld Try.underlying41 z41 (by kernel_rfl) parts
theorem bs22 {call : CallF} {env : Env} {st : St} (len : Nat) (parts : Array (Nat × Operand)) (hl : parts.size = len ∧ len * 1 ≤ 16777216 ∧ okIdx env 1 0 parts.toList = true) : op1 Try.prog call false (.buildSlice 22 len parts) env st = some (.sl (catP env parts.toList) len 1 .ex, st) := o_bs Try.underlying22 el28 parts hl
theorem bs27 {call : CallF} {env : Env} {st : St} (len : Nat) (parts : Array (Nat × Operand)) (hl : parts.size = len ∧ len * 1 ≤ 16777216 ∧ okIdx env 1 0 parts.toList = true) : op1 Try.prog call false (.buildSlice 27 len parts) env st = some (.sl (catP env parts.toList) len 1 .ex, st) := o_bs Try.underlying27 el5 parts hl
theorem bs28 {call : CallF} {env : Env} {st : St} (len : Nat) (parts : Array (Nat × Operand)) (hl : parts.size = len ∧ len * 1 ≤ 16777216 ∧ okIdx env 1 0 parts.toList = true) : op1 Try.prog call false (.buildSlice 28 len parts) env st = some (.sl (catP env parts.toList) len 1 .ex, st) := o_bs Try.underlying28 el5 parts hl
theorem bs42 {call : CallF} {env : Env} {st : St} (len : Nat) (parts : Array (Nat × Operand)) (hl : parts.size = len ∧ len * 1 ≤ 16777216 ∧ okIdx env 1 0 parts.toList = true) : op1 Try.prog call false (.buildSlice 42 len parts) env st = some (.sl (catP env parts.toList) len 1 .ex, st) := o_bs Try.underlying42 el32 parts hl
theorem slo27 {st : St} (cs : List V) (len : Nat) (cp : Cp) (k : IntKind) (i : Int) : out1 (sliceA Try.prog 27 (.sl cs len 1 cp) (some (.int k i)) none none) st = if 0 ≤ i ∧ i ≤ len then some (.sl ((cs.drop (i.toNat * 1)).take ((len - i.toNat) * 1)) (len - i.toNat) 1 (bif Nat.blt i.toNat len then cp else .unk), st) else none := sl_lo Try.underlying27 s5 cs len cp k i
theorem shi27 {st : St} (cs : List V) (len : Nat) (cp : Cp) (k : IntKind) (i : Int) : out1 (sliceA Try.prog 27 (.sl cs len 1 cp) none (some (.int k i)) none) st = if 0 ≤ i ∧ i ≤ len then some (.sl (cs.take (i.toNat * 1)) i.toNat 1 (bif Nat.beq i.toNat len && Nat.blt 0 len then cp else .unk), st) else none := sl_hi Try.underlying27 s5 cs len cp k i
theorem ahr107 {st : St} (b off : Nat) (k : IntKind) (i : Int) : outR (sliceA Try.prog 107 (.ptr b off) none (some (.int k i)) none) st = arR (st.h.get b) b off 10 1 i st := arr_hi Try.underlying107 s5 b off k i
theorem ahi107 {st : St} (b off : Nat) (k : IntKind) (i : Int) : out1 (sliceA Try.prog 107 (.ptr b off) none (some (.int k i)) none) st = arH (st.h.get b) b off 10 1 i st := ar_hi Try.underlying107 s5 b off k i
theorem app27_27 {mu : Bool} (s x : V) : builtinA Try.prog mu .append [27, 27] [s, x] = appendA Try.prog mu 5 s x := bi_app Try.underlying27 Try.underlying27 s x
theorem len27 {mu : Bool} {st : St} (x : V) : out1 (builtinA Try.prog mu .len [27] [x]) st = lenV x st := bi_len Try.underlying27 x
theorem len28 {mu : Bool} {st : St} (x : V) : out1 (builtinA Try.prog mu .len [28] [x]) st = lenV x st := bi_len Try.underlying28 x
theorem len42 {mu : Bool} {st : St} (x : V) : out1 (builtinA Try.prog mu .len [42] [x]) st = lenV x st := bi_len Try.underlying42 x
theorem len43 {mu : Bool} {st : St} (x : V) : out1 (builtinA Try.prog mu .len [43] [x]) st = lenV x st := bi_len Try.underlying43 x
theorem len54 {mu : Bool} {st : St} (x : V) : out1 (builtinA Try.prog mu .len [54] [x]) st = lenV x st := bi_len Try.underlying54 x
theorem len57 {mu : Bool} {st : St} (x : V) : out1 (builtinA Try.prog mu .len [57] [x]) st = lenV x st := bi_len Try.underlying57 x
theorem cvr2_90 {st : St} (k : IntKind) (n : Int) : outR (convA Try.prog 2 90 (.int k n)) st = some (.int .u64 (IntKind.wrap .u64 n), st, []) := cvr_int Try.underlying2 Try.underlying90 k n
theorem cv2_90 {st : St} (k : IntKind) (n : Int) : out1 (convA Try.prog 2 90 (.int k n)) st = some (.int .u64 (IntKind.wrap .u64 n), st) := cv_int Try.underlying2 Try.underlying90 k n
theorem cvr3_90 {st : St} (k : IntKind) (n : Int) : outR (convA Try.prog 3 90 (.int k n)) st = some (.int .u64 (IntKind.wrap .u64 n), st, []) := cvr_int Try.underlying3 Try.underlying90 k n
theorem cv3_90 {st : St} (k : IntKind) (n : Int) : out1 (convA Try.prog 3 90 (.int k n)) st = some (.int .u64 (IntKind.wrap .u64 n), st) := cv_int Try.underlying3 Try.underlying90 k n
theorem cvr90_5 {st : St} (k : IntKind) (n : Int) : outR (convA Try.prog 90 5 (.int k n)) st = some (.int .u8 (IntKind.wrap .u8 n), st, []) := cvr_int Try.underlying90 Try.underlying5 k n
theorem cv90_5 {st : St} (k : IntKind) (n : Int) : out1 (convA Try.prog 90 5 (.int k n)) st = some (.int .u8 (IntKind.wrap .u8 n), st) := cv_int Try.underlying90 Try.underlying5 k n
theorem pl30_2 : (regAt 2 (Try.f30.body.getD .skip)).map planOf = some ⟨[0, 1, 0, 4, 15, 31], [0, 1, 2, 3, 4, 5], true⟩ := by kernel_rfl
theorem pl19_1 : (regAt 1 (Try.f19.body.getD .skip)).map planOf = some ⟨[0, 1, 3, 7, 0, 16, 48, 112, 255, 511], [0, 1, 2, 3, 4, 5, 6, 7, 8, 9], true⟩ := by kernel_rfl
theorem pl20_2 : (regAt 2 (Try.f20.body.getD .skip)).map planOf = some ⟨[0, 0, 2, 6, 15, 0, 32, 127, 255], [0, 1, 2, 3, 4, 5, 6, 7, 8], true⟩ := by kernel_rfl
theorem pl3_28 : (regAt 28 (Try.f3.body.getD .skip)).map planOf = some ⟨[0, 0, 3, 7, 15, 31, 15, 127, 255, 511, 1023], [0, 1, 2, 3, 4, 5, 6, 7, 8, 9, 10], true⟩ := by kernel_rfl
theorem cv9_27 {st : St} (l : List UInt8) : out1 (convA Try.prog 9 27 (.str l)) st = some (.sl (l.map fun b => .int .u8 b.toNat) l.length 1 .unk, st) := cv_sb Try.underlying9 Try.underlying27 Try.underlying5 l
theorem cvr9_27 {st : St} (l : List UInt8) : outR (convA Try.prog 9 27 (.str l)) st = some (.sl (l.map fun b => .int .u8 b.toNat) l.length 1 .unk, st, []) := cvr_sb Try.underlying9 Try.underlying27 Try.underlying5 l
theorem lenr27 {mu : Bool} {st : St} (x : V) : wetR (outR (builtinA Try.prog mu .len [27] [x]) st) = dryR (lenV x st) := bir_len Try.underlying27 x
theorem lenr28 {mu : Bool} {st : St} (x : V) : wetR (outR (builtinA Try.prog mu .len [28] [x]) st) = dryR (lenV x st) := bir_len Try.underlying28 x
theorem lenr42 {mu : Bool} {st : St} (x : V) : wetR (outR (builtinA Try.prog mu .len [42] [x]) st) = dryR (lenV x st) := bir_len Try.underlying42 x
theorem lenr43 {mu : Bool} {st : St} (x : V) : wetR (outR (builtinA Try.prog mu .len [43] [x]) st) = dryR (lenV x st) := bir_len Try.underlying43 x
theorem lenr54 {mu : Bool} {st : St} (x : V) : wetR (outR (builtinA Try.prog mu .len [54] [x]) st) = dryR (lenV x st) := bir_len Try.underlying54 x
theorem lenr57 {mu : Bool} {st : St} (x : V) : wetR (outR (builtinA Try.prog mu .len [57] [x]) st) = dryR (lenV x st) := bir_len Try.underlying57 x
theorem bsm22 {call : CallF} {env : Env} {st : St} (len : Nat) (parts : Array (Nat × Operand)) (hl : parts.size = len ∧ len * 1 ≤ 16777216 ∧ okIdx env 1 0 parts.toList = true) : opR Try.prog call true (.buildSlice 22 len parts) env st = wetR (nwR (st.h.get st.nx) (catP env parts.toList) len 1 st) := r_bsm Try.underlying22 el28 parts hl
theorem bsm27 {call : CallF} {env : Env} {st : St} (len : Nat) (parts : Array (Nat × Operand)) (hl : parts.size = len ∧ len * 1 ≤ 16777216 ∧ okIdx env 1 0 parts.toList = true) : opR Try.prog call true (.buildSlice 27 len parts) env st = wetR (nwR (st.h.get st.nx) (catP env parts.toList) len 1 st) := r_bsm Try.underlying27 el5 parts hl
theorem bsm28 {call : CallF} {env : Env} {st : St} (len : Nat) (parts : Array (Nat × Operand)) (hl : parts.size = len ∧ len * 1 ≤ 16777216 ∧ okIdx env 1 0 parts.toList = true) : opR Try.prog call true (.buildSlice 28 len parts) env st = wetR (nwR (st.h.get st.nx) (catP env parts.toList) len 1 st) := r_bsm Try.underlying28 el5 parts hl
theorem bsm42 {call : CallF} {env : Env} {st : St} (len : Nat) (parts : Array (Nat × Operand)) (hl : parts.size = len ∧ len * 1 ≤ 16777216 ∧ okIdx env 1 0 parts.toList = true) : opR Try.prog call true (.buildSlice 42 len parts) env st = wetR (nwR (st.h.get st.nx) (catP env parts.toList) len 1 st) := r_bsm Try.underlying42 el32 parts hl
end Go.Proofs.Ytiicpeidjhbhiaa.ty
