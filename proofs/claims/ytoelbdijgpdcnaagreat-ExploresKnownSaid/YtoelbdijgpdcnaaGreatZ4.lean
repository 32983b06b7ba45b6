/-
  Parts of the proof:
  YtoelbdijgpdcnaaGreatZm0
  YtoelbdijgpdcnaaGreatZm1
  YtoelbdijgpdcnaaGreatZm2
  YtoelbdijgpdcnaaGreatZm3
  YtoelbdijgpdcnaaGreatZm4
  YtoelbdijgpdcnaaGreatZm5
-/
import Derived.KernelRfl
import Derived.Test.YtoelbdijgpdcnaaGreatZ3

section
set_option maxRecDepth 100000
set_option linter.unusedVariables false
namespace Go.V
noncomputable section
/- 20 slices.Clone[[]countersign/api.Tuple,countersign/api.Tuple] -/
def t20 : List Ce := []
def f20 : FT := fun p s k => hd s fun a0 s0 =>
 nl s0 <|
 ken false .s a0 .nils fun v1 =>
 kif v1
 (k [.nils] p)
 (kbs p 0 [] [] fun v2 p3 =>
 kap p3 6 96 v2 a0 fun v4 p5 =>
 k [v4] p5)
theorem o20 : FO EN 20 f20 := fe (np := 1) (T := t20) tnil [none] (by kernel_rfl) fun p s k => by kernel_rfl
/- 91 math/bits.Len32 -/
def t91 : List Ce := []
def f91 : FT := fun p s k => hd s fun a0 s0 =>
 nl s0 <|
 kge a0 q1 fun v1 =>
 jn 2 (fun j2 => kif v1
 (kar .shr a0 q2 fun v3 =>
 j2 v3 q3 p)
 (j2 a0 q0 p)) fun v4 v5 p6 =>
 kge v4 q4 fun v7 =>
 jn 2 (fun j8 => kif v7
 (kar .shr v4 q5 fun v9 =>
 kad v5 q6 fun v10 =>
 j8 v9 v10 p6)
 (j8 v4 v5 p6)) fun v11 v12 p13 =>
 kci .u8 v11 fun v14 =>
 kix q7 v14 fun v15 =>
 kci .i64 v15 fun v16 =>
 kad v12 v16 fun v17 =>
 k [v17] p13
theorem o91 : FO EN 91 f91 := fe (np := 1) (T := t91) tnil [some [0, 2], some [0, 2]] (by kernel_rfl) fun p s k => by kernel_rfl
/- 92 math/bits.Len64 -/
def t92 : List Ce := []
def f92 : FT := fun p s k => hd s fun a0 s0 =>
 nl s0 <|
 kge a0 q8 fun v1 =>
 jn 2 (fun j2 => kif v1
 (kar .shr a0 q9 fun v3 =>
 j2 v3 q10 p)
 (j2 a0 q0 p)) fun v4 v5 p6 =>
 kge v4 q11 fun v7 =>
 jn 2 (fun j8 => kif v7
 (kar .shr v4 q2 fun v9 =>
 kad v5 q3 fun v10 =>
 j8 v9 v10 p6)
 (j8 v4 v5 p6)) fun v11 v12 p13 =>
 kge v11 q12 fun v14 =>
 jn 2 (fun j15 => kif v14
 (kar .shr v11 q5 fun v16 =>
 kad v12 q6 fun v17 =>
 j15 v16 v17 p13)
 (j15 v11 v12 p13)) fun v18 v19 p20 =>
 kci .u8 v18 fun v21 =>
 kix q7 v21 fun v22 =>
 kci .i64 v22 fun v23 =>
 kad v19 v23 fun v24 =>
 k [v24] p20
theorem o92 : FO EN 92 f92 := fe (np := 1) (T := t92) tnil [some [0, 2], some [0, 2], some [0, 2]] (by kernel_rfl) fun p s k => by kernel_rfl
/- 42 math/bits.Len -/
def t42 : List Ce := [⟨91, cc f91⟩, ⟨92, cn f92⟩]
def f42 : FT := fun p s k => hd s fun a0 s0 =>
 nl s0 <|
 kif q13
 (kci .u32 a0 fun v1 =>
 cc f91 p [v1] fun v2 p3 =>
 k [v2] p3)
 (cn f92 p [a0] fun v4 p5 =>
 k [v4] p5)
theorem o42 : FO EN 42 f42 := fe (np := 1) (T := t42) (tcons (cc_ok o91) (tcons (cn_ok o92) tnil)) [none] (by kernel_rfl) fun p s k => by kernel_rfl
/- 132 internal/bytealg.CompareString -/
def t132 : List Ce := []
def f132 : FT := fun p s k => hd s fun a0 s0 =>
 hd s0 fun a1 s1 =>
 nl s1 <|
 kcm a0 a1 fun v2 =>
 k [v2] p
theorem o132 : FO EN 132 f132 := fe (np := 2) (T := t132) tnil [] (by kernel_rfl) fun p s k => by kernel_rfl
/- 94 strings.Compare -/
def t94 : List Ce := [⟨132, cc f132⟩]
def f94 : FT := fun p s k => hd s fun a0 s0 =>
 hd s0 fun a1 s1 =>
 nl s1 <|
 cc f132 p [a0, a1] fun v2 p3 =>
 k [v2] p3
theorem o94 : FO EN 94 f94 := fe (np := 2) (T := t94) (tcons (cc_ok o132) tnil) [] (by kernel_rfl) fun p s k => by kernel_rfl
/- 43 cmp.Or[int] -/
def t43 : List Ce := []
def f43 : FT := fun p s k => hd s fun a0 s0 =>
 nl s0 <|
 kln a0 fun v1 =>
 jn 0 (fun j2 =>
 lp 1 fuel (fun r3 v4 p5 =>
 klt v4 v1 fun v6 =>
 kif v6
 (kia 1 a0 v4 fun v7 =>
 kld p5 v7 fun v8 =>
 keq true .i v8 q0 fun v9 =>
 kif v9
 (k [v8] p5)
 (kad v4 q14 fun v10 =>
 r3 v10 p5))
 (j2 p5)) q0 p) fun p11 =>
 k [q0] p11
theorem o43 : FO EN 43 f43 := fe (np := 1) (T := t43) tnil [some [], some [8], none, none, none] (by kernel_rfl) fun p s k => by kernel_rfl
/- 93 countersign/names.Compare -/
def t93 : List Ce := [⟨94, cc f94⟩, ⟨43, cc f43⟩]
def f93 : FT := fun p s k => hd s fun a0 s0 =>
 hd s0 fun a1 s1 =>
 nl s1 <|
 kbx p 2 a0 fun v2 p3 =>
 kbx p3 2 a1 fun v4 p5 =>
 kfa 0 v2 fun v6 =>
 kld (prt [] p5) v6 fun v7 =>
 kfa 0 v4 fun v8 =>
 kld (prt [] p5) v8 fun v9 =>
 cc f94 (prt [] p5) [v7, v9] fun v10 p11 =>
 unpK p5 p11 fun p12 =>
 kfa 1 v2 fun v13 =>
 kld (prt [(p5.next, p11.next)] p12) v13 fun v14 =>
 kfa 1 v4 fun v15 =>
 kld (prt [(p5.next, p11.next)] p12) v15 fun v16 =>
 cc f94 p12 [v14, v16] fun v17 p18 =>
 kbs p18 2 q15 [(0, 1, v10), (1, 1, v17)] fun v19 p20 =>
 cc f43 p20 [v19] fun v21 p22 =>
 k [v21] p22
theorem o93 : FO EN 93 f93 := fe (np := 2) (T := t93) (tcons (cc_ok o94) (tcons (cc_ok o43) tnil)) [] (by kernel_rfl) fun p s k => by kernel_rfl
/- 44 countersign/names.CompareGoal -/
def t44 : List Ce := [⟨93, cc f93⟩, ⟨94, cc f94⟩, ⟨43, cc f43⟩]
def f44 : FT := fun p s k => hd s fun a0 s0 =>
 hd s0 fun a1 s1 =>
 nl s1 <|
 kbx p 3 a0 fun v2 p3 =>
 kbx p3 3 a1 fun v4 p5 =>
 kfa 0 v2 fun v6 =>
 kla (prt [] p5) 2 v6 fun v7 =>
 kfa 0 v4 fun v8 =>
 kla (prt [] p5) 2 v8 fun v9 =>
 cc f93 (prt [] p5) [v7, v9] fun v10 p11 =>
 unpK p5 p11 fun p12 =>
 kfa 2 v2 fun v13 =>
 kld (prt [(p5.next, p11.next)] p12) v13 fun v14 =>
 kfa 2 v4 fun v15 =>
 kld (prt [(p5.next, p11.next)] p12) v15 fun v16 =>
 cc f94 p12 [v14, v16] fun v17 p18 =>
 kbs p18 2 q15 [(0, 1, v10), (1, 1, v17)] fun v19 p20 =>
 cc f43 p20 [v19] fun v21 p22 =>
 k [v21] p22
theorem o44 : FO EN 44 f44 := fe (np := 2) (T := t44) (tcons (cc_ok o93) (tcons (cc_ok o94) (tcons (cc_ok o43) tnil))) [] (by kernel_rfl) fun p s k => by kernel_rfl
/- 45 countersign/names.CompareSubject -/
def t45 : List Ce := [⟨44, cc f44⟩]
def f45 : FT := fun p s k => hd s fun a0 s0 =>
 hd s0 fun a1 s1 =>
 nl s1 <|
 kbx p 3 a0 fun v2 p3 =>
 kbx p3 3 a1 fun v4 p5 =>
 kla p5 3 v2 fun v6 =>
 kla p5 3 v4 fun v7 =>
 cc f44 p5 [v6, v7] fun v8 p9 =>
 k [v8] p9
theorem o45 : FO EN 45 f45 := fe (np := 2) (T := t45) (tcons (cc_ok o44) tnil) [] (by kernel_rfl) fun p s k => by kernel_rfl
/- 22 countersign/tuples.Compare -/
def t22 : List Ce := [⟨44, cc f44⟩, ⟨45, cc f45⟩, ⟨43, cc f43⟩]
def f22 : FT := fun p s k => hd s fun a0 s0 =>
 hd s0 fun a1 s1 =>
 nl s1 <|
 kbx p 6 a0 fun v2 p3 =>
 kbx p3 6 a1 fun v4 p5 =>
 kfa 0 v2 fun v6 =>
 kla (prt [] p5) 3 v6 fun v7 =>
 kfa 0 v4 fun v8 =>
 kla (prt [] p5) 3 v8 fun v9 =>
 cc f44 (prt [] p5) [v7, v9] fun v10 p11 =>
 unpK p5 p11 fun p12 =>
 kfa 3 v2 fun v13 =>
 kla (prt [(p5.next, p11.next)] p12) 3 v13 fun v14 =>
 kfa 3 v4 fun v15 =>
 kla (prt [(p5.next, p11.next)] p12) 3 v15 fun v16 =>
 cc f45 p12 [v14, v16] fun v17 p18 =>
 kbs p18 2 q15 [(0, 1, v10), (1, 1, v17)] fun v19 p20 =>
 cc f43 p20 [v19] fun v21 p22 =>
 k [v21] p22
theorem o22 : FO EN 22 f22 := fe (np := 2) (T := t22) (tcons (cc_ok o44) (tcons (cc_ok o45) (tcons (cc_ok o43) tnil))) [] (by kernel_rfl) fun p s k => by kernel_rfl
/- 83 slices.insertionSortCmpFunc[countersign/api.Tuple] -/
def t83 : List Ce := [⟨22, cc f22⟩]
def f83 : FT := fun p s k => hd s fun a0 s0 =>
 hd s0 fun a1 s1 =>
 hd s1 fun a2 s2 =>
 hd s2 fun a3 s3 =>
 nl s3 <|
 kad a1 q14 fun v4 =>
 jn 0 (fun j5 =>
 lp 1 fuel (fun r6 v7 p8 =>
 klt v7 a2 fun v9 =>
 kif v9
 (jn 0 (fun j10 =>
 jn 0 (fun j11 =>
 lp 1 fuel (fun r12 v13 p14 =>
 kgt v13 a1 fun v15 =>
 jn 12 (fun j16 => gdK v15 true (kia 6 a0 v13 fun v17 =>
 kla (prt [] p14) 6 v17 fun v18 =>
 ksb v13 q14 fun v19 =>
 kia 6 a0 v19 fun v20 =>
 kla (prt [] p14) 6 v20 fun v21 =>
 kcv t83 p14 a3 [v18, v21] fun v22 p23 =>
 klt v22 q0 fun v24 =>
 j16 a3 a0 v13 v17 v18 a0 v13 v19 v20 v21 v22 v24 p23) (j16 .undef .undef .undef .undef .undef .undef .undef .undef .undef .undef .undef .undef p14)) fun v25 v26 v27 v28 v29 v30 v31 v32 v33 v34 v35 v36 p37 =>
 kpk v15 v36 q13 fun v38 =>
 kif v38
 (ksb v13 q14 fun v39 =>
 ksb v13 q14 fun v40 =>
 kia 6 a0 v40 fun v41 =>
 kla (prt [] p37) 6 v41 fun v42 =>
 kia 6 a0 v13 fun v43 =>
 kla (prt [] p37) 6 v43 fun v44 =>
 kia 6 a0 v13 fun v45 =>
 kst p37 6 v45 v42 fun p46 =>
 kia 6 a0 v39 fun v47 =>
 kst p46 6 v47 v44 fun p48 =>
 ksb v13 q14 fun v49 =>
 r12 v49 p48)
 (j11 p37)) v7 p8) fun p50 =>
 j10 p50) fun p51 =>
 kad v7 q14 fun v52 =>
 r6 v52 p51)
 (j5 p8)) v4 p) fun p53 =>
 k [] p53
theorem o83 : FO EN 83 f83 := fe (np := 4) (T := t83) (tcons (cc_ok o22) tnil) [some [], some [8], none, some [], some [], some [9], none, none] (by kernel_rfl) fun p s k => by kernel_rfl
/- 127 slices.siftDownCmpFunc[countersign/api.Tuple] -/
def t127 : List Ce := []
def f127 : FT := fun p s k => hd s fun a0 s0 =>
 hd s0 fun a1 s1 =>
 hd s1 fun a2 s2 =>
 hd s2 fun a3 s3 =>
 hd s3 fun a4 s4 =>
 nl s4 <|
 jn 0 (fun j5 =>
 lp 1 fuel (fun r6 v7 p8 =>
 kar .mul q16 v7 fun v9 =>
 kad v9 q14 fun v10 =>
 kge v10 a2 fun v11 =>
 kif v11
 (j5 p8)
 (kad v10 q14 fun v12 =>
 klt v12 a2 fun v13 =>
 jn 16 (fun j14 => gdK v13 true (kad a3 v10 fun v15 =>
 kia 6 a0 v15 fun v16 =>
 kla (prt [] p8) 6 v16 fun v17 =>
 kad a3 v10 fun v18 =>
 kad v18 q14 fun v19 =>
 kia 6 a0 v19 fun v20 =>
 kla (prt [] p8) 6 v20 fun v21 =>
 kcv t127 p8 a4 [v17, v21] fun v22 p23 =>
 klt v22 q0 fun v24 =>
 j14 a4 a0 a3 v10 v15 v16 v17 a0 a3 v10 v18 v19 v20 v21 v22 v24 p23) (j14 .undef .undef .undef .undef .undef .undef .undef .undef .undef .undef .undef .undef .undef .undef .undef .undef p8)) fun v25 v26 v27 v28 v29 v30 v31 v32 v33 v34 v35 v36 v37 v38 v39 v40 p41 =>
 kpk v13 v40 q13 fun v42 =>
 jn 1 (fun j43 => kif v42
 (kad v10 q14 fun v44 =>
 j43 v44 p41)
 (j43 v10 p41)) fun v45 p46 =>
 kad a3 v7 fun v47 =>
 kia 6 a0 v47 fun v48 =>
 kla (prt [] p46) 6 v48 fun v49 =>
 kad a3 v45 fun v50 =>
 kia 6 a0 v50 fun v51 =>
 kla (prt [] p46) 6 v51 fun v52 =>
 kcv t127 p46 a4 [v49, v52] fun v53 p54 =>
 klt v53 q0 fun v55 =>
 knt v55 fun v56 =>
 kif v56
 (k [] p54)
 (kad a3 v7 fun v57 =>
 kad a3 v45 fun v58 =>
 kad a3 v45 fun v59 =>
 kia 6 a0 v59 fun v60 =>
 kla (prt [] p54) 6 v60 fun v61 =>
 kad a3 v7 fun v62 =>
 kia 6 a0 v62 fun v63 =>
 kla (prt [] p54) 6 v63 fun v64 =>
 kia 6 a0 v57 fun v65 =>
 kst p54 6 v65 v61 fun p66 =>
 kia 6 a0 v58 fun v67 =>
 kst p66 6 v67 v64 fun p68 =>
 r6 v45 p68))) a1 p) fun p69 =>
 k [] p69
theorem o127 : FO EN 127 f127 := fe (np := 5) (T := t127) tnil [some [], some [10], none, none, some [11], none] (by kernel_rfl) fun p s k => by kernel_rfl
/- 84 slices.heapSortCmpFunc[countersign/api.Tuple] -/
def t84 : List Ce := [⟨127, cc f127⟩]
def f84 : FT := fun p s k => hd s fun a0 s0 =>
 hd s0 fun a1 s1 =>
 hd s1 fun a2 s2 =>
 hd s2 fun a3 s3 =>
 nl s3 <|
 ksb a2 a1 fun v4 =>
 ksb v4 q14 fun v5 =>
 kar .quo v5 q16 fun v6 =>
 jn 0 (fun j7 =>
 lp 1 fuel (fun r8 v9 p10 =>
 kge v9 q0 fun v11 =>
 kif v11
 (cc f127 p10 [a0, v9, v4, a1, a3] fun v12 p13 =>
 ksb v9 q14 fun v14 =>
 r8 v14 p13)
 (j7 p10)) v6 p) fun p15 =>
 ksb v4 q14 fun v16 =>
 jn 0 (fun j17 =>
 lp 1 fuel (fun r18 v19 p20 =>
 kge v19 q0 fun v21 =>
 kif v21
 (kad a1 v19 fun v22 =>
 kad a1 v19 fun v23 =>
 kia 6 a0 v23 fun v24 =>
 kla (prt [] p20) 6 v24 fun v25 =>
 kia 6 a0 a1 fun v26 =>
 kla (prt [] p20) 6 v26 fun v27 =>
 kia 6 a0 a1 fun v28 =>
 kst p20 6 v28 v25 fun p29 =>
 kia 6 a0 v22 fun v30 =>
 kst p29 6 v30 v27 fun p31 =>
 cc f127 p31 [a0, q0, v19, a1, a3] fun v32 p33 =>
 ksb v19 q14 fun v34 =>
 r18 v34 p33)
 (j17 p20)) v16 p15) fun p35 =>
 k [] p35
theorem o84 : FO EN 84 f84 := fe (np := 4) (T := t84) (tcons (cc_ok o127) tnil) [some [], some [11], none, none, some [], some [12], none, none] (by kernel_rfl) fun p s k => by kernel_rfl
/- 128 slices.nextPowerOfTwo -/
def t128 : List Ce := [⟨42, cc f42⟩]
def f128 : FT := fun p s k => hd s fun a0 s0 =>
 nl s0 <|
 kci .u64 a0 fun v1 =>
 cc f42 p [v1] fun v2 p3 =>
 kar .shl q18 v2 fun v4 =>
 k [v4] p3
theorem o128 : FO EN 128 f128 := fe (np := 1) (T := t128) (tcons (cc_ok o42) tnil) [] (by kernel_rfl) fun p s k => by kernel_rfl
/- 129 (*slices.xorshift).Next -/
def t129 : List Ce := []
def f129 : FT := fun p s k => hd s fun a0 s0 =>
 nl s0 <|
 knc a0 fun v1 =>
 kld (prt [] p) v1 fun v2 =>
 knc a0 fun v3 =>
 kld (prt [] p) v3 fun v4 =>
 kar .shl v4 q19 fun v5 =>
 kar .xor v2 v5 fun v6 =>
 knc a0 fun v7 =>
 kst p 1 v7 v6 fun p8 =>
 knc a0 fun v9 =>
 kld (prt [] p8) v9 fun v10 =>
 knc a0 fun v11 =>
 kld (prt [] p8) v11 fun v12 =>
 kar .shr v12 q20 fun v13 =>
 kar .xor v10 v13 fun v14 =>
 knc a0 fun v15 =>
 kst p8 1 v15 v14 fun p16 =>
 knc a0 fun v17 =>
 kld (prt [] p16) v17 fun v18 =>
 knc a0 fun v19 =>
 kld (prt [] p16) v19 fun v20 =>
 kar .shl v20 q21 fun v21 =>
 kar .xor v18 v21 fun v22 =>
 knc a0 fun v23 =>
 kst p16 1 v23 v22 fun p24 =>
 knc a0 fun v25 =>
 kld p24 v25 fun v26 =>
 k [v26] p24
theorem o129 : FO EN 129 f129 := fe (np := 1) (T := t129) tnil [] (by kernel_rfl) fun p s k => by kernel_rfl
/- 85 slices.breakPatternsCmpFunc[countersign/api.Tuple] -/
def t85 : List Ce := [⟨128, cc f128⟩, ⟨129, cc f129⟩]
def f85 : FT := fun p s k => hd s fun a0 s0 =>
 hd s0 fun a1 s1 =>
 hd s1 fun a2 s2 =>
 hd s2 fun a3 s3 =>
 nl s3 <|
 ksb a2 a1 fun v4 =>
 kge v4 q6 fun v5 =>
 jn 0 (fun j6 => kif v5
 (kci .u64 v4 fun v7 =>
 kal p q22 fun v8 p9 =>
 kst p9 1 v8 v7 fun p10 =>
 cc f128 p10 [v4] fun v11 p12 =>
 kar .quo v4 q23 fun v13 =>
 kar .mul v13 q16 fun v14 =>
 kad a1 v14 fun v15 =>
 ksb v15 q14 fun v16 =>
 jn 0 (fun j17 =>
 lp 1 fuel (fun r18 v19 p20 =>
 kar .quo v4 q23 fun v21 =>
 kar .mul v21 q16 fun v22 =>
 kad a1 v22 fun v23 =>
 kad v23 q14 fun v24 =>
 kle v19 v24 fun v25 =>
 kif v25
 (cc f129 p20 [v8] fun v26 p27 =>
 ksb v11 q18 fun v28 =>
 kar .and v26 v28 fun v29 =>
 kci .i64 v29 fun v30 =>
 kge v30 v4 fun v31 =>
 jn 1 (fun j32 => kif v31
 (ksb v30 v4 fun v33 =>
 j32 v33 p27)
 (j32 v30 p27)) fun v34 p35 =>
 kad a1 v34 fun v36 =>
 kad a1 v34 fun v37 =>
 kia 6 a0 v37 fun v38 =>
 kla (prt [] p35) 6 v38 fun v39 =>
 kia 6 a0 v19 fun v40 =>
 kla (prt [] p35) 6 v40 fun v41 =>
 kia 6 a0 v19 fun v42 =>
 kst p35 6 v42 v39 fun p43 =>
 kia 6 a0 v36 fun v44 =>
 kst p43 6 v44 v41 fun p45 =>
 kad v19 q14 fun v46 =>
 r18 v46 p45)
 (j17 p20)) v16 p12) fun p47 =>
 j6 p47)
 (j6 p)) fun p48 =>
 k [] p48
theorem o85 : FO EN 85 f85 := fe (np := 4) (T := t85) (tcons (cc_ok o128) (tcons (cc_ok o129) tnil)) [some [], some [], some [11], none, none, some [12]] (by kernel_rfl) fun p s k => by kernel_rfl
/- 162 slices.order2CmpFunc[countersign/api.Tuple] -/
def t162 : List Ce := [⟨22, cc f22⟩]
def f162 : FT := fun p s k => hd s fun a0 s0 =>
 hd s0 fun a1 s1 =>
 hd s1 fun a2 s2 =>
 hd s2 fun a3 s3 =>
 hd s3 fun a4 s4 =>
 nl s4 <|
 kia 6 a0 a2 fun v5 =>
 kla (prt [] p) 6 v5 fun v6 =>
 kia 6 a0 a1 fun v7 =>
 kla (prt [] p) 6 v7 fun v8 =>
 kcv t162 p a4 [v6, v8] fun v9 p10 =>
 klt v9 q0 fun v11 =>
 kif v11
 (knc a3 fun v12 =>
 kld p10 v12 fun v13 =>
 kad v13 q14 fun v14 =>
 knc a3 fun v15 =>
 kst p10 1 v15 v14 fun p16 =>
 k [a2, a1] p16)
 (k [a1, a2] p10)
theorem o162 : FO EN 162 f162 := fe (np := 5) (T := t162) (tcons (cc_ok o22) tnil) [none] (by kernel_rfl) fun p s k => by kernel_rfl
/- 131 slices.medianCmpFunc[countersign/api.Tuple] -/
def t131 : List Ce := [⟨162, cn f162⟩]
def f131 : FT := fun p s k => hd s fun a0 s0 =>
 hd s0 fun a1 s1 =>
 hd s1 fun a2 s2 =>
 hd s2 fun a3 s3 =>
 hd s3 fun a4 s4 =>
 hd s4 fun a5 s5 =>
 nl s5 <|
 cn f162 p [a0, a1, a2, a4, a5] fun v6 p7 =>
 kex v6 0 fun v8 =>
 kex v6 1 fun v9 =>
 cn f162 p7 [a0, v9, a3, a4, a5] fun v10 p11 =>
 kex v10 0 fun v12 =>
 kex v10 1 fun v13 =>
 cn f162 p11 [a0, v8, v12, a4, a5] fun v14 p15 =>
 kex v14 0 fun v16 =>
 kex v14 1 fun v17 =>
 k [v17] p15
theorem o131 : FO EN 131 f131 := fe (np := 6) (T := t131) (tcons (cn_ok o162) tnil) [] (by kernel_rfl) fun p s k => by kernel_rfl
/- 130 slices.medianAdjacentCmpFunc[countersign/api.Tuple] -/
def t130 : List Ce := [⟨131, cn f131⟩]
def f130 : FT := fun p s k => hd s fun a0 s0 =>
 hd s0 fun a1 s1 =>
 hd s1 fun a2 s2 =>
 hd s2 fun a3 s3 =>
 nl s3 <|
 ksb a1 q14 fun v4 =>
 kad a1 q14 fun v5 =>
 cn f131 p [a0, v4, a1, v5, a2, a3] fun v6 p7 =>
 k [v6] p7
theorem o130 : FO EN 130 f130 := fe (np := 4) (T := t130) (tcons (cn_ok o131) tnil) [] (by kernel_rfl) fun p s k => by kernel_rfl
/- 86 slices.choosePivotCmpFunc[countersign/api.Tuple] -/
def t86 : List Ce := [⟨130, cn f130⟩, ⟨131, cn f131⟩]
def f86 : FT := fun p s k => hd s fun a0 s0 =>
 hd s0 fun a1 s1 =>
 hd s1 fun a2 s2 =>
 hd s2 fun a3 s3 =>
 nl s3 <|
 ksb a2 a1 fun v4 =>
 kal p q24 fun v5 p6 =>
 kar .quo v4 q23 fun v7 =>
 kar .mul v7 q14 fun v8 =>
 kad a1 v8 fun v9 =>
 kar .quo v4 q23 fun v10 =>
 kar .mul v10 q16 fun v11 =>
 kad a1 v11 fun v12 =>
 kar .quo v4 q23 fun v13 =>
 kar .mul v13 q25 fun v14 =>
 kad a1 v14 fun v15 =>
 kge v4 q6 fun v16 =>
 jn 1 (fun j17 => kif v16
 (kge v4 q26 fun v18 =>
 jn 3 (fun j19 => kif v18
 (cn f130 p6 [a0, v9, v5, a3] fun v20 p21 =>
 cn f130 p21 [a0, v12, v5, a3] fun v22 p23 =>
 cn f130 p23 [a0, v15, v5, a3] fun v24 p25 =>
 j19 v20 v22 v24 p25)
 (j19 v9 v12 v15 p6)) fun v26 v27 v28 p29 =>
 cn f131 p29 [a0, v26, v27, v28, v5, a3] fun v30 p31 =>
 j17 v30 p31)
 (j17 v12 p6)) fun v32 p33 =>
 kld p33 v5 fun v34 =>
 keq false .i v34 q0 fun v35 =>
 kif v35
 (k [v32, q14] p33)
 (keq false .i v34 q27 fun v36 =>
 kif v36
 (k [v32, q16] p33)
 (k [v32, q0] p33))
theorem o86 : FO EN 86 f86 := fe (np := 4) (T := t86) (tcons (cn_ok o130) (tcons (cn_ok o131) tnil)) [some [13], some [12, 13, 14], none, none, none] (by kernel_rfl) fun p s k => by kernel_rfl
/- 87 slices.reverseRangeCmpFunc[countersign/api.Tuple] -/
def t87 : List Ce := []
def f87 : FT := fun p s k => hd s fun a0 s0 =>
 hd s0 fun a1 s1 =>
 hd s1 fun a2 s2 =>
 hd s2 fun a3 s3 =>
 nl s3 <|
 ksb a2 q14 fun v4 =>
 jn 0 (fun j5 =>
 lp 2 fuel (fun r6 v7 v8 p9 =>
 klt v7 v8 fun v10 =>
 kif v10
 (kia 6 a0 v8 fun v11 =>
 kla (prt [] p9) 6 v11 fun v12 =>
 kia 6 a0 v7 fun v13 =>
 kla (prt [] p9) 6 v13 fun v14 =>
 kia 6 a0 v7 fun v15 =>
 kst p9 6 v15 v12 fun p16 =>
 kia 6 a0 v8 fun v17 =>
 kst p16 6 v17 v14 fun p18 =>
 kad v7 q14 fun v19 =>
 ksb v8 q14 fun v20 =>
 r6 v19 v20 p18)
 (j5 p9)) a1 v4 p) fun p21 =>
 k [] p21
theorem o87 : FO EN 87 f87 := fe (np := 4) (T := t87) tnil [some [], some [8, 9], none, none] (by kernel_rfl) fun p s k => by kernel_rfl
/- 88 slices.partialInsertionSortCmpFunc[countersign/api.Tuple] -/
def t88 : List Ce := [⟨22, cc f22⟩]
def f88 : FT := fun p s k => hd s fun a0 s0 =>
 hd s0 fun a1 s1 =>
 hd s1 fun a2 s2 =>
 hd s2 fun a3 s3 =>
 nl s3 <|
 kad a1 q14 fun v4 =>
 jn 0 (fun j5 =>
 lp 2 fuel (fun r6 v7 v8 p9 =>
 klt v8 q28 fun v10 =>
 kif v10
 (jn 1 (fun j11 =>
 jn 1 (fun j12 =>
 lp 1 fuel (fun r13 v14 p15 =>
 klt v14 a2 fun v16 =>
 jn 13 (fun j17 => gdK v16 true (kia 6 a0 v14 fun v18 =>
 kla (prt [] p15) 6 v18 fun v19 =>
 ksb v14 q14 fun v20 =>
 kia 6 a0 v20 fun v21 =>
 kla (prt [] p15) 6 v21 fun v22 =>
 kcv t88 p15 a3 [v19, v22] fun v23 p24 =>
 klt v23 q0 fun v25 =>
 knt v25 fun v26 =>
 j17 a3 a0 v14 v18 v19 a0 v14 v20 v21 v22 v23 v25 v26 p24) (j17 .undef .undef .undef .undef .undef .undef .undef .undef .undef .undef .undef .undef .undef p15)) fun v27 v28 v29 v30 v31 v32 v33 v34 v35 v36 v37 v38 v39 p40 =>
 kpk v16 v39 q13 fun v41 =>
 kif v41
 (kad v14 q14 fun v42 =>
 r13 v42 p40)
 (j12 v14 p40)) v7 p9) fun v43 p44 =>
 keq false .i v43 a2 fun v45 =>
 kif v45
 (k [q29] p44)
 (ksb a2 a1 fun v46 =>
 klt v46 q26 fun v47 =>
 kif v47
 (k [q13] p44)
 (ksb v43 q14 fun v48 =>
 ksb v43 q14 fun v49 =>
 kia 6 a0 v49 fun v50 =>
 kla (prt [] p44) 6 v50 fun v51 =>
 kia 6 a0 v43 fun v52 =>
 kla (prt [] p44) 6 v52 fun v53 =>
 kia 6 a0 v43 fun v54 =>
 kst p44 6 v54 v51 fun p55 =>
 kia 6 a0 v48 fun v56 =>
 kst p55 6 v56 v53 fun p57 =>
 ksb v43 a1 fun v58 =>
 kge v58 q16 fun v59 =>
 jn 0 (fun j60 => kif v59
 (ksb v43 q14 fun v61 =>
 jn 0 (fun j62 =>
 lp 1 fuel (fun r63 v64 p65 =>
 kge v64 q14 fun v66 =>
 kif v66
 (kia 6 a0 v64 fun v67 =>
 kla (prt [] p65) 6 v67 fun v68 =>
 ksb v64 q14 fun v69 =>
 kia 6 a0 v69 fun v70 =>
 kla (prt [] p65) 6 v70 fun v71 =>
 kcv t88 p65 a3 [v68, v71] fun v72 p73 =>
 klt v72 q0 fun v74 =>
 knt v74 fun v75 =>
 kif v75
 (j62 p73)
 (ksb v64 q14 fun v76 =>
 ksb v64 q14 fun v77 =>
 kia 6 a0 v77 fun v78 =>
 kla (prt [] p73) 6 v78 fun v79 =>
 kia 6 a0 v64 fun v80 =>
 kla (prt [] p73) 6 v80 fun v81 =>
 kia 6 a0 v64 fun v82 =>
 kst p73 6 v82 v79 fun p83 =>
 kia 6 a0 v76 fun v84 =>
 kst p83 6 v84 v81 fun p85 =>
 ksb v64 q14 fun v86 =>
 r63 v86 p85))
 (j62 p65)) v61 p57) fun p87 =>
 j60 p87)
 (j60 p57)) fun p88 =>
 ksb a2 v43 fun v89 =>
 kge v89 q16 fun v90 =>
 jn 0 (fun j91 => kif v90
 (kad v43 q14 fun v92 =>
 jn 0 (fun j93 =>
 lp 1 fuel (fun r94 v95 p96 =>
 klt v95 a2 fun v97 =>
 kif v97
 (kia 6 a0 v95 fun v98 =>
 kla (prt [] p96) 6 v98 fun v99 =>
 ksb v95 q14 fun v100 =>
 kia 6 a0 v100 fun v101 =>
 kla (prt [] p96) 6 v101 fun v102 =>
 kcv t88 p96 a3 [v99, v102] fun v103 p104 =>
 klt v103 q0 fun v105 =>
 knt v105 fun v106 =>
 kif v106
 (j93 p104)
 (ksb v95 q14 fun v107 =>
 ksb v95 q14 fun v108 =>
 kia 6 a0 v108 fun v109 =>
 kla (prt [] p104) 6 v109 fun v110 =>
 kia 6 a0 v95 fun v111 =>
 kla (prt [] p104) 6 v111 fun v112 =>
 kia 6 a0 v95 fun v113 =>
 kst p104 6 v113 v110 fun p114 =>
 kia 6 a0 v107 fun v115 =>
 kst p114 6 v115 v112 fun p116 =>
 kad v95 q14 fun v117 =>
 r94 v117 p116))
 (j93 p96)) v92 p88) fun p118 =>
 j91 p118)
 (j91 p88)) fun p119 =>
 j11 v43 p119))) fun v120 p121 =>
 kad v8 q14 fun v122 =>
 r6 v120 v122 p121)
 (j5 p9)) v4 q0 p) fun p123 =>
 k [q13] p123
theorem o88 : FO EN 88 f88 := fe (np := 4) (T := t88) (tcons (cc_ok o22) tnil) [some [], some [9, 10], none, some [9], some [9], some [9], none, none, none, none, some [], some [], some [11], none, none, none, some [], some [], some [12], none, none, none] (by kernel_rfl) fun p s k => by kernel_rfl
/- 89 slices.partitionEqualCmpFunc[countersign/api.Tuple] -/
def t89 : List Ce := []
def f89 : FT := fun p s k => hd s fun a0 s0 =>
 hd s0 fun a1 s1 =>
 hd s1 fun a2 s2 =>
 hd s2 fun a3 s3 =>
 hd s3 fun a4 s4 =>
 nl s4 <|
 kia 6 a0 a3 fun v5 =>
 kla (prt [] p) 6 v5 fun v6 =>
 kia 6 a0 a1 fun v7 =>
 kla (prt [] p) 6 v7 fun v8 =>
 kia 6 a0 a1 fun v9 =>
 kst p 6 v9 v6 fun p10 =>
 kia 6 a0 a3 fun v11 =>
 kst p10 6 v11 v8 fun p12 =>
 kad a1 q14 fun v13 =>
 ksb a2 q14 fun v14 =>
 jn 1 (fun j15 =>
 lp 2 fuel (fun r16 v17 v18 p19 =>
 jn 2 (fun j20 =>
 jn 1 (fun j21 =>
 lp 1 fuel (fun r22 v23 p24 =>
 kle v23 v18 fun v25 =>
 jn 12 (fun j26 => gdK v25 true (kia 6 a0 a1 fun v27 =>
 kla (prt [] p24) 6 v27 fun v28 =>
 kia 6 a0 v23 fun v29 =>
 kla (prt [] p24) 6 v29 fun v30 =>
 kcv t89 p24 a4 [v28, v30] fun v31 p32 =>
 klt v31 q0 fun v33 =>
 knt v33 fun v34 =>
 j26 a4 a0 a1 v27 v28 a0 v23 v29 v30 v31 v33 v34 p32) (j26 .undef .undef .undef .undef .undef .undef .undef .undef .undef .undef .undef .undef p24)) fun v35 v36 v37 v38 v39 v40 v41 v42 v43 v44 v45 v46 p47 =>
 kpk v25 v46 q13 fun v48 =>
 kif v48
 (kad v23 q14 fun v49 =>
 r22 v49 p47)
 (j21 v23 p47)) v17 p19) fun v50 p51 =>
 jn 1 (fun j52 =>
 lp 1 fuel (fun r53 v54 p55 =>
 kle v50 v54 fun v56 =>
 jn 11 (fun j57 => gdK v56 true (kia 6 a0 a1 fun v58 =>
 kla (prt [] p55) 6 v58 fun v59 =>
 kia 6 a0 v54 fun v60 =>
 kla (prt [] p55) 6 v60 fun v61 =>
 kcv t89 p55 a4 [v59, v61] fun v62 p63 =>
 klt v62 q0 fun v64 =>
 j57 a4 a0 a1 v58 v59 a0 v54 v60 v61 v62 v64 p63) (j57 .undef .undef .undef .undef .undef .undef .undef .undef .undef .undef .undef p55)) fun v65 v66 v67 v68 v69 v70 v71 v72 v73 v74 v75 p76 =>
 kpk v56 v75 q13 fun v77 =>
 kif v77
 (ksb v54 q14 fun v78 =>
 r53 v78 p76)
 (j52 v54 p76)) v18 p51) fun v79 p80 =>
 kgt v50 v79 fun v81 =>
 kif v81
 (j15 v50 p80)
 (kia 6 a0 v79 fun v82 =>
 kla (prt [] p80) 6 v82 fun v83 =>
 kia 6 a0 v50 fun v84 =>
 kla (prt [] p80) 6 v84 fun v85 =>
 kia 6 a0 v50 fun v86 =>
 kst p80 6 v86 v83 fun p87 =>
 kia 6 a0 v79 fun v88 =>
 kst p87 6 v88 v85 fun p89 =>
 kad v50 q14 fun v90 =>
 ksb v79 q14 fun v91 =>
 j20 v90 v91 p89)) fun v92 v93 p94 =>
 r16 v92 v93 p94) v13 v14 p12) fun v95 p96 =>
 k [v95] p96
theorem o89 : FO EN 89 f89 := fe (np := 5) (T := t89) tnil [some [11], some [11, 12], some [11, 12], some [11], some [11], none, none, some [12], some [12], none, none, none] (by kernel_rfl) fun p s k => by kernel_rfl
/- 90 slices.partitionCmpFunc[countersign/api.Tuple] -/
def t90 : List Ce := []
def f90 : FT := fun p s k => hd s fun a0 s0 =>
 hd s0 fun a1 s1 =>
 hd s1 fun a2 s2 =>
 hd s2 fun a3 s3 =>
 hd s3 fun a4 s4 =>
 nl s4 <|
 kia 6 a0 a3 fun v5 =>
 kla (prt [] p) 6 v5 fun v6 =>
 kia 6 a0 a1 fun v7 =>
 kla (prt [] p) 6 v7 fun v8 =>
 kia 6 a0 a1 fun v9 =>
 kst p 6 v9 v6 fun p10 =>
 kia 6 a0 a3 fun v11 =>
 kst p10 6 v11 v8 fun p12 =>
 kad a1 q14 fun v13 =>
 ksb a2 q14 fun v14 =>
 jn 1 (fun j15 =>
 lp 1 fuel (fun r16 v17 p18 =>
 kle v17 v14 fun v19 =>
 jn 11 (fun j20 => gdK v19 true (kia 6 a0 v17 fun v21 =>
 kla (prt [] p18) 6 v21 fun v22 =>
 kia 6 a0 a1 fun v23 =>
 kla (prt [] p18) 6 v23 fun v24 =>
 kcv t90 p18 a4 [v22, v24] fun v25 p26 =>
 klt v25 q0 fun v27 =>
 j20 a4 a0 v17 v21 v22 a0 a1 v23 v24 v25 v27 p26) (j20 .undef .undef .undef .undef .undef .undef .undef .undef .undef .undef .undef p18)) fun v28 v29 v30 v31 v32 v33 v34 v35 v36 v37 v38 p39 =>
 kpk v19 v38 q13 fun v40 =>
 kif v40
 (kad v17 q14 fun v41 =>
 r16 v41 p39)
 (j15 v17 p39)) v13 p12) fun v42 p43 =>
 jn 1 (fun j44 =>
 lp 1 fuel (fun r45 v46 p47 =>
 kle v42 v46 fun v48 =>
 jn 12 (fun j49 => gdK v48 true (kia 6 a0 v46 fun v50 =>
 kla (prt [] p47) 6 v50 fun v51 =>
 kia 6 a0 a1 fun v52 =>
 kla (prt [] p47) 6 v52 fun v53 =>
 kcv t90 p47 a4 [v51, v53] fun v54 p55 =>
 klt v54 q0 fun v56 =>
 knt v56 fun v57 =>
 j49 a4 a0 v46 v50 v51 a0 a1 v52 v53 v54 v56 v57 p55) (j49 .undef .undef .undef .undef .undef .undef .undef .undef .undef .undef .undef .undef p47)) fun v58 v59 v60 v61 v62 v63 v64 v65 v66 v67 v68 v69 p70 =>
 kpk v48 v69 q13 fun v71 =>
 kif v71
 (ksb v46 q14 fun v72 =>
 r45 v72 p70)
 (j44 v46 p70)) v14 p43) fun v73 p74 =>
 kgt v42 v73 fun v75 =>
 kif v75
 (kia 6 a0 a1 fun v76 =>
 kla (prt [] p74) 6 v76 fun v77 =>
 kia 6 a0 v73 fun v78 =>
 kla (prt [] p74) 6 v78 fun v79 =>
 kia 6 a0 v73 fun v80 =>
 kst p74 6 v80 v77 fun p81 =>
 kia 6 a0 a1 fun v82 =>
 kst p81 6 v82 v79 fun p83 =>
 k [v73, q29] p83)
 (kia 6 a0 v73 fun v84 =>
 kla (prt [] p74) 6 v84 fun v85 =>
 kia 6 a0 v42 fun v86 =>
 kla (prt [] p74) 6 v86 fun v87 =>
 kia 6 a0 v42 fun v88 =>
 kst p74 6 v88 v85 fun p89 =>
 kia 6 a0 v73 fun v90 =>
 kst p89 6 v90 v87 fun p91 =>
 kad v42 q14 fun v92 =>
 ksb v73 q14 fun v93 =>
 jn 1 (fun j94 =>
 lp 2 fuel (fun r95 v96 v97 p98 =>
 jn 2 (fun j99 =>
 jn 1 (fun j100 =>
 lp 1 fuel (fun r101 v102 p103 =>
 kle v102 v97 fun v104 =>
 jn 11 (fun j105 => gdK v104 true (kia 6 a0 v102 fun v106 =>
 kla (prt [] p103) 6 v106 fun v107 =>
 kia 6 a0 a1 fun v108 =>
 kla (prt [] p103) 6 v108 fun v109 =>
 kcv t90 p103 a4 [v107, v109] fun v110 p111 =>
 klt v110 q0 fun v112 =>
 j105 a4 a0 v102 v106 v107 a0 a1 v108 v109 v110 v112 p111) (j105 .undef .undef .undef .undef .undef .undef .undef .undef .undef .undef .undef p103)) fun v113 v114 v115 v116 v117 v118 v119 v120 v121 v122 v123 p124 =>
 kpk v104 v123 q13 fun v125 =>
 kif v125
 (kad v102 q14 fun v126 =>
 r101 v126 p124)
 (j100 v102 p124)) v96 p98) fun v127 p128 =>
 jn 1 (fun j129 =>
 lp 1 fuel (fun r130 v131 p132 =>
 kle v127 v131 fun v133 =>
 jn 12 (fun j134 => gdK v133 true (kia 6 a0 v131 fun v135 =>
 kla (prt [] p132) 6 v135 fun v136 =>
 kia 6 a0 a1 fun v137 =>
 kla (prt [] p132) 6 v137 fun v138 =>
 kcv t90 p132 a4 [v136, v138] fun v139 p140 =>
 klt v139 q0 fun v141 =>
 knt v141 fun v142 =>
 j134 a4 a0 v131 v135 v136 a0 a1 v137 v138 v139 v141 v142 p140) (j134 .undef .undef .undef .undef .undef .undef .undef .undef .undef .undef .undef .undef p132)) fun v143 v144 v145 v146 v147 v148 v149 v150 v151 v152 v153 v154 p155 =>
 kpk v133 v154 q13 fun v156 =>
 kif v156
 (ksb v131 q14 fun v157 =>
 r130 v157 p155)
 (j129 v131 p155)) v97 p128) fun v158 p159 =>
 kgt v127 v158 fun v160 =>
 kif v160
 (j94 v158 p159)
 (kia 6 a0 v158 fun v161 =>
 kla (prt [] p159) 6 v161 fun v162 =>
 kia 6 a0 v127 fun v163 =>
 kla (prt [] p159) 6 v163 fun v164 =>
 kia 6 a0 v127 fun v165 =>
 kst p159 6 v165 v162 fun p166 =>
 kia 6 a0 v158 fun v167 =>
 kst p166 6 v167 v164 fun p168 =>
 kad v127 q14 fun v169 =>
 ksb v158 q14 fun v170 =>
 j99 v169 v170 p168)) fun v171 v172 p173 =>
 r95 v171 v172 p173) v92 v93 p91) fun v174 p175 =>
 kia 6 a0 a1 fun v176 =>
 kla (prt [] p175) 6 v176 fun v177 =>
 kia 6 a0 v174 fun v178 =>
 kla (prt [] p175) 6 v178 fun v179 =>
 kia 6 a0 v174 fun v180 =>
 kst p175 6 v180 v177 fun p181 =>
 kia 6 a0 a1 fun v182 =>
 kst p181 6 v182 v179 fun p183 =>
 k [v174, q13] p183)
theorem o90 : FO EN 90 f90 := fe (np := 5) (T := t90) tnil [some [12], some [12], none, none, some [13], some [13], none, none, none, some [13], some [12, 13], some [12, 13], some [12], some [12], none, none, some [13], some [13], none, none, none] (by kernel_rfl) fun p s k => by kernel_rfl
/- 41 slices.pdqsortCmpFunc[countersign/api.Tuple] -/
def t41 (self : FT) : List Ce := [⟨83, ci f83⟩, ⟨84, cc f84⟩, ⟨85, cc f85⟩, ⟨86, cn f86⟩, ⟨87, cc f87⟩, ⟨88, cn f88⟩, ⟨89, cc f89⟩, ⟨90, cc f90⟩, ⟨41, ci self⟩]
def g41 : FT → FT := fun self => fun p s k => hd s fun a0 s0 =>
 hd s0 fun a1 s1 =>
 hd s1 fun a2 s2 =>
 hd s2 fun a3 s3 =>
 hd s3 fun a4 s4 =>
 nl s4 <|
 jn 0 (fun j5 =>
 lp 5 fuel (fun r6 v7 v8 v9 v10 v11 p12 =>
 jn 5 (fun j13 =>
 ksb v8 v7 fun v14 =>
 kle v14 q27 fun v15 =>
 kif v15
 (ci f83 p12 [a0, v7, v8, a4] fun v16 p17 =>
 k [] p17)
 (keq false .i v9 q0 fun v18 =>
 kif v18
 (cc f84 p12 [a0, v7, v8, a4] fun v19 p20 =>
 k [] p20)
 (knt v10 fun v21 =>
 jn 1 (fun j22 => kif v21
 (cc f85 p12 [a0, v7, v8, a4] fun v23 p24 =>
 ksb v9 q14 fun v25 =>
 j22 v25 p24)
 (j22 v9 p12)) fun v26 p27 =>
 cn f86 p27 [a0, v7, v8, a4] fun v28 p29 =>
 kex v28 0 fun v30 =>
 kex v28 1 fun v31 =>
 keq false .i v31 q16 fun v32 =>
 jn 2 (fun j33 => kif v32
 (cc f87 p29 [a0, v7, v8, a4] fun v34 p35 =>
 ksb v8 q14 fun v36 =>
 ksb v30 v7 fun v37 =>
 ksb v36 v37 fun v38 =>
 j33 v38 q14 p35)
 (j33 v30 v31 p29)) fun v39 v40 p41 =>
 jn 1 (fun j42 => gdK v10 true (j42 v11 p41) (j42 .undef p41)) fun v43 p44 =>
 kpk v10 v43 q13 fun v45 =>
 jn 2 (fun j46 => gdK v45 true (keq false .i v40 q14 fun v47 =>
 j46 v40 v47 p44) (j46 .undef .undef p44)) fun v48 v49 p50 =>
 kpk v45 v49 q13 fun v51 =>
 jn 0 (fun j52 => kif v51
 (cn f88 p50 [a0, v7, v8, a4] fun v53 p54 =>
 kif v53
 (k [] p54)
 (j52 p54))
 (j52 p50)) fun p55 =>
 kgt v7 q0 fun v56 =>
 jn 13 (fun j57 => gdK v56 true (ksb v7 q14 fun v58 =>
 kia 6 a0 v58 fun v59 =>
 kla (prt [] p55) 6 v59 fun v60 =>
 kia 6 a0 v39 fun v61 =>
 kla (prt [] p55) 6 v61 fun v62 =>
 kcv (t41 self) p55 a4 [v60, v62] fun v63 p64 =>
 klt v63 q0 fun v65 =>
 knt v65 fun v66 =>
 j57 a4 a0 v7 v58 v59 v60 a0 v39 v61 v62 v63 v65 v66 p64) (j57 .undef .undef .undef .undef .undef .undef .undef .undef .undef .undef .undef .undef .undef p55)) fun v67 v68 v69 v70 v71 v72 v73 v74 v75 v76 v77 v78 v79 p80 =>
 kpk v56 v79 q13 fun v81 =>
 kif v81
 (cc f89 p80 [a0, v7, v8, v39, a4] fun v82 p83 =>
 j13 v82 v8 v26 v10 v11 p83)
 (cc f90 p80 [a0, v7, v8, v39, a4] fun v84 p85 =>
 kex v84 0 fun v86 =>
 kex v84 1 fun v87 =>
 ksb v86 v7 fun v88 =>
 ksb v8 v86 fun v89 =>
 kar .quo v14 q6 fun v90 =>
 klt v88 v89 fun v91 =>
 jn 3 (fun j92 => kif v91
 (kge v88 v90 fun v93 =>
 ci self p85 [a0, v7, v86, v26, a4] fun v94 p95 =>
 kad v86 q14 fun v96 =>
 j92 v96 v8 v93 p95)
 (kge v89 v90 fun v97 =>
 kad v86 q14 fun v98 =>
 ci self p85 [a0, v98, v8, v26, a4] fun v99 p100 =>
 j92 v7 v86 v97 p100)) fun v101 v102 v103 p104 =>
 j13 v101 v102 v26 v103 v87 p104)))) fun v105 v106 v107 v108 v109 p110 =>
 r6 v105 v106 v107 v108 v109 p110) a1 a2 a3 q29 q29 p) fun p111 =>
 k [] p111
def f41 : FT := rcF depth g41
theorem o41 : FO EN 41 f41 := FO.rc (fun self h => fe (np := 5) (T := t41 self) (tcons (ci_ok o83) (tcons (cc_ok o84) (tcons (cc_ok o85) (tcons (cn_ok o86) (tcons (cc_ok o87) (tcons (cn_ok o88) (tcons (cc_ok o89) (tcons (cc_ok o90) (tcons (ci_ok h) tnil))))))))) [some [], some [1, 2, 3, 10, 11], some [1, 2, 3, 10, 11], none, none, some [3], some [13, 14], some [], none, none, some [1, 2, 10]] (by kernel_rfl) fun p s k => by kernel_rfl) depth
/- 21 slices.SortFunc[[]countersign/api.Tuple,countersign/api.Tuple] -/
def t21 : List Ce := [⟨42, cc f42⟩, ⟨41, ci f41⟩]
def f21 : FT := fun p s k => hd s fun a0 s0 =>
 hd s0 fun a1 s1 =>
 nl s1 <|
 kln a0 fun v2 =>
 kci .u64 v2 fun v3 =>
 cc f42 p [v3] fun v4 p5 =>
 ci f41 p5 [a0, q0, v2, v4, a1] fun v6 p7 =>
 k [] p7
theorem o21 : FO EN 21 f21 := fe (np := 2) (T := t21) (tcons (cc_ok o42) (tcons (ci_ok o41) tnil)) [] (by kernel_rfl) fun p s k => by kernel_rfl
/- 23 slices.Compact[[]countersign/api.Tuple,countersign/api.Tuple] -/
def t23 : List Ce := []
def f23 : FT := fun p s k => hd s fun a0 s0 =>
 nl s0 <|
 kln a0 fun v1 =>
 klt v1 q16 fun v2 =>
 kif v2
 (k [a0] p)
 (jn 0 (fun j3 =>
 lp 1 fuel (fun r4 v5 p6 =>
 kln a0 fun v7 =>
 klt v5 v7 fun v8 =>
 kif v8
 (jn 1 (fun j9 =>
 kia 6 a0 v5 fun v10 =>
 kla (prt [] p6) 6 v10 fun v11 =>
 ksb v5 q14 fun v12 =>
 kia 6 a0 v12 fun v13 =>
 kla (prt [] p6) 6 v13 fun v14 =>
 kea false [(0, .s), (1, .s), (2, .s), (3, .s), (4, .s), (5, .s)] v11 v14 fun v15 =>
 kif v15
 (ksl 6 a0 (some v5) none none fun v16 =>
 jn 1 (fun j17 =>
 lp 2 fuel (fun r18 v19 v20 p21 =>
 kln v16 fun v22 =>
 klt v20 v22 fun v23 =>
 kif v23
 (kia 6 v16 v20 fun v24 =>
 kla (prt [] p21) 6 v24 fun v25 =>
 ksb v20 q14 fun v26 =>
 kia 6 v16 v26 fun v27 =>
 kla (prt [] p21) 6 v27 fun v28 =>
 kea true [(0, .s), (1, .s), (2, .s), (3, .s), (4, .s), (5, .s)] v25 v28 fun v29 =>
 jn 1 (fun j30 => kif v29
 (kia 6 v16 v20 fun v31 =>
 kla p21 6 v31 fun v32 =>
 kia 6 a0 v19 fun v33 =>
 kst p21 6 v33 v32 fun p34 =>
 kad v19 q14 fun v35 =>
 j30 v35 p34)
 (j30 v19 p21)) fun v36 p37 =>
 kad v20 q14 fun v38 =>
 r18 v36 v38 p37)
 (j17 v19 p21)) v5 q14 p6) fun v39 p40 =>
 ksl 6 a0 (some v39) none none fun v41 =>
 ksw mth p40 (.clear q30 (.c v41)) fun v42 p43 =>
 ksl 6 a0 none (some v39) none fun v44 =>
 k [v44] p43)
 (j9 v5 p6)) fun v45 p46 =>
 kad v45 q14 fun v47 =>
 r4 v47 p46)
 (j3 p6)) q14 p) fun p48 =>
 k [a0] p48)
theorem o23 : FO EN 23 f23 := fe (np := 1) (T := t23) tnil [none, some [], some [3], none, some [3], none, some [3], some [3, 5], none, none, some [3]] (by kernel_rfl) fun p s k => by kernel_rfl
/- 8 countersign/tuples.Sorted -/
def t8 : List Ce := [⟨20, cn f20⟩, ⟨21, ci f21⟩, ⟨23, cn f23⟩]
def f8 : FT := fun p s k => hd s fun a0 s0 =>
 nl s0 <|
 cn f20 p [a0] fun v1 p2 =>
 ci f21 p2 [v1, q31] fun v3 p4 =>
 cn f23 p4 [v1] fun v5 p6 =>
 kln v5 fun v7 =>
 kln v5 fun v8 =>
 ksl 6 v5 none (some v7) (some v8) fun v9 =>
 k [v9] p6
theorem o8 : FO EN 8 f8 := fe (np := 1) (T := t8) (tcons (cn_ok o20) (tcons (ci_ok o21) (tcons (cn_ok o23) tnil))) [] (by kernel_rfl) fun p s k => by kernel_rfl
/- 156 countersign/names.Check -/
def t156 : List Ce := []
def f156 : FT := fun p s k => hd s fun a0 s0 =>
 nl s0 <|
 kls a0 fun v1 =>
 klt v1 q14 fun v2 =>
 jn 3 (fun j3 => gdK v2 false (kls a0 fun v4 =>
 kgt v4 q3 fun v5 =>
 j3 a0 v4 v5 p) (j3 .undef .undef .undef p)) fun v6 v7 v8 p9 =>
 kpk v2 q29 v8 fun v10 =>
 kif v10
 (k [q32] p9)
 (kls a0 fun v11 =>
 jn 0 (fun j12 =>
 lp 1 fuel (fun r13 v14 p15 =>
 klt v14 v11 fun v16 =>
 kif v16
 (kix a0 v14 fun v17 =>
 klt v17 q33 fun v18 =>
 jn 4 (fun j19 => gdK v18 false (kix a0 v14 fun v20 =>
 kgt v20 q34 fun v21 =>
 j19 a0 v14 v20 v21 p15) (j19 .undef .undef .undef .undef p15)) fun v22 v23 v24 v25 p26 =>
 kpk v18 q29 v25 fun v27 =>
 jn 5 (fun j28 => gdK v27 true (kix a0 v14 fun v29 =>
 klt v29 q35 fun v30 =>
 j28 a0 v14 v29 v30 v30 p26) (j28 .undef .undef .undef .undef .undef p26)) fun v31 v32 v33 v34 v35 p36 =>
 jn 4 (fun j37 => gdK v35 false (kix a0 v14 fun v38 =>
 kgt v38 q36 fun v39 =>
 j37 a0 v14 v38 v39 p36) (j37 .undef .undef .undef .undef p36)) fun v40 v41 v42 v43 p44 =>
 jn 1 (fun j45 => gdK v27 true (kpk v35 q29 v43 fun v46 =>
 j45 v46 p44) (j45 .undef p44)) fun v47 p48 =>
 kpk v27 v47 q13 fun v49 =>
 kif v49
 (k [q32] p48)
 (kad v14 q14 fun v50 =>
 r13 v50 p48))
 (j12 p15)) q0 p9) fun p51 =>
 k [q0] p51)
theorem o156 : FO EN 156 f156 := fe (np := 1) (T := t156) tnil [none, some [], some [14], none, none, none] (by kernel_rfl) fun p s k => by kernel_rfl
/- 120 countersign/names.all -/
def t120 : List Ce := [⟨156, cc f156⟩]
def f120 : FT := fun p s k => hd s fun a0 s0 =>
 nl s0 <|
 kln a0 fun v1 =>
 jn 0 (fun j2 =>
 lp 1 fuel (fun r3 v4 p5 =>
 klt v4 v1 fun v6 =>
 kif v6
 (kia 1 a0 v4 fun v7 =>
 kld p5 v7 fun v8 =>
 cc f156 p5 [v8] fun v9 p10 =>
 keq true .i v9 q0 fun v11 =>
 kif v11
 (k [v9] p10)
 (kad v4 q14 fun v12 =>
 r3 v12 p10))
 (j2 p5)) q0 p) fun p13 =>
 k [q0] p13
theorem o120 : FO EN 120 f120 := fe (np := 1) (T := t120) (tcons (cc_ok o156) tnil) [some [], some [8], none, none, none] (by kernel_rfl) fun p s k => by kernel_rfl
/- 77 countersign/names.Goal -/
def t77 : List Ce := [⟨120, cn f120⟩]
def f77 : FT := fun p s k => hd s fun a0 s0 =>
 nl s0 <|
 kbx p 3 a0 fun v1 p2 =>
 kfa 0 v1 fun v3 =>
 kfa 0 v3 fun v4 =>
 kld p2 v4 fun v5 =>
 kfa 0 v1 fun v6 =>
 kfa 1 v6 fun v7 =>
 kld p2 v7 fun v8 =>
 kfa 2 v1 fun v9 =>
 kld p2 v9 fun v10 =>
 kbs p2 3 q37 [(0, 1, v5), (1, 1, v8), (2, 1, v10)] fun v11 p12 =>
 cn f120 p12 [v11] fun v13 p14 =>
 k [v13] p14
theorem o77 : FO EN 77 f77 := fe (np := 1) (T := t77) (tcons (cn_ok o120) tnil) [] (by kernel_rfl) fun p s k => by kernel_rfl
/- 133 countersign/names.Object -/
def t133 : List Ce := [⟨120, cn f120⟩]
def f133 : FT := fun p s k => hd s fun a0 s0 =>
 nl s0 <|
 kbx p 2 a0 fun v1 p2 =>
 kfa 0 v1 fun v3 =>
 kld p2 v3 fun v4 =>
 kfa 1 v1 fun v5 =>
 kld p2 v5 fun v6 =>
 kbs p2 2 q38 [(0, 1, v4), (1, 1, v6)] fun v7 p8 =>
 cn f120 p8 [v7] fun v9 p10 =>
 k [v9] p10
theorem o133 : FO EN 133 f133 := fe (np := 1) (T := t133) (tcons (cn_ok o120) tnil) [] (by kernel_rfl) fun p s k => by kernel_rfl
/- 95 countersign/names.Subject -/
def t95 : List Ce := [⟨133, cn f133⟩, ⟨77, cc f77⟩]
def f95 : FT := fun p s k => hd s fun a0 s0 =>
 nl s0 <|
 kbx p 3 a0 fun v1 p2 =>
 kfa 2 v1 fun v3 =>
 kld p2 v3 fun v4 =>
 keq false .s v4 q39 fun v5 =>
 kif v5
 (kfa 0 v1 fun v6 =>
 kla p2 2 v6 fun v7 =>
 cn f133 p2 [v7] fun v8 p9 =>
 k [v8] p9)
 (kla p2 3 v1 fun v10 =>
 cc f77 p2 [v10] fun v11 p12 =>
 k [v11] p12)
theorem o95 : FO EN 95 f95 := fe (np := 1) (T := t95) (tcons (cn_ok o133) (tcons (cc_ok o77) tnil)) [none] (by kernel_rfl) fun p s k => by kernel_rfl
/- 46 countersign/tuples.Check -/
def t46 : List Ce := [⟨77, cc f77⟩, ⟨95, cc f95⟩]
def f46 : FT := fun p s k => hd s fun a0 s0 =>
 nl s0 <|
 kbx p 6 a0 fun v1 p2 =>
 kfa 0 v1 fun v3 =>
 kla p2 3 v3 fun v4 =>
 cc f77 p2 [v4] fun v5 p6 =>
 keq true .i v5 q0 fun v7 =>
 kif v7
 (k [v5] p6)
 (kfa 3 v1 fun v8 =>
 kla p6 3 v8 fun v9 =>
 cc f95 p6 [v9] fun v10 p11 =>
 k [v10] p11)
theorem o46 : FO EN 46 f46 := fe (np := 1) (T := t46) (tcons (cc_ok o77) (tcons (cc_ok o95) tnil)) [none] (by kernel_rfl) fun p s k => by kernel_rfl
/- 134 (*countersign/trees.node[countersign/api.Tuple, struct{}]).size -/
def t134 : List Ce := []
def f134 : FT := fun p s k => hd s fun a0 s0 =>
 nl s0 <|
 ken false .p a0 .nilp fun v1 =>
 kif v1
 (k [q0] p)
 (knc a0 fun v2 =>
 kfa 8 v2 fun v3 =>
 kld p v3 fun v4 =>
 k [v4] p)
theorem o134 : FO EN 134 f134 := fe (np := 1) (T := t134) tnil [none] (by kernel_rfl) fun p s k => by kernel_rfl
/- 97 (countersign/trees.Map[countersign/api.Tuple, struct{}]).Len -/
def t97 : List Ce := [⟨134, cc f134⟩]
def f97 : FT := fun p s k => hd s fun a0 s0 =>
 nl s0 <|
 kbx p 2 a0 fun v1 p2 =>
 kfa 1 v1 fun v3 =>
 kld p2 v3 fun v4 =>
 cc f134 p2 [v4] fun v5 p6 =>
 k [v5] p6
theorem o97 : FO EN 97 f97 := fe (np := 1) (T := t97) (tcons (cc_ok o134) tnil) [] (by kernel_rfl) fun p s k => by kernel_rfl
/- 48 (countersign/sets.Set).Len -/
def t48 : List Ce := [⟨97, cc f97⟩]
def f48 : FT := fun p s k => hd s fun a0 s0 =>
 nl s0 <|
 kbx p 4 a0 fun v1 p2 =>
 kfa 0 v1 fun v3 =>
 kfa 0 v3 fun v4 =>
 kla p2 2 v4 fun v5 =>
 cc f97 p2 [v5] fun v6 p7 =>
 k [v6] p7
theorem o48 : FO EN 48 f48 := fe (np := 1) (T := t48) (tcons (cc_ok o97) tnil) [] (by kernel_rfl) fun p s k => by kernel_rfl
/- 96 (countersign/trees.Map[countersign/api.Tuple, struct{}]).Get -/
def t96 : List Ce := [⟨22, cc f22⟩]
def f96 : FT := fun p s k => hd s fun a0 s0 =>
 hd s0 fun a1 s1 =>
 nl s1 <|
 kbx p 2 a0 fun v2 p3 =>
 kbx p3 6 a1 fun v4 p5 =>
 kal p5 [] fun v6 p7 =>
 kfa 1 v2 fun v8 =>
 kld p7 v8 fun v9 =>
 jn 0 (fun j10 =>
 lp 1 fuel (fun r11 v12 p13 =>
 ken true .p v12 .nilp fun v14 =>
 kif v14
 (kfa 0 v2 fun v15 =>
 kld (prt [] p13) v15 fun v16 =>
 kla (prt [] p13) 6 v4 fun v17 =>
 knc v12 fun v18 =>
 kfa 0 v18 fun v19 =>
 kfa 0 v19 fun v20 =>
 kla (prt [] p13) 6 v20 fun v21 =>
 kcv t96 p13 v16 [v17, v21] fun v22 p23 =>
 keq false .i v22 q0 fun v24 =>
 kif v24
 (knc v12 fun v25 =>
 kfa 0 v25 fun v26 =>
 ksw mth p23 (.faddrZ (.c v26)) fun v27 p28 =>
 ksw mth p28 (.load true 0 (.c v27)) fun v29 p30 =>
 kst p30 0 v6 v29 fun p31 =>
 krz p31 v6 fun v32 =>
 k [v32, q29] p31)
 (klt v22 q0 fun v33 =>
 jn 1 (fun j34 => kif v33
 (knc v12 fun v35 =>
 kfa 6 v35 fun v36 =>
 kld p23 v36 fun v37 =>
 j34 v37 p23)
 (knc v12 fun v38 =>
 kfa 7 v38 fun v39 =>
 kld p23 v39 fun v40 =>
 j34 v40 p23)) fun v41 p42 =>
 r11 v41 p42))
 (j10 p13)) v9 p7) fun p43 =>
 kal p43 [] fun v44 p45 =>
 ksw mth p45 (.load true 0 (.c v44)) fun v46 p47 =>
 kst p47 0 v6 v46 fun p48 =>
 krz p48 v6 fun v49 =>
 k [v49, q13] p48
theorem o96 : FO EN 96 f96 := fe (np := 2) (T := t96) (tcons (cc_ok o22) tnil) [some [], some [6], none, none, none, some [6]] (by kernel_rfl) fun p s k => by kernel_rfl
end
end Go.V
end

section
set_option maxRecDepth 100000
set_option linter.unusedVariables false
namespace Go.V
noncomputable section
/- 47 (countersign/sets.Set).Has -/
def t47 : List Ce := [⟨48, cc f48⟩, ⟨96, cn f96⟩]
def f47 : FT := fun p s k => hd s fun a0 s0 =>
 hd s0 fun a1 s1 =>
 nl s1 <|
 kbx p 4 a0 fun v2 p3 =>
 kbx p3 6 a1 fun v4 p5 =>
 kla p5 4 v2 fun v6 =>
 cc f48 p5 [v6] fun v7 p8 =>
 keq false .i v7 q0 fun v9 =>
 kif v9
 (k [q13] p8)
 (kfa 0 v2 fun v10 =>
 kfa 0 v10 fun v11 =>
 kla p8 2 v11 fun v12 =>
 kla p8 6 v4 fun v13 =>
 cn f96 p8 [v12, v13] fun v14 p15 =>
 kex v14 0 fun v16 =>
 kex v14 1 fun v17 =>
 kal p15 [] fun v18 p19 =>
 kst p19 0 v18 v16 fun p20 =>
 k [v17] p20)
theorem o47 : FO EN 47 f47 := fe (np := 2) (T := t47) (tcons (cc_ok o48) (tcons (cn_ok o96) tnil)) [none] (by kernel_rfl) fun p s k => by kernel_rfl
/- 98 countersign/trees.New[countersign/api.Tuple,struct{}] -/
def t98 : List Ce := []
def f98 : FT := fun p s k => hd s fun a0 s0 =>
 nl s0 <|
 kal p q40 fun v1 p2 =>
 kbd q40 [(0, 1, a0)] fun v3 =>
 kst p2 2 v1 v3 fun p4 =>
 kra p4 2 v1 fun v5 =>
 k [v5] p4
theorem o98 : FO EN 98 f98 := fe (np := 1) (T := t98) tnil [] (by kernel_rfl) fun p s k => by kernel_rfl
/- 203 (*countersign/trees.node[countersign/api.Tuple, struct{}]).deep -/
def t203 : List Ce := []
def f203 : FT := fun p s k => hd s fun a0 s0 =>
 nl s0 <|
 ken false .p a0 .nilp fun v1 =>
 kif v1
 (k [q0] p)
 (knc a0 fun v2 =>
 kfa 9 v2 fun v3 =>
 kld p v3 fun v4 =>
 k [v4] p)
theorem o203 : FO EN 203 f203 := fe (np := 1) (T := t203) tnil [none] (by kernel_rfl) fun p s k => by kernel_rfl
/- 166 countersign/trees.join[countersign/api.Tuple,struct{}] -/
def t166 : List Ce := [⟨134, cc f134⟩, ⟨203, cc f203⟩]
def f166 : FT := fun p s k => hd s fun a0 s0 =>
 hd s0 fun a1 s1 =>
 hd s1 fun a2 s2 =>
 nl s2 <|
 kbx p 6 a0 fun v3 p4 =>
 kla (prt [] p4) 6 v3 fun v5 =>
 cc f134 (prt [] p4) [a1] fun v6 p7 =>
 unpK p4 p7 fun p8 =>
 kad v6 q14 fun v9 =>
 cc f134 (prt [] p8) [a2] fun v10 p11 =>
 unpK p8 p11 fun p12 =>
 kad v9 v10 fun v13 =>
 cc f203 (prt [] p12) [a1] fun v14 p15 =>
 unpK p12 p15 fun p16 =>
 cc f203 (prt [] p16) [a2] fun v17 p18 =>
 unpK p16 p18 fun p19 =>
 ksw mth p19 (.minmax true [(.c v14), (.c v17)]) fun v20 p21 =>
 kad q14 v20 fun v22 =>
 kbd q41 [(0, 6, v5), (6, 1, a1), (7, 1, a2), (8, 1, v13), (9, 1, v22)] fun v23 =>
 kbx p19 10 v23 fun v24 p25 =>
 k [v24] p25
theorem o166 : FO EN 166 f166 := fe (np := 3) (T := t166) (tcons (cc_ok o134) (tcons (cc_ok o203) tnil)) [] (by kernel_rfl) fun p s k => by kernel_rfl
/- 164 countersign/trees.balance[countersign/api.Tuple,struct{}] -/
def t164 : List Ce := [⟨203, cc f203⟩, ⟨166, cn f166⟩]
def f164 : FT := fun p s k => hd s fun a0 s0 =>
 hd s0 fun a1 s1 =>
 hd s1 fun a2 s2 =>
 nl s2 <|
 kbx p 6 a0 fun v3 p4 =>
 cc f203 p4 [a1] fun v5 p6 =>
 cc f203 p6 [a2] fun v7 p8 =>
 ksb v5 v7 fun v9 =>
 kgt v9 q14 fun v10 =>
 jn 11 (fun j11 => gdK v10 true (knc a1 fun v12 =>
 kfa 6 v12 fun v13 =>
 kld (prt [] p8) v13 fun v14 =>
 cc f203 (prt [] p8) [v14] fun v15 p16 =>
 unpK p8 p16 fun p17 =>
 knc a1 fun v18 =>
 kfa 7 v18 fun v19 =>
 kld (prt [(p8.next, p16.next)] p17) v19 fun v20 =>
 cc f203 p17 [v20] fun v21 p22 =>
 kge v15 v21 fun v23 =>
 j11 a1 v12 v13 v14 v15 a1 v18 v19 v20 v21 v23 p22) (j11 .undef .undef .undef .undef .undef .undef .undef .undef .undef .undef .undef p8)) fun v24 v25 v26 v27 v28 v29 v30 v31 v32 v33 v34 p35 =>
 kpk v10 v34 q13 fun v36 =>
 kif v36
 (knc a1 fun v37 =>
 kfa 0 v37 fun v38 =>
 kla (prt [] p35) 6 v38 fun v39 =>
 knc a1 fun v40 =>
 kfa 6 v40 fun v41 =>
 kld (prt [] p35) v41 fun v42 =>
 kla (prt [] p35) 6 v3 fun v43 =>
 knc a1 fun v44 =>
 kfa 7 v44 fun v45 =>
 kld (prt [] p35) v45 fun v46 =>
 cn f166 (prt [] p35) [v43, v46, a2] fun v47 p48 =>
 unpK p35 p48 fun p49 =>
 cn f166 p49 [v39, v42, v47] fun v50 p51 =>
 k [v50] p51)
 (kgt v9 q14 fun v52 =>
 kif v52
 (knc a1 fun v53 =>
 kfa 7 v53 fun v54 =>
 kld p35 v54 fun v55 =>
 knc v55 fun v56 =>
 kfa 0 v56 fun v57 =>
 kla (prt [] p35) 6 v57 fun v58 =>
 knc a1 fun v59 =>
 kfa 0 v59 fun v60 =>
 kla (prt [] p35) 6 v60 fun v61 =>
 knc a1 fun v62 =>
 kfa 6 v62 fun v63 =>
 kld (prt [] p35) v63 fun v64 =>
 knc v55 fun v65 =>
 kfa 6 v65 fun v66 =>
 kld (prt [] p35) v66 fun v67 =>
 cn f166 (prt [] p35) [v61, v64, v67] fun v68 p69 =>
 unpK p35 p69 fun p70 =>
 kla (prt [(p35.next, p69.next)] p70) 6 v3 fun v71 =>
 knc v55 fun v72 =>
 kfa 7 v72 fun v73 =>
 kld (prt [(p35.next, p69.next)] p70) v73 fun v74 =>
 cn f166 (prt [] p70) [v71, v74, a2] fun v75 p76 =>
 unpK p70 p76 fun p77 =>
 cn f166 p77 [v58, v68, v75] fun v78 p79 =>
 k [v78] p79)
 (klt v9 q42 fun v80 =>
 jn 11 (fun j81 => gdK v80 true (knc a2 fun v82 =>
 kfa 7 v82 fun v83 =>
 kld (prt [] p35) v83 fun v84 =>
 cc f203 (prt [] p35) [v84] fun v85 p86 =>
 unpK p35 p86 fun p87 =>
 knc a2 fun v88 =>
 kfa 6 v88 fun v89 =>
 kld (prt [(p35.next, p86.next)] p87) v89 fun v90 =>
 cc f203 p87 [v90] fun v91 p92 =>
 kge v85 v91 fun v93 =>
 j81 a2 v82 v83 v84 v85 a2 v88 v89 v90 v91 v93 p92) (j81 .undef .undef .undef .undef .undef .undef .undef .undef .undef .undef .undef p35)) fun v94 v95 v96 v97 v98 v99 v100 v101 v102 v103 v104 p105 =>
 kpk v80 v104 q13 fun v106 =>
 kif v106
 (knc a2 fun v107 =>
 kfa 0 v107 fun v108 =>
 kla (prt [] p105) 6 v108 fun v109 =>
 kla (prt [] p105) 6 v3 fun v110 =>
 knc a2 fun v111 =>
 kfa 6 v111 fun v112 =>
 kld (prt [] p105) v112 fun v113 =>
 cn f166 (prt [] p105) [v110, a1, v113] fun v114 p115 =>
 unpK p105 p115 fun p116 =>
 knc a2 fun v117 =>
 kfa 7 v117 fun v118 =>
 kld (prt [(p105.next, p115.next)] p116) v118 fun v119 =>
 cn f166 p116 [v109, v114, v119] fun v120 p121 =>
 k [v120] p121)
 (klt v9 q42 fun v122 =>
 kif v122
 (knc a2 fun v123 =>
 kfa 6 v123 fun v124 =>
 kld p105 v124 fun v125 =>
 knc v125 fun v126 =>
 kfa 0 v126 fun v127 =>
 kla (prt [] p105) 6 v127 fun v128 =>
 kla (prt [] p105) 6 v3 fun v129 =>
 knc v125 fun v130 =>
 kfa 6 v130 fun v131 =>
 kld (prt [] p105) v131 fun v132 =>
 cn f166 (prt [] p105) [v129, a1, v132] fun v133 p134 =>
 unpK p105 p134 fun p135 =>
 knc a2 fun v136 =>
 kfa 0 v136 fun v137 =>
 kla (prt [(p105.next, p134.next)] p135) 6 v137 fun v138 =>
 knc v125 fun v139 =>
 kfa 7 v139 fun v140 =>
 kld (prt [(p105.next, p134.next)] p135) v140 fun v141 =>
 knc a2 fun v142 =>
 kfa 7 v142 fun v143 =>
 kld (prt [(p105.next, p134.next)] p135) v143 fun v144 =>
 cn f166 (prt [] p135) [v138, v141, v144] fun v145 p146 =>
 unpK p135 p146 fun p147 =>
 cn f166 p147 [v128, v133, v145] fun v148 p149 =>
 k [v148] p149)
 (kla p105 6 v3 fun v150 =>
 cn f166 p105 [v150, a1, a2] fun v151 p152 =>
 k [v151] p152))))
theorem o164 : FO EN 164 f164 := fe (np := 3) (T := t164) (tcons (cc_ok o203) (tcons (cn_ok o166) tnil)) [none, none, none, none, none] (by kernel_rfl) fun p s k => by kernel_rfl
/- 165 countersign/trees.first[countersign/api.Tuple,struct{}] -/
def t165 (self : FT) : List Ce := [⟨165, cc self⟩, ⟨164, cn f164⟩]
def g165 : FT → FT := fun self => fun p s k => hd s fun a0 s0 =>
 nl s0 <|
 kal p q30 fun v1 p2 =>
 knc a0 fun v3 =>
 kfa 6 v3 fun v4 =>
 kld p2 v4 fun v5 =>
 ken false .p v5 .nilp fun v6 =>
 kif v6
 (knc a0 fun v7 =>
 kfa 0 v7 fun v8 =>
 kla (prt [] p2) 6 v8 fun v9 =>
 knc a0 fun v10 =>
 kfa 7 v10 fun v11 =>
 kld (prt [] p2) v11 fun v12 =>
 kps p2 [] [v11] 6 v1 v9 fun b13 p14 =>
 kra p14 6 v1 fun v15 =>
 k [v15, v12] p14)
 (knc a0 fun v16 =>
 kfa 6 v16 fun v17 =>
 kld p2 v17 fun v18 =>
 cc self p2 [v18] fun v19 p20 =>
 kex v19 0 fun v21 =>
 kex v19 1 fun v22 =>
 kal p20 q30 fun v23 p24 =>
 kst p24 6 v23 v21 fun p25 =>
 kla (prt [] p25) 6 v23 fun v26 =>
 knc a0 fun v27 =>
 kfa 0 v27 fun v28 =>
 kla (prt [] p25) 6 v28 fun v29 =>
 knc a0 fun v30 =>
 kfa 7 v30 fun v31 =>
 kld (prt [] p25) v31 fun v32 =>
 cn f164 (prt [] p25) [v29, v22, v32] fun v33 p34 =>
 unpK p25 p34 fun p35 =>
 kst p35 6 v1 v26 fun p36 =>
 kra p36 6 v1 fun v37 =>
 k [v37, v33] p36)
def f165 : FT := rcF depth g165
theorem o165 : FO EN 165 f165 := FO.rc (fun self h => fe (np := 1) (T := t165 self) (tcons (cc_ok h) (tcons (cn_ok o164) tnil)) [none] (by kernel_rfl) fun p s k => by kernel_rfl) depth
/- 135 (countersign/trees.Map[countersign/api.Tuple, struct{}]).drop -/
def t135 (self : FT) : List Ce := [⟨135, cc self⟩, ⟨164, cn f164⟩, ⟨165, cc f165⟩]
def g135 : FT → FT := fun self => fun p s k => hd s fun a0 s0 =>
 hd s0 fun a1 s1 =>
 hd s1 fun a2 s2 =>
 nl s2 <|
 kbx p 2 a0 fun v3 p4 =>
 kbx p4 6 a2 fun v5 p6 =>
 ken false .p a1 .nilp fun v7 =>
 kif v7
 (k [.nilp, q13] p6)
 (kfa 0 v3 fun v8 =>
 kld (prt [] p6) v8 fun v9 =>
 kla (prt [] p6) 6 v5 fun v10 =>
 knc a1 fun v11 =>
 kfa 0 v11 fun v12 =>
 kfa 0 v12 fun v13 =>
 kla (prt [] p6) 6 v13 fun v14 =>
 kcv (t135 self) p6 v9 [v10, v14] fun v15 p16 =>
 klt v15 q0 fun v17 =>
 kif v17
 (kla (prt [] p16) 2 v3 fun v18 =>
 knc a1 fun v19 =>
 kfa 6 v19 fun v20 =>
 kld (prt [] p16) v20 fun v21 =>
 kla (prt [] p16) 6 v5 fun v22 =>
 cc self p16 [v18, v21, v22] fun v23 p24 =>
 kex v23 0 fun v25 =>
 kex v23 1 fun v26 =>
 knc a1 fun v27 =>
 kfa 0 v27 fun v28 =>
 kla (prt [] p24) 6 v28 fun v29 =>
 knc a1 fun v30 =>
 kfa 7 v30 fun v31 =>
 kld (prt [] p24) v31 fun v32 =>
 cn f164 p24 [v29, v25, v32] fun v33 p34 =>
 k [v33, v26] p34)
 (kgt v15 q0 fun v35 =>
 kif v35
 (kla (prt [] p16) 2 v3 fun v36 =>
 knc a1 fun v37 =>
 kfa 7 v37 fun v38 =>
 kld (prt [] p16) v38 fun v39 =>
 kla (prt [] p16) 6 v5 fun v40 =>
 cc self p16 [v36, v39, v40] fun v41 p42 =>
 kex v41 0 fun v43 =>
 kex v41 1 fun v44 =>
 knc a1 fun v45 =>
 kfa 0 v45 fun v46 =>
 kla (prt [] p42) 6 v46 fun v47 =>
 knc a1 fun v48 =>
 kfa 6 v48 fun v49 =>
 kld (prt [] p42) v49 fun v50 =>
 cn f164 p42 [v47, v50, v43] fun v51 p52 =>
 k [v51, v44] p52)
 (knc a1 fun v53 =>
 kfa 7 v53 fun v54 =>
 kld p16 v54 fun v55 =>
 ken false .p v55 .nilp fun v56 =>
 kif v56
 (knc a1 fun v57 =>
 kfa 6 v57 fun v58 =>
 kld p16 v58 fun v59 =>
 k [v59, q29] p16)
 (knc a1 fun v60 =>
 kfa 7 v60 fun v61 =>
 kld p16 v61 fun v62 =>
 cc f165 p16 [v62] fun v63 p64 =>
 kex v63 0 fun v65 =>
 kex v63 1 fun v66 =>
 kal p64 q30 fun v67 p68 =>
 kst p68 6 v67 v65 fun p69 =>
 kla (prt [] p69) 6 v67 fun v70 =>
 knc a1 fun v71 =>
 kfa 6 v71 fun v72 =>
 kld (prt [] p69) v72 fun v73 =>
 cn f164 p69 [v70, v73, v66] fun v74 p75 =>
 k [v74, q29] p75))))
def f135 : FT := rcF depth g135
theorem o135 : FO EN 135 f135 := FO.rc (fun self h => fe (np := 3) (T := t135 self) (tcons (cc_ok h) (tcons (cn_ok o164) (tcons (cc_ok o165) tnil))) [none, none, none, none, none] (by kernel_rfl) fun p s k => by kernel_rfl) depth
/- 99 (countersign/trees.Map[countersign/api.Tuple, struct{}]).Drop -/
def t99 : List Ce := [⟨135, cc f135⟩]
def f99 : FT := fun p s k => hd s fun a0 s0 =>
 hd s0 fun a1 s1 =>
 nl s1 <|
 kbx p 2 a0 fun v2 p3 =>
 kbx p3 6 a1 fun v4 p5 =>
 kal p5 q40 fun v6 p7 =>
 kla p7 2 v2 fun v8 =>
 kfa 1 v2 fun v9 =>
 kld p7 v9 fun v10 =>
 kla p7 6 v4 fun v11 =>
 cc f135 p7 [v8, v10, v11] fun v12 p13 =>
 kex v12 0 fun v14 =>
 kex v12 1 fun v15 =>
 jn 0 (fun j16 => kif v15
 (kfa 1 v2 fun v17 =>
 kst p13 1 v17 v14 fun p18 =>
 j16 p18)
 (j16 p13)) fun p19 =>
 kla p19 2 v2 fun v20 =>
 kst p19 2 v6 v20 fun p21 =>
 kra p21 2 v6 fun v22 =>
 k [v22] p21
theorem o99 : FO EN 99 f99 := fe (np := 2) (T := t99) (tcons (cc_ok o135) tnil) [some []] (by kernel_rfl) fun p s k => by kernel_rfl
/- 50 countersign/sets.subjects -/
def t50 : List Ce := [⟨45, cc f45⟩, ⟨44, cc f44⟩, ⟨43, cc f43⟩]
def f50 : FT := fun p s k => hd s fun a0 s0 =>
 hd s0 fun a1 s1 =>
 nl s1 <|
 kbx p 6 a0 fun v2 p3 =>
 kbx p3 6 a1 fun v4 p5 =>
 kfa 3 v2 fun v6 =>
 kla (prt [] p5) 3 v6 fun v7 =>
 kfa 3 v4 fun v8 =>
 kla (prt [] p5) 3 v8 fun v9 =>
 cc f45 (prt [] p5) [v7, v9] fun v10 p11 =>
 unpK p5 p11 fun p12 =>
 kfa 0 v2 fun v13 =>
 kla (prt [(p5.next, p11.next)] p12) 3 v13 fun v14 =>
 kfa 0 v4 fun v15 =>
 kla (prt [(p5.next, p11.next)] p12) 3 v15 fun v16 =>
 cc f44 p12 [v14, v16] fun v17 p18 =>
 kbs p18 2 q15 [(0, 1, v10), (1, 1, v17)] fun v19 p20 =>
 cc f43 p20 [v19] fun v21 p22 =>
 k [v21] p22
theorem o50 : FO EN 50 f50 := fe (np := 2) (T := t50) (tcons (cc_ok o45) (tcons (cc_ok o44) (tcons (cc_ok o43) tnil))) [] (by kernel_rfl) fun p s k => by kernel_rfl
/- 136 (countersign/trees.Map[countersign/api.Tuple, struct{}]).put -/
def t136 (self : FT) : List Ce := [⟨166, cn f166⟩, ⟨136, cn self⟩, ⟨164, cn f164⟩, ⟨22, cc f22⟩, ⟨50, cn f50⟩]
def g136 : FT → FT := fun self => fun p s k => hd s fun a0 s0 =>
 hd s0 fun a1 s1 =>
 hd s1 fun a2 s2 =>
 nl s2 <|
 kbx p 2 a0 fun v3 p4 =>
 kbx p4 6 a2 fun v5 p6 =>
 ken false .p a1 .nilp fun v7 =>
 kif v7
 (kla p6 6 v5 fun v8 =>
 cn f166 p6 [v8, .nilp, .nilp] fun v9 p10 =>
 k [v9] p10)
 (kfa 0 v3 fun v11 =>
 kld (prt [] p6) v11 fun v12 =>
 kfa 0 v5 fun v13 =>
 kla (prt [] p6) 6 v13 fun v14 =>
 knc a1 fun v15 =>
 kfa 0 v15 fun v16 =>
 kfa 0 v16 fun v17 =>
 kla (prt [] p6) 6 v17 fun v18 =>
 kcv (t136 self) p6 v12 [v14, v18] fun v19 p20 =>
 klt v19 q0 fun v21 =>
 kif v21
 (knc a1 fun v22 =>
 kfa 0 v22 fun v23 =>
 kla (prt [] p20) 6 v23 fun v24 =>
 kla (prt [] p20) 2 v3 fun v25 =>
 knc a1 fun v26 =>
 kfa 6 v26 fun v27 =>
 kld (prt [] p20) v27 fun v28 =>
 kla (prt [] p20) 6 v5 fun v29 =>
 cn self (prt [] p20) [v25, v28, v29] fun v30 p31 =>
 unpK p20 p31 fun p32 =>
 knc a1 fun v33 =>
 kfa 7 v33 fun v34 =>
 kld (prt [(p20.next, p31.next)] p32) v34 fun v35 =>
 cn f164 p32 [v24, v30, v35] fun v36 p37 =>
 k [v36] p37)
 (kgt v19 q0 fun v38 =>
 kif v38
 (knc a1 fun v39 =>
 kfa 0 v39 fun v40 =>
 kla (prt [] p20) 6 v40 fun v41 =>
 knc a1 fun v42 =>
 kfa 6 v42 fun v43 =>
 kld (prt [] p20) v43 fun v44 =>
 kla (prt [] p20) 2 v3 fun v45 =>
 knc a1 fun v46 =>
 kfa 7 v46 fun v47 =>
 kld (prt [] p20) v47 fun v48 =>
 kla (prt [] p20) 6 v5 fun v49 =>
 cn self (prt [] p20) [v45, v48, v49] fun v50 p51 =>
 unpK p20 p51 fun p52 =>
 cn f164 p52 [v41, v44, v50] fun v53 p54 =>
 k [v53] p54)
 (knc a1 fun v55 =>
 kfa 0 v55 fun v56 =>
 kfa 0 v56 fun v57 =>
 kla (prt [] p20) 6 v57 fun v58 =>
 ksw mth (prt [] p20) (.faddrZ (.c v5)) fun v59 p60 =>
 ksw mth (prt [] p20) (.load true 0 (.c v59)) fun v61 p62 =>
 kbd q30 [(0, 6, v58), (6, 0, v61)] fun v63 =>
 knc a1 fun v64 =>
 kfa 6 v64 fun v65 =>
 kld (prt [] p20) v65 fun v66 =>
 knc a1 fun v67 =>
 kfa 7 v67 fun v68 =>
 kld (prt [] p20) v68 fun v69 =>
 cn f166 p20 [v63, v66, v69] fun v70 p71 =>
 k [v70] p71)))
def f136 : FT := rcF depth g136
theorem o136 : FO EN 136 f136 := FO.rc (fun self h => fe (np := 3) (T := t136 self) (tcons (cn_ok o166) (tcons (cn_ok h) (tcons (cn_ok o164) (tcons (cc_ok o22) (tcons (cn_ok o50) tnil))))) [none, none, none, none] (by kernel_rfl) fun p s k => by kernel_rfl) depth
/- 100 (countersign/trees.Map[countersign/api.Tuple, struct{}]).Put -/
def t100 : List Ce := [⟨136, cn f136⟩]
def f100 : FT := fun p s k => hd s fun a0 s0 =>
 hd s0 fun a1 s1 =>
 hd s1 fun a2 s2 =>
 nl s2 <|
 kbx p 2 a0 fun v3 p4 =>
 kbx p4 6 a1 fun v5 p6 =>
 kbx p6 0 a2 fun v7 p8 =>
 kal p8 q40 fun v9 p10 =>
 kfa 0 v3 fun v11 =>
 kld p10 v11 fun v12 =>
 ken true .f v12 .nilf fun v13 =>
 jn 0 (fun j14 => kif v13
 (kla p10 2 v3 fun v15 =>
 kfa 1 v3 fun v16 =>
 kld p10 v16 fun v17 =>
 kla p10 6 v5 fun v18 =>
 ksw mth p10 (.load true 0 (.c v7)) fun v19 p20 =>
 kbd q30 [(0, 6, v18), (6, 0, v19)] fun v21 =>
 cn f136 p20 [v15, v17, v21] fun v22 p23 =>
 kfa 1 v3 fun v24 =>
 kst p23 1 v24 v22 fun p25 =>
 j14 p25)
 (j14 p10)) fun p26 =>
 kla p26 2 v3 fun v27 =>
 kst p26 2 v9 v27 fun p28 =>
 kra p28 2 v9 fun v29 =>
 k [v29] p28
theorem o100 : FO EN 100 f100 := fe (np := 3) (T := t100) (tcons (cn_ok o136) tnil) [some []] (by kernel_rfl) fun p s k => by kernel_rfl
/- 49 (countersign/sets.index).change -/
def t49 : List Ce := [⟨97, cc f97⟩, ⟨98, cc f98⟩, ⟨99, cc f99⟩, ⟨100, cc f100⟩]
def f49 : FT := fun p s k => hd s fun a0 s0 =>
 hd s0 fun a1 s1 =>
 hd s1 fun a2 s2 =>
 nl s2 <|
 kbx p 2 a0 fun v3 p4 =>
 kbx p4 7 a1 fun v5 p6 =>
 kal p6 q40 fun v7 p8 =>
 kfa 0 v3 fun v9 =>
 kla p8 2 v9 fun v10 =>
 cc f97 p8 [v10] fun v11 p12 =>
 keq false .i v11 q0 fun v13 =>
 jn 0 (fun j14 => kif v13
 (cc f98 p12 [a2] fun v15 p16 =>
 kfa 0 v3 fun v17 =>
 kst p16 2 v17 v15 fun p18 =>
 j14 p18)
 (j14 p12)) fun p19 =>
 kfa 6 v5 fun v20 =>
 kld p19 v20 fun v21 =>
 kif v21
 (kfa 0 v3 fun v22 =>
 kla p19 2 v22 fun v23 =>
 kfa 0 v5 fun v24 =>
 kla p19 6 v24 fun v25 =>
 cc f99 p19 [v23, v25] fun v26 p27 =>
 kbd q40 [(0, 2, v26)] fun v28 =>
 kst p27 2 v7 v28 fun p29 =>
 kra p29 2 v7 fun v30 =>
 k [v30] p29)
 (kfa 0 v3 fun v31 =>
 kla p19 2 v31 fun v32 =>
 kfa 0 v5 fun v33 =>
 kla p19 6 v33 fun v34 =>
 kbd [] [] fun v35 =>
 cc f100 p19 [v32, v34, v35] fun v36 p37 =>
 kbd q40 [(0, 2, v36)] fun v38 =>
 kst p37 2 v7 v38 fun p39 =>
 kra p39 2 v7 fun v40 =>
 k [v40] p39)
theorem o49 : FO EN 49 f49 := fe (np := 3) (T := t49) (tcons (cc_ok o97) (tcons (cc_ok o98) (tcons (cc_ok o99) (tcons (cc_ok o100) tnil)))) [some [], none] (by kernel_rfl) fun p s k => by kernel_rfl
/- 24 (countersign/sets.Set).With -/
def t24 : List Ce := [⟨46, cc f46⟩, ⟨47, cn f47⟩, ⟨48, cc f48⟩, ⟨49, cn f49⟩]
def f24 : FT := fun p s k => hd s fun a0 s0 =>
 hd s0 fun a1 s1 =>
 nl s1 <|
 kbx p 4 a0 fun v2 p3 =>
 kbx p3 7 a1 fun v4 p5 =>
 kal p5 q43 fun v6 p7 =>
 kfa 0 v4 fun v8 =>
 kla p7 6 v8 fun v9 =>
 cc f46 p7 [v9] fun v10 p11 =>
 keq true .i v10 q0 fun v12 =>
 kif v12
 (kbd q43 [] fun v13 =>
 kst p11 4 v6 v13 fun p14 =>
 kra p14 4 v6 fun v15 =>
 k [v15, v10] p14)
 (kla (prt [] p11) 4 v2 fun v16 =>
 kfa 0 v4 fun v17 =>
 kla (prt [] p11) 6 v17 fun v18 =>
 cn f47 (prt [] p11) [v16, v18] fun v19 p20 =>
 unpK p11 p20 fun p21 =>
 kfa 6 v4 fun v22 =>
 kld (prt [(p11.next, p20.next)] p21) v22 fun v23 =>
 keq true .b v19 v23 fun v24 =>
 kif v24
 (kla p21 4 v2 fun v25 =>
 kst p21 4 v6 v25 fun p26 =>
 kra p26 4 v6 fun v27 =>
 k [v27, q0] p26)
 (kfa 6 v4 fun v28 =>
 kld p21 v28 fun v29 =>
 knt v29 fun v30 =>
 jn 3 (fun j31 => gdK v30 true (kla p21 4 v2 fun v32 =>
 cc f48 p21 [v32] fun v33 p34 =>
 keq false .i v33 q44 fun v35 =>
 j31 v32 v33 v35 p34) (j31 .undef .undef .undef p21)) fun v36 v37 v38 p39 =>
 kpk v30 v38 q13 fun v40 =>
 kif v40
 (kbd q43 [] fun v41 =>
 kst p39 4 v6 v41 fun p42 =>
 kra p42 4 v6 fun v43 =>
 k [v43, q25] p42)
 (kfa 0 v2 fun v44 =>
 kla (prt [] p39) 2 v44 fun v45 =>
 kla (prt [] p39) 7 v4 fun v46 =>
 cn f49 (prt [] p39) [v45, v46, q31] fun v47 p48 =>
 unpK p39 p48 fun p49 =>
 kfa 2 v2 fun v50 =>
 kla (prt [(p39.next, p48.next)] p49) 2 v50 fun v51 =>
 kla (prt [(p39.next, p48.next)] p49) 7 v4 fun v52 =>
 cn f49 p49 [v51, v52, q45] fun v53 p54 =>
 kbd q43 [(0, 2, v47), (2, 2, v53)] fun v55 =>
 kst p54 4 v6 v55 fun p56 =>
 kra p56 4 v6 fun v57 =>
 k [v57, q0] p56)))
theorem o24 : FO EN 24 f24 := fe (np := 2) (T := t24) (tcons (cc_ok o46) (tcons (cn_ok o47) (tcons (cc_ok o48) (tcons (cn_ok o49) tnil)))) [none, none, none] (by kernel_rfl) fun p s k => by kernel_rfl
/- 9 countersign/sets.Of -/
def t9 : List Ce := [⟨24, cn f24⟩]
def f9 : FT := fun p s k => hd s fun a0 s0 =>
 nl s0 <|
 kal p q43 fun v1 p2 =>
 kal p2 q43 fun v3 p4 =>
 kln a0 fun v5 =>
 jn 0 (fun j6 =>
 lp 1 fuel (fun r7 v8 p9 =>
 klt v8 v5 fun v10 =>
 kif v10
 (kia 6 a0 v8 fun v11 =>
 kla p9 6 v11 fun v12 =>
 kal p9 q30 fun v13 p14 =>
 kst p14 6 v13 v12 fun p15 =>
 kla p15 4 v3 fun v16 =>
 kla p15 6 v13 fun v17 =>
 kbd q46 [(0, 6, v17)] fun v18 =>
 cn f24 p15 [v16, v18] fun v19 p20 =>
 kex v19 0 fun v21 =>
 kex v19 1 fun v22 =>
 kal p20 q43 fun v23 p24 =>
 kst p24 4 v23 v21 fun p25 =>
 keq true .i v22 q0 fun v26 =>
 kif v26
 (kbd q43 [] fun v27 =>
 kst p25 4 v1 v27 fun p28 =>
 kra p28 4 v1 fun v29 =>
 k [v29, v22] p28)
 (kla p25 4 v23 fun v30 =>
 kst p25 4 v3 v30 fun p31 =>
 kad v8 q14 fun v32 =>
 r7 v32 p31))
 (j6 p9)) q0 p4) fun p33 =>
 kla p33 4 v3 fun v34 =>
 kst p33 4 v1 v34 fun p35 =>
 kra p35 4 v1 fun v36 =>
 k [v36, q0] p35
theorem o9 : FO EN 9 f9 := fe (np := 1) (T := t9) (tcons (cn_ok o24) tnil) [some [], some [11], none, none, none] (by kernel_rfl) fun p s k => by kernel_rfl
/- 263 countersign/lexers.letter -/
def t263 : List Ce := []
def f263 : FT := fun p s k => hd s fun a0 s0 =>
 nl s0 <|
 kge a0 q33 fun v1 =>
 jn 2 (fun j2 => gdK v1 true (kle a0 q34 fun v3 =>
 j2 a0 v3 p) (j2 .undef .undef p)) fun v4 v5 p6 =>
 kpk v1 v5 q13 fun v7 =>
 jn 3 (fun j8 => gdK v7 false (kge a0 q35 fun v9 =>
 j8 a0 v9 v9 p6) (j8 .undef .undef .undef p6)) fun v10 v11 v12 p13 =>
 jn 2 (fun j14 => gdK v12 true (kle a0 q36 fun v15 =>
 j14 a0 v15 p13) (j14 .undef .undef p13)) fun v16 v17 p18 =>
 jn 1 (fun j19 => gdK v7 false (kpk v12 v17 q13 fun v20 =>
 j19 v20 p18) (j19 .undef p18)) fun v21 p22 =>
 kpk v7 q29 v21 fun v23 =>
 k [v23] p22
theorem o263 : FO EN 263 f263 := fe (np := 1) (T := t263) tnil [] (by kernel_rfl) fun p s k => by kernel_rfl
/- 264 countersign/lexers.word -/
def t264 : List Ce := []
def f264 : FT := fun p s k => hd s fun a0 s0 =>
 nl s0 <|
 keq false .s a0 q47 fun v1 =>
 jn 2 (fun j2 => gdK v1 false (keq false .s a0 q48 fun v3 =>
 j2 a0 v3 p) (j2 .undef .undef p)) fun v4 v5 p6 =>
 kpk v1 q29 v5 fun v7 =>
 jn 2 (fun j8 => gdK v7 false (keq false .s a0 q49 fun v9 =>
 j8 a0 v9 p6) (j8 .undef .undef p6)) fun v10 v11 p12 =>
 kpk v7 q29 v11 fun v13 =>
 k [v13] p12
theorem o264 : FO EN 264 f264 := fe (np := 1) (T := t264) tnil [] (by kernel_rfl) fun p s k => by kernel_rfl
/- 273 internal/stringslite.HasPrefix -/
def t273 : List Ce := []
def f273 : FT := fun p s k => hd s fun a0 s0 =>
 hd s0 fun a1 s1 =>
 nl s1 <|
 kls a0 fun v2 =>
 kls a1 fun v3 =>
 kge v2 v3 fun v4 =>
 jn 6 (fun j5 => gdK v4 true (kls a1 fun v6 =>
 kss a0 none (some v6) fun v7 =>
 keq false .s v7 a1 fun v8 =>
 j5 a0 a1 v6 v7 a1 v8 p) (j5 .undef .undef .undef .undef .undef .undef p)) fun v9 v10 v11 v12 v13 v14 p15 =>
 kpk v4 v14 q13 fun v16 =>
 k [v16] p15
theorem o273 : FO EN 273 f273 := fe (np := 2) (T := t273) tnil [] (by kernel_rfl) fun p s k => by kernel_rfl
/- 265 strings.HasPrefix -/
def t265 : List Ce := [⟨273, cc f273⟩]
def f265 : FT := fun p s k => hd s fun a0 s0 =>
 hd s0 fun a1 s1 =>
 nl s1 <|
 cc f273 p [a0, a1] fun v2 p3 =>
 k [v2] p3
theorem o265 : FO EN 265 f265 := fe (np := 2) (T := t265) (tcons (cc_ok o273) tnil) [] (by kernel_rfl) fun p s k => by kernel_rfl
/- 240 countersign/lexers.next -/
def t240 : List Ce := [⟨263, cc f263⟩, ⟨264, cn f264⟩, ⟨265, cc f265⟩]
def f240 : FT := fun p s k => hd s fun a0 s0 =>
 nl s0 <|
 kal p q50 fun v1 p2 =>
 kal p2 q24 fun v3 p4 =>
 jn 1 (fun j5 =>
 lp 1 fuel (fun r6 v7 p8 =>
 kls a0 fun v9 =>
 klt v7 v9 fun v10 =>
 jn 4 (fun j11 => gdK v10 true (kix a0 v7 fun v12 =>
 cc f263 p8 [v12] fun v13 p14 =>
 j11 a0 v7 v12 v13 p14) (j11 .undef .undef .undef .undef p8)) fun v15 v16 v17 v18 p19 =>
 kpk v10 v18 q13 fun v20 =>
 kif v20
 (kad v7 q14 fun v21 =>
 r6 v21 p19)
 (j5 v7 p19)) q0 p4) fun v22 p23 =>
 kgt v22 q3 fun v24 =>
 kif v24
 (kla p23 3 v1 fun v25 =>
 kst p23 3 v1 v25 fun p26 =>
 kst p26 1 v3 q32 fun p27 =>
 hd [v3, v1] fun b28 s100 =>
 hd s100 fun b29 s101 =>
 nl s101 <|
 kld p27 b28 fun v30 =>
 keq true .i v30 q0 fun v31 =>
 jn 0 (fun j32 => kif v31
 (kbd q50 [] fun v33 =>
 kst p27 3 b29 v33 fun p34 =>
 j32 p34)
 (j32 p27)) fun p35 =>
 kra p35 3 v1 fun v36 =>
 kr1 p35 v3 fun v37 =>
 k [v36, v37] p35)
 (kgt v22 q0 fun v38 =>
 jn 4 (fun j39 => gdK v38 true (kss a0 none (some v22) fun v40 =>
 cn f264 p23 [v40] fun v41 p42 =>
 j39 a0 v22 v40 v41 p42) (j39 .undef .undef .undef .undef p23)) fun v43 v44 v45 v46 p47 =>
 kpk v38 v46 q13 fun v48 =>
 kif v48
 (kss a0 none (some v22) fun v49 =>
 kbd q50 [(0, 1, q51), (1, 1, v49)] fun v50 =>
 kst p47 3 v1 v50 fun p51 =>
 kst p51 1 v3 q0 fun p52 =>
 hd [v3, v1] fun b53 s100 =>
 hd s100 fun b54 s101 =>
 nl s101 <|
 kld p52 b53 fun v55 =>
 keq true .i v55 q0 fun v56 =>
 jn 0 (fun j57 => kif v56
 (kbd q50 [] fun v58 =>
 kst p52 3 b54 v58 fun p59 =>
 j57 p59)
 (j57 p52)) fun p60 =>
 kra p60 3 v1 fun v61 =>
 kr1 p60 v3 fun v62 =>
 k [v61, v62] p60)
 (kgt v22 q0 fun v63 =>
 kif v63
 (kss a0 none (some v22) fun v64 =>
 kbd q50 [(0, 1, q52), (1, 1, v64)] fun v65 =>
 kst p47 3 v1 v65 fun p66 =>
 kst p66 1 v3 q0 fun p67 =>
 hd [v3, v1] fun b68 s100 =>
 hd s100 fun b69 s101 =>
 nl s101 <|
 kld p67 b68 fun v70 =>
 keq true .i v70 q0 fun v71 =>
 jn 0 (fun j72 => kif v71
 (kbd q50 [] fun v73 =>
 kst p67 3 b69 v73 fun p74 =>
 j72 p74)
 (j72 p67)) fun p75 =>
 kra p75 3 v1 fun v76 =>
 kr1 p75 v3 fun v77 =>
 k [v76, v77] p75)
 (kss a0 none (some q14) fun v78 =>
 kbd q50 [(0, 1, q53), (1, 1, v78)] fun v79 =>
 kst p47 3 v1 v79 fun p80 =>
 kix a0 q0 fun v81 =>
 jn 0 (fun j82 =>
 jn 0 (fun j83 =>
 keq false .i v81 q54 fun v84 =>
 kif v84
 (cc f265 p80 [a0, q55] fun v85 p86 =>
 jn 0 (fun j87 => kif v85
 (kss a0 none (some q16) fun v88 =>
 kfa 1 v1 fun v89 =>
 kst p86 1 v89 v88 fun p90 =>
 j87 p90)
 (j87 p86)) fun p91 =>
 j83 p91)
 (keq false .i v81 q56 fun v92 =>
 jn 1 (fun j93 => kif v92
 (j93 v92 p80)
 (keq false .i v81 q57 fun v94 =>
 jn 1 (fun j95 => kif v94
 (j95 v94 p80)
 (keq false .i v81 q58 fun v96 =>
 jn 1 (fun j97 => kif v96
 (j97 v96 p80)
 (keq false .i v81 q59 fun v98 =>
 jn 1 (fun j99 => kif v98
 (j99 v98 p80)
 (keq false .i v81 q60 fun v100 =>
 jn 1 (fun j101 => kif v100
 (j101 v100 p80)
 (keq false .i v81 q61 fun v102 =>
 jn 1 (fun j103 => kif v102
 (j103 v102 p80)
 (keq false .i v81 q62 fun v104 =>
 jn 1 (fun j105 => kif v104
 (j105 v104 p80)
 (keq false .i v81 q63 fun v106 =>
 jn 1 (fun j107 => kif v106
 (j107 v106 p80)
 (keq false .i v81 q64 fun v108 =>
 jn 1 (fun j109 => kif v108
 (j109 v108 p80)
 (keq false .i v81 q65 fun v110 =>
 jn 1 (fun j111 => kif v110
 (j111 v110 p80)
 (keq false .i v81 q66 fun v112 =>
 jn 1 (fun j113 => kif v112
 (j113 v112 p80)
 (keq false .i v81 q67 fun v114 =>
 jn 1 (fun j115 => kif v114
 (j115 v114 p80)
 (keq false .i v81 q68 fun v116 =>
 j115 v116 p80)) fun v117 p118 =>
 j113 v117 p118)) fun v119 p120 =>
 j111 v119 p120)) fun v121 p122 =>
 j109 v121 p122)) fun v123 p124 =>
 j107 v123 p124)) fun v125 p126 =>
 j105 v125 p126)) fun v127 p128 =>
 j103 v127 p128)) fun v129 p130 =>
 j101 v129 p130)) fun v131 p132 =>
 j99 v131 p132)) fun v133 p134 =>
 j97 v133 p134)) fun v135 p136 =>
 j95 v135 p136)) fun v137 p138 =>
 j93 v137 p138)) fun v139 p140 =>
 kif v139
 (j83 p140)
 (j82 p140))) fun p141 =>
 kla p141 3 v1 fun v142 =>
 kst p141 3 v1 v142 fun p143 =>
 kst p143 1 v3 q0 fun p144 =>
 hd [v3, v1] fun b145 s100 =>
 hd s100 fun b146 s101 =>
 nl s101 <|
 kld p144 b145 fun v147 =>
 keq true .i v147 q0 fun v148 =>
 jn 0 (fun j149 => kif v148
 (kbd q50 [] fun v150 =>
 kst p144 3 b146 v150 fun p151 =>
 j149 p151)
 (j149 p144)) fun p152 =>
 kra p152 3 v1 fun v153 =>
 kr1 p152 v3 fun v154 =>
 k [v153, v154] p152) fun p155 =>
 kla p155 3 v1 fun v156 =>
 kst p155 3 v1 v156 fun p157 =>
 kst p157 1 v3 q28 fun p158 =>
 hd [v3, v1] fun b159 s100 =>
 hd s100 fun b160 s101 =>
 nl s101 <|
 kld p158 b159 fun v161 =>
 keq true .i v161 q0 fun v162 =>
 jn 0 (fun j163 => kif v162
 (kbd q50 [] fun v164 =>
 kst p158 3 b160 v164 fun p165 =>
 j163 p165)
 (j163 p158)) fun p166 =>
 kra p166 3 v1 fun v167 =>
 kr1 p166 v3 fun v168 =>
 k [v167, v168] p166)))
theorem o240 : FO EN 240 f240 := de (g := 262) (np := 1) (ng := 2) (T := t240) (tcons (cc_ok o263) (tcons (cn_ok o264) (tcons (cc_ok o265) tnil))) [] [some [4], some [4], none, none, none, none, none, none, some [], some [], none, none, some [49], some [49], some [49], some [49], some [49], some [49], some [49], some [49], some [49], some [49], some [49], some [49], none, some []] [some []] (by kernel_rfl) fun p s k => by kernel_rfl
/- 212 countersign/lexers.Check -/
def t212 : List Ce := [⟨240, cn f240⟩]
def f212 : FT := fun p s k => hd s fun a0 s0 =>
 nl s0 <|
 kbx p 3 a0 fun v1 p2 =>
 kal p2 q50 fun v3 p4 =>
 kfa 1 v1 fun v5 =>
 kld p4 v5 fun v6 =>
 keq true .s v6 q39 fun v7 =>
 jn 1 (fun j8 => kif v7
 (kfa 1 v1 fun v9 =>
 kld p4 v9 fun v10 =>
 cn f240 p4 [v10] fun v11 p12 =>
 kex v11 0 fun v13 =>
 kex v11 1 fun v14 =>
 kst p12 3 v3 v13 fun p15 =>
 j8 v14 p15)
 (j8 q28 p4)) fun v16 p17 =>
 keq false .i v16 q0 fun v18 =>
 jn 5 (fun j19 => gdK v18 true (kfa 0 v3 fun v20 =>
 kld p17 v20 fun v21 =>
 kfa 0 v1 fun v22 =>
 kld p17 v22 fun v23 =>
 keq false .i v21 v23 fun v24 =>
 j19 v20 v21 v22 v23 v24 p17) (j19 .undef .undef .undef .undef .undef p17)) fun v25 v26 v27 v28 v29 p30 =>
 kpk v18 v29 q13 fun v31 =>
 jn 5 (fun j32 => gdK v31 true (kfa 1 v3 fun v33 =>
 kld p30 v33 fun v34 =>
 kfa 1 v1 fun v35 =>
 kld p30 v35 fun v36 =>
 keq false .s v34 v36 fun v37 =>
 j32 v33 v34 v35 v36 v37 p30) (j32 .undef .undef .undef .undef .undef p30)) fun v38 v39 v40 v41 v42 p43 =>
 kpk v31 v42 q13 fun v44 =>
 kfa 0 v1 fun v45 =>
 kld p43 v45 fun v46 =>
 klt v46 q52 fun v47 =>
 jn 3 (fun j48 => gdK v47 false (kfa 0 v1 fun v49 =>
 kld p43 v49 fun v50 =>
 kgt v50 q53 fun v51 =>
 j48 v49 v50 v51 p43) (j48 .undef .undef .undef p43)) fun v52 v53 v54 p55 =>
 kpk v47 q29 v54 fun v56 =>
 kif v56
 (k [q69] p55)
 (kif v44
 (k [q0] p55)
 (kfa 0 v1 fun v57 =>
 kld p55 v57 fun v58 =>
 keq false .i v58 q52 fun v59 =>
 kif v59
 (k [q32] p55)
 (k [q28] p55)))
theorem o212 : FO EN 212 f212 := fe (np := 1) (T := t212) (tcons (cn_ok o240) tnil) [some [4], none, none, none, none] (by kernel_rfl) fun p s k => by kernel_rfl
/- 181 countersign/parsers.name -/
def t181 : List Ce := [⟨212, cn f212⟩]
def f181 : FT := fun p s k => hd s fun a0 s0 =>
 nl s0 <|
 kbd q50 [(0, 1, q52), (1, 1, a0)] fun v1 =>
 cn f212 p [v1] fun v2 p3 =>
 keq false .i v2 q0 fun v4 =>
 k [v4] p3
theorem o181 : FO EN 181 f181 := fe (np := 1) (T := t181) (tcons (cn_ok o212) tnil) [] (by kernel_rfl) fun p s k => by kernel_rfl
/- 180 slices.Clip[[]countersign/rules.Node,countersign/rules.Node] -/
def t180 : List Ce := []
def f180 : FT := fun p s k => hd s fun a0 s0 =>
 nl s0 <|
 kln a0 fun v1 =>
 kln a0 fun v2 =>
 ksl 5 a0 none (some v1) (some v2) fun v3 =>
 k [v3] p
theorem o180 : FO EN 180 f180 := fe (np := 1) (T := t180) tnil [] (by kernel_rfl) fun p s k => by kernel_rfl
/- 211 countersign/rules.name -/
def t211 : List Ce := [⟨212, cn f212⟩]
def f211 : FT := fun p s k => hd s fun a0 s0 =>
 nl s0 <|
 kbd q50 [(0, 1, q52), (1, 1, a0)] fun v1 =>
 cn f212 p [v1] fun v2 p3 =>
 keq false .i v2 q0 fun v4 =>
 k [v4] p3
theorem o211 : FO EN 211 f211 := fe (np := 1) (T := t211) (tcons (cn_ok o212) tnil) [] (by kernel_rfl) fun p s k => by kernel_rfl
/- 179 countersign/rules.alone -/
def t179 : List Ce := [⟨211, cn f211⟩]
def f179 : FT := fun p s k => hd s fun a0 s0 =>
 nl s0 <|
 knc a0 fun v1 =>
 kfa 1 v1 fun v2 =>
 kld (prt [] p) v2 fun v3 =>
 keq true .s v3 q39 fun v4 =>
 knc a0 fun v5 =>
 kfa 2 v5 fun v6 =>
 kld (prt [] p) v6 fun v7 =>
 keq true .s v7 q39 fun v8 =>
 kbd q70 [(0, 1, v4), (1, 1, v8)] fun v9 =>
 kal p q70 fun v10 p11 =>
 kst p11 2 v10 v9 fun p12 =>
 kbd q70 [] fun v13 =>
 kal p12 q70 fun v14 p15 =>
 kst p15 2 v14 v13 fun p16 =>
 knc a0 fun v17 =>
 kfa 3 v17 fun v18 =>
 kld p16 v18 fun v19 =>
 kln v19 fun v20 =>
 keq false .i v20 q0 fun v21 =>
 knc a0 fun v22 =>
 kfa 0 v22 fun v23 =>
 kld p16 v23 fun v24 =>
 keq false .i v24 q52 fun v25 =>
 jn 1 (fun j26 => kif v25
 (j26 v21 p16)
 (keq false .i v24 q51 fun v27 =>
 jn 1 (fun j28 => kif v27
 (kib 2 1 v10 q0 fun v29 =>
 kld p16 v29 fun v30 =>
 kbd q70 [(0, 1, v30), (1, 1, q13)] fun v31 =>
 kst p16 2 v14 v31 fun p32 =>
 j28 v21 p32)
 (keq false .i v24 q53 fun v33 =>
 jn 1 (fun j34 => kif v33
 (kla p16 2 v10 fun v35 =>
 kst p16 2 v14 v35 fun p36 =>
 j34 v21 p36)
 (keq false .i v24 q71 fun v37 =>
 jn 1 (fun j38 => kif v37
 (j38 v37 p16)
 (keq false .i v24 q72 fun v39 =>
 j38 v39 p16)) fun v40 p41 =>
 jn 1 (fun j42 => kif v40
 (kge v20 q16 fun v43 =>
 j42 v43 p41)
 (keq false .i v24 q73 fun v44 =>
 kif v44
 (keq false .i v20 q16 fun v45 =>
 j42 v45 p41)
 (k [q69] p41))) fun v46 p47 =>
 j34 v46 p47)) fun v48 p49 =>
 j28 v48 p49)) fun v50 p51 =>
 j26 v50 p51)) fun v52 p53 =>
 knt v52 fun v54 =>
 jn 3 (fun j55 => gdK v54 false (kla p53 2 v10 fun v56 =>
 kla p53 2 v14 fun v57 =>
 kea true [(0, .b), (1, .b)] v56 v57 fun v58 =>
 j55 v56 v57 v58 p53) (j55 .undef .undef .undef p53)) fun v59 v60 v61 p62 =>
 kpk v54 q29 v61 fun v63 =>
 kif v63
 (k [q28] p62)
 (knc a0 fun v64 =>
 kfa 0 v64 fun v65 =>
 kld p62 v65 fun v66 =>
 keq false .i v66 q53 fun v67 =>
 jn 6 (fun j68 => gdK v67 true (knc a0 fun v69 =>
 kfa 2 v69 fun v70 =>
 kld p62 v70 fun v71 =>
 cn f211 p62 [v71] fun v72 p73 =>
 knt v72 fun v74 =>
 j68 a0 v69 v70 v71 v72 v74 p73) (j68 .undef .undef .undef .undef .undef .undef p62)) fun v75 v76 v77 v78 v79 v80 p81 =>
 kpk v67 v80 q13 fun v82 =>
 jn 1 (fun j83 => kif v82
 (j83 v82 p81)
 (knc a0 fun v84 =>
 kfa 0 v84 fun v85 =>
 kld p81 v85 fun v86 =>
 keq false .i v86 q51 fun v87 =>
 jn 5 (fun j88 => gdK v87 false (knc a0 fun v89 =>
 kfa 0 v89 fun v90 =>
 kld p81 v90 fun v91 =>
 keq false .i v91 q53 fun v92 =>
 j88 a0 v89 v90 v91 v92 p81) (j88 .undef .undef .undef .undef .undef p81)) fun v93 v94 v95 v96 v97 p98 =>
 kpk v87 q29 v97 fun v99 =>
 jn 6 (fun j100 => gdK v99 true (knc a0 fun v101 =>
 kfa 1 v101 fun v102 =>
 kld p98 v102 fun v103 =>
 cn f211 p98 [v103] fun v104 p105 =>
 knt v104 fun v106 =>
 j100 a0 v101 v102 v103 v104 v106 p105) (j100 .undef .undef .undef .undef .undef .undef p98)) fun v107 v108 v109 v110 v111 v112 p113 =>
 kpk v99 v112 q13 fun v114 =>
 j83 v114 p113)) fun v115 p116 =>
 kif v115
 (k [q32] p116)
 (k [q0] p116))
theorem o179 : FO EN 179 f179 := fe (np := 1) (T := t179) (tcons (cn_ok o211) tnil) [none, some [6], some [6], some [6], some [40], some [6], none, none, none, some [57], none] (by kernel_rfl) fun p s k => by kernel_rfl
/- 174 slices.Clip[[]int,int] -/
def t174 : List Ce := []
def f174 : FT := fun p s k => hd s fun a0 s0 =>
 nl s0 <|
 kln a0 fun v1 =>
 kln a0 fun v2 =>
 ksl 1 a0 none (some v1) (some v2) fun v3 =>
 k [v3] p
theorem o174 : FO EN 174 f174 := fe (np := 1) (T := t174) tnil [] (by kernel_rfl) fun p s k => by kernel_rfl
/- 178 countersign/rules.walk$1 -/
def t178 (self : FT) : List Ce := [⟨179, cn f179⟩, ⟨174, ci f174⟩, ⟨178, ci self⟩]
def g178 : FT → FT := fun self => fun p s k => hd s fun a0 s0 =>
 hd s0 fun a1 s1 =>
 hd s1 fun a2 s2 =>
 hd s2 fun a3 s3 =>
 hd s3 fun a4 s4 =>
 hd s4 fun a5 s5 =>
 hd s5 fun a6 s6 =>
 nl s6 <|
 kld p a3 fun v7 =>
 kln v7 fun v8 =>
 keq false .i v8 q10 fun v9 =>
 jn 2 (fun j10 => gdK v9 false (kgt a1 q6 fun v11 =>
 j10 a1 v11 p) (j10 .undef .undef p)) fun v12 v13 p14 =>
 kpk v9 q29 v13 fun v15 =>
 kif v15
 (k [q13] p14)
 (kld p14 a4 fun v16 =>
 ksw mth p14 (.minmax true [(.c v16), (.c a1)]) fun v17 p18 =>
 kst p18 1 a4 v17 fun p19 =>
 kld p19 a5 fun v20 =>
 keq false .i v20 q0 fun v21 =>
 jn 0 (fun j22 => kif v21
 (cn f179 p19 [a0] fun v23 p24 =>
 kst p24 1 a5 v23 fun p25 =>
 j22 p25)
 (j22 p19)) fun p26 =>
 kld p26 a3 fun v27 =>
 kln v27 fun v28 =>
 kld (prt [] p26) a3 fun v29 =>
 knc a0 fun v30 =>
 kfa 0 v30 fun v31 =>
 kld (prt [] p26) v31 fun v32 =>
 knc a0 fun v33 =>
 kfa 1 v33 fun v34 =>
 kld (prt [] p26) v34 fun v35 =>
 knc a0 fun v36 =>
 kfa 2 v36 fun v37 =>
 kld (prt [] p26) v37 fun v38 =>
 kbd q74 [(0, 1, v32), (1, 1, v35), (2, 1, v38), (4, 1, a2)] fun v39 =>
 kbs p26 1 q74 [(0, 5, v39)] fun v40 p41 =>
 kap p41 5 72 v29 v40 fun v42 p43 =>
 kst p43 1 a3 v42 fun p44 =>
 knc a0 fun v45 =>
 kfa 3 v45 fun v46 =>
 kld p44 v46 fun v47 =>
 kln v47 fun v48 =>
 jn 1 (fun j49 =>
 lp 2 fuel (fun r50 v51 v52 p53 =>
 klt v52 v48 fun v54 =>
 kif v54
 (kld p53 a3 fun v55 =>
 kln v55 fun v56 =>
 kbs p53 1 q24 [(0, 1, v56)] fun v57 p58 =>
 kap p58 1 8 v51 v57 fun v59 p60 =>
 kld (prt [] p60) a6 fun v61 =>
 knc a0 fun v62 =>
 kfa 3 v62 fun v63 =>
 kld (prt [] p60) v63 fun v64 =>
 kia 4 v64 v52 fun v65 =>
 kad a1 q14 fun v66 =>
 jn 6 (fun j67 => gdK a2 false (knc a0 fun v68 =>
 kfa 0 v68 fun v69 =>
 kld (prt [] p60) v69 fun v70 =>
 keq false .i v70 q73 fun v71 =>
 j67 a0 v68 v69 v70 v71 v71 p60) (j67 .undef .undef .undef .undef .undef .undef p60)) fun v72 v73 v74 v75 v76 v77 _ =>
 jn 2 (fun j79 => gdK v77 true (keq false .i v52 q14 fun v80 =>
 j79 v52 v80 p60) (j79 .undef .undef p60)) fun v81 v82 _ =>
 jn 1 (fun j84 => gdK a2 false (kpk v77 v82 q13 fun v85 =>
 j84 v85 p60) (j84 .undef p60)) fun v86 _ =>
 kpk a2 q29 v86 fun v88 =>
 kcv (t178 self) p60 v61 [v65, v66, v88] fun v89 p90 =>
 knt v89 fun v91 =>
 kif v91
 (k [q13] p90)
 (kad v52 q14 fun v92 =>
 r50 v59 v92 p90))
 (j49 v51 p53)) .nils q0 p44) fun v93 p94 =>
 kld (prt [] p94) a3 fun v95 =>
 ci f174 (prt [] p94) [v93] fun v96 p97 =>
 unpK p94 p97 fun p98 =>
 kia 5 v95 v28 fun v99 =>
 kfa 3 v99 fun v100 =>
 kst p98 1 v100 v96 fun p101 =>
 k [q29] p101)
def f178 : FT := rcF depth g178
theorem o178 : FO EN 178 f178 := FO.rc (fun self h => fe (np := 7) (T := t178 self) (tcons (cn_ok o179) (tcons (ci_ok o174) (tcons (ci_ok h) tnil))) [none, some [], some [12], some [12, 52], none, none, none] (by kernel_rfl) fun p s k => by kernel_rfl) depth
/- 142 countersign/rules.walk -/
def t142 : List Ce := [⟨180, ci f180⟩, ⟨178, ci f178⟩]
def f142 : FT := fun p s k => hd s fun a0 s0 =>
 nl s0 <|
 kal p q75 fun v1 p2 =>
 kal p2 q24 fun v3 p4 =>
 kal p4 q24 fun v5 p6 =>
 kst p6 1 v5 q0 fun p7 =>
 kal p7 q76 fun v8 p9 =>
 kst p9 1 v8 (.func (.func 178) [] [v1, v3, v5, v8]) fun p10 =>
 kld p10 v8 fun v11 =>
 kcv t142 p10 v11 [a0, q14, q13] fun v12 p13 =>
 knt v12 fun v14 =>
 kif v14
 (kst p13 1 v1 .nils fun p15 =>
 kst p15 1 v3 q0 fun p16 =>
 kr1 p16 v1 fun v17 =>
 kr1 p16 v3 fun v18 =>
 k [v17, v18, q25] p16)
 (kld p13 v5 fun v19 =>
 keq true .i v19 q0 fun v20 =>
 kif v20
 (kld (prt [] p13) v5 fun v21 =>
 kps p13 [] [v5] 1 v1 .nils fun b22 p23 =>
 kps p23 [] [v5] 1 v3 q0 fun b24 p25 =>
 kr1 p25 v1 fun v26 =>
 kr1 p25 v3 fun v27 =>
 k [v26, v27, v21] p25)
 (kld (prt [] p13) v1 fun v28 =>
 ci f180 (prt [] p13) [v28] fun v29 p30 =>
 unpK p13 p30 fun p31 =>
 kld (prt [(p13.next, p30.next)] p31) v3 fun v32 =>
 kps p31 [] [v3] 1 v1 v29 fun b33 p34 =>
 kst p34 1 v3 v32 fun p35 =>
 kr1 p35 v1 fun v36 =>
 kr1 p35 v3 fun v37 =>
 k [v36, v37, q0] p35))
theorem o142 : FO EN 142 f142 := fe (np := 1) (T := t142) (tcons (ci_ok o180) (tcons (ci_ok o178) tnil)) [none, none] (by kernel_rfl) fun p s k => by kernel_rfl
/- 106 countersign/rules.Check -/
def t106 : List Ce := [⟨142, cc f142⟩]
def f106 : FT := fun p s k => hd s fun a0 s0 =>
 nl s0 <|
 kbx p 4 a0 fun v1 p2 =>
 cc f142 p2 [v1] fun v3 p4 =>
 kex v3 0 fun v5 =>
 kex v3 1 fun v6 =>
 kex v3 2 fun v7 =>
 k [v7] p4
theorem o106 : FO EN 106 f106 := fe (np := 1) (T := t106) (tcons (cc_ok o142) tnil) [] (by kernel_rfl) fun p s k => by kernel_rfl
/- 182 countersign/parsers.relation -/
def t182 : List Ce := [⟨181, cc f181⟩, ⟨106, cc f106⟩]
def f182 : FT := fun p s k => hd s fun a0 s0 =>
 nl s0 <|
 kbx p 6 a0 fun v1 p2 =>
 kfa 0 v1 fun v3 =>
 kld p2 v3 fun v4 =>
 cc f181 p2 [v4] fun v5 p6 =>
 knt v5 fun v7 =>
 kif v7
 (k [q32] p6)
 (kfa 1 v1 fun v8 =>
 kld p6 v8 fun v9 =>
 kln v9 fun v10 =>
 kgt v10 q6 fun v11 =>
 kif v11
 (k [q25] p6)
 (kfa 1 v1 fun v12 =>
 kld p6 v12 fun v13 =>
 kln v13 fun v14 =>
 jn 0 (fun j15 =>
 lp 1 fuel (fun r16 v17 p18 =>
 klt v17 v14 fun v19 =>
 kif v19
 (kia 2 v13 v17 fun v20 =>
 kla p18 2 v20 fun v21 =>
 kal p18 q38 fun v22 p23 =>
 kst p23 2 v22 v21 fun p24 =>
 kfa 0 v22 fun v25 =>
 kld p24 v25 fun v26 =>
 cc f181 p24 [v26] fun v27 p28 =>
 knt v27 fun v29 =>
 jn 4 (fun j30 => gdK v29 false (kfa 1 v22 fun v31 =>
 kld p28 v31 fun v32 =>
 keq true .s v32 q39 fun v33 =>
 j30 v31 v32 v33 v33 p28) (j30 .undef .undef .undef .undef p28)) fun v34 v35 v36 v37 p38 =>
 jn 4 (fun j39 => gdK v37 true (kfa 1 v22 fun v40 =>
 kld p38 v40 fun v41 =>
 cc f181 p38 [v41] fun v42 p43 =>
 knt v42 fun v44 =>
 j39 v40 v41 v42 v44 p43) (j39 .undef .undef .undef .undef p38)) fun v45 v46 v47 v48 p49 =>
 jn 1 (fun j50 => gdK v29 false (kpk v37 v48 q13 fun v51 =>
 j50 v51 p49) (j50 .undef p49)) fun v52 p53 =>
 kpk v29 q29 v52 fun v54 =>
 kif v54
 (k [q32] p53)
 (kad v17 q14 fun v55 =>
 r16 v55 p53))
 (j15 p18)) q0 p6) fun p56 =>
 kfa 2 v1 fun v57 =>
 kla p56 4 v57 fun v58 =>
 cc f106 p56 [v58] fun v59 p60 =>
 k [v59] p60))
theorem o182 : FO EN 182 f182 := fe (np := 1) (T := t182) (tcons (cc_ok o181) (tcons (cc_ok o106) tnil)) [none, none, none, some [], some [18], none, none, none] (by kernel_rfl) fun p s k => by kernel_rfl
/- 144 countersign/parsers.Check -/
def t144 : List Ce := [⟨181, cc f181⟩, ⟨182, cn f182⟩]
def f144 : FT := fun p s k => hd s fun a0 s0 =>
 nl s0 <|
 kbx p 1 a0 fun v1 p2 =>
 kfa 0 v1 fun v3 =>
 kld p2 v3 fun v4 =>
 kln v4 fun v5 =>
 kgt v5 q3 fun v6 =>
 kif v6
 (k [q25] p2)
 (kfa 0 v1 fun v7 =>
 kld p2 v7 fun v8 =>
 kln v8 fun v9 =>
 jn 0 (fun j10 =>
 lp 1 fuel (fun r11 v12 p13 =>
 klt v12 v9 fun v14 =>
 kif v14
 (jn 0 (fun j15 =>
 kia 2 v8 v12 fun v16 =>
 kla p13 2 v16 fun v17 =>
 kal p13 q77 fun v18 p19 =>
 kst p19 2 v18 v17 fun p20 =>
 kfa 0 v18 fun v21 =>
 kld p20 v21 fun v22 =>
 cc f181 p20 [v22] fun v23 p24 =>
 knt v23 fun v25 =>
 kif v25
 (k [q32] p24)
 (kfa 1 v18 fun v26 =>
 kld p24 v26 fun v27 =>
 kln v27 fun v28 =>
 kgt v28 q3 fun v29 =>
 kif v29
 (k [q25] p24)
 (kfa 1 v18 fun v30 =>
 kld p24 v30 fun v31 =>
 kln v31 fun v32 =>
 jn 0 (fun j33 =>
 lp 1 fuel (fun r34 v35 p36 =>
 klt v35 v32 fun v37 =>
 kif v37
 (kia 6 v31 v35 fun v38 =>
 kla p36 6 v38 fun v39 =>
 kal p36 q78 fun v40 p41 =>
 kst p41 6 v40 v39 fun p42 =>
 kla p42 6 v40 fun v43 =>
 cn f182 p42 [v43] fun v44 p45 =>
 keq true .i v44 q0 fun v46 =>
 kif v46
 (k [v44] p45)
 (kad v35 q14 fun v47 =>
 r34 v47 p45))
 (j33 p36)) q0 p24) fun p48 =>
 j15 p48))) fun p49 =>
 kad v12 q14 fun v50 =>
 r11 v50 p49)
 (j10 p13)) q0 p2) fun p51 =>
 k [q0] p51)
theorem o144 : FO EN 144 f144 := fe (np := 1) (T := t144) (tcons (cc_ok o181) (tcons (cn_ok o182) tnil)) [none, some [], some [15], none, some [], none, none, none, some [], some [32], none, none, none] (by kernel_rfl) fun p s k => by kernel_rfl
end
end Go.V
end

section
set_option maxRecDepth 100000
set_option linter.unusedVariables false
namespace Go.V
noncomputable section
/- 110 countersign/schemas.of -/
def t110 : List Ce := []
def f110 : FT := fun p s k => hd s fun a0 s0 =>
 nl s0 <|
 kbx p 1 a0 fun v1 p2 =>
 kla p2 1 v1 fun v3 =>
 ksw mth p2 (.mkmap) fun v4 p5 =>
 ksw mth p5 (.mkmap) fun v6 p7 =>
 kbd q79 [(0, 1, v3), (1, 1, v4), (2, 1, v6)] fun v8 =>
 kbx p7 5 v8 fun v9 p10 =>
 kfa 0 v1 fun v11 =>
 kld p10 v11 fun v12 =>
 kln v12 fun v13 =>
 jn 0 (fun j14 =>
 lp 1 fuel (fun r15 v16 p17 =>
 klt v16 v13 fun v18 =>
 kif v18
 (jn 0 (fun j19 =>
 kia 2 v12 v16 fun v20 =>
 kla p17 2 v20 fun v21 =>
 kal p17 q77 fun v22 p23 =>
 kst p23 2 v22 v21 fun p24 =>
 knc v9 fun v25 =>
 kfa 1 v25 fun v26 =>
 kld (prt [] p24) v26 fun v27 =>
 kfa 0 v22 fun v28 =>
 kld (prt [] p24) v28 fun v29 =>
 ksw mth p24 (.lookup ⟨false, [(0, .s)]⟩ q0 false (.c v27) (.c v29)) fun v30 p31 =>
 kad v30 q14 fun v32 =>
 ksw mth p24 (.mapUpdate ⟨false, [(0, .s)]⟩ (.c v27) (.c v29) (.c v32)) fun v33 p34 =>
 kfa 1 v22 fun v35 =>
 kld p34 v35 fun v36 =>
 kln v36 fun v37 =>
 jn 0 (fun j38 =>
 lp 1 fuel (fun r39 v40 p41 =>
 klt v40 v37 fun v42 =>
 kif v42
 (kfa 1 v22 fun v43 =>
 kld p41 v43 fun v44 =>
 kia 6 v44 v40 fun v45 =>
 knc v9 fun v46 =>
 kfa 2 v46 fun v47 =>
 kld (prt [] p41) v47 fun v48 =>
 kfa 0 v22 fun v49 =>
 kld (prt [] p41) v49 fun v50 =>
 knc v45 fun v51 =>
 kfa 0 v51 fun v52 =>
 kld (prt [] p41) v52 fun v53 =>
 kbd q38 [(0, 1, v50), (1, 1, v53)] fun v54 =>
 ksw mth p41 (.lookup ⟨true, [(0, .s), (1, .s)]⟩ q0 true (.c v48) (.c v54)) fun v55 p56 =>
 kex v55 0 fun v57 =>
 kex v55 1 fun v58 =>
 knt v58 fun v59 =>
 jn 0 (fun j60 => kif v59
 (knc v9 fun v61 =>
 kfa 2 v61 fun v62 =>
 kld (prt [] p41) v62 fun v63 =>
 kfa 0 v22 fun v64 =>
 kld (prt [] p41) v64 fun v65 =>
 knc v45 fun v66 =>
 kfa 0 v66 fun v67 =>
 kld (prt [] p41) v67 fun v68 =>
 kbd q38 [(0, 1, v65), (1, 1, v68)] fun v69 =>
 knc v9 fun v70 =>
 kfa 3 v70 fun v71 =>
 kld (prt [] p41) v71 fun v72 =>
 kln v72 fun v73 =>
 ksw mth p41 (.mapUpdate ⟨true, [(0, .s), (1, .s)]⟩ (.c v63) (.c v69) (.c v73)) fun v74 p75 =>
 j60 p75)
 (j60 p41)) fun p76 =>
 knc v9 fun v77 =>
 kfa 3 v77 fun v78 =>
 kld (prt [] p76) v78 fun v79 =>
 kbs p76 1 q80 [(0, 1, v45)] fun v80 p81 =>
 kpa p81 [] [] 1 8 v79 v80 fun p83 v82 p84 =>
 knc v9 fun v85 =>
 kfa 4 v85 fun v86 =>
 kld (prt [(p76.next, p81.next), (p81.next, p83)] p84) v86 fun v87 =>
 kfa 0 v22 fun v88 =>
 kld (prt [(p76.next, p81.next), (p81.next, p83)] p84) v88 fun v89 =>
 kbs p84 1 q81 [(0, 1, v89)] fun v90 p91 =>
 kap p91 1 16 v87 v90 fun v92 p93 =>
 knc v9 fun v94 =>
 kfa 3 v94 fun v95 =>
 kst p93 1 v95 v82 fun p96 =>
 knc v9 fun v97 =>
 kfa 4 v97 fun v98 =>
 kst p96 1 v98 v92 fun p99 =>
 kad v40 q14 fun v100 =>
 r39 v100 p99)
 (j38 p41)) q0 p34) fun p101 =>
 j19 p101) fun p102 =>
 kad v16 q14 fun v103 =>
 r15 v103 p102)
 (j14 p17)) q0 p10) fun p104 =>
 k [v9] p104
theorem o110 : FO EN 110 f110 := fe (np := 1) (T := t110) tnil [some [], some [18], none, some [], some [], some [33], none, none, some []] (by kernel_rfl) fun p s k => by kernel_rfl
/- 108 countersign/rules.Nodes -/
def t108 : List Ce := [⟨142, cc f142⟩]
def f108 : FT := fun p s k => hd s fun a0 s0 =>
 nl s0 <|
 kbx p 4 a0 fun v1 p2 =>
 cc f142 p2 [v1] fun v3 p4 =>
 kex v3 0 fun v5 =>
 kex v3 1 fun v6 =>
 kex v3 2 fun v7 =>
 k [v5, v7] p4
theorem o108 : FO EN 108 f108 := fe (np := 1) (T := t108) (tcons (cc_ok o142) tnil) [] (by kernel_rfl) fun p s k => by kernel_rfl
/- 184 (*countersign/schemas.index).relation$1 -/
def t184 : List Ce := []
def f184 : FT := fun p s k => hd s fun a0 s0 =>
 hd s0 fun a1 s1 =>
 hd s1 fun a2 s2 =>
 hd s2 fun a3 s3 =>
 nl s3 <|
 kld (prt [] p) a0 fun v4 =>
 knc v4 fun v5 =>
 kfa 2 v5 fun v6 =>
 kld (prt [] p) v6 fun v7 =>
 kfa 0 a1 fun v8 =>
 kld (prt [] p) v8 fun v9 =>
 kld (prt [] p) a2 fun v10 =>
 knc v10 fun v11 =>
 kfa 0 v11 fun v12 =>
 kld (prt [] p) v12 fun v13 =>
 kbd q38 [(0, 1, v9), (1, 1, v13)] fun v14 =>
 ksw mth (prt [] p) (.lookup ⟨true, [(0, .s), (1, .s)]⟩ q0 false (.c v7) (.c v14)) fun v15 p16 =>
 kld (prt [] p) a3 fun v17 =>
 keq true .i v15 v17 fun v18 =>
 kif v18
 (k [q82] p)
 (k [q0] p)
theorem o184 : FO EN 184 f184 := fe (np := 4) (T := t184) tnil [none] (by kernel_rfl) fun p s k => by kernel_rfl
/- 111 (*countersign/schemas.index).find -/
def t111 : List Ce := []
def f111 : FT := fun p s k => hd s fun a0 s0 =>
 hd s0 fun a1 s1 =>
 hd s1 fun a2 s2 =>
 nl s2 <|
 knc a0 fun v3 =>
 kfa 2 v3 fun v4 =>
 kld p v4 fun v5 =>
 kbd q38 [(0, 1, a1), (1, 1, a2)] fun v6 =>
 ksw mth p (.lookup ⟨true, [(0, .s), (1, .s)]⟩ q0 true (.c v5) (.c v6)) fun v7 p8 =>
 kex v7 0 fun v9 =>
 kex v7 1 fun v10 =>
 knt v10 fun v11 =>
 kif v11
 (k [.nilp] p8)
 (knc a0 fun v12 =>
 kfa 3 v12 fun v13 =>
 kld p8 v13 fun v14 =>
 kia 1 v14 v9 fun v15 =>
 kld p8 v15 fun v16 =>
 k [v16] p8)
theorem o111 : FO EN 111 f111 := fe (np := 3) (T := t111) tnil [none] (by kernel_rfl) fun p s k => by kernel_rfl
/- 147 slices.Index[[]countersign/api.Type,countersign/api.Type] -/
def t147 : List Ce := []
def f147 : FT := fun p s k => hd s fun a0 s0 =>
 hd s0 fun a1 s1 =>
 nl s1 <|
 kbx p 2 a1 fun v2 p3 =>
 kln a0 fun v4 =>
 jn 0 (fun j5 =>
 lp 1 fuel (fun r6 v7 p8 =>
 klt v7 v4 fun v9 =>
 kif v9
 (kla (prt [] p8) 2 v2 fun v10 =>
 kia 2 a0 v7 fun v11 =>
 kla (prt [] p8) 2 v11 fun v12 =>
 kea false [(0, .s), (1, .s)] v10 v12 fun v13 =>
 kif v13
 (k [v7] p8)
 (kad v7 q14 fun v14 =>
 r6 v14 p8))
 (j5 p8)) q0 p3) fun p15 =>
 k [q42] p15
theorem o147 : FO EN 147 f147 := fe (np := 2) (T := t147) tnil [some [], some [8], none, none, none] (by kernel_rfl) fun p s k => by kernel_rfl
/- 113 slices.Contains[[]countersign/api.Type,countersign/api.Type] -/
def t113 : List Ce := [⟨147, cn f147⟩]
def f113 : FT := fun p s k => hd s fun a0 s0 =>
 hd s0 fun a1 s1 =>
 nl s1 <|
 kbx p 2 a1 fun v2 p3 =>
 kla p3 2 v2 fun v4 =>
 cn f147 p3 [a0, v4] fun v5 p6 =>
 kge v5 q0 fun v7 =>
 k [v7] p6
theorem o113 : FO EN 113 f113 := fe (np := 2) (T := t113) (tcons (cn_ok o147) tnil) [] (by kernel_rfl) fun p s k => by kernel_rfl
/- 186 (*countersign/schemas.index).types -/
def t186 : List Ce := [⟨111, cn f111⟩, ⟨113, cc f113⟩]
def f186 : FT := fun p s k => hd s fun a0 s0 =>
 hd s0 fun a1 s1 =>
 nl s1 <|
 knc a1 fun v2 =>
 kfa 1 v2 fun v3 =>
 kld p v3 fun v4 =>
 kln v4 fun v5 =>
 jn 0 (fun j6 =>
 lp 1 fuel (fun r7 v8 p9 =>
 klt v8 v5 fun v10 =>
 kif v10
 (kia 2 v4 v8 fun v11 =>
 kla p9 2 v11 fun v12 =>
 kal p9 q38 fun v13 p14 =>
 kst p14 2 v13 v12 fun p15 =>
 knc a0 fun v16 =>
 kfa 1 v16 fun v17 =>
 kld (prt [] p15) v17 fun v18 =>
 kfa 0 v13 fun v19 =>
 kld (prt [] p15) v19 fun v20 =>
 ksw mth p15 (.lookup ⟨false, [(0, .s)]⟩ q0 false (.c v18) (.c v20)) fun v21 p22 =>
 keq false .i v21 q0 fun v23 =>
 jn 4 (fun j24 => gdK v23 false (kfa 1 v13 fun v25 =>
 kld p15 v25 fun v26 =>
 keq true .s v26 q39 fun v27 =>
 j24 v25 v26 v27 v27 p15) (j24 .undef .undef .undef .undef p15)) fun v28 v29 v30 v31 _ =>
 jn 7 (fun j33 => gdK v31 true (kfa 0 v13 fun v34 =>
 kld (prt [] p15) v34 fun v35 =>
 kfa 1 v13 fun v36 =>
 kld (prt [] p15) v36 fun v37 =>
 cn f111 p15 [a0, v35, v37] fun v38 p39 =>
 ken false .p v38 .nilp fun v40 =>
 j33 a0 v34 v35 v36 v37 v38 v40 p39) (j33 .undef .undef .undef .undef .undef .undef .undef p15)) fun v41 v42 v43 v44 v45 v46 v47 p48 =>
 jn 1 (fun j49 => gdK v23 false (kpk v31 v47 q13 fun v50 =>
 j49 v50 p48) (j49 .undef p48)) fun v51 _ =>
 kpk v23 q29 v51 fun v53 =>
 kif v53
 (k [q32] p48)
 (knc a1 fun v54 =>
 kfa 1 v54 fun v55 =>
 kld (prt [] p48) v55 fun v56 =>
 ksl 2 v56 none (some v8) none fun v57 =>
 kla (prt [] p48) 2 v13 fun v58 =>
 cc f113 p48 [v57, v58] fun v59 p60 =>
 kif v59
 (k [q82] p60)
 (kad v8 q14 fun v61 =>
 r7 v61 p60)))
 (j6 p9)) q0 p) fun p62 =>
 k [q0] p62
theorem o186 : FO EN 186 f186 := fe (np := 2) (T := t186) (tcons (cn_ok o111) (tcons (cc_ok o113) tnil)) [some [], some [12], none, none, none, none, none] (by kernel_rfl) fun p s k => by kernel_rfl
/- 185 (*countersign/schemas.index).relation$2 -/
def t185 : List Ce := [⟨186, cn f186⟩]
def f185 : FT := fun p s k => hd s fun a0 s0 =>
 hd s0 fun a1 s1 =>
 nl s1 <|
 kld p a0 fun v2 =>
 kld p a1 fun v3 =>
 cn f186 p [v2, v3] fun v4 p5 =>
 k [v4] p5
theorem o185 : FO EN 185 f185 := fe (np := 2) (T := t185) (tcons (cn_ok o186) tnil) [] (by kernel_rfl) fun p s k => by kernel_rfl
/- 146 slices.Clip[[]string,string] -/
def t146 : List Ce := []
def f146 : FT := fun p s k => hd s fun a0 s0 =>
 nl s0 <|
 kln a0 fun v1 =>
 kln a0 fun v2 =>
 ksl 1 a0 none (some v1) (some v2) fun v3 =>
 k [v3] p
theorem o146 : FO EN 146 f146 := fe (np := 1) (T := t146) tnil [] (by kernel_rfl) fun p s k => by kernel_rfl
/- 112 (*countersign/schemas.index).targets -/
def t112 : List Ce := [⟨111, cn f111⟩, ⟨146, ci f146⟩]
def f112 : FT := fun p s k => hd s fun a0 s0 =>
 hd s0 fun a1 s1 =>
 hd s1 fun a2 s2 =>
 hd s2 fun a3 s3 =>
 nl s3 <|
 cn f111 p [a0, a1, a2] fun v4 p5 =>
 ken true .p v4 .nilp fun v6 =>
 jn 1 (fun j7 => kif v6
 (knc v4 fun v8 =>
 kfa 1 v8 fun v9 =>
 kld p5 v9 fun v10 =>
 kln v10 fun v11 =>
 jn 1 (fun j12 =>
 lp 2 fuel (fun r13 v14 v15 p16 =>
 klt v15 v11 fun v17 =>
 kif v17
 (kia 2 v10 v15 fun v18 =>
 kla p16 2 v18 fun v19 =>
 kal p16 q38 fun v20 p21 =>
 kst p21 2 v20 v19 fun p22 =>
 kfa 1 v20 fun v23 =>
 kld p22 v23 fun v24 =>
 keq false .s v24 q39 fun v25 =>
 jn 6 (fun j26 => gdK v25 true (kfa 0 v20 fun v27 =>
 kld p22 v27 fun v28 =>
 cn f111 p22 [a0, v28, a3] fun v29 p30 =>
 ken true .p v29 .nilp fun v31 =>
 j26 a0 v27 v28 a3 v29 v31 p30) (j26 .undef .undef .undef .undef .undef .undef p22)) fun v32 v33 v34 v35 v36 v37 p38 =>
 kpk v25 v37 q13 fun v39 =>
 jn 1 (fun j40 => kif v39
 (kfa 0 v20 fun v41 =>
 kld p38 v41 fun v42 =>
 kbs p38 1 q81 [(0, 1, v42)] fun v43 p44 =>
 kap p44 1 16 v14 v43 fun v45 p46 =>
 j40 v45 p46)
 (j40 v14 p38)) fun v47 p48 =>
 kad v15 q14 fun v49 =>
 r13 v47 v49 p48)
 (j12 v14 p16)) .nils q0 p5) fun v50 p51 =>
 j7 v50 p51)
 (j7 .nils p5)) fun v52 p53 =>
 ci f146 p53 [v52] fun v54 p55 =>
 k [v54] p55
theorem o112 : FO EN 112 f112 := fe (np := 4) (T := t112) (tcons (cn_ok o111) (tcons (ci_ok o146) tnil)) [some [9], some [9], some [9, 24], none, none, some [9]] (by kernel_rfl) fun p s k => by kernel_rfl
/- 188 (*countersign/schemas.index).rule -/
def t188 : List Ce := [⟨111, cn f111⟩, ⟨112, cc f112⟩]
def f188 : FT := fun p s k => hd s fun a0 s0 =>
 hd s0 fun a1 s1 =>
 hd s1 fun a2 s2 =>
 nl s2 <|
 kln a2 fun v3 =>
 jn 1 (fun j4 =>
 lp 2 fuel (fun r5 v6 v7 p8 =>
 klt v7 v3 fun v9 =>
 kif v9
 (kia 5 a2 v7 fun v10 =>
 kla p8 5 v10 fun v11 =>
 kal p8 q74 fun v12 p13 =>
 kst p13 5 v12 v11 fun p14 =>
 kfa 0 v12 fun v15 =>
 kld p14 v15 fun v16 =>
 keq false .i v16 q51 fun v17 =>
 jn 3 (fun j18 => gdK v17 false (kfa 0 v12 fun v19 =>
 kld p14 v19 fun v20 =>
 keq false .i v20 q53 fun v21 =>
 j18 v19 v20 v21 p14) (j18 .undef .undef .undef p14)) fun v22 v23 v24 p25 =>
 kpk v17 q29 v24 fun v26 =>
 jn 6 (fun j27 => gdK v26 true (kfa 1 v12 fun v28 =>
 kld p25 v28 fun v29 =>
 cn f111 p25 [a0, a1, v29] fun v30 p31 =>
 ken false .p v30 .nilp fun v32 =>
 j27 a0 a1 v28 v29 v30 v32 p31) (j27 .undef .undef .undef .undef .undef .undef p25)) fun v33 v34 v35 v36 v37 v38 p39 =>
 kpk v26 v38 q13 fun v40 =>
 kif v40
 (k [v6, q32] p39)
 (kfa 0 v12 fun v41 =>
 kld p39 v41 fun v42 =>
 keq false .i v42 q53 fun v43 =>
 jn 9 (fun j44 => gdK v43 true (kfa 1 v12 fun v45 =>
 kld p39 v45 fun v46 =>
 kfa 2 v12 fun v47 =>
 kld p39 v47 fun v48 =>
 cc f112 p39 [a0, a1, v46, v48] fun v49 p50 =>
 kln v49 fun v51 =>
 keq false .i v51 q0 fun v52 =>
 j44 a0 a1 v45 v46 v47 v48 v49 v51 v52 p50) (j44 .undef .undef .undef .undef .undef .undef .undef .undef .undef p39)) fun v53 v54 v55 v56 v57 v58 v59 v60 v61 p62 =>
 kpk v43 v61 q13 fun v63 =>
 kif v63
 (k [v6, q83] p62)
 (jn 3 (fun j64 => gdK v6 false (kfa 0 v12 fun v65 =>
 kld p62 v65 fun v66 =>
 keq false .i v66 q52 fun v67 =>
 j64 v65 v66 v67 p62) (j64 .undef .undef .undef p62)) fun v68 v69 v70 p71 =>
 kpk v6 q29 v70 fun v72 =>
 kad v7 q14 fun v73 =>
 r5 v72 v73 p71)))
 (j4 v6 p8)) q13 q0 p) fun v74 p75 =>
 k [v74, q0] p75
theorem o188 : FO EN 188 f188 := fe (np := 3) (T := t188) (tcons (cn_ok o111) (tcons (cc_ok o112) tnil)) [some [6], some [6, 13], none, none, none, none, none] (by kernel_rfl) fun p s k => by kernel_rfl
/- 187 (*countersign/schemas.index).relation$3 -/
def t187 : List Ce := [⟨188, cn f188⟩]
def f187 : FT := fun p s k => hd s fun a0 s0 =>
 hd s0 fun a1 s1 =>
 hd s1 fun a2 s2 =>
 hd s2 fun a3 s3 =>
 nl s3 <|
 kld p a0 fun v4 =>
 kfa 0 a1 fun v5 =>
 kld p v5 fun v6 =>
 kld p a2 fun v7 =>
 cn f188 p [v4, v6, v7] fun v8 p9 =>
 kex v8 0 fun v10 =>
 kex v8 1 fun v11 =>
 kst p9 1 a3 v10 fun p12 =>
 k [v11] p12
theorem o187 : FO EN 187 f187 := fe (np := 4) (T := t187) (tcons (cn_ok o188) tnil) [] (by kernel_rfl) fun p s k => by kernel_rfl
/- 241 slices.IndexFunc[[]countersign/api.Relation,countersign/api.Relation] -/
def t241 : List Ce := []
def f241 : FT := fun p s k => hd s fun a0 s0 =>
 hd s0 fun a1 s1 =>
 nl s1 <|
 kln a0 fun v2 =>
 jn 0 (fun j3 =>
 lp 1 fuel (fun r4 v5 p6 =>
 klt v5 v2 fun v7 =>
 kif v7
 (kia 6 a0 v5 fun v8 =>
 kla p6 6 v8 fun v9 =>
 kcv t241 p6 a1 [v9] fun v10 p11 =>
 kif v10
 (k [v5] p11)
 (kad v5 q14 fun v12 =>
 r4 v12 p11))
 (j3 p6)) q0 p) fun p13 =>
 k [q42] p13
theorem o241 : FO EN 241 f241 := fe (np := 2) (T := t241) tnil [some [], some [8], none, none, none] (by kernel_rfl) fun p s k => by kernel_rfl
/- 213 slices.ContainsFunc[[]countersign/api.Relation,countersign/api.Relation] -/
def t213 : List Ce := [⟨241, cc f241⟩]
def f213 : FT := fun p s k => hd s fun a0 s0 =>
 hd s0 fun a1 s1 =>
 nl s1 <|
 cc f241 p [a0, a1] fun v2 p3 =>
 kge v2 q0 fun v4 =>
 k [v4] p3
theorem o213 : FO EN 213 f213 := fe (np := 2) (T := t213) (tcons (cc_ok o241) tnil) [] (by kernel_rfl) fun p s k => by kernel_rfl
/- 190 countersign/schemas.based -/
def t190 : List Ce := [⟨213, cc f213⟩]
def f190 : FT := fun p s k => hd s fun a0 s0 =>
 hd s0 fun a1 s1 =>
 nl s1 <|
 kbx p 2 a0 fun v2 p3 =>
 kbx p3 1 a1 fun v4 p5 =>
 kfa 1 v2 fun v6 =>
 kld p5 v6 fun v7 =>
 cc f213 p5 [v7, (.func (.func 214) [] [v4])] fun v8 p9 =>
 k [v8] p9
theorem o190 : FO EN 190 f190 := fe (np := 2) (T := t190) (tcons (cc_ok o213) tnil) [] (by kernel_rfl) fun p s k => by kernel_rfl
/- 189 (*countersign/schemas.index).relation$4 -/
def t189 : List Ce := [⟨190, cc f190⟩]
def f189 : FT := fun p s k => hd s fun a0 s0 =>
 hd s0 fun a1 s1 =>
 hd s1 fun a2 s2 =>
 nl s2 <|
 kld p a0 fun v3 =>
 jn 6 (fun j4 => gdK v3 true (kld p a1 fun v5 =>
 knc v5 fun v6 =>
 kfa 1 v6 fun v7 =>
 kld p v7 fun v8 =>
 kln v8 fun v9 =>
 keq false .i v9 q0 fun v10 =>
 j4 v5 v6 v7 v8 v9 v10 p) (j4 .undef .undef .undef .undef .undef .undef p)) fun v11 v12 v13 v14 v15 v16 _ =>
 kpk v3 v16 q13 fun v18 =>
 jn 3 (fun j19 => gdK v18 false (kld p a0 fun v20 =>
 knt v20 fun v21 =>
 j19 v20 v21 v21 p) (j19 .undef .undef .undef p)) fun v22 v23 v24 _ =>
 jn 6 (fun j26 => gdK v24 true (kld p a1 fun v27 =>
 knc v27 fun v28 =>
 kfa 1 v28 fun v29 =>
 kld p v29 fun v30 =>
 kln v30 fun v31 =>
 kgt v31 q0 fun v32 =>
 j26 v27 v28 v29 v30 v31 v32 p) (j26 .undef .undef .undef .undef .undef .undef p)) fun v33 v34 v35 v36 v37 v38 _ =>
 jn 2 (fun j40 => gdK v18 false (kpk v24 v38 q13 fun v41 =>
 j40 v41 v41 p) (j40 .undef .undef p)) fun v42 v43 _ =>
 jn 7 (fun j45 => gdK v43 true (kla (prt [] p) 2 a2 fun v46 =>
 kld (prt [] p) a1 fun v47 =>
 knc v47 fun v48 =>
 kfa 0 v48 fun v49 =>
 kld (prt [] p) v49 fun v50 =>
 cc f190 p [v46, v50] fun v51 p52 =>
 knt v51 fun v53 =>
 j45 v46 v47 v48 v49 v50 v51 v53 p52) (j45 .undef .undef .undef .undef .undef .undef .undef p)) fun v54 v55 v56 v57 v58 v59 v60 p61 =>
 jn 1 (fun j62 => gdK v18 false (kpk v43 v60 q13 fun v63 =>
 j62 v63 p61) (j62 .undef p61)) fun v64 _ =>
 kpk v18 q29 v64 fun v66 =>
 kif v66
 (k [q83] p61)
 (k [q0] p61)
theorem o189 : FO EN 189 f189 := fe (np := 3) (T := t189) (tcons (cc_ok o190) tnil) [none] (by kernel_rfl) fun p s k => by kernel_rfl
/- 183 countersign/schemas.first -/
def t183 : List Ce := [⟨184, cn f184⟩, ⟨185, cn f185⟩, ⟨187, ci f187⟩, ⟨189, cn f189⟩]
def f183 : FT := fun p s k => hd s fun a0 s0 =>
 nl s0 <|
 kln a0 fun v1 =>
 jn 0 (fun j2 =>
 lp 1 fuel (fun r3 v4 p5 =>
 klt v4 v1 fun v6 =>
 kif v6
 (kia 1 a0 v4 fun v7 =>
 kld p5 v7 fun v8 =>
 kcv t183 p5 v8 [] fun v9 p10 =>
 keq true .i v9 q0 fun v11 =>
 kif v11
 (k [v9] p10)
 (kad v4 q14 fun v12 =>
 r3 v12 p10))
 (j2 p5)) q0 p) fun p13 =>
 k [q0] p13
theorem o183 : FO EN 183 f183 := fe (np := 1) (T := t183) (tcons (cn_ok o184) (tcons (cn_ok o185) (tcons (ci_ok o187) (tcons (cn_ok o189) tnil)))) [some [], some [8], none, none, none] (by kernel_rfl) fun p s k => by kernel_rfl
/- 145 (*countersign/schemas.index).relation -/
def t145 : List Ce := [⟨108, cc f108⟩, ⟨183, ci f183⟩]
def f145 : FT := fun p s k => hd s fun a0 s0 =>
 hd s0 fun a1 s1 =>
 hd s1 fun a2 s2 =>
 nl s2 <|
 kbx p 1 a0 fun v3 p4 =>
 kbx p4 2 a1 fun v5 p6 =>
 kbx p6 1 a2 fun v7 p8 =>
 kld (prt [] p8) v3 fun v9 =>
 knc v9 fun v10 =>
 kfa 3 v10 fun v11 =>
 kld (prt [] p8) v11 fun v12 =>
 kld (prt [] p8) v7 fun v13 =>
 kia 1 v12 v13 fun v14 =>
 kld (prt [] p8) v14 fun v15 =>
 kal p8 q80 fun v16 p17 =>
 kst p17 1 v16 v15 fun p18 =>
 kld p18 v16 fun v19 =>
 knc v19 fun v20 =>
 kfa 2 v20 fun v21 =>
 kla p18 4 v21 fun v22 =>
 cc f108 p18 [v22] fun v23 p24 =>
 kex v23 0 fun v25 =>
 kex v23 1 fun v26 =>
 kal p24 q75 fun v27 p28 =>
 kst p28 1 v27 v25 fun p29 =>
 kal p29 q84 fun v30 p31 =>
 kst p31 1 v30 q13 fun p32 =>
 kbs p32 4 q85 [(0, 1, (.func (.func 184) [] [v3, v5, v16, v7])), (1, 1, (.func (.func 185) [] [v3, v16])), (2, 1, (.func (.func 187) [] [v3, v5, v27, v30])), (3, 1, (.func (.func 189) [] [v30, v16, v5]))] fun v33 p34 =>
 ci f183 p34 [v33] fun v35 p36 =>
 k [v35] p36
theorem o145 : FO EN 145 f145 := fe (np := 3) (T := t145) (tcons (cc_ok o108) (tcons (ci_ok o183) tnil)) [] (by kernel_rfl) fun p s k => by kernel_rfl
/- 109 countersign/schemas.Check -/
def t109 : List Ce := [⟨144, cn f144⟩, ⟨110, cc f110⟩, ⟨145, cn f145⟩]
def f109 : FT := fun p s k => hd s fun a0 s0 =>
 nl s0 <|
 kbx p 1 a0 fun v1 p2 =>
 kla p2 1 v1 fun v3 =>
 cn f144 p2 [v3] fun v4 p5 =>
 keq true .i v4 q0 fun v6 =>
 kif v6
 (k [v4] p5)
 (kla p5 1 v1 fun v7 =>
 cc f110 p5 [v7] fun v8 p9 =>
 knc v8 fun v10 =>
 kfa 1 v10 fun v11 =>
 kld (prt [] p9) v11 fun v12 =>
 ksw mth (prt [] p9) (.lenMap (.c v12)) fun v13 p14 =>
 kfa 0 v1 fun v15 =>
 kld (prt [] p9) v15 fun v16 =>
 kln v16 fun v17 =>
 klt v13 v17 fun v18 =>
 kif v18
 (k [q82] p9)
 (kfa 0 v1 fun v19 =>
 kld p9 v19 fun v20 =>
 kln v20 fun v21 =>
 jn 0 (fun j22 =>
 lp 2 fuel (fun r23 v24 v25 p26 =>
 klt v25 v21 fun v27 =>
 kif v27
 (jn 1 (fun j28 =>
 kia 2 v20 v25 fun v29 =>
 kla p26 2 v29 fun v30 =>
 kal p26 q77 fun v31 p32 =>
 kst p32 2 v31 v30 fun p33 =>
 kfa 1 v31 fun v34 =>
 kld p33 v34 fun v35 =>
 kln v35 fun v36 =>
 jn 1 (fun j37 =>
 lp 2 fuel (fun r38 v39 v40 p41 =>
 klt v40 v36 fun v42 =>
 kif v42
 (kla p41 2 v31 fun v43 =>
 cn f145 p41 [v8, v43, v39] fun v44 p45 =>
 keq true .i v44 q0 fun v46 =>
 kif v46
 (k [v44] p45)
 (kad v39 q14 fun v47 =>
 kad v40 q14 fun v48 =>
 r38 v47 v48 p45))
 (j37 v39 p41)) v24 q0 p33) fun v49 p50 =>
 j28 v49 p50) fun v51 p52 =>
 kad v25 q14 fun v53 =>
 r23 v51 v53 p52)
 (j22 p26)) q0 q0 p9) fun p54 =>
 k [q0] p54))
theorem o109 : FO EN 109 f109 := fe (np := 1) (T := t109) (tcons (cn_ok o144) (tcons (cc_ok o110) (tcons (cn_ok o145) tnil))) [none, none, some [], some [5, 28], none, some [5], some [5], some [5, 35], none, none, none] (by kernel_rfl) fun p s k => by kernel_rfl
/- 58 countersign/schemas.Targets -/
def t58 : List Ce := [⟨109, cc f109⟩, ⟨110, cc f110⟩, ⟨111, cn f111⟩, ⟨112, cc f112⟩]
def f58 : FT := fun p s k => hd s fun a0 s0 =>
 hd s0 fun a1 s1 =>
 hd s1 fun a2 s2 =>
 hd s2 fun a3 s3 =>
 nl s3 <|
 kbx p 1 a0 fun v4 p5 =>
 kla p5 1 v4 fun v6 =>
 cc f109 p5 [v6] fun v7 p8 =>
 keq true .i v7 q0 fun v9 =>
 kif v9
 (k [.nils, v7] p8)
 (kla p8 1 v4 fun v10 =>
 cc f110 p8 [v10] fun v11 p12 =>
 cn f111 p12 [v11, a1, a2] fun v13 p14 =>
 ken false .p v13 .nilp fun v15 =>
 kif v15
 (k [.nils, q32] p14)
 (cc f112 p14 [v11, a1, a2, a3] fun v16 p17 =>
 kln v16 fun v18 =>
 keq false .i v18 q0 fun v19 =>
 kif v19
 (k [.nils, q83] p17)
 (k [v16, q0] p17)))
theorem o58 : FO EN 58 f58 := fe (np := 4) (T := t58) (tcons (cc_ok o109) (tcons (cc_ok o110) (tcons (cn_ok o111) (tcons (cc_ok o112) tnil)))) [none, none, none] (by kernel_rfl) fun p s k => by kernel_rfl
/- 157 cmp.isNaN[int] -/
def t157 : List Ce := []
def f157 : FT := fun p s k => hd s fun a0 s0 =>
 nl s0 <|
 keq true .i a0 a0 fun v1 =>
 k [v1] p
theorem o157 : FO EN 157 f157 := fe (np := 1) (T := t157) tnil [] (by kernel_rfl) fun p s k => by kernel_rfl
/- 123 cmp.Compare[int] -/
def t123 : List Ce := [⟨157, cc f157⟩]
def f123 : FT := fun p s k => hd s fun a0 s0 =>
 hd s0 fun a1 s1 =>
 nl s1 <|
 cc f157 p [a0] fun v2 p3 =>
 cc f157 p3 [a1] fun v4 p5 =>
 kif v2
 (kif v4
 (k [q0] p5)
 (k [q42] p5))
 (kif v4
 (k [q14] p5)
 (klt a0 a1 fun v6 =>
 kif v6
 (k [q42] p5)
 (kgt a0 a1 fun v7 =>
 kif v7
 (k [q14] p5)
 (k [q0] p5))))
theorem o123 : FO EN 123 f123 := fe (np := 2) (T := t123) (tcons (cc_ok o157) tnil) [none, none, none, none, none] (by kernel_rfl) fun p s k => by kernel_rfl
/- 204 countersign/graphs.sign -/
def t204 : List Ce := []
def f204 : FT := fun p s k => hd s fun a0 s0 =>
 nl s0 <|
 kbx p 3 a0 fun v1 p2 =>
 kfa 2 v1 fun v3 =>
 kld p2 v3 fun v4 =>
 kif v4
 (k [q14] p2)
 (k [q0] p2)
theorem o204 : FO EN 204 f204 := fe (np := 1) (T := t204) tnil [none] (by kernel_rfl) fun p s k => by kernel_rfl
/- 167 countersign/graphs.compare -/
def t167 : List Ce := [⟨123, cc f123⟩, ⟨204, cc f204⟩, ⟨43, cc f43⟩]
def f167 : FT := fun p s k => hd s fun a0 s0 =>
 hd s0 fun a1 s1 =>
 nl s1 <|
 kbx p 3 a0 fun v2 p3 =>
 kbx p3 3 a1 fun v4 p5 =>
 kfa 0 v2 fun v6 =>
 kld (prt [] p5) v6 fun v7 =>
 kfa 0 v4 fun v8 =>
 kld (prt [] p5) v8 fun v9 =>
 cc f123 (prt [] p5) [v7, v9] fun v10 p11 =>
 unpK p5 p11 fun p12 =>
 kfa 1 v2 fun v13 =>
 kld (prt [(p5.next, p11.next)] p12) v13 fun v14 =>
 kfa 1 v4 fun v15 =>
 kld (prt [(p5.next, p11.next)] p12) v15 fun v16 =>
 cc f123 (prt [] p12) [v14, v16] fun v17 p18 =>
 unpK p12 p18 fun p19 =>
 kla (prt [(p5.next, p11.next), (p12.next, p18.next)] p19) 3 v2 fun v20 =>
 cc f204 (prt [] p19) [v20] fun v21 p22 =>
 unpK p19 p22 fun p23 =>
 kla (prt [(p5.next, p11.next), (p12.next, p18.next), (p19.next, p22.next)] p23) 3 v4 fun v24 =>
 cc f204 p23 [v24] fun v25 p26 =>
 cc f123 p26 [v21, v25] fun v27 p28 =>
 kbs p28 3 q86 [(0, 1, v10), (1, 1, v17), (2, 1, v27)] fun v29 p30 =>
 cc f43 p30 [v29] fun v31 p32 =>
 k [v31] p32
theorem o167 : FO EN 167 f167 := fe (np := 2) (T := t167) (tcons (cc_ok o123) (tcons (cc_ok o204) (tcons (cc_ok o43) tnil))) [] (by kernel_rfl) fun p s k => by kernel_rfl
/- 220 slices.insertionSortCmpFunc[countersign/graphs.Edge] -/
def t220 : List Ce := [⟨167, cn f167⟩]
def f220 : FT := fun p s k => hd s fun a0 s0 =>
 hd s0 fun a1 s1 =>
 hd s1 fun a2 s2 =>
 hd s2 fun a3 s3 =>
 nl s3 <|
 kad a1 q14 fun v4 =>
 jn 0 (fun j5 =>
 lp 1 fuel (fun r6 v7 p8 =>
 klt v7 a2 fun v9 =>
 kif v9
 (jn 0 (fun j10 =>
 jn 0 (fun j11 =>
 lp 1 fuel (fun r12 v13 p14 =>
 kgt v13 a1 fun v15 =>
 jn 12 (fun j16 => gdK v15 true (kia 3 a0 v13 fun v17 =>
 kla (prt [] p14) 3 v17 fun v18 =>
 ksb v13 q14 fun v19 =>
 kia 3 a0 v19 fun v20 =>
 kla (prt [] p14) 3 v20 fun v21 =>
 kcv t220 p14 a3 [v18, v21] fun v22 p23 =>
 klt v22 q0 fun v24 =>
 j16 a3 a0 v13 v17 v18 a0 v13 v19 v20 v21 v22 v24 p23) (j16 .undef .undef .undef .undef .undef .undef .undef .undef .undef .undef .undef .undef p14)) fun v25 v26 v27 v28 v29 v30 v31 v32 v33 v34 v35 v36 p37 =>
 kpk v15 v36 q13 fun v38 =>
 kif v38
 (ksb v13 q14 fun v39 =>
 ksb v13 q14 fun v40 =>
 kia 3 a0 v40 fun v41 =>
 kla (prt [] p37) 3 v41 fun v42 =>
 kia 3 a0 v13 fun v43 =>
 kla (prt [] p37) 3 v43 fun v44 =>
 kia 3 a0 v13 fun v45 =>
 kst p37 3 v45 v42 fun p46 =>
 kia 3 a0 v39 fun v47 =>
 kst p46 3 v47 v44 fun p48 =>
 ksb v13 q14 fun v49 =>
 r12 v49 p48)
 (j11 p37)) v7 p8) fun p50 =>
 j10 p50) fun p51 =>
 kad v7 q14 fun v52 =>
 r6 v52 p51)
 (j5 p8)) v4 p) fun p53 =>
 k [] p53
theorem o220 : FO EN 220 f220 := fe (np := 4) (T := t220) (tcons (cn_ok o167) tnil) [some [], some [8], none, some [], some [], some [9], none, none] (by kernel_rfl) fun p s k => by kernel_rfl
/- 245 slices.siftDownCmpFunc[countersign/graphs.Edge] -/
def t245 : List Ce := []
def f245 : FT := fun p s k => hd s fun a0 s0 =>
 hd s0 fun a1 s1 =>
 hd s1 fun a2 s2 =>
 hd s2 fun a3 s3 =>
 hd s3 fun a4 s4 =>
 nl s4 <|
 jn 0 (fun j5 =>
 lp 1 fuel (fun r6 v7 p8 =>
 kar .mul q16 v7 fun v9 =>
 kad v9 q14 fun v10 =>
 kge v10 a2 fun v11 =>
 kif v11
 (j5 p8)
 (kad v10 q14 fun v12 =>
 klt v12 a2 fun v13 =>
 jn 16 (fun j14 => gdK v13 true (kad a3 v10 fun v15 =>
 kia 3 a0 v15 fun v16 =>
 kla (prt [] p8) 3 v16 fun v17 =>
 kad a3 v10 fun v18 =>
 kad v18 q14 fun v19 =>
 kia 3 a0 v19 fun v20 =>
 kla (prt [] p8) 3 v20 fun v21 =>
 kcv t245 p8 a4 [v17, v21] fun v22 p23 =>
 klt v22 q0 fun v24 =>
 j14 a4 a0 a3 v10 v15 v16 v17 a0 a3 v10 v18 v19 v20 v21 v22 v24 p23) (j14 .undef .undef .undef .undef .undef .undef .undef .undef .undef .undef .undef .undef .undef .undef .undef .undef p8)) fun v25 v26 v27 v28 v29 v30 v31 v32 v33 v34 v35 v36 v37 v38 v39 v40 p41 =>
 kpk v13 v40 q13 fun v42 =>
 jn 1 (fun j43 => kif v42
 (kad v10 q14 fun v44 =>
 j43 v44 p41)
 (j43 v10 p41)) fun v45 p46 =>
 kad a3 v7 fun v47 =>
 kia 3 a0 v47 fun v48 =>
 kla (prt [] p46) 3 v48 fun v49 =>
 kad a3 v45 fun v50 =>
 kia 3 a0 v50 fun v51 =>
 kla (prt [] p46) 3 v51 fun v52 =>
 kcv t245 p46 a4 [v49, v52] fun v53 p54 =>
 klt v53 q0 fun v55 =>
 knt v55 fun v56 =>
 kif v56
 (k [] p54)
 (kad a3 v7 fun v57 =>
 kad a3 v45 fun v58 =>
 kad a3 v45 fun v59 =>
 kia 3 a0 v59 fun v60 =>
 kla (prt [] p54) 3 v60 fun v61 =>
 kad a3 v7 fun v62 =>
 kia 3 a0 v62 fun v63 =>
 kla (prt [] p54) 3 v63 fun v64 =>
 kia 3 a0 v57 fun v65 =>
 kst p54 3 v65 v61 fun p66 =>
 kia 3 a0 v58 fun v67 =>
 kst p66 3 v67 v64 fun p68 =>
 r6 v45 p68))) a1 p) fun p69 =>
 k [] p69
theorem o245 : FO EN 245 f245 := fe (np := 5) (T := t245) tnil [some [], some [10], none, none, some [11], none] (by kernel_rfl) fun p s k => by kernel_rfl
/- 221 slices.heapSortCmpFunc[countersign/graphs.Edge] -/
def t221 : List Ce := [⟨245, cc f245⟩]
def f221 : FT := fun p s k => hd s fun a0 s0 =>
 hd s0 fun a1 s1 =>
 hd s1 fun a2 s2 =>
 hd s2 fun a3 s3 =>
 nl s3 <|
 ksb a2 a1 fun v4 =>
 ksb v4 q14 fun v5 =>
 kar .quo v5 q16 fun v6 =>
 jn 0 (fun j7 =>
 lp 1 fuel (fun r8 v9 p10 =>
 kge v9 q0 fun v11 =>
 kif v11
 (cc f245 p10 [a0, v9, v4, a1, a3] fun v12 p13 =>
 ksb v9 q14 fun v14 =>
 r8 v14 p13)
 (j7 p10)) v6 p) fun p15 =>
 ksb v4 q14 fun v16 =>
 jn 0 (fun j17 =>
 lp 1 fuel (fun r18 v19 p20 =>
 kge v19 q0 fun v21 =>
 kif v21
 (kad a1 v19 fun v22 =>
 kad a1 v19 fun v23 =>
 kia 3 a0 v23 fun v24 =>
 kla (prt [] p20) 3 v24 fun v25 =>
 kia 3 a0 a1 fun v26 =>
 kla (prt [] p20) 3 v26 fun v27 =>
 kia 3 a0 a1 fun v28 =>
 kst p20 3 v28 v25 fun p29 =>
 kia 3 a0 v22 fun v30 =>
 kst p29 3 v30 v27 fun p31 =>
 cc f245 p31 [a0, q0, v19, a1, a3] fun v32 p33 =>
 ksb v19 q14 fun v34 =>
 r18 v34 p33)
 (j17 p20)) v16 p15) fun p35 =>
 k [] p35
theorem o221 : FO EN 221 f221 := fe (np := 4) (T := t221) (tcons (cc_ok o245) tnil) [some [], some [11], none, none, some [], some [12], none, none] (by kernel_rfl) fun p s k => by kernel_rfl
/- 222 slices.breakPatternsCmpFunc[countersign/graphs.Edge] -/
def t222 : List Ce := [⟨128, cc f128⟩, ⟨129, cc f129⟩]
def f222 : FT := fun p s k => hd s fun a0 s0 =>
 hd s0 fun a1 s1 =>
 hd s1 fun a2 s2 =>
 hd s2 fun a3 s3 =>
 nl s3 <|
 ksb a2 a1 fun v4 =>
 kge v4 q6 fun v5 =>
 jn 0 (fun j6 => kif v5
 (kci .u64 v4 fun v7 =>
 kal p q22 fun v8 p9 =>
 kst p9 1 v8 v7 fun p10 =>
 cc f128 p10 [v4] fun v11 p12 =>
 kar .quo v4 q23 fun v13 =>
 kar .mul v13 q16 fun v14 =>
 kad a1 v14 fun v15 =>
 ksb v15 q14 fun v16 =>
 jn 0 (fun j17 =>
 lp 1 fuel (fun r18 v19 p20 =>
 kar .quo v4 q23 fun v21 =>
 kar .mul v21 q16 fun v22 =>
 kad a1 v22 fun v23 =>
 kad v23 q14 fun v24 =>
 kle v19 v24 fun v25 =>
 kif v25
 (cc f129 p20 [v8] fun v26 p27 =>
 ksb v11 q18 fun v28 =>
 kar .and v26 v28 fun v29 =>
 kci .i64 v29 fun v30 =>
 kge v30 v4 fun v31 =>
 jn 1 (fun j32 => kif v31
 (ksb v30 v4 fun v33 =>
 j32 v33 p27)
 (j32 v30 p27)) fun v34 p35 =>
 kad a1 v34 fun v36 =>
 kad a1 v34 fun v37 =>
 kia 3 a0 v37 fun v38 =>
 kla (prt [] p35) 3 v38 fun v39 =>
 kia 3 a0 v19 fun v40 =>
 kla (prt [] p35) 3 v40 fun v41 =>
 kia 3 a0 v19 fun v42 =>
 kst p35 3 v42 v39 fun p43 =>
 kia 3 a0 v36 fun v44 =>
 kst p43 3 v44 v41 fun p45 =>
 kad v19 q14 fun v46 =>
 r18 v46 p45)
 (j17 p20)) v16 p12) fun p47 =>
 j6 p47)
 (j6 p)) fun p48 =>
 k [] p48
theorem o222 : FO EN 222 f222 := fe (np := 4) (T := t222) (tcons (cc_ok o128) (tcons (cc_ok o129) tnil)) [some [], some [], some [11], none, none, some [12]] (by kernel_rfl) fun p s k => by kernel_rfl
/- 266 slices.order2CmpFunc[countersign/graphs.Edge] -/
def t266 : List Ce := []
def f266 : FT := fun p s k => hd s fun a0 s0 =>
 hd s0 fun a1 s1 =>
 hd s1 fun a2 s2 =>
 hd s2 fun a3 s3 =>
 hd s3 fun a4 s4 =>
 nl s4 <|
 kia 3 a0 a2 fun v5 =>
 kla (prt [] p) 3 v5 fun v6 =>
 kia 3 a0 a1 fun v7 =>
 kla (prt [] p) 3 v7 fun v8 =>
 kcv t266 p a4 [v6, v8] fun v9 p10 =>
 klt v9 q0 fun v11 =>
 kif v11
 (knc a3 fun v12 =>
 kld p10 v12 fun v13 =>
 kad v13 q14 fun v14 =>
 knc a3 fun v15 =>
 kst p10 1 v15 v14 fun p16 =>
 k [a2, a1] p16)
 (k [a1, a2] p10)
theorem o266 : FO EN 266 f266 := fe (np := 5) (T := t266) tnil [none] (by kernel_rfl) fun p s k => by kernel_rfl
/- 247 slices.medianCmpFunc[countersign/graphs.Edge] -/
def t247 : List Ce := [⟨266, cc f266⟩]
def f247 : FT := fun p s k => hd s fun a0 s0 =>
 hd s0 fun a1 s1 =>
 hd s1 fun a2 s2 =>
 hd s2 fun a3 s3 =>
 hd s3 fun a4 s4 =>
 hd s4 fun a5 s5 =>
 nl s5 <|
 cc f266 p [a0, a1, a2, a4, a5] fun v6 p7 =>
 kex v6 0 fun v8 =>
 kex v6 1 fun v9 =>
 cc f266 p7 [a0, v9, a3, a4, a5] fun v10 p11 =>
 kex v10 0 fun v12 =>
 kex v10 1 fun v13 =>
 cc f266 p11 [a0, v8, v12, a4, a5] fun v14 p15 =>
 kex v14 0 fun v16 =>
 kex v14 1 fun v17 =>
 k [v17] p15
theorem o247 : FO EN 247 f247 := fe (np := 6) (T := t247) (tcons (cc_ok o266) tnil) [] (by kernel_rfl) fun p s k => by kernel_rfl
/- 246 slices.medianAdjacentCmpFunc[countersign/graphs.Edge] -/
def t246 : List Ce := [⟨247, cc f247⟩]
def f246 : FT := fun p s k => hd s fun a0 s0 =>
 hd s0 fun a1 s1 =>
 hd s1 fun a2 s2 =>
 hd s2 fun a3 s3 =>
 nl s3 <|
 ksb a1 q14 fun v4 =>
 kad a1 q14 fun v5 =>
 cc f247 p [a0, v4, a1, v5, a2, a3] fun v6 p7 =>
 k [v6] p7
theorem o246 : FO EN 246 f246 := fe (np := 4) (T := t246) (tcons (cc_ok o247) tnil) [] (by kernel_rfl) fun p s k => by kernel_rfl
/- 223 slices.choosePivotCmpFunc[countersign/graphs.Edge] -/
def t223 : List Ce := [⟨246, cc f246⟩, ⟨247, cc f247⟩]
def f223 : FT := fun p s k => hd s fun a0 s0 =>
 hd s0 fun a1 s1 =>
 hd s1 fun a2 s2 =>
 hd s2 fun a3 s3 =>
 nl s3 <|
 ksb a2 a1 fun v4 =>
 kal p q24 fun v5 p6 =>
 kar .quo v4 q23 fun v7 =>
 kar .mul v7 q14 fun v8 =>
 kad a1 v8 fun v9 =>
 kar .quo v4 q23 fun v10 =>
 kar .mul v10 q16 fun v11 =>
 kad a1 v11 fun v12 =>
 kar .quo v4 q23 fun v13 =>
 kar .mul v13 q25 fun v14 =>
 kad a1 v14 fun v15 =>
 kge v4 q6 fun v16 =>
 jn 1 (fun j17 => kif v16
 (kge v4 q26 fun v18 =>
 jn 3 (fun j19 => kif v18
 (cc f246 p6 [a0, v9, v5, a3] fun v20 p21 =>
 cc f246 p21 [a0, v12, v5, a3] fun v22 p23 =>
 cc f246 p23 [a0, v15, v5, a3] fun v24 p25 =>
 j19 v20 v22 v24 p25)
 (j19 v9 v12 v15 p6)) fun v26 v27 v28 p29 =>
 cc f247 p29 [a0, v26, v27, v28, v5, a3] fun v30 p31 =>
 j17 v30 p31)
 (j17 v12 p6)) fun v32 p33 =>
 kld p33 v5 fun v34 =>
 keq false .i v34 q0 fun v35 =>
 kif v35
 (k [v32, q14] p33)
 (keq false .i v34 q27 fun v36 =>
 kif v36
 (k [v32, q16] p33)
 (k [v32, q0] p33))
theorem o223 : FO EN 223 f223 := fe (np := 4) (T := t223) (tcons (cc_ok o246) (tcons (cc_ok o247) tnil)) [some [13], some [12, 13, 14], none, none, none] (by kernel_rfl) fun p s k => by kernel_rfl
/- 224 slices.reverseRangeCmpFunc[countersign/graphs.Edge] -/
def t224 : List Ce := []
def f224 : FT := fun p s k => hd s fun a0 s0 =>
 hd s0 fun a1 s1 =>
 hd s1 fun a2 s2 =>
 hd s2 fun a3 s3 =>
 nl s3 <|
 ksb a2 q14 fun v4 =>
 jn 0 (fun j5 =>
 lp 2 fuel (fun r6 v7 v8 p9 =>
 klt v7 v8 fun v10 =>
 kif v10
 (kia 3 a0 v8 fun v11 =>
 kla (prt [] p9) 3 v11 fun v12 =>
 kia 3 a0 v7 fun v13 =>
 kla (prt [] p9) 3 v13 fun v14 =>
 kia 3 a0 v7 fun v15 =>
 kst p9 3 v15 v12 fun p16 =>
 kia 3 a0 v8 fun v17 =>
 kst p16 3 v17 v14 fun p18 =>
 kad v7 q14 fun v19 =>
 ksb v8 q14 fun v20 =>
 r6 v19 v20 p18)
 (j5 p9)) a1 v4 p) fun p21 =>
 k [] p21
theorem o224 : FO EN 224 f224 := fe (np := 4) (T := t224) tnil [some [], some [8, 9], none, none] (by kernel_rfl) fun p s k => by kernel_rfl
/- 225 slices.partialInsertionSortCmpFunc[countersign/graphs.Edge] -/
def t225 : List Ce := []
def f225 : FT := fun p s k => hd s fun a0 s0 =>
 hd s0 fun a1 s1 =>
 hd s1 fun a2 s2 =>
 hd s2 fun a3 s3 =>
 nl s3 <|
 kad a1 q14 fun v4 =>
 jn 0 (fun j5 =>
 lp 2 fuel (fun r6 v7 v8 p9 =>
 klt v8 q28 fun v10 =>
 kif v10
 (jn 1 (fun j11 =>
 jn 1 (fun j12 =>
 lp 1 fuel (fun r13 v14 p15 =>
 klt v14 a2 fun v16 =>
 jn 13 (fun j17 => gdK v16 true (kia 3 a0 v14 fun v18 =>
 kla (prt [] p15) 3 v18 fun v19 =>
 ksb v14 q14 fun v20 =>
 kia 3 a0 v20 fun v21 =>
 kla (prt [] p15) 3 v21 fun v22 =>
 kcv t225 p15 a3 [v19, v22] fun v23 p24 =>
 klt v23 q0 fun v25 =>
 knt v25 fun v26 =>
 j17 a3 a0 v14 v18 v19 a0 v14 v20 v21 v22 v23 v25 v26 p24) (j17 .undef .undef .undef .undef .undef .undef .undef .undef .undef .undef .undef .undef .undef p15)) fun v27 v28 v29 v30 v31 v32 v33 v34 v35 v36 v37 v38 v39 p40 =>
 kpk v16 v39 q13 fun v41 =>
 kif v41
 (kad v14 q14 fun v42 =>
 r13 v42 p40)
 (j12 v14 p40)) v7 p9) fun v43 p44 =>
 keq false .i v43 a2 fun v45 =>
 kif v45
 (k [q29] p44)
 (ksb a2 a1 fun v46 =>
 klt v46 q26 fun v47 =>
 kif v47
 (k [q13] p44)
 (ksb v43 q14 fun v48 =>
 ksb v43 q14 fun v49 =>
 kia 3 a0 v49 fun v50 =>
 kla (prt [] p44) 3 v50 fun v51 =>
 kia 3 a0 v43 fun v52 =>
 kla (prt [] p44) 3 v52 fun v53 =>
 kia 3 a0 v43 fun v54 =>
 kst p44 3 v54 v51 fun p55 =>
 kia 3 a0 v48 fun v56 =>
 kst p55 3 v56 v53 fun p57 =>
 ksb v43 a1 fun v58 =>
 kge v58 q16 fun v59 =>
 jn 0 (fun j60 => kif v59
 (ksb v43 q14 fun v61 =>
 jn 0 (fun j62 =>
 lp 1 fuel (fun r63 v64 p65 =>
 kge v64 q14 fun v66 =>
 kif v66
 (kia 3 a0 v64 fun v67 =>
 kla (prt [] p65) 3 v67 fun v68 =>
 ksb v64 q14 fun v69 =>
 kia 3 a0 v69 fun v70 =>
 kla (prt [] p65) 3 v70 fun v71 =>
 kcv t225 p65 a3 [v68, v71] fun v72 p73 =>
 klt v72 q0 fun v74 =>
 knt v74 fun v75 =>
 kif v75
 (j62 p73)
 (ksb v64 q14 fun v76 =>
 ksb v64 q14 fun v77 =>
 kia 3 a0 v77 fun v78 =>
 kla (prt [] p73) 3 v78 fun v79 =>
 kia 3 a0 v64 fun v80 =>
 kla (prt [] p73) 3 v80 fun v81 =>
 kia 3 a0 v64 fun v82 =>
 kst p73 3 v82 v79 fun p83 =>
 kia 3 a0 v76 fun v84 =>
 kst p83 3 v84 v81 fun p85 =>
 ksb v64 q14 fun v86 =>
 r63 v86 p85))
 (j62 p65)) v61 p57) fun p87 =>
 j60 p87)
 (j60 p57)) fun p88 =>
 ksb a2 v43 fun v89 =>
 kge v89 q16 fun v90 =>
 jn 0 (fun j91 => kif v90
 (kad v43 q14 fun v92 =>
 jn 0 (fun j93 =>
 lp 1 fuel (fun r94 v95 p96 =>
 klt v95 a2 fun v97 =>
 kif v97
 (kia 3 a0 v95 fun v98 =>
 kla (prt [] p96) 3 v98 fun v99 =>
 ksb v95 q14 fun v100 =>
 kia 3 a0 v100 fun v101 =>
 kla (prt [] p96) 3 v101 fun v102 =>
 kcv t225 p96 a3 [v99, v102] fun v103 p104 =>
 klt v103 q0 fun v105 =>
 knt v105 fun v106 =>
 kif v106
 (j93 p104)
 (ksb v95 q14 fun v107 =>
 ksb v95 q14 fun v108 =>
 kia 3 a0 v108 fun v109 =>
 kla (prt [] p104) 3 v109 fun v110 =>
 kia 3 a0 v95 fun v111 =>
 kla (prt [] p104) 3 v111 fun v112 =>
 kia 3 a0 v95 fun v113 =>
 kst p104 3 v113 v110 fun p114 =>
 kia 3 a0 v107 fun v115 =>
 kst p114 3 v115 v112 fun p116 =>
 kad v95 q14 fun v117 =>
 r94 v117 p116))
 (j93 p96)) v92 p88) fun p118 =>
 j91 p118)
 (j91 p88)) fun p119 =>
 j11 v43 p119))) fun v120 p121 =>
 kad v8 q14 fun v122 =>
 r6 v120 v122 p121)
 (j5 p9)) v4 q0 p) fun p123 =>
 k [q13] p123
theorem o225 : FO EN 225 f225 := fe (np := 4) (T := t225) tnil [some [], some [9, 10], none, some [9], some [9], some [9], none, none, none, none, some [], some [], some [11], none, none, none, some [], some [], some [12], none, none, none] (by kernel_rfl) fun p s k => by kernel_rfl
/- 226 slices.partitionEqualCmpFunc[countersign/graphs.Edge] -/
def t226 : List Ce := []
def f226 : FT := fun p s k => hd s fun a0 s0 =>
 hd s0 fun a1 s1 =>
 hd s1 fun a2 s2 =>
 hd s2 fun a3 s3 =>
 hd s3 fun a4 s4 =>
 nl s4 <|
 kia 3 a0 a3 fun v5 =>
 kla (prt [] p) 3 v5 fun v6 =>
 kia 3 a0 a1 fun v7 =>
 kla (prt [] p) 3 v7 fun v8 =>
 kia 3 a0 a1 fun v9 =>
 kst p 3 v9 v6 fun p10 =>
 kia 3 a0 a3 fun v11 =>
 kst p10 3 v11 v8 fun p12 =>
 kad a1 q14 fun v13 =>
 ksb a2 q14 fun v14 =>
 jn 1 (fun j15 =>
 lp 2 fuel (fun r16 v17 v18 p19 =>
 jn 2 (fun j20 =>
 jn 1 (fun j21 =>
 lp 1 fuel (fun r22 v23 p24 =>
 kle v23 v18 fun v25 =>
 jn 12 (fun j26 => gdK v25 true (kia 3 a0 a1 fun v27 =>
 kla (prt [] p24) 3 v27 fun v28 =>
 kia 3 a0 v23 fun v29 =>
 kla (prt [] p24) 3 v29 fun v30 =>
 kcv t226 p24 a4 [v28, v30] fun v31 p32 =>
 klt v31 q0 fun v33 =>
 knt v33 fun v34 =>
 j26 a4 a0 a1 v27 v28 a0 v23 v29 v30 v31 v33 v34 p32) (j26 .undef .undef .undef .undef .undef .undef .undef .undef .undef .undef .undef .undef p24)) fun v35 v36 v37 v38 v39 v40 v41 v42 v43 v44 v45 v46 p47 =>
 kpk v25 v46 q13 fun v48 =>
 kif v48
 (kad v23 q14 fun v49 =>
 r22 v49 p47)
 (j21 v23 p47)) v17 p19) fun v50 p51 =>
 jn 1 (fun j52 =>
 lp 1 fuel (fun r53 v54 p55 =>
 kle v50 v54 fun v56 =>
 jn 11 (fun j57 => gdK v56 true (kia 3 a0 a1 fun v58 =>
 kla (prt [] p55) 3 v58 fun v59 =>
 kia 3 a0 v54 fun v60 =>
 kla (prt [] p55) 3 v60 fun v61 =>
 kcv t226 p55 a4 [v59, v61] fun v62 p63 =>
 klt v62 q0 fun v64 =>
 j57 a4 a0 a1 v58 v59 a0 v54 v60 v61 v62 v64 p63) (j57 .undef .undef .undef .undef .undef .undef .undef .undef .undef .undef .undef p55)) fun v65 v66 v67 v68 v69 v70 v71 v72 v73 v74 v75 p76 =>
 kpk v56 v75 q13 fun v77 =>
 kif v77
 (ksb v54 q14 fun v78 =>
 r53 v78 p76)
 (j52 v54 p76)) v18 p51) fun v79 p80 =>
 kgt v50 v79 fun v81 =>
 kif v81
 (j15 v50 p80)
 (kia 3 a0 v79 fun v82 =>
 kla (prt [] p80) 3 v82 fun v83 =>
 kia 3 a0 v50 fun v84 =>
 kla (prt [] p80) 3 v84 fun v85 =>
 kia 3 a0 v50 fun v86 =>
 kst p80 3 v86 v83 fun p87 =>
 kia 3 a0 v79 fun v88 =>
 kst p87 3 v88 v85 fun p89 =>
 kad v50 q14 fun v90 =>
 ksb v79 q14 fun v91 =>
 j20 v90 v91 p89)) fun v92 v93 p94 =>
 r16 v92 v93 p94) v13 v14 p12) fun v95 p96 =>
 k [v95] p96
theorem o226 : FO EN 226 f226 := fe (np := 5) (T := t226) tnil [some [11], some [11, 12], some [11, 12], some [11], some [11], none, none, some [12], some [12], none, none, none] (by kernel_rfl) fun p s k => by kernel_rfl
/- 227 slices.partitionCmpFunc[countersign/graphs.Edge] -/
def t227 : List Ce := []
def f227 : FT := fun p s k => hd s fun a0 s0 =>
 hd s0 fun a1 s1 =>
 hd s1 fun a2 s2 =>
 hd s2 fun a3 s3 =>
 hd s3 fun a4 s4 =>
 nl s4 <|
 kia 3 a0 a3 fun v5 =>
 kla (prt [] p) 3 v5 fun v6 =>
 kia 3 a0 a1 fun v7 =>
 kla (prt [] p) 3 v7 fun v8 =>
 kia 3 a0 a1 fun v9 =>
 kst p 3 v9 v6 fun p10 =>
 kia 3 a0 a3 fun v11 =>
 kst p10 3 v11 v8 fun p12 =>
 kad a1 q14 fun v13 =>
 ksb a2 q14 fun v14 =>
 jn 1 (fun j15 =>
 lp 1 fuel (fun r16 v17 p18 =>
 kle v17 v14 fun v19 =>
 jn 11 (fun j20 => gdK v19 true (kia 3 a0 v17 fun v21 =>
 kla (prt [] p18) 3 v21 fun v22 =>
 kia 3 a0 a1 fun v23 =>
 kla (prt [] p18) 3 v23 fun v24 =>
 kcv t227 p18 a4 [v22, v24] fun v25 p26 =>
 klt v25 q0 fun v27 =>
 j20 a4 a0 v17 v21 v22 a0 a1 v23 v24 v25 v27 p26) (j20 .undef .undef .undef .undef .undef .undef .undef .undef .undef .undef .undef p18)) fun v28 v29 v30 v31 v32 v33 v34 v35 v36 v37 v38 p39 =>
 kpk v19 v38 q13 fun v40 =>
 kif v40
 (kad v17 q14 fun v41 =>
 r16 v41 p39)
 (j15 v17 p39)) v13 p12) fun v42 p43 =>
 jn 1 (fun j44 =>
 lp 1 fuel (fun r45 v46 p47 =>
 kle v42 v46 fun v48 =>
 jn 12 (fun j49 => gdK v48 true (kia 3 a0 v46 fun v50 =>
 kla (prt [] p47) 3 v50 fun v51 =>
 kia 3 a0 a1 fun v52 =>
 kla (prt [] p47) 3 v52 fun v53 =>
 kcv t227 p47 a4 [v51, v53] fun v54 p55 =>
 klt v54 q0 fun v56 =>
 knt v56 fun v57 =>
 j49 a4 a0 v46 v50 v51 a0 a1 v52 v53 v54 v56 v57 p55) (j49 .undef .undef .undef .undef .undef .undef .undef .undef .undef .undef .undef .undef p47)) fun v58 v59 v60 v61 v62 v63 v64 v65 v66 v67 v68 v69 p70 =>
 kpk v48 v69 q13 fun v71 =>
 kif v71
 (ksb v46 q14 fun v72 =>
 r45 v72 p70)
 (j44 v46 p70)) v14 p43) fun v73 p74 =>
 kgt v42 v73 fun v75 =>
 kif v75
 (kia 3 a0 a1 fun v76 =>
 kla (prt [] p74) 3 v76 fun v77 =>
 kia 3 a0 v73 fun v78 =>
 kla (prt [] p74) 3 v78 fun v79 =>
 kia 3 a0 v73 fun v80 =>
 kst p74 3 v80 v77 fun p81 =>
 kia 3 a0 a1 fun v82 =>
 kst p81 3 v82 v79 fun p83 =>
 k [v73, q29] p83)
 (kia 3 a0 v73 fun v84 =>
 kla (prt [] p74) 3 v84 fun v85 =>
 kia 3 a0 v42 fun v86 =>
 kla (prt [] p74) 3 v86 fun v87 =>
 kia 3 a0 v42 fun v88 =>
 kst p74 3 v88 v85 fun p89 =>
 kia 3 a0 v73 fun v90 =>
 kst p89 3 v90 v87 fun p91 =>
 kad v42 q14 fun v92 =>
 ksb v73 q14 fun v93 =>
 jn 1 (fun j94 =>
 lp 2 fuel (fun r95 v96 v97 p98 =>
 jn 2 (fun j99 =>
 jn 1 (fun j100 =>
 lp 1 fuel (fun r101 v102 p103 =>
 kle v102 v97 fun v104 =>
 jn 11 (fun j105 => gdK v104 true (kia 3 a0 v102 fun v106 =>
 kla (prt [] p103) 3 v106 fun v107 =>
 kia 3 a0 a1 fun v108 =>
 kla (prt [] p103) 3 v108 fun v109 =>
 kcv t227 p103 a4 [v107, v109] fun v110 p111 =>
 klt v110 q0 fun v112 =>
 j105 a4 a0 v102 v106 v107 a0 a1 v108 v109 v110 v112 p111) (j105 .undef .undef .undef .undef .undef .undef .undef .undef .undef .undef .undef p103)) fun v113 v114 v115 v116 v117 v118 v119 v120 v121 v122 v123 p124 =>
 kpk v104 v123 q13 fun v125 =>
 kif v125
 (kad v102 q14 fun v126 =>
 r101 v126 p124)
 (j100 v102 p124)) v96 p98) fun v127 p128 =>
 jn 1 (fun j129 =>
 lp 1 fuel (fun r130 v131 p132 =>
 kle v127 v131 fun v133 =>
 jn 12 (fun j134 => gdK v133 true (kia 3 a0 v131 fun v135 =>
 kla (prt [] p132) 3 v135 fun v136 =>
 kia 3 a0 a1 fun v137 =>
 kla (prt [] p132) 3 v137 fun v138 =>
 kcv t227 p132 a4 [v136, v138] fun v139 p140 =>
 klt v139 q0 fun v141 =>
 knt v141 fun v142 =>
 j134 a4 a0 v131 v135 v136 a0 a1 v137 v138 v139 v141 v142 p140) (j134 .undef .undef .undef .undef .undef .undef .undef .undef .undef .undef .undef .undef p132)) fun v143 v144 v145 v146 v147 v148 v149 v150 v151 v152 v153 v154 p155 =>
 kpk v133 v154 q13 fun v156 =>
 kif v156
 (ksb v131 q14 fun v157 =>
 r130 v157 p155)
 (j129 v131 p155)) v97 p128) fun v158 p159 =>
 kgt v127 v158 fun v160 =>
 kif v160
 (j94 v158 p159)
 (kia 3 a0 v158 fun v161 =>
 kla (prt [] p159) 3 v161 fun v162 =>
 kia 3 a0 v127 fun v163 =>
 kla (prt [] p159) 3 v163 fun v164 =>
 kia 3 a0 v127 fun v165 =>
 kst p159 3 v165 v162 fun p166 =>
 kia 3 a0 v158 fun v167 =>
 kst p166 3 v167 v164 fun p168 =>
 kad v127 q14 fun v169 =>
 ksb v158 q14 fun v170 =>
 j99 v169 v170 p168)) fun v171 v172 p173 =>
 r95 v171 v172 p173) v92 v93 p91) fun v174 p175 =>
 kia 3 a0 a1 fun v176 =>
 kla (prt [] p175) 3 v176 fun v177 =>
 kia 3 a0 v174 fun v178 =>
 kla (prt [] p175) 3 v178 fun v179 =>
 kia 3 a0 v174 fun v180 =>
 kst p175 3 v180 v177 fun p181 =>
 kia 3 a0 a1 fun v182 =>
 kst p181 3 v182 v179 fun p183 =>
 k [v174, q13] p183)
theorem o227 : FO EN 227 f227 := fe (np := 5) (T := t227) tnil [some [12], some [12], none, none, some [13], some [13], none, none, none, some [13], some [12, 13], some [12, 13], some [12], some [12], none, none, some [13], some [13], none, none, none] (by kernel_rfl) fun p s k => by kernel_rfl
end
end Go.V
end

section
set_option maxRecDepth 100000
set_option linter.unusedVariables false
namespace Go.V
noncomputable section
/- 205 slices.pdqsortCmpFunc[countersign/graphs.Edge] -/
def t205 (self : FT) : List Ce := [⟨220, ci f220⟩, ⟨221, cc f221⟩, ⟨222, cc f222⟩, ⟨223, cc f223⟩, ⟨224, cc f224⟩, ⟨225, cc f225⟩, ⟨226, cc f226⟩, ⟨227, cc f227⟩, ⟨205, ci self⟩]
def g205 : FT → FT := fun self => fun p s k => hd s fun a0 s0 =>
 hd s0 fun a1 s1 =>
 hd s1 fun a2 s2 =>
 hd s2 fun a3 s3 =>
 hd s3 fun a4 s4 =>
 nl s4 <|
 jn 0 (fun j5 =>
 lp 5 fuel (fun r6 v7 v8 v9 v10 v11 p12 =>
 jn 5 (fun j13 =>
 ksb v8 v7 fun v14 =>
 kle v14 q27 fun v15 =>
 kif v15
 (ci f220 p12 [a0, v7, v8, a4] fun v16 p17 =>
 k [] p17)
 (keq false .i v9 q0 fun v18 =>
 kif v18
 (cc f221 p12 [a0, v7, v8, a4] fun v19 p20 =>
 k [] p20)
 (knt v10 fun v21 =>
 jn 1 (fun j22 => kif v21
 (cc f222 p12 [a0, v7, v8, a4] fun v23 p24 =>
 ksb v9 q14 fun v25 =>
 j22 v25 p24)
 (j22 v9 p12)) fun v26 p27 =>
 cc f223 p27 [a0, v7, v8, a4] fun v28 p29 =>
 kex v28 0 fun v30 =>
 kex v28 1 fun v31 =>
 keq false .i v31 q16 fun v32 =>
 jn 2 (fun j33 => kif v32
 (cc f224 p29 [a0, v7, v8, a4] fun v34 p35 =>
 ksb v8 q14 fun v36 =>
 ksb v30 v7 fun v37 =>
 ksb v36 v37 fun v38 =>
 j33 v38 q14 p35)
 (j33 v30 v31 p29)) fun v39 v40 p41 =>
 jn 1 (fun j42 => gdK v10 true (j42 v11 p41) (j42 .undef p41)) fun v43 p44 =>
 kpk v10 v43 q13 fun v45 =>
 jn 2 (fun j46 => gdK v45 true (keq false .i v40 q14 fun v47 =>
 j46 v40 v47 p44) (j46 .undef .undef p44)) fun v48 v49 p50 =>
 kpk v45 v49 q13 fun v51 =>
 jn 0 (fun j52 => kif v51
 (cc f225 p50 [a0, v7, v8, a4] fun v53 p54 =>
 kif v53
 (k [] p54)
 (j52 p54))
 (j52 p50)) fun p55 =>
 kgt v7 q0 fun v56 =>
 jn 13 (fun j57 => gdK v56 true (ksb v7 q14 fun v58 =>
 kia 3 a0 v58 fun v59 =>
 kla (prt [] p55) 3 v59 fun v60 =>
 kia 3 a0 v39 fun v61 =>
 kla (prt [] p55) 3 v61 fun v62 =>
 kcv (t205 self) p55 a4 [v60, v62] fun v63 p64 =>
 klt v63 q0 fun v65 =>
 knt v65 fun v66 =>
 j57 a4 a0 v7 v58 v59 v60 a0 v39 v61 v62 v63 v65 v66 p64) (j57 .undef .undef .undef .undef .undef .undef .undef .undef .undef .undef .undef .undef .undef p55)) fun v67 v68 v69 v70 v71 v72 v73 v74 v75 v76 v77 v78 v79 p80 =>
 kpk v56 v79 q13 fun v81 =>
 kif v81
 (cc f226 p80 [a0, v7, v8, v39, a4] fun v82 p83 =>
 j13 v82 v8 v26 v10 v11 p83)
 (cc f227 p80 [a0, v7, v8, v39, a4] fun v84 p85 =>
 kex v84 0 fun v86 =>
 kex v84 1 fun v87 =>
 ksb v86 v7 fun v88 =>
 ksb v8 v86 fun v89 =>
 kar .quo v14 q6 fun v90 =>
 klt v88 v89 fun v91 =>
 jn 3 (fun j92 => kif v91
 (kge v88 v90 fun v93 =>
 ci self p85 [a0, v7, v86, v26, a4] fun v94 p95 =>
 kad v86 q14 fun v96 =>
 j92 v96 v8 v93 p95)
 (kge v89 v90 fun v97 =>
 kad v86 q14 fun v98 =>
 ci self p85 [a0, v98, v8, v26, a4] fun v99 p100 =>
 j92 v7 v86 v97 p100)) fun v101 v102 v103 p104 =>
 j13 v101 v102 v26 v103 v87 p104)))) fun v105 v106 v107 v108 v109 p110 =>
 r6 v105 v106 v107 v108 v109 p110) a1 a2 a3 q29 q29 p) fun p111 =>
 k [] p111
def f205 : FT := rcF depth g205
theorem o205 : FO EN 205 f205 := FO.rc (fun self h => fe (np := 5) (T := t205 self) (tcons (ci_ok o220) (tcons (cc_ok o221) (tcons (cc_ok o222) (tcons (cc_ok o223) (tcons (cc_ok o224) (tcons (cc_ok o225) (tcons (cc_ok o226) (tcons (cc_ok o227) (tcons (ci_ok h) tnil))))))))) [some [], some [1, 2, 3, 10, 11], some [1, 2, 3, 10, 11], none, none, some [3], some [13, 14], some [], none, none, some [1, 2, 10]] (by kernel_rfl) fun p s k => by kernel_rfl) depth
/- 168 slices.SortFunc[[]countersign/graphs.Edge,countersign/graphs.Edge] -/
def t168 : List Ce := [⟨42, cc f42⟩, ⟨205, ci f205⟩]
def f168 : FT := fun p s k => hd s fun a0 s0 =>
 hd s0 fun a1 s1 =>
 nl s1 <|
 kln a0 fun v2 =>
 kci .u64 v2 fun v3 =>
 cc f42 p [v3] fun v4 p5 =>
 ci f205 p5 [a0, q0, v2, v4, a1] fun v6 p7 =>
 k [] p7
theorem o168 : FO EN 168 f168 := fe (np := 2) (T := t168) (tcons (cc_ok o42) (tcons (ci_ok o205) tnil)) [] (by kernel_rfl) fun p s k => by kernel_rfl
/- 170 slices.Compact[[]countersign/graphs.Edge,countersign/graphs.Edge] -/
def t170 : List Ce := []
def f170 : FT := fun p s k => hd s fun a0 s0 =>
 nl s0 <|
 kln a0 fun v1 =>
 klt v1 q16 fun v2 =>
 kif v2
 (k [a0] p)
 (jn 0 (fun j3 =>
 lp 1 fuel (fun r4 v5 p6 =>
 kln a0 fun v7 =>
 klt v5 v7 fun v8 =>
 kif v8
 (jn 1 (fun j9 =>
 kia 3 a0 v5 fun v10 =>
 kla (prt [] p6) 3 v10 fun v11 =>
 ksb v5 q14 fun v12 =>
 kia 3 a0 v12 fun v13 =>
 kla (prt [] p6) 3 v13 fun v14 =>
 kea false [(0, .i), (1, .i), (2, .b)] v11 v14 fun v15 =>
 kif v15
 (ksl 3 a0 (some v5) none none fun v16 =>
 jn 1 (fun j17 =>
 lp 2 fuel (fun r18 v19 v20 p21 =>
 kln v16 fun v22 =>
 klt v20 v22 fun v23 =>
 kif v23
 (kia 3 v16 v20 fun v24 =>
 kla (prt [] p21) 3 v24 fun v25 =>
 ksb v20 q14 fun v26 =>
 kia 3 v16 v26 fun v27 =>
 kla (prt [] p21) 3 v27 fun v28 =>
 kea true [(0, .i), (1, .i), (2, .b)] v25 v28 fun v29 =>
 jn 1 (fun j30 => kif v29
 (kia 3 v16 v20 fun v31 =>
 kla p21 3 v31 fun v32 =>
 kia 3 a0 v19 fun v33 =>
 kst p21 3 v33 v32 fun p34 =>
 kad v19 q14 fun v35 =>
 j30 v35 p34)
 (j30 v19 p21)) fun v36 p37 =>
 kad v20 q14 fun v38 =>
 r18 v36 v38 p37)
 (j17 v19 p21)) v5 q14 p6) fun v39 p40 =>
 ksl 3 a0 (some v39) none none fun v41 =>
 ksw mth p40 (.clear q87 (.c v41)) fun v42 p43 =>
 ksl 3 a0 none (some v39) none fun v44 =>
 k [v44] p43)
 (j9 v5 p6)) fun v45 p46 =>
 kad v45 q14 fun v47 =>
 r4 v47 p46)
 (j3 p6)) q14 p) fun p48 =>
 k [a0] p48)
theorem o170 : FO EN 170 f170 := fe (np := 1) (T := t170) tnil [none, some [], some [3], none, some [3], none, some [3], some [3, 5], none, none, some [3]] (by kernel_rfl) fun p s k => by kernel_rfl
/- 169 slices.Clip[[]countersign/graphs.Edge,countersign/graphs.Edge] -/
def t169 : List Ce := []
def f169 : FT := fun p s k => hd s fun a0 s0 =>
 nl s0 <|
 kln a0 fun v1 =>
 kln a0 fun v2 =>
 ksl 3 a0 none (some v1) (some v2) fun v3 =>
 k [v3] p
theorem o169 : FO EN 169 f169 := fe (np := 1) (T := t169) tnil [] (by kernel_rfl) fun p s k => by kernel_rfl
/- 138 countersign/graphs.ordered -/
def t138 : List Ce := [⟨168, ci f168⟩, ⟨170, cn f170⟩, ⟨169, ci f169⟩]
def f138 : FT := fun p s k => hd s fun a0 s0 =>
 nl s0 <|
 ci f168 p [a0, q88] fun v1 p2 =>
 cn f170 p2 [a0] fun v3 p4 =>
 ci f169 p4 [v3] fun v5 p6 =>
 k [v5] p6
theorem o138 : FO EN 138 f138 := fe (np := 1) (T := t138) (tcons (ci_ok o168) (tcons (cn_ok o170) (tcons (ci_ok o169) tnil))) [] (by kernel_rfl) fun p s k => by kernel_rfl
/- 137 countersign/graphs.Of$1 -/
def t137 : List Ce := []
def f137 : FT := fun p s k => hd s fun a0 s0 =>
 hd s0 fun a1 s1 =>
 hd s1 fun a2 s2 =>
 hd s2 fun a3 s3 =>
 hd s3 fun a4 s4 =>
 hd s4 fun a5 s5 =>
 hd s5 fun a6 s6 =>
 nl s6 <|
 kfa 1 a2 fun v7 =>
 kld (prt [] p) v7 fun v8 =>
 kld (prt [] p) a3 fun v9 =>
 kfa 0 a4 fun v10 =>
 kld (prt [] p) v10 fun v11 =>
 kfa 0 a5 fun v12 =>
 kld (prt [] p) v12 fun v13 =>
 kbd q38 [(0, 1, v11), (1, 1, v13)] fun v14 =>
 ksw mth (prt [] p) (.lookup ⟨true, [(0, .s), (1, .s)]⟩ q0 false (.c v9) (.c v14)) fun v15 p16 =>
 kld (prt [] p) a3 fun v17 =>
 kbd q38 [(0, 1, a0), (1, 1, a1)] fun v18 =>
 ksw mth (prt [] p) (.lookup ⟨true, [(0, .s), (1, .s)]⟩ q0 false (.c v17) (.c v18)) fun v19 p20 =>
 kfa 4 a6 fun v21 =>
 kld (prt [] p) v21 fun v22 =>
 kbd q87 [(0, 1, v15), (1, 1, v19), (2, 1, v22)] fun v23 =>
 kbs p 1 q87 [(0, 3, v23)] fun v24 p25 =>
 kap p25 3 24 v8 v24 fun v26 p27 =>
 kfa 1 a2 fun v28 =>
 kst p27 1 v28 v26 fun p29 =>
 k [] p29
theorem o137 : FO EN 137 f137 := fe (np := 7) (T := t137) tnil [] (by kernel_rfl) fun p s k => by kernel_rfl
/- 101 countersign/graphs.Of -/
def t101 : List Ce := [⟨109, cc f109⟩, ⟨108, cc f108⟩, ⟨58, cc f58⟩, ⟨138, ci f138⟩, ⟨137, ci f137⟩]
def f101 : FT := fun p s k => hd s fun a0 s0 =>
 nl s0 <|
 kbx p 1 a0 fun v1 p2 =>
 kal p2 q89 fun v3 p4 =>
 kla p4 1 v1 fun v5 =>
 cc f109 p4 [v5] fun v6 p7 =>
 keq true .i v6 q0 fun v8 =>
 kif v8
 (kbd q89 [] fun v9 =>
 kst p7 2 v3 v9 fun p10 =>
 kra p10 2 v3 fun v11 =>
 k [v11, v6] p10)
 (ksw mth p7 (.mkmap) fun v12 p13 =>
 kal p13 q90 fun v14 p15 =>
 kst p15 1 v14 v12 fun p16 =>
 kfa 0 v1 fun v17 =>
 kld p16 v17 fun v18 =>
 kln v18 fun v19 =>
 jn 0 (fun j20 =>
 lp 1 fuel (fun r21 v22 p23 =>
 klt v22 v19 fun v24 =>
 kif v24
 (jn 0 (fun j25 =>
 kia 2 v18 v22 fun v26 =>
 kla p23 2 v26 fun v27 =>
 kal p23 q77 fun v28 p29 =>
 kst p29 2 v28 v27 fun p30 =>
 kfa 1 v28 fun v31 =>
 kld p30 v31 fun v32 =>
 kln v32 fun v33 =>
 jn 0 (fun j34 =>
 lp 1 fuel (fun r35 v36 p37 =>
 klt v36 v33 fun v38 =>
 kif v38
 (kia 6 v32 v36 fun v39 =>
 kla p37 6 v39 fun v40 =>
 kal p37 q78 fun v41 p42 =>
 kst p42 6 v41 v40 fun p43 =>
 kld p43 v14 fun v44 =>
 kfa 0 v28 fun v45 =>
 kld p43 v45 fun v46 =>
 kfa 0 v41 fun v47 =>
 kld p43 v47 fun v48 =>
 kbd q38 [(0, 1, v46), (1, 1, v48)] fun v49 =>
 kld p43 v14 fun v50 =>
 ksw mth p43 (.lenMap (.c v50)) fun v51 p52 =>
 ksw mth p52 (.mapUpdate ⟨true, [(0, .s), (1, .s)]⟩ (.c v44) (.c v49) (.c v51)) fun v53 p54 =>
 kad v36 q14 fun v55 =>
 r35 v55 p54)
 (j34 p37)) q0 p30) fun p56 =>
 j25 p56) fun p57 =>
 kad v22 q14 fun v58 =>
 r21 v58 p57)
 (j20 p23)) q0 p16) fun p59 =>
 kld p59 v14 fun v60 =>
 ksw mth p59 (.lenMap (.c v60)) fun v61 p62 =>
 kbd q89 [(0, 1, v61)] fun v63 =>
 kal p62 q89 fun v64 p65 =>
 kst p65 2 v64 v63 fun p66 =>
 kfa 0 v1 fun v67 =>
 kld p66 v67 fun v68 =>
 kln v68 fun v69 =>
 jn 0 (fun j70 =>
 lp 1 fuel (fun r71 v72 p73 =>
 klt v72 v69 fun v74 =>
 kif v74
 (jn 0 (fun j75 =>
 kia 2 v68 v72 fun v76 =>
 kla p73 2 v76 fun v77 =>
 kal p73 q77 fun v78 p79 =>
 kst p79 2 v78 v77 fun p80 =>
 kfa 1 v78 fun v81 =>
 kld p80 v81 fun v82 =>
 kln v82 fun v83 =>
 jn 0 (fun j84 =>
 lp 1 fuel (fun r85 v86 p87 =>
 klt v86 v83 fun v88 =>
 kif v88
 (jn 0 (fun j89 =>
 kia 6 v82 v86 fun v90 =>
 kla p87 6 v90 fun v91 =>
 kal p87 q78 fun v92 p93 =>
 kst p93 6 v92 v91 fun p94 =>
 kfa 2 v92 fun v95 =>
 kla p94 4 v95 fun v96 =>
 cc f108 p94 [v96] fun v97 p98 =>
 kex v97 0 fun v99 =>
 kex v97 1 fun v100 =>
 kln v99 fun v101 =>
 jn 0 (fun j102 =>
 lp 1 fuel (fun r103 v104 p105 =>
 klt v104 v101 fun v106 =>
 kif v106
 (jn 0 (fun j107 =>
 kia 5 v99 v104 fun v108 =>
 kla p105 5 v108 fun v109 =>
 kal p105 q74 fun v110 p111 =>
 kst p111 5 v110 v109 fun p112 =>
 kfa 0 v110 fun v113 =>
 kld p112 v113 fun v114 =>
 jn 0 (fun j115 =>
 keq false .i v114 q52 fun v116 =>
 jn 0 (fun j117 => kif v116
 (kfa 1 v92 fun v118 =>
 kld p112 v118 fun v119 =>
 kln v119 fun v120 =>
 jn 0 (fun j121 =>
 lp 1 fuel (fun r122 v123 p124 =>
 klt v123 v120 fun v125 =>
 kif v125
 (kia 2 v119 v123 fun v126 =>
 kla p124 2 v126 fun v127 =>
 kal p124 q38 fun v128 p129 =>
 kst p129 2 v128 v127 fun p130 =>
 kfa 1 v128 fun v131 =>
 kld p130 v131 fun v132 =>
 keq true .s v132 q39 fun v133 =>
 jn 0 (fun j134 => kif v133
 (kfa 0 v128 fun v135 =>
 kld p130 v135 fun v136 =>
 kfa 1 v128 fun v137 =>
 kld p130 v137 fun v138 =>
 kcv t101 p130 (.func (.func 137) [] [v64, v14, v78, v92, v110]) [v136, v138] fun v139 p140 =>
 j134 p140)
 (j134 p130)) fun p141 =>
 kad v123 q14 fun v142 =>
 r122 v142 p141)
 (j121 p124)) q0 p112) fun p143 =>
 j117 p143)
 (keq false .i v114 q51 fun v144 =>
 jn 0 (fun j145 => kif v144
 (kfa 0 v78 fun v146 =>
 kld p112 v146 fun v147 =>
 kfa 1 v110 fun v148 =>
 kld p112 v148 fun v149 =>
 kcv t101 p112 (.func (.func 137) [] [v64, v14, v78, v92, v110]) [v147, v149] fun v150 p151 =>
 j145 p151)
 (keq false .i v114 q53 fun v152 =>
 jn 0 (fun j153 => kif v152
 (kla p112 1 v1 fun v154 =>
 kfa 0 v78 fun v155 =>
 kld p112 v155 fun v156 =>
 kfa 1 v110 fun v157 =>
 kld p112 v157 fun v158 =>
 kfa 2 v110 fun v159 =>
 kld p112 v159 fun v160 =>
 cc f58 p112 [v154, v156, v158, v160] fun v161 p162 =>
 kex v161 0 fun v163 =>
 kex v161 1 fun v164 =>
 kln v163 fun v165 =>
 jn 0 (fun j166 =>
 lp 1 fuel (fun r167 v168 p169 =>
 klt v168 v165 fun v170 =>
 kif v170
 (kia 1 v163 v168 fun v171 =>
 kld p169 v171 fun v172 =>
 kfa 2 v110 fun v173 =>
 kld p169 v173 fun v174 =>
 kcv t101 p169 (.func (.func 137) [] [v64, v14, v78, v92, v110]) [v172, v174] fun v175 p176 =>
 kad v168 q14 fun v177 =>
 r167 v177 p176)
 (j166 p169)) q0 p162) fun p178 =>
 j153 p178)
 (j153 p112)) fun p179 =>
 j145 p179)) fun p180 =>
 j117 p180)) fun p181 =>
 j115 p181) fun p182 =>
 j107 p182) fun p183 =>
 kad v104 q14 fun v184 =>
 r103 v184 p183)
 (j102 p105)) q0 p98) fun p185 =>
 j89 p185) fun p186 =>
 kad v86 q14 fun v187 =>
 r85 v187 p186)
 (j84 p87)) q0 p80) fun p188 =>
 j75 p188) fun p189 =>
 kad v72 q14 fun v190 =>
 r71 v190 p189)
 (j70 p73)) q0 p66) fun p191 =>
 kfa 1 v64 fun v192 =>
 kld p191 v192 fun v193 =>
 ci f138 p191 [v193] fun v194 p195 =>
 kfa 1 v64 fun v196 =>
 kst p195 1 v196 v194 fun p197 =>
 kla p197 2 v64 fun v198 =>
 kst p197 2 v3 v198 fun p199 =>
 kra p199 2 v3 fun v200 =>
 k [v200, q0] p199)
theorem o101 : FO EN 101 f101 := fe (np := 1) (T := t101) (tcons (cc_ok o109) (tcons (cc_ok o108) (tcons (cc_ok o58) (tcons (ci_ok o138) (tcons (ci_ok o137) tnil))))) [none, some [], some [36], none, some [], some [], some [43], none, none, some [], some [63], none, some [], some [], some [70], none, some [], some [], some [82], none, some [], some [], some [], some [], some [94], none, none, some [], some [], some [], some [], some [131], none, none] (by kernel_rfl) fun p s k => by kernel_rfl
/- 171 countersign/graphs.Check -/
def t171 : List Ce := [⟨167, cn f167⟩]
def f171 : FT := fun p s k => hd s fun a0 s0 =>
 nl s0 <|
 kbx p 2 a0 fun v1 p2 =>
 kfa 0 v1 fun v3 =>
 kld p2 v3 fun v4 =>
 klt v4 q0 fun v5 =>
 jn 3 (fun j6 => gdK v5 false (kfa 0 v1 fun v7 =>
 kld p2 v7 fun v8 =>
 kgt v8 q91 fun v9 =>
 j6 v7 v8 v9 p2) (j6 .undef .undef .undef p2)) fun v10 v11 v12 p13 =>
 kpk v5 q29 v12 fun v14 =>
 kif v14
 (k [q25] p13)
 (kfa 1 v1 fun v15 =>
 kld p13 v15 fun v16 =>
 kln v16 fun v17 =>
 jn 0 (fun j18 =>
 lp 1 fuel (fun r19 v20 p21 =>
 klt v20 v17 fun v22 =>
 kif v22
 (kia 3 v16 v20 fun v23 =>
 kla p21 3 v23 fun v24 =>
 kal p21 q87 fun v25 p26 =>
 kst p26 3 v25 v24 fun p27 =>
 kfa 0 v25 fun v28 =>
 kld p27 v28 fun v29 =>
 kfa 1 v25 fun v30 =>
 kld p27 v30 fun v31 =>
 ksw mth p27 (.minmax false [(.c v29), (.c v31)]) fun v32 p33 =>
 klt v32 q0 fun v34 =>
 jn 8 (fun j35 => gdK v34 false (kfa 0 v25 fun v36 =>
 kld p33 v36 fun v37 =>
 kfa 1 v25 fun v38 =>
 kld p33 v38 fun v39 =>
 ksw mth p33 (.minmax true [(.c v37), (.c v39)]) fun v40 p41 =>
 kfa 0 v1 fun v42 =>
 kld p41 v42 fun v43 =>
 kge v40 v43 fun v44 =>
 j35 v36 v37 v38 v39 v40 v42 v43 v44 p41) (j35 .undef .undef .undef .undef .undef .undef .undef .undef p33)) fun v45 v46 v47 v48 v49 v50 v51 v52 p53 =>
 kpk v34 q29 v52 fun v54 =>
 kif v54
 (k [q23] p53)
 (kgt v20 q0 fun v55 =>
 jn 9 (fun j56 => gdK v55 true (kfa 1 v1 fun v57 =>
 kld (prt [] p53) v57 fun v58 =>
 ksb v20 q14 fun v59 =>
 kia 3 v58 v59 fun v60 =>
 kla (prt [] p53) 3 v60 fun v61 =>
 kla (prt [] p53) 3 v25 fun v62 =>
 cn f167 p53 [v61, v62] fun v63 p64 =>
 kge v63 q0 fun v65 =>
 j56 v57 v58 v20 v59 v60 v61 v62 v63 v65 p64) (j56 .undef .undef .undef .undef .undef .undef .undef .undef .undef p53)) fun v66 v67 v68 v69 v70 v71 v72 v73 v74 p75 =>
 kpk v55 v74 q13 fun v76 =>
 kif v76
 (k [q92] p75)
 (kad v20 q14 fun v77 =>
 r19 v77 p75)))
 (j18 p21)) q0 p13) fun p78 =>
 k [q0] p78)
theorem o171 : FO EN 171 f171 := fe (np := 1) (T := t171) (tcons (cn_ok o167) tnil) [none, some [], some [16], none, none, none, none, none] (by kernel_rfl) fun p s k => by kernel_rfl
/- 229 (*countersign/comps.tarjan).enter -/
def t229 : List Ce := []
def f229 : FT := fun p s k => hd s fun a0 s0 =>
 hd s0 fun a1 s1 =>
 nl s1 <|
 knc a0 fun v2 =>
 kfa 1025 v2 fun v3 =>
 kld p v3 fun v4 =>
 kad v4 q14 fun v5 =>
 knc a0 fun v6 =>
 kfa 1025 v6 fun v7 =>
 kst p 1 v7 v5 fun p8 =>
 knc a0 fun v9 =>
 kfa 1025 v9 fun v10 =>
 kld (prt [] p8) v10 fun v11 =>
 knc a0 fun v12 =>
 kfa 1025 v12 fun v13 =>
 kld (prt [] p8) v13 fun v14 =>
 knc a0 fun v15 =>
 kfa 256 v15 fun v16 =>
 kib 256 1 v16 a1 fun v17 =>
 kst p8 1 v17 v11 fun p18 =>
 knc a0 fun v19 =>
 kfa 512 v19 fun v20 =>
 kib 256 1 v20 a1 fun v21 =>
 kst p18 1 v21 v14 fun p22 =>
 knc a0 fun v23 =>
 kfa 768 v23 fun v24 =>
 kib 256 1 v24 a1 fun v25 =>
 kst p22 1 v25 q29 fun p26 =>
 knc a0 fun v27 =>
 kfa 1024 v27 fun v28 =>
 kld p26 v28 fun v29 =>
 kbs p26 1 q24 [(0, 1, a1)] fun v30 p31 =>
 kap p31 1 8 v29 v30 fun v32 p33 =>
 knc a0 fun v34 =>
 kfa 1024 v34 fun v35 =>
 kst p33 1 v35 v32 fun p36 =>
 k [] p36
theorem o229 : FO EN 229 f229 := fe (np := 2) (T := t229) tnil [] (by kernel_rfl) fun p s k => by kernel_rfl
/- 256 slices.Index[[]int,int] -/
def t256 : List Ce := []
def f256 : FT := fun p s k => hd s fun a0 s0 =>
 hd s0 fun a1 s1 =>
 nl s1 <|
 kln a0 fun v2 =>
 jn 0 (fun j3 =>
 lp 1 fuel (fun r4 v5 p6 =>
 klt v5 v2 fun v7 =>
 kif v7
 (kia 1 a0 v5 fun v8 =>
 kld p6 v8 fun v9 =>
 keq false .i a1 v9 fun v10 =>
 kif v10
 (k [v5] p6)
 (kad v5 q14 fun v11 =>
 r4 v11 p6))
 (j3 p6)) q0 p) fun p12 =>
 k [q42] p12
theorem o256 : FO EN 256 f256 := fe (np := 2) (T := t256) tnil [some [], some [8], none, none, none] (by kernel_rfl) fun p s k => by kernel_rfl
/- 258 slices.Values[[]int,int] -/
def t258 : List Ce := []
def f258 : FT := fun p s k => hd s fun a0 s0 =>
 nl s0 <|
 kbx p 1 a0 fun v1 p2 =>
 k [(.func (.func 271) [] [v1])] p2
theorem o258 : FO EN 258 f258 := fe (np := 1) (T := t258) tnil [] (by kernel_rfl) fun p s k => by kernel_rfl
/- 1275002 round -/
def tr275002 : List Ce := []
def fr275002 : FT := fun p s k => hd s fun pj s => ptrK pj (fun j _ => hd s fun tv fr => tupK tv fun vals => ifB (Nat.beq (lenF fr) 13) (ifB (Nat.ble p.floor j) (isR0 p j (
 hdK (drK 2 fr) fun x0 =>
 hd vals fun a1 s0 =>
 nl s0 <|
 isR0 p j (putK p j (some (.rnd (nat_lit 1))) fun p2 =>
 kld p2 x0 fun v3 =>
 kbs p2 1 q24 [(0, 1, a1)] fun v4 p5 =>
 kap p5 1 8 v3 v4 fun v6 p7 =>
 kst p7 1 x0 v6 fun p8 =>
 rndK p8 j fun _ => putK p8 j (some (.rnd (nat_lit 0))) fun p9 => k [.bool true] p9))))) n2
theorem or275002 : FO EN 1275002 fr275002 := re (r := 275002) (N := 13) (L := [2]) (T := tr275002) tnil [] [none] (by kernel_rfl) fun p s k => by kernel_rfl
/- 271 slices.Values[[]int,int]$1 -/
def t271 : List Ce := [⟨1275002, ci fr275002⟩]
def f271 : FT := fun p s k => hd s fun a0 s0 =>
 hd s0 fun a1 s1 =>
 nl s1 <|
 kld p a1 fun v2 =>
 kln v2 fun v3 =>
 jn 0 (fun j4 =>
 lp 1 fuel (fun r5 v6 p7 =>
 klt v6 v3 fun v8 =>
 kif v8
 (kia 1 v2 v6 fun v9 =>
 kld p7 v9 fun v10 =>
 kcv t271 p7 a0 [v10] fun v11 p12 =>
 knt v11 fun v13 =>
 kif v13
 (k [] p12)
 (kad v6 q14 fun v14 =>
 r5 v14 p12))
 (j4 p7)) q0 p) fun p15 =>
 k [] p15
theorem o271 : FO EN 271 f271 := fe (np := 2) (T := t271) (tcons (ci_ok or275002) tnil) [some [], some [7], none, none, none] (by kernel_rfl) fun p s k => by kernel_rfl
/- 275 slices.AppendSeq[[]int,int] -/
def t275 : List Ce := [⟨271, ci f271⟩]
def f275 : FT := fun p s k => hd s fun a0 s0 =>
 hd s0 fun a1 s1 =>
 nl s1 <|
 kbx p 1 a0 fun v2 p3 =>
 krg t275 p3 275002 a1 (V.mk 13 [(2, v2)]) (fun p4 =>
 kld p4 v2 fun v6 =>
 k [v6] p4) (fun p5 =>
 k [.nils] p5) []
theorem o275 : FO EN 275 f275 := fe (np := 2) (T := t275) (tcons (ci_ok o271) tnil) [none, some [2], some []] (by kernel_rfl) fun p s k => by kernel_rfl
/- 270 slices.Collect[int] -/
def t270 : List Ce := [⟨275, cn f275⟩]
def f270 : FT := fun p s k => hd s fun a0 s0 =>
 nl s0 <|
 cn f275 p [.nils, a0] fun v1 p2 =>
 k [v1] p2
theorem o270 : FO EN 270 f270 := fe (np := 1) (T := t270) (tcons (cn_ok o275) tnil) [] (by kernel_rfl) fun p s k => by kernel_rfl
/- 237 cmp.Less[int] -/
def t237 : List Ce := [⟨157, cc f157⟩]
def f237 : FT := fun p s k => hd s fun a0 s0 =>
 hd s0 fun a1 s1 =>
 nl s1 <|
 cc f157 p [a0] fun v2 p3 =>
 jn 3 (fun j4 => gdK v2 true (cc f157 p3 [a1] fun v5 p6 =>
 knt v5 fun v7 =>
 j4 a1 v5 v7 p6) (j4 .undef .undef .undef p3)) fun v8 v9 v10 p11 =>
 kpk v2 v10 q13 fun v12 =>
 jn 3 (fun j13 => gdK v12 false (klt a0 a1 fun v14 =>
 j13 a0 a1 v14 p11) (j13 .undef .undef .undef p11)) fun v15 v16 v17 p18 =>
 kpk v12 q29 v17 fun v19 =>
 k [v19] p18
theorem o237 : FO EN 237 f237 := fe (np := 2) (T := t237) (tcons (cc_ok o157) tnil) [] (by kernel_rfl) fun p s k => by kernel_rfl
/- 231 slices.insertionSortOrdered[int] -/
def t231 : List Ce := [⟨237, cc f237⟩]
def f231 : FT := fun p s k => hd s fun a0 s0 =>
 hd s0 fun a1 s1 =>
 hd s1 fun a2 s2 =>
 nl s2 <|
 kad a1 q14 fun v3 =>
 jn 0 (fun j4 =>
 lp 1 fuel (fun r5 v6 p7 =>
 klt v6 a2 fun v8 =>
 kif v8
 (jn 0 (fun j9 =>
 jn 0 (fun j10 =>
 lp 1 fuel (fun r11 v12 p13 =>
 kgt v12 a1 fun v14 =>
 jn 10 (fun j15 => gdK v14 true (kia 1 a0 v12 fun v16 =>
 kld (prt [] p13) v16 fun v17 =>
 ksb v12 q14 fun v18 =>
 kia 1 a0 v18 fun v19 =>
 kld (prt [] p13) v19 fun v20 =>
 cc f237 p13 [v17, v20] fun v21 p22 =>
 j15 a0 v12 v16 v17 a0 v12 v18 v19 v20 v21 p22) (j15 .undef .undef .undef .undef .undef .undef .undef .undef .undef .undef p13)) fun v23 v24 v25 v26 v27 v28 v29 v30 v31 v32 p33 =>
 kpk v14 v32 q13 fun v34 =>
 kif v34
 (ksb v12 q14 fun v35 =>
 ksb v12 q14 fun v36 =>
 kia 1 a0 v36 fun v37 =>
 kld (prt [] p33) v37 fun v38 =>
 kia 1 a0 v12 fun v39 =>
 kld (prt [] p33) v39 fun v40 =>
 kia 1 a0 v12 fun v41 =>
 kst p33 1 v41 v38 fun p42 =>
 kia 1 a0 v35 fun v43 =>
 kst p42 1 v43 v40 fun p44 =>
 ksb v12 q14 fun v45 =>
 r11 v45 p44)
 (j10 p33)) v6 p7) fun p46 =>
 j9 p46) fun p47 =>
 kad v6 q14 fun v48 =>
 r5 v48 p47)
 (j4 p7)) v3 p) fun p49 =>
 k [] p49
theorem o231 : FO EN 231 f231 := fe (np := 3) (T := t231) (tcons (cc_ok o237) tnil) [some [], some [6], none, some [], some [], some [7], none, none] (by kernel_rfl) fun p s k => by kernel_rfl
/- 259 slices.siftDownOrdered[int] -/
def t259 : List Ce := [⟨237, cc f237⟩]
def f259 : FT := fun p s k => hd s fun a0 s0 =>
 hd s0 fun a1 s1 =>
 hd s1 fun a2 s2 =>
 hd s2 fun a3 s3 =>
 nl s3 <|
 jn 0 (fun j4 =>
 lp 1 fuel (fun r5 v6 p7 =>
 kar .mul q16 v6 fun v8 =>
 kad v8 q14 fun v9 =>
 kge v9 a2 fun v10 =>
 kif v10
 (j4 p7)
 (kad v9 q14 fun v11 =>
 klt v11 a2 fun v12 =>
 jn 14 (fun j13 => gdK v12 true (kad a3 v9 fun v14 =>
 kia 1 a0 v14 fun v15 =>
 kld (prt [] p7) v15 fun v16 =>
 kad a3 v9 fun v17 =>
 kad v17 q14 fun v18 =>
 kia 1 a0 v18 fun v19 =>
 kld (prt [] p7) v19 fun v20 =>
 cc f237 p7 [v16, v20] fun v21 p22 =>
 j13 a0 a3 v9 v14 v15 v16 a0 a3 v9 v17 v18 v19 v20 v21 p22) (j13 .undef .undef .undef .undef .undef .undef .undef .undef .undef .undef .undef .undef .undef .undef p7)) fun v23 v24 v25 v26 v27 v28 v29 v30 v31 v32 v33 v34 v35 v36 p37 =>
 kpk v12 v36 q13 fun v38 =>
 jn 1 (fun j39 => kif v38
 (kad v9 q14 fun v40 =>
 j39 v40 p37)
 (j39 v9 p37)) fun v41 p42 =>
 kad a3 v6 fun v43 =>
 kia 1 a0 v43 fun v44 =>
 kld (prt [] p42) v44 fun v45 =>
 kad a3 v41 fun v46 =>
 kia 1 a0 v46 fun v47 =>
 kld (prt [] p42) v47 fun v48 =>
 cc f237 p42 [v45, v48] fun v49 p50 =>
 knt v49 fun v51 =>
 kif v51
 (k [] p50)
 (kad a3 v6 fun v52 =>
 kad a3 v41 fun v53 =>
 kad a3 v41 fun v54 =>
 kia 1 a0 v54 fun v55 =>
 kld (prt [] p50) v55 fun v56 =>
 kad a3 v6 fun v57 =>
 kia 1 a0 v57 fun v58 =>
 kld (prt [] p50) v58 fun v59 =>
 kia 1 a0 v52 fun v60 =>
 kst p50 1 v60 v56 fun p61 =>
 kia 1 a0 v53 fun v62 =>
 kst p61 1 v62 v59 fun p63 =>
 r5 v41 p63))) a1 p) fun p64 =>
 k [] p64
theorem o259 : FO EN 259 f259 := fe (np := 4) (T := t259) (tcons (cc_ok o237) tnil) [some [], some [8], none, none, some [9], none] (by kernel_rfl) fun p s k => by kernel_rfl
/- 232 slices.heapSortOrdered[int] -/
def t232 : List Ce := [⟨259, cc f259⟩]
def f232 : FT := fun p s k => hd s fun a0 s0 =>
 hd s0 fun a1 s1 =>
 hd s1 fun a2 s2 =>
 nl s2 <|
 ksb a2 a1 fun v3 =>
 ksb v3 q14 fun v4 =>
 kar .quo v4 q16 fun v5 =>
 jn 0 (fun j6 =>
 lp 1 fuel (fun r7 v8 p9 =>
 kge v8 q0 fun v10 =>
 kif v10
 (cc f259 p9 [a0, v8, v3, a1] fun v11 p12 =>
 ksb v8 q14 fun v13 =>
 r7 v13 p12)
 (j6 p9)) v5 p) fun p14 =>
 ksb v3 q14 fun v15 =>
 jn 0 (fun j16 =>
 lp 1 fuel (fun r17 v18 p19 =>
 kge v18 q0 fun v20 =>
 kif v20
 (kad a1 v18 fun v21 =>
 kad a1 v18 fun v22 =>
 kia 1 a0 v22 fun v23 =>
 kld (prt [] p19) v23 fun v24 =>
 kia 1 a0 a1 fun v25 =>
 kld (prt [] p19) v25 fun v26 =>
 kia 1 a0 a1 fun v27 =>
 kst p19 1 v27 v24 fun p28 =>
 kia 1 a0 v21 fun v29 =>
 kst p28 1 v29 v26 fun p30 =>
 cc f259 p30 [a0, q0, v18, a1] fun v31 p32 =>
 ksb v18 q14 fun v33 =>
 r17 v33 p32)
 (j16 p19)) v15 p14) fun p34 =>
 k [] p34
theorem o232 : FO EN 232 f232 := fe (np := 3) (T := t232) (tcons (cc_ok o259) tnil) [some [], some [9], none, none, some [], some [10], none, none] (by kernel_rfl) fun p s k => by kernel_rfl
/- 233 slices.breakPatternsOrdered[int] -/
def t233 : List Ce := [⟨128, cc f128⟩, ⟨129, cc f129⟩]
def f233 : FT := fun p s k => hd s fun a0 s0 =>
 hd s0 fun a1 s1 =>
 hd s1 fun a2 s2 =>
 nl s2 <|
 ksb a2 a1 fun v3 =>
 kge v3 q6 fun v4 =>
 jn 0 (fun j5 => kif v4
 (kci .u64 v3 fun v6 =>
 kal p q22 fun v7 p8 =>
 kst p8 1 v7 v6 fun p9 =>
 cc f128 p9 [v3] fun v10 p11 =>
 kar .quo v3 q23 fun v12 =>
 kar .mul v12 q16 fun v13 =>
 kad a1 v13 fun v14 =>
 ksb v14 q14 fun v15 =>
 jn 0 (fun j16 =>
 lp 1 fuel (fun r17 v18 p19 =>
 kar .quo v3 q23 fun v20 =>
 kar .mul v20 q16 fun v21 =>
 kad a1 v21 fun v22 =>
 kad v22 q14 fun v23 =>
 kle v18 v23 fun v24 =>
 kif v24
 (cc f129 p19 [v7] fun v25 p26 =>
 ksb v10 q18 fun v27 =>
 kar .and v25 v27 fun v28 =>
 kci .i64 v28 fun v29 =>
 kge v29 v3 fun v30 =>
 jn 1 (fun j31 => kif v30
 (ksb v29 v3 fun v32 =>
 j31 v32 p26)
 (j31 v29 p26)) fun v33 p34 =>
 kad a1 v33 fun v35 =>
 kad a1 v33 fun v36 =>
 kia 1 a0 v36 fun v37 =>
 kld (prt [] p34) v37 fun v38 =>
 kia 1 a0 v18 fun v39 =>
 kld (prt [] p34) v39 fun v40 =>
 kia 1 a0 v18 fun v41 =>
 kst p34 1 v41 v38 fun p42 =>
 kia 1 a0 v35 fun v43 =>
 kst p42 1 v43 v40 fun p44 =>
 kad v18 q14 fun v45 =>
 r17 v45 p44)
 (j16 p19)) v15 p11) fun p46 =>
 j5 p46)
 (j5 p)) fun p47 =>
 k [] p47
theorem o233 : FO EN 233 f233 := fe (np := 3) (T := t233) (tcons (cc_ok o128) (tcons (cc_ok o129) tnil)) [some [], some [], some [9], none, none, some [10]] (by kernel_rfl) fun p s k => by kernel_rfl
/- 272 slices.order2Ordered[int] -/
def t272 : List Ce := [⟨237, cc f237⟩]
def f272 : FT := fun p s k => hd s fun a0 s0 =>
 hd s0 fun a1 s1 =>
 hd s1 fun a2 s2 =>
 hd s2 fun a3 s3 =>
 nl s3 <|
 kia 1 a0 a2 fun v4 =>
 kld (prt [] p) v4 fun v5 =>
 kia 1 a0 a1 fun v6 =>
 kld (prt [] p) v6 fun v7 =>
 cc f237 p [v5, v7] fun v8 p9 =>
 kif v8
 (knc a3 fun v10 =>
 kld p9 v10 fun v11 =>
 kad v11 q14 fun v12 =>
 knc a3 fun v13 =>
 kst p9 1 v13 v12 fun p14 =>
 k [a2, a1] p14)
 (k [a1, a2] p9)
theorem o272 : FO EN 272 f272 := fe (np := 4) (T := t272) (tcons (cc_ok o237) tnil) [none] (by kernel_rfl) fun p s k => by kernel_rfl
/- 261 slices.medianOrdered[int] -/
def t261 : List Ce := [⟨272, cc f272⟩]
def f261 : FT := fun p s k => hd s fun a0 s0 =>
 hd s0 fun a1 s1 =>
 hd s1 fun a2 s2 =>
 hd s2 fun a3 s3 =>
 hd s3 fun a4 s4 =>
 nl s4 <|
 cc f272 p [a0, a1, a2, a4] fun v5 p6 =>
 kex v5 0 fun v7 =>
 kex v5 1 fun v8 =>
 cc f272 p6 [a0, v8, a3, a4] fun v9 p10 =>
 kex v9 0 fun v11 =>
 kex v9 1 fun v12 =>
 cc f272 p10 [a0, v7, v11, a4] fun v13 p14 =>
 kex v13 0 fun v15 =>
 kex v13 1 fun v16 =>
 k [v16] p14
theorem o261 : FO EN 261 f261 := fe (np := 5) (T := t261) (tcons (cc_ok o272) tnil) [] (by kernel_rfl) fun p s k => by kernel_rfl
/- 260 slices.medianAdjacentOrdered[int] -/
def t260 : List Ce := [⟨261, cc f261⟩]
def f260 : FT := fun p s k => hd s fun a0 s0 =>
 hd s0 fun a1 s1 =>
 hd s1 fun a2 s2 =>
 nl s2 <|
 ksb a1 q14 fun v3 =>
 kad a1 q14 fun v4 =>
 cc f261 p [a0, v3, a1, v4, a2] fun v5 p6 =>
 k [v5] p6
theorem o260 : FO EN 260 f260 := fe (np := 3) (T := t260) (tcons (cc_ok o261) tnil) [] (by kernel_rfl) fun p s k => by kernel_rfl
/- 234 slices.choosePivotOrdered[int] -/
def t234 : List Ce := [⟨260, cc f260⟩, ⟨261, cc f261⟩]
def f234 : FT := fun p s k => hd s fun a0 s0 =>
 hd s0 fun a1 s1 =>
 hd s1 fun a2 s2 =>
 nl s2 <|
 ksb a2 a1 fun v3 =>
 kal p q24 fun v4 p5 =>
 kar .quo v3 q23 fun v6 =>
 kar .mul v6 q14 fun v7 =>
 kad a1 v7 fun v8 =>
 kar .quo v3 q23 fun v9 =>
 kar .mul v9 q16 fun v10 =>
 kad a1 v10 fun v11 =>
 kar .quo v3 q23 fun v12 =>
 kar .mul v12 q25 fun v13 =>
 kad a1 v13 fun v14 =>
 kge v3 q6 fun v15 =>
 jn 1 (fun j16 => kif v15
 (kge v3 q26 fun v17 =>
 jn 3 (fun j18 => kif v17
 (cc f260 p5 [a0, v8, v4] fun v19 p20 =>
 cc f260 p20 [a0, v11, v4] fun v21 p22 =>
 cc f260 p22 [a0, v14, v4] fun v23 p24 =>
 j18 v19 v21 v23 p24)
 (j18 v8 v11 v14 p5)) fun v25 v26 v27 p28 =>
 cc f261 p28 [a0, v25, v26, v27, v4] fun v29 p30 =>
 j16 v29 p30)
 (j16 v11 p5)) fun v31 p32 =>
 kld p32 v4 fun v33 =>
 keq false .i v33 q0 fun v34 =>
 kif v34
 (k [v31, q14] p32)
 (keq false .i v33 q27 fun v35 =>
 kif v35
 (k [v31, q16] p32)
 (k [v31, q0] p32))
theorem o234 : FO EN 234 f234 := fe (np := 3) (T := t234) (tcons (cc_ok o260) (tcons (cc_ok o261) tnil)) [some [11], some [10, 11, 12], none, none, none] (by kernel_rfl) fun p s k => by kernel_rfl
/- 235 slices.reverseRangeOrdered[int] -/
def t235 : List Ce := []
def f235 : FT := fun p s k => hd s fun a0 s0 =>
 hd s0 fun a1 s1 =>
 hd s1 fun a2 s2 =>
 nl s2 <|
 ksb a2 q14 fun v3 =>
 jn 0 (fun j4 =>
 lp 2 fuel (fun r5 v6 v7 p8 =>
 klt v6 v7 fun v9 =>
 kif v9
 (kia 1 a0 v7 fun v10 =>
 kld (prt [] p8) v10 fun v11 =>
 kia 1 a0 v6 fun v12 =>
 kld (prt [] p8) v12 fun v13 =>
 kia 1 a0 v6 fun v14 =>
 kst p8 1 v14 v11 fun p15 =>
 kia 1 a0 v7 fun v16 =>
 kst p15 1 v16 v13 fun p17 =>
 kad v6 q14 fun v18 =>
 ksb v7 q14 fun v19 =>
 r5 v18 v19 p17)
 (j4 p8)) a1 v3 p) fun p20 =>
 k [] p20
theorem o235 : FO EN 235 f235 := fe (np := 3) (T := t235) tnil [some [], some [6, 7], none, none] (by kernel_rfl) fun p s k => by kernel_rfl
/- 236 slices.partialInsertionSortOrdered[int] -/
def t236 : List Ce := [⟨237, cc f237⟩]
def f236 : FT := fun p s k => hd s fun a0 s0 =>
 hd s0 fun a1 s1 =>
 hd s1 fun a2 s2 =>
 nl s2 <|
 kad a1 q14 fun v3 =>
 jn 0 (fun j4 =>
 lp 2 fuel (fun r5 v6 v7 p8 =>
 klt v7 q28 fun v9 =>
 kif v9
 (jn 1 (fun j10 =>
 jn 1 (fun j11 =>
 lp 1 fuel (fun r12 v13 p14 =>
 klt v13 a2 fun v15 =>
 jn 11 (fun j16 => gdK v15 true (kia 1 a0 v13 fun v17 =>
 kld (prt [] p14) v17 fun v18 =>
 ksb v13 q14 fun v19 =>
 kia 1 a0 v19 fun v20 =>
 kld (prt [] p14) v20 fun v21 =>
 cc f237 p14 [v18, v21] fun v22 p23 =>
 knt v22 fun v24 =>
 j16 a0 v13 v17 v18 a0 v13 v19 v20 v21 v22 v24 p23) (j16 .undef .undef .undef .undef .undef .undef .undef .undef .undef .undef .undef p14)) fun v25 v26 v27 v28 v29 v30 v31 v32 v33 v34 v35 p36 =>
 kpk v15 v35 q13 fun v37 =>
 kif v37
 (kad v13 q14 fun v38 =>
 r12 v38 p36)
 (j11 v13 p36)) v6 p8) fun v39 p40 =>
 keq false .i v39 a2 fun v41 =>
 kif v41
 (k [q29] p40)
 (ksb a2 a1 fun v42 =>
 klt v42 q26 fun v43 =>
 kif v43
 (k [q13] p40)
 (ksb v39 q14 fun v44 =>
 ksb v39 q14 fun v45 =>
 kia 1 a0 v45 fun v46 =>
 kld (prt [] p40) v46 fun v47 =>
 kia 1 a0 v39 fun v48 =>
 kld (prt [] p40) v48 fun v49 =>
 kia 1 a0 v39 fun v50 =>
 kst p40 1 v50 v47 fun p51 =>
 kia 1 a0 v44 fun v52 =>
 kst p51 1 v52 v49 fun p53 =>
 ksb v39 a1 fun v54 =>
 kge v54 q16 fun v55 =>
 jn 0 (fun j56 => kif v55
 (ksb v39 q14 fun v57 =>
 jn 0 (fun j58 =>
 lp 1 fuel (fun r59 v60 p61 =>
 kge v60 q14 fun v62 =>
 kif v62
 (kia 1 a0 v60 fun v63 =>
 kld (prt [] p61) v63 fun v64 =>
 ksb v60 q14 fun v65 =>
 kia 1 a0 v65 fun v66 =>
 kld (prt [] p61) v66 fun v67 =>
 cc f237 p61 [v64, v67] fun v68 p69 =>
 knt v68 fun v70 =>
 kif v70
 (j58 p69)
 (ksb v60 q14 fun v71 =>
 ksb v60 q14 fun v72 =>
 kia 1 a0 v72 fun v73 =>
 kld (prt [] p69) v73 fun v74 =>
 kia 1 a0 v60 fun v75 =>
 kld (prt [] p69) v75 fun v76 =>
 kia 1 a0 v60 fun v77 =>
 kst p69 1 v77 v74 fun p78 =>
 kia 1 a0 v71 fun v79 =>
 kst p78 1 v79 v76 fun p80 =>
 ksb v60 q14 fun v81 =>
 r59 v81 p80))
 (j58 p61)) v57 p53) fun p82 =>
 j56 p82)
 (j56 p53)) fun p83 =>
 ksb a2 v39 fun v84 =>
 kge v84 q16 fun v85 =>
 jn 0 (fun j86 => kif v85
 (kad v39 q14 fun v87 =>
 jn 0 (fun j88 =>
 lp 1 fuel (fun r89 v90 p91 =>
 klt v90 a2 fun v92 =>
 kif v92
 (kia 1 a0 v90 fun v93 =>
 kld (prt [] p91) v93 fun v94 =>
 ksb v90 q14 fun v95 =>
 kia 1 a0 v95 fun v96 =>
 kld (prt [] p91) v96 fun v97 =>
 cc f237 p91 [v94, v97] fun v98 p99 =>
 knt v98 fun v100 =>
 kif v100
 (j88 p99)
 (ksb v90 q14 fun v101 =>
 ksb v90 q14 fun v102 =>
 kia 1 a0 v102 fun v103 =>
 kld (prt [] p99) v103 fun v104 =>
 kia 1 a0 v90 fun v105 =>
 kld (prt [] p99) v105 fun v106 =>
 kia 1 a0 v90 fun v107 =>
 kst p99 1 v107 v104 fun p108 =>
 kia 1 a0 v101 fun v109 =>
 kst p108 1 v109 v106 fun p110 =>
 kad v90 q14 fun v111 =>
 r89 v111 p110))
 (j88 p91)) v87 p83) fun p112 =>
 j86 p112)
 (j86 p83)) fun p113 =>
 j10 v39 p113))) fun v114 p115 =>
 kad v7 q14 fun v116 =>
 r5 v114 v116 p115)
 (j4 p8)) v3 q0 p) fun p117 =>
 k [q13] p117
theorem o236 : FO EN 236 f236 := fe (np := 3) (T := t236) (tcons (cc_ok o237) tnil) [some [], some [7, 8], none, some [7], some [7], some [7], none, none, none, none, some [], some [], some [9], none, none, none, some [], some [], some [10], none, none, none] (by kernel_rfl) fun p s k => by kernel_rfl
/- 238 slices.partitionEqualOrdered[int] -/
def t238 : List Ce := [⟨237, cc f237⟩]
def f238 : FT := fun p s k => hd s fun a0 s0 =>
 hd s0 fun a1 s1 =>
 hd s1 fun a2 s2 =>
 hd s2 fun a3 s3 =>
 nl s3 <|
 kia 1 a0 a3 fun v4 =>
 kld (prt [] p) v4 fun v5 =>
 kia 1 a0 a1 fun v6 =>
 kld (prt [] p) v6 fun v7 =>
 kia 1 a0 a1 fun v8 =>
 kst p 1 v8 v5 fun p9 =>
 kia 1 a0 a3 fun v10 =>
 kst p9 1 v10 v7 fun p11 =>
 kad a1 q14 fun v12 =>
 ksb a2 q14 fun v13 =>
 jn 1 (fun j14 =>
 lp 2 fuel (fun r15 v16 v17 p18 =>
 jn 2 (fun j19 =>
 jn 1 (fun j20 =>
 lp 1 fuel (fun r21 v22 p23 =>
 kle v22 v17 fun v24 =>
 jn 10 (fun j25 => gdK v24 true (kia 1 a0 a1 fun v26 =>
 kld (prt [] p23) v26 fun v27 =>
 kia 1 a0 v22 fun v28 =>
 kld (prt [] p23) v28 fun v29 =>
 cc f237 p23 [v27, v29] fun v30 p31 =>
 knt v30 fun v32 =>
 j25 a0 a1 v26 v27 a0 v22 v28 v29 v30 v32 p31) (j25 .undef .undef .undef .undef .undef .undef .undef .undef .undef .undef p23)) fun v33 v34 v35 v36 v37 v38 v39 v40 v41 v42 p43 =>
 kpk v24 v42 q13 fun v44 =>
 kif v44
 (kad v22 q14 fun v45 =>
 r21 v45 p43)
 (j20 v22 p43)) v16 p18) fun v46 p47 =>
 jn 1 (fun j48 =>
 lp 1 fuel (fun r49 v50 p51 =>
 kle v46 v50 fun v52 =>
 jn 9 (fun j53 => gdK v52 true (kia 1 a0 a1 fun v54 =>
 kld (prt [] p51) v54 fun v55 =>
 kia 1 a0 v50 fun v56 =>
 kld (prt [] p51) v56 fun v57 =>
 cc f237 p51 [v55, v57] fun v58 p59 =>
 j53 a0 a1 v54 v55 a0 v50 v56 v57 v58 p59) (j53 .undef .undef .undef .undef .undef .undef .undef .undef .undef p51)) fun v60 v61 v62 v63 v64 v65 v66 v67 v68 p69 =>
 kpk v52 v68 q13 fun v70 =>
 kif v70
 (ksb v50 q14 fun v71 =>
 r49 v71 p69)
 (j48 v50 p69)) v17 p47) fun v72 p73 =>
 kgt v46 v72 fun v74 =>
 kif v74
 (j14 v46 p73)
 (kia 1 a0 v72 fun v75 =>
 kld (prt [] p73) v75 fun v76 =>
 kia 1 a0 v46 fun v77 =>
 kld (prt [] p73) v77 fun v78 =>
 kia 1 a0 v46 fun v79 =>
 kst p73 1 v79 v76 fun p80 =>
 kia 1 a0 v72 fun v81 =>
 kst p80 1 v81 v78 fun p82 =>
 kad v46 q14 fun v83 =>
 ksb v72 q14 fun v84 =>
 j19 v83 v84 p82)) fun v85 v86 p87 =>
 r15 v85 v86 p87) v12 v13 p11) fun v88 p89 =>
 k [v88] p89
theorem o238 : FO EN 238 f238 := fe (np := 4) (T := t238) (tcons (cc_ok o237) tnil) [some [9], some [9, 10], some [9, 10], some [9], some [9], none, none, some [10], some [10], none, none, none] (by kernel_rfl) fun p s k => by kernel_rfl
/- 239 slices.partitionOrdered[int] -/
def t239 : List Ce := [⟨237, cc f237⟩]
def f239 : FT := fun p s k => hd s fun a0 s0 =>
 hd s0 fun a1 s1 =>
 hd s1 fun a2 s2 =>
 hd s2 fun a3 s3 =>
 nl s3 <|
 kia 1 a0 a3 fun v4 =>
 kld (prt [] p) v4 fun v5 =>
 kia 1 a0 a1 fun v6 =>
 kld (prt [] p) v6 fun v7 =>
 kia 1 a0 a1 fun v8 =>
 kst p 1 v8 v5 fun p9 =>
 kia 1 a0 a3 fun v10 =>
 kst p9 1 v10 v7 fun p11 =>
 kad a1 q14 fun v12 =>
 ksb a2 q14 fun v13 =>
 jn 1 (fun j14 =>
 lp 1 fuel (fun r15 v16 p17 =>
 kle v16 v13 fun v18 =>
 jn 9 (fun j19 => gdK v18 true (kia 1 a0 v16 fun v20 =>
 kld (prt [] p17) v20 fun v21 =>
 kia 1 a0 a1 fun v22 =>
 kld (prt [] p17) v22 fun v23 =>
 cc f237 p17 [v21, v23] fun v24 p25 =>
 j19 a0 v16 v20 v21 a0 a1 v22 v23 v24 p25) (j19 .undef .undef .undef .undef .undef .undef .undef .undef .undef p17)) fun v26 v27 v28 v29 v30 v31 v32 v33 v34 p35 =>
 kpk v18 v34 q13 fun v36 =>
 kif v36
 (kad v16 q14 fun v37 =>
 r15 v37 p35)
 (j14 v16 p35)) v12 p11) fun v38 p39 =>
 jn 1 (fun j40 =>
 lp 1 fuel (fun r41 v42 p43 =>
 kle v38 v42 fun v44 =>
 jn 10 (fun j45 => gdK v44 true (kia 1 a0 v42 fun v46 =>
 kld (prt [] p43) v46 fun v47 =>
 kia 1 a0 a1 fun v48 =>
 kld (prt [] p43) v48 fun v49 =>
 cc f237 p43 [v47, v49] fun v50 p51 =>
 knt v50 fun v52 =>
 j45 a0 v42 v46 v47 a0 a1 v48 v49 v50 v52 p51) (j45 .undef .undef .undef .undef .undef .undef .undef .undef .undef .undef p43)) fun v53 v54 v55 v56 v57 v58 v59 v60 v61 v62 p63 =>
 kpk v44 v62 q13 fun v64 =>
 kif v64
 (ksb v42 q14 fun v65 =>
 r41 v65 p63)
 (j40 v42 p63)) v13 p39) fun v66 p67 =>
 kgt v38 v66 fun v68 =>
 kif v68
 (kia 1 a0 a1 fun v69 =>
 kld (prt [] p67) v69 fun v70 =>
 kia 1 a0 v66 fun v71 =>
 kld (prt [] p67) v71 fun v72 =>
 kia 1 a0 v66 fun v73 =>
 kst p67 1 v73 v70 fun p74 =>
 kia 1 a0 a1 fun v75 =>
 kst p74 1 v75 v72 fun p76 =>
 k [v66, q29] p76)
 (kia 1 a0 v66 fun v77 =>
 kld (prt [] p67) v77 fun v78 =>
 kia 1 a0 v38 fun v79 =>
 kld (prt [] p67) v79 fun v80 =>
 kia 1 a0 v38 fun v81 =>
 kst p67 1 v81 v78 fun p82 =>
 kia 1 a0 v66 fun v83 =>
 kst p82 1 v83 v80 fun p84 =>
 kad v38 q14 fun v85 =>
 ksb v66 q14 fun v86 =>
 jn 1 (fun j87 =>
 lp 2 fuel (fun r88 v89 v90 p91 =>
 jn 2 (fun j92 =>
 jn 1 (fun j93 =>
 lp 1 fuel (fun r94 v95 p96 =>
 kle v95 v90 fun v97 =>
 jn 9 (fun j98 => gdK v97 true (kia 1 a0 v95 fun v99 =>
 kld (prt [] p96) v99 fun v100 =>
 kia 1 a0 a1 fun v101 =>
 kld (prt [] p96) v101 fun v102 =>
 cc f237 p96 [v100, v102] fun v103 p104 =>
 j98 a0 v95 v99 v100 a0 a1 v101 v102 v103 p104) (j98 .undef .undef .undef .undef .undef .undef .undef .undef .undef p96)) fun v105 v106 v107 v108 v109 v110 v111 v112 v113 p114 =>
 kpk v97 v113 q13 fun v115 =>
 kif v115
 (kad v95 q14 fun v116 =>
 r94 v116 p114)
 (j93 v95 p114)) v89 p91) fun v117 p118 =>
 jn 1 (fun j119 =>
 lp 1 fuel (fun r120 v121 p122 =>
 kle v117 v121 fun v123 =>
 jn 10 (fun j124 => gdK v123 true (kia 1 a0 v121 fun v125 =>
 kld (prt [] p122) v125 fun v126 =>
 kia 1 a0 a1 fun v127 =>
 kld (prt [] p122) v127 fun v128 =>
 cc f237 p122 [v126, v128] fun v129 p130 =>
 knt v129 fun v131 =>
 j124 a0 v121 v125 v126 a0 a1 v127 v128 v129 v131 p130) (j124 .undef .undef .undef .undef .undef .undef .undef .undef .undef .undef p122)) fun v132 v133 v134 v135 v136 v137 v138 v139 v140 v141 p142 =>
 kpk v123 v141 q13 fun v143 =>
 kif v143
 (ksb v121 q14 fun v144 =>
 r120 v144 p142)
 (j119 v121 p142)) v90 p118) fun v145 p146 =>
 kgt v117 v145 fun v147 =>
 kif v147
 (j87 v145 p146)
 (kia 1 a0 v145 fun v148 =>
 kld (prt [] p146) v148 fun v149 =>
 kia 1 a0 v117 fun v150 =>
 kld (prt [] p146) v150 fun v151 =>
 kia 1 a0 v117 fun v152 =>
 kst p146 1 v152 v149 fun p153 =>
 kia 1 a0 v145 fun v154 =>
 kst p153 1 v154 v151 fun p155 =>
 kad v117 q14 fun v156 =>
 ksb v145 q14 fun v157 =>
 j92 v156 v157 p155)) fun v158 v159 p160 =>
 r88 v158 v159 p160) v85 v86 p84) fun v161 p162 =>
 kia 1 a0 a1 fun v163 =>
 kld (prt [] p162) v163 fun v164 =>
 kia 1 a0 v161 fun v165 =>
 kld (prt [] p162) v165 fun v166 =>
 kia 1 a0 v161 fun v167 =>
 kst p162 1 v167 v164 fun p168 =>
 kia 1 a0 a1 fun v169 =>
 kst p168 1 v169 v166 fun p170 =>
 k [v161, q13] p170)
theorem o239 : FO EN 239 f239 := fe (np := 4) (T := t239) (tcons (cc_ok o237) tnil) [some [10], some [10], none, none, some [11], some [11], none, none, none, some [11], some [10, 11], some [10, 11], some [10], some [10], none, none, some [11], some [11], none, none, none] (by kernel_rfl) fun p s k => by kernel_rfl
/- 210 slices.pdqsortOrdered[int] -/
def t210 (self : FT) : List Ce := [⟨231, cn f231⟩, ⟨232, cc f232⟩, ⟨233, cc f233⟩, ⟨234, cc f234⟩, ⟨235, cc f235⟩, ⟨236, cc f236⟩, ⟨237, cc f237⟩, ⟨238, cc f238⟩, ⟨239, cc f239⟩, ⟨210, cn self⟩]
def g210 : FT → FT := fun self => fun p s k => hd s fun a0 s0 =>
 hd s0 fun a1 s1 =>
 hd s1 fun a2 s2 =>
 hd s2 fun a3 s3 =>
 nl s3 <|
 jn 0 (fun j4 =>
 lp 5 fuel (fun r5 v6 v7 v8 v9 v10 p11 =>
 jn 5 (fun j12 =>
 ksb v7 v6 fun v13 =>
 kle v13 q27 fun v14 =>
 kif v14
 (cn f231 p11 [a0, v6, v7] fun v15 p16 =>
 k [] p16)
 (keq false .i v8 q0 fun v17 =>
 kif v17
 (cc f232 p11 [a0, v6, v7] fun v18 p19 =>
 k [] p19)
 (knt v9 fun v20 =>
 jn 1 (fun j21 => kif v20
 (cc f233 p11 [a0, v6, v7] fun v22 p23 =>
 ksb v8 q14 fun v24 =>
 j21 v24 p23)
 (j21 v8 p11)) fun v25 p26 =>
 cc f234 p26 [a0, v6, v7] fun v27 p28 =>
 kex v27 0 fun v29 =>
 kex v27 1 fun v30 =>
 keq false .i v30 q16 fun v31 =>
 jn 2 (fun j32 => kif v31
 (cc f235 p28 [a0, v6, v7] fun v33 p34 =>
 ksb v7 q14 fun v35 =>
 ksb v29 v6 fun v36 =>
 ksb v35 v36 fun v37 =>
 j32 v37 q14 p34)
 (j32 v29 v30 p28)) fun v38 v39 p40 =>
 jn 1 (fun j41 => gdK v9 true (j41 v10 p40) (j41 .undef p40)) fun v42 p43 =>
 kpk v9 v42 q13 fun v44 =>
 jn 2 (fun j45 => gdK v44 true (keq false .i v39 q14 fun v46 =>
 j45 v39 v46 p43) (j45 .undef .undef p43)) fun v47 v48 p49 =>
 kpk v44 v48 q13 fun v50 =>
 jn 0 (fun j51 => kif v50
 (cc f236 p49 [a0, v6, v7] fun v52 p53 =>
 kif v52
 (k [] p53)
 (j51 p53))
 (j51 p49)) fun p54 =>
 kgt v6 q0 fun v55 =>
 jn 11 (fun j56 => gdK v55 true (ksb v6 q14 fun v57 =>
 kia 1 a0 v57 fun v58 =>
 kld (prt [] p54) v58 fun v59 =>
 kia 1 a0 v38 fun v60 =>
 kld (prt [] p54) v60 fun v61 =>
 cc f237 p54 [v59, v61] fun v62 p63 =>
 knt v62 fun v64 =>
 j56 a0 v6 v57 v58 v59 a0 v38 v60 v61 v62 v64 p63) (j56 .undef .undef .undef .undef .undef .undef .undef .undef .undef .undef .undef p54)) fun v65 v66 v67 v68 v69 v70 v71 v72 v73 v74 v75 p76 =>
 kpk v55 v75 q13 fun v77 =>
 kif v77
 (cc f238 p76 [a0, v6, v7, v38] fun v78 p79 =>
 j12 v78 v7 v25 v9 v10 p79)
 (cc f239 p76 [a0, v6, v7, v38] fun v80 p81 =>
 kex v80 0 fun v82 =>
 kex v80 1 fun v83 =>
 ksb v82 v6 fun v84 =>
 ksb v7 v82 fun v85 =>
 kar .quo v13 q6 fun v86 =>
 klt v84 v85 fun v87 =>
 jn 3 (fun j88 => kif v87
 (kge v84 v86 fun v89 =>
 cn self p81 [a0, v6, v82, v25] fun v90 p91 =>
 kad v82 q14 fun v92 =>
 j88 v92 v7 v89 p91)
 (kge v85 v86 fun v93 =>
 kad v82 q14 fun v94 =>
 cn self p81 [a0, v94, v7, v25] fun v95 p96 =>
 j88 v6 v82 v93 p96)) fun v97 v98 v99 p100 =>
 j12 v97 v98 v25 v99 v83 p100)))) fun v101 v102 v103 v104 v105 p106 =>
 r5 v101 v102 v103 v104 v105 p106) a1 a2 a3 q29 q29 p) fun p107 =>
 k [] p107
def f210 : FT := rcF depth g210
theorem o210 : FO EN 210 f210 := FO.rc (fun self h => fe (np := 4) (T := t210 self) (tcons (cn_ok o231) (tcons (cc_ok o232) (tcons (cc_ok o233) (tcons (cc_ok o234) (tcons (cc_ok o235) (tcons (cc_ok o236) (tcons (cc_ok o237) (tcons (cc_ok o238) (tcons (cc_ok o239) (tcons (cn_ok h) tnil)))))))))) [some [], some [1, 2, 3, 8, 9], some [1, 2, 3, 8, 9], none, none, some [3], some [11, 12], some [], none, none, some [1, 2, 8]] (by kernel_rfl) fun p s k => by kernel_rfl) depth
end
end Go.V
end

section
set_option maxRecDepth 100000
set_option linter.unusedVariables false
namespace Go.V
noncomputable section
/- 176 slices.Sort[[]int,int] -/
def t176 : List Ce := [⟨42, cc f42⟩, ⟨210, cn f210⟩]
def f176 : FT := fun p s k => hd s fun a0 s0 =>
 nl s0 <|
 kln a0 fun v1 =>
 kci .u64 v1 fun v2 =>
 cc f42 p [v2] fun v3 p4 =>
 cn f210 p4 [a0, q0, v1, v3] fun v5 p6 =>
 k [] p6
theorem o176 : FO EN 176 f176 := fe (np := 1) (T := t176) (tcons (cc_ok o42) (tcons (cn_ok o210) tnil)) [] (by kernel_rfl) fun p s k => by kernel_rfl
/- 257 slices.Sorted[int] -/
def t257 : List Ce := [⟨270, cn f270⟩, ⟨176, cn f176⟩]
def f257 : FT := fun p s k => hd s fun a0 s0 =>
 nl s0 <|
 cn f270 p [a0] fun v1 p2 =>
 cn f176 p2 [v1] fun v3 p4 =>
 k [v1] p4
theorem o257 : FO EN 257 f257 := fe (np := 1) (T := t257) (tcons (cn_ok o270) (tcons (cn_ok o176) tnil)) [] (by kernel_rfl) fun p s k => by kernel_rfl
/- 230 (*countersign/comps.tarjan).leave -/
def t230 : List Ce := [⟨256, cn f256⟩, ⟨258, ci f258⟩, ⟨257, cn f257⟩]
def f230 : FT := fun p s k => hd s fun a0 s0 =>
 hd s0 fun a1 s1 =>
 nl s1 <|
 knc a0 fun v2 =>
 kfa 512 v2 fun v3 =>
 kib 256 1 v3 a1 fun v4 =>
 kld (prt [] p) v4 fun v5 =>
 knc a0 fun v6 =>
 kfa 256 v6 fun v7 =>
 kib 256 1 v7 a1 fun v8 =>
 kld (prt [] p) v8 fun v9 =>
 klt v5 v9 fun v10 =>
 kif v10
 (k [] p)
 (knc a0 fun v11 =>
 kfa 1024 v11 fun v12 =>
 kld p v12 fun v13 =>
 cn f256 p [v13, a1] fun v14 p15 =>
 knc a0 fun v16 =>
 kfa 1024 v16 fun v17 =>
 kld p15 v17 fun v18 =>
 ksl 1 v18 (some v14) none none fun v19 =>
 ci f258 p15 [v19] fun v20 p21 =>
 cn f257 p21 [v20] fun v22 p23 =>
 kln v22 fun v24 =>
 jn 0 (fun j25 =>
 lp 1 fuel (fun r26 v27 p28 =>
 klt v27 v24 fun v29 =>
 kif v29
 (kia 1 v22 v27 fun v30 =>
 kld p28 v30 fun v31 =>
 knc a0 fun v32 =>
 kfa 768 v32 fun v33 =>
 kib 256 1 v33 v31 fun v34 =>
 kst p28 1 v34 q13 fun p35 =>
 kad v27 q14 fun v36 =>
 r26 v36 p35)
 (j25 p28)) q0 p23) fun p37 =>
 knc a0 fun v38 =>
 kfa 1024 v38 fun v39 =>
 kld p37 v39 fun v40 =>
 ksl 1 v40 none (some v14) none fun v41 =>
 knc a0 fun v42 =>
 kfa 1024 v42 fun v43 =>
 kst p37 1 v43 v41 fun p44 =>
 knc a0 fun v45 =>
 kfa 1026 v45 fun v46 =>
 kld p44 v46 fun v47 =>
 kbs p44 1 q75 [(0, 1, v22)] fun v48 p49 =>
 kap p49 1 24 v47 v48 fun v50 p51 =>
 knc a0 fun v52 =>
 kfa 1026 v52 fun v53 =>
 kst p51 1 v53 v50 fun p54 =>
 k [] p54)
theorem o230 : FO EN 230 f230 := fe (np := 2) (T := t230) (tcons (cn_ok o256) (tcons (ci_ok o258) (tcons (cn_ok o257) tnil))) [none, some [], some [37], none, none] (by kernel_rfl) fun p s k => by kernel_rfl
/- 209 (*countersign/comps.tarjan).walk -/
def t209 : List Ce := [⟨229, ci f229⟩, ⟨230, ci f230⟩]
def f209 : FT := fun p s k => hd s fun a0 s0 =>
 hd s0 fun a1 s1 =>
 nl s1 <|
 ci f229 p [a0, a1] fun v2 p3 =>
 kbd q15 [(0, 1, a1), (1, 1, q0)] fun v4 =>
 kbs p3 1 q15 [(0, 2, v4)] fun v5 p6 =>
 jn 0 (fun j7 =>
 lp 1 fuel (fun r8 v9 p10 =>
 kln v9 fun v11 =>
 kgt v11 q0 fun v12 =>
 kif v12
 (jn 1 (fun j13 =>
 kln v9 fun v14 =>
 ksb v14 q14 fun v15 =>
 kia 2 v9 v15 fun v16 =>
 jn 1 (fun j17 =>
 lp 1 fuel (fun r18 v19 p20 =>
 knc v16 fun v21 =>
 kfa 1 v21 fun v22 =>
 kld (prt [] p20) v22 fun v23 =>
 knc v16 fun v24 =>
 kfa 0 v24 fun v25 =>
 kld (prt [] p20) v25 fun v26 =>
 knc a0 fun v27 =>
 kfa 0 v27 fun v28 =>
 kib 256 1 v28 v26 fun v29 =>
 kld (prt [] p20) v29 fun v30 =>
 kln v30 fun v31 =>
 klt v23 v31 fun v32 =>
 kif v32
 (knc v16 fun v33 =>
 kfa 0 v33 fun v34 =>
 kld (prt [] p20) v34 fun v35 =>
 knc a0 fun v36 =>
 kfa 0 v36 fun v37 =>
 kib 256 1 v37 v35 fun v38 =>
 kld (prt [] p20) v38 fun v39 =>
 knc v16 fun v40 =>
 kfa 1 v40 fun v41 =>
 kld (prt [] p20) v41 fun v42 =>
 kia 1 v39 v42 fun v43 =>
 kld p20 v43 fun v44 =>
 knc v16 fun v45 =>
 kfa 1 v45 fun v46 =>
 kld p20 v46 fun v47 =>
 kad v47 q14 fun v48 =>
 knc v16 fun v49 =>
 kfa 1 v49 fun v50 =>
 kst p20 1 v50 v48 fun p51 =>
 knc a0 fun v52 =>
 kfa 256 v52 fun v53 =>
 kib 256 1 v53 v44 fun v54 =>
 kld p51 v54 fun v55 =>
 keq false .i v55 q0 fun v56 =>
 kif v56
 (ci f229 p51 [a0, v44] fun v57 p58 =>
 kbd q15 [(0, 1, v44), (1, 1, q0)] fun v59 =>
 kbs p58 1 q15 [(0, 2, v59)] fun v60 p61 =>
 kap p61 2 16 v19 v60 fun v62 p63 =>
 j13 v62 p63)
 (knc a0 fun v64 =>
 kfa 768 v64 fun v65 =>
 kib 256 1 v65 v44 fun v66 =>
 kld p51 v66 fun v67 =>
 jn 0 (fun j68 => kif v67
 (knc v16 fun v69 =>
 kfa 0 v69 fun v70 =>
 kld (prt [] p51) v70 fun v71 =>
 knc v16 fun v72 =>
 kfa 0 v72 fun v73 =>
 kld (prt [] p51) v73 fun v74 =>
 knc a0 fun v75 =>
 kfa 512 v75 fun v76 =>
 kib 256 1 v76 v74 fun v77 =>
 kld (prt [] p51) v77 fun v78 =>
 knc a0 fun v79 =>
 kfa 256 v79 fun v80 =>
 kib 256 1 v80 v44 fun v81 =>
 kld (prt [] p51) v81 fun v82 =>
 ksw mth p51 (.minmax false [(.c v78), (.c v82)]) fun v83 p84 =>
 knc a0 fun v85 =>
 kfa 512 v85 fun v86 =>
 kib 256 1 v86 v71 fun v87 =>
 kst p51 1 v87 v83 fun p88 =>
 j68 p88)
 (j68 p51)) fun p89 =>
 r18 v19 p89))
 (j17 v19 p20)) v9 p10) fun v90 p91 =>
 knc v16 fun v92 =>
 kfa 0 v92 fun v93 =>
 kld p91 v93 fun v94 =>
 ci f230 p91 [a0, v94] fun v95 p96 =>
 kln v90 fun v97 =>
 ksb v97 q14 fun v98 =>
 ksl 2 v90 none (some v98) none fun v99 =>
 kln v99 fun v100 =>
 kgt v100 q0 fun v101 =>
 jn 0 (fun j102 => kif v101
 (kln v99 fun v103 =>
 ksb v103 q14 fun v104 =>
 kia 2 v99 v104 fun v105 =>
 kfa 0 v105 fun v106 =>
 kld p96 v106 fun v107 =>
 knc a0 fun v108 =>
 kfa 512 v108 fun v109 =>
 kib 256 1 v109 v107 fun v110 =>
 kld (prt [] p96) v110 fun v111 =>
 knc a0 fun v112 =>
 kfa 512 v112 fun v113 =>
 kib 256 1 v113 v94 fun v114 =>
 kld (prt [] p96) v114 fun v115 =>
 ksw mth p96 (.minmax false [(.c v111), (.c v115)]) fun v116 p117 =>
 knc a0 fun v118 =>
 kfa 512 v118 fun v119 =>
 kib 256 1 v119 v107 fun v120 =>
 kst p96 1 v120 v116 fun p121 =>
 j102 p121)
 (j102 p96)) fun p122 =>
 j13 v99 p122) fun v123 p124 =>
 r8 v123 p124)
 (j7 p10)) v5 p6) fun p125 =>
 k [] p125
theorem o209 : FO EN 209 f209 := fe (np := 2) (T := t209) (tcons (ci_ok o229) (tcons (ci_ok o230) tnil)) [some [], some [4], none, some [4], some [4], some [4], none, none, none, some [], some []] (by kernel_rfl) fun p s k => by kernel_rfl
/- 173 countersign/comps.parts -/
def t173 : List Ce := [⟨209, ci f209⟩]
def f173 : FT := fun p s k => hd s fun a0 s0 =>
 nl s0 <|
 kbx p 2 a0 fun v1 p2 =>
 kal p2 q93 fun v3 p4 =>
 kfa 1 v1 fun v5 =>
 kld p4 v5 fun v6 =>
 kln v6 fun v7 =>
 jn 0 (fun j8 =>
 lp 1 fuel (fun r9 v10 p11 =>
 klt v10 v7 fun v12 =>
 kif v12
 (kia 3 v6 v10 fun v13 =>
 kla p11 3 v13 fun v14 =>
 kal p11 q87 fun v15 p16 =>
 kst p16 3 v15 v14 fun p17 =>
 kfa 0 v15 fun v18 =>
 kld (prt [] p17) v18 fun v19 =>
 kfa 0 v15 fun v20 =>
 kld (prt [] p17) v20 fun v21 =>
 kfa 0 v3 fun v22 =>
 kib 256 1 v22 v21 fun v23 =>
 kld (prt [] p17) v23 fun v24 =>
 kfa 1 v15 fun v25 =>
 kld (prt [] p17) v25 fun v26 =>
 kbs p17 1 q24 [(0, 1, v26)] fun v27 p28 =>
 kpa p28 [] [v18] 1 8 v24 v27 fun p30 v29 p31 =>
 kfa 0 v3 fun v32 =>
 kib 256 1 v32 v19 fun v33 =>
 kst p31 1 v33 v29 fun p34 =>
 kad v10 q14 fun v35 =>
 r9 v35 p34)
 (j8 p11)) q0 p4) fun p36 =>
 kfa 0 v1 fun v37 =>
 kld p36 v37 fun v38 =>
 jn 0 (fun j39 =>
 lp 1 fuel (fun r40 v41 p42 =>
 klt v41 v38 fun v43 =>
 kif v43
 (kfa 256 v3 fun v44 =>
 kib 256 1 v44 v41 fun v45 =>
 kld p42 v45 fun v46 =>
 keq false .i v46 q0 fun v47 =>
 jn 0 (fun j48 => kif v47
 (ci f209 p42 [v3, v41] fun v49 p50 =>
 j48 p50)
 (j48 p42)) fun p51 =>
 kad v41 q14 fun v52 =>
 r40 v52 p51)
 (j39 p42)) q0 p36) fun p53 =>
 kfa 1026 v3 fun v54 =>
 kld p53 v54 fun v55 =>
 k [v55] p53
theorem o173 : FO EN 173 f173 := fe (np := 1) (T := t173) (tcons (ci_ok o209) tnil) [some [], some [10], none, none, some [], some [30], none, none, some []] (by kernel_rfl) fun p s k => by kernel_rfl
/- 207 countersign/comps.ready$1 -/
def t207 : List Ce := []
def f207 : FT := fun p s k => hd s fun a0 s0 =>
 hd s0 fun a1 s1 =>
 nl s1 <|
 kia 1 a0 q0 fun v2 =>
 kld (prt [] p) v2 fun v3 =>
 kia 1 a1 q0 fun v4 =>
 kld (prt [] p) v4 fun v5 =>
 ksb v3 v5 fun v6 =>
 k [v6] p
theorem o207 : FO EN 207 f207 := fe (np := 2) (T := t207) tnil [] (by kernel_rfl) fun p s k => by kernel_rfl
/- 248 slices.insertionSortCmpFunc[[]int] -/
def t248 : List Ce := [⟨207, cn f207⟩]
def f248 : FT := fun p s k => hd s fun a0 s0 =>
 hd s0 fun a1 s1 =>
 hd s1 fun a2 s2 =>
 hd s2 fun a3 s3 =>
 nl s3 <|
 kad a1 q14 fun v4 =>
 jn 0 (fun j5 =>
 lp 1 fuel (fun r6 v7 p8 =>
 klt v7 a2 fun v9 =>
 kif v9
 (jn 0 (fun j10 =>
 jn 0 (fun j11 =>
 lp 1 fuel (fun r12 v13 p14 =>
 kgt v13 a1 fun v15 =>
 jn 12 (fun j16 => gdK v15 true (kia 1 a0 v13 fun v17 =>
 kld (prt [] p14) v17 fun v18 =>
 ksb v13 q14 fun v19 =>
 kia 1 a0 v19 fun v20 =>
 kld (prt [] p14) v20 fun v21 =>
 kcv t248 p14 a3 [v18, v21] fun v22 p23 =>
 klt v22 q0 fun v24 =>
 j16 a3 a0 v13 v17 v18 a0 v13 v19 v20 v21 v22 v24 p23) (j16 .undef .undef .undef .undef .undef .undef .undef .undef .undef .undef .undef .undef p14)) fun v25 v26 v27 v28 v29 v30 v31 v32 v33 v34 v35 v36 p37 =>
 kpk v15 v36 q13 fun v38 =>
 kif v38
 (ksb v13 q14 fun v39 =>
 ksb v13 q14 fun v40 =>
 kia 1 a0 v40 fun v41 =>
 kld (prt [] p37) v41 fun v42 =>
 kia 1 a0 v13 fun v43 =>
 kld (prt [] p37) v43 fun v44 =>
 kia 1 a0 v13 fun v45 =>
 kst p37 1 v45 v42 fun p46 =>
 kia 1 a0 v39 fun v47 =>
 kst p46 1 v47 v44 fun p48 =>
 ksb v13 q14 fun v49 =>
 r12 v49 p48)
 (j11 p37)) v7 p8) fun p50 =>
 j10 p50) fun p51 =>
 kad v7 q14 fun v52 =>
 r6 v52 p51)
 (j5 p8)) v4 p) fun p53 =>
 k [] p53
theorem o248 : FO EN 248 f248 := fe (np := 4) (T := t248) (tcons (cn_ok o207) tnil) [some [], some [8], none, some [], some [], some [9], none, none] (by kernel_rfl) fun p s k => by kernel_rfl
/- 267 slices.siftDownCmpFunc[[]int] -/
def t267 : List Ce := []
def f267 : FT := fun p s k => hd s fun a0 s0 =>
 hd s0 fun a1 s1 =>
 hd s1 fun a2 s2 =>
 hd s2 fun a3 s3 =>
 hd s3 fun a4 s4 =>
 nl s4 <|
 jn 0 (fun j5 =>
 lp 1 fuel (fun r6 v7 p8 =>
 kar .mul q16 v7 fun v9 =>
 kad v9 q14 fun v10 =>
 kge v10 a2 fun v11 =>
 kif v11
 (j5 p8)
 (kad v10 q14 fun v12 =>
 klt v12 a2 fun v13 =>
 jn 16 (fun j14 => gdK v13 true (kad a3 v10 fun v15 =>
 kia 1 a0 v15 fun v16 =>
 kld (prt [] p8) v16 fun v17 =>
 kad a3 v10 fun v18 =>
 kad v18 q14 fun v19 =>
 kia 1 a0 v19 fun v20 =>
 kld (prt [] p8) v20 fun v21 =>
 kcv t267 p8 a4 [v17, v21] fun v22 p23 =>
 klt v22 q0 fun v24 =>
 j14 a4 a0 a3 v10 v15 v16 v17 a0 a3 v10 v18 v19 v20 v21 v22 v24 p23) (j14 .undef .undef .undef .undef .undef .undef .undef .undef .undef .undef .undef .undef .undef .undef .undef .undef p8)) fun v25 v26 v27 v28 v29 v30 v31 v32 v33 v34 v35 v36 v37 v38 v39 v40 p41 =>
 kpk v13 v40 q13 fun v42 =>
 jn 1 (fun j43 => kif v42
 (kad v10 q14 fun v44 =>
 j43 v44 p41)
 (j43 v10 p41)) fun v45 p46 =>
 kad a3 v7 fun v47 =>
 kia 1 a0 v47 fun v48 =>
 kld (prt [] p46) v48 fun v49 =>
 kad a3 v45 fun v50 =>
 kia 1 a0 v50 fun v51 =>
 kld (prt [] p46) v51 fun v52 =>
 kcv t267 p46 a4 [v49, v52] fun v53 p54 =>
 klt v53 q0 fun v55 =>
 knt v55 fun v56 =>
 kif v56
 (k [] p54)
 (kad a3 v7 fun v57 =>
 kad a3 v45 fun v58 =>
 kad a3 v45 fun v59 =>
 kia 1 a0 v59 fun v60 =>
 kld (prt [] p54) v60 fun v61 =>
 kad a3 v7 fun v62 =>
 kia 1 a0 v62 fun v63 =>
 kld (prt [] p54) v63 fun v64 =>
 kia 1 a0 v57 fun v65 =>
 kst p54 1 v65 v61 fun p66 =>
 kia 1 a0 v58 fun v67 =>
 kst p66 1 v67 v64 fun p68 =>
 r6 v45 p68))) a1 p) fun p69 =>
 k [] p69
theorem o267 : FO EN 267 f267 := fe (np := 5) (T := t267) tnil [some [], some [10], none, none, some [11], none] (by kernel_rfl) fun p s k => by kernel_rfl
/- 249 slices.heapSortCmpFunc[[]int] -/
def t249 : List Ce := [⟨267, cc f267⟩]
def f249 : FT := fun p s k => hd s fun a0 s0 =>
 hd s0 fun a1 s1 =>
 hd s1 fun a2 s2 =>
 hd s2 fun a3 s3 =>
 nl s3 <|
 ksb a2 a1 fun v4 =>
 ksb v4 q14 fun v5 =>
 kar .quo v5 q16 fun v6 =>
 jn 0 (fun j7 =>
 lp 1 fuel (fun r8 v9 p10 =>
 kge v9 q0 fun v11 =>
 kif v11
 (cc f267 p10 [a0, v9, v4, a1, a3] fun v12 p13 =>
 ksb v9 q14 fun v14 =>
 r8 v14 p13)
 (j7 p10)) v6 p) fun p15 =>
 ksb v4 q14 fun v16 =>
 jn 0 (fun j17 =>
 lp 1 fuel (fun r18 v19 p20 =>
 kge v19 q0 fun v21 =>
 kif v21
 (kad a1 v19 fun v22 =>
 kad a1 v19 fun v23 =>
 kia 1 a0 v23 fun v24 =>
 kld (prt [] p20) v24 fun v25 =>
 kia 1 a0 a1 fun v26 =>
 kld (prt [] p20) v26 fun v27 =>
 kia 1 a0 a1 fun v28 =>
 kst p20 1 v28 v25 fun p29 =>
 kia 1 a0 v22 fun v30 =>
 kst p29 1 v30 v27 fun p31 =>
 cc f267 p31 [a0, q0, v19, a1, a3] fun v32 p33 =>
 ksb v19 q14 fun v34 =>
 r18 v34 p33)
 (j17 p20)) v16 p15) fun p35 =>
 k [] p35
theorem o249 : FO EN 249 f249 := fe (np := 4) (T := t249) (tcons (cc_ok o267) tnil) [some [], some [11], none, none, some [], some [12], none, none] (by kernel_rfl) fun p s k => by kernel_rfl
/- 250 slices.breakPatternsCmpFunc[[]int] -/
def t250 : List Ce := [⟨128, cc f128⟩, ⟨129, cc f129⟩]
def f250 : FT := fun p s k => hd s fun a0 s0 =>
 hd s0 fun a1 s1 =>
 hd s1 fun a2 s2 =>
 hd s2 fun a3 s3 =>
 nl s3 <|
 ksb a2 a1 fun v4 =>
 kge v4 q6 fun v5 =>
 jn 0 (fun j6 => kif v5
 (kci .u64 v4 fun v7 =>
 kal p q22 fun v8 p9 =>
 kst p9 1 v8 v7 fun p10 =>
 cc f128 p10 [v4] fun v11 p12 =>
 kar .quo v4 q23 fun v13 =>
 kar .mul v13 q16 fun v14 =>
 kad a1 v14 fun v15 =>
 ksb v15 q14 fun v16 =>
 jn 0 (fun j17 =>
 lp 1 fuel (fun r18 v19 p20 =>
 kar .quo v4 q23 fun v21 =>
 kar .mul v21 q16 fun v22 =>
 kad a1 v22 fun v23 =>
 kad v23 q14 fun v24 =>
 kle v19 v24 fun v25 =>
 kif v25
 (cc f129 p20 [v8] fun v26 p27 =>
 ksb v11 q18 fun v28 =>
 kar .and v26 v28 fun v29 =>
 kci .i64 v29 fun v30 =>
 kge v30 v4 fun v31 =>
 jn 1 (fun j32 => kif v31
 (ksb v30 v4 fun v33 =>
 j32 v33 p27)
 (j32 v30 p27)) fun v34 p35 =>
 kad a1 v34 fun v36 =>
 kad a1 v34 fun v37 =>
 kia 1 a0 v37 fun v38 =>
 kld (prt [] p35) v38 fun v39 =>
 kia 1 a0 v19 fun v40 =>
 kld (prt [] p35) v40 fun v41 =>
 kia 1 a0 v19 fun v42 =>
 kst p35 1 v42 v39 fun p43 =>
 kia 1 a0 v36 fun v44 =>
 kst p43 1 v44 v41 fun p45 =>
 kad v19 q14 fun v46 =>
 r18 v46 p45)
 (j17 p20)) v16 p12) fun p47 =>
 j6 p47)
 (j6 p)) fun p48 =>
 k [] p48
theorem o250 : FO EN 250 f250 := fe (np := 4) (T := t250) (tcons (cc_ok o128) (tcons (cc_ok o129) tnil)) [some [], some [], some [11], none, none, some [12]] (by kernel_rfl) fun p s k => by kernel_rfl
/- 274 slices.order2CmpFunc[[]int] -/
def t274 : List Ce := []
def f274 : FT := fun p s k => hd s fun a0 s0 =>
 hd s0 fun a1 s1 =>
 hd s1 fun a2 s2 =>
 hd s2 fun a3 s3 =>
 hd s3 fun a4 s4 =>
 nl s4 <|
 kia 1 a0 a2 fun v5 =>
 kld (prt [] p) v5 fun v6 =>
 kia 1 a0 a1 fun v7 =>
 kld (prt [] p) v7 fun v8 =>
 kcv t274 p a4 [v6, v8] fun v9 p10 =>
 klt v9 q0 fun v11 =>
 kif v11
 (knc a3 fun v12 =>
 kld p10 v12 fun v13 =>
 kad v13 q14 fun v14 =>
 knc a3 fun v15 =>
 kst p10 1 v15 v14 fun p16 =>
 k [a2, a1] p16)
 (k [a1, a2] p10)
theorem o274 : FO EN 274 f274 := fe (np := 5) (T := t274) tnil [none] (by kernel_rfl) fun p s k => by kernel_rfl
/- 269 slices.medianCmpFunc[[]int] -/
def t269 : List Ce := [⟨274, cc f274⟩]
def f269 : FT := fun p s k => hd s fun a0 s0 =>
 hd s0 fun a1 s1 =>
 hd s1 fun a2 s2 =>
 hd s2 fun a3 s3 =>
 hd s3 fun a4 s4 =>
 hd s4 fun a5 s5 =>
 nl s5 <|
 cc f274 p [a0, a1, a2, a4, a5] fun v6 p7 =>
 kex v6 0 fun v8 =>
 kex v6 1 fun v9 =>
 cc f274 p7 [a0, v9, a3, a4, a5] fun v10 p11 =>
 kex v10 0 fun v12 =>
 kex v10 1 fun v13 =>
 cc f274 p11 [a0, v8, v12, a4, a5] fun v14 p15 =>
 kex v14 0 fun v16 =>
 kex v14 1 fun v17 =>
 k [v17] p15
theorem o269 : FO EN 269 f269 := fe (np := 6) (T := t269) (tcons (cc_ok o274) tnil) [] (by kernel_rfl) fun p s k => by kernel_rfl
/- 268 slices.medianAdjacentCmpFunc[[]int] -/
def t268 : List Ce := [⟨269, cc f269⟩]
def f268 : FT := fun p s k => hd s fun a0 s0 =>
 hd s0 fun a1 s1 =>
 hd s1 fun a2 s2 =>
 hd s2 fun a3 s3 =>
 nl s3 <|
 ksb a1 q14 fun v4 =>
 kad a1 q14 fun v5 =>
 cc f269 p [a0, v4, a1, v5, a2, a3] fun v6 p7 =>
 k [v6] p7
theorem o268 : FO EN 268 f268 := fe (np := 4) (T := t268) (tcons (cc_ok o269) tnil) [] (by kernel_rfl) fun p s k => by kernel_rfl
/- 251 slices.choosePivotCmpFunc[[]int] -/
def t251 : List Ce := [⟨268, cc f268⟩, ⟨269, cc f269⟩]
def f251 : FT := fun p s k => hd s fun a0 s0 =>
 hd s0 fun a1 s1 =>
 hd s1 fun a2 s2 =>
 hd s2 fun a3 s3 =>
 nl s3 <|
 ksb a2 a1 fun v4 =>
 kal p q24 fun v5 p6 =>
 kar .quo v4 q23 fun v7 =>
 kar .mul v7 q14 fun v8 =>
 kad a1 v8 fun v9 =>
 kar .quo v4 q23 fun v10 =>
 kar .mul v10 q16 fun v11 =>
 kad a1 v11 fun v12 =>
 kar .quo v4 q23 fun v13 =>
 kar .mul v13 q25 fun v14 =>
 kad a1 v14 fun v15 =>
 kge v4 q6 fun v16 =>
 jn 1 (fun j17 => kif v16
 (kge v4 q26 fun v18 =>
 jn 3 (fun j19 => kif v18
 (cc f268 p6 [a0, v9, v5, a3] fun v20 p21 =>
 cc f268 p21 [a0, v12, v5, a3] fun v22 p23 =>
 cc f268 p23 [a0, v15, v5, a3] fun v24 p25 =>
 j19 v20 v22 v24 p25)
 (j19 v9 v12 v15 p6)) fun v26 v27 v28 p29 =>
 cc f269 p29 [a0, v26, v27, v28, v5, a3] fun v30 p31 =>
 j17 v30 p31)
 (j17 v12 p6)) fun v32 p33 =>
 kld p33 v5 fun v34 =>
 keq false .i v34 q0 fun v35 =>
 kif v35
 (k [v32, q14] p33)
 (keq false .i v34 q27 fun v36 =>
 kif v36
 (k [v32, q16] p33)
 (k [v32, q0] p33))
theorem o251 : FO EN 251 f251 := fe (np := 4) (T := t251) (tcons (cc_ok o268) (tcons (cc_ok o269) tnil)) [some [13], some [12, 13, 14], none, none, none] (by kernel_rfl) fun p s k => by kernel_rfl
/- 252 slices.reverseRangeCmpFunc[[]int] -/
def t252 : List Ce := []
def f252 : FT := fun p s k => hd s fun a0 s0 =>
 hd s0 fun a1 s1 =>
 hd s1 fun a2 s2 =>
 hd s2 fun a3 s3 =>
 nl s3 <|
 ksb a2 q14 fun v4 =>
 jn 0 (fun j5 =>
 lp 2 fuel (fun r6 v7 v8 p9 =>
 klt v7 v8 fun v10 =>
 kif v10
 (kia 1 a0 v8 fun v11 =>
 kld (prt [] p9) v11 fun v12 =>
 kia 1 a0 v7 fun v13 =>
 kld (prt [] p9) v13 fun v14 =>
 kia 1 a0 v7 fun v15 =>
 kst p9 1 v15 v12 fun p16 =>
 kia 1 a0 v8 fun v17 =>
 kst p16 1 v17 v14 fun p18 =>
 kad v7 q14 fun v19 =>
 ksb v8 q14 fun v20 =>
 r6 v19 v20 p18)
 (j5 p9)) a1 v4 p) fun p21 =>
 k [] p21
theorem o252 : FO EN 252 f252 := fe (np := 4) (T := t252) tnil [some [], some [8, 9], none, none] (by kernel_rfl) fun p s k => by kernel_rfl
/- 253 slices.partialInsertionSortCmpFunc[[]int] -/
def t253 : List Ce := []
def f253 : FT := fun p s k => hd s fun a0 s0 =>
 hd s0 fun a1 s1 =>
 hd s1 fun a2 s2 =>
 hd s2 fun a3 s3 =>
 nl s3 <|
 kad a1 q14 fun v4 =>
 jn 0 (fun j5 =>
 lp 2 fuel (fun r6 v7 v8 p9 =>
 klt v8 q28 fun v10 =>
 kif v10
 (jn 1 (fun j11 =>
 jn 1 (fun j12 =>
 lp 1 fuel (fun r13 v14 p15 =>
 klt v14 a2 fun v16 =>
 jn 13 (fun j17 => gdK v16 true (kia 1 a0 v14 fun v18 =>
 kld (prt [] p15) v18 fun v19 =>
 ksb v14 q14 fun v20 =>
 kia 1 a0 v20 fun v21 =>
 kld (prt [] p15) v21 fun v22 =>
 kcv t253 p15 a3 [v19, v22] fun v23 p24 =>
 klt v23 q0 fun v25 =>
 knt v25 fun v26 =>
 j17 a3 a0 v14 v18 v19 a0 v14 v20 v21 v22 v23 v25 v26 p24) (j17 .undef .undef .undef .undef .undef .undef .undef .undef .undef .undef .undef .undef .undef p15)) fun v27 v28 v29 v30 v31 v32 v33 v34 v35 v36 v37 v38 v39 p40 =>
 kpk v16 v39 q13 fun v41 =>
 kif v41
 (kad v14 q14 fun v42 =>
 r13 v42 p40)
 (j12 v14 p40)) v7 p9) fun v43 p44 =>
 keq false .i v43 a2 fun v45 =>
 kif v45
 (k [q29] p44)
 (ksb a2 a1 fun v46 =>
 klt v46 q26 fun v47 =>
 kif v47
 (k [q13] p44)
 (ksb v43 q14 fun v48 =>
 ksb v43 q14 fun v49 =>
 kia 1 a0 v49 fun v50 =>
 kld (prt [] p44) v50 fun v51 =>
 kia 1 a0 v43 fun v52 =>
 kld (prt [] p44) v52 fun v53 =>
 kia 1 a0 v43 fun v54 =>
 kst p44 1 v54 v51 fun p55 =>
 kia 1 a0 v48 fun v56 =>
 kst p55 1 v56 v53 fun p57 =>
 ksb v43 a1 fun v58 =>
 kge v58 q16 fun v59 =>
 jn 0 (fun j60 => kif v59
 (ksb v43 q14 fun v61 =>
 jn 0 (fun j62 =>
 lp 1 fuel (fun r63 v64 p65 =>
 kge v64 q14 fun v66 =>
 kif v66
 (kia 1 a0 v64 fun v67 =>
 kld (prt [] p65) v67 fun v68 =>
 ksb v64 q14 fun v69 =>
 kia 1 a0 v69 fun v70 =>
 kld (prt [] p65) v70 fun v71 =>
 kcv t253 p65 a3 [v68, v71] fun v72 p73 =>
 klt v72 q0 fun v74 =>
 knt v74 fun v75 =>
 kif v75
 (j62 p73)
 (ksb v64 q14 fun v76 =>
 ksb v64 q14 fun v77 =>
 kia 1 a0 v77 fun v78 =>
 kld (prt [] p73) v78 fun v79 =>
 kia 1 a0 v64 fun v80 =>
 kld (prt [] p73) v80 fun v81 =>
 kia 1 a0 v64 fun v82 =>
 kst p73 1 v82 v79 fun p83 =>
 kia 1 a0 v76 fun v84 =>
 kst p83 1 v84 v81 fun p85 =>
 ksb v64 q14 fun v86 =>
 r63 v86 p85))
 (j62 p65)) v61 p57) fun p87 =>
 j60 p87)
 (j60 p57)) fun p88 =>
 ksb a2 v43 fun v89 =>
 kge v89 q16 fun v90 =>
 jn 0 (fun j91 => kif v90
 (kad v43 q14 fun v92 =>
 jn 0 (fun j93 =>
 lp 1 fuel (fun r94 v95 p96 =>
 klt v95 a2 fun v97 =>
 kif v97
 (kia 1 a0 v95 fun v98 =>
 kld (prt [] p96) v98 fun v99 =>
 ksb v95 q14 fun v100 =>
 kia 1 a0 v100 fun v101 =>
 kld (prt [] p96) v101 fun v102 =>
 kcv t253 p96 a3 [v99, v102] fun v103 p104 =>
 klt v103 q0 fun v105 =>
 knt v105 fun v106 =>
 kif v106
 (j93 p104)
 (ksb v95 q14 fun v107 =>
 ksb v95 q14 fun v108 =>
 kia 1 a0 v108 fun v109 =>
 kld (prt [] p104) v109 fun v110 =>
 kia 1 a0 v95 fun v111 =>
 kld (prt [] p104) v111 fun v112 =>
 kia 1 a0 v95 fun v113 =>
 kst p104 1 v113 v110 fun p114 =>
 kia 1 a0 v107 fun v115 =>
 kst p114 1 v115 v112 fun p116 =>
 kad v95 q14 fun v117 =>
 r94 v117 p116))
 (j93 p96)) v92 p88) fun p118 =>
 j91 p118)
 (j91 p88)) fun p119 =>
 j11 v43 p119))) fun v120 p121 =>
 kad v8 q14 fun v122 =>
 r6 v120 v122 p121)
 (j5 p9)) v4 q0 p) fun p123 =>
 k [q13] p123
theorem o253 : FO EN 253 f253 := fe (np := 4) (T := t253) tnil [some [], some [9, 10], none, some [9], some [9], some [9], none, none, none, none, some [], some [], some [11], none, none, none, some [], some [], some [12], none, none, none] (by kernel_rfl) fun p s k => by kernel_rfl
/- 254 slices.partitionEqualCmpFunc[[]int] -/
def t254 : List Ce := []
def f254 : FT := fun p s k => hd s fun a0 s0 =>
 hd s0 fun a1 s1 =>
 hd s1 fun a2 s2 =>
 hd s2 fun a3 s3 =>
 hd s3 fun a4 s4 =>
 nl s4 <|
 kia 1 a0 a3 fun v5 =>
 kld (prt [] p) v5 fun v6 =>
 kia 1 a0 a1 fun v7 =>
 kld (prt [] p) v7 fun v8 =>
 kia 1 a0 a1 fun v9 =>
 kst p 1 v9 v6 fun p10 =>
 kia 1 a0 a3 fun v11 =>
 kst p10 1 v11 v8 fun p12 =>
 kad a1 q14 fun v13 =>
 ksb a2 q14 fun v14 =>
 jn 1 (fun j15 =>
 lp 2 fuel (fun r16 v17 v18 p19 =>
 jn 2 (fun j20 =>
 jn 1 (fun j21 =>
 lp 1 fuel (fun r22 v23 p24 =>
 kle v23 v18 fun v25 =>
 jn 12 (fun j26 => gdK v25 true (kia 1 a0 a1 fun v27 =>
 kld (prt [] p24) v27 fun v28 =>
 kia 1 a0 v23 fun v29 =>
 kld (prt [] p24) v29 fun v30 =>
 kcv t254 p24 a4 [v28, v30] fun v31 p32 =>
 klt v31 q0 fun v33 =>
 knt v33 fun v34 =>
 j26 a4 a0 a1 v27 v28 a0 v23 v29 v30 v31 v33 v34 p32) (j26 .undef .undef .undef .undef .undef .undef .undef .undef .undef .undef .undef .undef p24)) fun v35 v36 v37 v38 v39 v40 v41 v42 v43 v44 v45 v46 p47 =>
 kpk v25 v46 q13 fun v48 =>
 kif v48
 (kad v23 q14 fun v49 =>
 r22 v49 p47)
 (j21 v23 p47)) v17 p19) fun v50 p51 =>
 jn 1 (fun j52 =>
 lp 1 fuel (fun r53 v54 p55 =>
 kle v50 v54 fun v56 =>
 jn 11 (fun j57 => gdK v56 true (kia 1 a0 a1 fun v58 =>
 kld (prt [] p55) v58 fun v59 =>
 kia 1 a0 v54 fun v60 =>
 kld (prt [] p55) v60 fun v61 =>
 kcv t254 p55 a4 [v59, v61] fun v62 p63 =>
 klt v62 q0 fun v64 =>
 j57 a4 a0 a1 v58 v59 a0 v54 v60 v61 v62 v64 p63) (j57 .undef .undef .undef .undef .undef .undef .undef .undef .undef .undef .undef p55)) fun v65 v66 v67 v68 v69 v70 v71 v72 v73 v74 v75 p76 =>
 kpk v56 v75 q13 fun v77 =>
 kif v77
 (ksb v54 q14 fun v78 =>
 r53 v78 p76)
 (j52 v54 p76)) v18 p51) fun v79 p80 =>
 kgt v50 v79 fun v81 =>
 kif v81
 (j15 v50 p80)
 (kia 1 a0 v79 fun v82 =>
 kld (prt [] p80) v82 fun v83 =>
 kia 1 a0 v50 fun v84 =>
 kld (prt [] p80) v84 fun v85 =>
 kia 1 a0 v50 fun v86 =>
 kst p80 1 v86 v83 fun p87 =>
 kia 1 a0 v79 fun v88 =>
 kst p87 1 v88 v85 fun p89 =>
 kad v50 q14 fun v90 =>
 ksb v79 q14 fun v91 =>
 j20 v90 v91 p89)) fun v92 v93 p94 =>
 r16 v92 v93 p94) v13 v14 p12) fun v95 p96 =>
 k [v95] p96
theorem o254 : FO EN 254 f254 := fe (np := 5) (T := t254) tnil [some [11], some [11, 12], some [11, 12], some [11], some [11], none, none, some [12], some [12], none, none, none] (by kernel_rfl) fun p s k => by kernel_rfl
/- 255 slices.partitionCmpFunc[[]int] -/
def t255 : List Ce := []
def f255 : FT := fun p s k => hd s fun a0 s0 =>
 hd s0 fun a1 s1 =>
 hd s1 fun a2 s2 =>
 hd s2 fun a3 s3 =>
 hd s3 fun a4 s4 =>
 nl s4 <|
 kia 1 a0 a3 fun v5 =>
 kld (prt [] p) v5 fun v6 =>
 kia 1 a0 a1 fun v7 =>
 kld (prt [] p) v7 fun v8 =>
 kia 1 a0 a1 fun v9 =>
 kst p 1 v9 v6 fun p10 =>
 kia 1 a0 a3 fun v11 =>
 kst p10 1 v11 v8 fun p12 =>
 kad a1 q14 fun v13 =>
 ksb a2 q14 fun v14 =>
 jn 1 (fun j15 =>
 lp 1 fuel (fun r16 v17 p18 =>
 kle v17 v14 fun v19 =>
 jn 11 (fun j20 => gdK v19 true (kia 1 a0 v17 fun v21 =>
 kld (prt [] p18) v21 fun v22 =>
 kia 1 a0 a1 fun v23 =>
 kld (prt [] p18) v23 fun v24 =>
 kcv t255 p18 a4 [v22, v24] fun v25 p26 =>
 klt v25 q0 fun v27 =>
 j20 a4 a0 v17 v21 v22 a0 a1 v23 v24 v25 v27 p26) (j20 .undef .undef .undef .undef .undef .undef .undef .undef .undef .undef .undef p18)) fun v28 v29 v30 v31 v32 v33 v34 v35 v36 v37 v38 p39 =>
 kpk v19 v38 q13 fun v40 =>
 kif v40
 (kad v17 q14 fun v41 =>
 r16 v41 p39)
 (j15 v17 p39)) v13 p12) fun v42 p43 =>
 jn 1 (fun j44 =>
 lp 1 fuel (fun r45 v46 p47 =>
 kle v42 v46 fun v48 =>
 jn 12 (fun j49 => gdK v48 true (kia 1 a0 v46 fun v50 =>
 kld (prt [] p47) v50 fun v51 =>
 kia 1 a0 a1 fun v52 =>
 kld (prt [] p47) v52 fun v53 =>
 kcv t255 p47 a4 [v51, v53] fun v54 p55 =>
 klt v54 q0 fun v56 =>
 knt v56 fun v57 =>
 j49 a4 a0 v46 v50 v51 a0 a1 v52 v53 v54 v56 v57 p55) (j49 .undef .undef .undef .undef .undef .undef .undef .undef .undef .undef .undef .undef p47)) fun v58 v59 v60 v61 v62 v63 v64 v65 v66 v67 v68 v69 p70 =>
 kpk v48 v69 q13 fun v71 =>
 kif v71
 (ksb v46 q14 fun v72 =>
 r45 v72 p70)
 (j44 v46 p70)) v14 p43) fun v73 p74 =>
 kgt v42 v73 fun v75 =>
 kif v75
 (kia 1 a0 a1 fun v76 =>
 kld (prt [] p74) v76 fun v77 =>
 kia 1 a0 v73 fun v78 =>
 kld (prt [] p74) v78 fun v79 =>
 kia 1 a0 v73 fun v80 =>
 kst p74 1 v80 v77 fun p81 =>
 kia 1 a0 a1 fun v82 =>
 kst p81 1 v82 v79 fun p83 =>
 k [v73, q29] p83)
 (kia 1 a0 v73 fun v84 =>
 kld (prt [] p74) v84 fun v85 =>
 kia 1 a0 v42 fun v86 =>
 kld (prt [] p74) v86 fun v87 =>
 kia 1 a0 v42 fun v88 =>
 kst p74 1 v88 v85 fun p89 =>
 kia 1 a0 v73 fun v90 =>
 kst p89 1 v90 v87 fun p91 =>
 kad v42 q14 fun v92 =>
 ksb v73 q14 fun v93 =>
 jn 1 (fun j94 =>
 lp 2 fuel (fun r95 v96 v97 p98 =>
 jn 2 (fun j99 =>
 jn 1 (fun j100 =>
 lp 1 fuel (fun r101 v102 p103 =>
 kle v102 v97 fun v104 =>
 jn 11 (fun j105 => gdK v104 true (kia 1 a0 v102 fun v106 =>
 kld (prt [] p103) v106 fun v107 =>
 kia 1 a0 a1 fun v108 =>
 kld (prt [] p103) v108 fun v109 =>
 kcv t255 p103 a4 [v107, v109] fun v110 p111 =>
 klt v110 q0 fun v112 =>
 j105 a4 a0 v102 v106 v107 a0 a1 v108 v109 v110 v112 p111) (j105 .undef .undef .undef .undef .undef .undef .undef .undef .undef .undef .undef p103)) fun v113 v114 v115 v116 v117 v118 v119 v120 v121 v122 v123 p124 =>
 kpk v104 v123 q13 fun v125 =>
 kif v125
 (kad v102 q14 fun v126 =>
 r101 v126 p124)
 (j100 v102 p124)) v96 p98) fun v127 p128 =>
 jn 1 (fun j129 =>
 lp 1 fuel (fun r130 v131 p132 =>
 kle v127 v131 fun v133 =>
 jn 12 (fun j134 => gdK v133 true (kia 1 a0 v131 fun v135 =>
 kld (prt [] p132) v135 fun v136 =>
 kia 1 a0 a1 fun v137 =>
 kld (prt [] p132) v137 fun v138 =>
 kcv t255 p132 a4 [v136, v138] fun v139 p140 =>
 klt v139 q0 fun v141 =>
 knt v141 fun v142 =>
 j134 a4 a0 v131 v135 v136 a0 a1 v137 v138 v139 v141 v142 p140) (j134 .undef .undef .undef .undef .undef .undef .undef .undef .undef .undef .undef .undef p132)) fun v143 v144 v145 v146 v147 v148 v149 v150 v151 v152 v153 v154 p155 =>
 kpk v133 v154 q13 fun v156 =>
 kif v156
 (ksb v131 q14 fun v157 =>
 r130 v157 p155)
 (j129 v131 p155)) v97 p128) fun v158 p159 =>
 kgt v127 v158 fun v160 =>
 kif v160
 (j94 v158 p159)
 (kia 1 a0 v158 fun v161 =>
 kld (prt [] p159) v161 fun v162 =>
 kia 1 a0 v127 fun v163 =>
 kld (prt [] p159) v163 fun v164 =>
 kia 1 a0 v127 fun v165 =>
 kst p159 1 v165 v162 fun p166 =>
 kia 1 a0 v158 fun v167 =>
 kst p166 1 v167 v164 fun p168 =>
 kad v127 q14 fun v169 =>
 ksb v158 q14 fun v170 =>
 j99 v169 v170 p168)) fun v171 v172 p173 =>
 r95 v171 v172 p173) v92 v93 p91) fun v174 p175 =>
 kia 1 a0 a1 fun v176 =>
 kld (prt [] p175) v176 fun v177 =>
 kia 1 a0 v174 fun v178 =>
 kld (prt [] p175) v178 fun v179 =>
 kia 1 a0 v174 fun v180 =>
 kst p175 1 v180 v177 fun p181 =>
 kia 1 a0 a1 fun v182 =>
 kst p181 1 v182 v179 fun p183 =>
 k [v174, q13] p183)
theorem o255 : FO EN 255 f255 := fe (np := 5) (T := t255) tnil [some [12], some [12], none, none, some [13], some [13], none, none, none, some [13], some [12, 13], some [12, 13], some [12], some [12], none, none, some [13], some [13], none, none, none] (by kernel_rfl) fun p s k => by kernel_rfl
/- 228 slices.pdqsortCmpFunc[[]int] -/
def t228 (self : FT) : List Ce := [⟨248, ci f248⟩, ⟨249, cc f249⟩, ⟨250, cc f250⟩, ⟨251, cc f251⟩, ⟨252, cc f252⟩, ⟨253, cc f253⟩, ⟨254, cc f254⟩, ⟨255, cc f255⟩, ⟨228, ci self⟩]
def g228 : FT → FT := fun self => fun p s k => hd s fun a0 s0 =>
 hd s0 fun a1 s1 =>
 hd s1 fun a2 s2 =>
 hd s2 fun a3 s3 =>
 hd s3 fun a4 s4 =>
 nl s4 <|
 jn 0 (fun j5 =>
 lp 5 fuel (fun r6 v7 v8 v9 v10 v11 p12 =>
 jn 5 (fun j13 =>
 ksb v8 v7 fun v14 =>
 kle v14 q27 fun v15 =>
 kif v15
 (ci f248 p12 [a0, v7, v8, a4] fun v16 p17 =>
 k [] p17)
 (keq false .i v9 q0 fun v18 =>
 kif v18
 (cc f249 p12 [a0, v7, v8, a4] fun v19 p20 =>
 k [] p20)
 (knt v10 fun v21 =>
 jn 1 (fun j22 => kif v21
 (cc f250 p12 [a0, v7, v8, a4] fun v23 p24 =>
 ksb v9 q14 fun v25 =>
 j22 v25 p24)
 (j22 v9 p12)) fun v26 p27 =>
 cc f251 p27 [a0, v7, v8, a4] fun v28 p29 =>
 kex v28 0 fun v30 =>
 kex v28 1 fun v31 =>
 keq false .i v31 q16 fun v32 =>
 jn 2 (fun j33 => kif v32
 (cc f252 p29 [a0, v7, v8, a4] fun v34 p35 =>
 ksb v8 q14 fun v36 =>
 ksb v30 v7 fun v37 =>
 ksb v36 v37 fun v38 =>
 j33 v38 q14 p35)
 (j33 v30 v31 p29)) fun v39 v40 p41 =>
 jn 1 (fun j42 => gdK v10 true (j42 v11 p41) (j42 .undef p41)) fun v43 p44 =>
 kpk v10 v43 q13 fun v45 =>
 jn 2 (fun j46 => gdK v45 true (keq false .i v40 q14 fun v47 =>
 j46 v40 v47 p44) (j46 .undef .undef p44)) fun v48 v49 p50 =>
 kpk v45 v49 q13 fun v51 =>
 jn 0 (fun j52 => kif v51
 (cc f253 p50 [a0, v7, v8, a4] fun v53 p54 =>
 kif v53
 (k [] p54)
 (j52 p54))
 (j52 p50)) fun p55 =>
 kgt v7 q0 fun v56 =>
 jn 13 (fun j57 => gdK v56 true (ksb v7 q14 fun v58 =>
 kia 1 a0 v58 fun v59 =>
 kld (prt [] p55) v59 fun v60 =>
 kia 1 a0 v39 fun v61 =>
 kld (prt [] p55) v61 fun v62 =>
 kcv (t228 self) p55 a4 [v60, v62] fun v63 p64 =>
 klt v63 q0 fun v65 =>
 knt v65 fun v66 =>
 j57 a4 a0 v7 v58 v59 v60 a0 v39 v61 v62 v63 v65 v66 p64) (j57 .undef .undef .undef .undef .undef .undef .undef .undef .undef .undef .undef .undef .undef p55)) fun v67 v68 v69 v70 v71 v72 v73 v74 v75 v76 v77 v78 v79 p80 =>
 kpk v56 v79 q13 fun v81 =>
 kif v81
 (cc f254 p80 [a0, v7, v8, v39, a4] fun v82 p83 =>
 j13 v82 v8 v26 v10 v11 p83)
 (cc f255 p80 [a0, v7, v8, v39, a4] fun v84 p85 =>
 kex v84 0 fun v86 =>
 kex v84 1 fun v87 =>
 ksb v86 v7 fun v88 =>
 ksb v8 v86 fun v89 =>
 kar .quo v14 q6 fun v90 =>
 klt v88 v89 fun v91 =>
 jn 3 (fun j92 => kif v91
 (kge v88 v90 fun v93 =>
 ci self p85 [a0, v7, v86, v26, a4] fun v94 p95 =>
 kad v86 q14 fun v96 =>
 j92 v96 v8 v93 p95)
 (kge v89 v90 fun v97 =>
 kad v86 q14 fun v98 =>
 ci self p85 [a0, v98, v8, v26, a4] fun v99 p100 =>
 j92 v7 v86 v97 p100)) fun v101 v102 v103 p104 =>
 j13 v101 v102 v26 v103 v87 p104)))) fun v105 v106 v107 v108 v109 p110 =>
 r6 v105 v106 v107 v108 v109 p110) a1 a2 a3 q29 q29 p) fun p111 =>
 k [] p111
def f228 : FT := rcF depth g228
theorem o228 : FO EN 228 f228 := FO.rc (fun self h => fe (np := 5) (T := t228 self) (tcons (ci_ok o248) (tcons (cc_ok o249) (tcons (cc_ok o250) (tcons (cc_ok o251) (tcons (cc_ok o252) (tcons (cc_ok o253) (tcons (cc_ok o254) (tcons (cc_ok o255) (tcons (ci_ok h) tnil))))))))) [some [], some [1, 2, 3, 10, 11], some [1, 2, 3, 10, 11], none, none, some [3], some [13, 14], some [], none, none, some [1, 2, 10]] (by kernel_rfl) fun p s k => by kernel_rfl) depth
/- 206 slices.SortFunc[[][]int,[]int] -/
def t206 : List Ce := [⟨42, cc f42⟩, ⟨228, ci f228⟩]
def f206 : FT := fun p s k => hd s fun a0 s0 =>
 hd s0 fun a1 s1 =>
 nl s1 <|
 kln a0 fun v2 =>
 kci .u64 v2 fun v3 =>
 cc f42 p [v3] fun v4 p5 =>
 ci f228 p5 [a0, q0, v2, v4, a1] fun v6 p7 =>
 k [] p7
theorem o206 : FO EN 206 f206 := fe (np := 2) (T := t206) (tcons (cc_ok o42) (tcons (ci_ok o228) tnil)) [] (by kernel_rfl) fun p s k => by kernel_rfl
/- 172 countersign/comps.ready -/
def t172 : List Ce := [⟨206, ci f206⟩]
def f172 : FT := fun p s k => hd s fun a0 s0 =>
 hd s0 fun a1 s1 =>
 nl s1 <|
 kbx p 2 a0 fun v2 p3 =>
 kbx p3 1 a1 fun v4 p5 =>
 kld p5 v4 fun v6 =>
 ci f206 p5 [v6, q94] fun v7 p8 =>
 kfa 0 v2 fun v9 =>
 kld p8 v9 fun v10 =>
 kms p8 1 8 q24 v10 v10 fun v11 p12 =>
 kal p12 q75 fun v13 p14 =>
 kst p14 1 v13 v11 fun p15 =>
 kld p15 v4 fun v16 =>
 kln v16 fun v17 =>
 jn 0 (fun j18 =>
 lp 1 fuel (fun r19 v20 p21 =>
 klt v20 v17 fun v22 =>
 kif v22
 (jn 0 (fun j23 =>
 kia 1 v16 v20 fun v24 =>
 kld p21 v24 fun v25 =>
 kln v25 fun v26 =>
 jn 0 (fun j27 =>
 lp 1 fuel (fun r28 v29 p30 =>
 klt v29 v26 fun v31 =>
 kif v31
 (kia 1 v25 v29 fun v32 =>
 kld p30 v32 fun v33 =>
 kld p30 v13 fun v34 =>
 kia 1 v34 v33 fun v35 =>
 kst p30 1 v35 v20 fun p36 =>
 kad v29 q14 fun v37 =>
 r28 v37 p36)
 (j27 p30)) q0 p21) fun p38 =>
 j23 p38) fun p39 =>
 kad v20 q14 fun v40 =>
 r19 v40 p39)
 (j18 p21)) q0 p15) fun p41 =>
 k [(.func (.func 208) [] [v4, v2, v13])] p41
theorem o172 : FO EN 172 f172 := fe (np := 2) (T := t172) (tcons (ci_ok o206) tnil) [some [], some [17], none, some [], some [], some [24], none, none] (by kernel_rfl) fun p s k => by kernel_rfl
/- 175 slices.Clip[[][]int,[]int] -/
def t175 : List Ce := []
def f175 : FT := fun p s k => hd s fun a0 s0 =>
 nl s0 <|
 kln a0 fun v1 =>
 kln a0 fun v2 =>
 ksl 1 a0 none (some v1) (some v2) fun v3 =>
 k [v3] p
theorem o175 : FO EN 175 f175 := fe (np := 1) (T := t175) tnil [] (by kernel_rfl) fun p s k => by kernel_rfl
/- 1139008 round -/
def tr139008 : List Ce := [⟨174, ci f174⟩]
def fr139008 : FT := fun p s k => hd s fun pj s => ptrK pj (fun j _ => hd s fun tv fr => tupK tv fun vals => ifB (Nat.beq (lenF fr) 53) (ifB (Nat.ble p.floor j) (isR0 p j (
 hdK (drK 5 fr) fun x0 =>
 hd vals fun a1 s0 =>
 nl s0 <|
 isR0 p j (putK p j (some (.rnd (nat_lit 1))) fun p2 =>
 jn 0 (fun j3 =>
 kln a1 fun v4 =>
 jn 0 (fun j5 =>
 lp 1 fuel (fun r6 v7 p8 =>
 klt v7 v4 fun v9 =>
 kif v9
 (kia 1 a1 v7 fun v10 =>
 kld p8 v10 fun v11 =>
 kfa 1 x0 fun v12 =>
 kld p8 v12 fun v13 =>
 kfa 0 x0 fun v14 =>
 kld p8 v14 fun v15 =>
 kln v15 fun v16 =>
 kia 1 v13 v11 fun v17 =>
 kst p8 1 v17 v16 fun p18 =>
 kad v7 q14 fun v19 =>
 r6 v19 p18)
 (j5 p8)) q0 p2) fun p20 =>
 kfa 0 x0 fun v21 =>
 kld (prt [] p20) v21 fun v22 =>
 ci f174 (prt [] p20) [a1] fun v23 p24 =>
 unpK p20 p24 fun p25 =>
 kbs p25 1 q75 [(0, 1, v23)] fun v26 p27 =>
 kap p27 1 24 v22 v26 fun v28 p29 =>
 kfa 0 x0 fun v30 =>
 kst p29 1 v30 v28 fun p31 =>
 j3 p31) fun p32 =>
 rndK p32 j fun _ => putK p32 j (some (.rnd (nat_lit 0))) fun p33 => k [.bool true] p33))))) n2
theorem or139008 : FO EN 1139008 fr139008 := re (r := 139008) (N := 53) (L := [5]) (T := tr139008) (tcons (ci_ok o174) tnil) [] [some [], some [], some [29], none, none] (by kernel_rfl) fun p s k => by kernel_rfl
/- 208 countersign/comps.ready$2 -/
def t208 : List Ce := [⟨1139008, ci fr139008⟩]
def f208 : FT := fun p s k => hd s fun a0 s0 =>
 hd s0 fun a1 s1 =>
 hd s1 fun a2 s2 =>
 hd s2 fun a3 s3 =>
 nl s3 <|
 kld p a1 fun v4 =>
 kln v4 fun v5 =>
 kms p 1 1 q84 v5 v5 fun v6 p7 =>
 kld p7 a1 fun v8 =>
 kln v8 fun v9 =>
 jn 0 (fun j10 =>
 lp 1 fuel (fun r11 v12 p13 =>
 klt v12 v9 fun v14 =>
 kif v14
 (jn 0 (fun j15 =>
 kld p13 a1 fun v16 =>
 kln v16 fun v17 =>
 kms p13 1 1 q84 v17 v17 fun v18 p19 =>
 kfa 1 a2 fun v20 =>
 kld p19 v20 fun v21 =>
 kln v21 fun v22 =>
 jn 0 (fun j23 =>
 lp 1 fuel (fun r24 v25 p26 =>
 klt v25 v22 fun v27 =>
 kif v27
 (kia 3 v21 v25 fun v28 =>
 kla p26 3 v28 fun v29 =>
 kal p26 q87 fun v30 p31 =>
 kst p31 3 v30 v29 fun p32 =>
 kld (prt [] p32) a3 fun v33 =>
 kfa 0 v30 fun v34 =>
 kld (prt [] p32) v34 fun v35 =>
 kia 1 v33 v35 fun v36 =>
 kld (prt [] p32) v36 fun v37 =>
 kld (prt [] p32) a3 fun v38 =>
 kfa 1 v30 fun v39 =>
 kld (prt [] p32) v39 fun v40 =>
 kia 1 v38 v40 fun v41 =>
 kld (prt [] p32) v41 fun v42 =>
 keq true .i v37 v42 fun v43 =>
 jn 5 (fun j44 => gdK v43 true (kia 1 v6 v42 fun v45 =>
 kld p32 v45 fun v46 =>
 knt v46 fun v47 =>
 j44 v6 v42 v45 v46 v47 p32) (j44 .undef .undef .undef .undef .undef p32)) fun v48 v49 v50 v51 v52 p53 =>
 kpk v43 v52 q13 fun v54 =>
 jn 0 (fun j55 => kif v54
 (kia 1 v18 v37 fun v56 =>
 kst p53 1 v56 q29 fun p57 =>
 j55 p57)
 (j55 p53)) fun p58 =>
 kad v25 q14 fun v59 =>
 r24 v59 p58)
 (j23 p26)) q0 p19) fun p60 =>
 kld p60 a1 fun v61 =>
 kln v61 fun v62 =>
 jn 0 (fun j63 =>
 lp 1 fuel (fun r64 v65 p66 =>
 klt v65 v62 fun v67 =>
 kif v67
 (kia 1 v6 v65 fun v68 =>
 kld p66 v68 fun v69 =>
 knt v69 fun v70 =>
 jn 5 (fun j71 => gdK v70 true (kia 1 v18 v65 fun v72 =>
 kld p66 v72 fun v73 =>
 knt v73 fun v74 =>
 j71 v18 v65 v72 v73 v74 p66) (j71 .undef .undef .undef .undef .undef p66)) fun v75 v76 v77 v78 v79 p80 =>
 kpk v70 v79 q13 fun v81 =>
 kif v81
 (kia 1 v6 v65 fun v82 =>
 kst p80 1 v82 q29 fun p83 =>
 kld p83 a1 fun v84 =>
 kia 1 v84 v65 fun v85 =>
 kld p83 v85 fun v86 =>
 kcv t208 p83 a0 [v86] fun v87 p88 =>
 knt v87 fun v89 =>
 kif v89
 (k [] p88)
 (j63 p88))
 (kad v65 q14 fun v90 =>
 r64 v90 p80))
 (j63 p66)) q0 p60) fun p91 =>
 j15 p91) fun p92 =>
 kad v12 q14 fun v93 =>
 r11 v93 p92)
 (j10 p13)) q0 p7) fun p94 =>
 k [] p94
theorem o208 : FO EN 208 f208 := fe (np := 4) (T := t208) (tcons (ci_ok or139008) tnil) [some [], some [17], none, some [], some [], some [25], none, none, some [], some [], some [55], none, none, none, none] (by kernel_rfl) fun p s k => by kernel_rfl
/- 139 countersign/comps.Of -/
def t139 : List Ce := [⟨171, cn f171⟩, ⟨173, cn f173⟩, ⟨172, ci f172⟩, ⟨175, ci f175⟩, ⟨208, ci f208⟩]
def f139 : FT := fun p s k => hd s fun a0 s0 =>
 nl s0 <|
 kbx p 2 a0 fun v1 p2 =>
 kal p2 q95 fun v3 p4 =>
 kla p4 2 v1 fun v5 =>
 cn f171 p4 [v5] fun v6 p7 =>
 keq true .i v6 q0 fun v8 =>
 kif v8
 (kbd q95 [] fun v9 =>
 kst p7 2 v3 v9 fun p10 =>
 kra p10 2 v3 fun v11 =>
 k [v11, v6] p10)
 (kal p7 q95 fun v12 p13 =>
 kfa 0 v1 fun v14 =>
 kld p13 v14 fun v15 =>
 kgt v15 q0 fun v16 =>
 jn 0 (fun j17 => kif v16
 (kfa 0 v1 fun v18 =>
 kld p13 v18 fun v19 =>
 kms p13 1 8 q24 v19 v19 fun v20 p21 =>
 kfa 1 v12 fun v22 =>
 kst p21 1 v22 v20 fun p23 =>
 j17 p23)
 (j17 p13)) fun p24 =>
 kla (prt [] p24) 2 v1 fun v25 =>
 kla (prt [] p24) 2 v1 fun v26 =>
 cn f173 (prt [] p24) [v26] fun v27 p28 =>
 unpK p24 p28 fun p29 =>
 ci f172 p29 [v25, v27] fun v30 p31 =>
 krg t139 p31 139008 v30 (V.mk 53 [(5, v12)]) (fun p32 =>
 kfa 0 v12 fun v34 =>
 kld p32 v34 fun v35 =>
 ci f175 p32 [v35] fun v36 p37 =>
 kfa 0 v12 fun v38 =>
 kst p37 1 v38 v36 fun p39 =>
 kla p39 2 v12 fun v40 =>
 kst p39 2 v3 v40 fun p41 =>
 kra p41 2 v3 fun v42 =>
 k [v42, q0] p41) (fun p33 =>
 kra p33 2 v3 fun v43 =>
 k [v43, q0] p33) [])
theorem o139 : FO EN 139 f139 := fe (np := 1) (T := t139) (tcons (cn_ok o171) (tcons (cn_ok o173) (tcons (ci_ok o172) (tcons (ci_ok o175) (tcons (ci_ok o208) tnil))))) [none, some [], none, some [5], some []] (by kernel_rfl) fun p s k => by kernel_rfl
/- 177 slices.Compact[[]int,int] -/
def t177 : List Ce := []
def f177 : FT := fun p s k => hd s fun a0 s0 =>
 nl s0 <|
 kln a0 fun v1 =>
 klt v1 q16 fun v2 =>
 kif v2
 (k [a0] p)
 (jn 0 (fun j3 =>
 lp 1 fuel (fun r4 v5 p6 =>
 kln a0 fun v7 =>
 klt v5 v7 fun v8 =>
 kif v8
 (jn 1 (fun j9 =>
 kia 1 a0 v5 fun v10 =>
 kld (prt [] p6) v10 fun v11 =>
 ksb v5 q14 fun v12 =>
 kia 1 a0 v12 fun v13 =>
 kld (prt [] p6) v13 fun v14 =>
 keq false .i v11 v14 fun v15 =>
 kif v15
 (ksl 1 a0 (some v5) none none fun v16 =>
 jn 1 (fun j17 =>
 lp 2 fuel (fun r18 v19 v20 p21 =>
 kln v16 fun v22 =>
 klt v20 v22 fun v23 =>
 kif v23
 (kia 1 v16 v20 fun v24 =>
 kld (prt [] p21) v24 fun v25 =>
 ksb v20 q14 fun v26 =>
 kia 1 v16 v26 fun v27 =>
 kld (prt [] p21) v27 fun v28 =>
 keq true .i v25 v28 fun v29 =>
 jn 1 (fun j30 => kif v29
 (kia 1 v16 v20 fun v31 =>
 kld p21 v31 fun v32 =>
 kia 1 a0 v19 fun v33 =>
 kst p21 1 v33 v32 fun p34 =>
 kad v19 q14 fun v35 =>
 j30 v35 p34)
 (j30 v19 p21)) fun v36 p37 =>
 kad v20 q14 fun v38 =>
 r18 v36 v38 p37)
 (j17 v19 p21)) v5 q14 p6) fun v39 p40 =>
 ksl 1 a0 (some v39) none none fun v41 =>
 ksw mth p40 (.clear q24 (.c v41)) fun v42 p43 =>
 ksl 1 a0 none (some v39) none fun v44 =>
 k [v44] p43)
 (j9 v5 p6)) fun v45 p46 =>
 kad v45 q14 fun v47 =>
 r4 v47 p46)
 (j3 p6)) q14 p) fun p48 =>
 k [a0] p48)
theorem o177 : FO EN 177 f177 := fe (np := 1) (T := t177) tnil [none, some [], some [3], none, some [3], none, some [3], some [3, 5], none, none, some [3]] (by kernel_rfl) fun p s k => by kernel_rfl
end
end Go.V
end

section
set_option maxRecDepth 100000
set_option linter.unusedVariables false
namespace Go.V
noncomputable section
/- 140 countersign/comps.Mixed -/
def t140 : List Ce := [⟨139, cc f139⟩, ⟨176, cn f176⟩, ⟨177, cc f177⟩, ⟨174, ci f174⟩]
def f140 : FT := fun p s k => hd s fun a0 s0 =>
 nl s0 <|
 kbx p 2 a0 fun v1 p2 =>
 kla p2 2 v1 fun v3 =>
 cc f139 p2 [v3] fun v4 p5 =>
 kex v4 0 fun v6 =>
 kex v4 1 fun v7 =>
 kal p5 q95 fun v8 p9 =>
 kst p9 2 v8 v6 fun p10 =>
 keq true .i v7 q0 fun v11 =>
 kif v11
 (k [.nils, v7] p10)
 (kfa 1 v1 fun v12 =>
 kld p10 v12 fun v13 =>
 kln v13 fun v14 =>
 jn 1 (fun j15 =>
 lp 2 fuel (fun r16 v17 v18 p19 =>
 klt v18 v14 fun v20 =>
 kif v20
 (kia 3 v13 v18 fun v21 =>
 kla p19 3 v21 fun v22 =>
 kal p19 q87 fun v23 p24 =>
 kst p24 3 v23 v22 fun p25 =>
 kfa 2 v23 fun v26 =>
 kld p25 v26 fun v27 =>
 jn 13 (fun j28 => gdK v27 true (kfa 1 v8 fun v29 =>
 kld (prt [] p25) v29 fun v30 =>
 kfa 0 v23 fun v31 =>
 kld (prt [] p25) v31 fun v32 =>
 kia 1 v30 v32 fun v33 =>
 kld (prt [] p25) v33 fun v34 =>
 kfa 1 v8 fun v35 =>
 kld (prt [] p25) v35 fun v36 =>
 kfa 1 v23 fun v37 =>
 kld (prt [] p25) v37 fun v38 =>
 kia 1 v36 v38 fun v39 =>
 kld (prt [] p25) v39 fun v40 =>
 keq false .i v34 v40 fun v41 =>
 j28 v29 v30 v31 v32 v33 v34 v35 v36 v37 v38 v39 v40 v41 p25) (j28 .undef .undef .undef .undef .undef .undef .undef .undef .undef .undef .undef .undef .undef p25)) fun v42 v43 v44 v45 v46 v47 v48 v49 v50 v51 v52 v53 v54 _ =>
 kpk v27 v54 q13 fun v56 =>
 jn 1 (fun j57 => kif v56
 (kfa 1 v8 fun v58 =>
 kld p25 v58 fun v59 =>
 kfa 0 v23 fun v60 =>
 kld p25 v60 fun v61 =>
 kia 1 v59 v61 fun v62 =>
 kld p25 v62 fun v63 =>
 kbs p25 1 q24 [(0, 1, v63)] fun v64 p65 =>
 kap p65 1 8 v17 v64 fun v66 p67 =>
 j57 v66 p67)
 (j57 v17 p25)) fun v68 p69 =>
 kad v18 q14 fun v70 =>
 r16 v68 v70 p69)
 (j15 v17 p19)) .nils q0 p10) fun v71 p72 =>
 cn f176 p72 [v71] fun v73 p74 =>
 cc f177 p74 [v71] fun v75 p76 =>
 ci f174 p76 [v75] fun v77 p78 =>
 k [v77, q0] p78)
theorem o140 : FO EN 140 f140 := fe (np := 1) (T := t140) (tcons (cc_ok o139) (tcons (cn_ok o176) (tcons (cc_ok o177) (tcons (ci_ok o174) tnil)))) [none, some [6], some [6, 20], none, none, some [6]] (by kernel_rfl) fun p s k => by kernel_rfl
/- 141 countersign/strata.step -/
def t141 : List Ce := []
def f141 : FT := fun p s k => hd s fun a0 s0 =>
 nl s0 <|
 kbx p 3 a0 fun v1 p2 =>
 kfa 2 v1 fun v3 =>
 kld p2 v3 fun v4 =>
 kif v4
 (k [q14] p2)
 (k [q0] p2)
theorem o141 : FO EN 141 f141 := fe (np := 1) (T := t141) tnil [none] (by kernel_rfl) fun p s k => by kernel_rfl
/- 105 countersign/strata.greatest -/
def t105 : List Ce := []
def f105 : FT := fun p s k => hd s fun a0 s0 =>
 nl s0 <|
 kln a0 fun v1 =>
 jn 1 (fun j2 =>
 lp 2 fuel (fun r3 v4 v5 p6 =>
 klt v5 v1 fun v7 =>
 kif v7
 (kia 1 a0 v5 fun v8 =>
 kld p6 v8 fun v9 =>
 ksw mth p6 (.minmax true [(.c v4), (.c v9)]) fun v10 p11 =>
 kad v5 q14 fun v12 =>
 r3 v10 v12 p11)
 (j2 v4 p6)) q0 q0 p) fun v13 p14 =>
 k [v13] p14
theorem o105 : FO EN 105 f105 := fe (np := 1) (T := t105) tnil [some [3], some [3, 8], none, none] (by kernel_rfl) fun p s k => by kernel_rfl
/- 102 countersign/strata.Numbers -/
def t102 : List Ce := [⟨139, cc f139⟩, ⟨140, cn f140⟩, ⟨141, cn f141⟩, ⟨105, cc f105⟩]
def f102 : FT := fun p s k => hd s fun a0 s0 =>
 nl s0 <|
 kbx p 2 a0 fun v1 p2 =>
 kla p2 2 v1 fun v3 =>
 cc f139 p2 [v3] fun v4 p5 =>
 kex v4 0 fun v6 =>
 kex v4 1 fun v7 =>
 kal p5 q95 fun v8 p9 =>
 kst p9 2 v8 v6 fun p10 =>
 keq true .i v7 q0 fun v11 =>
 kif v11
 (k [.nils, v7] p10)
 (kla p10 2 v1 fun v12 =>
 cn f140 p10 [v12] fun v13 p14 =>
 kex v13 0 fun v15 =>
 kex v13 1 fun v16 =>
 kln v15 fun v17 =>
 kgt v17 q0 fun v18 =>
 kif v18
 (k [.nils, q27] p14)
 (kfa 0 v1 fun v19 =>
 kld p14 v19 fun v20 =>
 kgt v20 q0 fun v21 =>
 jn 1 (fun j22 => kif v21
 (kfa 0 v1 fun v23 =>
 kld p14 v23 fun v24 =>
 kms p14 1 8 q24 v24 v24 fun v25 p26 =>
 j22 v25 p26)
 (j22 .nils p14)) fun v27 p28 =>
 kfa 0 v8 fun v29 =>
 kld p28 v29 fun v30 =>
 kln v30 fun v31 =>
 jn 0 (fun j32 =>
 lp 1 fuel (fun r33 v34 p35 =>
 klt v34 v31 fun v36 =>
 kif v36
 (jn 0 (fun j37 =>
 kia 1 v30 v34 fun v38 =>
 kld p35 v38 fun v39 =>
 kfa 1 v1 fun v40 =>
 kld p35 v40 fun v41 =>
 kln v41 fun v42 =>
 jn 1 (fun j43 =>
 lp 2 fuel (fun r44 v45 v46 p47 =>
 klt v46 v42 fun v48 =>
 kif v48
 (kia 3 v41 v46 fun v49 =>
 kla p47 3 v49 fun v50 =>
 kal p47 q87 fun v51 p52 =>
 kst p52 3 v51 v50 fun p53 =>
 kfa 1 v8 fun v54 =>
 kld p53 v54 fun v55 =>
 kfa 0 v51 fun v56 =>
 kld p53 v56 fun v57 =>
 kia 1 v55 v57 fun v58 =>
 kld p53 v58 fun v59 =>
 keq false .i v59 v34 fun v60 =>
 jn 8 (fun j61 => gdK v60 true (kfa 1 v8 fun v62 =>
 kld p53 v62 fun v63 =>
 kfa 1 v51 fun v64 =>
 kld p53 v64 fun v65 =>
 kia 1 v63 v65 fun v66 =>
 kld p53 v66 fun v67 =>
 keq true .i v67 v34 fun v68 =>
 j61 v62 v63 v64 v65 v66 v67 v34 v68 p53) (j61 .undef .undef .undef .undef .undef .undef .undef .undef p53)) fun v69 v70 v71 v72 v73 v74 v75 v76 p77 =>
 kpk v60 v76 q13 fun v78 =>
 jn 1 (fun j79 => kif v78
 (kfa 1 v51 fun v80 =>
 kld (prt [] p77) v80 fun v81 =>
 kia 1 v27 v81 fun v82 =>
 kld (prt [] p77) v82 fun v83 =>
 kla (prt [] p77) 3 v51 fun v84 =>
 cn f141 (prt [] p77) [v84] fun v85 p86 =>
 unpK p77 p86 fun p87 =>
 kad v83 v85 fun v88 =>
 kbs p87 1 q24 [(0, 1, v88)] fun v89 p90 =>
 kap p90 1 8 v45 v89 fun v91 p92 =>
 j79 v91 p92)
 (j79 v45 p77)) fun v93 p94 =>
 kad v46 q14 fun v95 =>
 r44 v93 v95 p94)
 (j43 v45 p47)) .nils q0 p35) fun v96 p97 =>
 kln v39 fun v98 =>
 jn 0 (fun j99 =>
 lp 1 fuel (fun r100 v101 p102 =>
 klt v101 v98 fun v103 =>
 kif v103
 (kia 1 v39 v101 fun v104 =>
 kld p102 v104 fun v105 =>
 cc f105 p102 [v96] fun v106 p107 =>
 kia 1 v27 v105 fun v108 =>
 kst p107 1 v108 v106 fun p109 =>
 kad v101 q14 fun v110 =>
 r100 v110 p109)
 (j99 p102)) q0 p97) fun p111 =>
 j37 p111) fun p112 =>
 kad v34 q14 fun v113 =>
 r33 v113 p112)
 (j32 p35)) q0 p28) fun p114 =>
 k [v27, q0] p114))
theorem o102 : FO EN 102 f102 := fe (np := 1) (T := t102) (tcons (cc_ok o139) (tcons (cn_ok o140) (tcons (cn_ok o141) (tcons (cc_ok o105) tnil)))) [none, none, some [8], some [], some [41], none, some [], some [11], some [11, 49], none, none, some [11], some [], some [85], none, none] (by kernel_rfl) fun p s k => by kernel_rfl
/- 103 countersign/schemas.At -/
def t103 : List Ce := [⟨109, cc f109⟩, ⟨110, cc f110⟩]
def f103 : FT := fun p s k => hd s fun a0 s0 =>
 hd s0 fun a1 s1 =>
 nl s1 <|
 kbx p 1 a0 fun v2 p3 =>
 kla p3 1 v2 fun v4 =>
 cc f109 p3 [v4] fun v5 p6 =>
 keq true .i v5 q0 fun v7 =>
 kif v7
 (k [q39, q39, v5] p6)
 (kla p6 1 v2 fun v8 =>
 cc f110 p6 [v8] fun v9 p10 =>
 klt a1 q0 fun v11 =>
 jn 7 (fun j12 => gdK v11 false (knc v9 fun v13 =>
 kfa 3 v13 fun v14 =>
 kld p10 v14 fun v15 =>
 kln v15 fun v16 =>
 kge a1 v16 fun v17 =>
 j12 a1 v9 v13 v14 v15 v16 v17 p10) (j12 .undef .undef .undef .undef .undef .undef .undef p10)) fun v18 v19 v20 v21 v22 v23 v24 p25 =>
 kpk v11 q29 v24 fun v26 =>
 kif v26
 (k [q39, q39, q23] p25)
 (knc v9 fun v27 =>
 kfa 4 v27 fun v28 =>
 kld (prt [] p25) v28 fun v29 =>
 kia 1 v29 a1 fun v30 =>
 kld (prt [] p25) v30 fun v31 =>
 knc v9 fun v32 =>
 kfa 3 v32 fun v33 =>
 kld (prt [] p25) v33 fun v34 =>
 kia 1 v34 a1 fun v35 =>
 kld (prt [] p25) v35 fun v36 =>
 knc v36 fun v37 =>
 kfa 0 v37 fun v38 =>
 kld (prt [] p25) v38 fun v39 =>
 k [v31, v39, q0] p25))
theorem o103 : FO EN 103 f103 := fe (np := 2) (T := t103) (tcons (cc_ok o109) (tcons (cc_ok o110) tnil)) [none, none] (by kernel_rfl) fun p s k => by kernel_rfl
/- 104 (*countersign/strata.named[int]).put -/
def t104 : List Ce := []
def f104 : FT := fun p s k => hd s fun a0 s0 =>
 hd s0 fun a1 s1 =>
 nl s1 <|
 knc a0 fun v2 =>
 kfa 2 v2 fun v3 =>
 kst p 1 v3 a1 fun p4 =>
 k [] p4
theorem o104 : FO EN 104 f104 := fe (np := 2) (T := t104) tnil [] (by kernel_rfl) fun p s k => by kernel_rfl
/- 51 countersign/strata.Of -/
def t51 : List Ce := [⟨101, cc f101⟩, ⟨102, cc f102⟩, ⟨103, cn f103⟩, ⟨104, ci f104⟩]
def f51 : FT := fun p s k => hd s fun a0 s0 =>
 nl s0 <|
 kbx p 1 a0 fun v1 p2 =>
 kal p2 q75 fun v3 p4 =>
 kla p4 1 v1 fun v5 =>
 cc f101 p4 [v5] fun v6 p7 =>
 kex v6 0 fun v8 =>
 kex v6 1 fun v9 =>
 kal p7 q89 fun v10 p11 =>
 kst p11 2 v10 v8 fun p12 =>
 keq true .i v9 q0 fun v13 =>
 kif v13
 (kbd q75 [] fun v14 =>
 kst p12 1 v3 v14 fun p15 =>
 kra p15 1 v3 fun v16 =>
 k [v16, v9] p15)
 (kla p12 2 v10 fun v17 =>
 cc f102 p12 [v17] fun v18 p19 =>
 kex v18 0 fun v20 =>
 kex v18 1 fun v21 =>
 keq true .i v21 q0 fun v22 =>
 kif v22
 (kbd q75 [] fun v23 =>
 kst p19 1 v3 v23 fun p24 =>
 kra p24 1 v3 fun v25 =>
 k [v25, v21] p24)
 (kln v20 fun v26 =>
 kms p19 3 40 q96 v26 v26 fun v27 p28 =>
 kbd q75 [(0, 1, v27)] fun v29 =>
 kal p28 q75 fun v30 p31 =>
 kst p31 1 v30 v29 fun p32 =>
 kfa 0 v30 fun v33 =>
 kld p32 v33 fun v34 =>
 kln v34 fun v35 =>
 jn 0 (fun j36 =>
 lp 1 fuel (fun r37 v38 p39 =>
 klt v38 v35 fun v40 =>
 kif v40
 (kfa 0 v30 fun v41 =>
 kld (prt [] p39) v41 fun v42 =>
 kfa 0 v30 fun v43 =>
 kld (prt [] p39) v43 fun v44 =>
 kla (prt [] p39) 1 v1 fun v45 =>
 cn f103 (prt [] p39) [v45, v38] fun v46 p47 =>
 unpK p39 p47 fun p48 =>
 kex v46 0 fun v49 =>
 kex v46 1 fun v50 =>
 kex v46 2 fun v51 =>
 kia 3 v42 v38 fun v52 =>
 kfa 0 v52 fun v53 =>
 kps p48 [] [v43] 1 v53 v49 fun b54 p55 =>
 kia 3 v44 v38 fun v56 =>
 kfa 1 v56 fun v57 =>
 kst p55 1 v57 v50 fun p58 =>
 kfa 0 v30 fun v59 =>
 kld (prt [] p58) v59 fun v60 =>
 kia 3 v60 v38 fun v61 =>
 kia 1 v20 v38 fun v62 =>
 kld (prt [] p58) v62 fun v63 =>
 ci f104 p58 [v61, v63] fun v64 p65 =>
 kad v38 q14 fun v66 =>
 r37 v66 p65)
 (j36 p39)) q0 p32) fun p67 =>
 kla p67 1 v30 fun v68 =>
 kst p67 1 v3 v68 fun p69 =>
 kra p69 1 v3 fun v70 =>
 k [v70, q0] p69))
theorem o51 : FO EN 51 f51 := fe (np := 1) (T := t51) (tcons (cc_ok o101) (tcons (cc_ok o102) (tcons (cn_ok o103) (tcons (ci_ok o104) tnil)))) [none, none, some [], some [34], none, none] (by kernel_rfl) fun p s k => by kernel_rfl
/- 52 (countersign/strata.Strata).Many -/
def t52 : List Ce := [⟨105, cc f105⟩]
def f52 : FT := fun p s k => hd s fun a0 s0 =>
 nl s0 <|
 kbx p 1 a0 fun v1 p2 =>
 kfa 0 v1 fun v3 =>
 kld p2 v3 fun v4 =>
 kln v4 fun v5 =>
 jn 1 (fun j6 =>
 lp 2 fuel (fun r7 v8 v9 p10 =>
 klt v9 v5 fun v11 =>
 kif v11
 (kia 3 v4 v9 fun v12 =>
 kla p10 3 v12 fun v13 =>
 kal p10 q96 fun v14 p15 =>
 kst p15 3 v14 v13 fun p16 =>
 kfa 2 v14 fun v17 =>
 kld p16 v17 fun v18 =>
 kad v18 q14 fun v19 =>
 kbs p16 2 q15 [(0, 1, v8), (1, 1, v19)] fun v20 p21 =>
 cc f105 p21 [v20] fun v22 p23 =>
 kad v9 q14 fun v24 =>
 r7 v22 v24 p23)
 (j6 v8 p10)) q0 q0 p2) fun v25 p26 =>
 k [v25] p26
theorem o52 : FO EN 52 f52 := fe (np := 1) (T := t52) (tcons (cc_ok o105) tnil) [some [3], some [3, 9], none, none] (by kernel_rfl) fun p s k => by kernel_rfl
/- 143 slices.Clip[[]countersign/api.Rule,countersign/api.Rule] -/
def t143 : List Ce := []
def f143 : FT := fun p s k => hd s fun a0 s0 =>
 nl s0 <|
 kln a0 fun v1 =>
 kln a0 fun v2 =>
 ksl 4 a0 none (some v1) (some v2) fun v3 =>
 k [v3] p
theorem o143 : FO EN 143 f143 := fe (np := 1) (T := t143) tnil [] (by kernel_rfl) fun p s k => by kernel_rfl
/- 107 countersign/rules.flat -/
def t107 (self : FT) : List Ce := [⟨107, cn self⟩, ⟨143, ci f143⟩]
def g107 : FT → FT := fun self => fun p s k => hd s fun a0 s0 =>
 nl s0 <|
 kbx p 4 a0 fun v1 p2 =>
 kal p2 q97 fun v3 p4 =>
 kfa 3 v1 fun v5 =>
 kld p4 v5 fun v6 =>
 kln v6 fun v7 =>
 jn 1 (fun j8 =>
 lp 2 fuel (fun r9 v10 v11 p12 =>
 klt v11 v7 fun v13 =>
 kif v13
 (kia 4 v6 v11 fun v14 =>
 kla p12 4 v14 fun v15 =>
 kal p12 q97 fun v16 p17 =>
 kst p17 4 v16 v15 fun p18 =>
 kla p18 4 v16 fun v19 =>
 cn self p18 [v19] fun v20 p21 =>
 kst p21 4 v16 v20 fun p22 =>
 kfa 0 v16 fun v23 =>
 kld p22 v23 fun v24 =>
 kfa 0 v1 fun v25 =>
 kld p22 v25 fun v26 =>
 keq false .i v24 v26 fun v27 =>
 jn 3 (fun j28 => gdK v27 true (kfa 0 v1 fun v29 =>
 kld p22 v29 fun v30 =>
 keq true .i v30 q73 fun v31 =>
 j28 v29 v30 v31 p22) (j28 .undef .undef .undef p22)) fun v32 v33 v34 p35 =>
 kpk v27 v34 q13 fun v36 =>
 jn 1 (fun j37 => kif v36
 (kfa 3 v16 fun v38 =>
 kld p35 v38 fun v39 =>
 kap p35 4 64 v10 v39 fun v40 p41 =>
 j37 v40 p41)
 (kla p35 4 v16 fun v42 =>
 kbs p35 1 q97 [(0, 4, v42)] fun v43 p44 =>
 kap p44 4 64 v10 v43 fun v45 p46 =>
 j37 v45 p46)) fun v47 p48 =>
 kad v11 q14 fun v49 =>
 r9 v47 v49 p48)
 (j8 v10 p12)) .nils q0 p4) fun v50 p51 =>
 ci f143 p51 [v50] fun v52 p53 =>
 kfa 3 v1 fun v54 =>
 kst p53 1 v54 v52 fun p55 =>
 kla p55 4 v1 fun v56 =>
 kst p55 4 v3 v56 fun p57 =>
 kra p57 4 v3 fun v58 =>
 k [v58] p57
def f107 : FT := rcF depth g107
theorem o107 : FO EN 107 f107 := FO.rc (fun self h => fe (np := 1) (T := t107 self) (tcons (cn_ok h) (tcons (ci_ok o143) tnil)) [some [3], some [3, 9], none, none, some [3]] (by kernel_rfl) fun p s k => by kernel_rfl) depth
/- 53 countersign/rules.Flat -/
def t53 : List Ce := [⟨106, cc f106⟩, ⟨107, cn f107⟩]
def f53 : FT := fun p s k => hd s fun a0 s0 =>
 nl s0 <|
 kbx p 4 a0 fun v1 p2 =>
 kal p2 q97 fun v3 p4 =>
 kla p4 4 v1 fun v5 =>
 cc f106 p4 [v5] fun v6 p7 =>
 keq true .i v6 q0 fun v8 =>
 kif v8
 (kbd q97 [] fun v9 =>
 kst p7 4 v3 v9 fun p10 =>
 kra p10 4 v3 fun v11 =>
 k [v11, v6] p10)
 (kla p7 4 v1 fun v12 =>
 cn f107 p7 [v12] fun v13 p14 =>
 kst p14 4 v3 v13 fun p15 =>
 kra p15 4 v3 fun v16 =>
 k [v16, q0] p15)
theorem o53 : FO EN 53 f53 := fe (np := 1) (T := t53) (tcons (cc_ok o106) (tcons (cn_ok o107) tnil)) [none] (by kernel_rfl) fun p s k => by kernel_rfl
/- 54 (countersign/strata.Strata).At -/
def t54 : List Ce := []
def f54 : FT := fun p s k => hd s fun a0 s0 =>
 hd s0 fun a1 s1 =>
 hd s1 fun a2 s2 =>
 nl s2 <|
 kbx p 1 a0 fun v3 p4 =>
 kfa 0 v3 fun v5 =>
 kld p4 v5 fun v6 =>
 kln v6 fun v7 =>
 jn 0 (fun j8 =>
 lp 1 fuel (fun r9 v10 p11 =>
 klt v10 v7 fun v12 =>
 kif v12
 (kia 3 v6 v10 fun v13 =>
 kla p11 3 v13 fun v14 =>
 kal p11 q96 fun v15 p16 =>
 kst p16 3 v15 v14 fun p17 =>
 kfa 0 v15 fun v18 =>
 kld p17 v18 fun v19 =>
 keq false .s v19 a1 fun v20 =>
 jn 4 (fun j21 => gdK v20 true (kfa 1 v15 fun v22 =>
 kld p17 v22 fun v23 =>
 keq false .s v23 a2 fun v24 =>
 j21 v22 v23 a2 v24 p17) (j21 .undef .undef .undef .undef p17)) fun v25 v26 v27 v28 p29 =>
 kpk v20 v28 q13 fun v30 =>
 kif v30
 (kfa 2 v15 fun v31 =>
 kld p29 v31 fun v32 =>
 k [v32, q0] p29)
 (kad v10 q14 fun v33 =>
 r9 v33 p29))
 (j8 p11)) q0 p4) fun p34 =>
 k [q0, q32] p34
theorem o54 : FO EN 54 f54 := fe (np := 3) (T := t54) tnil [some [], some [13], none, none, none] (by kernel_rfl) fun p s k => by kernel_rfl
/- 55 slices.Clone[[]countersign/api.Type,countersign/api.Type] -/
def t55 : List Ce := []
def f55 : FT := fun p s k => hd s fun a0 s0 =>
 nl s0 <|
 ken false .s a0 .nils fun v1 =>
 kif v1
 (k [.nils] p)
 (kbs p 0 [] [] fun v2 p3 =>
 kap p3 2 32 v2 a0 fun v4 p5 =>
 k [v4] p5)
theorem o55 : FO EN 55 f55 := fe (np := 1) (T := t55) tnil [none] (by kernel_rfl) fun p s k => by kernel_rfl
/- 57 countersign/tables.Of$1 -/
def t57 : List Ce := [⟨58, cc f58⟩]
def f57 : FT := fun p s k => hd s fun a0 s0 =>
 hd s0 fun a1 s1 =>
 hd s1 fun a2 s2 =>
 hd s2 fun a3 s3 =>
 nl s3 <|
 kla p 1 a2 fun v4 =>
 kfa 0 a3 fun v5 =>
 kld p v5 fun v6 =>
 cc f58 p [v4, v6, a0, a1] fun v7 p8 =>
 kex v7 0 fun v9 =>
 kex v7 1 fun v10 =>
 k [v9] p8
theorem o57 : FO EN 57 f57 := fe (np := 4) (T := t57) (tcons (cc_ok o58) tnil) [] (by kernel_rfl) fun p s k => by kernel_rfl
/- 56 countersign/tables.nodes -/
def t56 : List Ce := [⟨108, cc f108⟩, ⟨57, ci f57⟩]
def f56 : FT := fun p s k => hd s fun a0 s0 =>
 hd s0 fun a1 s1 =>
 nl s1 <|
 kbx p 4 a0 fun v2 p3 =>
 kla p3 4 v2 fun v4 =>
 cc f108 p3 [v4] fun v5 p6 =>
 kex v5 0 fun v7 =>
 kex v5 1 fun v8 =>
 kln v7 fun v9 =>
 kms p6 6 96 q98 v9 v9 fun v10 p11 =>
 kln v7 fun v12 =>
 jn 0 (fun j13 =>
 lp 2 fuel (fun r14 v15 v16 p17 =>
 klt v16 v12 fun v18 =>
 kif v18
 (kia 5 v7 v16 fun v19 =>
 kla p17 5 v19 fun v20 =>
 kal p17 q74 fun v21 p22 =>
 kst p22 5 v21 v20 fun p23 =>
 kfa 0 v21 fun v24 =>
 kld p23 v24 fun v25 =>
 kfa 1 v21 fun v26 =>
 kld p23 v26 fun v27 =>
 kfa 2 v21 fun v28 =>
 kld p23 v28 fun v29 =>
 kfa 3 v21 fun v30 =>
 kld p23 v30 fun v31 =>
 kbd q98 [(0, 1, v25), (1, 1, v27), (2, 1, v29), (4, 1, v31), (5, 1, q42)] fun v32 =>
 kia 6 v10 v16 fun v33 =>
 kst p23 6 v33 v32 fun p34 =>
 kfa 0 v21 fun v35 =>
 kld p34 v35 fun v36 =>
 kle v36 q53 fun v37 =>
 jn 1 (fun j38 => kif v37
 (kia 6 v10 v16 fun v39 =>
 kfa 5 v39 fun v40 =>
 kst p34 1 v40 v15 fun p41 =>
 kad v15 q14 fun v42 =>
 j38 v42 p41)
 (j38 v15 p34)) fun v43 p44 =>
 kfa 0 v21 fun v45 =>
 kld p44 v45 fun v46 =>
 keq false .i v46 q53 fun v47 =>
 jn 0 (fun j48 => kif v47
 (kfa 1 v21 fun v49 =>
 kld p44 v49 fun v50 =>
 kfa 2 v21 fun v51 =>
 kld p44 v51 fun v52 =>
 kcv t56 p44 a1 [v50, v52] fun v53 p54 =>
 kia 6 v10 v16 fun v55 =>
 kfa 3 v55 fun v56 =>
 kst p54 1 v56 v53 fun p57 =>
 j48 p57)
 (j48 p44)) fun p58 =>
 kad v16 q14 fun v59 =>
 r14 v43 v59 p58)
 (j13 p17)) q0 q0 p11) fun p60 =>
 k [v10] p60
theorem o56 : FO EN 56 f56 := fe (np := 2) (T := t56) (tcons (cc_ok o108) (tcons (ci_ok o57) tnil)) [some [], some [8, 21], none, none, some [8], some []] (by kernel_rfl) fun p s k => by kernel_rfl
/- 25 countersign/tables.Of -/
def t25 : List Ce := [⟨51, cn f51⟩, ⟨52, cn f52⟩, ⟨53, cc f53⟩, ⟨54, cn f54⟩, ⟨55, cc f55⟩, ⟨56, ci f56⟩]
def f25 : FT := fun p s k => hd s fun a0 s0 =>
 nl s0 <|
 kbx p 1 a0 fun v1 p2 =>
 kla p2 1 v1 fun v3 =>
 cn f51 p2 [v3] fun v4 p5 =>
 kex v4 0 fun v6 =>
 kex v4 1 fun v7 =>
 kal p5 q75 fun v8 p9 =>
 kst p9 1 v8 v6 fun p10 =>
 keq true .i v7 q0 fun v11 =>
 kif v11
 (k [.nilp, v7] p10)
 (ksw mth p10 (.mkmap) fun v12 p13 =>
 kla p13 1 v8 fun v14 =>
 cn f52 p13 [v14] fun v15 p16 =>
 kbd q99 [(0, 1, q29), (2, 1, v12), (3, 1, v15)] fun v17 =>
 kbx p16 4 v17 fun v18 p19 =>
 kfa 0 v1 fun v20 =>
 kld p19 v20 fun v21 =>
 kln v21 fun v22 =>
 jn 0 (fun j23 =>
 lp 1 fuel (fun r24 v25 p26 =>
 klt v25 v22 fun v27 =>
 kif v27
 (jn 0 (fun j28 =>
 kia 2 v21 v25 fun v29 =>
 kla p26 2 v29 fun v30 =>
 kal p26 q77 fun v31 p32 =>
 kst p32 2 v31 v30 fun p33 =>
 kfa 1 v31 fun v34 =>
 kld p33 v34 fun v35 =>
 kln v35 fun v36 =>
 jn 0 (fun j37 =>
 lp 1 fuel (fun r38 v39 p40 =>
 klt v39 v36 fun v41 =>
 kif v41
 (kia 6 v35 v39 fun v42 =>
 kla p40 6 v42 fun v43 =>
 kal p40 q78 fun v44 p45 =>
 kst p45 6 v44 v43 fun p46 =>
 kfa 2 v44 fun v47 =>
 kla p46 4 v47 fun v48 =>
 cc f53 p46 [v48] fun v49 p50 =>
 kex v49 0 fun v51 =>
 kex v49 1 fun v52 =>
 kal p50 q97 fun v53 p54 =>
 kst p54 4 v53 v51 fun p55 =>
 kla p55 1 v8 fun v56 =>
 kfa 0 v31 fun v57 =>
 kld p55 v57 fun v58 =>
 kfa 0 v44 fun v59 =>
 kld p55 v59 fun v60 =>
 cn f54 p55 [v56, v58, v60] fun v61 p62 =>
 kex v61 0 fun v63 =>
 kex v61 1 fun v64 =>
 knc v18 fun v65 =>
 kfa 2 v65 fun v66 =>
 kld (prt [] p62) v66 fun v67 =>
 kfa 0 v31 fun v68 =>
 kld (prt [] p62) v68 fun v69 =>
 kfa 0 v44 fun v70 =>
 kld (prt [] p62) v70 fun v71 =>
 kbd q38 [(0, 1, v69), (1, 1, v71)] fun v72 =>
 knc v18 fun v73 =>
 kfa 1 v73 fun v74 =>
 kld (prt [] p62) v74 fun v75 =>
 kln v75 fun v76 =>
 ksw mth p62 (.mapUpdate ⟨true, [(0, .s), (1, .s)]⟩ (.c v67) (.c v72) (.c v76)) fun v77 p78 =>
 knc v18 fun v79 =>
 kfa 1 v79 fun v80 =>
 kld (prt [] p78) v80 fun v81 =>
 kfa 0 v31 fun v82 =>
 kld (prt [] p78) v82 fun v83 =>
 kfa 0 v44 fun v84 =>
 kld (prt [] p78) v84 fun v85 =>
 knc v18 fun v86 =>
 kfa 1 v86 fun v87 =>
 kld (prt [] p78) v87 fun v88 =>
 kln v88 fun v89 =>
 kfa 1 v44 fun v90 =>
 kld (prt [] p78) v90 fun v91 =>
 cc f55 (prt [] p78) [v91] fun v92 p93 =>
 unpK p78 p93 fun p94 =>
 kla (prt [(p78.next, p93.next)] p94) 4 v53 fun v95 =>
 ci f56 (prt [] p94) [v95, (.func (.func 57) [] [v1, v31])] fun v96 p97 =>
 unpK p94 p97 fun p98 =>
 kbd q100 [(0, 1, v83), (1, 1, v85), (2, 1, v89), (3, 1, v63), (4, 1, v92), (5, 1, v96)] fun v99 =>
 kbs p98 1 q100 [(0, 6, v99)] fun v100 p101 =>
 kap p101 6 96 v81 v100 fun v102 p103 =>
 knc v18 fun v104 =>
 kfa 1 v104 fun v105 =>
 kst p103 1 v105 v102 fun p106 =>
 kad v39 q14 fun v107 =>
 r38 v107 p106)
 (j37 p40)) q0 p33) fun p108 =>
 j28 p108) fun p109 =>
 kad v25 q14 fun v110 =>
 r24 v110 p109)
 (j23 p26)) q0 p19) fun p111 =>
 k [v18, q0] p111)
theorem o25 : FO EN 25 f25 := fe (np := 1) (T := t25) (tcons (cn_ok o51) (tcons (cn_ok o52) (tcons (cc_ok o53) (tcons (cn_ok o54) (tcons (cc_ok o55) (tcons (ci_ok o56) tnil)))))) [none, some [], some [31], none, some [], some [], some [38], none, none] (by kernel_rfl) fun p s k => by kernel_rfl
/- 150 (*countersign/trees.node[countersign/api.Tuple, struct{}]).pairs -/
def t150 : List Ce := []
def f150 : FT := fun p s k => hd s fun a0 s0 =>
 hd s0 fun a1 s1 =>
 hd s1 fun a2 s2 =>
 hd s2 fun a3 s3 =>
 nl s3 <|
 kbx p 1 a0 fun v4 p5 =>
 kbx p5 1 a1 fun v6 p7 =>
 kbx p7 1 a2 fun v8 p9 =>
 kbx p9 1 a3 fun v10 p11 =>
 k [(.func (.func 191) [] [v4, v6, v8, v10])] p11
theorem o150 : FO EN 150 f150 := fe (np := 4) (T := t150) tnil [] (by kernel_rfl) fun p s k => by kernel_rfl
/- 1149002 round -/
def tr149002 : List Ce := []
def fr149002 : FT := fun p s k => hd s fun pj s => ptrK pj (fun j _ => hd s fun tv fr => tupK tv fun vals => ifB (Nat.beq (lenF fr) 13) (ifB (Nat.ble p.floor j) (isR0 p j (
 hdK (drK 2 fr) fun x0 =>
 hd vals fun a1 s0 =>
 nl s0 <|
 kal p q30 fun v2 p3 =>
 kst p3 6 v2 a1 fun p4 =>
 isR0 p4 j (putK p4 j (some (.rnd (nat_lit 1))) fun p5 =>
 kld p5 x0 fun v6 =>
 kla p5 6 v2 fun v7 =>
 kbs p5 1 q30 [(0, 6, v7)] fun v8 p9 =>
 kap p9 6 104 v6 v8 fun v10 p11 =>
 kst p11 1 x0 v10 fun p12 =>
 rndK p12 j fun _ => putK p12 j (some (.rnd (nat_lit 0))) fun p13 => k [.bool true] p13))))) n2
theorem or149002 : FO EN 1149002 fr149002 := re (r := 149002) (N := 13) (L := [2]) (T := tr149002) tnil [] [none] (by kernel_rfl) fun p s k => by kernel_rfl
/- 1191004+1191008 rounds -/
def tr191008 (self : Nat → FT) : List Ce := [⟨1149002, ci fr149002⟩, ⟨1191004, ci (self (nat_lit 0))⟩, ⟨1191008, ci (self (nat_lit 1))⟩]
def gr191008 : (Nat → FT) → FT := fun self => fun p s k => hd s fun pj s => ptrK pj (fun j _ => hd s fun tv fr => tupK tv fun vals => ifB (Nat.beq (lenF fr) 77) (ifB (Nat.ble p.floor j) (isR0 p j (
 hdK (drK 5 fr) fun x0 =>
 hd vals fun a1 s0 =>
 nl s0 <|
 kal p q30 fun v2 p3 =>
 kst p3 6 v2 a1 fun p4 =>
 isR0 p4 j (putK p4 j (some (.rnd (nat_lit 1))) fun p5 =>
 kld p5 x0 fun v6 =>
 kla p5 6 v2 fun v7 =>
 kcv (tr191008 self) p5 v6 [v7] fun v8 p9 =>
 knt v8 fun v10 =>
 kif v10
 (rndK p9 j fun _ => putK p9 j (some (.rnd (nat_lit 2))) fun p11 => k [.bool false] p11)
 (rndK p9 j fun _ => putK p9 j (some (.rnd (nat_lit 0))) fun p12 => k [.bool true] p12)))))) n2
def tr191004 (self : Nat → FT) : List Ce := [⟨1149002, ci fr149002⟩, ⟨1191004, ci (self (nat_lit 0))⟩, ⟨1191008, ci (self (nat_lit 1))⟩]
def gr191004 : (Nat → FT) → FT := fun self => fun p s k => hd s fun pj s => ptrK pj (fun j _ => hd s fun tv fr => tupK tv fun vals => ifB (Nat.beq (lenF fr) 77) (ifB (Nat.ble p.floor j) (isR0 p j (
 hdK (drK 5 fr) fun x0 =>
 hd vals fun a1 s0 =>
 nl s0 <|
 kal p q30 fun v2 p3 =>
 kst p3 6 v2 a1 fun p4 =>
 isR0 p4 j (putK p4 j (some (.rnd (nat_lit 1))) fun p5 =>
 kld p5 x0 fun v6 =>
 kla p5 6 v2 fun v7 =>
 kcv (tr191004 self) p5 v6 [v7] fun v8 p9 =>
 knt v8 fun v10 =>
 kif v10
 (rndK p9 j fun _ => putK p9 j (some (.rnd (nat_lit 2))) fun p11 => k [.bool false] p11)
 (rndK p9 j fun _ => putK p9 j (some (.rnd (nat_lit 0))) fun p12 => k [.bool true] p12)))))) n2
def fr191004 : FT := rcM depth (bth gr191004 gr191008) (nat_lit 0)
def fr191008 : FT := rcM depth (bth gr191004 gr191008) (nat_lit 1)
theorem wr191008 (self : Nat → FT) (h0 : FO EN 1191004 (self (nat_lit 0))) (h1 : FO EN 1191008 (self (nat_lit 1))) : FO EN 1191008 (gr191008 self) := re (r := 191008) (N := 77) (L := [5]) (T := tr191008 self) (tcons (ci_ok or149002) (tcons (ci_ok h0) (tcons (ci_ok h1) tnil))) [] [none, none] (by kernel_rfl) fun p s k => by kernel_rfl
theorem wr191004 (self : Nat → FT) (h0 : FO EN 1191004 (self (nat_lit 0))) (h1 : FO EN 1191008 (self (nat_lit 1))) : FO EN 1191004 (gr191004 self) := re (r := 191004) (N := 77) (L := [5]) (T := tr191004 self) (tcons (ci_ok or149002) (tcons (ci_ok h0) (tcons (ci_ok h1) tnil))) [] [none, none] (by kernel_rfl) fun p s k => by kernel_rfl
theorem or191004 : FO EN 1191004 fr191004 := (FO.rm wr191004 wr191008 depth).1
theorem or191008 : FO EN 1191008 fr191008 := (FO.rm wr191004 wr191008 depth).2
/- 191 (*countersign/trees.node[countersign/api.Tuple, struct{}]).pairs$1 -/
def t191 (self : FT) : List Ce := [⟨134, cc f134⟩, ⟨150, cn f150⟩, ⟨1149002, ci fr149002⟩, ⟨1191004, ci fr191004⟩, ⟨1191008, ci fr191008⟩, ⟨191, ci self⟩]
def g191 : FT → FT := fun self => fun p s k => hd s fun a0 s0 =>
 hd s0 fun a1 s1 =>
 hd s1 fun a2 s2 =>
 hd s2 fun a3 s3 =>
 hd s3 fun a4 s4 =>
 nl s4 <|
 kbx p 1 a0 fun v5 p6 =>
 kld p6 a1 fun v7 =>
 ken false .p v7 .nilp fun v8 =>
 jn 8 (fun j9 => gdK v8 false (kld (prt [] p6) a2 fun v10 =>
 kld (prt [] p6) a1 fun v11 =>
 knc v11 fun v12 =>
 kfa 8 v12 fun v13 =>
 kld (prt [] p6) v13 fun v14 =>
 kad v10 v14 fun v15 =>
 kld (prt [] p6) a3 fun v16 =>
 kle v15 v16 fun v17 =>
 j9 v10 v11 v12 v13 v14 v15 v16 v17 p6) (j9 .undef .undef .undef .undef .undef .undef .undef .undef p6)) fun v18 v19 v20 v21 v22 v23 v24 v25 _ =>
 kpk v8 q29 v25 fun v27 =>
 jn 3 (fun j28 => gdK v27 false (kld (prt [] p6) a2 fun v29 =>
 kld (prt [] p6) a4 fun v30 =>
 kge v29 v30 fun v31 =>
 j28 v29 v30 v31 p6) (j28 .undef .undef .undef p6)) fun v32 v33 v34 _ =>
 kpk v27 q29 v34 fun v36 =>
 kif v36
 (k [] p6)
 (kld (prt [] p6) a2 fun v37 =>
 kld (prt [] p6) a1 fun v38 =>
 knc v38 fun v39 =>
 kfa 6 v39 fun v40 =>
 kld (prt [] p6) v40 fun v41 =>
 cc f134 (prt [] p6) [v41] fun v42 p43 =>
 unpK p6 p43 fun p44 =>
 kad v37 v42 fun v45 =>
 kld (prt [] p44) a1 fun v46 =>
 knc v46 fun v47 =>
 kfa 6 v47 fun v48 =>
 kld (prt [] p44) v48 fun v49 =>
 kld (prt [] p44) a2 fun v50 =>
 kld (prt [] p44) a3 fun v51 =>
 kld (prt [] p44) a4 fun v52 =>
 cn f150 p44 [v49, v50, v51, v52] fun v53 p54 =>
 krg (t191 self) p54 191004 v53 (V.mk 77 [(5, v5)]) (fun p55 =>
 kld p55 a3 fun v57 =>
 kge v45 v57 fun v58 =>
 jn 3 (fun j59 => gdK v58 true (kld p55 a4 fun v60 =>
 klt v45 v60 fun v61 =>
 j59 v45 v60 v61 p55) (j59 .undef .undef .undef p55)) fun v62 v63 v64 _ =>
 kpk v58 v64 q13 fun v66 =>
 jn 7 (fun j67 => gdK v66 true (kld (prt [] p55) v5 fun v68 =>
 kld (prt [] p55) a1 fun v69 =>
 knc v69 fun v70 =>
 kfa 0 v70 fun v71 =>
 kla (prt [] p55) 6 v71 fun v72 =>
 kcv (t191 self) p55 v68 [v72] fun v73 p74 =>
 knt v73 fun v75 =>
 j67 v68 v69 v70 v71 v72 v73 v75 p74) (j67 .undef .undef .undef .undef .undef .undef .undef p55)) fun v76 v77 v78 v79 v80 v81 v82 p83 =>
 kpk v66 v82 q13 fun v84 =>
 kif v84
 (k [] p83)
 (kld (prt [] p83) a1 fun v85 =>
 knc v85 fun v86 =>
 kfa 7 v86 fun v87 =>
 kld (prt [] p83) v87 fun v88 =>
 kad v45 q14 fun v89 =>
 kld (prt [] p83) a3 fun v90 =>
 kld (prt [] p83) a4 fun v91 =>
 cn f150 p83 [v88, v89, v90, v91] fun v92 p93 =>
 krg (t191 self) p93 191008 v92 (V.mk 77 [(5, v5)]) (fun p94 =>
 k [] p94) (fun p95 =>
 k [] p95) [])) (fun p56 =>
 k [] p56) [])
def f191 : FT := rcF depth g191
theorem o191 : FO EN 191 f191 := FO.rc (fun self h => fe (np := 5) (T := t191 self) (tcons (cc_ok o134) (tcons (cn_ok o150) (tcons (ci_ok or149002) (tcons (ci_ok or191004) (tcons (ci_ok or191008) (tcons (ci_ok h) tnil)))))) [none, none, some [5], some [], none, none, some [5], some []] (by kernel_rfl) fun p s k => by kernel_rfl) depth
/- 149 slices.AppendSeq[[]countersign/trees.Pair[countersign/api.Tuple, struct{}],countersign/trees.Pair[countersign/api.Tuple, struct{}]] -/
def t149 : List Ce := [⟨191, ci f191⟩]
def f149 : FT := fun p s k => hd s fun a0 s0 =>
 hd s0 fun a1 s1 =>
 nl s1 <|
 kbx p 1 a0 fun v2 p3 =>
 krg t149 p3 149002 a1 (V.mk 13 [(2, v2)]) (fun p4 =>
 kld p4 v2 fun v6 =>
 k [v6] p4) (fun p5 =>
 k [.nils] p5) []
theorem o149 : FO EN 149 f149 := fe (np := 2) (T := t149) (tcons (ci_ok o191) tnil) [none, some [2], some []] (by kernel_rfl) fun p s k => by kernel_rfl
/- 148 slices.Clip[[]countersign/trees.Pair[countersign/api.Tuple, struct{}],countersign/trees.Pair[countersign/api.Tuple, struct{}]] -/
def t148 : List Ce := []
def f148 : FT := fun p s k => hd s fun a0 s0 =>
 nl s0 <|
 kln a0 fun v1 =>
 kln a0 fun v2 =>
 ksl 6 a0 none (some v1) (some v2) fun v3 =>
 k [v3] p
theorem o148 : FO EN 148 f148 := fe (np := 1) (T := t148) tnil [] (by kernel_rfl) fun p s k => by kernel_rfl
/- 114 (countersign/trees.Map[countersign/api.Tuple, struct{}]).Range -/
def t114 : List Ce := [⟨97, cc f97⟩, ⟨150, cn f150⟩, ⟨149, ci f149⟩, ⟨148, ci f148⟩]
def f114 : FT := fun p s k => hd s fun a0 s0 =>
 hd s0 fun a1 s1 =>
 hd s1 fun a2 s2 =>
 nl s2 <|
 kbx p 2 a0 fun v3 p4 =>
 ksw mth p4 (.minmax true [(.c a1), (.c q0)]) fun v5 p6 =>
 kla p6 2 v3 fun v7 =>
 cc f97 p6 [v7] fun v8 p9 =>
 ksw mth p9 (.minmax false [(.c a2), (.c v8)]) fun v10 p11 =>
 kge v5 v10 fun v12 =>
 kif v12
 (k [.nils] p11)
 (ksb v10 v5 fun v13 =>
 kms p11 6 104 q30 q0 v13 fun v14 p15 =>
 kfa 1 v3 fun v16 =>
 kld (prt [(p11.next, p15.next)] p15) v16 fun v17 =>
 cn f150 (prt [(p11.next, p15.next)] p15) [v17, q0, v5, v10] fun v18 p19 =>
 unpK p15 p19 fun p20 =>
 ci f149 p20 [v14, v18] fun v21 p22 =>
 ci f148 p22 [v21] fun v23 p24 =>
 k [v23] p24)
theorem o114 : FO EN 114 f114 := fe (np := 3) (T := t114) (tcons (cc_ok o97) (tcons (cn_ok o150) (tcons (ci_ok o149) (tcons (ci_ok o148) tnil)))) [none] (by kernel_rfl) fun p s k => by kernel_rfl
/- 62 (countersign/sets.index).list -/
def t62 : List Ce := [⟨114, cn f114⟩]
def f62 : FT := fun p s k => hd s fun a0 s0 =>
 hd s0 fun a1 s1 =>
 hd s1 fun a2 s2 =>
 nl s2 <|
 kbx p 2 a0 fun v3 p4 =>
 kfa 0 v3 fun v5 =>
 kla p4 2 v5 fun v6 =>
 cn f114 p4 [v6, a1, a2] fun v7 p8 =>
 kln v7 fun v9 =>
 kms p8 6 96 q30 v9 v9 fun v10 p11 =>
 kln v7 fun v12 =>
 jn 0 (fun j13 =>
 lp 1 fuel (fun r14 v15 p16 =>
 klt v15 v12 fun v17 =>
 kif v17
 (kia 6 v7 v15 fun v18 =>
 kfa 0 v18 fun v19 =>
 kla p16 6 v19 fun v20 =>
 kia 6 v10 v15 fun v21 =>
 kst p16 6 v21 v20 fun p22 =>
 kad v15 q14 fun v23 =>
 r14 v23 p22)
 (j13 p16)) q0 p11) fun p24 =>
 k [v10] p24
theorem o62 : FO EN 62 f62 := fe (np := 3) (T := t62) (tcons (cn_ok o114) tnil) [some [], some [20], none, none] (by kernel_rfl) fun p s k => by kernel_rfl
/- 27 (countersign/sets.Set).List -/
def t27 : List Ce := [⟨48, cc f48⟩, ⟨62, cn f62⟩]
def f27 : FT := fun p s k => hd s fun a0 s0 =>
 nl s0 <|
 kbx p 4 a0 fun v1 p2 =>
 kfa 0 v1 fun v3 =>
 kla (prt [] p2) 2 v3 fun v4 =>
 kla (prt [] p2) 4 v1 fun v5 =>
 cc f48 (prt [] p2) [v5] fun v6 p7 =>
 unpK p2 p7 fun p8 =>
 cn f62 p8 [v4, q0, v6] fun v9 p10 =>
 k [v9] p10
theorem o27 : FO EN 27 f27 := fe (np := 1) (T := t27) (tcons (cc_ok o48) (tcons (cn_ok o62) tnil)) [] (by kernel_rfl) fun p s k => by kernel_rfl
/- 59 countersign/strata.Check -/
def t59 : List Ce := [⟨101, cc f101⟩, ⟨102, cc f102⟩]
def f59 : FT := fun p s k => hd s fun a0 s0 =>
 nl s0 <|
 kbx p 1 a0 fun v1 p2 =>
 kla p2 1 v1 fun v3 =>
 cc f101 p2 [v3] fun v4 p5 =>
 kex v4 0 fun v6 =>
 kex v4 1 fun v7 =>
 kal p5 q89 fun v8 p9 =>
 kst p9 2 v8 v6 fun p10 =>
 keq false .i v7 q0 fun v11 =>
 jn 1 (fun j12 => kif v11
 (kla p10 2 v8 fun v13 =>
 cc f102 p10 [v13] fun v14 p15 =>
 kex v14 0 fun v16 =>
 kex v14 1 fun v17 =>
 j12 v17 p15)
 (j12 v7 p10)) fun v18 p19 =>
 k [v18] p19
theorem o59 : FO EN 59 f59 := fe (np := 1) (T := t59) (tcons (cc_ok o101) (tcons (cc_ok o102) tnil)) [some [4]] (by kernel_rfl) fun p s k => by kernel_rfl
/- 60 countersign/fits.of -/
def t60 : List Ce := []
def f60 : FT := fun p s k => hd s fun a0 s0 =>
 nl s0 <|
 kbx p 1 a0 fun v1 p2 =>
 ksw mth p2 (.mkmap) fun v3 p4 =>
 kfa 0 v1 fun v5 =>
 kld p4 v5 fun v6 =>
 kln v6 fun v7 =>
 jn 0 (fun j8 =>
 lp 1 fuel (fun r9 v10 p11 =>
 klt v10 v7 fun v12 =>
 kif v12
 (jn 0 (fun j13 =>
 kia 2 v6 v10 fun v14 =>
 kla p11 2 v14 fun v15 =>
 kal p11 q77 fun v16 p17 =>
 kst p17 2 v16 v15 fun p18 =>
 kfa 1 v16 fun v19 =>
 kld p18 v19 fun v20 =>
 kln v20 fun v21 =>
 jn 0 (fun j22 =>
 lp 1 fuel (fun r23 v24 p25 =>
 klt v24 v21 fun v26 =>
 kif v26
 (kia 6 v20 v24 fun v27 =>
 kla p25 6 v27 fun v28 =>
 kal p25 q78 fun v29 p30 =>
 kst p30 6 v29 v28 fun p31 =>
 kfa 0 v16 fun v32 =>
 kld (prt [] p31) v32 fun v33 =>
 kfa 0 v29 fun v34 =>
 kld (prt [] p31) v34 fun v35 =>
 kbd q38 [(0, 1, v33), (1, 1, v35)] fun v36 =>
 kbs p31 0 [] [] fun v37 p38 =>
 kfa 1 v29 fun v39 =>
 kld (prt [(p31.next, p38.next)] p38) v39 fun v40 =>
 kpa p38 [] [v32, v34] 2 32 v37 v40 fun p42 v41 p43 =>
 ksw mth p43 (.mapUpdate ⟨true, [(0, .s), (1, .s)]⟩ (.c v3) (.c v36) (.c v41)) fun v44 p45 =>
 kad v24 q14 fun v46 =>
 r23 v46 p45)
 (j22 p25)) q0 p18) fun p47 =>
 j13 p47) fun p48 =>
 kad v10 q14 fun v49 =>
 r9 v49 p48)
 (j8 p11)) q0 p4) fun p50 =>
 k [v3] p50
theorem o60 : FO EN 60 f60 := fe (np := 1) (T := t60) tnil [some [], some [12], none, some [], some [], some [19], none, none] (by kernel_rfl) fun p s k => by kernel_rfl
/- 61 (countersign/fits.looker).check -/
def t61 : List Ce := [⟨46, cc f46⟩, ⟨113, cc f113⟩]
def f61 : FT := fun p s k => hd s fun a0 s0 =>
 hd s0 fun a1 s1 =>
 nl s1 <|
 kbx p 6 a1 fun v2 p3 =>
 kla p3 6 v2 fun v4 =>
 cc f46 p3 [v4] fun v5 p6 =>
 keq true .i v5 q0 fun v7 =>
 kif v7
 (k [q32] p6)
 (kfa 0 v2 fun v8 =>
 kfa 0 v8 fun v9 =>
 kfa 0 v9 fun v10 =>
 kld p6 v10 fun v11 =>
 kfa 0 v2 fun v12 =>
 kfa 2 v12 fun v13 =>
 kld p6 v13 fun v14 =>
 kbd q38 [(0, 1, v11), (1, 1, v14)] fun v15 =>
 ksw mth p6 (.lookup ⟨true, [(0, .s), (1, .s)]⟩ .nils true (.c a0) (.c v15)) fun v16 p17 =>
 kex v16 0 fun v18 =>
 kex v16 1 fun v19 =>
 knt v19 fun v20 =>
 kif v20
 (k [q32] p17)
 (kfa 3 v2 fun v21 =>
 kfa 0 v21 fun v22 =>
 kfa 0 v22 fun v23 =>
 kld p17 v23 fun v24 =>
 kfa 3 v2 fun v25 =>
 kfa 2 v25 fun v26 =>
 kld p17 v26 fun v27 =>
 kbd q38 [(0, 1, v24), (1, 1, v27)] fun v28 =>
 cc f113 p17 [v18, v28] fun v29 p30 =>
 knt v29 fun v31 =>
 kif v31
 (k [q83] p30)
 (k [q0] p30)))
theorem o61 : FO EN 61 f61 := fe (np := 2) (T := t61) (tcons (cc_ok o46) (tcons (cc_ok o113) tnil)) [none, none, none, none] (by kernel_rfl) fun p s k => by kernel_rfl
/- 26 countersign/fits.All -/
def t26 : List Ce := [⟨59, cc f59⟩, ⟨60, cc f60⟩, ⟨61, cn f61⟩]
def f26 : FT := fun p s k => hd s fun a0 s0 =>
 hd s0 fun a1 s1 =>
 nl s1 <|
 kbx p 1 a0 fun v2 p3 =>
 kla p3 1 v2 fun v4 =>
 cc f59 p3 [v4] fun v5 p6 =>
 keq true .i v5 q0 fun v7 =>
 kif v7
 (k [q0, v5] p6)
 (kla p6 1 v2 fun v8 =>
 cc f60 p6 [v8] fun v9 p10 =>
 kln a1 fun v11 =>
 jn 0 (fun j12 =>
 lp 1 fuel (fun r13 v14 p15 =>
 klt v14 v11 fun v16 =>
 kif v16
 (kia 6 a1 v14 fun v17 =>
 kla p15 6 v17 fun v18 =>
 kal p15 q30 fun v19 p20 =>
 kst p20 6 v19 v18 fun p21 =>
 kla p21 6 v19 fun v22 =>
 cn f61 p21 [v9, v22] fun v23 p24 =>
 keq true .i v23 q0 fun v25 =>
 kif v25
 (k [v14, v23] p24)
 (kad v14 q14 fun v26 =>
 r13 v26 p24))
 (j12 p15)) q0 p10) fun p27 =>
 kln a1 fun v28 =>
 k [v28, q0] p27)
theorem o26 : FO EN 26 f26 := fe (np := 2) (T := t26) (tcons (cc_ok o59) (tcons (cc_ok o60) (tcons (cn_ok o61) tnil))) [none, some [], some [20], none, none, none] (by kernel_rfl) fun p s k => by kernel_rfl
/- 10 countersign/refs.New -/
def t10 : List Ce := [⟨25, cc f25⟩, ⟨27, cn f27⟩, ⟨26, cn f26⟩]
def f10 : FT := fun p s k => hd s fun a0 s0 =>
 hd s0 fun a1 s1 =>
 nl s1 <|
 kbx p 1 a0 fun v2 p3 =>
 kbx p3 4 a1 fun v4 p5 =>
 kal p5 q101 fun v6 p7 =>
 kla p7 1 v2 fun v8 =>
 cc f25 p7 [v8] fun v9 p10 =>
 kex v9 0 fun v11 =>
 kex v9 1 fun v12 =>
 keq true .i v12 q0 fun v13 =>
 kif v13
 (kbd q101 [] fun v14 =>
 kst p10 5 v6 v14 fun p15 =>
 kra p15 5 v6 fun v16 =>
 k [v16, v12] p15)
 (kla (prt [] p10) 1 v2 fun v17 =>
 kla (prt [] p10) 4 v4 fun v18 =>
 cn f27 (prt [] p10) [v18] fun v19 p20 =>
 unpK p10 p20 fun p21 =>
 cn f26 p21 [v17, v19] fun v22 p23 =>
 kex v22 0 fun v24 =>
 kex v22 1 fun v25 =>
 keq true .i v25 q0 fun v26 =>
 kif v26
 (kbd q101 [] fun v27 =>
 kst p23 5 v6 v27 fun p28 =>
 kra p28 5 v6 fun v29 =>
 k [v29, v25] p28)
 (kla p23 4 v4 fun v30 =>
 kbd q101 [(0, 1, v11), (1, 4, v30)] fun v31 =>
 kst p23 5 v6 v31 fun p32 =>
 kra p32 5 v6 fun v33 =>
 k [v33, q0] p32))
theorem o10 : FO EN 10 f10 := fe (np := 2) (T := t10) (tcons (cc_ok o25) (tcons (cn_ok o27) (tcons (cn_ok o26) tnil))) [none, none] (by kernel_rfl) fun p s k => by kernel_rfl
/- 30 countersign/countersignref15.All -/
def t30 : List Ce := []
def f30 : FT := fun p s k => hd s fun a0 s0 =>
 nl s0 <|
 kbx p 1 a0 fun v1 p2 =>
 jn 1 (fun j3 =>
 lp 2 fuel (fun r4 v5 v6 p7 =>
 kfa 0 v1 fun v8 =>
 kld p7 v8 fun v9 =>
 kln v9 fun v10 =>
 klt v6 v10 fun v11 =>
 kif v11
 (jn 1 (fun j12 =>
 jn 1 (fun j13 =>
 lp 2 fuel (fun r14 v15 v16 p17 =>
 kfa 0 v1 fun v18 =>
 kld p17 v18 fun v19 =>
 kia 2 v19 v6 fun v20 =>
 kfa 1 v20 fun v21 =>
 kld p17 v21 fun v22 =>
 kln v22 fun v23 =>
 klt v16 v23 fun v24 =>
 kif v24
 (kfa 0 v1 fun v25 =>
 kld (prt [] p17) v25 fun v26 =>
 kia 2 v26 v6 fun v27 =>
 kfa 0 v27 fun v28 =>
 kld (prt [] p17) v28 fun v29 =>
 kfa 0 v1 fun v30 =>
 kld (prt [] p17) v30 fun v31 =>
 kia 2 v31 v6 fun v32 =>
 kfa 1 v32 fun v33 =>
 kld (prt [] p17) v33 fun v34 =>
 kia 6 v34 v16 fun v35 =>
 kfa 0 v35 fun v36 =>
 kld (prt [] p17) v36 fun v37 =>
 kbd q38 [(0, 1, v29), (1, 1, v37)] fun v38 =>
 kbs p17 1 q38 [(0, 2, v38)] fun v39 p40 =>
 kap p40 2 32 v15 v39 fun v41 p42 =>
 kad v16 q14 fun v43 =>
 r14 v41 v43 p42)
 (j13 v15 p17)) v5 q0 p7) fun v44 p45 =>
 j12 v44 p45) fun v46 p47 =>
 kad v6 q14 fun v48 =>
 r4 v46 v48 p47)
 (j3 v5 p7)) .nils q0 p2) fun v49 p50 =>
 k [v49] p50
theorem o30 : FO EN 30 f30 := fe (np := 1) (T := t30) tnil [some [3], some [3, 4], none, some [3], some [3], some [3, 5], none, none] (by kernel_rfl) fun p s k => by kernel_rfl
/- 63 countersign/countersignref16.New -/
def t63 : List Ce := []
def f63 : FT := fun p s k => hd s fun a0 s0 =>
 nl s0 <|
 kal p q89 fun v1 p2 =>
 kar .mul a0 a0 fun v3 =>
 kms p2 1 8 q24 v3 v3 fun v4 p5 =>
 kbd q89 [(0, 1, a0), (1, 1, v4)] fun v6 =>
 kst p5 2 v1 v6 fun p7 =>
 kra p7 2 v1 fun v8 =>
 k [v8] p7
theorem o63 : FO EN 63 f63 := fe (np := 1) (T := t63) tnil [] (by kernel_rfl) fun p s k => by kernel_rfl
/- 115 countersign/countersignref15.Space -/
def t115 : List Ce := []
def f115 : FT := fun p s k => hd s fun a0 s0 =>
 hd s0 fun a1 s1 =>
 nl s1 <|
 kbx p 1 a0 fun v2 p3 =>
 jn 0 (fun j4 =>
 lp 1 fuel (fun r5 v6 p7 =>
 kfa 0 v2 fun v8 =>
 kld p7 v8 fun v9 =>
 kln v9 fun v10 =>
 klt v6 v10 fun v11 =>
 kif v11
 (kfa 0 v2 fun v12 =>
 kld p7 v12 fun v13 =>
 kia 2 v13 v6 fun v14 =>
 kfa 0 v14 fun v15 =>
 kld p7 v15 fun v16 =>
 keq false .s v16 a1 fun v17 =>
 kif v17
 (k [v6] p7)
 (kad v6 q14 fun v18 =>
 r5 v18 p7))
 (j4 p7)) q0 p3) fun p19 =>
 k [q42] p19
theorem o115 : FO EN 115 f115 := fe (np := 2) (T := t115) tnil [some [], some [5], none, none, none] (by kernel_rfl) fun p s k => by kernel_rfl
/- 64 countersign/countersignref15.Find -/
def t64 : List Ce := [⟨115, cn f115⟩]
def f64 : FT := fun p s k => hd s fun a0 s0 =>
 hd s0 fun a1 s1 =>
 hd s1 fun a2 s2 =>
 nl s2 <|
 kbx p 1 a0 fun v3 p4 =>
 kal p4 q78 fun v5 p6 =>
 kla p6 1 v3 fun v7 =>
 cn f115 p6 [v7, a1] fun v8 p9 =>
 jn 0 (fun j10 =>
 lp 1 fuel (fun r11 v12 p13 =>
 kge v8 q0 fun v14 =>
 jn 9 (fun j15 => gdK v14 true (kfa 0 v3 fun v16 =>
 kld p13 v16 fun v17 =>
 kia 2 v17 v8 fun v18 =>
 kfa 1 v18 fun v19 =>
 kld p13 v19 fun v20 =>
 kln v20 fun v21 =>
 klt v12 v21 fun v22 =>
 j15 v12 v16 v17 v8 v18 v19 v20 v21 v22 p13) (j15 .undef .undef .undef .undef .undef .undef .undef .undef .undef p13)) fun v23 v24 v25 v26 v27 v28 v29 v30 v31 p32 =>
 kpk v14 v31 q13 fun v33 =>
 kif v33
 (kfa 0 v3 fun v34 =>
 kld p32 v34 fun v35 =>
 kia 2 v35 v8 fun v36 =>
 kfa 1 v36 fun v37 =>
 kld p32 v37 fun v38 =>
 kia 6 v38 v12 fun v39 =>
 kfa 0 v39 fun v40 =>
 kld p32 v40 fun v41 =>
 keq false .s v41 a2 fun v42 =>
 kif v42
 (kfa 0 v3 fun v43 =>
 kld p32 v43 fun v44 =>
 kia 2 v44 v8 fun v45 =>
 kfa 1 v45 fun v46 =>
 kld p32 v46 fun v47 =>
 kia 6 v47 v12 fun v48 =>
 kla p32 6 v48 fun v49 =>
 kst p32 6 v5 v49 fun p50 =>
 kra p50 6 v5 fun v51 =>
 k [v51, q29] p50)
 (kad v12 q14 fun v52 =>
 r11 v52 p32))
 (j10 p32)) q0 p9) fun p53 =>
 kbd q78 [] fun v54 =>
 kst p53 6 v5 v54 fun p55 =>
 kra p55 6 v5 fun v56 =>
 k [v56, q13] p55
theorem o64 : FO EN 64 f64 := fe (np := 3) (T := t64) (tcons (cn_ok o115) tnil) [some [], some [9], none, none, none] (by kernel_rfl) fun p s k => by kernel_rfl
/- 65 countersign/countersignref13.Nodes -/
def t65 (self : FT) : List Ce := [⟨65, ci self⟩]
def g65 : FT → FT := fun self => fun p s k => hd s fun a0 s0 =>
 hd s0 fun a1 s1 =>
 hd s1 fun a2 s2 =>
 nl s2 <|
 kbx p 4 a1 fun v3 p4 =>
 kln a0 fun v5 =>
 kfa 0 v3 fun v6 =>
 kld p4 v6 fun v7 =>
 kfa 1 v3 fun v8 =>
 kld p4 v8 fun v9 =>
 kfa 2 v3 fun v10 =>
 kld p4 v10 fun v11 =>
 kbd q74 [(0, 1, v7), (1, 1, v9), (2, 1, v11), (4, 1, a2)] fun v12 =>
 kbs p4 1 q74 [(0, 5, v12)] fun v13 p14 =>
 kap p14 5 72 a0 v13 fun v15 p16 =>
 jn 2 (fun j17 =>
 lp 3 fuel (fun r18 v19 v20 v21 p22 =>
 kfa 3 v3 fun v23 =>
 kld p22 v23 fun v24 =>
 kln v24 fun v25 =>
 klt v21 v25 fun v26 =>
 kif v26
 (kln v19 fun v27 =>
 kbs p22 1 q24 [(0, 1, v27)] fun v28 p29 =>
 kap p29 1 8 v20 v28 fun v30 p31 =>
 kfa 3 v3 fun v32 =>
 kld (prt [] p31) v32 fun v33 =>
 kia 4 v33 v21 fun v34 =>
 kla (prt [] p31) 4 v34 fun v35 =>
 jn 4 (fun j36 => gdK a2 false (kfa 0 v3 fun v37 =>
 kld (prt [] p31) v37 fun v38 =>
 keq false .i v38 q73 fun v39 =>
 j36 v37 v38 v39 v39 p31) (j36 .undef .undef .undef .undef p31)) fun v40 v41 v42 v43 _ =>
 jn 2 (fun j45 => gdK v43 true (keq false .i v21 q14 fun v46 =>
 j45 v21 v46 p31) (j45 .undef .undef p31)) fun v47 v48 _ =>
 jn 1 (fun j50 => gdK a2 false (kpk v43 v48 q13 fun v51 =>
 j50 v51 p31) (j50 .undef p31)) fun v52 _ =>
 kpk a2 q29 v52 fun v54 =>
 ci self p31 [v19, v35, v54] fun v55 p56 =>
 kad v21 q14 fun v57 =>
 r18 v55 v30 v57 p56)
 (j17 v19 v20 p22)) v15 .nils q0 p16) fun v58 v59 p60 =>
 kia 5 v58 v5 fun v61 =>
 kfa 3 v61 fun v62 =>
 kst p60 1 v62 v59 fun p63 =>
 k [v58] p63
def f65 : FT := rcF depth g65
theorem o65 : FO EN 65 f65 := FO.rc (fun self h => fe (np := 3) (T := t65 self) (tcons (ci_ok h) tnil) [some [0, 8], some [0, 8, 9], none, none] (by kernel_rfl) fun p s k => by kernel_rfl) depth
end
end Go.V
end
