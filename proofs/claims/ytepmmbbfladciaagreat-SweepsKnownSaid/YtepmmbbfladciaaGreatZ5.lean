/-
  Parts of the proof:
  YtepmmbbfladciaaGreatZm6
  YtepmmbbfladciaaGreatZm7
-/
import Derived.KernelRfl
import Derived.Test.YtepmmbbfladciaaGreatZ4

section
set_option maxRecDepth 100000
set_option linter.unusedVariables false
namespace Go.V
noncomputable section
def f56 : FT := fun p s k => hd s fun a0 s0 =>
 hd s0 fun a1 s1 =>
 nl s1 <|
 kbx p 5 a0 fun v2 p3 =>
 kbx p3 10 a1 fun v4 p5 =>
 kla p5 5 v2 fun v6 =>
 kla p5 10 v4 fun v7 =>
 cn f105 p5 [v6, v7] fun v8 p9 =>
 kex v8 0 fun v10 =>
 kex v8 1 fun v11 =>
 kal p9 q86 fun v12 p13 =>
 kst p13 2 v12 v10 fun p14 =>
 k [v11] p14
theorem o56 : FO EN 56 f56 := fe 2 (tc (cn_ok o105) tnil) [] (by kernel_rfl) fun p s k => by kernel_rfl
def f370 : FT := fun p s k => hd s fun a0 s0 =>
 nl s0 <|
 jn 0 (fun j1 =>
 lp 1 fuel (fun r2 v3 p4 =>
 kln a0 fun v5 =>
 klt v3 v5 fun v6 =>
 kif v6
 (ksb v3 q12 fun v7 =>
 kia 2 a0 v7 fun v8 =>
 kla (prt [] p4) 2 v8 fun v9 =>
 kia 2 a0 v3 fun v10 =>
 kla (prt [] p4) 2 v10 fun v11 =>
 cc f107 p4 [v9, v11] fun v12 p13 =>
 kge v12 q0 fun v14 =>
 kif v14
 (k [q11] p13)
 (kad v3 q12 fun v15 =>
 r2 v15 p13))
 (j1 p4)) q12 p) fun p16 =>
 k [q21] p16
theorem o370 : FO EN 370 f370 := fe 1 (tc (cc_ok o107) tnil) [some [], some [3], none, none, none] (by kernel_rfl) fun p s k => by kernel_rfl
def f369 : FT := fun p s k => hd s fun a0 s0 =>
 nl s0 <|
 cn f370 p [a0] fun v1 p2 =>
 knt v1 fun v3 =>
 k [v3] p2
theorem o369 : FO EN 369 f369 := fe 1 (tc (cn_ok o370) tnil) [] (by kernel_rfl) fun p s k => by kernel_rfl
def f59 : FT := fun p s k => hd s fun a0 s0 =>
 nl s0 <|
 jn 0 (fun j1 =>
 lp 1 fuel (fun r2 v3 p4 =>
 kln a0 fun v5 =>
 klt v3 v5 fun v6 =>
 kif v6
 (ksb v3 q12 fun v7 =>
 kia 2 a0 v7 fun v8 =>
 kla (prt [] p4) 2 v8 fun v9 =>
 kia 2 a0 v3 fun v10 =>
 kla (prt [] p4) 2 v10 fun v11 =>
 .no)
 (j1 p4)) q12 p) fun p12 =>
 k [q21] p12
theorem o59 : FO EN 59 f59 := fe 1 tnil [some [], some [3], none, none, none] (by kernel_rfl) fun p s k => by kernel_rfl
def f58 : FT := fun p s k => hd s fun a0 s0 =>
 nl s0 <|
 cn f59 p [a0] fun v1 p2 =>
 knt v1 fun v3 =>
 k [v3] p2
theorem o58 : FO EN 58 f58 := fe 1 (tc (cn_ok o59) tnil) [] (by kernel_rfl) fun p s k => by kernel_rfl
def t106 : List Ce := [⟨369, cn f369⟩, ⟨58, cn f58⟩]
def f106 : FT := fun p s k => hd s fun a0 s0 =>
 hd s0 fun a1 s1 =>
 nl s1 <|
 kln a0 fun v2 =>
 jn 0 (fun j3 =>
 lp 1 fuel (fun r4 v5 p6 =>
 klt v5 v2 fun v7 =>
 kif v7
 (kia 1 a0 v5 fun v8 =>
 kld p6 v8 fun v9 =>
 kcv t106 p6 a1 [v9] fun v10 p11 =>
 kif v10
 (k [v5] p11)
 (kad v5 q12 fun v12 =>
 r4 v12 p11))
 (j3 p6)) q0 p) fun p13 =>
 k [q34] p13
theorem o106 : FO EN 106 f106 := fe 2 (T := t106) (tc (cn_ok o369) (tc (cn_ok o58) tnil)) [some [], some [8], none, none, none] (by kernel_rfl) fun p s k => by kernel_rfl
def f57 : FT := fun p s k => hd s fun a0 s0 =>
 hd s0 fun a1 s1 =>
 nl s1 <|
 cn f106 p [a0, a1] fun v2 p3 =>
 kge v2 q0 fun v4 =>
 k [v4] p3
theorem o57 : FO EN 57 f57 := fe 2 (tc (cn_ok o106) tnil) [] (by kernel_rfl) fun p s k => by kernel_rfl
def f109 : FT := fun p s k => hd s fun a0 s0 =>
 nl s0 <|
 ken false .s a0 .nils fun v1 =>
 kif v1
 (k [.nils] p)
 (kbs p 0 [] [] fun v2 p3 =>
 kap p3 1 24 v2 a0 fun v4 p5 =>
 k [v4] p5)
theorem o109 : FO EN 109 f109 := fe 1 tnil [none] (by kernel_rfl) fun p s k => by kernel_rfl
def f108 : FT := fun p s k => hd s fun a0 s0 =>
 nl s0 <|
 kln a0 fun v1 =>
 kln a0 fun v2 =>
 ksl 1 a0 none (some v1) (some v2) fun v3 =>
 k [v3] p
theorem o108 : FO EN 108 f108 := fe 1 tnil [] (by kernel_rfl) fun p s k => by kernel_rfl
def t170 : List Ce := [⟨101, cc f101⟩]
def f170 : FT := fun p s k => hd s fun a0 s0 =>
 hd s0 fun a1 s1 =>
 nl s1 <|
 kbx p 2 a0 fun v2 p3 =>
 kal p3 q29 fun v4 p5 =>
 kfa 1 v2 fun v6 =>
 kld p5 v6 fun v7 =>
 jn 0 (fun j8 =>
 lp 1 fuel (fun r9 v10 p11 =>
 ken true .p v10 .nilp fun v12 =>
 kif v12
 (kfa 0 v2 fun v13 =>
 kld (prt [] p11) v13 fun v14 =>
 knc mth v10 fun v15 =>
 kfa 0 v15 fun v16 =>
 kfa 0 v16 fun v17 =>
 kld (prt [] p11) v17 fun v18 =>
 kcv t170 p11 v14 [a1, v18] fun v19 p20 =>
 keq false .i v19 q0 fun v21 =>
 kif v21
 (knc mth v10 fun v22 =>
 kfa 0 v22 fun v23 =>
 kfa 1 v23 fun v24 =>
 kla p20 3 v24 fun v25 =>
 kst p20 3 v4 v25 fun p26 =>
 kra p26 3 v4 fun v27 =>
 k [v27, q21] p26)
 (klt v19 q0 fun v28 =>
 jn 1 (fun j29 => kif v28
 (knc mth v10 fun v30 =>
 kfa 4 v30 fun v31 =>
 kld p20 v31 fun v32 =>
 j29 v32 p20)
 (knc mth v10 fun v33 =>
 kfa 5 v33 fun v34 =>
 kld p20 v34 fun v35 =>
 j29 v35 p20)) fun v36 p37 =>
 r9 v36 p37))
 (j8 p11)) v7 p5) fun p38 =>
 kal p38 q29 fun v39 p40 =>
 kla p40 3 v39 fun v41 =>
 kst p40 3 v4 v41 fun p42 =>
 kra p42 3 v4 fun v43 =>
 k [v43, q11] p42
theorem o170 : FO EN 170 f170 := fe 2 (T := t170) (tc (cc_ok o101) tnil) [some [], some [6], none, none, none, some [6]] (by kernel_rfl) fun p s k => by kernel_rfl
def f123 : FT := fun p s k => hd s fun a0 s0 =>
 hd s0 fun a1 s1 =>
 nl s1 <|
 kbx p 4 a0 fun v2 p3 =>
 kal p3 q29 fun v4 p5 =>
 kfa 0 v2 fun v6 =>
 kla p5 2 v6 fun v7 =>
 cn f170 p5 [v7, a1] fun v8 p9 =>
 kex v8 0 fun v10 =>
 kex v8 1 fun v11 =>
 kal p9 q29 fun v12 p13 =>
 kst p13 3 v12 v10 fun p14 =>
 knt v11 fun v15 =>
 kif v15
 (kbd q29 [] fun v16 =>
 kst p14 3 v4 v16 fun p17 =>
 kra p17 3 v4 fun v18 =>
 k [v18, q15] p17)
 (kla p14 3 v12 fun v19 =>
 kst p14 3 v4 v19 fun p20 =>
 kra p20 3 v4 fun v21 =>
 k [v21, q0] p20)
theorem o123 : FO EN 123 f123 := fe 2 (tc (cn_ok o170) tnil) [none] (by kernel_rfl) fun p s k => by kernel_rfl
def f350 : FT := fun p s k => hd s fun a0 s0 =>
 nl s0 <|
 kln a0 fun v1 =>
 jn 1 (fun j2 =>
 lp 2 fuel (fun r3 v4 v5 p6 =>
 klt v5 v1 fun v7 =>
 kif v7
 (kia 3 a0 v5 fun v8 =>
 kla p6 3 v8 fun v9 =>
 kal p6 q101 fun v10 p11 =>
 kst p11 3 v10 v9 fun p12 =>
 kfa 2 v10 fun v13 =>
 kld p12 v13 fun v14 =>
 kln v14 fun v15 =>
 kad v4 v15 fun v16 =>
 kad v5 q12 fun v17 =>
 r3 v16 v17 p12)
 (j2 v4 p6)) q0 q0 p) fun v18 p19 =>
 k [v18] p19
theorem o350 : FO EN 350 f350 := fe 1 tnil [some [3], some [3, 8], none, none] (by kernel_rfl) fun p s k => by kernel_rfl
def f382 : FT := fun p s k => hd s fun a0 s0 =>
 hd s0 fun a1 s1 =>
 nl s1 <|
 klt a1 q0 fun v2 =>
 jn 0 (fun j3 => kif v2
 (kmi 9 q105 fun v4 =>
 ksw mth p (.bad) fun v5 p6 =>
 j3 p6)
 (j3 p)) fun p7 =>
 ksw mth p7 (.capOf (.c a0)) fun v8 p9 =>
 kln a0 fun v10 =>
 ksb v8 v10 fun v11 =>
 ksb a1 v11 fun v12 =>
 kgt v12 q0 fun v13 =>
 jn 1 (fun j14 => kif v13
 (ksw mth p9 (.capOf (.c a0)) fun v15 p16 =>
 ksl 2 a0 none (some v15) none fun v17 =>
 ksw mth p16 (.appendZ 2 32 q30 (.c v17) (.c v12)) fun v18 p19 =>
 kln a0 fun v20 =>
 ksl 2 v18 none (some v20) none fun v21 =>
 j14 v21 p19)
 (j14 a0 p9)) fun v22 p23 =>
 k [v22] p23
theorem o382 : FO EN 382 f382 := fe 2 tnil [some [], some [0]] (by kernel_rfl) fun p s k => by kernel_rfl
def f373 : FT := fun p s k => hd s fun a0 s0 =>
 nl s0 <|
 kln a0 fun v1 =>
 jn 1 (fun j2 =>
 lp 2 fuel (fun r3 v4 v5 p6 =>
 klt v5 v1 fun v7 =>
 kif v7
 (kia 1 a0 v5 fun v8 =>
 kld p6 v8 fun v9 =>
 kln v9 fun v10 =>
 kad v4 v10 fun v11 =>
 klt v11 q0 fun v12 =>
 jn 0 (fun j13 => kif v12
 (kmi 9 q106 fun v14 =>
 ksw mth p6 (.bad) fun v15 p16 =>
 j13 p16)
 (j13 p6)) fun p17 =>
 kad v5 q12 fun v18 =>
 r3 v11 v18 p17)
 (j2 v4 p6)) q0 q0 p) fun v19 p20 =>
 ci f382 p20 [.nils, v19] fun v21 p22 =>
 kln a0 fun v23 =>
 jn 1 (fun j24 =>
 lp 2 fuel (fun r25 v26 v27 p28 =>
 klt v27 v23 fun v29 =>
 kif v29
 (kia 1 a0 v27 fun v30 =>
 kld p28 v30 fun v31 =>
 kap p28 2 32 v26 v31 fun v32 p33 =>
 kad v27 q12 fun v34 =>
 r25 v32 v34 p33)
 (j24 v26 p28)) v21 q0 p22) fun v35 p36 =>
 k [v35] p36
theorem o373 : FO EN 373 f373 := fe 1 (tc (ci_ok o382) tnil) [some [3], some [3, 11], none, none, some [], some [6], some [6, 27], none, none] (by kernel_rfl) fun p s k => by kernel_rfl
def t386 : List Ce := [⟨107, cc f107⟩]
def f386 : FT := fun p s k => hd s fun a0 s0 =>
 hd s0 fun a1 s1 =>
 hd s1 fun a2 s2 =>
 hd s2 fun a3 s3 =>
 nl s3 <|
 kad a1 q12 fun v4 =>
 jn 0 (fun j5 =>
 lp 1 fuel (fun r6 v7 p8 =>
 klt v7 a2 fun v9 =>
 kif v9
 (jn 0 (fun j10 =>
 jn 0 (fun j11 =>
 lp 1 fuel (fun r12 v13 p14 =>
 kgt v13 a1 fun v15 =>
 jn 12 (fun j16 => gdK v15 true (kia 2 a0 v13 fun v17 =>
 kla (prt [] p14) 2 v17 fun v18 =>
 ksb v13 q12 fun v19 =>
 kia 2 a0 v19 fun v20 =>
 kla (prt [] p14) 2 v20 fun v21 =>
 kcv t386 p14 a3 [v18, v21] fun v22 p23 =>
 klt v22 q0 fun v24 =>
 j16 a3 a0 v13 v17 v18 a0 v13 v19 v20 v21 v22 v24 p23) (j16 .undef .undef .undef .undef .undef .undef .undef .undef .undef .undef .undef .undef p14)) fun v25 v26 v27 v28 v29 v30 v31 v32 v33 v34 v35 v36 p37 =>
 kpk v15 v36 q11 fun v38 =>
 kif v38
 (ksb v13 q12 fun v39 =>
 ksb v13 q12 fun v40 =>
 kia 2 a0 v40 fun v41 =>
 kla (prt [] p37) 2 v41 fun v42 =>
 kia 2 a0 v13 fun v43 =>
 kla (prt [] p37) 2 v43 fun v44 =>
 kia 2 a0 v13 fun v45 =>
 kst p37 2 v45 v42 fun p46 =>
 kia 2 a0 v39 fun v47 =>
 kst p46 2 v47 v44 fun p48 =>
 ksb v13 q12 fun v49 =>
 r12 v49 p48)
 (j11 p37)) v7 p8) fun p50 =>
 j10 p50) fun p51 =>
 kad v7 q12 fun v52 =>
 r6 v52 p51)
 (j5 p8)) v4 p) fun p53 =>
 k [] p53
theorem o386 : FO EN 386 f386 := fe 4 (T := t386) (tc (cc_ok o107) tnil) [some [], some [8], none, some [], some [], some [9], none, none] (by kernel_rfl) fun p s k => by kernel_rfl
def t398 : List Ce := [⟨107, cc f107⟩]
def f398 : FT := fun p s k => hd s fun a0 s0 =>
 hd s0 fun a1 s1 =>
 hd s1 fun a2 s2 =>
 hd s2 fun a3 s3 =>
 hd s3 fun a4 s4 =>
 nl s4 <|
 kia 2 a0 a2 fun v5 =>
 kla (prt [] p) 2 v5 fun v6 =>
 kia 2 a0 a1 fun v7 =>
 kla (prt [] p) 2 v7 fun v8 =>
 kcv t398 p a4 [v6, v8] fun v9 p10 =>
 klt v9 q0 fun v11 =>
 kif v11
 (knc mth a3 fun v12 =>
 kld p10 v12 fun v13 =>
 kad v13 q12 fun v14 =>
 knc mth a3 fun v15 =>
 kst p10 1 v15 v14 fun p16 =>
 k [a2, a1] p16)
 (k [a1, a2] p10)
theorem o398 : FO EN 398 f398 := fe 5 (T := t398) (tc (cc_ok o107) tnil) [none] (by kernel_rfl) fun p s k => by kernel_rfl
def f397 : FT := fun p s k => hd s fun a0 s0 =>
 hd s0 fun a1 s1 =>
 hd s1 fun a2 s2 =>
 hd s2 fun a3 s3 =>
 hd s3 fun a4 s4 =>
 hd s4 fun a5 s5 =>
 nl s5 <|
 cn f398 p [a0, a1, a2, a4, a5] fun v6 p7 =>
 kex v6 0 fun v8 =>
 kex v6 1 fun v9 =>
 cn f398 p7 [a0, v9, a3, a4, a5] fun v10 p11 =>
 kex v10 0 fun v12 =>
 kex v10 1 fun v13 =>
 cn f398 p11 [a0, v8, v12, a4, a5] fun v14 p15 =>
 kex v14 0 fun v16 =>
 kex v14 1 fun v17 =>
 k [v17] p15
theorem o397 : FO EN 397 f397 := fe 6 (tc (cn_ok o398) tnil) [] (by kernel_rfl) fun p s k => by kernel_rfl
def f389 : FT := fun p s k => hd s fun a0 s0 =>
 hd s0 fun a1 s1 =>
 hd s1 fun a2 s2 =>
 hd s2 fun a3 s3 =>
 nl s3 <|
 ksb a2 a1 fun v4 =>
 kal p q14 fun v5 p6 =>
 kar .quo v4 q15 fun v7 =>
 kar .mul v7 q12 fun v8 =>
 kad a1 v8 fun v9 =>
 kar .quo v4 q15 fun v10 =>
 kar .mul v10 q16 fun v11 =>
 kad a1 v11 fun v12 =>
 kar .quo v4 q15 fun v13 =>
 kar .mul v13 q17 fun v14 =>
 kad a1 v14 fun v15 =>
 kge v4 q9 fun v16 =>
 jn 1 (fun j17 => kif v16
 (kge v4 q18 fun v18 =>
 jn 3 (fun j19 => kif v18
 (.no)
 (j19 v9 v12 v15 p6)) fun v20 v21 v22 p23 =>
 cn f397 p23 [a0, v20, v21, v22, v5, a3] fun v24 p25 =>
 j17 v24 p25)
 (j17 v12 p6)) fun v26 p27 =>
 kld p27 v5 fun v28 =>
 keq false .i v28 q0 fun v29 =>
 kif v29
 (k [v26, q12] p27)
 (keq false .i v28 q19 fun v30 =>
 kif v30
 (k [v26, q16] p27)
 (k [v26, q0] p27))
theorem o389 : FO EN 389 f389 := fe 4 (tc (cn_ok o397) tnil) [some [13], some [12, 13, 14], none, none, none] (by kernel_rfl) fun p s k => by kernel_rfl
def t391 : List Ce := [⟨107, cc f107⟩]
def f391 : FT := fun p s k => hd s fun a0 s0 =>
 hd s0 fun a1 s1 =>
 hd s1 fun a2 s2 =>
 hd s2 fun a3 s3 =>
 nl s3 <|
 kad a1 q12 fun v4 =>
 jn 0 (fun j5 =>
 lp 2 fuel (fun r6 v7 v8 p9 =>
 klt v8 q20 fun v10 =>
 kif v10
 (jn 1 (fun j11 =>
 jn 1 (fun j12 =>
 lp 1 fuel (fun r13 v14 p15 =>
 klt v14 a2 fun v16 =>
 jn 13 (fun j17 => gdK v16 true (kia 2 a0 v14 fun v18 =>
 kla (prt [] p15) 2 v18 fun v19 =>
 ksb v14 q12 fun v20 =>
 kia 2 a0 v20 fun v21 =>
 kla (prt [] p15) 2 v21 fun v22 =>
 kcv t391 p15 a3 [v19, v22] fun v23 p24 =>
 klt v23 q0 fun v25 =>
 knt v25 fun v26 =>
 j17 a3 a0 v14 v18 v19 a0 v14 v20 v21 v22 v23 v25 v26 p24) (j17 .undef .undef .undef .undef .undef .undef .undef .undef .undef .undef .undef .undef .undef p15)) fun v27 v28 v29 v30 v31 v32 v33 v34 v35 v36 v37 v38 v39 p40 =>
 kpk v16 v39 q11 fun v41 =>
 kif v41
 (kad v14 q12 fun v42 =>
 r13 v42 p40)
 (j12 v14 p40)) v7 p9) fun v43 p44 =>
 keq false .i v43 a2 fun v45 =>
 kif v45
 (k [q21] p44)
 (ksb a2 a1 fun v46 =>
 klt v46 q18 fun v47 =>
 kif v47
 (k [q11] p44)
 (ksb v43 q12 fun v48 =>
 ksb v43 q12 fun v49 =>
 kia 2 a0 v49 fun v50 =>
 kla (prt [] p44) 2 v50 fun v51 =>
 kia 2 a0 v43 fun v52 =>
 kla (prt [] p44) 2 v52 fun v53 =>
 kia 2 a0 v43 fun v54 =>
 kst p44 2 v54 v51 fun p55 =>
 kia 2 a0 v48 fun v56 =>
 kst p55 2 v56 v53 fun p57 =>
 ksb v43 a1 fun v58 =>
 kge v58 q16 fun v59 =>
 jn 0 (fun j60 => kif v59
 (ksb v43 q12 fun v61 =>
 jn 0 (fun j62 =>
 lp 1 fuel (fun r63 v64 p65 =>
 kge v64 q12 fun v66 =>
 kif v66
 (kia 2 a0 v64 fun v67 =>
 kla (prt [] p65) 2 v67 fun v68 =>
 ksb v64 q12 fun v69 =>
 kia 2 a0 v69 fun v70 =>
 kla (prt [] p65) 2 v70 fun v71 =>
 kcv t391 p65 a3 [v68, v71] fun v72 p73 =>
 klt v72 q0 fun v74 =>
 knt v74 fun v75 =>
 kif v75
 (j62 p73)
 (ksb v64 q12 fun v76 =>
 ksb v64 q12 fun v77 =>
 kia 2 a0 v77 fun v78 =>
 kla (prt [] p73) 2 v78 fun v79 =>
 kia 2 a0 v64 fun v80 =>
 kla (prt [] p73) 2 v80 fun v81 =>
 kia 2 a0 v64 fun v82 =>
 kst p73 2 v82 v79 fun p83 =>
 kia 2 a0 v76 fun v84 =>
 kst p83 2 v84 v81 fun p85 =>
 ksb v64 q12 fun v86 =>
 r63 v86 p85))
 (j62 p65)) v61 p57) fun p87 =>
 j60 p87)
 (j60 p57)) fun p88 =>
 ksb a2 v43 fun v89 =>
 kge v89 q16 fun v90 =>
 jn 0 (fun j91 => kif v90
 (kad v43 q12 fun v92 =>
 jn 0 (fun j93 =>
 lp 1 fuel (fun r94 v95 p96 =>
 klt v95 a2 fun v97 =>
 kif v97
 (kia 2 a0 v95 fun v98 =>
 kla (prt [] p96) 2 v98 fun v99 =>
 ksb v95 q12 fun v100 =>
 kia 2 a0 v100 fun v101 =>
 kla (prt [] p96) 2 v101 fun v102 =>
 kcv t391 p96 a3 [v99, v102] fun v103 p104 =>
 klt v103 q0 fun v105 =>
 knt v105 fun v106 =>
 kif v106
 (j93 p104)
 (ksb v95 q12 fun v107 =>
 ksb v95 q12 fun v108 =>
 kia 2 a0 v108 fun v109 =>
 kla (prt [] p104) 2 v109 fun v110 =>
 kia 2 a0 v95 fun v111 =>
 kla (prt [] p104) 2 v111 fun v112 =>
 kia 2 a0 v95 fun v113 =>
 kst p104 2 v113 v110 fun p114 =>
 kia 2 a0 v107 fun v115 =>
 kst p114 2 v115 v112 fun p116 =>
 kad v95 q12 fun v117 =>
 r94 v117 p116))
 (j93 p96)) v92 p88) fun p118 =>
 j91 p118)
 (j91 p88)) fun p119 =>
 j11 v43 p119))) fun v120 p121 =>
 kad v8 q12 fun v122 =>
 r6 v120 v122 p121)
 (j5 p9)) v4 q0 p) fun p123 =>
 k [q11] p123
theorem o391 : FO EN 391 f391 := fe 4 (T := t391) (tc (cc_ok o107) tnil) [some [], some [9, 10], none, some [9], some [9], some [9], none, none, none, none, some [], some [], some [11], none, none, none, some [], some [], some [12], none, none, none] (by kernel_rfl) fun p s k => by kernel_rfl
def t393 : List Ce := [⟨107, cc f107⟩]
def f393 : FT := fun p s k => hd s fun a0 s0 =>
 hd s0 fun a1 s1 =>
 hd s1 fun a2 s2 =>
 hd s2 fun a3 s3 =>
 hd s3 fun a4 s4 =>
 nl s4 <|
 kia 2 a0 a3 fun v5 =>
 kla (prt [] p) 2 v5 fun v6 =>
 kia 2 a0 a1 fun v7 =>
 kla (prt [] p) 2 v7 fun v8 =>
 kia 2 a0 a1 fun v9 =>
 kst p 2 v9 v6 fun p10 =>
 kia 2 a0 a3 fun v11 =>
 kst p10 2 v11 v8 fun p12 =>
 kad a1 q12 fun v13 =>
 ksb a2 q12 fun v14 =>
 jn 1 (fun j15 =>
 lp 1 fuel (fun r16 v17 p18 =>
 kle v17 v14 fun v19 =>
 jn 11 (fun j20 => gdK v19 true (kia 2 a0 v17 fun v21 =>
 kla (prt [] p18) 2 v21 fun v22 =>
 kia 2 a0 a1 fun v23 =>
 kla (prt [] p18) 2 v23 fun v24 =>
 kcv t393 p18 a4 [v22, v24] fun v25 p26 =>
 klt v25 q0 fun v27 =>
 j20 a4 a0 v17 v21 v22 a0 a1 v23 v24 v25 v27 p26) (j20 .undef .undef .undef .undef .undef .undef .undef .undef .undef .undef .undef p18)) fun v28 v29 v30 v31 v32 v33 v34 v35 v36 v37 v38 p39 =>
 kpk v19 v38 q11 fun v40 =>
 kif v40
 (kad v17 q12 fun v41 =>
 r16 v41 p39)
 (j15 v17 p39)) v13 p12) fun v42 p43 =>
 jn 1 (fun j44 =>
 lp 1 fuel (fun r45 v46 p47 =>
 kle v42 v46 fun v48 =>
 jn 12 (fun j49 => gdK v48 true (kia 2 a0 v46 fun v50 =>
 kla (prt [] p47) 2 v50 fun v51 =>
 kia 2 a0 a1 fun v52 =>
 kla (prt [] p47) 2 v52 fun v53 =>
 kcv t393 p47 a4 [v51, v53] fun v54 p55 =>
 klt v54 q0 fun v56 =>
 knt v56 fun v57 =>
 j49 a4 a0 v46 v50 v51 a0 a1 v52 v53 v54 v56 v57 p55) (j49 .undef .undef .undef .undef .undef .undef .undef .undef .undef .undef .undef .undef p47)) fun v58 v59 v60 v61 v62 v63 v64 v65 v66 v67 v68 v69 p70 =>
 kpk v48 v69 q11 fun v71 =>
 kif v71
 (ksb v46 q12 fun v72 =>
 r45 v72 p70)
 (j44 v46 p70)) v14 p43) fun v73 p74 =>
 kgt v42 v73 fun v75 =>
 kif v75
 (kia 2 a0 a1 fun v76 =>
 kla (prt [] p74) 2 v76 fun v77 =>
 kia 2 a0 v73 fun v78 =>
 kla (prt [] p74) 2 v78 fun v79 =>
 kia 2 a0 v73 fun v80 =>
 kst p74 2 v80 v77 fun p81 =>
 kia 2 a0 a1 fun v82 =>
 kst p81 2 v82 v79 fun p83 =>
 k [v73, q21] p83)
 (kia 2 a0 v73 fun v84 =>
 kla (prt [] p74) 2 v84 fun v85 =>
 kia 2 a0 v42 fun v86 =>
 kla (prt [] p74) 2 v86 fun v87 =>
 kia 2 a0 v42 fun v88 =>
 kst p74 2 v88 v85 fun p89 =>
 kia 2 a0 v73 fun v90 =>
 kst p89 2 v90 v87 fun p91 =>
 kad v42 q12 fun v92 =>
 ksb v73 q12 fun v93 =>
 jn 1 (fun j94 =>
 lp 2 fuel (fun r95 v96 v97 p98 =>
 jn 2 (fun j99 =>
 jn 1 (fun j100 =>
 lp 1 fuel (fun r101 v102 p103 =>
 kle v102 v97 fun v104 =>
 jn 11 (fun j105 => gdK v104 true (kia 2 a0 v102 fun v106 =>
 kla (prt [] p103) 2 v106 fun v107 =>
 kia 2 a0 a1 fun v108 =>
 kla (prt [] p103) 2 v108 fun v109 =>
 kcv t393 p103 a4 [v107, v109] fun v110 p111 =>
 klt v110 q0 fun v112 =>
 j105 a4 a0 v102 v106 v107 a0 a1 v108 v109 v110 v112 p111) (j105 .undef .undef .undef .undef .undef .undef .undef .undef .undef .undef .undef p103)) fun v113 v114 v115 v116 v117 v118 v119 v120 v121 v122 v123 p124 =>
 kpk v104 v123 q11 fun v125 =>
 kif v125
 (kad v102 q12 fun v126 =>
 r101 v126 p124)
 (j100 v102 p124)) v96 p98) fun v127 p128 =>
 jn 1 (fun j129 =>
 lp 1 fuel (fun r130 v131 p132 =>
 kle v127 v131 fun v133 =>
 jn 12 (fun j134 => gdK v133 true (kia 2 a0 v131 fun v135 =>
 kla (prt [] p132) 2 v135 fun v136 =>
 kia 2 a0 a1 fun v137 =>
 kla (prt [] p132) 2 v137 fun v138 =>
 kcv t393 p132 a4 [v136, v138] fun v139 p140 =>
 klt v139 q0 fun v141 =>
 knt v141 fun v142 =>
 j134 a4 a0 v131 v135 v136 a0 a1 v137 v138 v139 v141 v142 p140) (j134 .undef .undef .undef .undef .undef .undef .undef .undef .undef .undef .undef .undef p132)) fun v143 v144 v145 v146 v147 v148 v149 v150 v151 v152 v153 v154 p155 =>
 kpk v133 v154 q11 fun v156 =>
 kif v156
 (ksb v131 q12 fun v157 =>
 r130 v157 p155)
 (j129 v131 p155)) v97 p128) fun v158 p159 =>
 kgt v127 v158 fun v160 =>
 kif v160
 (j94 v158 p159)
 (kia 2 a0 v158 fun v161 =>
 kla (prt [] p159) 2 v161 fun v162 =>
 kia 2 a0 v127 fun v163 =>
 kla (prt [] p159) 2 v163 fun v164 =>
 kia 2 a0 v127 fun v165 =>
 kst p159 2 v165 v162 fun p166 =>
 kia 2 a0 v158 fun v167 =>
 kst p166 2 v167 v164 fun p168 =>
 kad v127 q12 fun v169 =>
 ksb v158 q12 fun v170 =>
 j99 v169 v170 p168)) fun v171 v172 p173 =>
 r95 v171 v172 p173) v92 v93 p91) fun v174 p175 =>
 kia 2 a0 a1 fun v176 =>
 kla (prt [] p175) 2 v176 fun v177 =>
 kia 2 a0 v174 fun v178 =>
 kla (prt [] p175) 2 v178 fun v179 =>
 kia 2 a0 v174 fun v180 =>
 kst p175 2 v180 v177 fun p181 =>
 kia 2 a0 a1 fun v182 =>
 kst p181 2 v182 v179 fun p183 =>
 k [v174, q11] p183)
theorem o393 : FO EN 393 f393 := fe 5 (T := t393) (tc (cc_ok o107) tnil) [some [12], some [12], none, none, some [13], some [13], none, none, none, some [13], some [12, 13], some [12, 13], some [12], some [12], none, none, some [13], some [13], none, none, none] (by kernel_rfl) fun p s k => by kernel_rfl
def t383 (self : FT) : List Ce := [⟨386, ci f386⟩, ⟨389, cn f389⟩, ⟨391, cn f391⟩, ⟨393, ci f393⟩, ⟨383, ci self⟩, ⟨107, cc f107⟩]
def g383 : FT → FT := fun self => fun p s k => hd s fun a0 s0 =>
 hd s0 fun a1 s1 =>
 hd s1 fun a2 s2 =>
 hd s2 fun a3 s3 =>
 hd s3 fun a4 s4 =>
 nl s4 <|
 jn 0 (fun j5 =>
 lp 5 fuel (fun r6 v7 v8 v9 v10 v11 p12 =>
 jn 5 (fun j13 =>
 ksb v8 v7 fun v14 =>
 kle v14 q19 fun v15 =>
 kif v15
 (ci f386 p12 [a0, v7, v8, a4] fun v16 p17 =>
 k [] p17)
 (keq false .i v9 q0 fun v18 =>
 kif v18
 (.no)
 (knt v10 fun v19 =>
 jn 1 (fun j20 => kif v19
 (.no)
 (j20 v9 p12)) fun v21 p22 =>
 cn f389 p22 [a0, v7, v8, a4] fun v23 p24 =>
 kex v23 0 fun v25 =>
 kex v23 1 fun v26 =>
 keq false .i v26 q16 fun v27 =>
 jn 2 (fun j28 => kif v27
 (.no)
 (j28 v25 v26 p24)) fun v29 v30 p31 =>
 jn 1 (fun j32 => gdK v10 true (j32 v11 p31) (j32 .undef p31)) fun v33 p34 =>
 kpk v10 v33 q11 fun v35 =>
 jn 2 (fun j36 => gdK v35 true (keq false .i v30 q12 fun v37 =>
 j36 v30 v37 p34) (j36 .undef .undef p34)) fun v38 v39 p40 =>
 kpk v35 v39 q11 fun v41 =>
 jn 0 (fun j42 => kif v41
 (cn f391 p40 [a0, v7, v8, a4] fun v43 p44 =>
 kif v43
 (k [] p44)
 (j42 p44))
 (j42 p40)) fun p45 =>
 kgt v7 q0 fun v46 =>
 jn 13 (fun j47 => gdK v46 true (ksb v7 q12 fun v48 =>
 kia 2 a0 v48 fun v49 =>
 kla (prt [] p45) 2 v49 fun v50 =>
 kia 2 a0 v29 fun v51 =>
 kla (prt [] p45) 2 v51 fun v52 =>
 kcv (t383 self) p45 a4 [v50, v52] fun v53 p54 =>
 klt v53 q0 fun v55 =>
 knt v55 fun v56 =>
 j47 a4 a0 v7 v48 v49 v50 a0 v29 v51 v52 v53 v55 v56 p54) (j47 .undef .undef .undef .undef .undef .undef .undef .undef .undef .undef .undef .undef .undef p45)) fun v57 v58 v59 v60 v61 v62 v63 v64 v65 v66 v67 v68 v69 p70 =>
 kpk v46 v69 q11 fun v71 =>
 kif v71
 (.no)
 (ci f393 p70 [a0, v7, v8, v29, a4] fun v72 p73 =>
 kex v72 0 fun v74 =>
 kex v72 1 fun v75 =>
 ksb v74 v7 fun v76 =>
 ksb v8 v74 fun v77 =>
 kar .quo v14 q9 fun v78 =>
 klt v76 v77 fun v79 =>
 jn 3 (fun j80 => kif v79
 (kge v76 v78 fun v81 =>
 ci self p73 [a0, v7, v74, v21, a4] fun v82 p83 =>
 kad v74 q12 fun v84 =>
 j80 v84 v8 v81 p83)
 (kge v77 v78 fun v85 =>
 kad v74 q12 fun v86 =>
 ci self p73 [a0, v86, v8, v21, a4] fun v87 p88 =>
 j80 v7 v74 v85 p88)) fun v89 v90 v91 p92 =>
 j13 v89 v90 v21 v91 v75 p92)))) fun v93 v94 v95 v96 v97 p98 =>
 r6 v93 v94 v95 v96 v97 p98) a1 a2 a3 q21 q21 p) fun p99 =>
 k [] p99
def f383 : FT := rcF depth g383
theorem o383 : FO EN 383 f383 := FO.rc (fun self h => fe 5 (T := t383 self) (tc (ci_ok o386) (tc (cn_ok o389) (tc (cn_ok o391) (tc (ci_ok o393) (tc (ci_ok h) (tc (cc_ok o107) tnil)))))) [some [], some [1, 2, 3, 10, 11], some [1, 2, 3, 10, 11], none, none, some [3], some [13, 14], some [], none, none, some [1, 2, 10]] (by kernel_rfl) fun p s k => by kernel_rfl) depth
def f374 : FT := fun p s k => hd s fun a0 s0 =>
 hd s0 fun a1 s1 =>
 nl s1 <|
 kln a0 fun v2 =>
 kci .u64 v2 fun v3 =>
 cc f71 p [v3] fun v4 p5 =>
 ci f383 p5 [a0, q0, v2, v4, a1] fun v6 p7 =>
 k [] p7
theorem o374 : FO EN 374 f374 := fe 2 (tc (cc_ok o71) (tc (ci_ok o383) tnil)) [] (by kernel_rfl) fun p s k => by kernel_rfl
def f375 : FT := fun p s k => hd s fun a0 s0 =>
 nl s0 <|
 kln a0 fun v1 =>
 klt v1 q16 fun v2 =>
 kif v2
 (k [a0] p)
 (jn 0 (fun j3 =>
 lp 1 fuel (fun r4 v5 p6 =>
 kln a0 fun v7 =>
 klt v5 v7 fun v8 =>
 kif v8
 (jn 1 (fun j9 =>
 kia 2 a0 v5 fun v10 =>
 kla (prt [] p6) 2 v10 fun v11 =>
 ksb v5 q12 fun v12 =>
 kia 2 a0 v12 fun v13 =>
 kla (prt [] p6) 2 v13 fun v14 =>
 kea false [(0, .s), (1, .s)] v11 v14 fun v15 =>
 kif v15
 (ksl 2 a0 (some v5) none none fun v16 =>
 jn 1 (fun j17 =>
 lp 2 fuel (fun r18 v19 v20 p21 =>
 kln v16 fun v22 =>
 klt v20 v22 fun v23 =>
 kif v23
 (kia 2 v16 v20 fun v24 =>
 kla (prt [] p21) 2 v24 fun v25 =>
 ksb v20 q12 fun v26 =>
 kia 2 v16 v26 fun v27 =>
 kla (prt [] p21) 2 v27 fun v28 =>
 kea true [(0, .s), (1, .s)] v25 v28 fun v29 =>
 jn 1 (fun j30 => kif v29
 (kia 2 v16 v20 fun v31 =>
 kla p21 2 v31 fun v32 =>
 kia 2 a0 v19 fun v33 =>
 kst p21 2 v33 v32 fun p34 =>
 kad v19 q12 fun v35 =>
 j30 v35 p34)
 (j30 v19 p21)) fun v36 p37 =>
 kad v20 q12 fun v38 =>
 r18 v36 v38 p37)
 (j17 v19 p21)) v5 q12 p6) fun v39 p40 =>
 ksl 2 a0 (some v39) none none fun v41 =>
 ksw mth p40 (.clear q30 (.c v41)) fun v42 p43 =>
 ksl 2 a0 none (some v39) none fun v44 =>
 k [v44] p43)
 (j9 v5 p6)) fun v45 p46 =>
 kad v45 q12 fun v47 =>
 r4 v47 p46)
 (j3 p6)) q12 p) fun p48 =>
 k [a0] p48)
theorem o375 : FO EN 375 f375 := fe 1 tnil [none, some [], some [3], none, some [3], none, some [3], some [3, 5], none, none, some [3]] (by kernel_rfl) fun p s k => by kernel_rfl
def f371 : FT := fun p s k => hd s fun a0 s0 =>
 nl s0 <|
 cn f373 p [a0] fun v1 p2 =>
 ci f374 p2 [v1, q107] fun v3 p4 =>
 cn f375 p4 [v1] fun v5 p6 =>
 k [v5] p6
theorem o371 : FO EN 371 f371 := fe 1 (tc (cn_ok o373) (tc (ci_ok o374) (tc (cn_ok o375) tnil))) [] (by kernel_rfl) fun p s k => by kernel_rfl
def g360 : FT → FT := fun self => fun p s k => hd s fun a0 s0 =>
 hd s0 fun a1 s1 =>
 nl s1 <|
 kal p q88 fun v2 p3 =>
 kln a0 fun v4 =>
 kge a1 v4 fun v5 =>
 jn 3 (fun j6 => gdK v5 false (kln a0 fun v7 =>
 kgt v7 q3 fun v8 =>
 j6 a0 v7 v8 p3) (j6 .undef .undef .undef p3)) fun v9 v10 v11 p12 =>
 kpk v5 q21 v11 fun v13 =>
 kif v13
 (kla p12 4 v2 fun v14 =>
 kst p12 4 v2 v14 fun p15 =>
 kra p15 4 v2 fun v16 =>
 k [v16, a1, q11] p15)
 (kia 6 a0 a1 fun v17 =>
 kla p12 6 v17 fun v18 =>
 kal p12 q89 fun v19 p20 =>
 kst p20 6 v19 v18 fun p21 =>
 kfa 0 v19 fun v22 =>
 kld p21 v22 fun v23 =>
 kfa 1 v19 fun v24 =>
 kld p21 v24 fun v25 =>
 kfa 2 v19 fun v26 =>
 kld p21 v26 fun v27 =>
 kbd q88 [(0, 1, v23), (1, 1, v25), (2, 1, v27)] fun v28 =>
 kst p21 4 v2 v28 fun p29 =>
 kad a1 q12 fun v30 =>
 kfa 4 v19 fun v31 =>
 kld p29 v31 fun v32 =>
 kln v32 fun v33 =>
 jn 1 (fun j34 =>
 lp 2 fuel (fun r35 v36 v37 p38 =>
 klt v37 v33 fun v39 =>
 kif v39
 (kia 1 v32 v37 fun v40 =>
 kld p38 v40 fun v41 =>
 keq true .i v41 v36 fun v42 =>
 kif v42
 (kla p38 4 v2 fun v43 =>
 kst p38 4 v2 v43 fun p44 =>
 kra p44 4 v2 fun v45 =>
 k [v45, v36, q11] p44)
 (kal p38 q88 fun v46 p47 =>
 cn self p47 [a0, v41] fun v48 p49 =>
 kex v48 0 fun v50 =>
 kex v48 1 fun v51 =>
 kex v48 2 fun v52 =>
 kst p49 4 v46 v50 fun p53 =>
 knt v52 fun v54 =>
 kif v54
 (kla p53 4 v2 fun v55 =>
 kst p53 4 v2 v55 fun p56 =>
 kra p56 4 v2 fun v57 =>
 k [v57, v51, q11] p56)
 (kfa 3 v2 fun v58 =>
 kld p53 v58 fun v59 =>
 kla p53 4 v46 fun v60 =>
 kbs p53 1 q88 [(0, 4, v60)] fun v61 p62 =>
 kap p62 4 64 v59 v61 fun v63 p64 =>
 kfa 3 v2 fun v65 =>
 kst p64 1 v65 v63 fun p66 =>
 kad v37 q12 fun v67 =>
 r35 v51 v67 p66)))
 (j34 v36 p38)) v30 q0 p29) fun v68 p69 =>
 kfa 3 v2 fun v70 =>
 kld p69 v70 fun v71 =>
 ci f187 p69 [v71] fun v72 p73 =>
 kfa 3 v2 fun v74 =>
 kst p73 1 v74 v72 fun p75 =>
 kla p75 4 v2 fun v76 =>
 kst p75 4 v2 v76 fun p77 =>
 kra p77 4 v2 fun v78 =>
 k [v78, v68, q21] p77)
def f360 : FT := rcF depth g360
theorem o360 : FO EN 360 f360 := FO.rc (fun self h => fe 2 (tc (cn_ok h) (tc (ci_ok o187) tnil)) [none, some [5], some [5, 38], none, none, none, none] (by kernel_rfl) fun p s k => by kernel_rfl) depth
def f364 : FT := fun p s k => hd s fun a0 s0 =>
 hd s0 fun a1 s1 =>
 nl s1 <|
 kbx p 5 a0 fun v2 p3 =>
 kbx p3 5 a1 fun v4 p5 =>
 kfa 0 v2 fun v6 =>
 kld p5 v6 fun v7 =>
 kfa 0 v4 fun v8 =>
 kld p5 v8 fun v9 =>
 keq false .i v7 v9 fun v10 =>
 jn 11 (fun j11 => gdK v10 true (kfa 1 v2 fun v12 =>
 kld p5 v12 fun v13 =>
 kfa 2 v2 fun v14 =>
 kld p5 v14 fun v15 =>
 kbd q30 [(0, 1, v13), (1, 1, v15)] fun v16 =>
 kfa 1 v4 fun v17 =>
 kld p5 v17 fun v18 =>
 kfa 2 v4 fun v19 =>
 kld p5 v19 fun v20 =>
 kbd q30 [(0, 1, v18), (1, 1, v20)] fun v21 =>
 kea false [(0, .s), (1, .s)] v16 v21 fun v22 =>
 j11 v12 v13 v14 v15 v16 v17 v18 v19 v20 v21 v22 p5) (j11 .undef .undef .undef .undef .undef .undef .undef .undef .undef .undef .undef p5)) fun v23 v24 v25 v26 v27 v28 v29 v30 v31 v32 v33 p34 =>
 kpk v10 v33 q11 fun v35 =>
 jn 7 (fun j36 => gdK v35 true (kfa 3 v2 fun v37 =>
 kld p34 v37 fun v38 =>
 kln v38 fun v39 =>
 kfa 3 v4 fun v40 =>
 kld p34 v40 fun v41 =>
 kln v41 fun v42 =>
 keq false .i v39 v42 fun v43 =>
 j36 v37 v38 v39 v40 v41 v42 v43 p34) (j36 .undef .undef .undef .undef .undef .undef .undef p34)) fun v44 v45 v46 v47 v48 v49 v50 p51 =>
 kpk v35 v50 q11 fun v52 =>
 k [v52] p51
theorem o364 : FO EN 364 f364 := fe 2 tnil [] (by kernel_rfl) fun p s k => by kernel_rfl
def t363 : List Ce := [⟨364, cn f364⟩]
def f363 : FT := fun p s k => hd s fun a0 s0 =>
 hd s0 fun a1 s1 =>
 hd s1 fun a2 s2 =>
 nl s2 <|
 kln a0 fun v3 =>
 kln a1 fun v4 =>
 keq true .i v3 v4 fun v5 =>
 kif v5
 (k [q11] p)
 (kln a0 fun v6 =>
 jn 0 (fun j7 =>
 lp 1 fuel (fun r8 v9 p10 =>
 klt v9 v6 fun v11 =>
 kif v11
 (kia 5 a0 v9 fun v12 =>
 kla p10 5 v12 fun v13 =>
 kal p10 q65 fun v14 p15 =>
 kst p15 5 v14 v13 fun p16 =>
 kia 5 a1 v9 fun v17 =>
 kla p16 5 v17 fun v18 =>
 kal p16 q65 fun v19 p20 =>
 kst p20 5 v19 v18 fun p21 =>
 kla p21 5 v14 fun v22 =>
 kla p21 5 v19 fun v23 =>
 kcv t363 p21 a2 [v22, v23] fun v24 p25 =>
 knt v24 fun v26 =>
 kif v26
 (k [q11] p25)
 (kad v9 q12 fun v27 =>
 r8 v27 p25))
 (j7 p10)) q0 p) fun p28 =>
 k [q21] p28)
theorem o363 : FO EN 363 f363 := fe 3 (T := t363) (tc (cn_ok o364) tnil) [none, some [], some [17], none, none, none] (by kernel_rfl) fun p s k => by kernel_rfl
def f361 : FT := fun p s k => hd s fun a0 s0 =>
 hd s0 fun a1 s1 =>
 nl s1 <|
 kbx p 4 a0 fun v2 p3 =>
 kbx p3 4 a1 fun v4 p5 =>
 cc f186 p5 [v2] fun v6 p7 =>
 kex v6 0 fun v8 =>
 kex v6 1 fun v9 =>
 kex v6 2 fun v10 =>
 cc f186 p7 [v4] fun v11 p12 =>
 kex v11 0 fun v13 =>
 kex v11 1 fun v14 =>
 kex v11 2 fun v15 =>
 keq false .i v10 q0 fun v16 =>
 jn 2 (fun j17 => gdK v16 true (keq false .i v15 q0 fun v18 =>
 j17 v15 v18 p12) (j17 .undef .undef p12)) fun v19 v20 p21 =>
 kpk v16 v20 q11 fun v22 =>
 jn 3 (fun j23 => gdK v22 true (cn f363 p21 [v8, v13, q108] fun v24 p25 =>
 j23 v8 v13 v24 p25) (j23 .undef .undef .undef p21)) fun v26 v27 v28 p29 =>
 kpk v22 v28 q11 fun v30 =>
 k [v30] p29
theorem o361 : FO EN 361 f361 := fe 2 (tc (cc_ok o186) (tc (cn_ok o363) tnil)) [] (by kernel_rfl) fun p s k => by kernel_rfl
def f362 : FT := fun p s k => hd s fun a0 s0 =>
 nl s0 <|
 kln a0 fun v1 =>
 jn 0 (fun j2 =>
 lp 1 fuel (fun r3 v4 p5 =>
 klt v4 v1 fun v6 =>
 kif v6
 (kia 1 a0 v4 fun v7 =>
 kld p5 v7 fun v8 =>
 kbd q88 [(0, 1, q43), (1, 1, v8)] fun v9 =>
 cc f146 p5 [v9] fun v10 p11 =>
 keq true .i v10 q0 fun v12 =>
 jn 5 (fun j13 => gdK v12 false (ksl 1 a0 none (some v4) none fun v14 =>
 cn f251 p11 [v14, v8] fun v15 p16 =>
 j13 a0 v4 v14 v8 v15 p16) (j13 .undef .undef .undef .undef .undef p11)) fun v17 v18 v19 v20 v21 p22 =>
 kpk v12 q21 v21 fun v23 =>
 kif v23
 (k [q11] p22)
 (kad v4 q12 fun v24 =>
 r3 v24 p22))
 (j2 p5)) q0 p) fun p25 =>
 kln a0 fun v26 =>
 kgt v26 q0 fun v27 =>
 k [v27] p25
theorem o362 : FO EN 362 f362 := fe 1 (tc (cc_ok o146) (tc (cn_ok o251) tnil)) [some [], some [7], none, none, none] (by kernel_rfl) fun p s k => by kernel_rfl
def f354 : FT := fun p s k => hd s fun a0 s0 =>
 nl s0 <|
 cn f360 p [a0, q0] fun v1 p2 =>
 kex v1 0 fun v3 =>
 kex v1 1 fun v4 =>
 kex v1 2 fun v5 =>
 kal p2 q88 fun v6 p7 =>
 kst p7 4 v6 v3 fun p8 =>
 knt v5 fun v9 =>
 jn 4 (fun j10 => gdK v9 false (kln a0 fun v11 =>
 keq true .i v4 v11 fun v12 =>
 j10 v4 a0 v11 v12 p8) (j10 .undef .undef .undef .undef p8)) fun v13 v14 v15 v16 p17 =>
 kpk v9 q21 v16 fun v18 =>
 jn 3 (fun j19 => gdK v18 false (kla p17 4 v6 fun v20 =>
 cc f146 p17 [v20] fun v21 p22 =>
 keq true .i v21 q0 fun v23 =>
 j19 v20 v21 v23 p22) (j19 .undef .undef .undef p17)) fun v24 v25 v26 p27 =>
 kpk v18 q21 v26 fun v28 =>
 kif v28
 (k [q20] p27)
 (kla p27 4 v6 fun v29 =>
 cc f82 p27 [v29] fun v30 p31 =>
 kex v30 0 fun v32 =>
 kex v30 1 fun v33 =>
 kal p31 q88 fun v34 p35 =>
 kst p35 4 v34 v32 fun p36 =>
 kla p36 4 v34 fun v37 =>
 kla p36 4 v6 fun v38 =>
 cn f361 p36 [v37, v38] fun v39 p40 =>
 knt v39 fun v41 =>
 kif v41
 (k [q20] p40)
 (kln a0 fun v42 =>
 jn 0 (fun j43 =>
 lp 2 fuel (fun r44 v45 v46 p47 =>
 klt v46 v42 fun v48 =>
 kif v48
 (kia 6 a0 v46 fun v49 =>
 kla p47 6 v49 fun v50 =>
 kal p47 q89 fun v51 p52 =>
 kst p52 6 v51 v50 fun p53 =>
 kfa 0 v51 fun v54 =>
 kld p53 v54 fun v55 =>
 kle v55 q45 fun v56 =>
 jn 2 (fun j57 => kif v56
 (kad v45 q12 fun v58 =>
 j57 v58 v45 p53)
 (j57 v45 q34 p53)) fun v59 v60 p61 =>
 kfa 5 v51 fun v62 =>
 kld p61 v62 fun v63 =>
 keq true .i v63 v60 fun v64 =>
 jn 8 (fun j65 => gdK v64 false (kfa 0 v51 fun v66 =>
 kld p61 v66 fun v67 =>
 keq false .i v67 q45 fun v68 =>
 kfa 3 v51 fun v69 =>
 kld p61 v69 fun v70 =>
 kln v70 fun v71 =>
 kgt v71 q0 fun v72 =>
 keq true .b v68 v72 fun v73 =>
 j65 v66 v67 v68 v69 v70 v71 v72 v73 p61) (j65 .undef .undef .undef .undef .undef .undef .undef .undef p61)) fun v74 v75 v76 v77 v78 v79 v80 v81 p82 =>
 kpk v64 q21 v81 fun v83 =>
 jn 4 (fun j84 => gdK v83 false (kfa 0 v51 fun v85 =>
 kld p82 v85 fun v86 =>
 keq false .i v86 q45 fun v87 =>
 j84 v85 v86 v87 v87 p82) (j84 .undef .undef .undef .undef p82)) fun v88 v89 v90 v91 p92 =>
 jn 4 (fun j93 => gdK v91 true (kfa 3 v51 fun v94 =>
 kld p92 v94 fun v95 =>
 cn f362 p92 [v95] fun v96 p97 =>
 knt v96 fun v98 =>
 j93 v94 v95 v96 v98 p97) (j93 .undef .undef .undef .undef p92)) fun v99 v100 v101 v102 p103 =>
 jn 1 (fun j104 => gdK v83 false (kpk v91 v102 q11 fun v105 =>
 j104 v105 p103) (j104 .undef p103)) fun v106 p107 =>
 kpk v83 q21 v106 fun v108 =>
 kif v108
 (k [q20] p107)
 (kad v46 q12 fun v109 =>
 r44 v59 v109 p107))
 (j43 p47)) q0 q0 p40) fun p110 =>
 k [q0] p110))
theorem o354 : FO EN 354 f354 := fe 1 (tc (cn_ok o360) (tc (cc_ok o146) (tc (cc_ok o82) (tc (cn_ok o361) (tc (cn_ok o362) tnil))))) [none, none, some [], some [8, 42], none, none, some [8, 11], none] (by kernel_rfl) fun p s k => by kernel_rfl
def f355 : FT := fun p s k => hd s fun a0 s0 =>
 nl s0 <|
 kln a0 fun v1 =>
 jn 1 (fun j2 =>
 lp 2 fuel (fun r3 v4 v5 p6 =>
 klt v5 v1 fun v7 =>
 kif v7
 (kia 6 a0 v5 fun v8 =>
 kla p6 6 v8 fun v9 =>
 kal p6 q89 fun v10 p11 =>
 kst p11 6 v10 v9 fun p12 =>
 kfa 5 v10 fun v13 =>
 kld p12 v13 fun v14 =>
 kad v14 q12 fun v15 =>
 ksw mth p12 (.minmax true [(.c v4), (.c v15)]) fun v16 p17 =>
 kad v5 q12 fun v18 =>
 r3 v16 v18 p17)
 (j2 v4 p6)) q0 q0 p) fun v19 p20 =>
 k [v19] p20
theorem o355 : FO EN 355 f355 := fe 1 tnil [some [3], some [3, 8], none, none] (by kernel_rfl) fun p s k => by kernel_rfl
def f394 : FT := fun p s k => hd s fun a0 s0 =>
 nl s0 <|
 keq true .s a0 a0 fun v1 =>
 k [v1] p
theorem o394 : FO EN 394 f394 := fe 1 tnil [] (by kernel_rfl) fun p s k => by kernel_rfl
def f384 : FT := fun p s k => hd s fun a0 s0 =>
 hd s0 fun a1 s1 =>
 nl s1 <|
 cn f394 p [a0] fun v2 p3 =>
 cn f394 p3 [a1] fun v4 p5 =>
 kif v2
 (kif v4
 (k [q0] p5)
 (k [q34] p5))
 (kif v4
 (k [q12] p5)
 (klt a0 a1 fun v6 =>
 kif v6
 (k [q34] p5)
 (kgt a0 a1 fun v7 =>
 kif v7
 (k [q12] p5)
 (k [q0] p5))))
theorem o384 : FO EN 384 f384 := fe 2 (tc (cn_ok o394) tnil) [none, none, none, none, none] (by kernel_rfl) fun p s k => by kernel_rfl
def f376 : FT := fun p s k => hd s fun a0 s0 =>
 hd s0 fun a1 s1 =>
 nl s1 <|
 kbx p 2 a0 fun v2 p3 =>
 kbx p3 2 a1 fun v4 p5 =>
 kfa 0 v2 fun v6 =>
 kld (prt [] p5) v6 fun v7 =>
 kfa 0 v4 fun v8 =>
 kld (prt [] p5) v8 fun v9 =>
 cn f384 (prt [] p5) [v7, v9] fun v10 p11 =>
 unpK p5 p11 fun p12 =>
 kfa 1 v2 fun v13 =>
 kld (prt [(p5.next, p11.next)] p12) v13 fun v14 =>
 kfa 1 v4 fun v15 =>
 kld (prt [(p5.next, p11.next)] p12) v15 fun v16 =>
 cn f384 p12 [v14, v16] fun v17 p18 =>
 kbs p18 2 q13 [(0, 1, v10), (1, 1, v17)] fun v19 p20 =>
 cc f72 p20 [v19] fun v21 p22 =>
 k [v21] p22
theorem o376 : FO EN 376 f376 := fe 2 (tc (cn_ok o384) (tc (cc_ok o72) tnil)) [] (by kernel_rfl) fun p s k => by kernel_rfl
def f378 : FT := fun p s k => hd s fun a0 s0 =>
 nl s0 <|
 kbx p 1 a0 fun v1 p2 =>
 k [(.func (.func 385) [] [v1])] p2
theorem o378 : FO EN 378 f378 := fe 1 tnil [] (by kernel_rfl) fun p s k => by kernel_rfl
def f379 : FT := fun p s k => hd s fun a0 s0 =>
 hd s0 fun a1 s1 =>
 nl s1 <|
 jn 1 (fun j2 => gdK a0 false (j2 a1 p) (j2 .undef p)) fun v3 p4 =>
 kpk a0 q21 v3 fun v5 =>
 k [v5] p4
theorem o379 : FO EN 379 f379 := fe 2 tnil [] (by kernel_rfl) fun p s k => by kernel_rfl
def f381 : FT := fun p s k => hd s fun a0 s0 =>
 hd s0 fun a1 s1 =>
 nl s1 <|
 jn 2 (fun j2 => gdK a0 true (knt a1 fun v3 =>
 j2 a1 v3 p) (j2 .undef .undef p)) fun v4 v5 p6 =>
 kpk a0 v5 q11 fun v7 =>
 k [v7] p6
theorem o381 : FO EN 381 f381 := fe 2 tnil [] (by kernel_rfl) fun p s k => by kernel_rfl
def t385 : List Ce := [⟨376, cn f376⟩, ⟨379, cn f379⟩, ⟨381, cn f381⟩]
def f385 : FT := fun p s k => hd s fun a0 s0 =>
 hd s0 fun a1 s1 =>
 hd s1 fun a2 s2 =>
 nl s2 <|
 jn 1 (fun j3 =>
 lp 3 fuel (fun r4 v5 v6 v7 p8 =>
 kln v5 fun v9 =>
 kln v6 fun v10 =>
 kad v9 v10 fun v11 =>
 kgt v11 q0 fun v12 =>
 kif v12
 (kln v5 fun v13 =>
 keq false .i v13 q0 fun v14 =>
 jn 1 (fun j15 => kif v14
 (j15 q12 p8)
 (kln v6 fun v16 =>
 keq false .i v16 q0 fun v17 =>
 jn 1 (fun j18 => kif v17
 (j18 q34 p8)
 (kia 2 v5 q0 fun v19 =>
 kla (prt [] p8) 2 v19 fun v20 =>
 kia 2 v6 q0 fun v21 =>
 kla (prt [] p8) 2 v21 fun v22 =>
 cn f376 p8 [v20, v22] fun v23 p24 =>
 j18 v23 p24)) fun v25 p26 =>
 j15 v25 p26)) fun v27 p28 =>
 kal p28 q30 fun v29 p30 =>
 kle v27 q0 fun v31 =>
 jn 1 (fun j32 => kif v31
 (kia 2 v5 q0 fun v33 =>
 kla p30 2 v33 fun v34 =>
 ksl 2 v5 (some q12) none none fun v35 =>
 kst p30 2 v29 v34 fun p36 =>
 j32 v35 p36)
 (j32 v5 p30)) fun v37 p38 =>
 kge v27 q0 fun v39 =>
 jn 1 (fun j40 => kif v39
 (kia 2 v6 q0 fun v41 =>
 kla p38 2 v41 fun v42 =>
 ksl 2 v6 (some q12) none none fun v43 =>
 kst p38 2 v29 v42 fun p44 =>
 j40 v43 p44)
 (j40 v6 p38)) fun v45 p46 =>
 kld p46 a2 fun v47 =>
 kle v27 q0 fun v48 =>
 kge v27 q0 fun v49 =>
 kcv t385 p46 v47 [v48, v49] fun v50 p51 =>
 jn 1 (fun j52 => kif v50
 (kla p51 2 v29 fun v53 =>
 kbs p51 1 q30 [(0, 2, v53)] fun v54 p55 =>
 kap p55 2 32 v7 v54 fun v56 p57 =>
 j52 v56 p57)
 (j52 v7 p51)) fun v58 p59 =>
 r4 v37 v45 v58 p59)
 (j3 v7 p8)) a0 a1 .nils p) fun v60 p61 =>
 k [v60] p61
theorem o385 : FO EN 385 f385 := fe 3 (T := t385) (tc (cn_ok o376) (tc (cn_ok o379) (tc (cn_ok o381) tnil))) [some [6], some [0, 1, 6], none, none, none, some [7], some [7], some [0], some [1], some [6]] (by kernel_rfl) fun p s k => by kernel_rfl
def t377 (self : FT) : List Ce := [⟨377, cn self⟩, ⟨385, cn f385⟩]
def g377 : FT → FT := fun self => fun p s k => hd s fun a0 s0 =>
 hd s0 fun a1 s1 =>
 hd s1 fun a2 s2 =>
 hd s2 fun a3 s3 =>
 nl s3 <|
 kbx p 3 a3 fun v4 p5 =>
 kia 6 a0 a1 fun v6 =>
 kla p5 6 v6 fun v7 =>
 kal p5 q89 fun v8 p9 =>
 kst p9 6 v8 v7 fun p10 =>
 kfa 5 v8 fun v11 =>
 kld p10 v11 fun v12 =>
 kge v12 q0 fun v13 =>
 kif v13
 (kfa 5 v8 fun v14 =>
 kld p10 v14 fun v15 =>
 kia 1 a2 v15 fun v16 =>
 kld p10 v16 fun v17 =>
 k [v17] p10)
 (kfa 4 v8 fun v18 =>
 kld (prt [] p10) v18 fun v19 =>
 kia 1 v19 q0 fun v20 =>
 kld (prt [] p10) v20 fun v21 =>
 kla (prt [] p10) 3 v4 fun v22 =>
 cn self p10 [a0, v21, a2, v22] fun v23 p24 =>
 kfa 4 v8 fun v25 =>
 kld p24 v25 fun v26 =>
 ksl 1 v26 (some q12) none none fun v27 =>
 kln v27 fun v28 =>
 jn 1 (fun j29 =>
 lp 2 fuel (fun r30 v31 v32 p33 =>
 klt v32 v28 fun v34 =>
 kif v34
 (kia 1 v27 v32 fun v35 =>
 kld p33 v35 fun v36 =>
 kfa 0 v8 fun v37 =>
 kld (prt [] p33) v37 fun v38 =>
 ksb v38 q62 fun v39 =>
 kib 3 1 v4 v39 fun v40 =>
 kld (prt [] p33) v40 fun v41 =>
 kla (prt [] p33) 3 v4 fun v42 =>
 cn self (prt [] p33) [a0, v36, a2, v42] fun v43 p44 =>
 unpK p33 p44 fun p45 =>
 kcv (t377 self) p45 v41 [v31, v43] fun v46 p47 =>
 kad v32 q12 fun v48 =>
 r30 v46 v48 p47)
 (j29 v31 p33)) v23 q0 p24) fun v49 p50 =>
 k [v49] p50)
def f377 : FT := rcF depth g377
theorem o377 : FO EN 377 f377 := FO.rc (fun self h => fe 4 (T := t377 self) (tc (cn_ok h) (tc (cn_ok o385) tnil)) [none, some [10], some [10, 37], none, none] (by kernel_rfl) fun p s k => by kernel_rfl) depth
def f164 : FT := fun p s k => hd s fun a0 s0 =>
 nl s0 <|
 ken false .s a0 .nils fun v1 =>
 kif v1
 (k [.nils] p)
 (kbs p 0 [] [] fun v2 p3 =>
 kap p3 2 32 v2 a0 fun v4 p5 =>
 k [v4] p5)
theorem o164 : FO EN 164 f164 := fe 1 tnil [none] (by kernel_rfl) fun p s k => by kernel_rfl
def f372 : FT := fun p s k => hd s fun a0 s0 =>
 hd s0 fun a1 s1 =>
 nl s1 <|
 cn f354 p [a0] fun v2 p3 =>
 keq true .i v2 q0 fun v4 =>
 kif v4
 (k [.nils, v2] p3)
 (kln a1 fun v5 =>
 cn f355 p3 [a0] fun v6 p7 =>
 keq true .i v5 v6 fun v8 =>
 kif v8
 (k [.nils, q15] p7)
 (kln a1 fun v9 =>
 jn 0 (fun j10 =>
 lp 1 fuel (fun r11 v12 p13 =>
 klt v12 v9 fun v14 =>
 kif v14
 (jn 0 (fun j15 =>
 kia 1 a1 v12 fun v16 =>
 kld p13 v16 fun v17 =>
 jn 0 (fun j18 =>
 lp 1 fuel (fun r19 v20 p21 =>
 kln v17 fun v22 =>
 klt v20 v22 fun v23 =>
 kif v23
 (ksb v20 q12 fun v24 =>
 kia 2 v17 v24 fun v25 =>
 kla (prt [] p21) 2 v25 fun v26 =>
 kia 2 v17 v20 fun v27 =>
 kla (prt [] p21) 2 v27 fun v28 =>
 cn f376 p21 [v26, v28] fun v29 p30 =>
 kge v29 q0 fun v31 =>
 kif v31
 (k [.nils, q83] p30)
 (kad v20 q12 fun v32 =>
 r19 v32 p30))
 (j18 p21)) q12 p13) fun p33 =>
 j15 p33) fun p34 =>
 kad v12 q12 fun v35 =>
 r11 v35 p34)
 (j10 p13)) q0 p7) fun p36 =>
 cn f378 p36 [q109] fun v37 p38 =>
 cn f378 p38 [q110] fun v39 p40 =>
 cn f378 p40 [q111] fun v41 p42 =>
 kbd q112 [(0, 1, v37), (1, 1, v39), (2, 1, v41)] fun v43 =>
 cn f377 p42 [a0, q0, a1, v43] fun v44 p45 =>
 cn f164 p45 [v44] fun v46 p47 =>
 ci f252 p47 [v46] fun v48 p49 =>
 k [v48, q0] p49))
theorem o372 : FO EN 372 f372 := fe 2 (tc (cn_ok o354) (tc (cn_ok o355) (tc (cn_ok o376) (tc (cn_ok o378) (tc (cn_ok o377) (tc (cn_ok o164) (tc (ci_ok o252) tnil))))))) [none, none, some [], some [23], none, some [], some [], some [9], none, none, none] (by kernel_rfl) fun p s k => by kernel_rfl
end
end Go.V
end

section
set_option maxRecDepth 100000
set_option linter.unusedVariables false
namespace Go.V
noncomputable section
def f367 : FT := fun p s k => hd s fun a0 s0 =>
 hd s0 fun a1 s1 =>
 hd s1 fun a2 s2 =>
 nl s2 <|
 kbx p 5 a0 fun v3 p4 =>
 kbx p4 3 a1 fun v5 p6 =>
 kla p6 5 v3 fun v7 =>
 kla p6 3 v5 fun v8 =>
 cn f168 p6 [v7, v8] fun v9 p10 =>
 kex v9 0 fun v11 =>
 kex v9 1 fun v12 =>
 kal p10 q91 fun v13 p14 =>
 kst p14 6 v13 v11 fun p15 =>
 keq true .i v12 q0 fun v16 =>
 kif v16
 (k [.nils, v12] p15)
 (kla p15 5 v3 fun v17 =>
 kla p15 3 v5 fun v18 =>
 kla p15 6 v13 fun v19 =>
 cn f202 p15 [v17, v18, v19] fun v20 p21 =>
 cn f350 p21 [v20] fun v22 p23 =>
 kln a2 fun v24 =>
 keq true .i v22 v24 fun v25 =>
 kif v25
 (k [.nils, q15] p23)
 (kln v20 fun v26 =>
 kms p23 1 24 q66 v26 v26 fun v27 p28 =>
 kln v20 fun v29 =>
 jn 0 (fun j30 =>
 lp 2 fuel (fun r31 v32 v33 p34 =>
 klt v33 v29 fun v35 =>
 kif v35
 (kia 3 v20 v33 fun v36 =>
 kla p34 3 v36 fun v37 =>
 kal p34 q101 fun v38 p39 =>
 kst p39 3 v38 v37 fun p40 =>
 kfa 2 v38 fun v41 =>
 kld p40 v41 fun v42 =>
 kln v42 fun v43 =>
 ksl 1 v32 none (some v43) none fun v44 =>
 cn f57 p40 [v44, q113] fun v45 p46 =>
 kif v45
 (k [.nils, q83] p46)
 (ksl 1 v32 none (some v43) none fun v47 =>
 cn f109 (prt [] p46) [v47] fun v48 p49 =>
 unpK p46 p49 fun p50 =>
 kfa 1 v38 fun v51 =>
 kld (prt [(p46.next, p49.next)] p50) v51 fun v52 =>
 kbs p50 1 q66 [(0, 1, v52)] fun v53 p54 =>
 kap p54 1 24 v48 v53 fun v55 p56 =>
 cn f371 p56 [v55] fun v57 p58 =>
 kia 1 v27 v33 fun v59 =>
 kst p58 1 v59 v57 fun p60 =>
 ksl 1 v32 (some v43) none none fun v61 =>
 kad v33 q12 fun v62 =>
 r31 v61 v62 p60))
 (j30 p34)) a2 q0 p28) fun p63 =>
 kfa 5 v13 fun v64 =>
 kld p63 v64 fun v65 =>
 cn f372 p63 [v65, v27] fun v66 p67 =>
 kex v66 0 fun v68 =>
 kex v66 1 fun v69 =>
 k [v68, v69] p67))
theorem o367 : FO EN 367 f367 := fe 3 (tc (cn_ok o168) (tc (cn_ok o202) (tc (cn_ok o350) (tc (cn_ok o57) (tc (cn_ok o109) (tc (cn_ok o371) (tc (cn_ok o372) tnil))))))) [none, none, some [], some [2, 38], none, none, none] (by kernel_rfl) fun p s k => by kernel_rfl
def f365 : FT := fun p s k => hd s fun a0 s0 =>
 hd s0 fun a1 s1 =>
 hd s1 fun a2 s2 =>
 hd s2 fun a3 s3 =>
 nl s3 <|
 kbx p 0 a0 fun v4 p5 =>
 kbx p5 5 a1 fun v6 p7 =>
 kbx p7 3 a2 fun v8 p9 =>
 kla p9 5 v6 fun v10 =>
 kla p9 3 v8 fun v11 =>
 cn f367 p9 [v10, v11, a3] fun v12 p13 =>
 kex v12 0 fun v14 =>
 kex v12 1 fun v15 =>
 k [v14, v15] p13
theorem o365 : FO EN 365 f365 := fe 4 (tc (cn_ok o367) tnil) [] (by kernel_rfl) fun p s k => by kernel_rfl
def f368 : FT := fun p s k => hd s fun a0 s0 =>
 hd s0 fun a1 s1 =>
 nl s1 <|
 kln a0 fun v2 =>
 kln a1 fun v3 =>
 keq true .i v2 v3 fun v4 =>
 kif v4
 (k [q11] p)
 (kln a0 fun v5 =>
 jn 0 (fun j6 =>
 lp 1 fuel (fun r7 v8 p9 =>
 klt v8 v5 fun v10 =>
 kif v10
 (kia 2 a0 v8 fun v11 =>
 kla (prt [] p9) 2 v11 fun v12 =>
 kia 2 a1 v8 fun v13 =>
 kla (prt [] p9) 2 v13 fun v14 =>
 kea true [(0, .s), (1, .s)] v12 v14 fun v15 =>
 kif v15
 (k [q11] p9)
 (kad v8 q12 fun v16 =>
 r7 v16 p9))
 (j6 p9)) q0 p) fun p17 =>
 k [q21] p17)
theorem o368 : FO EN 368 f368 := fe 2 tnil [none, some [], some [13], none, none, none] (by kernel_rfl) fun p s k => by kernel_rfl
def f366 : FT := fun p s k => hd s fun a0 s0 =>
 hd s0 fun a1 s1 =>
 hd s1 fun a2 s2 =>
 nl s2 <|
 kbx p 0 a0 fun v3 p4 =>
 cn f368 p4 [a1, a2] fun v5 p6 =>
 k [v5] p6
theorem o366 : FO EN 366 f366 := fe 3 (tc (cn_ok o368) tnil) [] (by kernel_rfl) fun p s k => by kernel_rfl
def t110 : List Ce := [⟨123, cn f123⟩, ⟨365, cn f365⟩, ⟨366, cn f366⟩]
def f110 : FT := fun p s k => hd s fun a0 s0 =>
 hd s0 fun a1 s1 =>
 hd s1 fun a2 s2 =>
 hd s2 fun a3 s3 =>
 nl s3 <|
 kbx p 5 a1 fun v4 p5 =>
 kbx p5 2 a2 fun v6 p7 =>
 kfa 0 v6 fun v8 =>
 kld (prt [] p7) v8 fun v9 =>
 knc mth a3 fun v10 =>
 kfa 6 v10 fun v11 =>
 kld (prt [] p7) v11 fun v12 =>
 kia 1 v9 v12 fun v13 =>
 kld (prt [] p7) v13 fun v14 =>
 knc mth a3 fun v15 =>
 kfa 7 v15 fun v16 =>
 kld (prt [] p7) v16 fun v17 =>
 kia 1 v14 v17 fun v18 =>
 kld p7 v18 fun v19 =>
 knc mth a3 fun v20 =>
 kfa 0 v20 fun v21 =>
 kla p7 4 v21 fun v22 =>
 cn f123 p7 [v22, v19] fun v23 p24 =>
 kex v23 0 fun v25 =>
 kex v23 1 fun v26 =>
 kal p24 q29 fun v27 p28 =>
 kst p28 3 v27 v25 fun p29 =>
 keq true .i v26 q0 fun v30 =>
 kif v30
 (k [v26] p29)
 (kfa 1 v6 fun v31 =>
 kld p29 v31 fun v32 =>
 kia 1 v32 v19 fun v33 =>
 kld p29 v33 fun v34 =>
 kln v34 fun v35 =>
 kms p29 1 24 q66 v35 v35 fun v36 p37 =>
 kfa 1 v6 fun v38 =>
 kld p37 v38 fun v39 =>
 kia 1 v39 v19 fun v40 =>
 kld p37 v40 fun v41 =>
 kln v41 fun v42 =>
 jn 0 (fun j43 =>
 lp 1 fuel (fun r44 v45 p46 =>
 klt v45 v42 fun v47 =>
 kif v47
 (kia 1 v41 v45 fun v48 =>
 kld p46 v48 fun v49 =>
 knc mth a3 fun v50 =>
 kfa 4 v50 fun v51 =>
 kld p46 v51 fun v52 =>
 kia 1 v52 v49 fun v53 =>
 kld p46 v53 fun v54 =>
 kia 1 v36 v45 fun v55 =>
 kst p46 1 v55 v54 fun p56 =>
 kad v45 q12 fun v57 =>
 r44 v57 p56)
 (j43 p46)) q0 p37) fun p58 =>
 kla p58 5 v4 fun v59 =>
 kla p58 3 v27 fun v60 =>
 kiv mth t110 p58 a0 "Make" [v59, v60, v36] fun v61 p62 =>
 kex v61 0 fun v63 =>
 kex v61 1 fun v64 =>
 keq true .i v64 q0 fun v65 =>
 kif v65
 (k [v64] p62)
 (knc mth a3 fun v66 =>
 kfa 9 v66 fun v67 =>
 kld p62 v67 fun v68 =>
 kad v68 q12 fun v69 =>
 knc mth a3 fun v70 =>
 kfa 9 v70 fun v71 =>
 kst p62 1 v71 v69 fun p72 =>
 knc mth a3 fun v73 =>
 kfa 4 v73 fun v74 =>
 kld p72 v74 fun v75 =>
 kia 1 v75 v19 fun v76 =>
 kld p72 v76 fun v77 =>
 knc mth (.func (.method "Same") [a0] []) fun v78 =>
 kiv mth t110 p72 a0 "Same" [v77, v63] fun v79 p80 =>
 knt v79 fun v81 =>
 jn 0 (fun j82 => kif v81
 (knc mth a3 fun v83 =>
 kfa 4 v83 fun v84 =>
 kld (prt [] p80) v84 fun v85 =>
 knc mth a3 fun v86 =>
 kfa 5 v86 fun v87 =>
 kld (prt [] p80) v87 fun v88 =>
 knc mth a3 fun v89 =>
 kfa 9 v89 fun v90 =>
 kld (prt [] p80) v90 fun v91 =>
 kia 1 v85 v19 fun v92 =>
 kst p80 1 v92 v63 fun p93 =>
 kia 1 v88 v19 fun v94 =>
 kst p93 1 v94 v91 fun p95 =>
 knc mth a3 fun v96 =>
 kfa 8 v96 fun v97 =>
 kst p95 1 v97 q21 fun p98 =>
 j82 p98)
 (j82 p80)) fun p99 =>
 knc mth a3 fun v100 =>
 kfa 7 v100 fun v101 =>
 kld p99 v101 fun v102 =>
 kad v102 q12 fun v103 =>
 knc mth a3 fun v104 =>
 kfa 7 v104 fun v105 =>
 kst p99 1 v105 v103 fun p106 =>
 knc mth a3 fun v107 =>
 kfa 7 v107 fun v108 =>
 kld (prt [] p106) v108 fun v109 =>
 kfa 0 v6 fun v110 =>
 kld (prt [] p106) v110 fun v111 =>
 knc mth a3 fun v112 =>
 kfa 6 v112 fun v113 =>
 kld (prt [] p106) v113 fun v114 =>
 kia 1 v111 v114 fun v115 =>
 kld (prt [] p106) v115 fun v116 =>
 kln v116 fun v117 =>
 keq false .i v109 v117 fun v118 =>
 jn 0 (fun j119 => kif v118
 (knc mth a3 fun v120 =>
 kfa 7 v120 fun v121 =>
 kst p106 1 v121 q0 fun p122 =>
 knc mth a3 fun v123 =>
 kfa 8 v123 fun v124 =>
 kld p122 v124 fun v125 =>
 knt v125 fun v126 =>
 jn 0 (fun j127 => kif v126
 (knc mth a3 fun v128 =>
 kfa 6 v128 fun v129 =>
 kld p122 v129 fun v130 =>
 kad v130 q12 fun v131 =>
 knc mth a3 fun v132 =>
 kfa 6 v132 fun v133 =>
 kst p122 1 v133 v131 fun p134 =>
 j127 p134)
 (j127 p122)) fun p135 =>
 knc mth a3 fun v136 =>
 kfa 8 v136 fun v137 =>
 kst p135 1 v137 q11 fun p138 =>
 j119 p138)
 (j119 p106)) fun p139 =>
 k [q0] p139))
theorem o110 : FO EN 110 f110 := fe 4 (T := t110) (tc (cn_ok o123) (tc (cn_ok o365) (tc (cn_ok o366) tnil))) [none, some [], some [55], none, none, none, some [], some [], some []] (by kernel_rfl) fun p s k => by kernel_rfl
def f60 : FT := fun p s k => hd s fun a0 s0 =>
 hd s0 fun a1 s1 =>
 hd s1 fun a2 s2 =>
 hd s2 fun a3 s3 =>
 nl s3 <|
 kbx p 5 a1 fun v4 p5 =>
 kbx p5 10 a2 fun v6 p7 =>
 kal p7 q103 fun v8 p9 =>
 klt a3 q0 fun v10 =>
 kif v10
 (kla p9 10 v6 fun v11 =>
 kst p9 10 v8 v11 fun p12 =>
 kra p12 10 v8 fun v13 =>
 k [v13, q0, q12] p12)
 (kla p9 5 v4 fun v14 =>
 kla p9 10 v6 fun v15 =>
 cn f105 p9 [v14, v15] fun v16 p17 =>
 kex v16 0 fun v18 =>
 kex v16 1 fun v19 =>
 kal p17 q86 fun v20 p21 =>
 kst p21 2 v20 v18 fun p22 =>
 keq true .i v19 q0 fun v23 =>
 kif v23
 (kla p22 10 v6 fun v24 =>
 kst p22 10 v8 v24 fun p25 =>
 kra p25 10 v8 fun v26 =>
 k [v26, q0, v19] p25)
 (ken false .i a0 .nili fun v27 =>
 kif v27
 (kla p22 10 v6 fun v28 =>
 kst p22 10 v8 v28 fun p29 =>
 kra p29 10 v8 fun v30 =>
 k [v30, q0, q16] p29)
 (kla p22 10 v6 fun v31 =>
 kst p22 10 v8 v31 fun p32 =>
 kfa 4 v6 fun v33 =>
 kld (prt [] p32) v33 fun v34 =>
 cn f109 (prt [] p32) [v34] fun v35 p36 =>
 unpK p32 p36 fun p37 =>
 ci f108 (prt [] p37) [v35] fun v38 p39 =>
 unpK p37 p39 fun p40 =>
 kfa 5 v6 fun v41 =>
 kld (prt [(p32.next, p36.next), (p37.next, p39.next)] p40) v41 fun v42 =>
 cc f68 p40 [v42] fun v43 p44 =>
 ci f67 p44 [v43] fun v45 p46 =>
 kfa 4 v8 fun v47 =>
 kst p46 1 v47 v38 fun p48 =>
 kfa 5 v8 fun v49 =>
 kst p48 1 v49 v45 fun p50 =>
 jn 1 (fun j51 =>
 lp 1 fuel (fun r52 v53 p54 =>
 klt v53 a3 fun v55 =>
 jn 6 (fun j56 => gdK v55 true (kfa 6 v8 fun v57 =>
 kld p54 v57 fun v58 =>
 kfa 0 v20 fun v59 =>
 kld p54 v59 fun v60 =>
 kln v60 fun v61 =>
 klt v58 v61 fun v62 =>
 j56 v57 v58 v59 v60 v61 v62 p54) (j56 .undef .undef .undef .undef .undef .undef p54)) fun v63 v64 v65 v66 v67 v68 p69 =>
 kpk v55 v68 q11 fun v70 =>
 kif v70
 (kla p69 5 v4 fun v71 =>
 kla p69 2 v20 fun v72 =>
 ci f110 p69 [a0, v71, v72, v8] fun v73 p74 =>
 keq true .i v73 q0 fun v75 =>
 kif v75
 (kla p74 10 v6 fun v76 =>
 kst p74 10 v8 v76 fun p77 =>
 kra p77 10 v8 fun v78 =>
 k [v78, q0, v73] p77)
 (kad v53 q12 fun v79 =>
 r52 v79 p74))
 (j51 v53 p69)) q0 p50) fun v80 p81 =>
 kla p81 10 v8 fun v82 =>
 kst p81 10 v8 v82 fun p83 =>
 kra p83 10 v8 fun v84 =>
 k [v84, v80, q0] p83)))
theorem o60 : FO EN 60 f60 := fe 4 (tc (cn_ok o105) (tc (cn_ok o109) (tc (ci_ok o108) (tc (cc_ok o68) (tc (ci_ok o67) (tc (ci_ok o110) tnil)))))) [none, none, none, some [9], some [9], none, none, none] (by kernel_rfl) fun p s k => by kernel_rfl
def f111 : FT := fun p s k => hd s fun a0 s0 =>
 nl s0 <|
 kln a0 fun v1 =>
 keq false .i v1 q0 fun v2 =>
 kif v2
 (k [.nils] p)
 (cn f109 p [a0] fun v3 p4 =>
 kln v3 fun v5 =>
 kln v3 fun v6 =>
 ksl 1 v3 none (some v5) (some v6) fun v7 =>
 k [v7] p4)
theorem o111 : FO EN 111 f111 := fe 1 (tc (cn_ok o109) tnil) [none] (by kernel_rfl) fun p s k => by kernel_rfl
def f112 : FT := fun p s k => hd s fun a0 s0 =>
 nl s0 <|
 kln a0 fun v1 =>
 keq false .i v1 q0 fun v2 =>
 kif v2
 (k [.nils] p)
 (cc f68 p [a0] fun v3 p4 =>
 kln v3 fun v5 =>
 kln v3 fun v6 =>
 ksl 1 v3 none (some v5) (some v6) fun v7 =>
 k [v7] p4)
theorem o112 : FO EN 112 f112 := fe 1 (tc (cc_ok o68) tnil) [none] (by kernel_rfl) fun p s k => by kernel_rfl
def f113 : FT := fun p s k => hd s fun a0 s0 =>
 nl s0 <|
 kln a0 fun v1 =>
 keq false .i v1 q0 fun v2 =>
 kif v2
 (k [.nils] p)
 (cn f164 p [a0] fun v3 p4 =>
 kln v3 fun v5 =>
 kln v3 fun v6 =>
 ksl 2 v3 none (some v5) (some v6) fun v7 =>
 k [v7] p4)
theorem o113 : FO EN 113 f113 := fe 1 (tc (cn_ok o164) tnil) [none] (by kernel_rfl) fun p s k => by kernel_rfl
def f61 : FT := fun p s k => hd s fun a0 s0 =>
 nl s0 <|
 kbx p 10 a0 fun v1 p2 =>
 kal p2 q103 fun v3 p4 =>
 kfa 4 v1 fun v5 =>
 kld (prt [] p4) v5 fun v6 =>
 ci f111 (prt [] p4) [v6] fun v7 p8 =>
 unpK p4 p8 fun p9 =>
 kfa 5 v1 fun v10 =>
 kld (prt [(p4.next, p8.next)] p9) v10 fun v11 =>
 cn f112 p9 [v11] fun v12 p13 =>
 kfa 4 v1 fun v14 =>
 kst p13 1 v14 v7 fun p15 =>
 kfa 5 v1 fun v16 =>
 kst p15 1 v16 v12 fun p17 =>
 kfa 4 v1 fun v18 =>
 kld p17 v18 fun v19 =>
 kln v19 fun v20 =>
 jn 0 (fun j21 =>
 lp 1 fuel (fun r22 v23 p24 =>
 klt v23 v20 fun v25 =>
 kif v25
 (kia 1 v19 v23 fun v26 =>
 kld p24 v26 fun v27 =>
 kfa 4 v1 fun v28 =>
 kld (prt [] p24) v28 fun v29 =>
 cn f113 (prt [] p24) [v27] fun v30 p31 =>
 unpK p24 p31 fun p32 =>
 kia 1 v29 v23 fun v33 =>
 kst p32 1 v33 v30 fun p34 =>
 kad v23 q12 fun v35 =>
 r22 v35 p34)
 (j21 p24)) q0 p17) fun p36 =>
 kla p36 10 v1 fun v37 =>
 kst p36 10 v3 v37 fun p38 =>
 kra p38 10 v3 fun v39 =>
 k [v39] p38
theorem o61 : FO EN 61 f61 := fe 1 (tc (ci_ok o111) (tc (cn_ok o112) (tc (cn_ok o113) tnil))) [some [], some [16], none, none] (by kernel_rfl) fun p s k => by kernel_rfl
def f21 : FT := fun p s k => hd s fun a0 s0 =>
 hd s0 fun a1 s1 =>
 hd s1 fun a2 s2 =>
 nl s2 <|
 kbx p 5 a0 fun v3 p4 =>
 kbx p4 10 a1 fun v5 p6 =>
 kal p6 q103 fun v7 p8 =>
 klt a2 q0 fun v9 =>
 kif v9
 (kla p8 10 v5 fun v10 =>
 kst p8 10 v7 v10 fun p11 =>
 kra p11 10 v7 fun v12 =>
 k [v12, q0, q12] p11)
 (kla p8 5 v3 fun v13 =>
 kla p8 10 v5 fun v14 =>
 cn f56 p8 [v13, v14] fun v15 p16 =>
 keq true .i v15 q0 fun v17 =>
 kif v17
 (kla p16 10 v5 fun v18 =>
 kst p16 10 v7 v18 fun p19 =>
 kra p19 10 v7 fun v20 =>
 k [v20, q0, v15] p19)
 (kfa 4 v5 fun v21 =>
 kld p16 v21 fun v22 =>
 cn f57 p16 [v22, q114] fun v23 p24 =>
 kif v23
 (kla p24 10 v5 fun v25 =>
 kst p24 10 v7 v25 fun p26 =>
 kra p26 10 v7 fun v27 =>
 k [v27, q0, q83] p26)
 (kbd [] [] fun v28 =>
 kmi 162 v28 fun v29 =>
 kla p24 5 v3 fun v30 =>
 kla p24 10 v5 fun v31 =>
 cn f60 p24 [v29, v30, v31, a2] fun v32 p33 =>
 kex v32 0 fun v34 =>
 kex v32 1 fun v35 =>
 kex v32 2 fun v36 =>
 kst p33 10 v7 v34 fun p37 =>
 keq true .i v36 q0 fun v38 =>
 kif v38
 (kla p37 10 v5 fun v39 =>
 kst p37 10 v7 v39 fun p40 =>
 kra p40 10 v7 fun v41 =>
 k [v41, q0, v36] p40)
 (kla p37 10 v7 fun v42 =>
 ci f61 p37 [v42] fun v43 p44 =>
 kst p44 10 v7 v43 fun p45 =>
 kra p45 10 v7 fun v46 =>
 k [v46, v35, q0] p45))))
theorem o21 : FO EN 21 f21 := fe 3 (tc (cn_ok o56) (tc (cn_ok o57) (tc (cn_ok o60) (tc (ci_ok o61) tnil)))) [none, none, none, none] (by kernel_rfl) fun p s k => by kernel_rfl
def f8 : FT := fun p s k => hd s fun a0 s0 =>
 hd s0 fun a1 s1 =>
 nl s1 <|
 kbx p 5 a0 fun v2 p3 =>
 kbx p3 4 a1 fun v4 p5 =>
 kla p5 5 v2 fun v6 =>
 kla p5 4 v4 fun v7 =>
 cn f20 p5 [v6, v7] fun v8 p9 =>
 kex v8 0 fun v10 =>
 kex v8 1 fun v11 =>
 kal p9 q103 fun v12 p13 =>
 kst p13 10 v12 v10 fun p14 =>
 keq true .i v11 q0 fun v15 =>
 kif v15
 (k [.nils, q0, v11] p14)
 (kla p14 5 v2 fun v16 =>
 kla p14 10 v12 fun v17 =>
 cn f21 p14 [v16, v17, q115] fun v18 p19 =>
 kex v18 0 fun v20 =>
 kex v18 1 fun v21 =>
 kex v18 2 fun v22 =>
 kst p19 10 v12 v20 fun p23 =>
 keq true .i v22 q0 fun v24 =>
 kif v24
 (k [.nils, q0, v22] p23)
 (kfa 4 v12 fun v25 =>
 kld p23 v25 fun v26 =>
 k [v26, v21, q0] p23))
theorem o8 : FO EN 8 f8 := fe 2 (tc (cn_ok o20) (tc (cn_ok o21) tnil)) [none, none] (by kernel_rfl) fun p s k => by kernel_rfl
def f9 : FT := fun p s k => hd s fun a0 s0 =>
 nl s0 <|
 jn 0 (fun j1 =>
 lp 1 fuel (fun r2 v3 p4 =>
 kln a0 fun v5 =>
 klt v3 v5 fun v6 =>
 kif v6
 (ksb v3 q12 fun v7 =>
 kia 2 a0 v7 fun v8 =>
 kla (prt [] p4) 2 v8 fun v9 =>
 kia 2 a0 v3 fun v10 =>
 kla (prt [] p4) 2 v10 fun v11 =>
 cn f22 p4 [v9, v11] fun v12 p13 =>
 knt v12 fun v14 =>
 kif v14
 (k [q11] p13)
 (kad v3 q12 fun v15 =>
 r2 v15 p13))
 (j1 p4)) q12 p) fun p16 =>
 k [q21] p16
theorem o9 : FO EN 9 f9 := fe 1 (tc (cn_ok o22) tnil) [some [], some [3], none, none, none] (by kernel_rfl) fun p s k => by kernel_rfl
def f23 : FT := fun p s k => nl s <|
 kal p q66 fun v0 p1 =>
 kbd q30 [(0, 1, q116)] fun v2 =>
 kal p1 q30 fun v3 p4 =>
 kst p4 2 v3 v2 fun p5 =>
 kbd q88 [(0, 1, q44)] fun v6 =>
 kal p5 q88 fun v7 p8 =>
 kst p8 4 v7 v6 fun p9 =>
 kla p9 4 v7 fun v10 =>
 kbd q88 [(0, 1, q43), (1, 1, q117)] fun v11 =>
 kbd q88 [(0, 1, q45), (1, 1, q118), (2, 1, q119)] fun v12 =>
 kbs p9 3 q120 [(0, 4, v10), (4, 4, v11), (8, 4, v12)] fun v13 p14 =>
 kbd q88 [(0, 1, q62), (3, 1, v13)] fun v15 =>
 kbd q88 [(0, 1, q43), (1, 1, q121)] fun v16 =>
 kbs p14 2 q122 [(0, 4, v15), (4, 4, v16)] fun v17 p18 =>
 kbd q88 [(0, 1, q64), (3, 1, v17)] fun v19 =>
 kal p18 q88 fun v20 p21 =>
 kst p21 4 v20 v19 fun p22 =>
 kbd q30 [(0, 1, q123)] fun v23 =>
 kbs p22 1 q30 [(0, 2, v23)] fun v24 p25 =>
 kla p25 4 v7 fun v26 =>
 kbd q69 [(0, 1, q118), (1, 1, v24), (2, 4, v26)] fun v27 =>
 kla p25 2 v3 fun v28 =>
 kbs p25 1 q30 [(0, 2, v28)] fun v29 p30 =>
 kla p30 4 v7 fun v31 =>
 kbd q69 [(0, 1, q117), (1, 1, v29), (2, 4, v31)] fun v32 =>
 kla p30 2 v3 fun v33 =>
 kbd q30 [(0, 1, q124), (1, 1, q125)] fun v34 =>
 kbs p30 2 q126 [(0, 2, v33), (2, 2, v34)] fun v35 p36 =>
 kla p36 4 v20 fun v37 =>
 kbd q69 [(0, 1, q119), (1, 1, v35), (2, 4, v37)] fun v38 =>
 kla p36 2 v3 fun v39 =>
 kbs p36 1 q30 [(0, 2, v39)] fun v40 p41 =>
 kla p41 4 v7 fun v42 =>
 kbd q69 [(0, 1, q121), (1, 1, v40), (2, 4, v42)] fun v43 =>
 kbs p41 4 q127 [(0, 6, v27), (6, 6, v32), (12, 6, v38), (18, 6, v43)] fun v44 p45 =>
 kbd q68 [(0, 1, q128), (1, 1, v44)] fun v46 =>
 kla p45 2 v3 fun v47 =>
 kbs p45 1 q30 [(0, 2, v47)] fun v48 p49 =>
 kla p49 4 v7 fun v50 =>
 kbd q69 [(0, 1, q119), (1, 1, v48), (2, 4, v50)] fun v51 =>
 kbs p49 1 q69 [(0, 6, v51)] fun v52 p53 =>
 kbd q68 [(0, 1, q123), (1, 1, v52)] fun v54 =>
 kla p53 2 v3 fun v55 =>
 kbs p53 1 q30 [(0, 2, v55)] fun v56 p57 =>
 kla p57 4 v7 fun v58 =>
 kbd q69 [(0, 1, q125), (1, 1, v56), (2, 4, v58)] fun v59 =>
 kbs p57 1 q69 [(0, 6, v59)] fun v60 p61 =>
 kbd q68 [(0, 1, q124), (1, 1, v60)] fun v62 =>
 kbd q68 [(0, 1, q116)] fun v63 =>
 kbs p61 4 q129 [(0, 2, v46), (2, 2, v54), (4, 2, v62), (6, 2, v63)] fun v64 p65 =>
 kbd q66 [(0, 1, v64)] fun v66 =>
 kal p65 q66 fun v67 p68 =>
 kst p68 1 v67 v66 fun p69 =>
 kbd q30 [(0, 1, q128), (1, 1, q130)] fun v70 =>
 kal p69 q30 fun v71 p72 =>
 kst p72 2 v71 v70 fun p73 =>
 kla (prt [] p73) 1 v67 fun v74 =>
 kla (prt [] p73) 2 v71 fun v75 =>
 kbd q29 [(0, 2, v75), (2, 1, q118)] fun v76 =>
 kbd q30 [(0, 1, q123), (1, 1, q131)] fun v77 =>
 kbd q29 [(0, 2, v77)] fun v78 =>
 kbd q22 [(0, 3, v76), (3, 3, v78)] fun v79 =>
 kla (prt [] p73) 2 v71 fun v80 =>
 kbd q29 [(0, 2, v80), (2, 1, q117)] fun v81 =>
 kbd q30 [(0, 1, q116), (1, 1, q132)] fun v82 =>
 kbd q29 [(0, 2, v82)] fun v83 =>
 kbd q22 [(0, 3, v81), (3, 3, v83)] fun v84 =>
 kla (prt [] p73) 2 v71 fun v85 =>
 kbd q29 [(0, 2, v85), (2, 1, q119)] fun v86 =>
 kbd q30 [(0, 1, q124), (1, 1, q133)] fun v87 =>
 kbd q29 [(0, 2, v87), (2, 1, q125)] fun v88 =>
 kbd q22 [(0, 3, v86), (3, 3, v88)] fun v89 =>
 kla (prt [] p73) 2 v71 fun v90 =>
 kbd q29 [(0, 2, v90), (2, 1, q119)] fun v91 =>
 kbd q30 [(0, 1, q116), (1, 1, q134)] fun v92 =>
 kbd q29 [(0, 2, v92)] fun v93 =>
 kbd q22 [(0, 3, v91), (3, 3, v93)] fun v94 =>
 kbs p73 4 q135 [(0, 6, v79), (6, 6, v84), (12, 6, v89), (18, 6, v94)] fun v95 p96 =>
 kps p96 [(p73.next, p96.next)] [v71, v71, v71, v71] 1 v0 v74 fun b97 p98 =>
 kra p98 1 v0 fun v99 =>
 k [v99, v95] p98
theorem o23 : FO EN 23 f23 := fe 0 tnil [] (by kernel_rfl) fun p s k => by kernel_rfl
def f24 : FT := fun p s k => hd s fun a0 s0 =>
 nl s0 <|
 kbx p 10 a0 fun v1 p2 =>
 kfa 4 v1 fun v3 =>
 kld p2 v3 fun v4 =>
 kln v4 fun v5 =>
 jn 1 (fun j6 =>
 lp 2 fuel (fun r7 v8 v9 p10 =>
 klt v9 v5 fun v11 =>
 kif v11
 (kia 1 v4 v9 fun v12 =>
 kld p10 v12 fun v13 =>
 kln v13 fun v14 =>
 kad v8 v14 fun v15 =>
 kad v9 q12 fun v16 =>
 r7 v15 v16 p10)
 (j6 v8 p10)) q0 q0 p2) fun v17 p18 =>
 k [v17] p18
theorem o24 : FO EN 24 f24 := fe 1 tnil [some [3], some [3, 9], none, none] (by kernel_rfl) fun p s k => by kernel_rfl
def f25 : FT := fun p s k => hd s fun a0 s0 =>
 hd s0 fun a1 s1 =>
 nl s1 <|
 kln a0 fun v2 =>
 kln a1 fun v3 =>
 keq true .i v2 v3 fun v4 =>
 kif v4
 (k [q0] p)
 (jn 0 (fun j5 =>
 lp 1 fuel (fun r6 v7 p8 =>
 kln a0 fun v9 =>
 klt v7 v9 fun v10 =>
 kif v10
 (kia 2 a0 v7 fun v11 =>
 kla (prt [] p8) 2 v11 fun v12 =>
 kia 2 a1 v7 fun v13 =>
 kla (prt [] p8) 2 v13 fun v14 =>
 kea true [(0, .s), (1, .s)] v12 v14 fun v15 =>
 kif v15
 (k [q0] p8)
 (kad v7 q12 fun v16 =>
 r6 v16 p8))
 (j5 p8)) q0 p) fun p17 =>
 k [q12] p17)
theorem o25 : FO EN 25 f25 := fe 2 tnil [none, some [], some [5], none, none, none] (by kernel_rfl) fun p s k => by kernel_rfl
def f114 : FT := fun p s k => hd s fun a0 s0 =>
 hd s0 fun a1 s1 =>
 nl s1 <|
 kbx p 2 a1 fun v2 p3 =>
 kln a0 fun v4 =>
 jn 0 (fun j5 =>
 lp 1 fuel (fun r6 v7 p8 =>
 klt v7 v4 fun v9 =>
 kif v9
 (kla (prt [] p8) 2 v2 fun v10 =>
 kia 2 a0 v7 fun v11 =>
 kla (prt [] p8) 2 v11 fun v12 =>
 kea false [(0, .s), (1, .s)] v10 v12 fun v13 =>
 kif v13
 (k [v7] p8)
 (kad v7 q12 fun v14 =>
 r6 v14 p8))
 (j5 p8)) q0 p3) fun p15 =>
 k [q34] p15
theorem o114 : FO EN 114 f114 := fe 2 tnil [some [], some [8], none, none, none] (by kernel_rfl) fun p s k => by kernel_rfl
def f62 : FT := fun p s k => hd s fun a0 s0 =>
 hd s0 fun a1 s1 =>
 nl s1 <|
 kbx p 2 a1 fun v2 p3 =>
 kla p3 2 v2 fun v4 =>
 cn f114 p3 [a0, v4] fun v5 p6 =>
 kge v5 q0 fun v7 =>
 k [v7] p6
theorem o62 : FO EN 62 f62 := fe 2 (tc (cn_ok o114) tnil) [] (by kernel_rfl) fun p s k => by kernel_rfl
def f27 : FT := fun p s k => hd s fun a0 s0 =>
 hd s0 fun a1 s1 =>
 nl s1 <|
 kbx p 10 a0 fun v2 p3 =>
 kbx p3 2 a1 fun v4 p5 =>
 kfa 4 v2 fun v6 =>
 kld p5 v6 fun v7 =>
 kln v7 fun v8 =>
 keq false .i v8 q0 fun v9 =>
 kif v9
 (k [.nils] p5)
 (kfa 4 v2 fun v10 =>
 kld p5 v10 fun v11 =>
 kln v11 fun v12 =>
 kms p5 1 1 q75 v12 v12 fun v13 p14 =>
 kfa 4 v2 fun v15 =>
 kld p14 v15 fun v16 =>
 kln v16 fun v17 =>
 jn 0 (fun j18 =>
 lp 1 fuel (fun r19 v20 p21 =>
 klt v20 v17 fun v22 =>
 kif v22
 (kia 1 v16 v20 fun v23 =>
 kld p21 v23 fun v24 =>
 kla p21 2 v4 fun v25 =>
 cn f62 p21 [v24, v25] fun v26 p27 =>
 kia 1 v13 v20 fun v28 =>
 kst p27 1 v28 v26 fun p29 =>
 kad v20 q12 fun v30 =>
 r19 v30 p29)
 (j18 p21)) q0 p14) fun p31 =>
 k [v13] p31)
theorem o27 : FO EN 27 f27 := fe 2 (tc (cn_ok o62) tnil) [none, some [], some [19], none, none] (by kernel_rfl) fun p s k => by kernel_rfl
def f26 : FT := fun p s k => hd s fun a0 s0 =>
 hd s0 fun a1 s1 =>
 nl s1 <|
 kln a0 fun v2 =>
 kln a1 fun v3 =>
 keq true .i v2 v3 fun v4 =>
 kif v4
 (k [q0] p)
 (jn 0 (fun j5 =>
 lp 1 fuel (fun r6 v7 p8 =>
 kln a0 fun v9 =>
 klt v7 v9 fun v10 =>
 kif v10
 (kia 1 a0 v7 fun v11 =>
 kld (prt [] p8) v11 fun v12 =>
 kia 1 a1 v7 fun v13 =>
 kld (prt [] p8) v13 fun v14 =>
 keq true .b v12 v14 fun v15 =>
 kif v15
 (k [q0] p8)
 (kad v7 q12 fun v16 =>
 r6 v16 p8))
 (j5 p8)) q0 p) fun p17 =>
 k [q12] p17)
theorem o26 : FO EN 26 f26 := fe 2 tnil [none, some [], some [5], none, none, none] (by kernel_rfl) fun p s k => by kernel_rfl
def f10 : FT := fun p s k => nl s <|
 cn f23 p [] fun v0 p1 =>
 kex v0 0 fun v2 =>
 kex v0 1 fun v3 =>
 cn f5 p1 [v2, v3] fun v4 p5 =>
 kex v4 0 fun v6 =>
 kex v4 1 fun v7 =>
 kex v4 2 fun v8 =>
 kal p5 q93 fun v9 p10 =>
 kal p10 q92 fun v11 p12 =>
 kst p12 5 v9 v6 fun p13 =>
 kst p13 5 v11 v7 fun p14 =>
 kla p14 5 v9 fun v15 =>
 kbd q30 [(0, 1, q128), (1, 1, q130)] fun v16 =>
 kbd q29 [(0, 2, v16), (2, 1, q119)] fun v17 =>
 cn f6 p14 [v15, v17] fun v18 p19 =>
 kex v18 0 fun v20 =>
 kex v18 1 fun v21 =>
 ci f7 p19 [v20] fun v22 p23 =>
 kex v22 0 fun v24 =>
 kex v22 1 fun v25 =>
 kal p23 q35 fun v26 p27 =>
 kst p27 4 v26 v24 fun p28 =>
 kla p28 5 v11 fun v29 =>
 kla p28 4 v26 fun v30 =>
 cn f8 p28 [v29, v30] fun v31 p32 =>
 kex v31 0 fun v33 =>
 kex v31 1 fun v34 =>
 kex v31 2 fun v35 =>
 kla p32 5 v11 fun v36 =>
 kla p32 4 v26 fun v37 =>
 cn f20 p32 [v36, v37] fun v38 p39 =>
 kex v38 0 fun v40 =>
 kex v38 1 fun v41 =>
 kal p39 q103 fun v42 p43 =>
 kst p43 10 v42 v40 fun p44 =>
 kla p44 5 v11 fun v45 =>
 kla p44 10 v42 fun v46 =>
 cn f21 p44 [v45, v46, q16] fun v47 p48 =>
 kex v47 0 fun v49 =>
 kex v47 1 fun v50 =>
 kex v47 2 fun v51 =>
 kal p48 q103 fun v52 p53 =>
 kst p53 10 v52 v49 fun p54 =>
 kla p54 5 v11 fun v55 =>
 kla p54 10 v42 fun v56 =>
 cn f21 p54 [v55, v56, q136] fun v57 p58 =>
 kex v57 0 fun v59 =>
 kex v57 1 fun v60 =>
 kex v57 2 fun v61 =>
 kal p58 q103 fun v62 p63 =>
 kst p63 10 v62 v59 fun p64 =>
 kbd q30 [(0, 1, q116), (1, 1, q132)] fun v65 =>
 kbd q30 [(0, 1, q116), (1, 1, q134)] fun v66 =>
 kal p64 q30 fun v67 p68 =>
 kal p68 q30 fun v69 p70 =>
 kst p70 2 v67 v65 fun p71 =>
 kst p71 2 v69 v66 fun p72 =>
 knt v8 fun v73 =>
 jn 2 (fun j74 => gdK v73 false (keq true .i v25 q0 fun v75 =>
 j74 v25 v75 p72) (j74 .undef .undef p72)) fun v76 v77 p78 =>
 kpk v73 q21 v77 fun v79 =>
 jn 2 (fun j80 => gdK v79 false (keq true .i v35 q0 fun v81 =>
 j80 v35 v81 p78) (j80 .undef .undef p78)) fun v82 v83 p84 =>
 kpk v79 q21 v83 fun v85 =>
 jn 2 (fun j86 => gdK v85 false (keq true .i v41 q0 fun v87 =>
 j86 v41 v87 p84) (j86 .undef .undef p84)) fun v88 v89 p90 =>
 kpk v85 q21 v89 fun v91 =>
 jn 2 (fun j92 => gdK v91 false (keq true .i v51 q0 fun v93 =>
 j92 v51 v93 p90) (j92 .undef .undef p90)) fun v94 v95 p96 =>
 kpk v91 q21 v95 fun v97 =>
 jn 2 (fun j98 => gdK v97 false (keq true .i v61 q0 fun v99 =>
 j98 v61 v99 p96) (j98 .undef .undef p96)) fun v100 v101 p102 =>
 kpk v97 q21 v101 fun v103 =>
 jn 3 (fun j104 => gdK v103 false (kln v33 fun v105 =>
 keq true .i v105 q20 fun v106 =>
 j104 v33 v105 v106 p102) (j104 .undef .undef .undef p102)) fun v107 v108 v109 p110 =>
 kpk v103 q21 v109 fun v111 =>
 jn 2 (fun j112 => gdK v111 false (keq true .i v34 q60 fun v113 =>
 j112 v34 v113 p110) (j112 .undef .undef p110)) fun v114 v115 p116 =>
 kpk v111 q21 v115 fun v117 =>
 jn 2 (fun j118 => gdK v117 false (keq true .i v50 q16 fun v119 =>
 j118 v50 v119 p116) (j118 .undef .undef p116)) fun v120 v121 p122 =>
 kpk v117 q21 v121 fun v123 =>
 jn 3 (fun j124 => gdK v123 false (kla p122 10 v52 fun v125 =>
 cn f24 p122 [v125] fun v126 p127 =>
 keq true .i v126 q12 fun v128 =>
 j124 v125 v126 v128 p127) (j124 .undef .undef .undef p122)) fun v129 v130 v131 p132 =>
 kpk v123 q21 v131 fun v133 =>
 jn 3 (fun j134 => gdK v133 false (kla p132 10 v62 fun v135 =>
 cn f24 p132 [v135] fun v136 p137 =>
 keq true .i v136 q17 fun v138 =>
 j134 v135 v136 v138 p137) (j134 .undef .undef .undef p132)) fun v139 v140 v141 p142 =>
 kpk v133 q21 v141 fun v143 =>
 kif v143
 (k [q11] p142)
 (kia 1 v33 q0 fun v144 =>
 kld (prt [] p142) v144 fun v145 =>
 kla (prt [] p142) 2 v67 fun v146 =>
 kla (prt [] p142) 2 v69 fun v147 =>
 kbs p142 2 q126 [(0, 2, v146), (2, 2, v147)] fun v148 p149 =>
 cn f25 (prt [] p149) [v145, v148] fun v150 p151 =>
 unpK p149 p151 fun p152 =>
 kia 1 v33 q16 fun v153 =>
 kld (prt [(p142.next, p149.next), (p149.next, p151.next)] p152) v153 fun v154 =>
 kla (prt [(p142.next, p149.next), (p149.next, p151.next)] p152) 2 v67 fun v155 =>
 kbs p152 1 q30 [(0, 2, v155)] fun v156 p157 =>
 cn f25 p157 [v154, v156] fun v158 p159 =>
 kar .mul v150 v158 fun v160 =>
 keq false .i v160 q0 fun v161 =>
 jn 15 (fun j162 => gdK v161 false (kia 1 v33 q12 fun v163 =>
 kld (prt [] p159) v163 fun v164 =>
 kln v164 fun v165 =>
 kia 1 v33 q17 fun v166 =>
 kld (prt [] p159) v166 fun v167 =>
 kln v167 fun v168 =>
 kad v165 v168 fun v169 =>
 kia 1 v33 q15 fun v170 =>
 kld (prt [] p159) v170 fun v171 =>
 kln v171 fun v172 =>
 kad v169 v172 fun v173 =>
 kgt v173 q0 fun v174 =>
 j162 v33 v163 v164 v165 v33 v166 v167 v168 v169 v33 v170 v171 v172 v173 v174 p159) (j162 .undef .undef .undef .undef .undef .undef .undef .undef .undef .undef .undef .undef .undef .undef .undef p159)) fun v175 v176 v177 v178 v179 v180 v181 v182 v183 v184 v185 v186 v187 v188 v189 _ =>
 kpk v161 q21 v189 fun v191 =>
 kif v191
 (k [q11] p159)
 (kla p159 10 v62 fun v192 =>
 kla p159 2 v67 fun v193 =>
 cn f27 p159 [v192, v193] fun v194 p195 =>
 kbs p195 5 q137 [(0, 1, q21), (1, 1, q11), (2, 1, q21), (3, 1, q11), (4, 1, q11)] fun v196 p197 =>
 cn f26 p197 [v194, v196] fun v198 p199 =>
 keq false .i v198 q12 fun v200 =>
 k [v200] p199))
theorem o10 : FO EN 10 f10 := fe 0 (tc (cn_ok o23) (tc (cn_ok o5) (tc (cn_ok o6) (tc (ci_ok o7) (tc (cn_ok o8) (tc (cn_ok o20) (tc (cn_ok o21) (tc (cn_ok o24) (tc (cn_ok o25) (tc (cn_ok o27) (tc (cn_ok o26) tnil))))))))))) [none, none] (by kernel_rfl) fun p s k => by kernel_rfl
def f3 : FT := fun p s k => nl s <|
 kbd q30 [(0, 1, q116)] fun v0 =>
 kbd q30 [(0, 1, q124), (1, 1, q125)] fun v1 =>
 kbs p 2 q126 [(0, 2, v0), (2, 2, v1)] fun v2 p3 =>
 kbd q88 [(0, 1, q44)] fun v4 =>
 kbd q69 [(0, 1, q125), (1, 1, v2), (2, 4, v4)] fun v5 =>
 kbs p3 1 q69 [(0, 6, v5)] fun v6 p7 =>
 kbd q68 [(0, 1, q124), (1, 1, v6)] fun v8 =>
 kbd q68 [(0, 1, q116)] fun v9 =>
 kbs p7 2 q138 [(0, 2, v8), (2, 2, v9)] fun v10 p11 =>
 kbd q66 [(0, 1, v10)] fun v12 =>
 kal p11 q66 fun v13 p14 =>
 kst p14 1 v13 v12 fun p15 =>
 jn 1 (fun j16 =>
 lp 2 fuel (fun r17 v18 v19 p20 =>
 klt v19 q140 fun v21 =>
 kif v21
 (kad v19 q12 fun v22 =>
 kss q139 (some v19) (some v22) fun v23 =>
 kbd q30 [(0, 1, q124), (1, 1, v23)] fun v24 =>
 kbd q29 [(0, 2, v24), (2, 1, q125)] fun v25 =>
 kal p20 q29 fun v26 p27 =>
 kst p27 3 v26 v25 fun p28 =>
 kla p28 3 v26 fun v29 =>
 kad v19 q12 fun v30 =>
 kss q139 (some v19) (some v30) fun v31 =>
 kbd q30 [(0, 1, q116), (1, 1, v31)] fun v32 =>
 kbd q29 [(0, 2, v32)] fun v33 =>
 kbd q22 [(0, 3, v29), (3, 3, v33)] fun v34 =>
 kbs p28 1 q22 [(0, 6, v34)] fun v35 p36 =>
 kap p36 6 96 v18 v35 fun v37 p38 =>
 kgt v19 q0 fun v39 =>
 jn 1 (fun j40 => kif v39
 (ksb v19 q12 fun v41 =>
 kss q139 (some v41) (some v19) fun v42 =>
 kbd q30 [(0, 1, q124), (1, 1, v42)] fun v43 =>
 kbd q29 [(0, 2, v43), (2, 1, q125)] fun v44 =>
 kfa 0 v26 fun v45 =>
 kla p38 2 v45 fun v46 =>
 kbd q29 [(0, 2, v46), (2, 1, q125)] fun v47 =>
 kbd q22 [(0, 3, v44), (3, 3, v47)] fun v48 =>
 kbs p38 1 q22 [(0, 6, v48)] fun v49 p50 =>
 kap p50 6 96 v37 v49 fun v51 p52 =>
 j40 v51 p52)
 (j40 v37 p38)) fun v53 p54 =>
 kad v19 q12 fun v55 =>
 r17 v53 v55 p54)
 (j16 v18 p20)) .nils q0 p15) fun v56 p57 =>
 resK p57 false [v56] fun q58_ u59 =>
 drpK u59 p57 fun p60 =>
 hd q58_ fun w61 s62 =>
 nl s62 <|
 kla p60 1 v13 fun v63 =>
 cn f5 p60 [v63, w61] fun v64 p65 =>
 kex v64 0 fun v66 =>
 kex v64 1 fun v67 =>
 kex v64 2 fun v68 =>
 kal p65 q93 fun v69 p70 =>
 kal p70 q92 fun v71 p72 =>
 kst p72 5 v69 v66 fun p73 =>
 kst p73 5 v71 v67 fun p74 =>
 kla (prt [] p74) 5 v69 fun v75 =>
 kia 6 w61 q0 fun v76 =>
 kfa 0 v76 fun v77 =>
 kla (prt [] p74) 3 v77 fun v78 =>
 cn f6 p74 [v75, v78] fun v79 p80 =>
 kex v79 0 fun v81 =>
 kex v79 1 fun v82 =>
 ci f7 p80 [v81] fun v83 p84 =>
 kex v83 0 fun v85 =>
 kex v83 1 fun v86 =>
 kal p84 q35 fun v87 p88 =>
 kst p88 4 v87 v85 fun p89 =>
 kla p89 5 v71 fun v90 =>
 kla p89 4 v87 fun v91 =>
 cn f8 p89 [v90, v91] fun v92 p93 =>
 kex v92 0 fun v94 =>
 kex v92 1 fun v95 =>
 kex v92 2 fun v96 =>
 knt v68 fun v97 =>
 jn 2 (fun j98 => gdK v97 false (keq true .i v86 q0 fun v99 =>
 j98 v86 v99 p93) (j98 .undef .undef p93)) fun v100 v101 p102 =>
 kpk v97 q21 v101 fun v103 =>
 jn 2 (fun j104 => gdK v103 false (keq true .i v96 q0 fun v105 =>
 j104 v96 v105 p102) (j104 .undef .undef p102)) fun v106 v107 p108 =>
 kpk v103 q21 v107 fun v109 =>
 jn 3 (fun j110 => gdK v109 false (kln v94 fun v111 =>
 keq true .i v111 q140 fun v112 =>
 j110 v94 v111 v112 p108) (j110 .undef .undef .undef p108)) fun v113 v114 v115 p116 =>
 kpk v109 q21 v115 fun v117 =>
 jn 5 (fun j118 => gdK v117 false (kia 1 v94 q0 fun v119 =>
 kld p116 v119 fun v120 =>
 kln v120 fun v121 =>
 keq true .i v121 q140 fun v122 =>
 j118 v94 v119 v120 v121 v122 p116) (j118 .undef .undef .undef .undef .undef p116)) fun v123 v124 v125 v126 v127 p128 =>
 kpk v117 q21 v127 fun v129 =>
 jn 5 (fun j130 => gdK v129 false (kia 1 v94 q141 fun v131 =>
 kld p128 v131 fun v132 =>
 kln v132 fun v133 =>
 keq true .i v133 q12 fun v134 =>
 j130 v94 v131 v132 v133 v134 p128) (j130 .undef .undef .undef .undef .undef p128)) fun v135 v136 v137 v138 v139 p140 =>
 kpk v129 q21 v139 fun v141 =>
 jn 2 (fun j142 => gdK v141 false (keq true .i v95 q142 fun v143 =>
 j142 v95 v143 p140) (j142 .undef .undef p140)) fun v144 v145 p146 =>
 kpk v141 q21 v145 fun v147 =>
 kif v147
 (k [q11] p146)
 (jn 0 (fun j148 =>
 lp 1 fuel (fun r149 v150 p151 =>
 klt v150 q140 fun v152 =>
 kif v152
 (kia 1 v94 v150 fun v153 =>
 kld p151 v153 fun v154 =>
 kln v154 fun v155 =>
 ksb q140 v150 fun v156 =>
 keq true .i v155 v156 fun v157 =>
 jn 6 (fun j158 => gdK v157 false (kia 1 v94 v150 fun v159 =>
 kld p151 v159 fun v160 =>
 cn f9 p151 [v160] fun v161 p162 =>
 knt v161 fun v163 =>
 j158 v94 v150 v159 v160 v161 v163 p162) (j158 .undef .undef .undef .undef .undef .undef p151)) fun v164 v165 v166 v167 v168 v169 p170 =>
 kpk v157 q21 v169 fun v171 =>
 kif v171
 (k [q11] p170)
 (kad v150 q12 fun v172 =>
 r149 v172 p170))
 (j148 p151)) q0 p146) fun p173 =>
 cn f10 p173 [] fun v174 p175 =>
 k [v174] p175)
theorem o3 : FO EN 3 f3 := ff 0 [(11, [2])] (tc (cn_ok o5) (tc (cn_ok o6) (tc (ci_ok o7) (tc (cn_ok o8) (tc (cn_ok o9) (tc (cn_ok o10) tnil)))))) [some [2], some [2, 4], none, none, some [2], none, some [], some [16], none, none, none] (by kernel_rfl) fun p s k => by kernel_rfl
end
end Go.V
end
