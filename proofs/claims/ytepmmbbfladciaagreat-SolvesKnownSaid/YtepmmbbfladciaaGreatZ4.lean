/-
  Parts of the proof:
  YtepmmbbfladciaaGreatZm0
  YtepmmbbfladciaaGreatZm1
  YtepmmbbfladciaaGreatZm2
  YtepmmbbfladciaaGreatZm3
  YtepmmbbfladciaaGreatZm4
  YtepmmbbfladciaaGreatZm5
  YtepmmbbfladciaaGreatZm6
-/
import Derived.KernelRfl
import Derived.Test.YtepmmbbfladciaaGreatZ3

section
set_option maxRecDepth 100000
set_option linter.unusedVariables false
namespace Go.V
noncomputable section
def f34 : FT := fun p s k => hd s fun a0 s0 =>
 nl s0 <|
 ken false .s a0 .nils fun v1 =>
 kif v1
 (k [.nils] p)
 (kbs p 0 [] [] fun v2 p3 =>
 kap p3 6 96 v2 a0 fun v4 p5 =>
 k [v4] p5)
theorem o34 : FO EN 34 f34 := fe 1 tnil [none] (by kernel_rfl) fun p s k => by kernel_rfl
def f133 : FT := fun p s k => hd s fun a0 s0 =>
 nl s0 <|
 kge a0 q1 fun v1 =>
 jn 2 (fun j2 => kif v1
 (kar .shr a0 q2 fun v3 =>
 j2 v3 q3 p)
 (j2 a0 q0 p)) fun v4 v5 p6 =>
 kge v4 q4 fun v7 =>
 jn 2 (fun j8 => kif v7
 (kar .shr v4 q5 fun v9 =>
 kad v5 q6 fun v10 =>
 j8 v9 v10 p6)
 (j8 v4 v5 p6)) fun v11 v12 p13 =>
 kge v11 q7 fun v14 =>
 jn 2 (fun j15 => kif v14
 (kar .shr v11 q8 fun v16 =>
 kad v12 q9 fun v17 =>
 j15 v16 v17 p13)
 (j15 v11 v12 p13)) fun v18 v19 p20 =>
 kci .u8 v18 fun v21 =>
 kix q10 v21 fun v22 =>
 kci .i64 v22 fun v23 =>
 kad v19 v23 fun v24 =>
 k [v24] p20
theorem o133 : FO EN 133 f133 := fe 1 tnil [some [0, 2], some [0, 2], some [0, 2]] (by kernel_rfl) fun p s k => by kernel_rfl
def f71 : FT := fun p s k => hd s fun a0 s0 =>
 nl s0 <|
 kif q11
 (kci .u32 a0 fun v1 =>
 .no)
 (cn f133 p [a0] fun v2 p3 =>
 k [v2] p3)
theorem o71 : FO EN 71 f71 := fe 1 (tc (cn_ok o133) tnil) [none] (by kernel_rfl) fun p s k => by kernel_rfl
def f176 : FT := fun p s k => hd s fun a0 s0 =>
 hd s0 fun a1 s1 =>
 nl s1 <|
 kcm a0 a1 fun v2 =>
 k [v2] p
theorem o176 : FO EN 176 f176 := fe 2 tnil [] (by kernel_rfl) fun p s k => by kernel_rfl
def f134 : FT := fun p s k => hd s fun a0 s0 =>
 hd s0 fun a1 s1 =>
 nl s1 <|
 cc f176 p [a0, a1] fun v2 p3 =>
 k [v2] p3
theorem o134 : FO EN 134 f134 := fe 2 (tc (cc_ok o176) tnil) [] (by kernel_rfl) fun p s k => by kernel_rfl
def f72 : FT := fun p s k => hd s fun a0 s0 =>
 nl s0 <|
 kln a0 fun v1 =>
 jn 0 (fun j2 =>
 lp 1 fuel (fun r3 v4 p5 =>
 klt v4 v1 fun v6 =>
 kif v6
 (kia 1 a0 v4 fun v7 =>
 kld p5 v7 fun v8 =>
 keq true .i v8 q0 fun v9 =>
 kif v9
 (k [v8] p5)
 (kad v4 q12 fun v10 =>
 r3 v10 p5))
 (j2 p5)) q0 p) fun p11 =>
 k [q0] p11
theorem o72 : FO EN 72 f72 := fe 1 tnil [some [], some [8], none, none, none] (by kernel_rfl) fun p s k => by kernel_rfl
def f107 : FT := fun p s k => hd s fun a0 s0 =>
 hd s0 fun a1 s1 =>
 nl s1 <|
 kbx p 2 a0 fun v2 p3 =>
 kbx p3 2 a1 fun v4 p5 =>
 kfa 0 v2 fun v6 =>
 kld (prt [] p5) v6 fun v7 =>
 kfa 0 v4 fun v8 =>
 kld (prt [] p5) v8 fun v9 =>
 cc f134 (prt [] p5) [v7, v9] fun v10 p11 =>
 unpK p5 p11 fun p12 =>
 kfa 1 v2 fun v13 =>
 kld (prt [(p5.next, p11.next)] p12) v13 fun v14 =>
 kfa 1 v4 fun v15 =>
 kld (prt [(p5.next, p11.next)] p12) v15 fun v16 =>
 cc f134 p12 [v14, v16] fun v17 p18 =>
 kbs p18 2 q13 [(0, 1, v10), (1, 1, v17)] fun v19 p20 =>
 cc f72 p20 [v19] fun v21 p22 =>
 k [v21] p22
theorem o107 : FO EN 107 f107 := fe 2 (tc (cc_ok o134) (tc (cc_ok o72) tnil)) [] (by kernel_rfl) fun p s k => by kernel_rfl
def f73 : FT := fun p s k => hd s fun a0 s0 =>
 hd s0 fun a1 s1 =>
 nl s1 <|
 kbx p 3 a0 fun v2 p3 =>
 kbx p3 3 a1 fun v4 p5 =>
 kfa 0 v2 fun v6 =>
 kla (prt [] p5) 2 v6 fun v7 =>
 kfa 0 v4 fun v8 =>
 kla (prt [] p5) 2 v8 fun v9 =>
 cc f107 (prt [] p5) [v7, v9] fun v10 p11 =>
 unpK p5 p11 fun p12 =>
 kfa 2 v2 fun v13 =>
 kld (prt [(p5.next, p11.next)] p12) v13 fun v14 =>
 kfa 2 v4 fun v15 =>
 kld (prt [(p5.next, p11.next)] p12) v15 fun v16 =>
 cc f134 p12 [v14, v16] fun v17 p18 =>
 kbs p18 2 q13 [(0, 1, v10), (1, 1, v17)] fun v19 p20 =>
 cc f72 p20 [v19] fun v21 p22 =>
 k [v21] p22
theorem o73 : FO EN 73 f73 := fe 2 (tc (cc_ok o107) (tc (cc_ok o134) (tc (cc_ok o72) tnil))) [] (by kernel_rfl) fun p s k => by kernel_rfl
def f74 : FT := fun p s k => hd s fun a0 s0 =>
 hd s0 fun a1 s1 =>
 nl s1 <|
 kbx p 3 a0 fun v2 p3 =>
 kbx p3 3 a1 fun v4 p5 =>
 kla p5 3 v2 fun v6 =>
 kla p5 3 v4 fun v7 =>
 cc f73 p5 [v6, v7] fun v8 p9 =>
 k [v8] p9
theorem o74 : FO EN 74 f74 := fe 2 (tc (cc_ok o73) tnil) [] (by kernel_rfl) fun p s k => by kernel_rfl
def f36 : FT := fun p s k => hd s fun a0 s0 =>
 hd s0 fun a1 s1 =>
 nl s1 <|
 kbx p 6 a0 fun v2 p3 =>
 kbx p3 6 a1 fun v4 p5 =>
 kfa 0 v2 fun v6 =>
 kla (prt [] p5) 3 v6 fun v7 =>
 kfa 0 v4 fun v8 =>
 kla (prt [] p5) 3 v8 fun v9 =>
 cc f73 (prt [] p5) [v7, v9] fun v10 p11 =>
 unpK p5 p11 fun p12 =>
 kfa 3 v2 fun v13 =>
 kla (prt [(p5.next, p11.next)] p12) 3 v13 fun v14 =>
 kfa 3 v4 fun v15 =>
 kla (prt [(p5.next, p11.next)] p12) 3 v15 fun v16 =>
 cc f74 p12 [v14, v16] fun v17 p18 =>
 kbs p18 2 q13 [(0, 1, v10), (1, 1, v17)] fun v19 p20 =>
 cc f72 p20 [v19] fun v21 p22 =>
 k [v21] p22
theorem o36 : FO EN 36 f36 := fe 2 (tc (cc_ok o73) (tc (cc_ok o74) (tc (cc_ok o72) tnil))) [] (by kernel_rfl) fun p s k => by kernel_rfl
def t124 : List Ce := [⟨36, cc f36⟩]
def f124 : FT := fun p s k => hd s fun a0 s0 =>
 hd s0 fun a1 s1 =>
 hd s1 fun a2 s2 =>
 hd s2 fun a3 s3 =>
 nl s3 <|
 kad a1 q12 fun v4 =>
 jn 0 (fun j5 =>
 lp 1 fuel (fun r6 v7 p8 =>
 klt v7 a2 fun v9 =>
 kif v9
 (jn 0 (fun j10 =>
 jn 0 (fun j11 =>
 lp 1 fuel (fun r12 v13 p14 =>
 kgt v13 a1 fun v15 =>
 jn 12 (fun j16 => gdK v15 true (kia 6 a0 v13 fun v17 =>
 kla (prt [] p14) 6 v17 fun v18 =>
 ksb v13 q12 fun v19 =>
 kia 6 a0 v19 fun v20 =>
 kla (prt [] p14) 6 v20 fun v21 =>
 kcv t124 p14 a3 [v18, v21] fun v22 p23 =>
 klt v22 q0 fun v24 =>
 j16 a3 a0 v13 v17 v18 a0 v13 v19 v20 v21 v22 v24 p23) (j16 .undef .undef .undef .undef .undef .undef .undef .undef .undef .undef .undef .undef p14)) fun v25 v26 v27 v28 v29 v30 v31 v32 v33 v34 v35 v36 p37 =>
 kpk v15 v36 q11 fun v38 =>
 kif v38
 (ksb v13 q12 fun v39 =>
 ksb v13 q12 fun v40 =>
 kia 6 a0 v40 fun v41 =>
 kla (prt [] p37) 6 v41 fun v42 =>
 kia 6 a0 v13 fun v43 =>
 kla (prt [] p37) 6 v43 fun v44 =>
 kia 6 a0 v13 fun v45 =>
 kst p37 6 v45 v42 fun p46 =>
 kia 6 a0 v39 fun v47 =>
 kst p46 6 v47 v44 fun p48 =>
 ksb v13 q12 fun v49 =>
 r12 v49 p48)
 (j11 p37)) v7 p8) fun p50 =>
 j10 p50) fun p51 =>
 kad v7 q12 fun v52 =>
 r6 v52 p51)
 (j5 p8)) v4 p) fun p53 =>
 k [] p53
theorem o124 : FO EN 124 f124 := fe 4 (T := t124) (tc (cc_ok o36) tnil) [some [], some [8], none, some [], some [], some [9], none, none] (by kernel_rfl) fun p s k => by kernel_rfl
def t204 : List Ce := [⟨36, cc f36⟩]
def f204 : FT := fun p s k => hd s fun a0 s0 =>
 hd s0 fun a1 s1 =>
 hd s1 fun a2 s2 =>
 hd s2 fun a3 s3 =>
 hd s3 fun a4 s4 =>
 nl s4 <|
 kia 6 a0 a2 fun v5 =>
 kla (prt [] p) 6 v5 fun v6 =>
 kia 6 a0 a1 fun v7 =>
 kla (prt [] p) 6 v7 fun v8 =>
 kcv t204 p a4 [v6, v8] fun v9 p10 =>
 klt v9 q0 fun v11 =>
 kif v11
 (knc mth a3 fun v12 =>
 kld p10 v12 fun v13 =>
 kad v13 q12 fun v14 =>
 knc mth a3 fun v15 =>
 kst p10 1 v15 v14 fun p16 =>
 k [a2, a1] p16)
 (k [a1, a2] p10)
theorem o204 : FO EN 204 f204 := fe 5 (T := t204) (tc (cc_ok o36) tnil) [none] (by kernel_rfl) fun p s k => by kernel_rfl
def f175 : FT := fun p s k => hd s fun a0 s0 =>
 hd s0 fun a1 s1 =>
 hd s1 fun a2 s2 =>
 hd s2 fun a3 s3 =>
 hd s3 fun a4 s4 =>
 hd s4 fun a5 s5 =>
 nl s5 <|
 ci f204 p [a0, a1, a2, a4, a5] fun v6 p7 =>
 kex v6 0 fun v8 =>
 kex v6 1 fun v9 =>
 ci f204 p7 [a0, v9, a3, a4, a5] fun v10 p11 =>
 kex v10 0 fun v12 =>
 kex v10 1 fun v13 =>
 ci f204 p11 [a0, v8, v12, a4, a5] fun v14 p15 =>
 kex v14 0 fun v16 =>
 kex v14 1 fun v17 =>
 k [v17] p15
theorem o175 : FO EN 175 f175 := fe 6 (tc (ci_ok o204) tnil) [] (by kernel_rfl) fun p s k => by kernel_rfl
def f174 : FT := fun p s k => hd s fun a0 s0 =>
 hd s0 fun a1 s1 =>
 hd s1 fun a2 s2 =>
 hd s2 fun a3 s3 =>
 nl s3 <|
 ksb a1 q12 fun v4 =>
 kad a1 q12 fun v5 =>
 ci f175 p [a0, v4, a1, v5, a2, a3] fun v6 p7 =>
 k [v6] p7
theorem o174 : FO EN 174 f174 := fe 4 (tc (ci_ok o175) tnil) [] (by kernel_rfl) fun p s k => by kernel_rfl
def f127 : FT := fun p s k => hd s fun a0 s0 =>
 hd s0 fun a1 s1 =>
 hd s1 fun a2 s2 =>
 hd s2 fun a3 s3 =>
 nl s3 <|
 ksb a2 a1 fun v4 =>
 kal p q14 fun v5 p6 =>
 kar .quo v4 q15 fun v7 =>
 kar .mul v7 q12 fun v8 =>
 kad a1 v8 fun v9 =>
 kar .quo v4 q15 fun v10 =>
 kar .mul v10 q16 fun v11 =>
 kad a1 v11 fun v12 =>
 kar .quo v4 q15 fun v13 =>
 kar .mul v13 q17 fun v14 =>
 kad a1 v14 fun v15 =>
 kge v4 q9 fun v16 =>
 jn 1 (fun j17 => kif v16
 (kge v4 q18 fun v18 =>
 jn 3 (fun j19 => kif v18
 (ci f174 p6 [a0, v9, v5, a3] fun v20 p21 =>
 ci f174 p21 [a0, v12, v5, a3] fun v22 p23 =>
 ci f174 p23 [a0, v15, v5, a3] fun v24 p25 =>
 j19 v20 v22 v24 p25)
 (j19 v9 v12 v15 p6)) fun v26 v27 v28 p29 =>
 ci f175 p29 [a0, v26, v27, v28, v5, a3] fun v30 p31 =>
 j17 v30 p31)
 (j17 v12 p6)) fun v32 p33 =>
 kld p33 v5 fun v34 =>
 keq false .i v34 q0 fun v35 =>
 kif v35
 (k [v32, q12] p33)
 (keq false .i v34 q19 fun v36 =>
 kif v36
 (k [v32, q16] p33)
 (k [v32, q0] p33))
theorem o127 : FO EN 127 f127 := fe 4 (tc (ci_ok o174) (tc (ci_ok o175) tnil)) [some [13], some [12, 13, 14], none, none, none] (by kernel_rfl) fun p s k => by kernel_rfl
def t129 : List Ce := [⟨36, cc f36⟩]
def f129 : FT := fun p s k => hd s fun a0 s0 =>
 hd s0 fun a1 s1 =>
 hd s1 fun a2 s2 =>
 hd s2 fun a3 s3 =>
 nl s3 <|
 kad a1 q12 fun v4 =>
 jn 0 (fun j5 =>
 lp 2 fuel (fun r6 v7 v8 p9 =>
 klt v8 q20 fun v10 =>
 kif v10
 (jn 1 (fun j11 =>
 jn 1 (fun j12 =>
 lp 1 fuel (fun r13 v14 p15 =>
 klt v14 a2 fun v16 =>
 jn 13 (fun j17 => gdK v16 true (kia 6 a0 v14 fun v18 =>
 kla (prt [] p15) 6 v18 fun v19 =>
 ksb v14 q12 fun v20 =>
 kia 6 a0 v20 fun v21 =>
 kla (prt [] p15) 6 v21 fun v22 =>
 kcv t129 p15 a3 [v19, v22] fun v23 p24 =>
 klt v23 q0 fun v25 =>
 knt v25 fun v26 =>
 j17 a3 a0 v14 v18 v19 a0 v14 v20 v21 v22 v23 v25 v26 p24) (j17 .undef .undef .undef .undef .undef .undef .undef .undef .undef .undef .undef .undef .undef p15)) fun v27 v28 v29 v30 v31 v32 v33 v34 v35 v36 v37 v38 v39 p40 =>
 kpk v16 v39 q11 fun v41 =>
 kif v41
 (kad v14 q12 fun v42 =>
 r13 v42 p40)
 (j12 v14 p40)) v7 p9) fun v43 p44 =>
 keq false .i v43 a2 fun v45 =>
 kif v45
 (k [q21] p44)
 (ksb a2 a1 fun v46 =>
 klt v46 q18 fun v47 =>
 kif v47
 (k [q11] p44)
 (ksb v43 q12 fun v48 =>
 ksb v43 q12 fun v49 =>
 kia 6 a0 v49 fun v50 =>
 kla (prt [] p44) 6 v50 fun v51 =>
 kia 6 a0 v43 fun v52 =>
 kla (prt [] p44) 6 v52 fun v53 =>
 kia 6 a0 v43 fun v54 =>
 kst p44 6 v54 v51 fun p55 =>
 kia 6 a0 v48 fun v56 =>
 kst p55 6 v56 v53 fun p57 =>
 ksb v43 a1 fun v58 =>
 kge v58 q16 fun v59 =>
 jn 0 (fun j60 => kif v59
 (ksb v43 q12 fun v61 =>
 jn 0 (fun j62 =>
 lp 1 fuel (fun r63 v64 p65 =>
 kge v64 q12 fun v66 =>
 kif v66
 (kia 6 a0 v64 fun v67 =>
 kla (prt [] p65) 6 v67 fun v68 =>
 ksb v64 q12 fun v69 =>
 kia 6 a0 v69 fun v70 =>
 kla (prt [] p65) 6 v70 fun v71 =>
 kcv t129 p65 a3 [v68, v71] fun v72 p73 =>
 klt v72 q0 fun v74 =>
 knt v74 fun v75 =>
 kif v75
 (j62 p73)
 (ksb v64 q12 fun v76 =>
 ksb v64 q12 fun v77 =>
 kia 6 a0 v77 fun v78 =>
 kla (prt [] p73) 6 v78 fun v79 =>
 kia 6 a0 v64 fun v80 =>
 kla (prt [] p73) 6 v80 fun v81 =>
 kia 6 a0 v64 fun v82 =>
 kst p73 6 v82 v79 fun p83 =>
 kia 6 a0 v76 fun v84 =>
 kst p83 6 v84 v81 fun p85 =>
 ksb v64 q12 fun v86 =>
 r63 v86 p85))
 (j62 p65)) v61 p57) fun p87 =>
 j60 p87)
 (j60 p57)) fun p88 =>
 ksb a2 v43 fun v89 =>
 kge v89 q16 fun v90 =>
 jn 0 (fun j91 => kif v90
 (kad v43 q12 fun v92 =>
 jn 0 (fun j93 =>
 lp 1 fuel (fun r94 v95 p96 =>
 klt v95 a2 fun v97 =>
 kif v97
 (kia 6 a0 v95 fun v98 =>
 kla (prt [] p96) 6 v98 fun v99 =>
 ksb v95 q12 fun v100 =>
 kia 6 a0 v100 fun v101 =>
 kla (prt [] p96) 6 v101 fun v102 =>
 kcv t129 p96 a3 [v99, v102] fun v103 p104 =>
 klt v103 q0 fun v105 =>
 knt v105 fun v106 =>
 kif v106
 (j93 p104)
 (ksb v95 q12 fun v107 =>
 ksb v95 q12 fun v108 =>
 kia 6 a0 v108 fun v109 =>
 kla (prt [] p104) 6 v109 fun v110 =>
 kia 6 a0 v95 fun v111 =>
 kla (prt [] p104) 6 v111 fun v112 =>
 kia 6 a0 v95 fun v113 =>
 kst p104 6 v113 v110 fun p114 =>
 kia 6 a0 v107 fun v115 =>
 kst p114 6 v115 v112 fun p116 =>
 kad v95 q12 fun v117 =>
 r94 v117 p116))
 (j93 p96)) v92 p88) fun p118 =>
 j91 p118)
 (j91 p88)) fun p119 =>
 j11 v43 p119))) fun v120 p121 =>
 kad v8 q12 fun v122 =>
 r6 v120 v122 p121)
 (j5 p9)) v4 q0 p) fun p123 =>
 k [q11] p123
theorem o129 : FO EN 129 f129 := fe 4 (T := t129) (tc (cc_ok o36) tnil) [some [], some [9, 10], none, some [9], some [9], some [9], none, none, none, none, some [], some [], some [11], none, none, none, some [], some [], some [12], none, none, none] (by kernel_rfl) fun p s k => by kernel_rfl
def t131 : List Ce := [⟨36, cc f36⟩]
def f131 : FT := fun p s k => hd s fun a0 s0 =>
 hd s0 fun a1 s1 =>
 hd s1 fun a2 s2 =>
 hd s2 fun a3 s3 =>
 hd s3 fun a4 s4 =>
 nl s4 <|
 kia 6 a0 a3 fun v5 =>
 kla (prt [] p) 6 v5 fun v6 =>
 kia 6 a0 a1 fun v7 =>
 kla (prt [] p) 6 v7 fun v8 =>
 kia 6 a0 a1 fun v9 =>
 kst p 6 v9 v6 fun p10 =>
 kia 6 a0 a3 fun v11 =>
 kst p10 6 v11 v8 fun p12 =>
 kad a1 q12 fun v13 =>
 ksb a2 q12 fun v14 =>
 jn 1 (fun j15 =>
 lp 1 fuel (fun r16 v17 p18 =>
 kle v17 v14 fun v19 =>
 jn 11 (fun j20 => gdK v19 true (kia 6 a0 v17 fun v21 =>
 kla (prt [] p18) 6 v21 fun v22 =>
 kia 6 a0 a1 fun v23 =>
 kla (prt [] p18) 6 v23 fun v24 =>
 kcv t131 p18 a4 [v22, v24] fun v25 p26 =>
 klt v25 q0 fun v27 =>
 j20 a4 a0 v17 v21 v22 a0 a1 v23 v24 v25 v27 p26) (j20 .undef .undef .undef .undef .undef .undef .undef .undef .undef .undef .undef p18)) fun v28 v29 v30 v31 v32 v33 v34 v35 v36 v37 v38 p39 =>
 kpk v19 v38 q11 fun v40 =>
 kif v40
 (kad v17 q12 fun v41 =>
 r16 v41 p39)
 (j15 v17 p39)) v13 p12) fun v42 p43 =>
 jn 1 (fun j44 =>
 lp 1 fuel (fun r45 v46 p47 =>
 kle v42 v46 fun v48 =>
 jn 12 (fun j49 => gdK v48 true (kia 6 a0 v46 fun v50 =>
 kla (prt [] p47) 6 v50 fun v51 =>
 kia 6 a0 a1 fun v52 =>
 kla (prt [] p47) 6 v52 fun v53 =>
 kcv t131 p47 a4 [v51, v53] fun v54 p55 =>
 klt v54 q0 fun v56 =>
 knt v56 fun v57 =>
 j49 a4 a0 v46 v50 v51 a0 a1 v52 v53 v54 v56 v57 p55) (j49 .undef .undef .undef .undef .undef .undef .undef .undef .undef .undef .undef .undef p47)) fun v58 v59 v60 v61 v62 v63 v64 v65 v66 v67 v68 v69 p70 =>
 kpk v48 v69 q11 fun v71 =>
 kif v71
 (ksb v46 q12 fun v72 =>
 r45 v72 p70)
 (j44 v46 p70)) v14 p43) fun v73 p74 =>
 kgt v42 v73 fun v75 =>
 kif v75
 (kia 6 a0 a1 fun v76 =>
 kla (prt [] p74) 6 v76 fun v77 =>
 kia 6 a0 v73 fun v78 =>
 kla (prt [] p74) 6 v78 fun v79 =>
 kia 6 a0 v73 fun v80 =>
 kst p74 6 v80 v77 fun p81 =>
 kia 6 a0 a1 fun v82 =>
 kst p81 6 v82 v79 fun p83 =>
 k [v73, q21] p83)
 (kia 6 a0 v73 fun v84 =>
 kla (prt [] p74) 6 v84 fun v85 =>
 kia 6 a0 v42 fun v86 =>
 kla (prt [] p74) 6 v86 fun v87 =>
 kia 6 a0 v42 fun v88 =>
 kst p74 6 v88 v85 fun p89 =>
 kia 6 a0 v73 fun v90 =>
 kst p89 6 v90 v87 fun p91 =>
 kad v42 q12 fun v92 =>
 ksb v73 q12 fun v93 =>
 jn 1 (fun j94 =>
 lp 2 fuel (fun r95 v96 v97 p98 =>
 jn 2 (fun j99 =>
 jn 1 (fun j100 =>
 lp 1 fuel (fun r101 v102 p103 =>
 kle v102 v97 fun v104 =>
 jn 11 (fun j105 => gdK v104 true (kia 6 a0 v102 fun v106 =>
 kla (prt [] p103) 6 v106 fun v107 =>
 kia 6 a0 a1 fun v108 =>
 kla (prt [] p103) 6 v108 fun v109 =>
 kcv t131 p103 a4 [v107, v109] fun v110 p111 =>
 klt v110 q0 fun v112 =>
 j105 a4 a0 v102 v106 v107 a0 a1 v108 v109 v110 v112 p111) (j105 .undef .undef .undef .undef .undef .undef .undef .undef .undef .undef .undef p103)) fun v113 v114 v115 v116 v117 v118 v119 v120 v121 v122 v123 p124 =>
 kpk v104 v123 q11 fun v125 =>
 kif v125
 (kad v102 q12 fun v126 =>
 r101 v126 p124)
 (j100 v102 p124)) v96 p98) fun v127 p128 =>
 jn 1 (fun j129 =>
 lp 1 fuel (fun r130 v131 p132 =>
 kle v127 v131 fun v133 =>
 jn 12 (fun j134 => gdK v133 true (kia 6 a0 v131 fun v135 =>
 kla (prt [] p132) 6 v135 fun v136 =>
 kia 6 a0 a1 fun v137 =>
 kla (prt [] p132) 6 v137 fun v138 =>
 kcv t131 p132 a4 [v136, v138] fun v139 p140 =>
 klt v139 q0 fun v141 =>
 knt v141 fun v142 =>
 j134 a4 a0 v131 v135 v136 a0 a1 v137 v138 v139 v141 v142 p140) (j134 .undef .undef .undef .undef .undef .undef .undef .undef .undef .undef .undef .undef p132)) fun v143 v144 v145 v146 v147 v148 v149 v150 v151 v152 v153 v154 p155 =>
 kpk v133 v154 q11 fun v156 =>
 kif v156
 (ksb v131 q12 fun v157 =>
 r130 v157 p155)
 (j129 v131 p155)) v97 p128) fun v158 p159 =>
 kgt v127 v158 fun v160 =>
 kif v160
 (j94 v158 p159)
 (kia 6 a0 v158 fun v161 =>
 kla (prt [] p159) 6 v161 fun v162 =>
 kia 6 a0 v127 fun v163 =>
 kla (prt [] p159) 6 v163 fun v164 =>
 kia 6 a0 v127 fun v165 =>
 kst p159 6 v165 v162 fun p166 =>
 kia 6 a0 v158 fun v167 =>
 kst p166 6 v167 v164 fun p168 =>
 kad v127 q12 fun v169 =>
 ksb v158 q12 fun v170 =>
 j99 v169 v170 p168)) fun v171 v172 p173 =>
 r95 v171 v172 p173) v92 v93 p91) fun v174 p175 =>
 kia 6 a0 a1 fun v176 =>
 kla (prt [] p175) 6 v176 fun v177 =>
 kia 6 a0 v174 fun v178 =>
 kla (prt [] p175) 6 v178 fun v179 =>
 kia 6 a0 v174 fun v180 =>
 kst p175 6 v180 v177 fun p181 =>
 kia 6 a0 a1 fun v182 =>
 kst p181 6 v182 v179 fun p183 =>
 k [v174, q11] p183)
theorem o131 : FO EN 131 f131 := fe 5 (T := t131) (tc (cc_ok o36) tnil) [some [12], some [12], none, none, some [13], some [13], none, none, none, some [13], some [12, 13], some [12, 13], some [12], some [12], none, none, some [13], some [13], none, none, none] (by kernel_rfl) fun p s k => by kernel_rfl
def t70 (self : FT) : List Ce := [⟨124, ci f124⟩, ⟨127, cn f127⟩, ⟨129, cn f129⟩, ⟨131, ci f131⟩, ⟨70, ci self⟩, ⟨36, cc f36⟩]
def g70 : FT → FT := fun self => fun p s k => hd s fun a0 s0 =>
 hd s0 fun a1 s1 =>
 hd s1 fun a2 s2 =>
 hd s2 fun a3 s3 =>
 hd s3 fun a4 s4 =>
 nl s4 <|
 jn 0 (fun j5 =>
 lp 5 fuel (fun r6 v7 v8 v9 v10 v11 p12 =>
 jn 5 (fun j13 =>
 ksb v8 v7 fun v14 =>
 kle v14 q19 fun v15 =>
 kif v15
 (ci f124 p12 [a0, v7, v8, a4] fun v16 p17 =>
 k [] p17)
 (keq false .i v9 q0 fun v18 =>
 kif v18
 (.no)
 (knt v10 fun v19 =>
 jn 1 (fun j20 => kif v19
 (.no)
 (j20 v9 p12)) fun v21 p22 =>
 cn f127 p22 [a0, v7, v8, a4] fun v23 p24 =>
 kex v23 0 fun v25 =>
 kex v23 1 fun v26 =>
 keq false .i v26 q16 fun v27 =>
 jn 2 (fun j28 => kif v27
 (.no)
 (j28 v25 v26 p24)) fun v29 v30 p31 =>
 jn 1 (fun j32 => gdK v10 true (j32 v11 p31) (j32 .undef p31)) fun v33 p34 =>
 kpk v10 v33 q11 fun v35 =>
 jn 2 (fun j36 => gdK v35 true (keq false .i v30 q12 fun v37 =>
 j36 v30 v37 p34) (j36 .undef .undef p34)) fun v38 v39 p40 =>
 kpk v35 v39 q11 fun v41 =>
 jn 0 (fun j42 => kif v41
 (cn f129 p40 [a0, v7, v8, a4] fun v43 p44 =>
 kif v43
 (k [] p44)
 (j42 p44))
 (j42 p40)) fun p45 =>
 kgt v7 q0 fun v46 =>
 jn 13 (fun j47 => gdK v46 true (ksb v7 q12 fun v48 =>
 kia 6 a0 v48 fun v49 =>
 kla (prt [] p45) 6 v49 fun v50 =>
 kia 6 a0 v29 fun v51 =>
 kla (prt [] p45) 6 v51 fun v52 =>
 kcv (t70 self) p45 a4 [v50, v52] fun v53 p54 =>
 klt v53 q0 fun v55 =>
 knt v55 fun v56 =>
 j47 a4 a0 v7 v48 v49 v50 a0 v29 v51 v52 v53 v55 v56 p54) (j47 .undef .undef .undef .undef .undef .undef .undef .undef .undef .undef .undef .undef .undef p45)) fun v57 v58 v59 v60 v61 v62 v63 v64 v65 v66 v67 v68 v69 p70 =>
 kpk v46 v69 q11 fun v71 =>
 kif v71
 (.no)
 (ci f131 p70 [a0, v7, v8, v29, a4] fun v72 p73 =>
 kex v72 0 fun v74 =>
 kex v72 1 fun v75 =>
 ksb v74 v7 fun v76 =>
 ksb v8 v74 fun v77 =>
 kar .quo v14 q9 fun v78 =>
 klt v76 v77 fun v79 =>
 jn 3 (fun j80 => kif v79
 (kge v76 v78 fun v81 =>
 ci self p73 [a0, v7, v74, v21, a4] fun v82 p83 =>
 kad v74 q12 fun v84 =>
 j80 v84 v8 v81 p83)
 (kge v77 v78 fun v85 =>
 kad v74 q12 fun v86 =>
 ci self p73 [a0, v86, v8, v21, a4] fun v87 p88 =>
 j80 v7 v74 v85 p88)) fun v89 v90 v91 p92 =>
 j13 v89 v90 v21 v91 v75 p92)))) fun v93 v94 v95 v96 v97 p98 =>
 r6 v93 v94 v95 v96 v97 p98) a1 a2 a3 q21 q21 p) fun p99 =>
 k [] p99
def f70 : FT := rcF depth g70
theorem o70 : FO EN 70 f70 := FO.rc (fun self h => fe 5 (T := t70 self) (tc (ci_ok o124) (tc (cn_ok o127) (tc (cn_ok o129) (tc (ci_ok o131) (tc (ci_ok h) (tc (cc_ok o36) tnil)))))) [some [], some [1, 2, 3, 10, 11], some [1, 2, 3, 10, 11], none, none, some [3], some [13, 14], some [], none, none, some [1, 2, 10]] (by kernel_rfl) fun p s k => by kernel_rfl) depth
def f35 : FT := fun p s k => hd s fun a0 s0 =>
 hd s0 fun a1 s1 =>
 nl s1 <|
 kln a0 fun v2 =>
 kci .u64 v2 fun v3 =>
 cc f71 p [v3] fun v4 p5 =>
 ci f70 p5 [a0, q0, v2, v4, a1] fun v6 p7 =>
 k [] p7
theorem o35 : FO EN 35 f35 := fe 2 (tc (cc_ok o71) (tc (ci_ok o70) tnil)) [] (by kernel_rfl) fun p s k => by kernel_rfl
def f37 : FT := fun p s k => hd s fun a0 s0 =>
 nl s0 <|
 kln a0 fun v1 =>
 klt v1 q16 fun v2 =>
 kif v2
 (k [a0] p)
 (jn 0 (fun j3 =>
 lp 1 fuel (fun r4 v5 p6 =>
 kln a0 fun v7 =>
 klt v5 v7 fun v8 =>
 kif v8
 (jn 1 (fun j9 =>
 kia 6 a0 v5 fun v10 =>
 kla (prt [] p6) 6 v10 fun v11 =>
 ksb v5 q12 fun v12 =>
 kia 6 a0 v12 fun v13 =>
 kla (prt [] p6) 6 v13 fun v14 =>
 kea false [(0, .s), (1, .s), (2, .s), (3, .s), (4, .s), (5, .s)] v11 v14 fun v15 =>
 kif v15
 (ksl 6 a0 (some v5) none none fun v16 =>
 jn 1 (fun j17 =>
 lp 2 fuel (fun r18 v19 v20 p21 =>
 kln v16 fun v22 =>
 klt v20 v22 fun v23 =>
 kif v23
 (kia 6 v16 v20 fun v24 =>
 kla (prt [] p21) 6 v24 fun v25 =>
 ksb v20 q12 fun v26 =>
 kia 6 v16 v26 fun v27 =>
 kla (prt [] p21) 6 v27 fun v28 =>
 kea true [(0, .s), (1, .s), (2, .s), (3, .s), (4, .s), (5, .s)] v25 v28 fun v29 =>
 jn 1 (fun j30 => kif v29
 (kia 6 v16 v20 fun v31 =>
 kla p21 6 v31 fun v32 =>
 kia 6 a0 v19 fun v33 =>
 kst p21 6 v33 v32 fun p34 =>
 kad v19 q12 fun v35 =>
 j30 v35 p34)
 (j30 v19 p21)) fun v36 p37 =>
 kad v20 q12 fun v38 =>
 r18 v36 v38 p37)
 (j17 v19 p21)) v5 q12 p6) fun v39 p40 =>
 ksl 6 a0 (some v39) none none fun v41 =>
 ksw mth p40 (.clear q22 (.c v41)) fun v42 p43 =>
 ksl 6 a0 none (some v39) none fun v44 =>
 k [v44] p43)
 (j9 v5 p6)) fun v45 p46 =>
 kad v45 q12 fun v47 =>
 r4 v47 p46)
 (j3 p6)) q12 p) fun p48 =>
 k [a0] p48)
theorem o37 : FO EN 37 f37 := fe 1 tnil [none, some [], some [3], none, some [3], none, some [3], some [3, 5], none, none, some [3]] (by kernel_rfl) fun p s k => by kernel_rfl
def f13 : FT := fun p s k => hd s fun a0 s0 =>
 nl s0 <|
 cn f34 p [a0] fun v1 p2 =>
 ci f35 p2 [v1, q23] fun v3 p4 =>
 cn f37 p4 [v1] fun v5 p6 =>
 kln v5 fun v7 =>
 kln v5 fun v8 =>
 ksl 6 v5 none (some v7) (some v8) fun v9 =>
 k [v9] p6
theorem o13 : FO EN 13 f13 := fe 1 (tc (cn_ok o34) (tc (ci_ok o35) (tc (cn_ok o37) tnil))) [] (by kernel_rfl) fun p s k => by kernel_rfl
def f156 : FT := fun p s k => hd s fun a0 s0 =>
 nl s0 <|
 kls a0 fun v1 =>
 klt v1 q12 fun v2 =>
 jn 3 (fun j3 => gdK v2 false (kls a0 fun v4 =>
 kgt v4 q6 fun v5 =>
 j3 a0 v4 v5 p) (j3 .undef .undef .undef p)) fun v6 v7 v8 p9 =>
 kpk v2 q21 v8 fun v10 =>
 kif v10
 (k [q24] p9)
 (kls a0 fun v11 =>
 jn 0 (fun j12 =>
 lp 1 fuel (fun r13 v14 p15 =>
 klt v14 v11 fun v16 =>
 kif v16
 (kix a0 v14 fun v17 =>
 klt v17 q25 fun v18 =>
 jn 4 (fun j19 => gdK v18 false (kix a0 v14 fun v20 =>
 kgt v20 q26 fun v21 =>
 j19 a0 v14 v20 v21 p15) (j19 .undef .undef .undef .undef p15)) fun v22 v23 v24 v25 p26 =>
 kpk v18 q21 v25 fun v27 =>
 jn 5 (fun j28 => gdK v27 true (kix a0 v14 fun v29 =>
 klt v29 q27 fun v30 =>
 j28 a0 v14 v29 v30 v30 p26) (j28 .undef .undef .undef .undef .undef p26)) fun v31 v32 v33 v34 v35 p36 =>
 jn 4 (fun j37 => gdK v35 false (kix a0 v14 fun v38 =>
 kgt v38 q28 fun v39 =>
 j37 a0 v14 v38 v39 p36) (j37 .undef .undef .undef .undef p36)) fun v40 v41 v42 v43 p44 =>
 jn 1 (fun j45 => gdK v27 true (kpk v35 q21 v43 fun v46 =>
 j45 v46 p44) (j45 .undef p44)) fun v47 p48 =>
 kpk v27 v47 q11 fun v49 =>
 kif v49
 (k [q24] p48)
 (kad v14 q12 fun v50 =>
 r13 v50 p48))
 (j12 p15)) q0 p9) fun p51 =>
 k [q0] p51)
theorem o156 : FO EN 156 f156 := fe 1 tnil [none, some [], some [14], none, none, none] (by kernel_rfl) fun p s k => by kernel_rfl
def f97 : FT := fun p s k => hd s fun a0 s0 =>
 nl s0 <|
 kln a0 fun v1 =>
 jn 0 (fun j2 =>
 lp 1 fuel (fun r3 v4 p5 =>
 klt v4 v1 fun v6 =>
 kif v6
 (kia 1 a0 v4 fun v7 =>
 kld p5 v7 fun v8 =>
 cc f156 p5 [v8] fun v9 p10 =>
 keq true .i v9 q0 fun v11 =>
 kif v11
 (k [v9] p10)
 (kad v4 q12 fun v12 =>
 r3 v12 p10))
 (j2 p5)) q0 p) fun p13 =>
 k [q0] p13
theorem o97 : FO EN 97 f97 := fe 1 (tc (cc_ok o156) tnil) [some [], some [8], none, none, none] (by kernel_rfl) fun p s k => by kernel_rfl
def f49 : FT := fun p s k => hd s fun a0 s0 =>
 nl s0 <|
 kbx p 3 a0 fun v1 p2 =>
 kfa 0 v1 fun v3 =>
 kfa 0 v3 fun v4 =>
 kld p2 v4 fun v5 =>
 kfa 0 v1 fun v6 =>
 kfa 1 v6 fun v7 =>
 kld p2 v7 fun v8 =>
 kfa 2 v1 fun v9 =>
 kld p2 v9 fun v10 =>
 kbs p2 3 q29 [(0, 1, v5), (1, 1, v8), (2, 1, v10)] fun v11 p12 =>
 cn f97 p12 [v11] fun v13 p14 =>
 k [v13] p14
theorem o49 : FO EN 49 f49 := fe 1 (tc (cn_ok o97) tnil) [] (by kernel_rfl) fun p s k => by kernel_rfl
def f177 : FT := fun p s k => hd s fun a0 s0 =>
 nl s0 <|
 kbx p 2 a0 fun v1 p2 =>
 kfa 0 v1 fun v3 =>
 kld p2 v3 fun v4 =>
 kfa 1 v1 fun v5 =>
 kld p2 v5 fun v6 =>
 kbs p2 2 q30 [(0, 1, v4), (1, 1, v6)] fun v7 p8 =>
 cn f97 p8 [v7] fun v9 p10 =>
 k [v9] p10
theorem o177 : FO EN 177 f177 := fe 1 (tc (cn_ok o97) tnil) [] (by kernel_rfl) fun p s k => by kernel_rfl
def f135 : FT := fun p s k => hd s fun a0 s0 =>
 nl s0 <|
 kbx p 3 a0 fun v1 p2 =>
 kfa 2 v1 fun v3 =>
 kld p2 v3 fun v4 =>
 keq false .s v4 q31 fun v5 =>
 kif v5
 (kfa 0 v1 fun v6 =>
 kla p2 2 v6 fun v7 =>
 cn f177 p2 [v7] fun v8 p9 =>
 k [v8] p9)
 (kla p2 3 v1 fun v10 =>
 cc f49 p2 [v10] fun v11 p12 =>
 k [v11] p12)
theorem o135 : FO EN 135 f135 := fe 1 (tc (cn_ok o177) (tc (cc_ok o49) tnil)) [none] (by kernel_rfl) fun p s k => by kernel_rfl
def f75 : FT := fun p s k => hd s fun a0 s0 =>
 nl s0 <|
 kbx p 6 a0 fun v1 p2 =>
 kfa 0 v1 fun v3 =>
 kla p2 3 v3 fun v4 =>
 cc f49 p2 [v4] fun v5 p6 =>
 keq true .i v5 q0 fun v7 =>
 kif v7
 (k [v5] p6)
 (kfa 3 v1 fun v8 =>
 kla p6 3 v8 fun v9 =>
 cc f135 p6 [v9] fun v10 p11 =>
 k [v10] p11)
theorem o75 : FO EN 75 f75 := fe 1 (tc (cc_ok o49) (tc (cc_ok o135) tnil)) [none] (by kernel_rfl) fun p s k => by kernel_rfl
def f178 : FT := fun p s k => hd s fun a0 s0 =>
 nl s0 <|
 ken false .p a0 .nilp fun v1 =>
 kif v1
 (k [q0] p)
 (knc mth a0 fun v2 =>
 kfa 8 v2 fun v3 =>
 kld p v3 fun v4 =>
 k [v4] p)
theorem o178 : FO EN 178 f178 := fe 1 tnil [none] (by kernel_rfl) fun p s k => by kernel_rfl
def f137 : FT := fun p s k => hd s fun a0 s0 =>
 nl s0 <|
 kbx p 2 a0 fun v1 p2 =>
 kfa 1 v1 fun v3 =>
 kld p2 v3 fun v4 =>
 cc f178 p2 [v4] fun v5 p6 =>
 k [v5] p6
theorem o137 : FO EN 137 f137 := fe 1 (tc (cc_ok o178) tnil) [] (by kernel_rfl) fun p s k => by kernel_rfl
def f77 : FT := fun p s k => hd s fun a0 s0 =>
 nl s0 <|
 kbx p 4 a0 fun v1 p2 =>
 kfa 0 v1 fun v3 =>
 kfa 0 v3 fun v4 =>
 kla p2 2 v4 fun v5 =>
 cc f137 p2 [v5] fun v6 p7 =>
 k [v6] p7
theorem o77 : FO EN 77 f77 := fe 1 (tc (cc_ok o137) tnil) [] (by kernel_rfl) fun p s k => by kernel_rfl
def t136 : List Ce := [⟨36, cc f36⟩]
def f136 : FT := fun p s k => hd s fun a0 s0 =>
 hd s0 fun a1 s1 =>
 nl s1 <|
 kbx p 2 a0 fun v2 p3 =>
 kbx p3 6 a1 fun v4 p5 =>
 kal p5 [] fun v6 p7 =>
 kfa 1 v2 fun v8 =>
 kld p7 v8 fun v9 =>
 jn 0 (fun j10 =>
 lp 1 fuel (fun r11 v12 p13 =>
 ken true .p v12 .nilp fun v14 =>
 kif v14
 (kfa 0 v2 fun v15 =>
 kld (prt [] p13) v15 fun v16 =>
 kla (prt [] p13) 6 v4 fun v17 =>
 knc mth v12 fun v18 =>
 kfa 0 v18 fun v19 =>
 kfa 0 v19 fun v20 =>
 kla (prt [] p13) 6 v20 fun v21 =>
 kcv t136 p13 v16 [v17, v21] fun v22 p23 =>
 keq false .i v22 q0 fun v24 =>
 kif v24
 (knc mth v12 fun v25 =>
 kfa 0 v25 fun v26 =>
 ksw mth p23 (.faddrZ (.c v26)) fun v27 p28 =>
 ksw mth p28 (.load true 0 (.c v27)) fun v29 p30 =>
 kst p30 0 v6 v29 fun p31 =>
 krz p31 v6 fun v32 =>
 k [v32, q21] p31)
 (klt v22 q0 fun v33 =>
 jn 1 (fun j34 => kif v33
 (knc mth v12 fun v35 =>
 kfa 6 v35 fun v36 =>
 kld p23 v36 fun v37 =>
 j34 v37 p23)
 (knc mth v12 fun v38 =>
 kfa 7 v38 fun v39 =>
 kld p23 v39 fun v40 =>
 j34 v40 p23)) fun v41 p42 =>
 r11 v41 p42))
 (j10 p13)) v9 p7) fun p43 =>
 kal p43 [] fun v44 p45 =>
 ksw mth p45 (.load true 0 (.c v44)) fun v46 p47 =>
 kst p47 0 v6 v46 fun p48 =>
 krz p48 v6 fun v49 =>
 k [v49, q11] p48
theorem o136 : FO EN 136 f136 := fe 2 (T := t136) (tc (cc_ok o36) tnil) [some [], some [6], none, none, none, some [6]] (by kernel_rfl) fun p s k => by kernel_rfl
def f76 : FT := fun p s k => hd s fun a0 s0 =>
 hd s0 fun a1 s1 =>
 nl s1 <|
 kbx p 4 a0 fun v2 p3 =>
 kbx p3 6 a1 fun v4 p5 =>
 kla p5 4 v2 fun v6 =>
 cc f77 p5 [v6] fun v7 p8 =>
 keq false .i v7 q0 fun v9 =>
 kif v9
 (k [q11] p8)
 (kfa 0 v2 fun v10 =>
 kfa 0 v10 fun v11 =>
 kla p8 2 v11 fun v12 =>
 kla p8 6 v4 fun v13 =>
 cn f136 p8 [v12, v13] fun v14 p15 =>
 kex v14 0 fun v16 =>
 kex v14 1 fun v17 =>
 kal p15 [] fun v18 p19 =>
 kst p19 0 v18 v16 fun p20 =>
 k [v17] p20)
theorem o76 : FO EN 76 f76 := fe 2 (tc (cc_ok o77) (tc (cn_ok o136) tnil)) [none] (by kernel_rfl) fun p s k => by kernel_rfl
def f138 : FT := fun p s k => hd s fun a0 s0 =>
 nl s0 <|
 kal p q32 fun v1 p2 =>
 kbd q32 [(0, 1, a0)] fun v3 =>
 kst p2 2 v1 v3 fun p4 =>
 kra p4 2 v1 fun v5 =>
 k [v5] p4
theorem o138 : FO EN 138 f138 := fe 1 tnil [] (by kernel_rfl) fun p s k => by kernel_rfl
def f236 : FT := fun p s k => hd s fun a0 s0 =>
 nl s0 <|
 ken false .p a0 .nilp fun v1 =>
 kif v1
 (k [q0] p)
 (knc mth a0 fun v2 =>
 kfa 9 v2 fun v3 =>
 kld p v3 fun v4 =>
 k [v4] p)
theorem o236 : FO EN 236 f236 := fe 1 tnil [none] (by kernel_rfl) fun p s k => by kernel_rfl
def f208 : FT := fun p s k => hd s fun a0 s0 =>
 hd s0 fun a1 s1 =>
 hd s1 fun a2 s2 =>
 nl s2 <|
 kbx p 6 a0 fun v3 p4 =>
 kla (prt [] p4) 6 v3 fun v5 =>
 cc f178 (prt [] p4) [a1] fun v6 p7 =>
 unpK p4 p7 fun p8 =>
 kad v6 q12 fun v9 =>
 cc f178 (prt [] p8) [a2] fun v10 p11 =>
 unpK p8 p11 fun p12 =>
 kad v9 v10 fun v13 =>
 cc f236 (prt [] p12) [a1] fun v14 p15 =>
 unpK p12 p15 fun p16 =>
 cc f236 (prt [] p16) [a2] fun v17 p18 =>
 unpK p16 p18 fun p19 =>
 ksw mth p19 (.minmax true [(.c v14), (.c v17)]) fun v20 p21 =>
 kad q12 v20 fun v22 =>
 kbd q33 [(0, 6, v5), (6, 1, a1), (7, 1, a2), (8, 1, v13), (9, 1, v22)] fun v23 =>
 kbx p19 10 v23 fun v24 p25 =>
 k [v24] p25
theorem o208 : FO EN 208 f208 := fe 3 (tc (cc_ok o178) (tc (cc_ok o236) tnil)) [] (by kernel_rfl) fun p s k => by kernel_rfl
def f206 : FT := fun p s k => hd s fun a0 s0 =>
 hd s0 fun a1 s1 =>
 hd s1 fun a2 s2 =>
 nl s2 <|
 kbx p 6 a0 fun v3 p4 =>
 cc f236 p4 [a1] fun v5 p6 =>
 cc f236 p6 [a2] fun v7 p8 =>
 ksb v5 v7 fun v9 =>
 kgt v9 q12 fun v10 =>
 jn 11 (fun j11 => gdK v10 true (knc mth a1 fun v12 =>
 kfa 6 v12 fun v13 =>
 kld (prt [] p8) v13 fun v14 =>
 cc f236 (prt [] p8) [v14] fun v15 p16 =>
 unpK p8 p16 fun p17 =>
 knc mth a1 fun v18 =>
 kfa 7 v18 fun v19 =>
 kld (prt [(p8.next, p16.next)] p17) v19 fun v20 =>
 cc f236 p17 [v20] fun v21 p22 =>
 kge v15 v21 fun v23 =>
 j11 a1 v12 v13 v14 v15 a1 v18 v19 v20 v21 v23 p22) (j11 .undef .undef .undef .undef .undef .undef .undef .undef .undef .undef .undef p8)) fun v24 v25 v26 v27 v28 v29 v30 v31 v32 v33 v34 p35 =>
 kpk v10 v34 q11 fun v36 =>
 kif v36
 (knc mth a1 fun v37 =>
 kfa 0 v37 fun v38 =>
 kla (prt [] p35) 6 v38 fun v39 =>
 knc mth a1 fun v40 =>
 kfa 6 v40 fun v41 =>
 kld (prt [] p35) v41 fun v42 =>
 kla (prt [] p35) 6 v3 fun v43 =>
 knc mth a1 fun v44 =>
 kfa 7 v44 fun v45 =>
 kld (prt [] p35) v45 fun v46 =>
 cn f208 (prt [] p35) [v43, v46, a2] fun v47 p48 =>
 unpK p35 p48 fun p49 =>
 cn f208 p49 [v39, v42, v47] fun v50 p51 =>
 k [v50] p51)
 (kgt v9 q12 fun v52 =>
 kif v52
 (knc mth a1 fun v53 =>
 kfa 7 v53 fun v54 =>
 kld p35 v54 fun v55 =>
 knc mth v55 fun v56 =>
 kfa 0 v56 fun v57 =>
 kla (prt [] p35) 6 v57 fun v58 =>
 knc mth a1 fun v59 =>
 kfa 0 v59 fun v60 =>
 kla (prt [] p35) 6 v60 fun v61 =>
 knc mth a1 fun v62 =>
 kfa 6 v62 fun v63 =>
 kld (prt [] p35) v63 fun v64 =>
 knc mth v55 fun v65 =>
 kfa 6 v65 fun v66 =>
 kld (prt [] p35) v66 fun v67 =>
 cn f208 (prt [] p35) [v61, v64, v67] fun v68 p69 =>
 unpK p35 p69 fun p70 =>
 kla (prt [(p35.next, p69.next)] p70) 6 v3 fun v71 =>
 knc mth v55 fun v72 =>
 kfa 7 v72 fun v73 =>
 kld (prt [(p35.next, p69.next)] p70) v73 fun v74 =>
 cn f208 (prt [] p70) [v71, v74, a2] fun v75 p76 =>
 unpK p70 p76 fun p77 =>
 cn f208 p77 [v58, v68, v75] fun v78 p79 =>
 k [v78] p79)
 (klt v9 q34 fun v80 =>
 jn 11 (fun j81 => gdK v80 true (knc mth a2 fun v82 =>
 kfa 7 v82 fun v83 =>
 kld (prt [] p35) v83 fun v84 =>
 cc f236 (prt [] p35) [v84] fun v85 p86 =>
 unpK p35 p86 fun p87 =>
 knc mth a2 fun v88 =>
 kfa 6 v88 fun v89 =>
 kld (prt [(p35.next, p86.next)] p87) v89 fun v90 =>
 cc f236 p87 [v90] fun v91 p92 =>
 kge v85 v91 fun v93 =>
 j81 a2 v82 v83 v84 v85 a2 v88 v89 v90 v91 v93 p92) (j81 .undef .undef .undef .undef .undef .undef .undef .undef .undef .undef .undef p35)) fun v94 v95 v96 v97 v98 v99 v100 v101 v102 v103 v104 p105 =>
 kpk v80 v104 q11 fun v106 =>
 kif v106
 (knc mth a2 fun v107 =>
 kfa 0 v107 fun v108 =>
 kla (prt [] p105) 6 v108 fun v109 =>
 kla (prt [] p105) 6 v3 fun v110 =>
 knc mth a2 fun v111 =>
 kfa 6 v111 fun v112 =>
 kld (prt [] p105) v112 fun v113 =>
 cn f208 (prt [] p105) [v110, a1, v113] fun v114 p115 =>
 unpK p105 p115 fun p116 =>
 knc mth a2 fun v117 =>
 kfa 7 v117 fun v118 =>
 kld (prt [(p105.next, p115.next)] p116) v118 fun v119 =>
 cn f208 p116 [v109, v114, v119] fun v120 p121 =>
 k [v120] p121)
 (klt v9 q34 fun v122 =>
 kif v122
 (knc mth a2 fun v123 =>
 kfa 6 v123 fun v124 =>
 kld p105 v124 fun v125 =>
 knc mth v125 fun v126 =>
 kfa 0 v126 fun v127 =>
 kla (prt [] p105) 6 v127 fun v128 =>
 kla (prt [] p105) 6 v3 fun v129 =>
 knc mth v125 fun v130 =>
 kfa 6 v130 fun v131 =>
 kld (prt [] p105) v131 fun v132 =>
 cn f208 (prt [] p105) [v129, a1, v132] fun v133 p134 =>
 unpK p105 p134 fun p135 =>
 knc mth a2 fun v136 =>
 kfa 0 v136 fun v137 =>
 kla (prt [(p105.next, p134.next)] p135) 6 v137 fun v138 =>
 knc mth v125 fun v139 =>
 kfa 7 v139 fun v140 =>
 kld (prt [(p105.next, p134.next)] p135) v140 fun v141 =>
 knc mth a2 fun v142 =>
 kfa 7 v142 fun v143 =>
 kld (prt [(p105.next, p134.next)] p135) v143 fun v144 =>
 cn f208 (prt [] p135) [v138, v141, v144] fun v145 p146 =>
 unpK p135 p146 fun p147 =>
 cn f208 p147 [v128, v133, v145] fun v148 p149 =>
 k [v148] p149)
 (kla p105 6 v3 fun v150 =>
 cn f208 p105 [v150, a1, a2] fun v151 p152 =>
 k [v151] p152))))
theorem o206 : FO EN 206 f206 := fe 3 (tc (cc_ok o236) (tc (cn_ok o208) tnil)) [none, none, none, none, none] (by kernel_rfl) fun p s k => by kernel_rfl
def f79 : FT := fun p s k => hd s fun a0 s0 =>
 hd s0 fun a1 s1 =>
 nl s1 <|
 kbx p 6 a0 fun v2 p3 =>
 kbx p3 6 a1 fun v4 p5 =>
 kfa 3 v2 fun v6 =>
 kla (prt [] p5) 3 v6 fun v7 =>
 kfa 3 v4 fun v8 =>
 kla (prt [] p5) 3 v8 fun v9 =>
 cc f74 (prt [] p5) [v7, v9] fun v10 p11 =>
 unpK p5 p11 fun p12 =>
 kfa 0 v2 fun v13 =>
 kla (prt [(p5.next, p11.next)] p12) 3 v13 fun v14 =>
 kfa 0 v4 fun v15 =>
 kla (prt [(p5.next, p11.next)] p12) 3 v15 fun v16 =>
 cc f73 p12 [v14, v16] fun v17 p18 =>
 kbs p18 2 q13 [(0, 1, v10), (1, 1, v17)] fun v19 p20 =>
 cc f72 p20 [v19] fun v21 p22 =>
 k [v21] p22
theorem o79 : FO EN 79 f79 := fe 2 (tc (cc_ok o74) (tc (cc_ok o73) (tc (cc_ok o72) tnil))) [] (by kernel_rfl) fun p s k => by kernel_rfl
def t180 (self : FT) : List Ce := [⟨208, cn f208⟩, ⟨180, cn self⟩, ⟨206, cn f206⟩, ⟨36, cc f36⟩, ⟨79, cn f79⟩]
def g180 : FT → FT := fun self => fun p s k => hd s fun a0 s0 =>
 hd s0 fun a1 s1 =>
 hd s1 fun a2 s2 =>
 nl s2 <|
 kbx p 2 a0 fun v3 p4 =>
 kbx p4 6 a2 fun v5 p6 =>
 ken false .p a1 .nilp fun v7 =>
 kif v7
 (kla p6 6 v5 fun v8 =>
 cn f208 p6 [v8, .nilp, .nilp] fun v9 p10 =>
 k [v9] p10)
 (kfa 0 v3 fun v11 =>
 kld (prt [] p6) v11 fun v12 =>
 kfa 0 v5 fun v13 =>
 kla (prt [] p6) 6 v13 fun v14 =>
 knc mth a1 fun v15 =>
 kfa 0 v15 fun v16 =>
 kfa 0 v16 fun v17 =>
 kla (prt [] p6) 6 v17 fun v18 =>
 kcv (t180 self) p6 v12 [v14, v18] fun v19 p20 =>
 klt v19 q0 fun v21 =>
 kif v21
 (knc mth a1 fun v22 =>
 kfa 0 v22 fun v23 =>
 kla (prt [] p20) 6 v23 fun v24 =>
 kla (prt [] p20) 2 v3 fun v25 =>
 knc mth a1 fun v26 =>
 kfa 6 v26 fun v27 =>
 kld (prt [] p20) v27 fun v28 =>
 kla (prt [] p20) 6 v5 fun v29 =>
 cn self (prt [] p20) [v25, v28, v29] fun v30 p31 =>
 unpK p20 p31 fun p32 =>
 knc mth a1 fun v33 =>
 kfa 7 v33 fun v34 =>
 kld (prt [(p20.next, p31.next)] p32) v34 fun v35 =>
 cn f206 p32 [v24, v30, v35] fun v36 p37 =>
 k [v36] p37)
 (kgt v19 q0 fun v38 =>
 kif v38
 (knc mth a1 fun v39 =>
 kfa 0 v39 fun v40 =>
 kla (prt [] p20) 6 v40 fun v41 =>
 knc mth a1 fun v42 =>
 kfa 6 v42 fun v43 =>
 kld (prt [] p20) v43 fun v44 =>
 kla (prt [] p20) 2 v3 fun v45 =>
 knc mth a1 fun v46 =>
 kfa 7 v46 fun v47 =>
 kld (prt [] p20) v47 fun v48 =>
 kla (prt [] p20) 6 v5 fun v49 =>
 cn self (prt [] p20) [v45, v48, v49] fun v50 p51 =>
 unpK p20 p51 fun p52 =>
 cn f206 p52 [v41, v44, v50] fun v53 p54 =>
 k [v53] p54)
 (knc mth a1 fun v55 =>
 kfa 0 v55 fun v56 =>
 kfa 0 v56 fun v57 =>
 kla (prt [] p20) 6 v57 fun v58 =>
 ksw mth (prt [] p20) (.faddrZ (.c v5)) fun v59 p60 =>
 ksw mth (prt [] p20) (.load true 0 (.c v59)) fun v61 p62 =>
 kbd q22 [(0, 6, v58), (6, 0, v61)] fun v63 =>
 knc mth a1 fun v64 =>
 kfa 6 v64 fun v65 =>
 kld (prt [] p20) v65 fun v66 =>
 knc mth a1 fun v67 =>
 kfa 7 v67 fun v68 =>
 kld (prt [] p20) v68 fun v69 =>
 cn f208 p20 [v63, v66, v69] fun v70 p71 =>
 k [v70] p71)))
def f180 : FT := rcF depth g180
theorem o180 : FO EN 180 f180 := FO.rc (fun self h => fe 3 (T := t180 self) (tc (cn_ok o208) (tc (cn_ok h) (tc (cn_ok o206) (tc (cc_ok o36) (tc (cn_ok o79) tnil))))) [none, none, none, none] (by kernel_rfl) fun p s k => by kernel_rfl) depth
def f140 : FT := fun p s k => hd s fun a0 s0 =>
 hd s0 fun a1 s1 =>
 hd s1 fun a2 s2 =>
 nl s2 <|
 kbx p 2 a0 fun v3 p4 =>
 kbx p4 6 a1 fun v5 p6 =>
 kbx p6 0 a2 fun v7 p8 =>
 kal p8 q32 fun v9 p10 =>
 kfa 0 v3 fun v11 =>
 kld p10 v11 fun v12 =>
 ken true .f v12 .nilf fun v13 =>
 jn 0 (fun j14 => kif v13
 (kla p10 2 v3 fun v15 =>
 kfa 1 v3 fun v16 =>
 kld p10 v16 fun v17 =>
 kla p10 6 v5 fun v18 =>
 ksw mth p10 (.load true 0 (.c v7)) fun v19 p20 =>
 kbd q22 [(0, 6, v18), (6, 0, v19)] fun v21 =>
 cn f180 p20 [v15, v17, v21] fun v22 p23 =>
 kfa 1 v3 fun v24 =>
 kst p23 1 v24 v22 fun p25 =>
 j14 p25)
 (j14 p10)) fun p26 =>
 kla p26 2 v3 fun v27 =>
 kst p26 2 v9 v27 fun p28 =>
 kra p28 2 v9 fun v29 =>
 k [v29] p28
theorem o140 : FO EN 140 f140 := fe 3 (tc (cn_ok o180) tnil) [some []] (by kernel_rfl) fun p s k => by kernel_rfl
def f78 : FT := fun p s k => hd s fun a0 s0 =>
 hd s0 fun a1 s1 =>
 hd s1 fun a2 s2 =>
 nl s2 <|
 kbx p 2 a0 fun v3 p4 =>
 kbx p4 7 a1 fun v5 p6 =>
 kal p6 q32 fun v7 p8 =>
 kfa 0 v3 fun v9 =>
 kla p8 2 v9 fun v10 =>
 cc f137 p8 [v10] fun v11 p12 =>
 keq false .i v11 q0 fun v13 =>
 jn 0 (fun j14 => kif v13
 (cc f138 p12 [a2] fun v15 p16 =>
 kfa 0 v3 fun v17 =>
 kst p16 2 v17 v15 fun p18 =>
 j14 p18)
 (j14 p12)) fun p19 =>
 kfa 6 v5 fun v20 =>
 kld p19 v20 fun v21 =>
 kif v21
 (kfa 0 v3 fun v22 =>
 kla p19 2 v22 fun v23 =>
 kfa 0 v5 fun v24 =>
 kla p19 6 v24 fun v25 =>
 .no)
 (kfa 0 v3 fun v26 =>
 kla p19 2 v26 fun v27 =>
 kfa 0 v5 fun v28 =>
 kla p19 6 v28 fun v29 =>
 kbd [] [] fun v30 =>
 cc f140 p19 [v27, v29, v30] fun v31 p32 =>
 kbd q32 [(0, 2, v31)] fun v33 =>
 kst p32 2 v7 v33 fun p34 =>
 kra p34 2 v7 fun v35 =>
 k [v35] p34)
theorem o78 : FO EN 78 f78 := fe 3 (tc (cc_ok o137) (tc (cc_ok o138) (tc (cc_ok o140) tnil))) [some [], none] (by kernel_rfl) fun p s k => by kernel_rfl
def f38 : FT := fun p s k => hd s fun a0 s0 =>
 hd s0 fun a1 s1 =>
 nl s1 <|
 kbx p 4 a0 fun v2 p3 =>
 kbx p3 7 a1 fun v4 p5 =>
 kal p5 q35 fun v6 p7 =>
 kfa 0 v4 fun v8 =>
 kla p7 6 v8 fun v9 =>
 cc f75 p7 [v9] fun v10 p11 =>
 keq true .i v10 q0 fun v12 =>
 kif v12
 (kbd q35 [] fun v13 =>
 kst p11 4 v6 v13 fun p14 =>
 kra p14 4 v6 fun v15 =>
 k [v15, v10] p14)
 (kla (prt [] p11) 4 v2 fun v16 =>
 kfa 0 v4 fun v17 =>
 kla (prt [] p11) 6 v17 fun v18 =>
 cn f76 (prt [] p11) [v16, v18] fun v19 p20 =>
 unpK p11 p20 fun p21 =>
 kfa 6 v4 fun v22 =>
 kld (prt [(p11.next, p20.next)] p21) v22 fun v23 =>
 keq true .b v19 v23 fun v24 =>
 kif v24
 (kla p21 4 v2 fun v25 =>
 kst p21 4 v6 v25 fun p26 =>
 kra p26 4 v6 fun v27 =>
 k [v27, q0] p26)
 (kfa 6 v4 fun v28 =>
 kld p21 v28 fun v29 =>
 knt v29 fun v30 =>
 jn 3 (fun j31 => gdK v30 true (kla p21 4 v2 fun v32 =>
 cc f77 p21 [v32] fun v33 p34 =>
 keq false .i v33 q36 fun v35 =>
 j31 v32 v33 v35 p34) (j31 .undef .undef .undef p21)) fun v36 v37 v38 p39 =>
 kpk v30 v38 q11 fun v40 =>
 kif v40
 (kbd q35 [] fun v41 =>
 kst p39 4 v6 v41 fun p42 =>
 kra p42 4 v6 fun v43 =>
 k [v43, q17] p42)
 (kfa 0 v2 fun v44 =>
 kla (prt [] p39) 2 v44 fun v45 =>
 kla (prt [] p39) 7 v4 fun v46 =>
 cn f78 (prt [] p39) [v45, v46, q23] fun v47 p48 =>
 unpK p39 p48 fun p49 =>
 kfa 2 v2 fun v50 =>
 kla (prt [(p39.next, p48.next)] p49) 2 v50 fun v51 =>
 kla (prt [(p39.next, p48.next)] p49) 7 v4 fun v52 =>
 cn f78 p49 [v51, v52, q37] fun v53 p54 =>
 kbd q35 [(0, 2, v47), (2, 2, v53)] fun v55 =>
 kst p54 4 v6 v55 fun p56 =>
 kra p56 4 v6 fun v57 =>
 k [v57, q0] p56)))
theorem o38 : FO EN 38 f38 := fe 2 (tc (cc_ok o75) (tc (cn_ok o76) (tc (cc_ok o77) (tc (cn_ok o78) tnil)))) [none, none, none] (by kernel_rfl) fun p s k => by kernel_rfl
end
end Go.V
end

section
set_option maxRecDepth 100000
set_option linter.unusedVariables false
namespace Go.V
noncomputable section
def f14 : FT := fun p s k => hd s fun a0 s0 =>
 nl s0 <|
 kal p q35 fun v1 p2 =>
 kal p2 q35 fun v3 p4 =>
 kln a0 fun v5 =>
 jn 0 (fun j6 =>
 lp 1 fuel (fun r7 v8 p9 =>
 klt v8 v5 fun v10 =>
 kif v10
 (kia 6 a0 v8 fun v11 =>
 kla p9 6 v11 fun v12 =>
 kal p9 q22 fun v13 p14 =>
 kst p14 6 v13 v12 fun p15 =>
 kla p15 4 v3 fun v16 =>
 kla p15 6 v13 fun v17 =>
 kbd q38 [(0, 6, v17)] fun v18 =>
 cn f38 p15 [v16, v18] fun v19 p20 =>
 kex v19 0 fun v21 =>
 kex v19 1 fun v22 =>
 kal p20 q35 fun v23 p24 =>
 kst p24 4 v23 v21 fun p25 =>
 keq true .i v22 q0 fun v26 =>
 kif v26
 (kbd q35 [] fun v27 =>
 kst p25 4 v1 v27 fun p28 =>
 kra p28 4 v1 fun v29 =>
 k [v29, v22] p28)
 (kla p25 4 v23 fun v30 =>
 kst p25 4 v3 v30 fun p31 =>
 kad v8 q12 fun v32 =>
 r7 v32 p31))
 (j6 p9)) q0 p4) fun p33 =>
 kla p33 4 v3 fun v34 =>
 kst p33 4 v1 v34 fun p35 =>
 kra p35 4 v1 fun v36 =>
 k [v36, q0] p35
theorem o14 : FO EN 14 f14 := fe 1 (tc (cn_ok o38) tnil) [some [], some [11], none, none, none] (by kernel_rfl) fun p s k => by kernel_rfl
def f301 : FT := fun p s k => hd s fun a0 s0 =>
 nl s0 <|
 kge a0 q25 fun v1 =>
 jn 2 (fun j2 => gdK v1 true (kle a0 q26 fun v3 =>
 j2 a0 v3 p) (j2 .undef .undef p)) fun v4 v5 p6 =>
 kpk v1 v5 q11 fun v7 =>
 jn 3 (fun j8 => gdK v7 false (kge a0 q27 fun v9 =>
 j8 a0 v9 v9 p6) (j8 .undef .undef .undef p6)) fun v10 v11 v12 p13 =>
 jn 2 (fun j14 => gdK v12 true (kle a0 q28 fun v15 =>
 j14 a0 v15 p13) (j14 .undef .undef p13)) fun v16 v17 p18 =>
 jn 1 (fun j19 => gdK v7 false (kpk v12 v17 q11 fun v20 =>
 j19 v20 p18) (j19 .undef p18)) fun v21 p22 =>
 kpk v7 q21 v21 fun v23 =>
 k [v23] p22
theorem o301 : FO EN 301 f301 := fe 1 tnil [] (by kernel_rfl) fun p s k => by kernel_rfl
def f302 : FT := fun p s k => hd s fun a0 s0 =>
 nl s0 <|
 keq false .s a0 q39 fun v1 =>
 jn 2 (fun j2 => gdK v1 false (keq false .s a0 q40 fun v3 =>
 j2 a0 v3 p) (j2 .undef .undef p)) fun v4 v5 p6 =>
 kpk v1 q21 v5 fun v7 =>
 jn 2 (fun j8 => gdK v7 false (keq false .s a0 q41 fun v9 =>
 j8 a0 v9 p6) (j8 .undef .undef p6)) fun v10 v11 p12 =>
 kpk v7 q21 v11 fun v13 =>
 k [v13] p12
theorem o302 : FO EN 302 f302 := fe 1 tnil [] (by kernel_rfl) fun p s k => by kernel_rfl
def t277 : List Ce := [⟨301, cc f301⟩, ⟨302, cn f302⟩]
def f277 : FT := fun p s k => hd s fun a0 s0 =>
 nl s0 <|
 kal p q42 fun v1 p2 =>
 kal p2 q14 fun v3 p4 =>
 jn 1 (fun j5 =>
 lp 1 fuel (fun r6 v7 p8 =>
 kls a0 fun v9 =>
 klt v7 v9 fun v10 =>
 jn 4 (fun j11 => gdK v10 true (kix a0 v7 fun v12 =>
 cc f301 p8 [v12] fun v13 p14 =>
 j11 a0 v7 v12 v13 p14) (j11 .undef .undef .undef .undef p8)) fun v15 v16 v17 v18 p19 =>
 kpk v10 v18 q11 fun v20 =>
 kif v20
 (kad v7 q12 fun v21 =>
 r6 v21 p19)
 (j5 v7 p19)) q0 p4) fun v22 p23 =>
 kgt v22 q6 fun v24 =>
 kif v24
 (kla p23 3 v1 fun v25 =>
 kst p23 3 v1 v25 fun p26 =>
 kst p26 1 v3 q24 fun p27 =>
 hd [v3, v1] fun b28 s100 =>
 hd s100 fun b29 s101 =>
 nl s101 <|
 kld p27 b28 fun v30 =>
 keq true .i v30 q0 fun v31 =>
 jn 0 (fun j32 => kif v31
 (kbd q42 [] fun v33 =>
 kst p27 3 b29 v33 fun p34 =>
 j32 p34)
 (j32 p27)) fun p35 =>
 kra p35 3 v1 fun v36 =>
 kr1 p35 v3 fun v37 =>
 k [v36, v37] p35)
 (kgt v22 q0 fun v38 =>
 jn 4 (fun j39 => gdK v38 true (kss a0 none (some v22) fun v40 =>
 cn f302 p23 [v40] fun v41 p42 =>
 j39 a0 v22 v40 v41 p42) (j39 .undef .undef .undef .undef p23)) fun v43 v44 v45 v46 p47 =>
 kpk v38 v46 q11 fun v48 =>
 kif v48
 (kss a0 none (some v22) fun v49 =>
 kbd q42 [(0, 1, q43), (1, 1, v49)] fun v50 =>
 kst p47 3 v1 v50 fun p51 =>
 kst p51 1 v3 q0 fun p52 =>
 hd [v3, v1] fun b53 s100 =>
 hd s100 fun b54 s101 =>
 nl s101 <|
 kld p52 b53 fun v55 =>
 keq true .i v55 q0 fun v56 =>
 jn 0 (fun j57 => kif v56
 (kbd q42 [] fun v58 =>
 kst p52 3 b54 v58 fun p59 =>
 j57 p59)
 (j57 p52)) fun p60 =>
 kra p60 3 v1 fun v61 =>
 kr1 p60 v3 fun v62 =>
 k [v61, v62] p60)
 (kgt v22 q0 fun v63 =>
 kif v63
 (kss a0 none (some v22) fun v64 =>
 kbd q42 [(0, 1, q44), (1, 1, v64)] fun v65 =>
 kst p47 3 v1 v65 fun p66 =>
 kst p66 1 v3 q0 fun p67 =>
 hd [v3, v1] fun b68 s100 =>
 hd s100 fun b69 s101 =>
 nl s101 <|
 kld p67 b68 fun v70 =>
 keq true .i v70 q0 fun v71 =>
 jn 0 (fun j72 => kif v71
 (kbd q42 [] fun v73 =>
 kst p67 3 b69 v73 fun p74 =>
 j72 p74)
 (j72 p67)) fun p75 =>
 kra p75 3 v1 fun v76 =>
 kr1 p75 v3 fun v77 =>
 k [v76, v77] p75)
 (kss a0 none (some q12) fun v78 =>
 kbd q42 [(0, 1, q45), (1, 1, v78)] fun v79 =>
 kst p47 3 v1 v79 fun p80 =>
 kix a0 q0 fun v81 =>
 jn 0 (fun j82 =>
 jn 0 (fun j83 =>
 keq false .i v81 q46 fun v84 =>
 kif v84
 (.no)
 (keq false .i v81 q47 fun v85 =>
 jn 1 (fun j86 => kif v85
 (j86 v85 p80)
 (keq false .i v81 q48 fun v87 =>
 jn 1 (fun j88 => kif v87
 (j88 v87 p80)
 (keq false .i v81 q49 fun v89 =>
 jn 1 (fun j90 => kif v89
 (j90 v89 p80)
 (keq false .i v81 q50 fun v91 =>
 jn 1 (fun j92 => kif v91
 (j92 v91 p80)
 (keq false .i v81 q51 fun v93 =>
 jn 1 (fun j94 => kif v93
 (j94 v93 p80)
 (keq false .i v81 q52 fun v95 =>
 jn 1 (fun j96 => kif v95
 (j96 v95 p80)
 (keq false .i v81 q53 fun v97 =>
 jn 1 (fun j98 => kif v97
 (j98 v97 p80)
 (keq false .i v81 q54 fun v99 =>
 jn 1 (fun j100 => kif v99
 (j100 v99 p80)
 (keq false .i v81 q55 fun v101 =>
 jn 1 (fun j102 => kif v101
 (j102 v101 p80)
 (keq false .i v81 q56 fun v103 =>
 jn 1 (fun j104 => kif v103
 (j104 v103 p80)
 (keq false .i v81 q57 fun v105 =>
 jn 1 (fun j106 => kif v105
 (j106 v105 p80)
 (keq false .i v81 q58 fun v107 =>
 jn 1 (fun j108 => kif v107
 (j108 v107 p80)
 (keq false .i v81 q59 fun v109 =>
 j108 v109 p80)) fun v110 p111 =>
 j106 v110 p111)) fun v112 p113 =>
 j104 v112 p113)) fun v114 p115 =>
 j102 v114 p115)) fun v116 p117 =>
 j100 v116 p117)) fun v118 p119 =>
 j98 v118 p119)) fun v120 p121 =>
 j96 v120 p121)) fun v122 p123 =>
 j94 v122 p123)) fun v124 p125 =>
 j92 v124 p125)) fun v126 p127 =>
 j90 v126 p127)) fun v128 p129 =>
 j88 v128 p129)) fun v130 p131 =>
 j86 v130 p131)) fun v132 p133 =>
 kif v132
 (j83 p133)
 (j82 p133))) fun p134 =>
 kla p134 3 v1 fun v135 =>
 kst p134 3 v1 v135 fun p136 =>
 kst p136 1 v3 q0 fun p137 =>
 hd [v3, v1] fun b138 s100 =>
 hd s100 fun b139 s101 =>
 nl s101 <|
 kld p137 b138 fun v140 =>
 keq true .i v140 q0 fun v141 =>
 jn 0 (fun j142 => kif v141
 (kbd q42 [] fun v143 =>
 kst p137 3 b139 v143 fun p144 =>
 j142 p144)
 (j142 p137)) fun p145 =>
 kra p145 3 v1 fun v146 =>
 kr1 p145 v3 fun v147 =>
 k [v146, v147] p145) fun p148 =>
 kla p148 3 v1 fun v149 =>
 kst p148 3 v1 v149 fun p150 =>
 kst p150 1 v3 q20 fun p151 =>
 hd [v3, v1] fun b152 s100 =>
 hd s100 fun b153 s101 =>
 nl s101 <|
 kld p151 b152 fun v154 =>
 keq true .i v154 q0 fun v155 =>
 jn 0 (fun j156 => kif v155
 (kbd q42 [] fun v157 =>
 kst p151 3 b153 v157 fun p158 =>
 j156 p158)
 (j156 p151)) fun p159 =>
 kra p159 3 v1 fun v160 =>
 kr1 p159 v3 fun v161 =>
 k [v160, v161] p159)))
theorem o277 : FO EN 277 f277 := de (g := 300) (np := 1) (ng := 2) (T := t277) (tc (cc_ok o301) (tc (cn_ok o302) tnil)) [] [some [4], some [4], none, none, none, none, none, none, some [], some [], none, none, some [49], some [49], some [49], some [49], some [49], some [49], some [49], some [49], some [49], some [49], some [49], some [49], none, some []] [some []] (by kernel_rfl) fun p s k => by kernel_rfl
def f245 : FT := fun p s k => hd s fun a0 s0 =>
 nl s0 <|
 kbx p 3 a0 fun v1 p2 =>
 kal p2 q42 fun v3 p4 =>
 kfa 1 v1 fun v5 =>
 kld p4 v5 fun v6 =>
 keq true .s v6 q31 fun v7 =>
 jn 1 (fun j8 => kif v7
 (kfa 1 v1 fun v9 =>
 kld p4 v9 fun v10 =>
 cn f277 p4 [v10] fun v11 p12 =>
 kex v11 0 fun v13 =>
 kex v11 1 fun v14 =>
 kst p12 3 v3 v13 fun p15 =>
 j8 v14 p15)
 (j8 q20 p4)) fun v16 p17 =>
 keq false .i v16 q0 fun v18 =>
 jn 5 (fun j19 => gdK v18 true (kfa 0 v3 fun v20 =>
 kld p17 v20 fun v21 =>
 kfa 0 v1 fun v22 =>
 kld p17 v22 fun v23 =>
 keq false .i v21 v23 fun v24 =>
 j19 v20 v21 v22 v23 v24 p17) (j19 .undef .undef .undef .undef .undef p17)) fun v25 v26 v27 v28 v29 p30 =>
 kpk v18 v29 q11 fun v31 =>
 jn 5 (fun j32 => gdK v31 true (kfa 1 v3 fun v33 =>
 kld p30 v33 fun v34 =>
 kfa 1 v1 fun v35 =>
 kld p30 v35 fun v36 =>
 keq false .s v34 v36 fun v37 =>
 j32 v33 v34 v35 v36 v37 p30) (j32 .undef .undef .undef .undef .undef p30)) fun v38 v39 v40 v41 v42 p43 =>
 kpk v31 v42 q11 fun v44 =>
 kfa 0 v1 fun v45 =>
 kld p43 v45 fun v46 =>
 klt v46 q44 fun v47 =>
 jn 3 (fun j48 => gdK v47 false (kfa 0 v1 fun v49 =>
 kld p43 v49 fun v50 =>
 kgt v50 q45 fun v51 =>
 j48 v49 v50 v51 p43) (j48 .undef .undef .undef p43)) fun v52 v53 v54 p55 =>
 kpk v47 q21 v54 fun v56 =>
 kif v56
 (k [q60] p55)
 (kif v44
 (k [q0] p55)
 (kfa 0 v1 fun v57 =>
 kld p55 v57 fun v58 =>
 keq false .i v58 q44 fun v59 =>
 kif v59
 (k [q24] p55)
 (k [q20] p55)))
theorem o245 : FO EN 245 f245 := fe 1 (tc (cn_ok o277) tnil) [some [4], none, none, none, none] (by kernel_rfl) fun p s k => by kernel_rfl
def f221 : FT := fun p s k => hd s fun a0 s0 =>
 nl s0 <|
 kbd q42 [(0, 1, q44), (1, 1, a0)] fun v1 =>
 cn f245 p [v1] fun v2 p3 =>
 keq false .i v2 q0 fun v4 =>
 k [v4] p3
theorem o221 : FO EN 221 f221 := fe 1 (tc (cn_ok o245) tnil) [] (by kernel_rfl) fun p s k => by kernel_rfl
def f220 : FT := fun p s k => hd s fun a0 s0 =>
 nl s0 <|
 kln a0 fun v1 =>
 kln a0 fun v2 =>
 ksl 5 a0 none (some v1) (some v2) fun v3 =>
 k [v3] p
theorem o220 : FO EN 220 f220 := fe 1 tnil [] (by kernel_rfl) fun p s k => by kernel_rfl
def f244 : FT := fun p s k => hd s fun a0 s0 =>
 nl s0 <|
 kbd q42 [(0, 1, q44), (1, 1, a0)] fun v1 =>
 cn f245 p [v1] fun v2 p3 =>
 keq false .i v2 q0 fun v4 =>
 k [v4] p3
theorem o244 : FO EN 244 f244 := fe 1 (tc (cn_ok o245) tnil) [] (by kernel_rfl) fun p s k => by kernel_rfl
def f219 : FT := fun p s k => hd s fun a0 s0 =>
 nl s0 <|
 knc mth a0 fun v1 =>
 kfa 1 v1 fun v2 =>
 kld (prt [] p) v2 fun v3 =>
 keq true .s v3 q31 fun v4 =>
 knc mth a0 fun v5 =>
 kfa 2 v5 fun v6 =>
 kld (prt [] p) v6 fun v7 =>
 keq true .s v7 q31 fun v8 =>
 kbd q61 [(0, 1, v4), (1, 1, v8)] fun v9 =>
 kal p q61 fun v10 p11 =>
 kst p11 2 v10 v9 fun p12 =>
 kbd q61 [] fun v13 =>
 kal p12 q61 fun v14 p15 =>
 kst p15 2 v14 v13 fun p16 =>
 knc mth a0 fun v17 =>
 kfa 3 v17 fun v18 =>
 kld p16 v18 fun v19 =>
 kln v19 fun v20 =>
 keq false .i v20 q0 fun v21 =>
 knc mth a0 fun v22 =>
 kfa 0 v22 fun v23 =>
 kld p16 v23 fun v24 =>
 keq false .i v24 q44 fun v25 =>
 jn 1 (fun j26 => kif v25
 (j26 v21 p16)
 (keq false .i v24 q43 fun v27 =>
 jn 1 (fun j28 => kif v27
 (kib 2 1 v10 q0 fun v29 =>
 kld p16 v29 fun v30 =>
 kbd q61 [(0, 1, v30), (1, 1, q11)] fun v31 =>
 kst p16 2 v14 v31 fun p32 =>
 j28 v21 p32)
 (keq false .i v24 q45 fun v33 =>
 jn 1 (fun j34 => kif v33
 (kla p16 2 v10 fun v35 =>
 kst p16 2 v14 v35 fun p36 =>
 j34 v21 p36)
 (keq false .i v24 q62 fun v37 =>
 jn 1 (fun j38 => kif v37
 (j38 v37 p16)
 (keq false .i v24 q63 fun v39 =>
 j38 v39 p16)) fun v40 p41 =>
 jn 1 (fun j42 => kif v40
 (kge v20 q16 fun v43 =>
 j42 v43 p41)
 (keq false .i v24 q64 fun v44 =>
 kif v44
 (keq false .i v20 q16 fun v45 =>
 j42 v45 p41)
 (k [q60] p41))) fun v46 p47 =>
 j34 v46 p47)) fun v48 p49 =>
 j28 v48 p49)) fun v50 p51 =>
 j26 v50 p51)) fun v52 p53 =>
 knt v52 fun v54 =>
 jn 3 (fun j55 => gdK v54 false (kla p53 2 v10 fun v56 =>
 kla p53 2 v14 fun v57 =>
 kea true [(0, .b), (1, .b)] v56 v57 fun v58 =>
 j55 v56 v57 v58 p53) (j55 .undef .undef .undef p53)) fun v59 v60 v61 p62 =>
 kpk v54 q21 v61 fun v63 =>
 kif v63
 (k [q20] p62)
 (knc mth a0 fun v64 =>
 kfa 0 v64 fun v65 =>
 kld p62 v65 fun v66 =>
 keq false .i v66 q45 fun v67 =>
 jn 6 (fun j68 => gdK v67 true (knc mth a0 fun v69 =>
 kfa 2 v69 fun v70 =>
 kld p62 v70 fun v71 =>
 cn f244 p62 [v71] fun v72 p73 =>
 knt v72 fun v74 =>
 j68 a0 v69 v70 v71 v72 v74 p73) (j68 .undef .undef .undef .undef .undef .undef p62)) fun v75 v76 v77 v78 v79 v80 p81 =>
 kpk v67 v80 q11 fun v82 =>
 jn 1 (fun j83 => kif v82
 (j83 v82 p81)
 (knc mth a0 fun v84 =>
 kfa 0 v84 fun v85 =>
 kld p81 v85 fun v86 =>
 keq false .i v86 q43 fun v87 =>
 jn 5 (fun j88 => gdK v87 false (knc mth a0 fun v89 =>
 kfa 0 v89 fun v90 =>
 kld p81 v90 fun v91 =>
 keq false .i v91 q45 fun v92 =>
 j88 a0 v89 v90 v91 v92 p81) (j88 .undef .undef .undef .undef .undef p81)) fun v93 v94 v95 v96 v97 p98 =>
 kpk v87 q21 v97 fun v99 =>
 jn 6 (fun j100 => gdK v99 true (knc mth a0 fun v101 =>
 kfa 1 v101 fun v102 =>
 kld p98 v102 fun v103 =>
 cn f244 p98 [v103] fun v104 p105 =>
 knt v104 fun v106 =>
 j100 a0 v101 v102 v103 v104 v106 p105) (j100 .undef .undef .undef .undef .undef .undef p98)) fun v107 v108 v109 v110 v111 v112 p113 =>
 kpk v99 v112 q11 fun v114 =>
 j83 v114 p113)) fun v115 p116 =>
 kif v115
 (k [q24] p116)
 (k [q0] p116))
theorem o219 : FO EN 219 f219 := fe 1 (tc (cn_ok o244) tnil) [none, some [6], some [6], some [6], some [40], some [6], none, none, none, some [57], none] (by kernel_rfl) fun p s k => by kernel_rfl
def f67 : FT := fun p s k => hd s fun a0 s0 =>
 nl s0 <|
 kln a0 fun v1 =>
 kln a0 fun v2 =>
 ksl 1 a0 none (some v1) (some v2) fun v3 =>
 k [v3] p
theorem o67 : FO EN 67 f67 := fe 1 tnil [] (by kernel_rfl) fun p s k => by kernel_rfl
def t218 (self : FT) : List Ce := [⟨219, cn f219⟩, ⟨67, ci f67⟩, ⟨218, ci self⟩]
def g218 : FT → FT := fun self => fun p s k => hd s fun a0 s0 =>
 hd s0 fun a1 s1 =>
 hd s1 fun a2 s2 =>
 hd s2 fun a3 s3 =>
 hd s3 fun a4 s4 =>
 hd s4 fun a5 s5 =>
 hd s5 fun a6 s6 =>
 nl s6 <|
 kld p a3 fun v7 =>
 kln v7 fun v8 =>
 keq false .i v8 q3 fun v9 =>
 jn 2 (fun j10 => gdK v9 false (kgt a1 q9 fun v11 =>
 j10 a1 v11 p) (j10 .undef .undef p)) fun v12 v13 p14 =>
 kpk v9 q21 v13 fun v15 =>
 kif v15
 (k [q11] p14)
 (kld p14 a4 fun v16 =>
 ksw mth p14 (.minmax true [(.c v16), (.c a1)]) fun v17 p18 =>
 kst p18 1 a4 v17 fun p19 =>
 kld p19 a5 fun v20 =>
 keq false .i v20 q0 fun v21 =>
 jn 0 (fun j22 => kif v21
 (cn f219 p19 [a0] fun v23 p24 =>
 kst p24 1 a5 v23 fun p25 =>
 j22 p25)
 (j22 p19)) fun p26 =>
 kld p26 a3 fun v27 =>
 kln v27 fun v28 =>
 kld (prt [] p26) a3 fun v29 =>
 knc mth a0 fun v30 =>
 kfa 0 v30 fun v31 =>
 kld (prt [] p26) v31 fun v32 =>
 knc mth a0 fun v33 =>
 kfa 1 v33 fun v34 =>
 kld (prt [] p26) v34 fun v35 =>
 knc mth a0 fun v36 =>
 kfa 2 v36 fun v37 =>
 kld (prt [] p26) v37 fun v38 =>
 kbd q65 [(0, 1, v32), (1, 1, v35), (2, 1, v38), (4, 1, a2)] fun v39 =>
 kbs p26 1 q65 [(0, 5, v39)] fun v40 p41 =>
 kap p41 5 72 v29 v40 fun v42 p43 =>
 kst p43 1 a3 v42 fun p44 =>
 knc mth a0 fun v45 =>
 kfa 3 v45 fun v46 =>
 kld p44 v46 fun v47 =>
 kln v47 fun v48 =>
 jn 1 (fun j49 =>
 lp 2 fuel (fun r50 v51 v52 p53 =>
 klt v52 v48 fun v54 =>
 kif v54
 (kld p53 a3 fun v55 =>
 kln v55 fun v56 =>
 kbs p53 1 q14 [(0, 1, v56)] fun v57 p58 =>
 kap p58 1 8 v51 v57 fun v59 p60 =>
 kld (prt [] p60) a6 fun v61 =>
 knc mth a0 fun v62 =>
 kfa 3 v62 fun v63 =>
 kld (prt [] p60) v63 fun v64 =>
 kia 4 v64 v52 fun v65 =>
 kad a1 q12 fun v66 =>
 jn 6 (fun j67 => gdK a2 false (knc mth a0 fun v68 =>
 kfa 0 v68 fun v69 =>
 kld (prt [] p60) v69 fun v70 =>
 keq false .i v70 q64 fun v71 =>
 j67 a0 v68 v69 v70 v71 v71 p60) (j67 .undef .undef .undef .undef .undef .undef p60)) fun v72 v73 v74 v75 v76 v77 _ =>
 jn 2 (fun j79 => gdK v77 true (keq false .i v52 q12 fun v80 =>
 j79 v52 v80 p60) (j79 .undef .undef p60)) fun v81 v82 _ =>
 jn 1 (fun j84 => gdK a2 false (kpk v77 v82 q11 fun v85 =>
 j84 v85 p60) (j84 .undef p60)) fun v86 _ =>
 kpk a2 q21 v86 fun v88 =>
 kcv (t218 self) p60 v61 [v65, v66, v88] fun v89 p90 =>
 knt v89 fun v91 =>
 kif v91
 (k [q11] p90)
 (kad v52 q12 fun v92 =>
 r50 v59 v92 p90))
 (j49 v51 p53)) .nils q0 p44) fun v93 p94 =>
 kld (prt [] p94) a3 fun v95 =>
 ci f67 (prt [] p94) [v93] fun v96 p97 =>
 unpK p94 p97 fun p98 =>
 kia 5 v95 v28 fun v99 =>
 kfa 3 v99 fun v100 =>
 kst p98 1 v100 v96 fun p101 =>
 k [q21] p101)
def f218 : FT := rcF depth g218
theorem o218 : FO EN 218 f218 := FO.rc (fun self h => fe 7 (T := t218 self) (tc (cn_ok o219) (tc (ci_ok o67) (tc (ci_ok h) tnil))) [none, some [], some [12], some [12, 52], none, none, none] (by kernel_rfl) fun p s k => by kernel_rfl) depth
def t186 : List Ce := [⟨220, ci f220⟩, ⟨218, ci f218⟩]
def f186 : FT := fun p s k => hd s fun a0 s0 =>
 nl s0 <|
 kal p q66 fun v1 p2 =>
 kal p2 q14 fun v3 p4 =>
 kal p4 q14 fun v5 p6 =>
 kst p6 1 v5 q0 fun p7 =>
 kal p7 q67 fun v8 p9 =>
 kst p9 1 v8 (.func (.func 218) [] [v1, v3, v5, v8]) fun p10 =>
 kld p10 v8 fun v11 =>
 kcv t186 p10 v11 [a0, q12, q11] fun v12 p13 =>
 knt v12 fun v14 =>
 kif v14
 (kst p13 1 v1 .nils fun p15 =>
 kst p15 1 v3 q0 fun p16 =>
 kr1 p16 v1 fun v17 =>
 kr1 p16 v3 fun v18 =>
 k [v17, v18, q17] p16)
 (kld p13 v5 fun v19 =>
 keq true .i v19 q0 fun v20 =>
 kif v20
 (kld (prt [] p13) v5 fun v21 =>
 kps p13 [] [v5] 1 v1 .nils fun b22 p23 =>
 kps p23 [] [v5] 1 v3 q0 fun b24 p25 =>
 kr1 p25 v1 fun v26 =>
 kr1 p25 v3 fun v27 =>
 k [v26, v27, v21] p25)
 (kld (prt [] p13) v1 fun v28 =>
 ci f220 (prt [] p13) [v28] fun v29 p30 =>
 unpK p13 p30 fun p31 =>
 kld (prt [(p13.next, p30.next)] p31) v3 fun v32 =>
 kps p31 [] [v3] 1 v1 v29 fun b33 p34 =>
 kst p34 1 v3 v32 fun p35 =>
 kr1 p35 v1 fun v36 =>
 kr1 p35 v3 fun v37 =>
 k [v36, v37, q0] p35))
theorem o186 : FO EN 186 f186 := fe 1 (T := t186) (tc (ci_ok o220) (tc (ci_ok o218) tnil)) [none, none] (by kernel_rfl) fun p s k => by kernel_rfl
def f146 : FT := fun p s k => hd s fun a0 s0 =>
 nl s0 <|
 kbx p 4 a0 fun v1 p2 =>
 cc f186 p2 [v1] fun v3 p4 =>
 kex v3 0 fun v5 =>
 kex v3 1 fun v6 =>
 kex v3 2 fun v7 =>
 k [v7] p4
theorem o146 : FO EN 146 f146 := fe 1 (tc (cc_ok o186) tnil) [] (by kernel_rfl) fun p s k => by kernel_rfl
def f222 : FT := fun p s k => hd s fun a0 s0 =>
 nl s0 <|
 kbx p 6 a0 fun v1 p2 =>
 kfa 0 v1 fun v3 =>
 kld p2 v3 fun v4 =>
 cc f221 p2 [v4] fun v5 p6 =>
 knt v5 fun v7 =>
 kif v7
 (k [q24] p6)
 (kfa 1 v1 fun v8 =>
 kld p6 v8 fun v9 =>
 kln v9 fun v10 =>
 kgt v10 q9 fun v11 =>
 kif v11
 (k [q17] p6)
 (kfa 1 v1 fun v12 =>
 kld p6 v12 fun v13 =>
 kln v13 fun v14 =>
 jn 0 (fun j15 =>
 lp 1 fuel (fun r16 v17 p18 =>
 klt v17 v14 fun v19 =>
 kif v19
 (kia 2 v13 v17 fun v20 =>
 kla p18 2 v20 fun v21 =>
 kal p18 q30 fun v22 p23 =>
 kst p23 2 v22 v21 fun p24 =>
 kfa 0 v22 fun v25 =>
 kld p24 v25 fun v26 =>
 cc f221 p24 [v26] fun v27 p28 =>
 knt v27 fun v29 =>
 jn 4 (fun j30 => gdK v29 false (kfa 1 v22 fun v31 =>
 kld p28 v31 fun v32 =>
 keq true .s v32 q31 fun v33 =>
 j30 v31 v32 v33 v33 p28) (j30 .undef .undef .undef .undef p28)) fun v34 v35 v36 v37 p38 =>
 jn 4 (fun j39 => gdK v37 true (kfa 1 v22 fun v40 =>
 kld p38 v40 fun v41 =>
 cc f221 p38 [v41] fun v42 p43 =>
 knt v42 fun v44 =>
 j39 v40 v41 v42 v44 p43) (j39 .undef .undef .undef .undef p38)) fun v45 v46 v47 v48 p49 =>
 jn 1 (fun j50 => gdK v29 false (kpk v37 v48 q11 fun v51 =>
 j50 v51 p49) (j50 .undef p49)) fun v52 p53 =>
 kpk v29 q21 v52 fun v54 =>
 kif v54
 (k [q24] p53)
 (kad v17 q12 fun v55 =>
 r16 v55 p53))
 (j15 p18)) q0 p6) fun p56 =>
 kfa 2 v1 fun v57 =>
 kla p56 4 v57 fun v58 =>
 cc f146 p56 [v58] fun v59 p60 =>
 k [v59] p60))
theorem o222 : FO EN 222 f222 := fe 1 (tc (cc_ok o221) (tc (cc_ok o146) tnil)) [none, none, none, some [], some [18], none, none, none] (by kernel_rfl) fun p s k => by kernel_rfl
def f188 : FT := fun p s k => hd s fun a0 s0 =>
 nl s0 <|
 kbx p 1 a0 fun v1 p2 =>
 kfa 0 v1 fun v3 =>
 kld p2 v3 fun v4 =>
 kln v4 fun v5 =>
 kgt v5 q6 fun v6 =>
 kif v6
 (k [q17] p2)
 (kfa 0 v1 fun v7 =>
 kld p2 v7 fun v8 =>
 kln v8 fun v9 =>
 jn 0 (fun j10 =>
 lp 1 fuel (fun r11 v12 p13 =>
 klt v12 v9 fun v14 =>
 kif v14
 (jn 0 (fun j15 =>
 kia 2 v8 v12 fun v16 =>
 kla p13 2 v16 fun v17 =>
 kal p13 q68 fun v18 p19 =>
 kst p19 2 v18 v17 fun p20 =>
 kfa 0 v18 fun v21 =>
 kld p20 v21 fun v22 =>
 cc f221 p20 [v22] fun v23 p24 =>
 knt v23 fun v25 =>
 kif v25
 (k [q24] p24)
 (kfa 1 v18 fun v26 =>
 kld p24 v26 fun v27 =>
 kln v27 fun v28 =>
 kgt v28 q6 fun v29 =>
 kif v29
 (k [q17] p24)
 (kfa 1 v18 fun v30 =>
 kld p24 v30 fun v31 =>
 kln v31 fun v32 =>
 jn 0 (fun j33 =>
 lp 1 fuel (fun r34 v35 p36 =>
 klt v35 v32 fun v37 =>
 kif v37
 (kia 6 v31 v35 fun v38 =>
 kla p36 6 v38 fun v39 =>
 kal p36 q69 fun v40 p41 =>
 kst p41 6 v40 v39 fun p42 =>
 kla p42 6 v40 fun v43 =>
 cn f222 p42 [v43] fun v44 p45 =>
 keq true .i v44 q0 fun v46 =>
 kif v46
 (k [v44] p45)
 (kad v35 q12 fun v47 =>
 r34 v47 p45))
 (j33 p36)) q0 p24) fun p48 =>
 j15 p48))) fun p49 =>
 kad v12 q12 fun v50 =>
 r11 v50 p49)
 (j10 p13)) q0 p2) fun p51 =>
 k [q0] p51)
theorem o188 : FO EN 188 f188 := fe 1 (tc (cc_ok o221) (tc (cn_ok o222) tnil)) [none, some [], some [15], none, some [], none, none, none, some [], some [32], none, none, none] (by kernel_rfl) fun p s k => by kernel_rfl
def f150 : FT := fun p s k => hd s fun a0 s0 =>
 nl s0 <|
 kbx p 1 a0 fun v1 p2 =>
 kla p2 1 v1 fun v3 =>
 ksw mth p2 (.mkmap) fun v4 p5 =>
 ksw mth p5 (.mkmap) fun v6 p7 =>
 kbd q70 [(0, 1, v3), (1, 1, v4), (2, 1, v6)] fun v8 =>
 kbx p7 5 v8 fun v9 p10 =>
 kfa 0 v1 fun v11 =>
 kld p10 v11 fun v12 =>
 kln v12 fun v13 =>
 jn 0 (fun j14 =>
 lp 1 fuel (fun r15 v16 p17 =>
 klt v16 v13 fun v18 =>
 kif v18
 (jn 0 (fun j19 =>
 kia 2 v12 v16 fun v20 =>
 kla p17 2 v20 fun v21 =>
 kal p17 q68 fun v22 p23 =>
 kst p23 2 v22 v21 fun p24 =>
 knc mth v9 fun v25 =>
 kfa 1 v25 fun v26 =>
 kld (prt [] p24) v26 fun v27 =>
 kfa 0 v22 fun v28 =>
 kld (prt [] p24) v28 fun v29 =>
 ksw mth p24 (.lookup ⟨false, [(0, .s)]⟩ q0 false (.c v27) (.c v29)) fun v30 p31 =>
 kad v30 q12 fun v32 =>
 ksw mth p24 (.mapUpdate ⟨false, [(0, .s)]⟩ (.c v27) (.c v29) (.c v32)) fun v33 p34 =>
 kfa 1 v22 fun v35 =>
 kld p34 v35 fun v36 =>
 kln v36 fun v37 =>
 jn 0 (fun j38 =>
 lp 1 fuel (fun r39 v40 p41 =>
 klt v40 v37 fun v42 =>
 kif v42
 (kfa 1 v22 fun v43 =>
 kld p41 v43 fun v44 =>
 kia 6 v44 v40 fun v45 =>
 knc mth v9 fun v46 =>
 kfa 2 v46 fun v47 =>
 kld (prt [] p41) v47 fun v48 =>
 kfa 0 v22 fun v49 =>
 kld (prt [] p41) v49 fun v50 =>
 knc mth v45 fun v51 =>
 kfa 0 v51 fun v52 =>
 kld (prt [] p41) v52 fun v53 =>
 kbd q30 [(0, 1, v50), (1, 1, v53)] fun v54 =>
 ksw mth p41 (.lookup ⟨true, [(0, .s), (1, .s)]⟩ q0 true (.c v48) (.c v54)) fun v55 p56 =>
 kex v55 0 fun v57 =>
 kex v55 1 fun v58 =>
 knt v58 fun v59 =>
 jn 0 (fun j60 => kif v59
 (knc mth v9 fun v61 =>
 kfa 2 v61 fun v62 =>
 kld (prt [] p41) v62 fun v63 =>
 kfa 0 v22 fun v64 =>
 kld (prt [] p41) v64 fun v65 =>
 knc mth v45 fun v66 =>
 kfa 0 v66 fun v67 =>
 kld (prt [] p41) v67 fun v68 =>
 kbd q30 [(0, 1, v65), (1, 1, v68)] fun v69 =>
 knc mth v9 fun v70 =>
 kfa 3 v70 fun v71 =>
 kld (prt [] p41) v71 fun v72 =>
 kln v72 fun v73 =>
 ksw mth p41 (.mapUpdate ⟨true, [(0, .s), (1, .s)]⟩ (.c v63) (.c v69) (.c v73)) fun v74 p75 =>
 j60 p75)
 (j60 p41)) fun p76 =>
 knc mth v9 fun v77 =>
 kfa 3 v77 fun v78 =>
 kld (prt [] p76) v78 fun v79 =>
 kbs p76 1 q71 [(0, 1, v45)] fun v80 p81 =>
 kpa p81 [] [] 1 8 v79 v80 fun p83 v82 p84 =>
 knc mth v9 fun v85 =>
 kfa 4 v85 fun v86 =>
 kld (prt [(p76.next, p81.next), (p81.next, p83)] p84) v86 fun v87 =>
 kfa 0 v22 fun v88 =>
 kld (prt [(p76.next, p81.next), (p81.next, p83)] p84) v88 fun v89 =>
 kbs p84 1 q72 [(0, 1, v89)] fun v90 p91 =>
 kap p91 1 16 v87 v90 fun v92 p93 =>
 knc mth v9 fun v94 =>
 kfa 3 v94 fun v95 =>
 kst p93 1 v95 v82 fun p96 =>
 knc mth v9 fun v97 =>
 kfa 4 v97 fun v98 =>
 kst p96 1 v98 v92 fun p99 =>
 kad v40 q12 fun v100 =>
 r39 v100 p99)
 (j38 p41)) q0 p34) fun p101 =>
 j19 p101) fun p102 =>
 kad v16 q12 fun v103 =>
 r15 v103 p102)
 (j14 p17)) q0 p10) fun p104 =>
 k [v9] p104
theorem o150 : FO EN 150 f150 := fe 1 tnil [some [], some [18], none, some [], some [], some [33], none, none, some []] (by kernel_rfl) fun p s k => by kernel_rfl
def f148 : FT := fun p s k => hd s fun a0 s0 =>
 nl s0 <|
 kbx p 4 a0 fun v1 p2 =>
 cc f186 p2 [v1] fun v3 p4 =>
 kex v3 0 fun v5 =>
 kex v3 1 fun v6 =>
 kex v3 2 fun v7 =>
 k [v5, v7] p4
theorem o148 : FO EN 148 f148 := fe 1 (tc (cc_ok o186) tnil) [] (by kernel_rfl) fun p s k => by kernel_rfl
def f224 : FT := fun p s k => hd s fun a0 s0 =>
 hd s0 fun a1 s1 =>
 hd s1 fun a2 s2 =>
 hd s2 fun a3 s3 =>
 nl s3 <|
 kld (prt [] p) a0 fun v4 =>
 knc mth v4 fun v5 =>
 kfa 2 v5 fun v6 =>
 kld (prt [] p) v6 fun v7 =>
 kfa 0 a1 fun v8 =>
 kld (prt [] p) v8 fun v9 =>
 kld (prt [] p) a2 fun v10 =>
 knc mth v10 fun v11 =>
 kfa 0 v11 fun v12 =>
 kld (prt [] p) v12 fun v13 =>
 kbd q30 [(0, 1, v9), (1, 1, v13)] fun v14 =>
 ksw mth (prt [] p) (.lookup ⟨true, [(0, .s), (1, .s)]⟩ q0 false (.c v7) (.c v14)) fun v15 p16 =>
 kld (prt [] p) a3 fun v17 =>
 keq true .i v15 v17 fun v18 =>
 kif v18
 (k [q73] p)
 (k [q0] p)
theorem o224 : FO EN 224 f224 := fe 4 tnil [none] (by kernel_rfl) fun p s k => by kernel_rfl
def f151 : FT := fun p s k => hd s fun a0 s0 =>
 hd s0 fun a1 s1 =>
 hd s1 fun a2 s2 =>
 nl s2 <|
 knc mth a0 fun v3 =>
 kfa 2 v3 fun v4 =>
 kld p v4 fun v5 =>
 kbd q30 [(0, 1, a1), (1, 1, a2)] fun v6 =>
 ksw mth p (.lookup ⟨true, [(0, .s), (1, .s)]⟩ q0 true (.c v5) (.c v6)) fun v7 p8 =>
 kex v7 0 fun v9 =>
 kex v7 1 fun v10 =>
 knt v10 fun v11 =>
 kif v11
 (k [.nilp] p8)
 (knc mth a0 fun v12 =>
 kfa 3 v12 fun v13 =>
 kld p8 v13 fun v14 =>
 kia 1 v14 v9 fun v15 =>
 kld p8 v15 fun v16 =>
 k [v16] p8)
theorem o151 : FO EN 151 f151 := fe 3 tnil [none] (by kernel_rfl) fun p s k => by kernel_rfl
def f191 : FT := fun p s k => hd s fun a0 s0 =>
 hd s0 fun a1 s1 =>
 nl s1 <|
 kbx p 2 a1 fun v2 p3 =>
 kln a0 fun v4 =>
 jn 0 (fun j5 =>
 lp 1 fuel (fun r6 v7 p8 =>
 klt v7 v4 fun v9 =>
 kif v9
 (kla (prt [] p8) 2 v2 fun v10 =>
 kia 2 a0 v7 fun v11 =>
 kla (prt [] p8) 2 v11 fun v12 =>
 kea false [(0, .s), (1, .s)] v10 v12 fun v13 =>
 kif v13
 (k [v7] p8)
 (kad v7 q12 fun v14 =>
 r6 v14 p8))
 (j5 p8)) q0 p3) fun p15 =>
 k [q34] p15
theorem o191 : FO EN 191 f191 := fe 2 tnil [some [], some [8], none, none, none] (by kernel_rfl) fun p s k => by kernel_rfl
def f153 : FT := fun p s k => hd s fun a0 s0 =>
 hd s0 fun a1 s1 =>
 nl s1 <|
 kbx p 2 a1 fun v2 p3 =>
 kla p3 2 v2 fun v4 =>
 cn f191 p3 [a0, v4] fun v5 p6 =>
 kge v5 q0 fun v7 =>
 k [v7] p6
theorem o153 : FO EN 153 f153 := fe 2 (tc (cn_ok o191) tnil) [] (by kernel_rfl) fun p s k => by kernel_rfl
def f226 : FT := fun p s k => hd s fun a0 s0 =>
 hd s0 fun a1 s1 =>
 nl s1 <|
 knc mth a1 fun v2 =>
 kfa 1 v2 fun v3 =>
 kld p v3 fun v4 =>
 kln v4 fun v5 =>
 jn 0 (fun j6 =>
 lp 1 fuel (fun r7 v8 p9 =>
 klt v8 v5 fun v10 =>
 kif v10
 (kia 2 v4 v8 fun v11 =>
 kla p9 2 v11 fun v12 =>
 kal p9 q30 fun v13 p14 =>
 kst p14 2 v13 v12 fun p15 =>
 knc mth a0 fun v16 =>
 kfa 1 v16 fun v17 =>
 kld (prt [] p15) v17 fun v18 =>
 kfa 0 v13 fun v19 =>
 kld (prt [] p15) v19 fun v20 =>
 ksw mth p15 (.lookup ⟨false, [(0, .s)]⟩ q0 false (.c v18) (.c v20)) fun v21 p22 =>
 keq false .i v21 q0 fun v23 =>
 jn 4 (fun j24 => gdK v23 false (kfa 1 v13 fun v25 =>
 kld p15 v25 fun v26 =>
 keq true .s v26 q31 fun v27 =>
 j24 v25 v26 v27 v27 p15) (j24 .undef .undef .undef .undef p15)) fun v28 v29 v30 v31 _ =>
 jn 7 (fun j33 => gdK v31 true (kfa 0 v13 fun v34 =>
 kld (prt [] p15) v34 fun v35 =>
 kfa 1 v13 fun v36 =>
 kld (prt [] p15) v36 fun v37 =>
 cn f151 p15 [a0, v35, v37] fun v38 p39 =>
 ken false .p v38 .nilp fun v40 =>
 j33 a0 v34 v35 v36 v37 v38 v40 p39) (j33 .undef .undef .undef .undef .undef .undef .undef p15)) fun v41 v42 v43 v44 v45 v46 v47 p48 =>
 jn 1 (fun j49 => gdK v23 false (kpk v31 v47 q11 fun v50 =>
 j49 v50 p48) (j49 .undef p48)) fun v51 _ =>
 kpk v23 q21 v51 fun v53 =>
 kif v53
 (k [q24] p48)
 (knc mth a1 fun v54 =>
 kfa 1 v54 fun v55 =>
 kld (prt [] p48) v55 fun v56 =>
 ksl 2 v56 none (some v8) none fun v57 =>
 kla (prt [] p48) 2 v13 fun v58 =>
 cc f153 p48 [v57, v58] fun v59 p60 =>
 kif v59
 (k [q73] p60)
 (kad v8 q12 fun v61 =>
 r7 v61 p60)))
 (j6 p9)) q0 p) fun p62 =>
 k [q0] p62
theorem o226 : FO EN 226 f226 := fe 2 (tc (cn_ok o151) (tc (cc_ok o153) tnil)) [some [], some [12], none, none, none, none, none] (by kernel_rfl) fun p s k => by kernel_rfl
def f225 : FT := fun p s k => hd s fun a0 s0 =>
 hd s0 fun a1 s1 =>
 nl s1 <|
 kld p a0 fun v2 =>
 kld p a1 fun v3 =>
 cn f226 p [v2, v3] fun v4 p5 =>
 k [v4] p5
theorem o225 : FO EN 225 f225 := fe 2 (tc (cn_ok o226) tnil) [] (by kernel_rfl) fun p s k => by kernel_rfl
def f190 : FT := fun p s k => hd s fun a0 s0 =>
 nl s0 <|
 kln a0 fun v1 =>
 kln a0 fun v2 =>
 ksl 1 a0 none (some v1) (some v2) fun v3 =>
 k [v3] p
theorem o190 : FO EN 190 f190 := fe 1 tnil [] (by kernel_rfl) fun p s k => by kernel_rfl
def f152 : FT := fun p s k => hd s fun a0 s0 =>
 hd s0 fun a1 s1 =>
 hd s1 fun a2 s2 =>
 hd s2 fun a3 s3 =>
 nl s3 <|
 cn f151 p [a0, a1, a2] fun v4 p5 =>
 ken true .p v4 .nilp fun v6 =>
 jn 1 (fun j7 => kif v6
 (knc mth v4 fun v8 =>
 kfa 1 v8 fun v9 =>
 kld p5 v9 fun v10 =>
 kln v10 fun v11 =>
 jn 1 (fun j12 =>
 lp 2 fuel (fun r13 v14 v15 p16 =>
 klt v15 v11 fun v17 =>
 kif v17
 (kia 2 v10 v15 fun v18 =>
 kla p16 2 v18 fun v19 =>
 kal p16 q30 fun v20 p21 =>
 kst p21 2 v20 v19 fun p22 =>
 kfa 1 v20 fun v23 =>
 kld p22 v23 fun v24 =>
 keq false .s v24 q31 fun v25 =>
 jn 6 (fun j26 => gdK v25 true (kfa 0 v20 fun v27 =>
 kld p22 v27 fun v28 =>
 cn f151 p22 [a0, v28, a3] fun v29 p30 =>
 ken true .p v29 .nilp fun v31 =>
 j26 a0 v27 v28 a3 v29 v31 p30) (j26 .undef .undef .undef .undef .undef .undef p22)) fun v32 v33 v34 v35 v36 v37 p38 =>
 kpk v25 v37 q11 fun v39 =>
 jn 1 (fun j40 => kif v39
 (kfa 0 v20 fun v41 =>
 kld p38 v41 fun v42 =>
 kbs p38 1 q72 [(0, 1, v42)] fun v43 p44 =>
 kap p44 1 16 v14 v43 fun v45 p46 =>
 j40 v45 p46)
 (j40 v14 p38)) fun v47 p48 =>
 kad v15 q12 fun v49 =>
 r13 v47 v49 p48)
 (j12 v14 p16)) .nils q0 p5) fun v50 p51 =>
 j7 v50 p51)
 (j7 .nils p5)) fun v52 p53 =>
 ci f190 p53 [v52] fun v54 p55 =>
 k [v54] p55
theorem o152 : FO EN 152 f152 := fe 4 (tc (cn_ok o151) (tc (ci_ok o190) tnil)) [some [9], some [9], some [9, 24], none, none, some [9]] (by kernel_rfl) fun p s k => by kernel_rfl
def f228 : FT := fun p s k => hd s fun a0 s0 =>
 hd s0 fun a1 s1 =>
 hd s1 fun a2 s2 =>
 nl s2 <|
 kln a2 fun v3 =>
 jn 1 (fun j4 =>
 lp 2 fuel (fun r5 v6 v7 p8 =>
 klt v7 v3 fun v9 =>
 kif v9
 (kia 5 a2 v7 fun v10 =>
 kla p8 5 v10 fun v11 =>
 kal p8 q65 fun v12 p13 =>
 kst p13 5 v12 v11 fun p14 =>
 kfa 0 v12 fun v15 =>
 kld p14 v15 fun v16 =>
 keq false .i v16 q43 fun v17 =>
 jn 3 (fun j18 => gdK v17 false (kfa 0 v12 fun v19 =>
 kld p14 v19 fun v20 =>
 keq false .i v20 q45 fun v21 =>
 j18 v19 v20 v21 p14) (j18 .undef .undef .undef p14)) fun v22 v23 v24 p25 =>
 kpk v17 q21 v24 fun v26 =>
 jn 6 (fun j27 => gdK v26 true (kfa 1 v12 fun v28 =>
 kld p25 v28 fun v29 =>
 cn f151 p25 [a0, a1, v29] fun v30 p31 =>
 ken false .p v30 .nilp fun v32 =>
 j27 a0 a1 v28 v29 v30 v32 p31) (j27 .undef .undef .undef .undef .undef .undef p25)) fun v33 v34 v35 v36 v37 v38 p39 =>
 kpk v26 v38 q11 fun v40 =>
 kif v40
 (k [v6, q24] p39)
 (kfa 0 v12 fun v41 =>
 kld p39 v41 fun v42 =>
 keq false .i v42 q45 fun v43 =>
 jn 9 (fun j44 => gdK v43 true (kfa 1 v12 fun v45 =>
 kld p39 v45 fun v46 =>
 kfa 2 v12 fun v47 =>
 kld p39 v47 fun v48 =>
 cc f152 p39 [a0, a1, v46, v48] fun v49 p50 =>
 kln v49 fun v51 =>
 keq false .i v51 q0 fun v52 =>
 j44 a0 a1 v45 v46 v47 v48 v49 v51 v52 p50) (j44 .undef .undef .undef .undef .undef .undef .undef .undef .undef p39)) fun v53 v54 v55 v56 v57 v58 v59 v60 v61 p62 =>
 kpk v43 v61 q11 fun v63 =>
 kif v63
 (k [v6, q74] p62)
 (jn 3 (fun j64 => gdK v6 false (kfa 0 v12 fun v65 =>
 kld p62 v65 fun v66 =>
 keq false .i v66 q44 fun v67 =>
 j64 v65 v66 v67 p62) (j64 .undef .undef .undef p62)) fun v68 v69 v70 p71 =>
 kpk v6 q21 v70 fun v72 =>
 kad v7 q12 fun v73 =>
 r5 v72 v73 p71)))
 (j4 v6 p8)) q11 q0 p) fun v74 p75 =>
 k [v74, q0] p75
theorem o228 : FO EN 228 f228 := fe 3 (tc (cn_ok o151) (tc (cc_ok o152) tnil)) [some [6], some [6, 13], none, none, none, none, none] (by kernel_rfl) fun p s k => by kernel_rfl
def f227 : FT := fun p s k => hd s fun a0 s0 =>
 hd s0 fun a1 s1 =>
 hd s1 fun a2 s2 =>
 hd s2 fun a3 s3 =>
 nl s3 <|
 kld p a0 fun v4 =>
 kfa 0 a1 fun v5 =>
 kld p v5 fun v6 =>
 kld p a2 fun v7 =>
 cn f228 p [v4, v6, v7] fun v8 p9 =>
 kex v8 0 fun v10 =>
 kex v8 1 fun v11 =>
 kst p9 1 a3 v10 fun p12 =>
 k [v11] p12
theorem o227 : FO EN 227 f227 := fe 4 (tc (cn_ok o228) tnil) [] (by kernel_rfl) fun p s k => by kernel_rfl
def f229 : FT := fun p s k => hd s fun a0 s0 =>
 hd s0 fun a1 s1 =>
 hd s1 fun a2 s2 =>
 nl s2 <|
 kld p a0 fun v3 =>
 jn 6 (fun j4 => gdK v3 true (kld p a1 fun v5 =>
 knc mth v5 fun v6 =>
 kfa 1 v6 fun v7 =>
 kld p v7 fun v8 =>
 kln v8 fun v9 =>
 keq false .i v9 q0 fun v10 =>
 j4 v5 v6 v7 v8 v9 v10 p) (j4 .undef .undef .undef .undef .undef .undef p)) fun v11 v12 v13 v14 v15 v16 _ =>
 kpk v3 v16 q11 fun v18 =>
 jn 3 (fun j19 => gdK v18 false (kld p a0 fun v20 =>
 knt v20 fun v21 =>
 j19 v20 v21 v21 p) (j19 .undef .undef .undef p)) fun v22 v23 v24 _ =>
 jn 6 (fun j26 => gdK v24 true (kld p a1 fun v27 =>
 knc mth v27 fun v28 =>
 kfa 1 v28 fun v29 =>
 kld p v29 fun v30 =>
 kln v30 fun v31 =>
 kgt v31 q0 fun v32 =>
 j26 v27 v28 v29 v30 v31 v32 p) (j26 .undef .undef .undef .undef .undef .undef p)) fun v33 v34 v35 v36 v37 v38 _ =>
 jn 2 (fun j40 => gdK v18 false (kpk v24 v38 q11 fun v41 =>
 j40 v41 v41 p) (j40 .undef .undef p)) fun v42 v43 _ =>
 jn 7 (fun j45 => gdK v43 true (kla (prt [] p) 2 a2 fun v46 =>
 kld (prt [] p) a1 fun v47 =>
 knc mth v47 fun v48 =>
 kfa 0 v48 fun v49 =>
 kld (prt [] p) v49 fun v50 =>
 .no) (j45 .undef .undef .undef .undef .undef .undef .undef p)) fun v51 v52 v53 v54 v55 v56 v57 p58 =>
 jn 1 (fun j59 => gdK v18 false (kpk v43 v57 q11 fun v60 =>
 j59 v60 p58) (j59 .undef p58)) fun v61 _ =>
 kpk v18 q21 v61 fun v63 =>
 kif v63
 (k [q74] p58)
 (k [q0] p58)
theorem o229 : FO EN 229 f229 := fe 3 tnil [none] (by kernel_rfl) fun p s k => by kernel_rfl
def t223 : List Ce := [⟨224, cn f224⟩, ⟨225, cn f225⟩, ⟨227, ci f227⟩, ⟨229, cn f229⟩]
def f223 : FT := fun p s k => hd s fun a0 s0 =>
 nl s0 <|
 kln a0 fun v1 =>
 jn 0 (fun j2 =>
 lp 1 fuel (fun r3 v4 p5 =>
 klt v4 v1 fun v6 =>
 kif v6
 (kia 1 a0 v4 fun v7 =>
 kld p5 v7 fun v8 =>
 kcv t223 p5 v8 [] fun v9 p10 =>
 keq true .i v9 q0 fun v11 =>
 kif v11
 (k [v9] p10)
 (kad v4 q12 fun v12 =>
 r3 v12 p10))
 (j2 p5)) q0 p) fun p13 =>
 k [q0] p13
theorem o223 : FO EN 223 f223 := fe 1 (T := t223) (tc (cn_ok o224) (tc (cn_ok o225) (tc (ci_ok o227) (tc (cn_ok o229) tnil)))) [some [], some [8], none, none, none] (by kernel_rfl) fun p s k => by kernel_rfl
def f189 : FT := fun p s k => hd s fun a0 s0 =>
 hd s0 fun a1 s1 =>
 hd s1 fun a2 s2 =>
 nl s2 <|
 kbx p 1 a0 fun v3 p4 =>
 kbx p4 2 a1 fun v5 p6 =>
 kbx p6 1 a2 fun v7 p8 =>
 kld (prt [] p8) v3 fun v9 =>
 knc mth v9 fun v10 =>
 kfa 3 v10 fun v11 =>
 kld (prt [] p8) v11 fun v12 =>
 kld (prt [] p8) v7 fun v13 =>
 kia 1 v12 v13 fun v14 =>
 kld (prt [] p8) v14 fun v15 =>
 kal p8 q71 fun v16 p17 =>
 kst p17 1 v16 v15 fun p18 =>
 kld p18 v16 fun v19 =>
 knc mth v19 fun v20 =>
 kfa 2 v20 fun v21 =>
 kla p18 4 v21 fun v22 =>
 cc f148 p18 [v22] fun v23 p24 =>
 kex v23 0 fun v25 =>
 kex v23 1 fun v26 =>
 kal p24 q66 fun v27 p28 =>
 kst p28 1 v27 v25 fun p29 =>
 kal p29 q75 fun v30 p31 =>
 kst p31 1 v30 q11 fun p32 =>
 kbs p32 4 q76 [(0, 1, (.func (.func 224) [] [v3, v5, v16, v7])), (1, 1, (.func (.func 225) [] [v3, v16])), (2, 1, (.func (.func 227) [] [v3, v5, v27, v30])), (3, 1, (.func (.func 229) [] [v30, v16, v5]))] fun v33 p34 =>
 ci f223 p34 [v33] fun v35 p36 =>
 k [v35] p36
theorem o189 : FO EN 189 f189 := fe 3 (tc (cc_ok o148) (tc (ci_ok o223) tnil)) [] (by kernel_rfl) fun p s k => by kernel_rfl
def f149 : FT := fun p s k => hd s fun a0 s0 =>
 nl s0 <|
 kbx p 1 a0 fun v1 p2 =>
 kla p2 1 v1 fun v3 =>
 cn f188 p2 [v3] fun v4 p5 =>
 keq true .i v4 q0 fun v6 =>
 kif v6
 (k [v4] p5)
 (kla p5 1 v1 fun v7 =>
 cc f150 p5 [v7] fun v8 p9 =>
 knc mth v8 fun v10 =>
 kfa 1 v10 fun v11 =>
 kld (prt [] p9) v11 fun v12 =>
 ksw mth (prt [] p9) (.lenMap (.c v12)) fun v13 p14 =>
 kfa 0 v1 fun v15 =>
 kld (prt [] p9) v15 fun v16 =>
 kln v16 fun v17 =>
 klt v13 v17 fun v18 =>
 kif v18
 (k [q73] p9)
 (kfa 0 v1 fun v19 =>
 kld p9 v19 fun v20 =>
 kln v20 fun v21 =>
 jn 0 (fun j22 =>
 lp 2 fuel (fun r23 v24 v25 p26 =>
 klt v25 v21 fun v27 =>
 kif v27
 (jn 1 (fun j28 =>
 kia 2 v20 v25 fun v29 =>
 kla p26 2 v29 fun v30 =>
 kal p26 q68 fun v31 p32 =>
 kst p32 2 v31 v30 fun p33 =>
 kfa 1 v31 fun v34 =>
 kld p33 v34 fun v35 =>
 kln v35 fun v36 =>
 jn 1 (fun j37 =>
 lp 2 fuel (fun r38 v39 v40 p41 =>
 klt v40 v36 fun v42 =>
 kif v42
 (kla p41 2 v31 fun v43 =>
 cn f189 p41 [v8, v43, v39] fun v44 p45 =>
 keq true .i v44 q0 fun v46 =>
 kif v46
 (k [v44] p45)
 (kad v39 q12 fun v47 =>
 kad v40 q12 fun v48 =>
 r38 v47 v48 p45))
 (j37 v39 p41)) v24 q0 p33) fun v49 p50 =>
 j28 v49 p50) fun v51 p52 =>
 kad v25 q12 fun v53 =>
 r23 v51 v53 p52)
 (j22 p26)) q0 q0 p9) fun p54 =>
 k [q0] p54))
theorem o149 : FO EN 149 f149 := fe 1 (tc (cn_ok o188) (tc (cc_ok o150) (tc (cn_ok o189) tnil))) [none, none, some [], some [5, 28], none, some [5], some [5], some [5, 35], none, none, none] (by kernel_rfl) fun p s k => by kernel_rfl
def f87 : FT := fun p s k => hd s fun a0 s0 =>
 hd s0 fun a1 s1 =>
 hd s1 fun a2 s2 =>
 hd s2 fun a3 s3 =>
 nl s3 <|
 kbx p 1 a0 fun v4 p5 =>
 kla p5 1 v4 fun v6 =>
 cc f149 p5 [v6] fun v7 p8 =>
 keq true .i v7 q0 fun v9 =>
 kif v9
 (k [.nils, v7] p8)
 (kla p8 1 v4 fun v10 =>
 cc f150 p8 [v10] fun v11 p12 =>
 cn f151 p12 [v11, a1, a2] fun v13 p14 =>
 ken false .p v13 .nilp fun v15 =>
 kif v15
 (k [.nils, q24] p14)
 (cc f152 p14 [v11, a1, a2, a3] fun v16 p17 =>
 kln v16 fun v18 =>
 keq false .i v18 q0 fun v19 =>
 kif v19
 (k [.nils, q74] p17)
 (k [v16, q0] p17)))
theorem o87 : FO EN 87 f87 := fe 4 (tc (cc_ok o149) (tc (cc_ok o150) (tc (cn_ok o151) (tc (cc_ok o152) tnil)))) [none, none, none] (by kernel_rfl) fun p s k => by kernel_rfl
def f158 : FT := fun p s k => hd s fun a0 s0 =>
 nl s0 <|
 keq true .i a0 a0 fun v1 =>
 k [v1] p
theorem o158 : FO EN 158 f158 := fe 1 tnil [] (by kernel_rfl) fun p s k => by kernel_rfl
def f101 : FT := fun p s k => hd s fun a0 s0 =>
 hd s0 fun a1 s1 =>
 nl s1 <|
 cc f158 p [a0] fun v2 p3 =>
 cc f158 p3 [a1] fun v4 p5 =>
 kif v2
 (kif v4
 (k [q0] p5)
 (k [q34] p5))
 (kif v4
 (k [q12] p5)
 (klt a0 a1 fun v6 =>
 kif v6
 (k [q34] p5)
 (kgt a0 a1 fun v7 =>
 kif v7
 (k [q12] p5)
 (k [q0] p5))))
theorem o101 : FO EN 101 f101 := fe 2 (tc (cc_ok o158) tnil) [none, none, none, none, none] (by kernel_rfl) fun p s k => by kernel_rfl
def f237 : FT := fun p s k => hd s fun a0 s0 =>
 nl s0 <|
 kbx p 3 a0 fun v1 p2 =>
 kfa 2 v1 fun v3 =>
 kld p2 v3 fun v4 =>
 kif v4
 (k [q12] p2)
 (k [q0] p2)
theorem o237 : FO EN 237 f237 := fe 1 tnil [none] (by kernel_rfl) fun p s k => by kernel_rfl
def f209 : FT := fun p s k => hd s fun a0 s0 =>
 hd s0 fun a1 s1 =>
 nl s1 <|
 kbx p 3 a0 fun v2 p3 =>
 kbx p3 3 a1 fun v4 p5 =>
 kfa 0 v2 fun v6 =>
 kld (prt [] p5) v6 fun v7 =>
 kfa 0 v4 fun v8 =>
 kld (prt [] p5) v8 fun v9 =>
 cc f101 (prt [] p5) [v7, v9] fun v10 p11 =>
 unpK p5 p11 fun p12 =>
 kfa 1 v2 fun v13 =>
 kld (prt [(p5.next, p11.next)] p12) v13 fun v14 =>
 kfa 1 v4 fun v15 =>
 kld (prt [(p5.next, p11.next)] p12) v15 fun v16 =>
 cc f101 (prt [] p12) [v14, v16] fun v17 p18 =>
 unpK p12 p18 fun p19 =>
 kla (prt [(p5.next, p11.next), (p12.next, p18.next)] p19) 3 v2 fun v20 =>
 cc f237 (prt [] p19) [v20] fun v21 p22 =>
 unpK p19 p22 fun p23 =>
 kla (prt [(p5.next, p11.next), (p12.next, p18.next), (p19.next, p22.next)] p23) 3 v4 fun v24 =>
 cc f237 p23 [v24] fun v25 p26 =>
 cc f101 p26 [v21, v25] fun v27 p28 =>
 kbs p28 3 q77 [(0, 1, v10), (1, 1, v17), (2, 1, v27)] fun v29 p30 =>
 cc f72 p30 [v29] fun v31 p32 =>
 k [v31] p32
theorem o209 : FO EN 209 f209 := fe 2 (tc (cc_ok o101) (tc (cc_ok o237) (tc (cc_ok o72) tnil))) [] (by kernel_rfl) fun p s k => by kernel_rfl
def t257 : List Ce := [⟨209, cn f209⟩]
def f257 : FT := fun p s k => hd s fun a0 s0 =>
 hd s0 fun a1 s1 =>
 hd s1 fun a2 s2 =>
 hd s2 fun a3 s3 =>
 nl s3 <|
 kad a1 q12 fun v4 =>
 jn 0 (fun j5 =>
 lp 1 fuel (fun r6 v7 p8 =>
 klt v7 a2 fun v9 =>
 kif v9
 (jn 0 (fun j10 =>
 jn 0 (fun j11 =>
 lp 1 fuel (fun r12 v13 p14 =>
 kgt v13 a1 fun v15 =>
 jn 12 (fun j16 => gdK v15 true (kia 3 a0 v13 fun v17 =>
 kla (prt [] p14) 3 v17 fun v18 =>
 ksb v13 q12 fun v19 =>
 kia 3 a0 v19 fun v20 =>
 kla (prt [] p14) 3 v20 fun v21 =>
 kcv t257 p14 a3 [v18, v21] fun v22 p23 =>
 klt v22 q0 fun v24 =>
 j16 a3 a0 v13 v17 v18 a0 v13 v19 v20 v21 v22 v24 p23) (j16 .undef .undef .undef .undef .undef .undef .undef .undef .undef .undef .undef .undef p14)) fun v25 v26 v27 v28 v29 v30 v31 v32 v33 v34 v35 v36 p37 =>
 kpk v15 v36 q11 fun v38 =>
 kif v38
 (ksb v13 q12 fun v39 =>
 ksb v13 q12 fun v40 =>
 kia 3 a0 v40 fun v41 =>
 kla (prt [] p37) 3 v41 fun v42 =>
 kia 3 a0 v13 fun v43 =>
 kla (prt [] p37) 3 v43 fun v44 =>
 kia 3 a0 v13 fun v45 =>
 kst p37 3 v45 v42 fun p46 =>
 kia 3 a0 v39 fun v47 =>
 kst p46 3 v47 v44 fun p48 =>
 ksb v13 q12 fun v49 =>
 r12 v49 p48)
 (j11 p37)) v7 p8) fun p50 =>
 j10 p50) fun p51 =>
 kad v7 q12 fun v52 =>
 r6 v52 p51)
 (j5 p8)) v4 p) fun p53 =>
 k [] p53
theorem o257 : FO EN 257 f257 := fe 4 (T := t257) (tc (cn_ok o209) tnil) [some [], some [8], none, some [], some [], some [9], none, none] (by kernel_rfl) fun p s k => by kernel_rfl
end
end Go.V
end

section
set_option maxRecDepth 100000
set_option linter.unusedVariables false
namespace Go.V
noncomputable section
def f238 : FT := fun p s k => hd s fun a0 s0 =>
 hd s0 fun a1 s1 =>
 hd s1 fun a2 s2 =>
 hd s2 fun a3 s3 =>
 hd s3 fun a4 s4 =>
 nl s4 <|
 jn 0 (fun j5 =>
 lp 5 fuel (fun r6 v7 v8 v9 v10 v11 p12 =>
 jn 5 (fun j13 =>
 ksb v8 v7 fun v14 =>
 kle v14 q19 fun v15 =>
 kif v15
 (ci f257 p12 [a0, v7, v8, a4] fun v16 p17 =>
 k [] p17)
 (keq false .i v9 q0 fun v18 =>
 kif v18
 (.no)
 (knt v10 fun v19 =>
 jn 1 (fun j20 => kif v19
 (.no)
 (j20 v9 p12)) fun v21 p22 =>
 .no))) fun v23 v24 v25 v26 v27 p28 =>
 r6 v23 v24 v25 v26 v27 p28) a1 a2 a3 q21 q21 p) fun p29 =>
 k [] p29
theorem o238 : FO EN 238 f238 := fe 5 (tc (ci_ok o257) tnil) [some [], some [1, 2, 3, 10, 11], some [1, 2, 3, 10, 11], none, none, some [3], some [13, 14], some [], none, none, some [1, 2, 10]] (by kernel_rfl) fun p s k => by kernel_rfl
def f210 : FT := fun p s k => hd s fun a0 s0 =>
 hd s0 fun a1 s1 =>
 nl s1 <|
 kln a0 fun v2 =>
 kci .u64 v2 fun v3 =>
 cc f71 p [v3] fun v4 p5 =>
 ci f238 p5 [a0, q0, v2, v4, a1] fun v6 p7 =>
 k [] p7
theorem o210 : FO EN 210 f210 := fe 2 (tc (cc_ok o71) (tc (ci_ok o238) tnil)) [] (by kernel_rfl) fun p s k => by kernel_rfl
def f212 : FT := fun p s k => hd s fun a0 s0 =>
 nl s0 <|
 kln a0 fun v1 =>
 klt v1 q16 fun v2 =>
 kif v2
 (k [a0] p)
 (jn 0 (fun j3 =>
 lp 1 fuel (fun r4 v5 p6 =>
 kln a0 fun v7 =>
 klt v5 v7 fun v8 =>
 kif v8
 (jn 1 (fun j9 =>
 kia 3 a0 v5 fun v10 =>
 kla (prt [] p6) 3 v10 fun v11 =>
 ksb v5 q12 fun v12 =>
 kia 3 a0 v12 fun v13 =>
 kla (prt [] p6) 3 v13 fun v14 =>
 kea false [(0, .i), (1, .i), (2, .b)] v11 v14 fun v15 =>
 kif v15
 (ksl 3 a0 (some v5) none none fun v16 =>
 jn 1 (fun j17 =>
 lp 2 fuel (fun r18 v19 v20 p21 =>
 kln v16 fun v22 =>
 klt v20 v22 fun v23 =>
 kif v23
 (kia 3 v16 v20 fun v24 =>
 kla (prt [] p21) 3 v24 fun v25 =>
 ksb v20 q12 fun v26 =>
 kia 3 v16 v26 fun v27 =>
 kla (prt [] p21) 3 v27 fun v28 =>
 kea true [(0, .i), (1, .i), (2, .b)] v25 v28 fun v29 =>
 jn 1 (fun j30 => kif v29
 (kia 3 v16 v20 fun v31 =>
 kla p21 3 v31 fun v32 =>
 kia 3 a0 v19 fun v33 =>
 kst p21 3 v33 v32 fun p34 =>
 kad v19 q12 fun v35 =>
 j30 v35 p34)
 (j30 v19 p21)) fun v36 p37 =>
 kad v20 q12 fun v38 =>
 r18 v36 v38 p37)
 (j17 v19 p21)) v5 q12 p6) fun v39 p40 =>
 ksl 3 a0 (some v39) none none fun v41 =>
 ksw mth p40 (.clear q78 (.c v41)) fun v42 p43 =>
 ksl 3 a0 none (some v39) none fun v44 =>
 k [v44] p43)
 (j9 v5 p6)) fun v45 p46 =>
 kad v45 q12 fun v47 =>
 r4 v47 p46)
 (j3 p6)) q12 p) fun p48 =>
 k [a0] p48)
theorem o212 : FO EN 212 f212 := fe 1 tnil [none, some [], some [3], none, some [3], none, some [3], some [3, 5], none, none, some [3]] (by kernel_rfl) fun p s k => by kernel_rfl
def f211 : FT := fun p s k => hd s fun a0 s0 =>
 nl s0 <|
 kln a0 fun v1 =>
 kln a0 fun v2 =>
 ksl 3 a0 none (some v1) (some v2) fun v3 =>
 k [v3] p
theorem o211 : FO EN 211 f211 := fe 1 tnil [] (by kernel_rfl) fun p s k => by kernel_rfl
def f182 : FT := fun p s k => hd s fun a0 s0 =>
 nl s0 <|
 ci f210 p [a0, q79] fun v1 p2 =>
 cn f212 p2 [a0] fun v3 p4 =>
 ci f211 p4 [v3] fun v5 p6 =>
 k [v5] p6
theorem o182 : FO EN 182 f182 := fe 1 (tc (ci_ok o210) (tc (cn_ok o212) (tc (ci_ok o211) tnil))) [] (by kernel_rfl) fun p s k => by kernel_rfl
def f181 : FT := fun p s k => hd s fun a0 s0 =>
 hd s0 fun a1 s1 =>
 hd s1 fun a2 s2 =>
 hd s2 fun a3 s3 =>
 hd s3 fun a4 s4 =>
 hd s4 fun a5 s5 =>
 hd s5 fun a6 s6 =>
 nl s6 <|
 kfa 1 a2 fun v7 =>
 kld (prt [] p) v7 fun v8 =>
 kld (prt [] p) a3 fun v9 =>
 kfa 0 a4 fun v10 =>
 kld (prt [] p) v10 fun v11 =>
 kfa 0 a5 fun v12 =>
 kld (prt [] p) v12 fun v13 =>
 kbd q30 [(0, 1, v11), (1, 1, v13)] fun v14 =>
 ksw mth (prt [] p) (.lookup ⟨true, [(0, .s), (1, .s)]⟩ q0 false (.c v9) (.c v14)) fun v15 p16 =>
 kld (prt [] p) a3 fun v17 =>
 kbd q30 [(0, 1, a0), (1, 1, a1)] fun v18 =>
 ksw mth (prt [] p) (.lookup ⟨true, [(0, .s), (1, .s)]⟩ q0 false (.c v17) (.c v18)) fun v19 p20 =>
 kfa 4 a6 fun v21 =>
 kld (prt [] p) v21 fun v22 =>
 kbd q78 [(0, 1, v15), (1, 1, v19), (2, 1, v22)] fun v23 =>
 kbs p 1 q78 [(0, 3, v23)] fun v24 p25 =>
 kap p25 3 24 v8 v24 fun v26 p27 =>
 kfa 1 a2 fun v28 =>
 kst p27 1 v28 v26 fun p29 =>
 k [] p29
theorem o181 : FO EN 181 f181 := fe 7 tnil [] (by kernel_rfl) fun p s k => by kernel_rfl
def t141 : List Ce := [⟨149, cc f149⟩, ⟨148, cc f148⟩, ⟨87, cc f87⟩, ⟨182, ci f182⟩, ⟨181, ci f181⟩]
def f141 : FT := fun p s k => hd s fun a0 s0 =>
 nl s0 <|
 kbx p 1 a0 fun v1 p2 =>
 kal p2 q80 fun v3 p4 =>
 kla p4 1 v1 fun v5 =>
 cc f149 p4 [v5] fun v6 p7 =>
 keq true .i v6 q0 fun v8 =>
 kif v8
 (kbd q80 [] fun v9 =>
 kst p7 2 v3 v9 fun p10 =>
 kra p10 2 v3 fun v11 =>
 k [v11, v6] p10)
 (ksw mth p7 (.mkmap) fun v12 p13 =>
 kal p13 q81 fun v14 p15 =>
 kst p15 1 v14 v12 fun p16 =>
 kfa 0 v1 fun v17 =>
 kld p16 v17 fun v18 =>
 kln v18 fun v19 =>
 jn 0 (fun j20 =>
 lp 1 fuel (fun r21 v22 p23 =>
 klt v22 v19 fun v24 =>
 kif v24
 (jn 0 (fun j25 =>
 kia 2 v18 v22 fun v26 =>
 kla p23 2 v26 fun v27 =>
 kal p23 q68 fun v28 p29 =>
 kst p29 2 v28 v27 fun p30 =>
 kfa 1 v28 fun v31 =>
 kld p30 v31 fun v32 =>
 kln v32 fun v33 =>
 jn 0 (fun j34 =>
 lp 1 fuel (fun r35 v36 p37 =>
 klt v36 v33 fun v38 =>
 kif v38
 (kia 6 v32 v36 fun v39 =>
 kla p37 6 v39 fun v40 =>
 kal p37 q69 fun v41 p42 =>
 kst p42 6 v41 v40 fun p43 =>
 kld p43 v14 fun v44 =>
 kfa 0 v28 fun v45 =>
 kld p43 v45 fun v46 =>
 kfa 0 v41 fun v47 =>
 kld p43 v47 fun v48 =>
 kbd q30 [(0, 1, v46), (1, 1, v48)] fun v49 =>
 kld p43 v14 fun v50 =>
 ksw mth p43 (.lenMap (.c v50)) fun v51 p52 =>
 ksw mth p52 (.mapUpdate ⟨true, [(0, .s), (1, .s)]⟩ (.c v44) (.c v49) (.c v51)) fun v53 p54 =>
 kad v36 q12 fun v55 =>
 r35 v55 p54)
 (j34 p37)) q0 p30) fun p56 =>
 j25 p56) fun p57 =>
 kad v22 q12 fun v58 =>
 r21 v58 p57)
 (j20 p23)) q0 p16) fun p59 =>
 kld p59 v14 fun v60 =>
 ksw mth p59 (.lenMap (.c v60)) fun v61 p62 =>
 kbd q80 [(0, 1, v61)] fun v63 =>
 kal p62 q80 fun v64 p65 =>
 kst p65 2 v64 v63 fun p66 =>
 kfa 0 v1 fun v67 =>
 kld p66 v67 fun v68 =>
 kln v68 fun v69 =>
 jn 0 (fun j70 =>
 lp 1 fuel (fun r71 v72 p73 =>
 klt v72 v69 fun v74 =>
 kif v74
 (jn 0 (fun j75 =>
 kia 2 v68 v72 fun v76 =>
 kla p73 2 v76 fun v77 =>
 kal p73 q68 fun v78 p79 =>
 kst p79 2 v78 v77 fun p80 =>
 kfa 1 v78 fun v81 =>
 kld p80 v81 fun v82 =>
 kln v82 fun v83 =>
 jn 0 (fun j84 =>
 lp 1 fuel (fun r85 v86 p87 =>
 klt v86 v83 fun v88 =>
 kif v88
 (jn 0 (fun j89 =>
 kia 6 v82 v86 fun v90 =>
 kla p87 6 v90 fun v91 =>
 kal p87 q69 fun v92 p93 =>
 kst p93 6 v92 v91 fun p94 =>
 kfa 2 v92 fun v95 =>
 kla p94 4 v95 fun v96 =>
 cc f148 p94 [v96] fun v97 p98 =>
 kex v97 0 fun v99 =>
 kex v97 1 fun v100 =>
 kln v99 fun v101 =>
 jn 0 (fun j102 =>
 lp 1 fuel (fun r103 v104 p105 =>
 klt v104 v101 fun v106 =>
 kif v106
 (jn 0 (fun j107 =>
 kia 5 v99 v104 fun v108 =>
 kla p105 5 v108 fun v109 =>
 kal p105 q65 fun v110 p111 =>
 kst p111 5 v110 v109 fun p112 =>
 kfa 0 v110 fun v113 =>
 kld p112 v113 fun v114 =>
 jn 0 (fun j115 =>
 keq false .i v114 q44 fun v116 =>
 jn 0 (fun j117 => kif v116
 (kfa 1 v92 fun v118 =>
 kld p112 v118 fun v119 =>
 kln v119 fun v120 =>
 jn 0 (fun j121 =>
 lp 1 fuel (fun r122 v123 p124 =>
 klt v123 v120 fun v125 =>
 kif v125
 (kia 2 v119 v123 fun v126 =>
 kla p124 2 v126 fun v127 =>
 kal p124 q30 fun v128 p129 =>
 kst p129 2 v128 v127 fun p130 =>
 kfa 1 v128 fun v131 =>
 kld p130 v131 fun v132 =>
 keq true .s v132 q31 fun v133 =>
 jn 0 (fun j134 => kif v133
 (kfa 0 v128 fun v135 =>
 kld p130 v135 fun v136 =>
 kfa 1 v128 fun v137 =>
 kld p130 v137 fun v138 =>
 kcv t141 p130 (.func (.func 181) [] [v64, v14, v78, v92, v110]) [v136, v138] fun v139 p140 =>
 j134 p140)
 (j134 p130)) fun p141 =>
 kad v123 q12 fun v142 =>
 r122 v142 p141)
 (j121 p124)) q0 p112) fun p143 =>
 j117 p143)
 (keq false .i v114 q43 fun v144 =>
 jn 0 (fun j145 => kif v144
 (kfa 0 v78 fun v146 =>
 kld p112 v146 fun v147 =>
 kfa 1 v110 fun v148 =>
 kld p112 v148 fun v149 =>
 kcv t141 p112 (.func (.func 181) [] [v64, v14, v78, v92, v110]) [v147, v149] fun v150 p151 =>
 j145 p151)
 (keq false .i v114 q45 fun v152 =>
 jn 0 (fun j153 => kif v152
 (kla p112 1 v1 fun v154 =>
 kfa 0 v78 fun v155 =>
 kld p112 v155 fun v156 =>
 kfa 1 v110 fun v157 =>
 kld p112 v157 fun v158 =>
 kfa 2 v110 fun v159 =>
 kld p112 v159 fun v160 =>
 cc f87 p112 [v154, v156, v158, v160] fun v161 p162 =>
 kex v161 0 fun v163 =>
 kex v161 1 fun v164 =>
 kln v163 fun v165 =>
 jn 0 (fun j166 =>
 lp 1 fuel (fun r167 v168 p169 =>
 klt v168 v165 fun v170 =>
 kif v170
 (kia 1 v163 v168 fun v171 =>
 kld p169 v171 fun v172 =>
 kfa 2 v110 fun v173 =>
 kld p169 v173 fun v174 =>
 kcv t141 p169 (.func (.func 181) [] [v64, v14, v78, v92, v110]) [v172, v174] fun v175 p176 =>
 kad v168 q12 fun v177 =>
 r167 v177 p176)
 (j166 p169)) q0 p162) fun p178 =>
 j153 p178)
 (j153 p112)) fun p179 =>
 j145 p179)) fun p180 =>
 j117 p180)) fun p181 =>
 j115 p181) fun p182 =>
 j107 p182) fun p183 =>
 kad v104 q12 fun v184 =>
 r103 v184 p183)
 (j102 p105)) q0 p98) fun p185 =>
 j89 p185) fun p186 =>
 kad v86 q12 fun v187 =>
 r85 v187 p186)
 (j84 p87)) q0 p80) fun p188 =>
 j75 p188) fun p189 =>
 kad v72 q12 fun v190 =>
 r71 v190 p189)
 (j70 p73)) q0 p66) fun p191 =>
 kfa 1 v64 fun v192 =>
 kld p191 v192 fun v193 =>
 ci f182 p191 [v193] fun v194 p195 =>
 kfa 1 v64 fun v196 =>
 kst p195 1 v196 v194 fun p197 =>
 kla p197 2 v64 fun v198 =>
 kst p197 2 v3 v198 fun p199 =>
 kra p199 2 v3 fun v200 =>
 k [v200, q0] p199)
theorem o141 : FO EN 141 f141 := fe 1 (T := t141) (tc (cc_ok o149) (tc (cc_ok o148) (tc (cc_ok o87) (tc (ci_ok o182) (tc (ci_ok o181) tnil))))) [none, some [], some [36], none, some [], some [], some [43], none, none, some [], some [63], none, some [], some [], some [70], none, some [], some [], some [82], none, some [], some [], some [], some [], some [94], none, none, some [], some [], some [], some [], some [131], none, none] (by kernel_rfl) fun p s k => by kernel_rfl
def f213 : FT := fun p s k => hd s fun a0 s0 =>
 nl s0 <|
 kbx p 2 a0 fun v1 p2 =>
 kfa 0 v1 fun v3 =>
 kld p2 v3 fun v4 =>
 klt v4 q0 fun v5 =>
 jn 3 (fun j6 => gdK v5 false (kfa 0 v1 fun v7 =>
 kld p2 v7 fun v8 =>
 kgt v8 q82 fun v9 =>
 j6 v7 v8 v9 p2) (j6 .undef .undef .undef p2)) fun v10 v11 v12 p13 =>
 kpk v5 q21 v12 fun v14 =>
 kif v14
 (k [q17] p13)
 (kfa 1 v1 fun v15 =>
 kld p13 v15 fun v16 =>
 kln v16 fun v17 =>
 jn 0 (fun j18 =>
 lp 1 fuel (fun r19 v20 p21 =>
 klt v20 v17 fun v22 =>
 kif v22
 (kia 3 v16 v20 fun v23 =>
 kla p21 3 v23 fun v24 =>
 kal p21 q78 fun v25 p26 =>
 kst p26 3 v25 v24 fun p27 =>
 kfa 0 v25 fun v28 =>
 kld p27 v28 fun v29 =>
 kfa 1 v25 fun v30 =>
 kld p27 v30 fun v31 =>
 ksw mth p27 (.minmax false [(.c v29), (.c v31)]) fun v32 p33 =>
 klt v32 q0 fun v34 =>
 jn 8 (fun j35 => gdK v34 false (kfa 0 v25 fun v36 =>
 kld p33 v36 fun v37 =>
 kfa 1 v25 fun v38 =>
 kld p33 v38 fun v39 =>
 ksw mth p33 (.minmax true [(.c v37), (.c v39)]) fun v40 p41 =>
 kfa 0 v1 fun v42 =>
 kld p41 v42 fun v43 =>
 kge v40 v43 fun v44 =>
 j35 v36 v37 v38 v39 v40 v42 v43 v44 p41) (j35 .undef .undef .undef .undef .undef .undef .undef .undef p33)) fun v45 v46 v47 v48 v49 v50 v51 v52 p53 =>
 kpk v34 q21 v52 fun v54 =>
 kif v54
 (k [q15] p53)
 (kgt v20 q0 fun v55 =>
 jn 9 (fun j56 => gdK v55 true (kfa 1 v1 fun v57 =>
 kld (prt [] p53) v57 fun v58 =>
 ksb v20 q12 fun v59 =>
 kia 3 v58 v59 fun v60 =>
 kla (prt [] p53) 3 v60 fun v61 =>
 kla (prt [] p53) 3 v25 fun v62 =>
 cn f209 p53 [v61, v62] fun v63 p64 =>
 kge v63 q0 fun v65 =>
 j56 v57 v58 v20 v59 v60 v61 v62 v63 v65 p64) (j56 .undef .undef .undef .undef .undef .undef .undef .undef .undef p53)) fun v66 v67 v68 v69 v70 v71 v72 v73 v74 p75 =>
 kpk v55 v74 q11 fun v76 =>
 kif v76
 (k [q83] p75)
 (kad v20 q12 fun v77 =>
 r19 v77 p75)))
 (j18 p21)) q0 p13) fun p78 =>
 k [q0] p78)
theorem o213 : FO EN 213 f213 := fe 1 (tc (cn_ok o209) tnil) [none, some [], some [16], none, none, none, none, none] (by kernel_rfl) fun p s k => by kernel_rfl
def f266 : FT := fun p s k => hd s fun a0 s0 =>
 hd s0 fun a1 s1 =>
 nl s1 <|
 knc mth a0 fun v2 =>
 kfa 1025 v2 fun v3 =>
 kld p v3 fun v4 =>
 kad v4 q12 fun v5 =>
 knc mth a0 fun v6 =>
 kfa 1025 v6 fun v7 =>
 kst p 1 v7 v5 fun p8 =>
 knc mth a0 fun v9 =>
 kfa 1025 v9 fun v10 =>
 kld (prt [] p8) v10 fun v11 =>
 knc mth a0 fun v12 =>
 kfa 1025 v12 fun v13 =>
 kld (prt [] p8) v13 fun v14 =>
 knc mth a0 fun v15 =>
 kfa 256 v15 fun v16 =>
 kib 256 1 v16 a1 fun v17 =>
 kst p8 1 v17 v11 fun p18 =>
 knc mth a0 fun v19 =>
 kfa 512 v19 fun v20 =>
 kib 256 1 v20 a1 fun v21 =>
 kst p18 1 v21 v14 fun p22 =>
 knc mth a0 fun v23 =>
 kfa 768 v23 fun v24 =>
 kib 256 1 v24 a1 fun v25 =>
 kst p22 1 v25 q21 fun p26 =>
 knc mth a0 fun v27 =>
 kfa 1024 v27 fun v28 =>
 kld p26 v28 fun v29 =>
 kbs p26 1 q14 [(0, 1, a1)] fun v30 p31 =>
 kap p31 1 8 v29 v30 fun v32 p33 =>
 knc mth a0 fun v34 =>
 kfa 1024 v34 fun v35 =>
 kst p33 1 v35 v32 fun p36 =>
 k [] p36
theorem o266 : FO EN 266 f266 := fe 2 tnil [] (by kernel_rfl) fun p s k => by kernel_rfl
def f294 : FT := fun p s k => hd s fun a0 s0 =>
 hd s0 fun a1 s1 =>
 nl s1 <|
 kln a0 fun v2 =>
 jn 0 (fun j3 =>
 lp 1 fuel (fun r4 v5 p6 =>
 klt v5 v2 fun v7 =>
 kif v7
 (kia 1 a0 v5 fun v8 =>
 kld p6 v8 fun v9 =>
 keq false .i a1 v9 fun v10 =>
 kif v10
 (k [v5] p6)
 (kad v5 q12 fun v11 =>
 r4 v11 p6))
 (j3 p6)) q0 p) fun p12 =>
 k [q34] p12
theorem o294 : FO EN 294 f294 := fe 2 tnil [some [], some [8], none, none, none] (by kernel_rfl) fun p s k => by kernel_rfl
def f296 : FT := fun p s k => hd s fun a0 s0 =>
 nl s0 <|
 kbx p 1 a0 fun v1 p2 =>
 k [(.func (.func 311) [] [v1])] p2
theorem o296 : FO EN 296 f296 := fe 1 tnil [] (by kernel_rfl) fun p s k => by kernel_rfl
def tr315002 : List Ce := []
def fr315002 : FT := fun p s k => hd s fun pj s => ptrK pj (fun j _ => hd s fun tv fr => tupK tv fun vals => ifB (Nat.beq (lenF fr) 13) (ifB (Nat.ble p.floor j) (isR0 p j (
 hdK (drK 2 fr) fun x0 =>
 hd vals fun a1 s0 =>
 nl s0 <|
 isR0 p j (putK p j (some (.rnd (nat_lit 1))) fun p2 =>
 kld p2 x0 fun v3 =>
 kbs p2 1 q14 [(0, 1, a1)] fun v4 p5 =>
 kap p5 1 8 v3 v4 fun v6 p7 =>
 kst p7 1 x0 v6 fun p8 =>
 rndK p8 j fun _ => putK p8 j (some (.rnd (nat_lit 0))) fun p9 => k [.bool true] p9))))) n2
theorem or315002 : FO EN 1315002 fr315002 := re (r := 315002) (N := 13) (L := [2]) (T := tr315002) tnil [] [none] (by kernel_rfl) fun p s k => by kernel_rfl
def t311 : List Ce := [⟨1315002, ci fr315002⟩]
def f311 : FT := fun p s k => hd s fun a0 s0 =>
 hd s0 fun a1 s1 =>
 nl s1 <|
 kld p a1 fun v2 =>
 kln v2 fun v3 =>
 jn 0 (fun j4 =>
 lp 1 fuel (fun r5 v6 p7 =>
 klt v6 v3 fun v8 =>
 kif v8
 (kia 1 v2 v6 fun v9 =>
 kld p7 v9 fun v10 =>
 kcv t311 p7 a0 [v10] fun v11 p12 =>
 knt v11 fun v13 =>
 kif v13
 (k [] p12)
 (kad v6 q12 fun v14 =>
 r5 v14 p12))
 (j4 p7)) q0 p) fun p15 =>
 k [] p15
theorem o311 : FO EN 311 f311 := fe 2 (T := t311) (tc (ci_ok or315002) tnil) [some [], some [7], none, none, none] (by kernel_rfl) fun p s k => by kernel_rfl
def t315 : List Ce := [⟨311, ci f311⟩]
def f315 : FT := fun p s k => hd s fun a0 s0 =>
 hd s0 fun a1 s1 =>
 nl s1 <|
 kbx p 1 a0 fun v2 p3 =>
 krg t315 p3 315002 a1 (V.mk 13 [(2, v2)]) (fun p4 =>
 kld p4 v2 fun v6 =>
 k [v6] p4) (fun p5 =>
 k [.nils] p5) []
theorem o315 : FO EN 315 f315 := fe 2 (T := t315) (tc (ci_ok o311) tnil) [none, some [2], some []] (by kernel_rfl) fun p s k => by kernel_rfl
def f310 : FT := fun p s k => hd s fun a0 s0 =>
 nl s0 <|
 cn f315 p [.nils, a0] fun v1 p2 =>
 k [v1] p2
theorem o310 : FO EN 310 f310 := fe 1 (tc (cn_ok o315) tnil) [] (by kernel_rfl) fun p s k => by kernel_rfl
def f268 : FT := fun p s k => hd s fun a0 s0 =>
 hd s0 fun a1 s1 =>
 hd s1 fun a2 s2 =>
 nl s2 <|
 kad a1 q12 fun v3 =>
 jn 0 (fun j4 =>
 lp 1 fuel (fun r5 v6 p7 =>
 klt v6 a2 fun v8 =>
 kif v8
 (jn 0 (fun j9 =>
 jn 0 (fun j10 =>
 lp 1 fuel (fun r11 v12 p13 =>
 kgt v12 a1 fun v14 =>
 jn 10 (fun j15 => gdK v14 true (kia 1 a0 v12 fun v16 =>
 kld (prt [] p13) v16 fun v17 =>
 ksb v12 q12 fun v18 =>
 kia 1 a0 v18 fun v19 =>
 kld (prt [] p13) v19 fun v20 =>
 .no) (j15 .undef .undef .undef .undef .undef .undef .undef .undef .undef .undef p13)) fun v21 v22 v23 v24 v25 v26 v27 v28 v29 v30 p31 =>
 kpk v14 v30 q11 fun v32 =>
 kif v32
 (ksb v12 q12 fun v33 =>
 ksb v12 q12 fun v34 =>
 kia 1 a0 v34 fun v35 =>
 kld (prt [] p31) v35 fun v36 =>
 kia 1 a0 v12 fun v37 =>
 kld (prt [] p31) v37 fun v38 =>
 kia 1 a0 v12 fun v39 =>
 kst p31 1 v39 v36 fun p40 =>
 kia 1 a0 v33 fun v41 =>
 kst p40 1 v41 v38 fun p42 =>
 ksb v12 q12 fun v43 =>
 r11 v43 p42)
 (j10 p31)) v6 p7) fun p44 =>
 j9 p44) fun p45 =>
 kad v6 q12 fun v46 =>
 r5 v46 p45)
 (j4 p7)) v3 p) fun p47 =>
 k [] p47
theorem o268 : FO EN 268 f268 := fe 3 tnil [some [], some [6], none, some [], some [], some [7], none, none] (by kernel_rfl) fun p s k => by kernel_rfl
def f243 : FT := fun p s k => hd s fun a0 s0 =>
 hd s0 fun a1 s1 =>
 hd s1 fun a2 s2 =>
 hd s2 fun a3 s3 =>
 nl s3 <|
 jn 0 (fun j4 =>
 lp 5 fuel (fun r5 v6 v7 v8 v9 v10 p11 =>
 jn 5 (fun j12 =>
 ksb v7 v6 fun v13 =>
 kle v13 q19 fun v14 =>
 kif v14
 (cn f268 p11 [a0, v6, v7] fun v15 p16 =>
 k [] p16)
 (keq false .i v8 q0 fun v17 =>
 kif v17
 (.no)
 (knt v9 fun v18 =>
 jn 1 (fun j19 => kif v18
 (.no)
 (j19 v8 p11)) fun v20 p21 =>
 .no))) fun v22 v23 v24 v25 v26 p27 =>
 r5 v22 v23 v24 v25 v26 p27) a1 a2 a3 q21 q21 p) fun p28 =>
 k [] p28
theorem o243 : FO EN 243 f243 := fe 4 (tc (cn_ok o268) tnil) [some [], some [1, 2, 3, 8, 9], some [1, 2, 3, 8, 9], none, none, some [3], some [11, 12], some [], none, none, some [1, 2, 8]] (by kernel_rfl) fun p s k => by kernel_rfl
def f216 : FT := fun p s k => hd s fun a0 s0 =>
 nl s0 <|
 kln a0 fun v1 =>
 kci .u64 v1 fun v2 =>
 cc f71 p [v2] fun v3 p4 =>
 cn f243 p4 [a0, q0, v1, v3] fun v5 p6 =>
 k [] p6
theorem o216 : FO EN 216 f216 := fe 1 (tc (cc_ok o71) (tc (cn_ok o243) tnil)) [] (by kernel_rfl) fun p s k => by kernel_rfl
def f295 : FT := fun p s k => hd s fun a0 s0 =>
 nl s0 <|
 cn f310 p [a0] fun v1 p2 =>
 cn f216 p2 [v1] fun v3 p4 =>
 k [v1] p4
theorem o295 : FO EN 295 f295 := fe 1 (tc (cn_ok o310) (tc (cn_ok o216) tnil)) [] (by kernel_rfl) fun p s k => by kernel_rfl
def f267 : FT := fun p s k => hd s fun a0 s0 =>
 hd s0 fun a1 s1 =>
 nl s1 <|
 knc mth a0 fun v2 =>
 kfa 512 v2 fun v3 =>
 kib 256 1 v3 a1 fun v4 =>
 kld (prt [] p) v4 fun v5 =>
 knc mth a0 fun v6 =>
 kfa 256 v6 fun v7 =>
 kib 256 1 v7 a1 fun v8 =>
 kld (prt [] p) v8 fun v9 =>
 klt v5 v9 fun v10 =>
 kif v10
 (k [] p)
 (knc mth a0 fun v11 =>
 kfa 1024 v11 fun v12 =>
 kld p v12 fun v13 =>
 cn f294 p [v13, a1] fun v14 p15 =>
 knc mth a0 fun v16 =>
 kfa 1024 v16 fun v17 =>
 kld p15 v17 fun v18 =>
 ksl 1 v18 (some v14) none none fun v19 =>
 ci f296 p15 [v19] fun v20 p21 =>
 cn f295 p21 [v20] fun v22 p23 =>
 kln v22 fun v24 =>
 jn 0 (fun j25 =>
 lp 1 fuel (fun r26 v27 p28 =>
 klt v27 v24 fun v29 =>
 kif v29
 (kia 1 v22 v27 fun v30 =>
 kld p28 v30 fun v31 =>
 knc mth a0 fun v32 =>
 kfa 768 v32 fun v33 =>
 kib 256 1 v33 v31 fun v34 =>
 kst p28 1 v34 q11 fun p35 =>
 kad v27 q12 fun v36 =>
 r26 v36 p35)
 (j25 p28)) q0 p23) fun p37 =>
 knc mth a0 fun v38 =>
 kfa 1024 v38 fun v39 =>
 kld p37 v39 fun v40 =>
 ksl 1 v40 none (some v14) none fun v41 =>
 knc mth a0 fun v42 =>
 kfa 1024 v42 fun v43 =>
 kst p37 1 v43 v41 fun p44 =>
 knc mth a0 fun v45 =>
 kfa 1026 v45 fun v46 =>
 kld p44 v46 fun v47 =>
 kbs p44 1 q66 [(0, 1, v22)] fun v48 p49 =>
 kap p49 1 24 v47 v48 fun v50 p51 =>
 knc mth a0 fun v52 =>
 kfa 1026 v52 fun v53 =>
 kst p51 1 v53 v50 fun p54 =>
 k [] p54)
theorem o267 : FO EN 267 f267 := fe 2 (tc (cn_ok o294) (tc (ci_ok o296) (tc (cn_ok o295) tnil))) [none, some [], some [37], none, none] (by kernel_rfl) fun p s k => by kernel_rfl
def f242 : FT := fun p s k => hd s fun a0 s0 =>
 hd s0 fun a1 s1 =>
 nl s1 <|
 ci f266 p [a0, a1] fun v2 p3 =>
 kbd q13 [(0, 1, a1), (1, 1, q0)] fun v4 =>
 kbs p3 1 q13 [(0, 2, v4)] fun v5 p6 =>
 jn 0 (fun j7 =>
 lp 1 fuel (fun r8 v9 p10 =>
 kln v9 fun v11 =>
 kgt v11 q0 fun v12 =>
 kif v12
 (jn 1 (fun j13 =>
 kln v9 fun v14 =>
 ksb v14 q12 fun v15 =>
 kia 2 v9 v15 fun v16 =>
 jn 1 (fun j17 =>
 lp 1 fuel (fun r18 v19 p20 =>
 knc mth v16 fun v21 =>
 kfa 1 v21 fun v22 =>
 kld (prt [] p20) v22 fun v23 =>
 knc mth v16 fun v24 =>
 kfa 0 v24 fun v25 =>
 kld (prt [] p20) v25 fun v26 =>
 knc mth a0 fun v27 =>
 kfa 0 v27 fun v28 =>
 kib 256 1 v28 v26 fun v29 =>
 kld (prt [] p20) v29 fun v30 =>
 kln v30 fun v31 =>
 klt v23 v31 fun v32 =>
 kif v32
 (knc mth v16 fun v33 =>
 kfa 0 v33 fun v34 =>
 kld (prt [] p20) v34 fun v35 =>
 knc mth a0 fun v36 =>
 kfa 0 v36 fun v37 =>
 kib 256 1 v37 v35 fun v38 =>
 kld (prt [] p20) v38 fun v39 =>
 knc mth v16 fun v40 =>
 kfa 1 v40 fun v41 =>
 kld (prt [] p20) v41 fun v42 =>
 kia 1 v39 v42 fun v43 =>
 kld p20 v43 fun v44 =>
 knc mth v16 fun v45 =>
 kfa 1 v45 fun v46 =>
 kld p20 v46 fun v47 =>
 kad v47 q12 fun v48 =>
 knc mth v16 fun v49 =>
 kfa 1 v49 fun v50 =>
 kst p20 1 v50 v48 fun p51 =>
 knc mth a0 fun v52 =>
 kfa 256 v52 fun v53 =>
 kib 256 1 v53 v44 fun v54 =>
 kld p51 v54 fun v55 =>
 keq false .i v55 q0 fun v56 =>
 kif v56
 (ci f266 p51 [a0, v44] fun v57 p58 =>
 kbd q13 [(0, 1, v44), (1, 1, q0)] fun v59 =>
 kbs p58 1 q13 [(0, 2, v59)] fun v60 p61 =>
 kap p61 2 16 v19 v60 fun v62 p63 =>
 j13 v62 p63)
 (knc mth a0 fun v64 =>
 kfa 768 v64 fun v65 =>
 kib 256 1 v65 v44 fun v66 =>
 kld p51 v66 fun v67 =>
 jn 0 (fun j68 => kif v67
 (knc mth v16 fun v69 =>
 kfa 0 v69 fun v70 =>
 kld (prt [] p51) v70 fun v71 =>
 knc mth v16 fun v72 =>
 kfa 0 v72 fun v73 =>
 kld (prt [] p51) v73 fun v74 =>
 knc mth a0 fun v75 =>
 kfa 512 v75 fun v76 =>
 kib 256 1 v76 v74 fun v77 =>
 kld (prt [] p51) v77 fun v78 =>
 knc mth a0 fun v79 =>
 kfa 256 v79 fun v80 =>
 kib 256 1 v80 v44 fun v81 =>
 kld (prt [] p51) v81 fun v82 =>
 ksw mth p51 (.minmax false [(.c v78), (.c v82)]) fun v83 p84 =>
 knc mth a0 fun v85 =>
 kfa 512 v85 fun v86 =>
 kib 256 1 v86 v71 fun v87 =>
 kst p51 1 v87 v83 fun p88 =>
 j68 p88)
 (j68 p51)) fun p89 =>
 r18 v19 p89))
 (j17 v19 p20)) v9 p10) fun v90 p91 =>
 knc mth v16 fun v92 =>
 kfa 0 v92 fun v93 =>
 kld p91 v93 fun v94 =>
 ci f267 p91 [a0, v94] fun v95 p96 =>
 kln v90 fun v97 =>
 ksb v97 q12 fun v98 =>
 ksl 2 v90 none (some v98) none fun v99 =>
 kln v99 fun v100 =>
 kgt v100 q0 fun v101 =>
 jn 0 (fun j102 => kif v101
 (kln v99 fun v103 =>
 ksb v103 q12 fun v104 =>
 kia 2 v99 v104 fun v105 =>
 kfa 0 v105 fun v106 =>
 kld p96 v106 fun v107 =>
 knc mth a0 fun v108 =>
 kfa 512 v108 fun v109 =>
 kib 256 1 v109 v107 fun v110 =>
 kld (prt [] p96) v110 fun v111 =>
 knc mth a0 fun v112 =>
 kfa 512 v112 fun v113 =>
 kib 256 1 v113 v94 fun v114 =>
 kld (prt [] p96) v114 fun v115 =>
 ksw mth p96 (.minmax false [(.c v111), (.c v115)]) fun v116 p117 =>
 knc mth a0 fun v118 =>
 kfa 512 v118 fun v119 =>
 kib 256 1 v119 v107 fun v120 =>
 kst p96 1 v120 v116 fun p121 =>
 j102 p121)
 (j102 p96)) fun p122 =>
 j13 v99 p122) fun v123 p124 =>
 r8 v123 p124)
 (j7 p10)) v5 p6) fun p125 =>
 k [] p125
theorem o242 : FO EN 242 f242 := fe 2 (tc (ci_ok o266) (tc (ci_ok o267) tnil)) [some [], some [4], none, some [4], some [4], some [4], none, none, none, some [], some []] (by kernel_rfl) fun p s k => by kernel_rfl
def f215 : FT := fun p s k => hd s fun a0 s0 =>
 nl s0 <|
 kbx p 2 a0 fun v1 p2 =>
 kal p2 q84 fun v3 p4 =>
 kfa 1 v1 fun v5 =>
 kld p4 v5 fun v6 =>
 kln v6 fun v7 =>
 jn 0 (fun j8 =>
 lp 1 fuel (fun r9 v10 p11 =>
 klt v10 v7 fun v12 =>
 kif v12
 (kia 3 v6 v10 fun v13 =>
 kla p11 3 v13 fun v14 =>
 kal p11 q78 fun v15 p16 =>
 kst p16 3 v15 v14 fun p17 =>
 kfa 0 v15 fun v18 =>
 kld (prt [] p17) v18 fun v19 =>
 kfa 0 v15 fun v20 =>
 kld (prt [] p17) v20 fun v21 =>
 kfa 0 v3 fun v22 =>
 kib 256 1 v22 v21 fun v23 =>
 kld (prt [] p17) v23 fun v24 =>
 kfa 1 v15 fun v25 =>
 kld (prt [] p17) v25 fun v26 =>
 kbs p17 1 q14 [(0, 1, v26)] fun v27 p28 =>
 kpa p28 [] [v18] 1 8 v24 v27 fun p30 v29 p31 =>
 kfa 0 v3 fun v32 =>
 kib 256 1 v32 v19 fun v33 =>
 kst p31 1 v33 v29 fun p34 =>
 kad v10 q12 fun v35 =>
 r9 v35 p34)
 (j8 p11)) q0 p4) fun p36 =>
 kfa 0 v1 fun v37 =>
 kld p36 v37 fun v38 =>
 jn 0 (fun j39 =>
 lp 1 fuel (fun r40 v41 p42 =>
 klt v41 v38 fun v43 =>
 kif v43
 (kfa 256 v3 fun v44 =>
 kib 256 1 v44 v41 fun v45 =>
 kld p42 v45 fun v46 =>
 keq false .i v46 q0 fun v47 =>
 jn 0 (fun j48 => kif v47
 (ci f242 p42 [v3, v41] fun v49 p50 =>
 j48 p50)
 (j48 p42)) fun p51 =>
 kad v41 q12 fun v52 =>
 r40 v52 p51)
 (j39 p42)) q0 p36) fun p53 =>
 kfa 1026 v3 fun v54 =>
 kld p53 v54 fun v55 =>
 k [v55] p53
theorem o215 : FO EN 215 f215 := fe 1 (tc (ci_ok o242) tnil) [some [], some [10], none, none, some [], some [30], none, none, some []] (by kernel_rfl) fun p s k => by kernel_rfl
def f240 : FT := fun p s k => hd s fun a0 s0 =>
 hd s0 fun a1 s1 =>
 nl s1 <|
 kia 1 a0 q0 fun v2 =>
 kld (prt [] p) v2 fun v3 =>
 kia 1 a1 q0 fun v4 =>
 kld (prt [] p) v4 fun v5 =>
 ksb v3 v5 fun v6 =>
 k [v6] p
theorem o240 : FO EN 240 f240 := fe 2 tnil [] (by kernel_rfl) fun p s k => by kernel_rfl
def t286 : List Ce := [⟨240, cn f240⟩]
def f286 : FT := fun p s k => hd s fun a0 s0 =>
 hd s0 fun a1 s1 =>
 hd s1 fun a2 s2 =>
 hd s2 fun a3 s3 =>
 nl s3 <|
 kad a1 q12 fun v4 =>
 jn 0 (fun j5 =>
 lp 1 fuel (fun r6 v7 p8 =>
 klt v7 a2 fun v9 =>
 kif v9
 (jn 0 (fun j10 =>
 jn 0 (fun j11 =>
 lp 1 fuel (fun r12 v13 p14 =>
 kgt v13 a1 fun v15 =>
 jn 12 (fun j16 => gdK v15 true (kia 1 a0 v13 fun v17 =>
 kld (prt [] p14) v17 fun v18 =>
 ksb v13 q12 fun v19 =>
 kia 1 a0 v19 fun v20 =>
 kld (prt [] p14) v20 fun v21 =>
 kcv t286 p14 a3 [v18, v21] fun v22 p23 =>
 klt v22 q0 fun v24 =>
 j16 a3 a0 v13 v17 v18 a0 v13 v19 v20 v21 v22 v24 p23) (j16 .undef .undef .undef .undef .undef .undef .undef .undef .undef .undef .undef .undef p14)) fun v25 v26 v27 v28 v29 v30 v31 v32 v33 v34 v35 v36 p37 =>
 kpk v15 v36 q11 fun v38 =>
 kif v38
 (ksb v13 q12 fun v39 =>
 ksb v13 q12 fun v40 =>
 kia 1 a0 v40 fun v41 =>
 kld (prt [] p37) v41 fun v42 =>
 kia 1 a0 v13 fun v43 =>
 kld (prt [] p37) v43 fun v44 =>
 kia 1 a0 v13 fun v45 =>
 kst p37 1 v45 v42 fun p46 =>
 kia 1 a0 v39 fun v47 =>
 kst p46 1 v47 v44 fun p48 =>
 ksb v13 q12 fun v49 =>
 r12 v49 p48)
 (j11 p37)) v7 p8) fun p50 =>
 j10 p50) fun p51 =>
 kad v7 q12 fun v52 =>
 r6 v52 p51)
 (j5 p8)) v4 p) fun p53 =>
 k [] p53
theorem o286 : FO EN 286 f286 := fe 4 (T := t286) (tc (cn_ok o240) tnil) [some [], some [8], none, some [], some [], some [9], none, none] (by kernel_rfl) fun p s k => by kernel_rfl
def f265 : FT := fun p s k => hd s fun a0 s0 =>
 hd s0 fun a1 s1 =>
 hd s1 fun a2 s2 =>
 hd s2 fun a3 s3 =>
 hd s3 fun a4 s4 =>
 nl s4 <|
 jn 0 (fun j5 =>
 lp 5 fuel (fun r6 v7 v8 v9 v10 v11 p12 =>
 jn 5 (fun j13 =>
 ksb v8 v7 fun v14 =>
 kle v14 q19 fun v15 =>
 kif v15
 (ci f286 p12 [a0, v7, v8, a4] fun v16 p17 =>
 k [] p17)
 (keq false .i v9 q0 fun v18 =>
 kif v18
 (.no)
 (knt v10 fun v19 =>
 jn 1 (fun j20 => kif v19
 (.no)
 (j20 v9 p12)) fun v21 p22 =>
 .no))) fun v23 v24 v25 v26 v27 p28 =>
 r6 v23 v24 v25 v26 v27 p28) a1 a2 a3 q21 q21 p) fun p29 =>
 k [] p29
theorem o265 : FO EN 265 f265 := fe 5 (tc (ci_ok o286) tnil) [some [], some [1, 2, 3, 10, 11], some [1, 2, 3, 10, 11], none, none, some [3], some [13, 14], some [], none, none, some [1, 2, 10]] (by kernel_rfl) fun p s k => by kernel_rfl
def f239 : FT := fun p s k => hd s fun a0 s0 =>
 hd s0 fun a1 s1 =>
 nl s1 <|
 kln a0 fun v2 =>
 kci .u64 v2 fun v3 =>
 cc f71 p [v3] fun v4 p5 =>
 ci f265 p5 [a0, q0, v2, v4, a1] fun v6 p7 =>
 k [] p7
theorem o239 : FO EN 239 f239 := fe 2 (tc (cc_ok o71) (tc (ci_ok o265) tnil)) [] (by kernel_rfl) fun p s k => by kernel_rfl
def f214 : FT := fun p s k => hd s fun a0 s0 =>
 hd s0 fun a1 s1 =>
 nl s1 <|
 kbx p 2 a0 fun v2 p3 =>
 kbx p3 1 a1 fun v4 p5 =>
 kld p5 v4 fun v6 =>
 ci f239 p5 [v6, q85] fun v7 p8 =>
 kfa 0 v2 fun v9 =>
 kld p8 v9 fun v10 =>
 kms p8 1 8 q14 v10 v10 fun v11 p12 =>
 kal p12 q66 fun v13 p14 =>
 kst p14 1 v13 v11 fun p15 =>
 kld p15 v4 fun v16 =>
 kln v16 fun v17 =>
 jn 0 (fun j18 =>
 lp 1 fuel (fun r19 v20 p21 =>
 klt v20 v17 fun v22 =>
 kif v22
 (jn 0 (fun j23 =>
 kia 1 v16 v20 fun v24 =>
 kld p21 v24 fun v25 =>
 kln v25 fun v26 =>
 jn 0 (fun j27 =>
 lp 1 fuel (fun r28 v29 p30 =>
 klt v29 v26 fun v31 =>
 kif v31
 (kia 1 v25 v29 fun v32 =>
 kld p30 v32 fun v33 =>
 kld p30 v13 fun v34 =>
 kia 1 v34 v33 fun v35 =>
 kst p30 1 v35 v20 fun p36 =>
 kad v29 q12 fun v37 =>
 r28 v37 p36)
 (j27 p30)) q0 p21) fun p38 =>
 j23 p38) fun p39 =>
 kad v20 q12 fun v40 =>
 r19 v40 p39)
 (j18 p21)) q0 p15) fun p41 =>
 k [(.func (.func 241) [] [v4, v2, v13])] p41
theorem o214 : FO EN 214 f214 := fe 2 (tc (ci_ok o239) tnil) [some [], some [17], none, some [], some [], some [24], none, none] (by kernel_rfl) fun p s k => by kernel_rfl
def f120 : FT := fun p s k => hd s fun a0 s0 =>
 nl s0 <|
 kln a0 fun v1 =>
 kln a0 fun v2 =>
 ksl 1 a0 none (some v1) (some v2) fun v3 =>
 k [v3] p
theorem o120 : FO EN 120 f120 := fe 1 tnil [] (by kernel_rfl) fun p s k => by kernel_rfl
def tr183008 : List Ce := [⟨67, ci f67⟩]
def fr183008 : FT := fun p s k => hd s fun pj s => ptrK pj (fun j _ => hd s fun tv fr => tupK tv fun vals => ifB (Nat.beq (lenF fr) 53) (ifB (Nat.ble p.floor j) (isR0 p j (
 hdK (drK 5 fr) fun x0 =>
 hd vals fun a1 s0 =>
 nl s0 <|
 isR0 p j (putK p j (some (.rnd (nat_lit 1))) fun p2 =>
 jn 0 (fun j3 =>
 kln a1 fun v4 =>
 jn 0 (fun j5 =>
 lp 1 fuel (fun r6 v7 p8 =>
 klt v7 v4 fun v9 =>
 kif v9
 (kia 1 a1 v7 fun v10 =>
 kld p8 v10 fun v11 =>
 kfa 1 x0 fun v12 =>
 kld p8 v12 fun v13 =>
 kfa 0 x0 fun v14 =>
 kld p8 v14 fun v15 =>
 kln v15 fun v16 =>
 kia 1 v13 v11 fun v17 =>
 kst p8 1 v17 v16 fun p18 =>
 kad v7 q12 fun v19 =>
 r6 v19 p18)
 (j5 p8)) q0 p2) fun p20 =>
 kfa 0 x0 fun v21 =>
 kld (prt [] p20) v21 fun v22 =>
 ci f67 (prt [] p20) [a1] fun v23 p24 =>
 unpK p20 p24 fun p25 =>
 kbs p25 1 q66 [(0, 1, v23)] fun v26 p27 =>
 kap p27 1 24 v22 v26 fun v28 p29 =>
 kfa 0 x0 fun v30 =>
 kst p29 1 v30 v28 fun p31 =>
 j3 p31) fun p32 =>
 rndK p32 j fun _ => putK p32 j (some (.rnd (nat_lit 0))) fun p33 => k [.bool true] p33))))) n2
theorem or183008 : FO EN 1183008 fr183008 := re (r := 183008) (N := 53) (L := [5]) (T := tr183008) (tc (ci_ok o67) tnil) [] [some [], some [], some [29], none, none] (by kernel_rfl) fun p s k => by kernel_rfl
def t241 : List Ce := [⟨1183008, ci fr183008⟩]
def f241 : FT := fun p s k => hd s fun a0 s0 =>
 hd s0 fun a1 s1 =>
 hd s1 fun a2 s2 =>
 hd s2 fun a3 s3 =>
 nl s3 <|
 kld p a1 fun v4 =>
 kln v4 fun v5 =>
 kms p 1 1 q75 v5 v5 fun v6 p7 =>
 kld p7 a1 fun v8 =>
 kln v8 fun v9 =>
 jn 0 (fun j10 =>
 lp 1 fuel (fun r11 v12 p13 =>
 klt v12 v9 fun v14 =>
 kif v14
 (jn 0 (fun j15 =>
 kld p13 a1 fun v16 =>
 kln v16 fun v17 =>
 kms p13 1 1 q75 v17 v17 fun v18 p19 =>
 kfa 1 a2 fun v20 =>
 kld p19 v20 fun v21 =>
 kln v21 fun v22 =>
 jn 0 (fun j23 =>
 lp 1 fuel (fun r24 v25 p26 =>
 klt v25 v22 fun v27 =>
 kif v27
 (kia 3 v21 v25 fun v28 =>
 kla p26 3 v28 fun v29 =>
 kal p26 q78 fun v30 p31 =>
 kst p31 3 v30 v29 fun p32 =>
 kld (prt [] p32) a3 fun v33 =>
 kfa 0 v30 fun v34 =>
 kld (prt [] p32) v34 fun v35 =>
 kia 1 v33 v35 fun v36 =>
 kld (prt [] p32) v36 fun v37 =>
 kld (prt [] p32) a3 fun v38 =>
 kfa 1 v30 fun v39 =>
 kld (prt [] p32) v39 fun v40 =>
 kia 1 v38 v40 fun v41 =>
 kld (prt [] p32) v41 fun v42 =>
 keq true .i v37 v42 fun v43 =>
 jn 5 (fun j44 => gdK v43 true (kia 1 v6 v42 fun v45 =>
 kld p32 v45 fun v46 =>
 knt v46 fun v47 =>
 j44 v6 v42 v45 v46 v47 p32) (j44 .undef .undef .undef .undef .undef p32)) fun v48 v49 v50 v51 v52 p53 =>
 kpk v43 v52 q11 fun v54 =>
 jn 0 (fun j55 => kif v54
 (kia 1 v18 v37 fun v56 =>
 kst p53 1 v56 q21 fun p57 =>
 j55 p57)
 (j55 p53)) fun p58 =>
 kad v25 q12 fun v59 =>
 r24 v59 p58)
 (j23 p26)) q0 p19) fun p60 =>
 kld p60 a1 fun v61 =>
 kln v61 fun v62 =>
 jn 0 (fun j63 =>
 lp 1 fuel (fun r64 v65 p66 =>
 klt v65 v62 fun v67 =>
 kif v67
 (kia 1 v6 v65 fun v68 =>
 kld p66 v68 fun v69 =>
 knt v69 fun v70 =>
 jn 5 (fun j71 => gdK v70 true (kia 1 v18 v65 fun v72 =>
 kld p66 v72 fun v73 =>
 knt v73 fun v74 =>
 j71 v18 v65 v72 v73 v74 p66) (j71 .undef .undef .undef .undef .undef p66)) fun v75 v76 v77 v78 v79 p80 =>
 kpk v70 v79 q11 fun v81 =>
 kif v81
 (kia 1 v6 v65 fun v82 =>
 kst p80 1 v82 q21 fun p83 =>
 kld p83 a1 fun v84 =>
 kia 1 v84 v65 fun v85 =>
 kld p83 v85 fun v86 =>
 kcv t241 p83 a0 [v86] fun v87 p88 =>
 knt v87 fun v89 =>
 kif v89
 (k [] p88)
 (j63 p88))
 (kad v65 q12 fun v90 =>
 r64 v90 p80))
 (j63 p66)) q0 p60) fun p91 =>
 j15 p91) fun p92 =>
 kad v12 q12 fun v93 =>
 r11 v93 p92)
 (j10 p13)) q0 p7) fun p94 =>
 k [] p94
theorem o241 : FO EN 241 f241 := fe 4 (T := t241) (tc (ci_ok or183008) tnil) [some [], some [17], none, some [], some [], some [25], none, none, some [], some [], some [55], none, none, none, none] (by kernel_rfl) fun p s k => by kernel_rfl
def t183 : List Ce := [⟨213, cn f213⟩, ⟨215, cn f215⟩, ⟨214, ci f214⟩, ⟨120, ci f120⟩, ⟨241, ci f241⟩]
def f183 : FT := fun p s k => hd s fun a0 s0 =>
 nl s0 <|
 kbx p 2 a0 fun v1 p2 =>
 kal p2 q86 fun v3 p4 =>
 kla p4 2 v1 fun v5 =>
 cn f213 p4 [v5] fun v6 p7 =>
 keq true .i v6 q0 fun v8 =>
 kif v8
 (kbd q86 [] fun v9 =>
 kst p7 2 v3 v9 fun p10 =>
 kra p10 2 v3 fun v11 =>
 k [v11, v6] p10)
 (kal p7 q86 fun v12 p13 =>
 kfa 0 v1 fun v14 =>
 kld p13 v14 fun v15 =>
 kgt v15 q0 fun v16 =>
 jn 0 (fun j17 => kif v16
 (kfa 0 v1 fun v18 =>
 kld p13 v18 fun v19 =>
 kms p13 1 8 q14 v19 v19 fun v20 p21 =>
 kfa 1 v12 fun v22 =>
 kst p21 1 v22 v20 fun p23 =>
 j17 p23)
 (j17 p13)) fun p24 =>
 kla (prt [] p24) 2 v1 fun v25 =>
 kla (prt [] p24) 2 v1 fun v26 =>
 cn f215 (prt [] p24) [v26] fun v27 p28 =>
 unpK p24 p28 fun p29 =>
 ci f214 p29 [v25, v27] fun v30 p31 =>
 krg t183 p31 183008 v30 (V.mk 53 [(5, v12)]) (fun p32 =>
 kfa 0 v12 fun v34 =>
 kld p32 v34 fun v35 =>
 ci f120 p32 [v35] fun v36 p37 =>
 kfa 0 v12 fun v38 =>
 kst p37 1 v38 v36 fun p39 =>
 kla p39 2 v12 fun v40 =>
 kst p39 2 v3 v40 fun p41 =>
 kra p41 2 v3 fun v42 =>
 k [v42, q0] p41) (fun p33 =>
 kra p33 2 v3 fun v43 =>
 k [v43, q0] p33) [])
theorem o183 : FO EN 183 f183 := fe 1 (T := t183) (tc (cn_ok o213) (tc (cn_ok o215) (tc (ci_ok o214) (tc (ci_ok o120) (tc (ci_ok o241) tnil))))) [none, some [], none, some [5], some []] (by kernel_rfl) fun p s k => by kernel_rfl
def f217 : FT := fun p s k => hd s fun a0 s0 =>
 nl s0 <|
 kln a0 fun v1 =>
 klt v1 q16 fun v2 =>
 kif v2
 (k [a0] p)
 (jn 0 (fun j3 =>
 lp 1 fuel (fun r4 v5 p6 =>
 kln a0 fun v7 =>
 klt v5 v7 fun v8 =>
 kif v8
 (jn 1 (fun j9 =>
 kia 1 a0 v5 fun v10 =>
 kld (prt [] p6) v10 fun v11 =>
 ksb v5 q12 fun v12 =>
 kia 1 a0 v12 fun v13 =>
 kld (prt [] p6) v13 fun v14 =>
 keq false .i v11 v14 fun v15 =>
 kif v15
 (ksl 1 a0 (some v5) none none fun v16 =>
 jn 1 (fun j17 =>
 lp 2 fuel (fun r18 v19 v20 p21 =>
 kln v16 fun v22 =>
 klt v20 v22 fun v23 =>
 kif v23
 (kia 1 v16 v20 fun v24 =>
 kld (prt [] p21) v24 fun v25 =>
 ksb v20 q12 fun v26 =>
 kia 1 v16 v26 fun v27 =>
 kld (prt [] p21) v27 fun v28 =>
 keq true .i v25 v28 fun v29 =>
 jn 1 (fun j30 => kif v29
 (kia 1 v16 v20 fun v31 =>
 kld p21 v31 fun v32 =>
 kia 1 a0 v19 fun v33 =>
 kst p21 1 v33 v32 fun p34 =>
 kad v19 q12 fun v35 =>
 j30 v35 p34)
 (j30 v19 p21)) fun v36 p37 =>
 kad v20 q12 fun v38 =>
 r18 v36 v38 p37)
 (j17 v19 p21)) v5 q12 p6) fun v39 p40 =>
 ksl 1 a0 (some v39) none none fun v41 =>
 ksw mth p40 (.clear q14 (.c v41)) fun v42 p43 =>
 ksl 1 a0 none (some v39) none fun v44 =>
 k [v44] p43)
 (j9 v5 p6)) fun v45 p46 =>
 kad v45 q12 fun v47 =>
 r4 v47 p46)
 (j3 p6)) q12 p) fun p48 =>
 k [a0] p48)
theorem o217 : FO EN 217 f217 := fe 1 tnil [none, some [], some [3], none, some [3], none, some [3], some [3, 5], none, none, some [3]] (by kernel_rfl) fun p s k => by kernel_rfl
def f184 : FT := fun p s k => hd s fun a0 s0 =>
 nl s0 <|
 kbx p 2 a0 fun v1 p2 =>
 kla p2 2 v1 fun v3 =>
 cc f183 p2 [v3] fun v4 p5 =>
 kex v4 0 fun v6 =>
 kex v4 1 fun v7 =>
 kal p5 q86 fun v8 p9 =>
 kst p9 2 v8 v6 fun p10 =>
 keq true .i v7 q0 fun v11 =>
 kif v11
 (k [.nils, v7] p10)
 (kfa 1 v1 fun v12 =>
 kld p10 v12 fun v13 =>
 kln v13 fun v14 =>
 jn 1 (fun j15 =>
 lp 2 fuel (fun r16 v17 v18 p19 =>
 klt v18 v14 fun v20 =>
 kif v20
 (kia 3 v13 v18 fun v21 =>
 kla p19 3 v21 fun v22 =>
 kal p19 q78 fun v23 p24 =>
 kst p24 3 v23 v22 fun p25 =>
 kfa 2 v23 fun v26 =>
 kld p25 v26 fun v27 =>
 jn 13 (fun j28 => gdK v27 true (kfa 1 v8 fun v29 =>
 kld (prt [] p25) v29 fun v30 =>
 kfa 0 v23 fun v31 =>
 kld (prt [] p25) v31 fun v32 =>
 kia 1 v30 v32 fun v33 =>
 kld (prt [] p25) v33 fun v34 =>
 kfa 1 v8 fun v35 =>
 kld (prt [] p25) v35 fun v36 =>
 kfa 1 v23 fun v37 =>
 kld (prt [] p25) v37 fun v38 =>
 kia 1 v36 v38 fun v39 =>
 kld (prt [] p25) v39 fun v40 =>
 keq false .i v34 v40 fun v41 =>
 j28 v29 v30 v31 v32 v33 v34 v35 v36 v37 v38 v39 v40 v41 p25) (j28 .undef .undef .undef .undef .undef .undef .undef .undef .undef .undef .undef .undef .undef p25)) fun v42 v43 v44 v45 v46 v47 v48 v49 v50 v51 v52 v53 v54 _ =>
 kpk v27 v54 q11 fun v56 =>
 jn 1 (fun j57 => kif v56
 (kfa 1 v8 fun v58 =>
 kld p25 v58 fun v59 =>
 kfa 0 v23 fun v60 =>
 kld p25 v60 fun v61 =>
 kia 1 v59 v61 fun v62 =>
 kld p25 v62 fun v63 =>
 kbs p25 1 q14 [(0, 1, v63)] fun v64 p65 =>
 kap p65 1 8 v17 v64 fun v66 p67 =>
 j57 v66 p67)
 (j57 v17 p25)) fun v68 p69 =>
 kad v18 q12 fun v70 =>
 r16 v68 v70 p69)
 (j15 v17 p19)) .nils q0 p10) fun v71 p72 =>
 cn f216 p72 [v71] fun v73 p74 =>
 cc f217 p74 [v71] fun v75 p76 =>
 ci f67 p76 [v75] fun v77 p78 =>
 k [v77, q0] p78)
theorem o184 : FO EN 184 f184 := fe 1 (tc (cc_ok o183) (tc (cn_ok o216) (tc (cc_ok o217) (tc (ci_ok o67) tnil)))) [none, some [6], some [6, 20], none, none, some [6]] (by kernel_rfl) fun p s k => by kernel_rfl
def f185 : FT := fun p s k => hd s fun a0 s0 =>
 nl s0 <|
 kbx p 3 a0 fun v1 p2 =>
 kfa 2 v1 fun v3 =>
 kld p2 v3 fun v4 =>
 kif v4
 (k [q12] p2)
 (k [q0] p2)
theorem o185 : FO EN 185 f185 := fe 1 tnil [none] (by kernel_rfl) fun p s k => by kernel_rfl
def f145 : FT := fun p s k => hd s fun a0 s0 =>
 nl s0 <|
 kln a0 fun v1 =>
 jn 1 (fun j2 =>
 lp 2 fuel (fun r3 v4 v5 p6 =>
 klt v5 v1 fun v7 =>
 kif v7
 (kia 1 a0 v5 fun v8 =>
 kld p6 v8 fun v9 =>
 ksw mth p6 (.minmax true [(.c v4), (.c v9)]) fun v10 p11 =>
 kad v5 q12 fun v12 =>
 r3 v10 v12 p11)
 (j2 v4 p6)) q0 q0 p) fun v13 p14 =>
 k [v13] p14
theorem o145 : FO EN 145 f145 := fe 1 tnil [some [3], some [3, 8], none, none] (by kernel_rfl) fun p s k => by kernel_rfl
def f142 : FT := fun p s k => hd s fun a0 s0 =>
 nl s0 <|
 kbx p 2 a0 fun v1 p2 =>
 kla p2 2 v1 fun v3 =>
 cc f183 p2 [v3] fun v4 p5 =>
 kex v4 0 fun v6 =>
 kex v4 1 fun v7 =>
 kal p5 q86 fun v8 p9 =>
 kst p9 2 v8 v6 fun p10 =>
 keq true .i v7 q0 fun v11 =>
 kif v11
 (k [.nils, v7] p10)
 (kla p10 2 v1 fun v12 =>
 cn f184 p10 [v12] fun v13 p14 =>
 kex v13 0 fun v15 =>
 kex v13 1 fun v16 =>
 kln v15 fun v17 =>
 kgt v17 q0 fun v18 =>
 kif v18
 (k [.nils, q19] p14)
 (kfa 0 v1 fun v19 =>
 kld p14 v19 fun v20 =>
 kgt v20 q0 fun v21 =>
 jn 1 (fun j22 => kif v21
 (kfa 0 v1 fun v23 =>
 kld p14 v23 fun v24 =>
 kms p14 1 8 q14 v24 v24 fun v25 p26 =>
 j22 v25 p26)
 (j22 .nils p14)) fun v27 p28 =>
 kfa 0 v8 fun v29 =>
 kld p28 v29 fun v30 =>
 kln v30 fun v31 =>
 jn 0 (fun j32 =>
 lp 1 fuel (fun r33 v34 p35 =>
 klt v34 v31 fun v36 =>
 kif v36
 (jn 0 (fun j37 =>
 kia 1 v30 v34 fun v38 =>
 kld p35 v38 fun v39 =>
 kfa 1 v1 fun v40 =>
 kld p35 v40 fun v41 =>
 kln v41 fun v42 =>
 jn 1 (fun j43 =>
 lp 2 fuel (fun r44 v45 v46 p47 =>
 klt v46 v42 fun v48 =>
 kif v48
 (kia 3 v41 v46 fun v49 =>
 kla p47 3 v49 fun v50 =>
 kal p47 q78 fun v51 p52 =>
 kst p52 3 v51 v50 fun p53 =>
 kfa 1 v8 fun v54 =>
 kld p53 v54 fun v55 =>
 kfa 0 v51 fun v56 =>
 kld p53 v56 fun v57 =>
 kia 1 v55 v57 fun v58 =>
 kld p53 v58 fun v59 =>
 keq false .i v59 v34 fun v60 =>
 jn 8 (fun j61 => gdK v60 true (kfa 1 v8 fun v62 =>
 kld p53 v62 fun v63 =>
 kfa 1 v51 fun v64 =>
 kld p53 v64 fun v65 =>
 kia 1 v63 v65 fun v66 =>
 kld p53 v66 fun v67 =>
 keq true .i v67 v34 fun v68 =>
 j61 v62 v63 v64 v65 v66 v67 v34 v68 p53) (j61 .undef .undef .undef .undef .undef .undef .undef .undef p53)) fun v69 v70 v71 v72 v73 v74 v75 v76 p77 =>
 kpk v60 v76 q11 fun v78 =>
 jn 1 (fun j79 => kif v78
 (kfa 1 v51 fun v80 =>
 kld (prt [] p77) v80 fun v81 =>
 kia 1 v27 v81 fun v82 =>
 kld (prt [] p77) v82 fun v83 =>
 kla (prt [] p77) 3 v51 fun v84 =>
 cn f185 (prt [] p77) [v84] fun v85 p86 =>
 unpK p77 p86 fun p87 =>
 kad v83 v85 fun v88 =>
 kbs p87 1 q14 [(0, 1, v88)] fun v89 p90 =>
 kap p90 1 8 v45 v89 fun v91 p92 =>
 j79 v91 p92)
 (j79 v45 p77)) fun v93 p94 =>
 kad v46 q12 fun v95 =>
 r44 v93 v95 p94)
 (j43 v45 p47)) .nils q0 p35) fun v96 p97 =>
 kln v39 fun v98 =>
 jn 0 (fun j99 =>
 lp 1 fuel (fun r100 v101 p102 =>
 klt v101 v98 fun v103 =>
 kif v103
 (kia 1 v39 v101 fun v104 =>
 kld p102 v104 fun v105 =>
 cc f145 p102 [v96] fun v106 p107 =>
 kia 1 v27 v105 fun v108 =>
 kst p107 1 v108 v106 fun p109 =>
 kad v101 q12 fun v110 =>
 r100 v110 p109)
 (j99 p102)) q0 p97) fun p111 =>
 j37 p111) fun p112 =>
 kad v34 q12 fun v113 =>
 r33 v113 p112)
 (j32 p35)) q0 p28) fun p114 =>
 k [v27, q0] p114))
theorem o142 : FO EN 142 f142 := fe 1 (tc (cc_ok o183) (tc (cn_ok o184) (tc (cn_ok o185) (tc (cc_ok o145) tnil)))) [none, none, some [8], some [], some [41], none, some [], some [11], some [11, 49], none, none, some [11], some [], some [85], none, none] (by kernel_rfl) fun p s k => by kernel_rfl
end
end Go.V
end

section
set_option maxRecDepth 100000
set_option linter.unusedVariables false
namespace Go.V
noncomputable section
def f143 : FT := fun p s k => hd s fun a0 s0 =>
 hd s0 fun a1 s1 =>
 nl s1 <|
 kbx p 1 a0 fun v2 p3 =>
 kla p3 1 v2 fun v4 =>
 cc f149 p3 [v4] fun v5 p6 =>
 keq true .i v5 q0 fun v7 =>
 kif v7
 (k [q31, q31, v5] p6)
 (kla p6 1 v2 fun v8 =>
 cc f150 p6 [v8] fun v9 p10 =>
 klt a1 q0 fun v11 =>
 jn 7 (fun j12 => gdK v11 false (knc mth v9 fun v13 =>
 kfa 3 v13 fun v14 =>
 kld p10 v14 fun v15 =>
 kln v15 fun v16 =>
 kge a1 v16 fun v17 =>
 j12 a1 v9 v13 v14 v15 v16 v17 p10) (j12 .undef .undef .undef .undef .undef .undef .undef p10)) fun v18 v19 v20 v21 v22 v23 v24 p25 =>
 kpk v11 q21 v24 fun v26 =>
 kif v26
 (k [q31, q31, q15] p25)
 (knc mth v9 fun v27 =>
 kfa 4 v27 fun v28 =>
 kld (prt [] p25) v28 fun v29 =>
 kia 1 v29 a1 fun v30 =>
 kld (prt [] p25) v30 fun v31 =>
 knc mth v9 fun v32 =>
 kfa 3 v32 fun v33 =>
 kld (prt [] p25) v33 fun v34 =>
 kia 1 v34 a1 fun v35 =>
 kld (prt [] p25) v35 fun v36 =>
 knc mth v36 fun v37 =>
 kfa 0 v37 fun v38 =>
 kld (prt [] p25) v38 fun v39 =>
 k [v31, v39, q0] p25))
theorem o143 : FO EN 143 f143 := fe 2 (tc (cc_ok o149) (tc (cc_ok o150) tnil)) [none, none] (by kernel_rfl) fun p s k => by kernel_rfl
def f144 : FT := fun p s k => hd s fun a0 s0 =>
 hd s0 fun a1 s1 =>
 nl s1 <|
 knc mth a0 fun v2 =>
 kfa 2 v2 fun v3 =>
 kst p 1 v3 a1 fun p4 =>
 k [] p4
theorem o144 : FO EN 144 f144 := fe 2 tnil [] (by kernel_rfl) fun p s k => by kernel_rfl
def f80 : FT := fun p s k => hd s fun a0 s0 =>
 nl s0 <|
 kbx p 1 a0 fun v1 p2 =>
 kal p2 q66 fun v3 p4 =>
 kla p4 1 v1 fun v5 =>
 cc f141 p4 [v5] fun v6 p7 =>
 kex v6 0 fun v8 =>
 kex v6 1 fun v9 =>
 kal p7 q80 fun v10 p11 =>
 kst p11 2 v10 v8 fun p12 =>
 keq true .i v9 q0 fun v13 =>
 kif v13
 (kbd q66 [] fun v14 =>
 kst p12 1 v3 v14 fun p15 =>
 kra p15 1 v3 fun v16 =>
 k [v16, v9] p15)
 (kla p12 2 v10 fun v17 =>
 cc f142 p12 [v17] fun v18 p19 =>
 kex v18 0 fun v20 =>
 kex v18 1 fun v21 =>
 keq true .i v21 q0 fun v22 =>
 kif v22
 (kbd q66 [] fun v23 =>
 kst p19 1 v3 v23 fun p24 =>
 kra p24 1 v3 fun v25 =>
 k [v25, v21] p24)
 (kln v20 fun v26 =>
 kms p19 3 40 q87 v26 v26 fun v27 p28 =>
 kbd q66 [(0, 1, v27)] fun v29 =>
 kal p28 q66 fun v30 p31 =>
 kst p31 1 v30 v29 fun p32 =>
 kfa 0 v30 fun v33 =>
 kld p32 v33 fun v34 =>
 kln v34 fun v35 =>
 jn 0 (fun j36 =>
 lp 1 fuel (fun r37 v38 p39 =>
 klt v38 v35 fun v40 =>
 kif v40
 (kfa 0 v30 fun v41 =>
 kld (prt [] p39) v41 fun v42 =>
 kfa 0 v30 fun v43 =>
 kld (prt [] p39) v43 fun v44 =>
 kla (prt [] p39) 1 v1 fun v45 =>
 cn f143 (prt [] p39) [v45, v38] fun v46 p47 =>
 unpK p39 p47 fun p48 =>
 kex v46 0 fun v49 =>
 kex v46 1 fun v50 =>
 kex v46 2 fun v51 =>
 kia 3 v42 v38 fun v52 =>
 kfa 0 v52 fun v53 =>
 kps p48 [] [v43] 1 v53 v49 fun b54 p55 =>
 kia 3 v44 v38 fun v56 =>
 kfa 1 v56 fun v57 =>
 kst p55 1 v57 v50 fun p58 =>
 kfa 0 v30 fun v59 =>
 kld (prt [] p58) v59 fun v60 =>
 kia 3 v60 v38 fun v61 =>
 kia 1 v20 v38 fun v62 =>
 kld (prt [] p58) v62 fun v63 =>
 ci f144 p58 [v61, v63] fun v64 p65 =>
 kad v38 q12 fun v66 =>
 r37 v66 p65)
 (j36 p39)) q0 p32) fun p67 =>
 kla p67 1 v30 fun v68 =>
 kst p67 1 v3 v68 fun p69 =>
 kra p69 1 v3 fun v70 =>
 k [v70, q0] p69))
theorem o80 : FO EN 80 f80 := fe 1 (tc (cc_ok o141) (tc (cc_ok o142) (tc (cn_ok o143) (tc (ci_ok o144) tnil)))) [none, none, some [], some [34], none, none] (by kernel_rfl) fun p s k => by kernel_rfl
def f81 : FT := fun p s k => hd s fun a0 s0 =>
 nl s0 <|
 kbx p 1 a0 fun v1 p2 =>
 kfa 0 v1 fun v3 =>
 kld p2 v3 fun v4 =>
 kln v4 fun v5 =>
 jn 1 (fun j6 =>
 lp 2 fuel (fun r7 v8 v9 p10 =>
 klt v9 v5 fun v11 =>
 kif v11
 (kia 3 v4 v9 fun v12 =>
 kla p10 3 v12 fun v13 =>
 kal p10 q87 fun v14 p15 =>
 kst p15 3 v14 v13 fun p16 =>
 kfa 2 v14 fun v17 =>
 kld p16 v17 fun v18 =>
 kad v18 q12 fun v19 =>
 kbs p16 2 q13 [(0, 1, v8), (1, 1, v19)] fun v20 p21 =>
 cc f145 p21 [v20] fun v22 p23 =>
 kad v9 q12 fun v24 =>
 r7 v22 v24 p23)
 (j6 v8 p10)) q0 q0 p2) fun v25 p26 =>
 k [v25] p26
theorem o81 : FO EN 81 f81 := fe 1 (tc (cc_ok o145) tnil) [some [3], some [3, 9], none, none] (by kernel_rfl) fun p s k => by kernel_rfl
def f187 : FT := fun p s k => hd s fun a0 s0 =>
 nl s0 <|
 kln a0 fun v1 =>
 kln a0 fun v2 =>
 ksl 4 a0 none (some v1) (some v2) fun v3 =>
 k [v3] p
theorem o187 : FO EN 187 f187 := fe 1 tnil [] (by kernel_rfl) fun p s k => by kernel_rfl
def g147 : FT → FT := fun self => fun p s k => hd s fun a0 s0 =>
 nl s0 <|
 kbx p 4 a0 fun v1 p2 =>
 kal p2 q88 fun v3 p4 =>
 kfa 3 v1 fun v5 =>
 kld p4 v5 fun v6 =>
 kln v6 fun v7 =>
 jn 1 (fun j8 =>
 lp 2 fuel (fun r9 v10 v11 p12 =>
 klt v11 v7 fun v13 =>
 kif v13
 (kia 4 v6 v11 fun v14 =>
 kla p12 4 v14 fun v15 =>
 kal p12 q88 fun v16 p17 =>
 kst p17 4 v16 v15 fun p18 =>
 kla p18 4 v16 fun v19 =>
 cn self p18 [v19] fun v20 p21 =>
 kst p21 4 v16 v20 fun p22 =>
 kfa 0 v16 fun v23 =>
 kld p22 v23 fun v24 =>
 kfa 0 v1 fun v25 =>
 kld p22 v25 fun v26 =>
 keq false .i v24 v26 fun v27 =>
 jn 3 (fun j28 => gdK v27 true (kfa 0 v1 fun v29 =>
 kld p22 v29 fun v30 =>
 keq true .i v30 q64 fun v31 =>
 j28 v29 v30 v31 p22) (j28 .undef .undef .undef p22)) fun v32 v33 v34 p35 =>
 kpk v27 v34 q11 fun v36 =>
 jn 1 (fun j37 => kif v36
 (kfa 3 v16 fun v38 =>
 kld p35 v38 fun v39 =>
 kap p35 4 64 v10 v39 fun v40 p41 =>
 j37 v40 p41)
 (kla p35 4 v16 fun v42 =>
 kbs p35 1 q88 [(0, 4, v42)] fun v43 p44 =>
 kap p44 4 64 v10 v43 fun v45 p46 =>
 j37 v45 p46)) fun v47 p48 =>
 kad v11 q12 fun v49 =>
 r9 v47 v49 p48)
 (j8 v10 p12)) .nils q0 p4) fun v50 p51 =>
 ci f187 p51 [v50] fun v52 p53 =>
 kfa 3 v1 fun v54 =>
 kst p53 1 v54 v52 fun p55 =>
 kla p55 4 v1 fun v56 =>
 kst p55 4 v3 v56 fun p57 =>
 kra p57 4 v3 fun v58 =>
 k [v58] p57
def f147 : FT := rcF depth g147
theorem o147 : FO EN 147 f147 := FO.rc (fun self h => fe 1 (tc (cn_ok h) (tc (ci_ok o187) tnil)) [some [3], some [3, 9], none, none, some [3]] (by kernel_rfl) fun p s k => by kernel_rfl) depth
def f82 : FT := fun p s k => hd s fun a0 s0 =>
 nl s0 <|
 kbx p 4 a0 fun v1 p2 =>
 kal p2 q88 fun v3 p4 =>
 kla p4 4 v1 fun v5 =>
 cc f146 p4 [v5] fun v6 p7 =>
 keq true .i v6 q0 fun v8 =>
 kif v8
 (kbd q88 [] fun v9 =>
 kst p7 4 v3 v9 fun p10 =>
 kra p10 4 v3 fun v11 =>
 k [v11, v6] p10)
 (kla p7 4 v1 fun v12 =>
 cn f147 p7 [v12] fun v13 p14 =>
 kst p14 4 v3 v13 fun p15 =>
 kra p15 4 v3 fun v16 =>
 k [v16, q0] p15)
theorem o82 : FO EN 82 f82 := fe 1 (tc (cc_ok o146) (tc (cn_ok o147) tnil)) [none] (by kernel_rfl) fun p s k => by kernel_rfl
def f83 : FT := fun p s k => hd s fun a0 s0 =>
 hd s0 fun a1 s1 =>
 hd s1 fun a2 s2 =>
 nl s2 <|
 kbx p 1 a0 fun v3 p4 =>
 kfa 0 v3 fun v5 =>
 kld p4 v5 fun v6 =>
 kln v6 fun v7 =>
 jn 0 (fun j8 =>
 lp 1 fuel (fun r9 v10 p11 =>
 klt v10 v7 fun v12 =>
 kif v12
 (kia 3 v6 v10 fun v13 =>
 kla p11 3 v13 fun v14 =>
 kal p11 q87 fun v15 p16 =>
 kst p16 3 v15 v14 fun p17 =>
 kfa 0 v15 fun v18 =>
 kld p17 v18 fun v19 =>
 keq false .s v19 a1 fun v20 =>
 jn 4 (fun j21 => gdK v20 true (kfa 1 v15 fun v22 =>
 kld p17 v22 fun v23 =>
 keq false .s v23 a2 fun v24 =>
 j21 v22 v23 a2 v24 p17) (j21 .undef .undef .undef .undef p17)) fun v25 v26 v27 v28 p29 =>
 kpk v20 v28 q11 fun v30 =>
 kif v30
 (kfa 2 v15 fun v31 =>
 kld p29 v31 fun v32 =>
 k [v32, q0] p29)
 (kad v10 q12 fun v33 =>
 r9 v33 p29))
 (j8 p11)) q0 p4) fun p34 =>
 k [q0, q24] p34
theorem o83 : FO EN 83 f83 := fe 3 tnil [some [], some [13], none, none, none] (by kernel_rfl) fun p s k => by kernel_rfl
def f84 : FT := fun p s k => hd s fun a0 s0 =>
 nl s0 <|
 ken false .s a0 .nils fun v1 =>
 kif v1
 (k [.nils] p)
 (kbs p 0 [] [] fun v2 p3 =>
 kap p3 2 32 v2 a0 fun v4 p5 =>
 k [v4] p5)
theorem o84 : FO EN 84 f84 := fe 1 tnil [none] (by kernel_rfl) fun p s k => by kernel_rfl
def f86 : FT := fun p s k => hd s fun a0 s0 =>
 hd s0 fun a1 s1 =>
 hd s1 fun a2 s2 =>
 hd s2 fun a3 s3 =>
 nl s3 <|
 kla p 1 a2 fun v4 =>
 kfa 0 a3 fun v5 =>
 kld p v5 fun v6 =>
 cc f87 p [v4, v6, a0, a1] fun v7 p8 =>
 kex v7 0 fun v9 =>
 kex v7 1 fun v10 =>
 k [v9] p8
theorem o86 : FO EN 86 f86 := fe 4 (tc (cc_ok o87) tnil) [] (by kernel_rfl) fun p s k => by kernel_rfl
def t85 : List Ce := [⟨148, cc f148⟩, ⟨86, ci f86⟩]
def f85 : FT := fun p s k => hd s fun a0 s0 =>
 hd s0 fun a1 s1 =>
 nl s1 <|
 kbx p 4 a0 fun v2 p3 =>
 kla p3 4 v2 fun v4 =>
 cc f148 p3 [v4] fun v5 p6 =>
 kex v5 0 fun v7 =>
 kex v5 1 fun v8 =>
 kln v7 fun v9 =>
 kms p6 6 96 q89 v9 v9 fun v10 p11 =>
 kln v7 fun v12 =>
 jn 0 (fun j13 =>
 lp 2 fuel (fun r14 v15 v16 p17 =>
 klt v16 v12 fun v18 =>
 kif v18
 (kia 5 v7 v16 fun v19 =>
 kla p17 5 v19 fun v20 =>
 kal p17 q65 fun v21 p22 =>
 kst p22 5 v21 v20 fun p23 =>
 kfa 0 v21 fun v24 =>
 kld p23 v24 fun v25 =>
 kfa 1 v21 fun v26 =>
 kld p23 v26 fun v27 =>
 kfa 2 v21 fun v28 =>
 kld p23 v28 fun v29 =>
 kfa 3 v21 fun v30 =>
 kld p23 v30 fun v31 =>
 kbd q89 [(0, 1, v25), (1, 1, v27), (2, 1, v29), (4, 1, v31), (5, 1, q34)] fun v32 =>
 kia 6 v10 v16 fun v33 =>
 kst p23 6 v33 v32 fun p34 =>
 kfa 0 v21 fun v35 =>
 kld p34 v35 fun v36 =>
 kle v36 q45 fun v37 =>
 jn 1 (fun j38 => kif v37
 (kia 6 v10 v16 fun v39 =>
 kfa 5 v39 fun v40 =>
 kst p34 1 v40 v15 fun p41 =>
 kad v15 q12 fun v42 =>
 j38 v42 p41)
 (j38 v15 p34)) fun v43 p44 =>
 kfa 0 v21 fun v45 =>
 kld p44 v45 fun v46 =>
 keq false .i v46 q45 fun v47 =>
 jn 0 (fun j48 => kif v47
 (kfa 1 v21 fun v49 =>
 kld p44 v49 fun v50 =>
 kfa 2 v21 fun v51 =>
 kld p44 v51 fun v52 =>
 kcv t85 p44 a1 [v50, v52] fun v53 p54 =>
 kia 6 v10 v16 fun v55 =>
 kfa 3 v55 fun v56 =>
 kst p54 1 v56 v53 fun p57 =>
 j48 p57)
 (j48 p44)) fun p58 =>
 kad v16 q12 fun v59 =>
 r14 v43 v59 p58)
 (j13 p17)) q0 q0 p11) fun p60 =>
 k [v10] p60
theorem o85 : FO EN 85 f85 := fe 2 (T := t85) (tc (cc_ok o148) (tc (ci_ok o86) tnil)) [some [], some [8, 21], none, none, some [8], some []] (by kernel_rfl) fun p s k => by kernel_rfl
def f39 : FT := fun p s k => hd s fun a0 s0 =>
 nl s0 <|
 kbx p 1 a0 fun v1 p2 =>
 kla p2 1 v1 fun v3 =>
 cn f80 p2 [v3] fun v4 p5 =>
 kex v4 0 fun v6 =>
 kex v4 1 fun v7 =>
 kal p5 q66 fun v8 p9 =>
 kst p9 1 v8 v6 fun p10 =>
 keq true .i v7 q0 fun v11 =>
 kif v11
 (k [.nilp, v7] p10)
 (ksw mth p10 (.mkmap) fun v12 p13 =>
 kla p13 1 v8 fun v14 =>
 cn f81 p13 [v14] fun v15 p16 =>
 kbd q90 [(0, 1, q21), (2, 1, v12), (3, 1, v15)] fun v17 =>
 kbx p16 4 v17 fun v18 p19 =>
 kfa 0 v1 fun v20 =>
 kld p19 v20 fun v21 =>
 kln v21 fun v22 =>
 jn 0 (fun j23 =>
 lp 1 fuel (fun r24 v25 p26 =>
 klt v25 v22 fun v27 =>
 kif v27
 (jn 0 (fun j28 =>
 kia 2 v21 v25 fun v29 =>
 kla p26 2 v29 fun v30 =>
 kal p26 q68 fun v31 p32 =>
 kst p32 2 v31 v30 fun p33 =>
 kfa 1 v31 fun v34 =>
 kld p33 v34 fun v35 =>
 kln v35 fun v36 =>
 jn 0 (fun j37 =>
 lp 1 fuel (fun r38 v39 p40 =>
 klt v39 v36 fun v41 =>
 kif v41
 (kia 6 v35 v39 fun v42 =>
 kla p40 6 v42 fun v43 =>
 kal p40 q69 fun v44 p45 =>
 kst p45 6 v44 v43 fun p46 =>
 kfa 2 v44 fun v47 =>
 kla p46 4 v47 fun v48 =>
 cc f82 p46 [v48] fun v49 p50 =>
 kex v49 0 fun v51 =>
 kex v49 1 fun v52 =>
 kal p50 q88 fun v53 p54 =>
 kst p54 4 v53 v51 fun p55 =>
 kla p55 1 v8 fun v56 =>
 kfa 0 v31 fun v57 =>
 kld p55 v57 fun v58 =>
 kfa 0 v44 fun v59 =>
 kld p55 v59 fun v60 =>
 cn f83 p55 [v56, v58, v60] fun v61 p62 =>
 kex v61 0 fun v63 =>
 kex v61 1 fun v64 =>
 knc mth v18 fun v65 =>
 kfa 2 v65 fun v66 =>
 kld (prt [] p62) v66 fun v67 =>
 kfa 0 v31 fun v68 =>
 kld (prt [] p62) v68 fun v69 =>
 kfa 0 v44 fun v70 =>
 kld (prt [] p62) v70 fun v71 =>
 kbd q30 [(0, 1, v69), (1, 1, v71)] fun v72 =>
 knc mth v18 fun v73 =>
 kfa 1 v73 fun v74 =>
 kld (prt [] p62) v74 fun v75 =>
 kln v75 fun v76 =>
 ksw mth p62 (.mapUpdate ⟨true, [(0, .s), (1, .s)]⟩ (.c v67) (.c v72) (.c v76)) fun v77 p78 =>
 knc mth v18 fun v79 =>
 kfa 1 v79 fun v80 =>
 kld (prt [] p78) v80 fun v81 =>
 kfa 0 v31 fun v82 =>
 kld (prt [] p78) v82 fun v83 =>
 kfa 0 v44 fun v84 =>
 kld (prt [] p78) v84 fun v85 =>
 knc mth v18 fun v86 =>
 kfa 1 v86 fun v87 =>
 kld (prt [] p78) v87 fun v88 =>
 kln v88 fun v89 =>
 kfa 1 v44 fun v90 =>
 kld (prt [] p78) v90 fun v91 =>
 cc f84 (prt [] p78) [v91] fun v92 p93 =>
 unpK p78 p93 fun p94 =>
 kla (prt [(p78.next, p93.next)] p94) 4 v53 fun v95 =>
 ci f85 (prt [] p94) [v95, (.func (.func 86) [] [v1, v31])] fun v96 p97 =>
 unpK p94 p97 fun p98 =>
 kbd q91 [(0, 1, v83), (1, 1, v85), (2, 1, v89), (3, 1, v63), (4, 1, v92), (5, 1, v96)] fun v99 =>
 kbs p98 1 q91 [(0, 6, v99)] fun v100 p101 =>
 kap p101 6 96 v81 v100 fun v102 p103 =>
 knc mth v18 fun v104 =>
 kfa 1 v104 fun v105 =>
 kst p103 1 v105 v102 fun p106 =>
 kad v39 q12 fun v107 =>
 r38 v107 p106)
 (j37 p40)) q0 p33) fun p108 =>
 j28 p108) fun p109 =>
 kad v25 q12 fun v110 =>
 r24 v110 p109)
 (j23 p26)) q0 p19) fun p111 =>
 k [v18, q0] p111)
theorem o39 : FO EN 39 f39 := fe 1 (tc (cn_ok o80) (tc (cn_ok o81) (tc (cc_ok o82) (tc (cn_ok o83) (tc (cc_ok o84) (tc (ci_ok o85) tnil)))))) [none, some [], some [31], none, some [], some [], some [38], none, none] (by kernel_rfl) fun p s k => by kernel_rfl
def f194 : FT := fun p s k => hd s fun a0 s0 =>
 hd s0 fun a1 s1 =>
 hd s1 fun a2 s2 =>
 hd s2 fun a3 s3 =>
 nl s3 <|
 kbx p 1 a0 fun v4 p5 =>
 kbx p5 1 a1 fun v6 p7 =>
 kbx p7 1 a2 fun v8 p9 =>
 kbx p9 1 a3 fun v10 p11 =>
 k [(.func (.func 231) [] [v4, v6, v8, v10])] p11
theorem o194 : FO EN 194 f194 := fe 4 tnil [] (by kernel_rfl) fun p s k => by kernel_rfl
def tr193002 : List Ce := []
def fr193002 : FT := fun p s k => hd s fun pj s => ptrK pj (fun j _ => hd s fun tv fr => tupK tv fun vals => ifB (Nat.beq (lenF fr) 13) (ifB (Nat.ble p.floor j) (isR0 p j (
 hdK (drK 2 fr) fun x0 =>
 hd vals fun a1 s0 =>
 nl s0 <|
 kal p q22 fun v2 p3 =>
 kst p3 6 v2 a1 fun p4 =>
 isR0 p4 j (putK p4 j (some (.rnd (nat_lit 1))) fun p5 =>
 kld p5 x0 fun v6 =>
 kla p5 6 v2 fun v7 =>
 kbs p5 1 q22 [(0, 6, v7)] fun v8 p9 =>
 kap p9 6 104 v6 v8 fun v10 p11 =>
 kst p11 1 x0 v10 fun p12 =>
 rndK p12 j fun _ => putK p12 j (some (.rnd (nat_lit 0))) fun p13 => k [.bool true] p13))))) n2
theorem or193002 : FO EN 1193002 fr193002 := re (r := 193002) (N := 13) (L := [2]) (T := tr193002) tnil [] [none] (by kernel_rfl) fun p s k => by kernel_rfl
def tr231008 (self : Nat → FT) : List Ce := [⟨1193002, ci fr193002⟩, ⟨1231004, ci (self (nat_lit 0))⟩, ⟨1231008, ci (self (nat_lit 1))⟩]
def gr231008 : (Nat → FT) → FT := fun self => fun p s k => hd s fun pj s => ptrK pj (fun j _ => hd s fun tv fr => tupK tv fun vals => ifB (Nat.beq (lenF fr) 77) (ifB (Nat.ble p.floor j) (isR0 p j (
 hdK (drK 5 fr) fun x0 =>
 hd vals fun a1 s0 =>
 nl s0 <|
 kal p q22 fun v2 p3 =>
 kst p3 6 v2 a1 fun p4 =>
 isR0 p4 j (putK p4 j (some (.rnd (nat_lit 1))) fun p5 =>
 kld p5 x0 fun v6 =>
 kla p5 6 v2 fun v7 =>
 kcv (tr231008 self) p5 v6 [v7] fun v8 p9 =>
 knt v8 fun v10 =>
 kif v10
 (rndK p9 j fun _ => putK p9 j (some (.rnd (nat_lit 2))) fun p11 => k [.bool false] p11)
 (rndK p9 j fun _ => putK p9 j (some (.rnd (nat_lit 0))) fun p12 => k [.bool true] p12)))))) n2
def tr231004 (self : Nat → FT) : List Ce := [⟨1193002, ci fr193002⟩, ⟨1231004, ci (self (nat_lit 0))⟩, ⟨1231008, ci (self (nat_lit 1))⟩]
def gr231004 : (Nat → FT) → FT := fun self => fun p s k => hd s fun pj s => ptrK pj (fun j _ => hd s fun tv fr => tupK tv fun vals => ifB (Nat.beq (lenF fr) 77) (ifB (Nat.ble p.floor j) (isR0 p j (
 hdK (drK 5 fr) fun x0 =>
 hd vals fun a1 s0 =>
 nl s0 <|
 kal p q22 fun v2 p3 =>
 kst p3 6 v2 a1 fun p4 =>
 isR0 p4 j (putK p4 j (some (.rnd (nat_lit 1))) fun p5 =>
 kld p5 x0 fun v6 =>
 kla p5 6 v2 fun v7 =>
 kcv (tr231004 self) p5 v6 [v7] fun v8 p9 =>
 knt v8 fun v10 =>
 kif v10
 (rndK p9 j fun _ => putK p9 j (some (.rnd (nat_lit 2))) fun p11 => k [.bool false] p11)
 (rndK p9 j fun _ => putK p9 j (some (.rnd (nat_lit 0))) fun p12 => k [.bool true] p12)))))) n2
def fr231004 : FT := rcM depth (bth gr231004 gr231008) (nat_lit 0)
def fr231008 : FT := rcM depth (bth gr231004 gr231008) (nat_lit 1)
theorem wr231008 (self : Nat → FT) (h0 : FO EN 1231004 (self (nat_lit 0))) (h1 : FO EN 1231008 (self (nat_lit 1))) : FO EN 1231008 (gr231008 self) := re (r := 231008) (N := 77) (L := [5]) (T := tr231008 self) (tc (ci_ok or193002) (tc (ci_ok h0) (tc (ci_ok h1) tnil))) [] [none, none] (by kernel_rfl) fun p s k => by kernel_rfl
theorem wr231004 (self : Nat → FT) (h0 : FO EN 1231004 (self (nat_lit 0))) (h1 : FO EN 1231008 (self (nat_lit 1))) : FO EN 1231004 (gr231004 self) := re (r := 231004) (N := 77) (L := [5]) (T := tr231004 self) (tc (ci_ok or193002) (tc (ci_ok h0) (tc (ci_ok h1) tnil))) [] [none, none] (by kernel_rfl) fun p s k => by kernel_rfl
theorem or231004 : FO EN 1231004 fr231004 := (FO.rm wr231004 wr231008 depth).1
theorem or231008 : FO EN 1231008 fr231008 := (FO.rm wr231004 wr231008 depth).2
def t231 (self : FT) : List Ce := [⟨178, cc f178⟩, ⟨194, cn f194⟩, ⟨1193002, ci fr193002⟩, ⟨1231004, ci fr231004⟩, ⟨1231008, ci fr231008⟩, ⟨231, ci self⟩]
def g231 : FT → FT := fun self => fun p s k => hd s fun a0 s0 =>
 hd s0 fun a1 s1 =>
 hd s1 fun a2 s2 =>
 hd s2 fun a3 s3 =>
 hd s3 fun a4 s4 =>
 nl s4 <|
 kbx p 1 a0 fun v5 p6 =>
 kld p6 a1 fun v7 =>
 ken false .p v7 .nilp fun v8 =>
 jn 8 (fun j9 => gdK v8 false (kld (prt [] p6) a2 fun v10 =>
 kld (prt [] p6) a1 fun v11 =>
 knc mth v11 fun v12 =>
 kfa 8 v12 fun v13 =>
 kld (prt [] p6) v13 fun v14 =>
 kad v10 v14 fun v15 =>
 kld (prt [] p6) a3 fun v16 =>
 kle v15 v16 fun v17 =>
 j9 v10 v11 v12 v13 v14 v15 v16 v17 p6) (j9 .undef .undef .undef .undef .undef .undef .undef .undef p6)) fun v18 v19 v20 v21 v22 v23 v24 v25 _ =>
 kpk v8 q21 v25 fun v27 =>
 jn 3 (fun j28 => gdK v27 false (kld (prt [] p6) a2 fun v29 =>
 kld (prt [] p6) a4 fun v30 =>
 kge v29 v30 fun v31 =>
 j28 v29 v30 v31 p6) (j28 .undef .undef .undef p6)) fun v32 v33 v34 _ =>
 kpk v27 q21 v34 fun v36 =>
 kif v36
 (k [] p6)
 (kld (prt [] p6) a2 fun v37 =>
 kld (prt [] p6) a1 fun v38 =>
 knc mth v38 fun v39 =>
 kfa 6 v39 fun v40 =>
 kld (prt [] p6) v40 fun v41 =>
 cc f178 (prt [] p6) [v41] fun v42 p43 =>
 unpK p6 p43 fun p44 =>
 kad v37 v42 fun v45 =>
 kld (prt [] p44) a1 fun v46 =>
 knc mth v46 fun v47 =>
 kfa 6 v47 fun v48 =>
 kld (prt [] p44) v48 fun v49 =>
 kld (prt [] p44) a2 fun v50 =>
 kld (prt [] p44) a3 fun v51 =>
 kld (prt [] p44) a4 fun v52 =>
 cn f194 p44 [v49, v50, v51, v52] fun v53 p54 =>
 krg (t231 self) p54 231004 v53 (V.mk 77 [(5, v5)]) (fun p55 =>
 kld p55 a3 fun v57 =>
 kge v45 v57 fun v58 =>
 jn 3 (fun j59 => gdK v58 true (kld p55 a4 fun v60 =>
 klt v45 v60 fun v61 =>
 j59 v45 v60 v61 p55) (j59 .undef .undef .undef p55)) fun v62 v63 v64 _ =>
 kpk v58 v64 q11 fun v66 =>
 jn 7 (fun j67 => gdK v66 true (kld (prt [] p55) v5 fun v68 =>
 kld (prt [] p55) a1 fun v69 =>
 knc mth v69 fun v70 =>
 kfa 0 v70 fun v71 =>
 kla (prt [] p55) 6 v71 fun v72 =>
 kcv (t231 self) p55 v68 [v72] fun v73 p74 =>
 knt v73 fun v75 =>
 j67 v68 v69 v70 v71 v72 v73 v75 p74) (j67 .undef .undef .undef .undef .undef .undef .undef p55)) fun v76 v77 v78 v79 v80 v81 v82 p83 =>
 kpk v66 v82 q11 fun v84 =>
 kif v84
 (k [] p83)
 (kld (prt [] p83) a1 fun v85 =>
 knc mth v85 fun v86 =>
 kfa 7 v86 fun v87 =>
 kld (prt [] p83) v87 fun v88 =>
 kad v45 q12 fun v89 =>
 kld (prt [] p83) a3 fun v90 =>
 kld (prt [] p83) a4 fun v91 =>
 cn f194 p83 [v88, v89, v90, v91] fun v92 p93 =>
 krg (t231 self) p93 231008 v92 (V.mk 77 [(5, v5)]) (fun p94 =>
 k [] p94) (fun p95 =>
 k [] p95) [])) (fun p56 =>
 k [] p56) [])
def f231 : FT := rcF depth g231
theorem o231 : FO EN 231 f231 := FO.rc (fun self h => fe 5 (T := t231 self) (tc (cc_ok o178) (tc (cn_ok o194) (tc (ci_ok or193002) (tc (ci_ok or231004) (tc (ci_ok or231008) (tc (ci_ok h) tnil)))))) [none, none, some [5], some [], none, none, some [5], some []] (by kernel_rfl) fun p s k => by kernel_rfl) depth
def t193 : List Ce := [⟨231, ci f231⟩]
def f193 : FT := fun p s k => hd s fun a0 s0 =>
 hd s0 fun a1 s1 =>
 nl s1 <|
 kbx p 1 a0 fun v2 p3 =>
 krg t193 p3 193002 a1 (V.mk 13 [(2, v2)]) (fun p4 =>
 kld p4 v2 fun v6 =>
 k [v6] p4) (fun p5 =>
 k [.nils] p5) []
theorem o193 : FO EN 193 f193 := fe 2 (T := t193) (tc (ci_ok o231) tnil) [none, some [2], some []] (by kernel_rfl) fun p s k => by kernel_rfl
def f192 : FT := fun p s k => hd s fun a0 s0 =>
 nl s0 <|
 kln a0 fun v1 =>
 kln a0 fun v2 =>
 ksl 6 a0 none (some v1) (some v2) fun v3 =>
 k [v3] p
theorem o192 : FO EN 192 f192 := fe 1 tnil [] (by kernel_rfl) fun p s k => by kernel_rfl
def f154 : FT := fun p s k => hd s fun a0 s0 =>
 hd s0 fun a1 s1 =>
 hd s1 fun a2 s2 =>
 nl s2 <|
 kbx p 2 a0 fun v3 p4 =>
 ksw mth p4 (.minmax true [(.c a1), (.c q0)]) fun v5 p6 =>
 kla p6 2 v3 fun v7 =>
 cc f137 p6 [v7] fun v8 p9 =>
 ksw mth p9 (.minmax false [(.c a2), (.c v8)]) fun v10 p11 =>
 kge v5 v10 fun v12 =>
 kif v12
 (k [.nils] p11)
 (ksb v10 v5 fun v13 =>
 kms p11 6 104 q22 q0 v13 fun v14 p15 =>
 kfa 1 v3 fun v16 =>
 kld (prt [(p11.next, p15.next)] p15) v16 fun v17 =>
 cn f194 (prt [(p11.next, p15.next)] p15) [v17, q0, v5, v10] fun v18 p19 =>
 unpK p15 p19 fun p20 =>
 ci f193 p20 [v14, v18] fun v21 p22 =>
 ci f192 p22 [v21] fun v23 p24 =>
 k [v23] p24)
theorem o154 : FO EN 154 f154 := fe 3 (tc (cc_ok o137) (tc (cn_ok o194) (tc (ci_ok o193) (tc (ci_ok o192) tnil)))) [none] (by kernel_rfl) fun p s k => by kernel_rfl
def f91 : FT := fun p s k => hd s fun a0 s0 =>
 hd s0 fun a1 s1 =>
 hd s1 fun a2 s2 =>
 nl s2 <|
 kbx p 2 a0 fun v3 p4 =>
 kfa 0 v3 fun v5 =>
 kla p4 2 v5 fun v6 =>
 cn f154 p4 [v6, a1, a2] fun v7 p8 =>
 kln v7 fun v9 =>
 kms p8 6 96 q22 v9 v9 fun v10 p11 =>
 kln v7 fun v12 =>
 jn 0 (fun j13 =>
 lp 1 fuel (fun r14 v15 p16 =>
 klt v15 v12 fun v17 =>
 kif v17
 (kia 6 v7 v15 fun v18 =>
 kfa 0 v18 fun v19 =>
 kla p16 6 v19 fun v20 =>
 kia 6 v10 v15 fun v21 =>
 kst p16 6 v21 v20 fun p22 =>
 kad v15 q12 fun v23 =>
 r14 v23 p22)
 (j13 p16)) q0 p11) fun p24 =>
 k [v10] p24
theorem o91 : FO EN 91 f91 := fe 3 (tc (cn_ok o154) tnil) [some [], some [20], none, none] (by kernel_rfl) fun p s k => by kernel_rfl
def f41 : FT := fun p s k => hd s fun a0 s0 =>
 nl s0 <|
 kbx p 4 a0 fun v1 p2 =>
 kfa 0 v1 fun v3 =>
 kla (prt [] p2) 2 v3 fun v4 =>
 kla (prt [] p2) 4 v1 fun v5 =>
 cc f77 (prt [] p2) [v5] fun v6 p7 =>
 unpK p2 p7 fun p8 =>
 cn f91 p8 [v4, q0, v6] fun v9 p10 =>
 k [v9] p10
theorem o41 : FO EN 41 f41 := fe 1 (tc (cc_ok o77) (tc (cn_ok o91) tnil)) [] (by kernel_rfl) fun p s k => by kernel_rfl
def f88 : FT := fun p s k => hd s fun a0 s0 =>
 nl s0 <|
 kbx p 1 a0 fun v1 p2 =>
 kla p2 1 v1 fun v3 =>
 cc f141 p2 [v3] fun v4 p5 =>
 kex v4 0 fun v6 =>
 kex v4 1 fun v7 =>
 kal p5 q80 fun v8 p9 =>
 kst p9 2 v8 v6 fun p10 =>
 keq false .i v7 q0 fun v11 =>
 jn 1 (fun j12 => kif v11
 (kla p10 2 v8 fun v13 =>
 cc f142 p10 [v13] fun v14 p15 =>
 kex v14 0 fun v16 =>
 kex v14 1 fun v17 =>
 j12 v17 p15)
 (j12 v7 p10)) fun v18 p19 =>
 k [v18] p19
theorem o88 : FO EN 88 f88 := fe 1 (tc (cc_ok o141) (tc (cc_ok o142) tnil)) [some [4]] (by kernel_rfl) fun p s k => by kernel_rfl
def f89 : FT := fun p s k => hd s fun a0 s0 =>
 nl s0 <|
 kbx p 1 a0 fun v1 p2 =>
 ksw mth p2 (.mkmap) fun v3 p4 =>
 kfa 0 v1 fun v5 =>
 kld p4 v5 fun v6 =>
 kln v6 fun v7 =>
 jn 0 (fun j8 =>
 lp 1 fuel (fun r9 v10 p11 =>
 klt v10 v7 fun v12 =>
 kif v12
 (jn 0 (fun j13 =>
 kia 2 v6 v10 fun v14 =>
 kla p11 2 v14 fun v15 =>
 kal p11 q68 fun v16 p17 =>
 kst p17 2 v16 v15 fun p18 =>
 kfa 1 v16 fun v19 =>
 kld p18 v19 fun v20 =>
 kln v20 fun v21 =>
 jn 0 (fun j22 =>
 lp 1 fuel (fun r23 v24 p25 =>
 klt v24 v21 fun v26 =>
 kif v26
 (kia 6 v20 v24 fun v27 =>
 kla p25 6 v27 fun v28 =>
 kal p25 q69 fun v29 p30 =>
 kst p30 6 v29 v28 fun p31 =>
 kfa 0 v16 fun v32 =>
 kld (prt [] p31) v32 fun v33 =>
 kfa 0 v29 fun v34 =>
 kld (prt [] p31) v34 fun v35 =>
 kbd q30 [(0, 1, v33), (1, 1, v35)] fun v36 =>
 kbs p31 0 [] [] fun v37 p38 =>
 kfa 1 v29 fun v39 =>
 kld (prt [(p31.next, p38.next)] p38) v39 fun v40 =>
 kpa p38 [] [v32, v34] 2 32 v37 v40 fun p42 v41 p43 =>
 ksw mth p43 (.mapUpdate ⟨true, [(0, .s), (1, .s)]⟩ (.c v3) (.c v36) (.c v41)) fun v44 p45 =>
 kad v24 q12 fun v46 =>
 r23 v46 p45)
 (j22 p25)) q0 p18) fun p47 =>
 j13 p47) fun p48 =>
 kad v10 q12 fun v49 =>
 r9 v49 p48)
 (j8 p11)) q0 p4) fun p50 =>
 k [v3] p50
theorem o89 : FO EN 89 f89 := fe 1 tnil [some [], some [12], none, some [], some [], some [19], none, none] (by kernel_rfl) fun p s k => by kernel_rfl
def f90 : FT := fun p s k => hd s fun a0 s0 =>
 hd s0 fun a1 s1 =>
 nl s1 <|
 kbx p 6 a1 fun v2 p3 =>
 kla p3 6 v2 fun v4 =>
 cc f75 p3 [v4] fun v5 p6 =>
 keq true .i v5 q0 fun v7 =>
 kif v7
 (k [q24] p6)
 (kfa 0 v2 fun v8 =>
 kfa 0 v8 fun v9 =>
 kfa 0 v9 fun v10 =>
 kld p6 v10 fun v11 =>
 kfa 0 v2 fun v12 =>
 kfa 2 v12 fun v13 =>
 kld p6 v13 fun v14 =>
 kbd q30 [(0, 1, v11), (1, 1, v14)] fun v15 =>
 ksw mth p6 (.lookup ⟨true, [(0, .s), (1, .s)]⟩ .nils true (.c a0) (.c v15)) fun v16 p17 =>
 kex v16 0 fun v18 =>
 kex v16 1 fun v19 =>
 knt v19 fun v20 =>
 kif v20
 (k [q24] p17)
 (kfa 3 v2 fun v21 =>
 kfa 0 v21 fun v22 =>
 kfa 0 v22 fun v23 =>
 kld p17 v23 fun v24 =>
 kfa 3 v2 fun v25 =>
 kfa 2 v25 fun v26 =>
 kld p17 v26 fun v27 =>
 kbd q30 [(0, 1, v24), (1, 1, v27)] fun v28 =>
 cc f153 p17 [v18, v28] fun v29 p30 =>
 knt v29 fun v31 =>
 kif v31
 (k [q74] p30)
 (k [q0] p30)))
theorem o90 : FO EN 90 f90 := fe 2 (tc (cc_ok o75) (tc (cc_ok o153) tnil)) [none, none, none, none] (by kernel_rfl) fun p s k => by kernel_rfl
def f40 : FT := fun p s k => hd s fun a0 s0 =>
 hd s0 fun a1 s1 =>
 nl s1 <|
 kbx p 1 a0 fun v2 p3 =>
 kla p3 1 v2 fun v4 =>
 cc f88 p3 [v4] fun v5 p6 =>
 keq true .i v5 q0 fun v7 =>
 kif v7
 (k [q0, v5] p6)
 (kla p6 1 v2 fun v8 =>
 cc f89 p6 [v8] fun v9 p10 =>
 kln a1 fun v11 =>
 jn 0 (fun j12 =>
 lp 1 fuel (fun r13 v14 p15 =>
 klt v14 v11 fun v16 =>
 kif v16
 (kia 6 a1 v14 fun v17 =>
 kla p15 6 v17 fun v18 =>
 kal p15 q22 fun v19 p20 =>
 kst p20 6 v19 v18 fun p21 =>
 kla p21 6 v19 fun v22 =>
 cn f90 p21 [v9, v22] fun v23 p24 =>
 keq true .i v23 q0 fun v25 =>
 kif v25
 (k [v14, v23] p24)
 (kad v14 q12 fun v26 =>
 r13 v26 p24))
 (j12 p15)) q0 p10) fun p27 =>
 kln a1 fun v28 =>
 k [v28, q0] p27)
theorem o40 : FO EN 40 f40 := fe 2 (tc (cc_ok o88) (tc (cc_ok o89) (tc (cn_ok o90) tnil))) [none, some [], some [20], none, none, none] (by kernel_rfl) fun p s k => by kernel_rfl
def f15 : FT := fun p s k => hd s fun a0 s0 =>
 hd s0 fun a1 s1 =>
 nl s1 <|
 kbx p 1 a0 fun v2 p3 =>
 kbx p3 4 a1 fun v4 p5 =>
 kal p5 q92 fun v6 p7 =>
 kla p7 1 v2 fun v8 =>
 cc f39 p7 [v8] fun v9 p10 =>
 kex v9 0 fun v11 =>
 kex v9 1 fun v12 =>
 keq true .i v12 q0 fun v13 =>
 kif v13
 (kbd q92 [] fun v14 =>
 kst p10 5 v6 v14 fun p15 =>
 kra p15 5 v6 fun v16 =>
 k [v16, v12] p15)
 (kla (prt [] p10) 1 v2 fun v17 =>
 kla (prt [] p10) 4 v4 fun v18 =>
 cn f41 (prt [] p10) [v18] fun v19 p20 =>
 unpK p10 p20 fun p21 =>
 cn f40 p21 [v17, v19] fun v22 p23 =>
 kex v22 0 fun v24 =>
 kex v22 1 fun v25 =>
 keq true .i v25 q0 fun v26 =>
 kif v26
 (kbd q92 [] fun v27 =>
 kst p23 5 v6 v27 fun p28 =>
 kra p28 5 v6 fun v29 =>
 k [v29, v25] p28)
 (kla p23 4 v4 fun v30 =>
 kbd q92 [(0, 1, v11), (1, 4, v30)] fun v31 =>
 kst p23 5 v6 v31 fun p32 =>
 kra p32 5 v6 fun v33 =>
 k [v33, q0] p32))
theorem o15 : FO EN 15 f15 := fe 2 (tc (cc_ok o39) (tc (cn_ok o41) (tc (cn_ok o40) tnil))) [none, none] (by kernel_rfl) fun p s k => by kernel_rfl
def f44 : FT := fun p s k => hd s fun a0 s0 =>
 nl s0 <|
 kbx p 1 a0 fun v1 p2 =>
 jn 1 (fun j3 =>
 lp 2 fuel (fun r4 v5 v6 p7 =>
 kfa 0 v1 fun v8 =>
 kld p7 v8 fun v9 =>
 kln v9 fun v10 =>
 klt v6 v10 fun v11 =>
 kif v11
 (jn 1 (fun j12 =>
 jn 1 (fun j13 =>
 lp 2 fuel (fun r14 v15 v16 p17 =>
 kfa 0 v1 fun v18 =>
 kld p17 v18 fun v19 =>
 kia 2 v19 v6 fun v20 =>
 kfa 1 v20 fun v21 =>
 kld p17 v21 fun v22 =>
 kln v22 fun v23 =>
 klt v16 v23 fun v24 =>
 kif v24
 (kfa 0 v1 fun v25 =>
 kld (prt [] p17) v25 fun v26 =>
 kia 2 v26 v6 fun v27 =>
 kfa 0 v27 fun v28 =>
 kld (prt [] p17) v28 fun v29 =>
 kfa 0 v1 fun v30 =>
 kld (prt [] p17) v30 fun v31 =>
 kia 2 v31 v6 fun v32 =>
 kfa 1 v32 fun v33 =>
 kld (prt [] p17) v33 fun v34 =>
 kia 6 v34 v16 fun v35 =>
 kfa 0 v35 fun v36 =>
 kld (prt [] p17) v36 fun v37 =>
 kbd q30 [(0, 1, v29), (1, 1, v37)] fun v38 =>
 kbs p17 1 q30 [(0, 2, v38)] fun v39 p40 =>
 kap p40 2 32 v15 v39 fun v41 p42 =>
 kad v16 q12 fun v43 =>
 r14 v41 v43 p42)
 (j13 v15 p17)) v5 q0 p7) fun v44 p45 =>
 j12 v44 p45) fun v46 p47 =>
 kad v6 q12 fun v48 =>
 r4 v46 v48 p47)
 (j3 v5 p7)) .nils q0 p2) fun v49 p50 =>
 k [v49] p50
theorem o44 : FO EN 44 f44 := fe 1 tnil [some [3], some [3, 4], none, some [3], some [3], some [3, 5], none, none] (by kernel_rfl) fun p s k => by kernel_rfl
def f92 : FT := fun p s k => hd s fun a0 s0 =>
 nl s0 <|
 kal p q80 fun v1 p2 =>
 kar .mul a0 a0 fun v3 =>
 kms p2 1 8 q14 v3 v3 fun v4 p5 =>
 kbd q80 [(0, 1, a0), (1, 1, v4)] fun v6 =>
 kst p5 2 v1 v6 fun p7 =>
 kra p7 2 v1 fun v8 =>
 k [v8] p7
theorem o92 : FO EN 92 f92 := fe 1 tnil [] (by kernel_rfl) fun p s k => by kernel_rfl
def f96 : FT := fun p s k => hd s fun a0 s0 =>
 hd s0 fun a1 s1 =>
 nl s1 <|
 kbx p 1 a0 fun v2 p3 =>
 jn 0 (fun j4 =>
 lp 1 fuel (fun r5 v6 p7 =>
 kfa 0 v2 fun v8 =>
 kld p7 v8 fun v9 =>
 kln v9 fun v10 =>
 klt v6 v10 fun v11 =>
 kif v11
 (kfa 0 v2 fun v12 =>
 kld p7 v12 fun v13 =>
 kia 2 v13 v6 fun v14 =>
 kfa 0 v14 fun v15 =>
 kld p7 v15 fun v16 =>
 keq false .s v16 a1 fun v17 =>
 kif v17
 (k [v6] p7)
 (kad v6 q12 fun v18 =>
 r5 v18 p7))
 (j4 p7)) q0 p3) fun p19 =>
 k [q34] p19
theorem o96 : FO EN 96 f96 := fe 2 tnil [some [], some [5], none, none, none] (by kernel_rfl) fun p s k => by kernel_rfl
def f46 : FT := fun p s k => hd s fun a0 s0 =>
 hd s0 fun a1 s1 =>
 hd s1 fun a2 s2 =>
 nl s2 <|
 kbx p 1 a0 fun v3 p4 =>
 kal p4 q69 fun v5 p6 =>
 kla p6 1 v3 fun v7 =>
 cn f96 p6 [v7, a1] fun v8 p9 =>
 jn 0 (fun j10 =>
 lp 1 fuel (fun r11 v12 p13 =>
 kge v8 q0 fun v14 =>
 jn 9 (fun j15 => gdK v14 true (kfa 0 v3 fun v16 =>
 kld p13 v16 fun v17 =>
 kia 2 v17 v8 fun v18 =>
 kfa 1 v18 fun v19 =>
 kld p13 v19 fun v20 =>
 kln v20 fun v21 =>
 klt v12 v21 fun v22 =>
 j15 v12 v16 v17 v8 v18 v19 v20 v21 v22 p13) (j15 .undef .undef .undef .undef .undef .undef .undef .undef .undef p13)) fun v23 v24 v25 v26 v27 v28 v29 v30 v31 p32 =>
 kpk v14 v31 q11 fun v33 =>
 kif v33
 (kfa 0 v3 fun v34 =>
 kld p32 v34 fun v35 =>
 kia 2 v35 v8 fun v36 =>
 kfa 1 v36 fun v37 =>
 kld p32 v37 fun v38 =>
 kia 6 v38 v12 fun v39 =>
 kfa 0 v39 fun v40 =>
 kld p32 v40 fun v41 =>
 keq false .s v41 a2 fun v42 =>
 kif v42
 (kfa 0 v3 fun v43 =>
 kld p32 v43 fun v44 =>
 kia 2 v44 v8 fun v45 =>
 kfa 1 v45 fun v46 =>
 kld p32 v46 fun v47 =>
 kia 6 v47 v12 fun v48 =>
 kla p32 6 v48 fun v49 =>
 kst p32 6 v5 v49 fun p50 =>
 kra p50 6 v5 fun v51 =>
 k [v51, q21] p50)
 (kad v12 q12 fun v52 =>
 r11 v52 p32))
 (j10 p32)) q0 p9) fun p53 =>
 kbd q69 [] fun v54 =>
 kst p53 6 v5 v54 fun p55 =>
 kra p55 6 v5 fun v56 =>
 k [v56, q11] p55
theorem o46 : FO EN 46 f46 := fe 3 (tc (cn_ok o96) tnil) [some [], some [9], none, none, none] (by kernel_rfl) fun p s k => by kernel_rfl
def g47 : FT → FT := fun self => fun p s k => hd s fun a0 s0 =>
 hd s0 fun a1 s1 =>
 hd s1 fun a2 s2 =>
 nl s2 <|
 kbx p 4 a1 fun v3 p4 =>
 kln a0 fun v5 =>
 kfa 0 v3 fun v6 =>
 kld p4 v6 fun v7 =>
 kfa 1 v3 fun v8 =>
 kld p4 v8 fun v9 =>
 kfa 2 v3 fun v10 =>
 kld p4 v10 fun v11 =>
 kbd q65 [(0, 1, v7), (1, 1, v9), (2, 1, v11), (4, 1, a2)] fun v12 =>
 kbs p4 1 q65 [(0, 5, v12)] fun v13 p14 =>
 kap p14 5 72 a0 v13 fun v15 p16 =>
 jn 2 (fun j17 =>
 lp 3 fuel (fun r18 v19 v20 v21 p22 =>
 kfa 3 v3 fun v23 =>
 kld p22 v23 fun v24 =>
 kln v24 fun v25 =>
 klt v21 v25 fun v26 =>
 kif v26
 (kln v19 fun v27 =>
 kbs p22 1 q14 [(0, 1, v27)] fun v28 p29 =>
 kap p29 1 8 v20 v28 fun v30 p31 =>
 kfa 3 v3 fun v32 =>
 kld (prt [] p31) v32 fun v33 =>
 kia 4 v33 v21 fun v34 =>
 kla (prt [] p31) 4 v34 fun v35 =>
 jn 4 (fun j36 => gdK a2 false (kfa 0 v3 fun v37 =>
 kld (prt [] p31) v37 fun v38 =>
 keq false .i v38 q64 fun v39 =>
 j36 v37 v38 v39 v39 p31) (j36 .undef .undef .undef .undef p31)) fun v40 v41 v42 v43 _ =>
 jn 2 (fun j45 => gdK v43 true (keq false .i v21 q12 fun v46 =>
 j45 v21 v46 p31) (j45 .undef .undef p31)) fun v47 v48 _ =>
 jn 1 (fun j50 => gdK a2 false (kpk v43 v48 q11 fun v51 =>
 j50 v51 p31) (j50 .undef p31)) fun v52 _ =>
 kpk a2 q21 v52 fun v54 =>
 ci self p31 [v19, v35, v54] fun v55 p56 =>
 kad v21 q12 fun v57 =>
 r18 v55 v30 v57 p56)
 (j17 v19 v20 p22)) v15 .nils q0 p16) fun v58 v59 p60 =>
 kia 5 v58 v5 fun v61 =>
 kfa 3 v61 fun v62 =>
 kst p60 1 v62 v59 fun p63 =>
 k [v58] p63
def f47 : FT := rcF depth g47
theorem o47 : FO EN 47 f47 := FO.rc (fun self h => fe 3 (tc (ci_ok h) tnil) [some [0, 8], some [0, 8, 9], none, none] (by kernel_rfl) fun p s k => by kernel_rfl) depth
def f94 : FT := fun p s k => hd s fun a0 s0 =>
 hd s0 fun a1 s1 =>
 hd s1 fun a2 s2 =>
 nl s2 <|
 kbx p 1 a0 fun v3 p4 =>
 kla p4 1 v3 fun v5 =>
 cc f44 p4 [v5] fun v6 p7 =>
 jn 0 (fun j8 =>
 lp 1 fuel (fun r9 v10 p11 =>
 kln v6 fun v12 =>
 klt v10 v12 fun v13 =>
 kif v13
 (kia 2 v6 v10 fun v14 =>
 kfa 0 v14 fun v15 =>
 kld p11 v15 fun v16 =>
 keq false .s v16 a1 fun v17 =>
 jn 7 (fun j18 => gdK v17 true (kia 2 v6 v10 fun v19 =>
 kfa 1 v19 fun v20 =>
 kld p11 v20 fun v21 =>
 keq false .s v21 a2 fun v22 =>
 j18 v6 v10 v19 v20 v21 a2 v22 p11) (j18 .undef .undef .undef .undef .undef .undef .undef p11)) fun v23 v24 v25 v26 v27 v28 v29 p30 =>
 kpk v17 v29 q11 fun v31 =>
 kif v31
 (k [v10] p30)
 (kad v10 q12 fun v32 =>
 r9 v32 p30))
 (j8 p11)) q0 p7) fun p33 =>
 k [q34] p33
theorem o94 : FO EN 94 f94 := fe 3 (tc (cc_ok o44) tnil) [some [], some [8], none, none, none] (by kernel_rfl) fun p s k => by kernel_rfl
def f93 : FT := fun p s k => hd s fun a0 s0 =>
 hd s0 fun a1 s1 =>
 hd s1 fun a2 s2 =>
 hd s2 fun a3 s3 =>
 nl s3 <|
 kbx p 2 a0 fun v4 p5 =>
 jn 1 (fun j6 => kif a3
 (j6 q16 p5)
 (j6 q12 p5)) fun v7 p8 =>
 kfa 1 v4 fun v9 =>
 kld p8 v9 fun v10 =>
 kfa 0 v4 fun v11 =>
 kld p8 v11 fun v12 =>
 kar .mul a1 v12 fun v13 =>
 kad v13 a2 fun v14 =>
 kia 1 v10 v14 fun v15 =>
 kld p8 v15 fun v16 =>
 kar .quo v16 v7 fun v17 =>
 kar .rem v17 q16 fun v18 =>
 keq false .i v18 q0 fun v19 =>
 jn 0 (fun j20 => kif v19
 (kfa 1 v4 fun v21 =>
 kld p8 v21 fun v22 =>
 kfa 0 v4 fun v23 =>
 kld p8 v23 fun v24 =>
 kar .mul a1 v24 fun v25 =>
 kad v25 a2 fun v26 =>
 kia 1 v22 v26 fun v27 =>
 kld p8 v27 fun v28 =>
 kad v28 v7 fun v29 =>
 kia 1 v22 v26 fun v30 =>
 kst p8 1 v30 v29 fun p31 =>
 j20 p31)
 (j20 p8)) fun p32 =>
 k [] p32
theorem o93 : FO EN 93 f93 := fe 4 tnil [some [8], some []] (by kernel_rfl) fun p s k => by kernel_rfl
def f48 : FT := fun p s k => hd s fun a0 s0 =>
 hd s0 fun a1 s1 =>
 hd s1 fun a2 s2 =>
 hd s2 fun a3 s3 =>
 nl s3 <|
 kbx p 1 a0 fun v4 p5 =>
 kla p5 1 v4 fun v6 =>
 cn f46 p5 [v6, a1, a2] fun v7 p8 =>
 kex v7 0 fun v9 =>
 kex v7 1 fun v10 =>
 kal p8 q69 fun v11 p12 =>
 kst p12 6 v11 v9 fun p13 =>
 jn 1 (fun j14 =>
 lp 2 fuel (fun r15 v16 v17 p18 =>
 kfa 1 v11 fun v19 =>
 kld p18 v19 fun v20 =>
 kln v20 fun v21 =>
 klt v17 v21 fun v22 =>
 kif v22
 (kla (prt [] p18) 1 v4 fun v23 =>
 kfa 1 v11 fun v24 =>
 kld (prt [] p18) v24 fun v25 =>
 kia 2 v25 v17 fun v26 =>
 kfa 0 v26 fun v27 =>
 kld (prt [] p18) v27 fun v28 =>
 cn f46 (prt [] p18) [v23, v28, a3] fun v29 p30 =>
 unpK p18 p30 fun p31 =>
 kex v29 0 fun v32 =>
 kex v29 1 fun v33 =>
 kal p31 q69 fun v34 p35 =>
 kst p35 6 v34 v32 fun p36 =>
 kfa 1 v11 fun v37 =>
 kld p36 v37 fun v38 =>
 kia 2 v38 v17 fun v39 =>
 kfa 1 v39 fun v40 =>
 kld p36 v40 fun v41 =>
 keq false .s v41 q31 fun v42 =>
 jn 1 (fun j43 => gdK v42 true (j43 v33 p36) (j43 .undef p36)) fun v44 p45 =>
 kpk v42 v44 q11 fun v46 =>
 jn 1 (fun j47 => kif v46
 (kfa 1 v11 fun v48 =>
 kld p45 v48 fun v49 =>
 kia 2 v49 v17 fun v50 =>
 kfa 0 v50 fun v51 =>
 kld p45 v51 fun v52 =>
 kbs p45 1 q72 [(0, 1, v52)] fun v53 p54 =>
 kap p54 1 16 v16 v53 fun v55 p56 =>
 j47 v55 p56)
 (j47 v16 p45)) fun v57 p58 =>
 kad v17 q12 fun v59 =>
 r15 v57 v59 p58)
 (j14 v16 p18)) .nils q0 p13) fun v60 p61 =>
 k [v60] p61
theorem o48 : FO EN 48 f48 := fe 4 (tc (cn_ok o46) tnil) [some [9], some [9, 12], none, none, some [9]] (by kernel_rfl) fun p s k => by kernel_rfl
def f43 : FT := fun p s k => hd s fun a0 s0 =>
 nl s0 <|
 kbx p 1 a0 fun v1 p2 =>
 kal p2 q80 fun v3 p4 =>
 kla p4 1 v1 fun v5 =>
 cc f44 p4 [v5] fun v6 p7 =>
 kln v6 fun v8 =>
 ci f92 p7 [v8] fun v9 p10 =>
 kal p10 q80 fun v11 p12 =>
 kst p12 2 v11 v9 fun p13 =>
 jn 0 (fun j14 =>
 lp 1 fuel (fun r15 v16 p17 =>
 kln v6 fun v18 =>
 klt v16 v18 fun v19 =>
 kif v19
 (jn 0 (fun j20 =>
 kla (prt [] p17) 1 v1 fun v21 =>
 kia 2 v6 v16 fun v22 =>
 kfa 0 v22 fun v23 =>
 kld (prt [] p17) v23 fun v24 =>
 kia 2 v6 v16 fun v25 =>
 kfa 1 v25 fun v26 =>
 kld (prt [] p17) v26 fun v27 =>
 cn f46 (prt [] p17) [v21, v24, v27] fun v28 p29 =>
 unpK p17 p29 fun p30 =>
 kex v28 0 fun v31 =>
 kex v28 1 fun v32 =>
 kal p30 q69 fun v33 p34 =>
 kst p34 6 v33 v31 fun p35 =>
 kfa 2 v33 fun v36 =>
 kla p35 4 v36 fun v37 =>
 ci f47 p35 [.nils, v37, q11] fun v38 p39 =>
 jn 0 (fun j40 =>
 lp 1 fuel (fun r41 v42 p43 =>
 kln v38 fun v44 =>
 klt v42 v44 fun v45 =>
 kif v45
 (jn 0 (fun j46 =>
 kia 5 v38 v42 fun v47 =>
 kfa 0 v47 fun v48 =>
 kld p43 v48 fun v49 =>
 jn 0 (fun j50 =>
 keq false .i v49 q44 fun v51 =>
 jn 0 (fun j52 => kif v51
 (jn 0 (fun j53 =>
 lp 1 fuel (fun r54 v55 p56 =>
 kfa 1 v33 fun v57 =>
 kld p56 v57 fun v58 =>
 kln v58 fun v59 =>
 klt v55 v59 fun v60 =>
 kif v60
 (kfa 1 v33 fun v61 =>
 kld p56 v61 fun v62 =>
 kia 2 v62 v55 fun v63 =>
 kfa 1 v63 fun v64 =>
 kld p56 v64 fun v65 =>
 keq true .s v65 q31 fun v66 =>
 jn 0 (fun j67 => kif v66
 (kla (prt [] p56) 2 v11 fun v68 =>
 kla (prt [] p56) 1 v1 fun v69 =>
 kfa 1 v33 fun v70 =>
 kld (prt [] p56) v70 fun v71 =>
 kia 2 v71 v55 fun v72 =>
 kfa 0 v72 fun v73 =>
 kld (prt [] p56) v73 fun v74 =>
 kfa 1 v33 fun v75 =>
 kld (prt [] p56) v75 fun v76 =>
 kia 2 v76 v55 fun v77 =>
 kfa 1 v77 fun v78 =>
 kld (prt [] p56) v78 fun v79 =>
 cn f94 (prt [] p56) [v69, v74, v79] fun v80 p81 =>
 unpK p56 p81 fun p82 =>
 kia 5 v38 v42 fun v83 =>
 kfa 4 v83 fun v84 =>
 kld (prt [(p56.next, p81.next)] p82) v84 fun v85 =>
 ci f93 p82 [v68, v16, v80, v85] fun v86 p87 =>
 j67 p87)
 (j67 p56)) fun p88 =>
 kad v55 q12 fun v89 =>
 r54 v89 p88)
 (j53 p56)) q0 p43) fun p90 =>
 j52 p90)
 (keq false .i v49 q43 fun v91 =>
 jn 0 (fun j92 => kif v91
 (kla (prt [] p43) 2 v11 fun v93 =>
 kla (prt [] p43) 1 v1 fun v94 =>
 kia 2 v6 v16 fun v95 =>
 kfa 0 v95 fun v96 =>
 kld (prt [] p43) v96 fun v97 =>
 kia 5 v38 v42 fun v98 =>
 kfa 1 v98 fun v99 =>
 kld (prt [] p43) v99 fun v100 =>
 cn f94 (prt [] p43) [v94, v97, v100] fun v101 p102 =>
 unpK p43 p102 fun p103 =>
 kia 5 v38 v42 fun v104 =>
 kfa 4 v104 fun v105 =>
 kld (prt [(p43.next, p102.next)] p103) v105 fun v106 =>
 ci f93 p103 [v93, v16, v101, v106] fun v107 p108 =>
 j92 p108)
 (keq false .i v49 q45 fun v109 =>
 jn 0 (fun j110 => kif v109
 (kla (prt [] p43) 1 v1 fun v111 =>
 kia 2 v6 v16 fun v112 =>
 kfa 0 v112 fun v113 =>
 kld (prt [] p43) v113 fun v114 =>
 kia 5 v38 v42 fun v115 =>
 kfa 1 v115 fun v116 =>
 kld (prt [] p43) v116 fun v117 =>
 kia 5 v38 v42 fun v118 =>
 kfa 2 v118 fun v119 =>
 kld (prt [] p43) v119 fun v120 =>
 cn f48 p43 [v111, v114, v117, v120] fun v121 p122 =>
 jn 0 (fun j123 =>
 lp 1 fuel (fun r124 v125 p126 =>
 kln v121 fun v127 =>
 klt v125 v127 fun v128 =>
 kif v128
 (kla (prt [] p126) 2 v11 fun v129 =>
 kla (prt [] p126) 1 v1 fun v130 =>
 kia 1 v121 v125 fun v131 =>
 kld (prt [] p126) v131 fun v132 =>
 kia 5 v38 v42 fun v133 =>
 kfa 2 v133 fun v134 =>
 kld (prt [] p126) v134 fun v135 =>
 cn f94 (prt [] p126) [v130, v132, v135] fun v136 p137 =>
 unpK p126 p137 fun p138 =>
 kia 5 v38 v42 fun v139 =>
 kfa 4 v139 fun v140 =>
 kld (prt [(p126.next, p137.next)] p138) v140 fun v141 =>
 ci f93 p138 [v129, v16, v136, v141] fun v142 p143 =>
 kad v125 q12 fun v144 =>
 r124 v144 p143)
 (j123 p126)) q0 p122) fun p145 =>
 j110 p145)
 (j110 p43)) fun p146 =>
 j92 p146)) fun p147 =>
 j52 p147)) fun p148 =>
 j50 p148) fun p149 =>
 j46 p149) fun p150 =>
 kad v42 q12 fun v151 =>
 r41 v151 p150)
 (j40 p43)) q0 p39) fun p152 =>
 j20 p152) fun p153 =>
 kad v16 q12 fun v154 =>
 r15 v154 p153)
 (j14 p17)) q0 p13) fun p155 =>
 kla p155 2 v11 fun v156 =>
 kst p155 2 v3 v156 fun p157 =>
 kra p157 2 v3 fun v158 =>
 k [v158] p157
theorem o43 : FO EN 43 f43 := fe 1 (tc (cc_ok o44) (tc (ci_ok o92) (tc (cn_ok o46) (tc (ci_ok o47) (tc (cn_ok o94) (tc (ci_ok o93) (tc (cn_ok o48) tnil))))))) [some [], some [5], none, some [], some [], some [9], none, some [], some [], some [], some [], some [10], none, none, some [], some [], some [], some [], some [12], none, none] (by kernel_rfl) fun p s k => by kernel_rfl
end
end Go.V
end

section
set_option maxRecDepth 100000
set_option linter.unusedVariables false
namespace Go.V
noncomputable section
def f42 : FT := fun p s k => hd s fun a0 s0 =>
 nl s0 <|
 kbx p 2 a0 fun v1 p2 =>
 kfa 0 v1 fun v3 =>
 kld p2 v3 fun v4 =>
 kms p2 1 8 q14 v4 v4 fun v5 p6 =>
 jn 0 (fun j7 =>
 lp 1 fuel (fun r8 v9 p10 =>
 kif v9
 (jn 1 (fun j11 =>
 jn 1 (fun j12 =>
 lp 2 fuel (fun r13 v14 v15 p16 =>
 kfa 0 v1 fun v17 =>
 kld p16 v17 fun v18 =>
 klt v15 v18 fun v19 =>
 kif v19
 (jn 1 (fun j20 =>
 jn 1 (fun j21 =>
 lp 2 fuel (fun r22 v23 v24 p25 =>
 kfa 0 v1 fun v26 =>
 kld p25 v26 fun v27 =>
 klt v24 v27 fun v28 =>
 kif v28
 (kfa 1 v1 fun v29 =>
 kld p25 v29 fun v30 =>
 kfa 0 v1 fun v31 =>
 kld p25 v31 fun v32 =>
 kar .mul v15 v32 fun v33 =>
 kad v33 v24 fun v34 =>
 kia 1 v30 v34 fun v35 =>
 kld p25 v35 fun v36 =>
 keq false .i v36 q12 fun v37 =>
 jn 1 (fun j38 => kif v37
 (kia 1 v5 v24 fun v39 =>
 kld p25 v39 fun v40 =>
 j38 v40 p25)
 (j38 q34 p25)) fun v41 p42 =>
 kfa 1 v1 fun v43 =>
 kld p42 v43 fun v44 =>
 kfa 0 v1 fun v45 =>
 kld p42 v45 fun v46 =>
 kar .mul v15 v46 fun v47 =>
 kad v47 v24 fun v48 =>
 kia 1 v44 v48 fun v49 =>
 kld p42 v49 fun v50 =>
 kgt v50 q12 fun v51 =>
 jn 1 (fun j52 => kif v51
 (kia 1 v5 v24 fun v53 =>
 kld p42 v53 fun v54 =>
 kad v54 q12 fun v55 =>
 j52 v55 p42)
 (j52 v41 p42)) fun v56 p57 =>
 kia 1 v5 v15 fun v58 =>
 kld p57 v58 fun v59 =>
 klt v59 v56 fun v60 =>
 jn 1 (fun j61 => kif v60
 (kia 1 v5 v15 fun v62 =>
 kst p57 1 v62 v56 fun p63 =>
 j61 q21 p63)
 (j61 v23 p57)) fun v64 p65 =>
 kia 1 v5 v15 fun v66 =>
 kld (prt [] p65) v66 fun v67 =>
 kfa 0 v1 fun v68 =>
 kld (prt [] p65) v68 fun v69 =>
 kgt v67 v69 fun v70 =>
 kif v70
 (k [.nils, q11] p65)
 (kad v24 q12 fun v71 =>
 r22 v64 v71 p65))
 (j21 v23 p25)) v14 q0 p16) fun v72 p73 =>
 j20 v72 p73) fun v74 p75 =>
 kad v15 q12 fun v76 =>
 r13 v74 v76 p75)
 (j12 v14 p16)) q11 q0 p10) fun v77 p78 =>
 j11 v77 p78) fun v79 p80 =>
 r8 v79 p80)
 (j7 p10)) q21 p6) fun p81 =>
 k [v5, q21] p81
theorem o42 : FO EN 42 f42 := fe 1 tnil [some [], some [5], none, some [5], some [5], some [5, 6], none, some [5], some [5], some [5, 7], none, none, some [8], some [8], some [5], none] (by kernel_rfl) fun p s k => by kernel_rfl
def f195 : FT := fun p s k => hd s fun a0 s0 =>
 hd s0 fun a1 s1 =>
 nl s1 <|
 kbx p 2 a1 fun v2 p3 =>
 jn 0 (fun j4 =>
 lp 1 fuel (fun r5 v6 p7 =>
 kln a0 fun v8 =>
 klt v6 v8 fun v9 =>
 kif v9
 (kia 2 a0 v6 fun v10 =>
 kla (prt [] p7) 2 v10 fun v11 =>
 kla (prt [] p7) 2 v2 fun v12 =>
 kea false [(0, .s), (1, .s)] v11 v12 fun v13 =>
 kif v13
 (k [q21] p7)
 (kad v6 q12 fun v14 =>
 r5 v14 p7))
 (j4 p7)) q0 p3) fun p15 =>
 k [q11] p15
theorem o195 : FO EN 195 f195 := fe 2 tnil [some [], some [5], none, none, none] (by kernel_rfl) fun p s k => by kernel_rfl
def f22 : FT := fun p s k => hd s fun a0 s0 =>
 hd s0 fun a1 s1 =>
 nl s1 <|
 kbx p 2 a0 fun v2 p3 =>
 kbx p3 2 a1 fun v4 p5 =>
 kfa 0 v2 fun v6 =>
 kld p5 v6 fun v7 =>
 kfa 0 v4 fun v8 =>
 kld p5 v8 fun v9 =>
 klt v7 v9 fun v10 =>
 jn 6 (fun j11 => gdK v10 false (kfa 0 v2 fun v12 =>
 kld p5 v12 fun v13 =>
 kfa 0 v4 fun v14 =>
 kld p5 v14 fun v15 =>
 keq false .s v13 v15 fun v16 =>
 j11 v12 v13 v14 v15 v16 v16 p5) (j11 .undef .undef .undef .undef .undef .undef p5)) fun v17 v18 v19 v20 v21 v22 p23 =>
 jn 5 (fun j24 => gdK v22 true (kfa 1 v2 fun v25 =>
 kld p23 v25 fun v26 =>
 kfa 1 v4 fun v27 =>
 kld p23 v27 fun v28 =>
 klt v26 v28 fun v29 =>
 j24 v25 v26 v27 v28 v29 p23) (j24 .undef .undef .undef .undef .undef p23)) fun v30 v31 v32 v33 v34 p35 =>
 jn 1 (fun j36 => gdK v10 false (kpk v22 v34 q11 fun v37 =>
 j36 v37 p35) (j36 .undef p35)) fun v38 p39 =>
 kpk v10 q21 v38 fun v40 =>
 k [v40] p39
theorem o22 : FO EN 22 f22 := fe 2 tnil [] (by kernel_rfl) fun p s k => by kernel_rfl
def f155 : FT := fun p s k => hd s fun a0 s0 =>
 hd s0 fun a1 s1 =>
 nl s1 <|
 kbx p 2 a1 fun v2 p3 =>
 kla p3 2 v2 fun v4 =>
 cn f195 p3 [a0, v4] fun v5 p6 =>
 kif v5
 (k [a0] p6)
 (jn 2 (fun j7 =>
 lp 3 fuel (fun r8 v9 v10 v11 p12 =>
 kln a0 fun v13 =>
 klt v11 v13 fun v14 =>
 kif v14
 (knt v10 fun v15 =>
 jn 6 (fun j16 => gdK v15 true (kla (prt [] p12) 2 v2 fun v17 =>
 kia 2 a0 v11 fun v18 =>
 kla (prt [] p12) 2 v18 fun v19 =>
 cn f22 p12 [v17, v19] fun v20 p21 =>
 j16 v17 a0 v11 v18 v19 v20 p21) (j16 .undef .undef .undef .undef .undef .undef p12)) fun v22 v23 v24 v25 v26 v27 p28 =>
 kpk v15 v27 q11 fun v29 =>
 jn 2 (fun j30 => kif v29
 (kla p28 2 v2 fun v31 =>
 kbs p28 1 q30 [(0, 2, v31)] fun v32 p33 =>
 kap p33 2 32 v9 v32 fun v34 p35 =>
 j30 v34 q21 p35)
 (j30 v9 v10 p28)) fun v36 v37 p38 =>
 kia 2 a0 v11 fun v39 =>
 kla p38 2 v39 fun v40 =>
 kbs p38 1 q30 [(0, 2, v40)] fun v41 p42 =>
 kap p42 2 32 v36 v41 fun v43 p44 =>
 kad v11 q12 fun v45 =>
 r8 v43 v37 v45 p44)
 (j7 v9 v10 p12)) .nils q11 q0 p6) fun v46 v47 p48 =>
 knt v47 fun v49 =>
 jn 1 (fun j50 => kif v49
 (kla p48 2 v2 fun v51 =>
 kbs p48 1 q30 [(0, 2, v51)] fun v52 p53 =>
 kap p53 2 32 v46 v52 fun v54 p55 =>
 j50 v54 p55)
 (j50 v46 p48)) fun v56 p57 =>
 k [v56] p57)
theorem o155 : FO EN 155 f155 := fe 2 (tc (cn_ok o195) (tc (cn_ok o22) tnil)) [none, some [5, 6], some [5, 6, 7], none, none, some [5, 6], some [5]] (by kernel_rfl) fun p s k => by kernel_rfl
def f95 : FT := fun p s k => hd s fun a0 s0 =>
 nl s0 <|
 jn 1 (fun j1 =>
 lp 2 fuel (fun r2 v3 v4 p5 =>
 kln a0 fun v6 =>
 klt v4 v6 fun v7 =>
 kif v7
 (kia 6 a0 v4 fun v8 =>
 kfa 0 v8 fun v9 =>
 kfa 0 v9 fun v10 =>
 kla (prt [] p5) 2 v10 fun v11 =>
 ci f155 (prt [] p5) [v3, v11] fun v12 p13 =>
 unpK p5 p13 fun p14 =>
 kia 6 a0 v4 fun v15 =>
 kfa 3 v15 fun v16 =>
 kfa 0 v16 fun v17 =>
 kla (prt [(p5.next, p13.next)] p14) 2 v17 fun v18 =>
 ci f155 p14 [v12, v18] fun v19 p20 =>
 kad v4 q12 fun v21 =>
 r2 v19 v21 p20)
 (j1 v3 p5)) .nils q0 p) fun v22 p23 =>
 k [v22] p23
theorem o95 : FO EN 95 f95 := fe 1 (tc (ci_ok o155) tnil) [some [3], some [3, 4], none, none] (by kernel_rfl) fun p s k => by kernel_rfl
def f45 : FT := fun p s k => hd s fun a0 s0 =>
 hd s0 fun a1 s1 =>
 nl s1 <|
 kbx p 1 a0 fun v2 p3 =>
 cn f95 p3 [a1] fun v4 p5 =>
 kla p5 1 v2 fun v6 =>
 cc f44 p5 [v6] fun v7 p8 =>
 jn 1 (fun j9 =>
 lp 2 fuel (fun r10 v11 v12 p13 =>
 kln v4 fun v14 =>
 klt v12 v14 fun v15 =>
 kif v15
 (jn 1 (fun j16 =>
 jn 1 (fun j17 =>
 lp 2 fuel (fun r18 v19 v20 p21 =>
 kln v7 fun v22 =>
 klt v20 v22 fun v23 =>
 kif v23
 (kia 2 v7 v20 fun v24 =>
 kfa 0 v24 fun v25 =>
 kld (prt [] p21) v25 fun v26 =>
 kia 2 v4 v12 fun v27 =>
 kfa 0 v27 fun v28 =>
 kld (prt [] p21) v28 fun v29 =>
 keq false .s v26 v29 fun v30 =>
 jn 1 (fun j31 => kif v30
 (kia 2 v4 v12 fun v32 =>
 kla (prt [] p21) 2 v32 fun v33 =>
 kia 2 v7 v20 fun v34 =>
 kfa 1 v34 fun v35 =>
 kld (prt [] p21) v35 fun v36 =>
 kbd q29 [(0, 2, v33), (2, 1, v36)] fun v37 =>
 kbs p21 1 q29 [(0, 3, v37)] fun v38 p39 =>
 kap p39 3 48 v19 v38 fun v40 p41 =>
 j31 v40 p41)
 (j31 v19 p21)) fun v42 p43 =>
 kad v20 q12 fun v44 =>
 r18 v42 v44 p43)
 (j17 v19 p21)) v11 q0 p13) fun v45 p46 =>
 j16 v45 p46) fun v47 p48 =>
 kad v12 q12 fun v49 =>
 r10 v47 v49 p48)
 (j9 v11 p13)) .nils q0 p8) fun v50 p51 =>
 k [v50] p51
theorem o45 : FO EN 45 f45 := fe 2 (tc (cn_ok o95) (tc (cc_ok o44) tnil)) [some [5], some [5, 8], none, some [5], some [5], some [5, 9], none, none, some [5]] (by kernel_rfl) fun p s k => by kernel_rfl
def f16 : FT := fun p s k => hd s fun a0 s0 =>
 hd s0 fun a1 s1 =>
 nl s1 <|
 kbx p 1 a0 fun v2 p3 =>
 kal p3 q93 fun v4 p5 =>
 kla p5 1 v2 fun v6 =>
 cc f43 p5 [v6] fun v7 p8 =>
 cc f42 p8 [v7] fun v9 p10 =>
 kex v9 0 fun v11 =>
 kex v9 1 fun v12 =>
 kla (prt [] p10) 1 v2 fun v13 =>
 kla (prt [] p10) 1 v2 fun v14 =>
 cc f44 (prt [] p10) [v14] fun v15 p16 =>
 unpK p10 p16 fun p17 =>
 kla (prt [(p10.next, p16.next)] p17) 1 v2 fun v18 =>
 cn f45 (prt [] p17) [v18, a1] fun v19 p20 =>
 unpK p17 p20 fun p21 =>
 kbd q93 [(0, 1, v13), (1, 1, a1), (2, 1, v15), (3, 1, v11), (4, 1, v19)] fun v22 =>
 kst p21 5 v4 v22 fun p23 =>
 kra p23 5 v4 fun v24 =>
 k [v24] p23
theorem o16 : FO EN 16 f16 := fe 2 (tc (cc_ok o43) (tc (cc_ok o42) (tc (cc_ok o44) (tc (cn_ok o45) tnil)))) [] (by kernel_rfl) fun p s k => by kernel_rfl
def f5 : FT := fun p s k => hd s fun a0 s0 =>
 hd s0 fun a1 s1 =>
 nl s1 <|
 kbx p 1 a0 fun v2 p3 =>
 kal p3 q93 fun v4 p5 =>
 kal p5 q92 fun v6 p7 =>
 ci f13 p7 [a1] fun v8 p9 =>
 cn f14 p9 [v8] fun v10 p11 =>
 kex v10 0 fun v12 =>
 kex v10 1 fun v13 =>
 kal p11 q35 fun v14 p15 =>
 kst p15 4 v14 v12 fun p16 =>
 kla p16 1 v2 fun v17 =>
 kla p16 4 v14 fun v18 =>
 cn f15 p16 [v17, v18] fun v19 p20 =>
 kex v19 0 fun v21 =>
 kex v19 1 fun v22 =>
 kal p20 q92 fun v23 p24 =>
 kst p24 5 v23 v21 fun p25 =>
 kla (prt [] p25) 1 v2 fun v26 =>
 cn f16 (prt [] p25) [v26, v8] fun v27 p28 =>
 unpK p25 p28 fun p29 =>
 kla (prt [(p25.next, p28.next)] p29) 5 v23 fun v30 =>
 keq false .i v13 q0 fun v31 =>
 jn 2 (fun j32 => gdK v31 true (keq false .i v22 q0 fun v33 =>
 j32 v22 v33 p29) (j32 .undef .undef p29)) fun v34 v35 _ =>
 kpk v31 v35 q11 fun v37 =>
 kps p29 [] [v23] 5 v4 v27 fun b38 p39 =>
 kst p39 5 v6 v30 fun p40 =>
 kra p40 5 v4 fun v41 =>
 kra p40 5 v6 fun v42 =>
 k [v41, v42, v37] p40
theorem o5 : FO EN 5 f5 := fe 2 (tc (ci_ok o13) (tc (cn_ok o14) (tc (cn_ok o15) (tc (cn_ok o16) tnil)))) [] (by kernel_rfl) fun p s k => by kernel_rfl
def f17 : FT := fun p s k => hd s fun a0 s0 =>
 hd s0 fun a1 s1 =>
 nl s1 <|
 kbx p 5 a0 fun v2 p3 =>
 kbx p3 3 a1 fun v4 p5 =>
 kfa 0 v2 fun v6 =>
 kla p5 1 v6 fun v7 =>
 kfa 0 v4 fun v8 =>
 kfa 0 v8 fun v9 =>
 kld p5 v9 fun v10 =>
 kfa 2 v4 fun v11 =>
 kld p5 v11 fun v12 =>
 cn f46 p5 [v7, v10, v12] fun v13 p14 =>
 kex v13 0 fun v15 =>
 kex v13 1 fun v16 =>
 kal p14 q69 fun v17 p18 =>
 kst p18 6 v17 v15 fun p19 =>
 kfa 2 v17 fun v20 =>
 kla p19 4 v20 fun v21 =>
 ci f47 p19 [.nils, v21, q11] fun v22 p23 =>
 jn 1 (fun j24 =>
 lp 2 fuel (fun r25 v26 v27 p28 =>
 kln v22 fun v29 =>
 klt v27 v29 fun v30 =>
 kif v30
 (jn 1 (fun j31 =>
 kia 5 v22 v27 fun v32 =>
 kfa 0 v32 fun v33 =>
 kld p28 v33 fun v34 =>
 keq false .i v34 q43 fun v35 =>
 jn 1 (fun j36 => kif v35
 (kfa 0 v4 fun v37 =>
 kla (prt [] p28) 2 v37 fun v38 =>
 kia 5 v22 v27 fun v39 =>
 kfa 1 v39 fun v40 =>
 kld (prt [] p28) v40 fun v41 =>
 kbd q29 [(0, 2, v38), (2, 1, v41)] fun v42 =>
 kbs p28 1 q29 [(0, 3, v42)] fun v43 p44 =>
 kap p44 3 48 v26 v43 fun v45 p46 =>
 j36 v45 p46)
 (j36 v26 p28)) fun v47 p48 =>
 kfa 0 v2 fun v49 =>
 kla (prt [] p48) 1 v49 fun v50 =>
 kfa 0 v4 fun v51 =>
 kfa 0 v51 fun v52 =>
 kld (prt [] p48) v52 fun v53 =>
 kia 5 v22 v27 fun v54 =>
 kfa 1 v54 fun v55 =>
 kld (prt [] p48) v55 fun v56 =>
 kia 5 v22 v27 fun v57 =>
 kfa 2 v57 fun v58 =>
 kld (prt [] p48) v58 fun v59 =>
 cn f48 p48 [v50, v53, v56, v59] fun v60 p61 =>
 jn 1 (fun j62 =>
 lp 2 fuel (fun r63 v64 v65 p66 =>
 kfa 1 v2 fun v67 =>
 kld p66 v67 fun v68 =>
 kln v68 fun v69 =>
 klt v65 v69 fun v70 =>
 kif v70
 (jn 1 (fun j71 =>
 kfa 1 v2 fun v72 =>
 kld p66 v72 fun v73 =>
 kia 6 v73 v65 fun v74 =>
 kla p66 6 v74 fun v75 =>
 kal p66 q22 fun v76 p77 =>
 kst p77 6 v76 v75 fun p78 =>
 kia 5 v22 v27 fun v79 =>
 kfa 0 v79 fun v80 =>
 kld p78 v80 fun v81 =>
 keq false .i v81 q44 fun v82 =>
 jn 4 (fun j83 => gdK v82 true (kfa 0 v76 fun v84 =>
 kla p78 3 v84 fun v85 =>
 kla p78 3 v4 fun v86 =>
 kea false [(0, .s), (1, .s), (2, .s)] v85 v86 fun v87 =>
 j83 v84 v85 v86 v87 p78) (j83 .undef .undef .undef .undef p78)) fun v88 v89 v90 v91 p92 =>
 kpk v82 v91 q11 fun v93 =>
 jn 4 (fun j94 => gdK v93 true (kfa 3 v76 fun v95 =>
 kfa 2 v95 fun v96 =>
 kld p92 v96 fun v97 =>
 keq true .s v97 q31 fun v98 =>
 j94 v95 v96 v97 v98 p92) (j94 .undef .undef .undef .undef p92)) fun v99 v100 v101 v102 p103 =>
 kpk v93 v102 q11 fun v104 =>
 jn 1 (fun j105 => kif v104
 (kfa 3 v76 fun v106 =>
 kfa 0 v106 fun v107 =>
 kla p103 2 v107 fun v108 =>
 kfa 3 v76 fun v109 =>
 kfa 2 v109 fun v110 =>
 kld p103 v110 fun v111 =>
 kbd q29 [(0, 2, v108), (2, 1, v111)] fun v112 =>
 kbs p103 1 q29 [(0, 3, v112)] fun v113 p114 =>
 kap p114 3 48 v64 v113 fun v115 p116 =>
 j105 v115 p116)
 (j105 v64 p103)) fun v117 p118 =>
 jn 1 (fun j119 =>
 lp 2 fuel (fun r120 v121 v122 p123 =>
 kln v60 fun v124 =>
 klt v122 v124 fun v125 =>
 jn 6 (fun j126 => gdK v125 true (kia 5 v22 v27 fun v127 =>
 kfa 0 v127 fun v128 =>
 kld p123 v128 fun v129 =>
 keq false .i v129 q45 fun v130 =>
 j126 v22 v27 v127 v128 v129 v130 p123) (j126 .undef .undef .undef .undef .undef .undef p123)) fun v131 v132 v133 v134 v135 v136 p137 =>
 kpk v125 v136 q11 fun v138 =>
 kif v138
 (kfa 0 v76 fun v139 =>
 kla (prt [] p137) 3 v139 fun v140 =>
 kfa 0 v4 fun v141 =>
 kla (prt [] p137) 2 v141 fun v142 =>
 kia 5 v22 v27 fun v143 =>
 kfa 1 v143 fun v144 =>
 kld (prt [] p137) v144 fun v145 =>
 kbd q29 [(0, 2, v142), (2, 1, v145)] fun v146 =>
 kea false [(0, .s), (1, .s), (2, .s)] v140 v146 fun v147 =>
 jn 4 (fun j148 => gdK v147 true (kfa 3 v76 fun v149 =>
 kfa 2 v149 fun v150 =>
 kld p137 v150 fun v151 =>
 keq false .s v151 q31 fun v152 =>
 j148 v149 v150 v151 v152 p137) (j148 .undef .undef .undef .undef p137)) fun v153 v154 v155 v156 _ =>
 kpk v147 v156 q11 fun v158 =>
 jn 9 (fun j159 => gdK v158 true (kfa 3 v76 fun v160 =>
 kfa 0 v160 fun v161 =>
 kfa 0 v161 fun v162 =>
 kld (prt [] p137) v162 fun v163 =>
 kia 1 v60 v122 fun v164 =>
 kld (prt [] p137) v164 fun v165 =>
 keq false .s v163 v165 fun v166 =>
 j159 v160 v161 v162 v163 v60 v122 v164 v165 v166 p137) (j159 .undef .undef .undef .undef .undef .undef .undef .undef .undef p137)) fun v167 v168 v169 v170 v171 v172 v173 v174 v175 _ =>
 kpk v158 v175 q11 fun v177 =>
 jn 1 (fun j178 => kif v177
 (kfa 3 v76 fun v179 =>
 kfa 0 v179 fun v180 =>
 kla (prt [] p137) 2 v180 fun v181 =>
 kia 5 v22 v27 fun v182 =>
 kfa 2 v182 fun v183 =>
 kld (prt [] p137) v183 fun v184 =>
 kbd q29 [(0, 2, v181), (2, 1, v184)] fun v185 =>
 kbs p137 1 q29 [(0, 3, v185)] fun v186 p187 =>
 kap p187 3 48 v121 v186 fun v188 p189 =>
 j178 v188 p189)
 (j178 v121 p137)) fun v190 p191 =>
 kad v122 q12 fun v192 =>
 r120 v190 v192 p191)
 (j119 v121 p137)) v117 q0 p118) fun v193 p194 =>
 j71 v193 p194) fun v195 p196 =>
 kad v65 q12 fun v197 =>
 r63 v195 v197 p196)
 (j62 v64 p66)) v47 q0 p61) fun v198 p199 =>
 j31 v198 p199) fun v200 p201 =>
 kad v27 q12 fun v202 =>
 r25 v200 v202 p201)
 (j24 v26 p28)) .nils q0 p23) fun v203 p204 =>
 k [v203] p204
theorem o17 : FO EN 17 f17 := fe 2 (tc (cn_ok o46) (tc (ci_ok o47) (tc (cn_ok o48) tnil))) [some [5], some [5, 9], none, some [5], some [5], some [5], some [5, 11], none, some [5], some [5], some [5], some [5, 13], none, none, some [5]] (by kernel_rfl) fun p s k => by kernel_rfl
def f18 : FT := fun p s k => hd s fun a0 s0 =>
 hd s0 fun a1 s1 =>
 nl s1 <|
 kbx p 3 a1 fun v2 p3 =>
 jn 0 (fun j4 =>
 lp 1 fuel (fun r5 v6 p7 =>
 kln a0 fun v8 =>
 klt v6 v8 fun v9 =>
 kif v9
 (kia 3 a0 v6 fun v10 =>
 kla (prt [] p7) 3 v10 fun v11 =>
 kla (prt [] p7) 3 v2 fun v12 =>
 kea false [(0, .s), (1, .s), (2, .s)] v11 v12 fun v13 =>
 kif v13
 (k [v6] p7)
 (kad v6 q12 fun v14 =>
 r5 v14 p7))
 (j4 p7)) q0 p3) fun p15 =>
 k [q34] p15
theorem o18 : FO EN 18 f18 := fe 2 tnil [some [], some [5], none, none, none] (by kernel_rfl) fun p s k => by kernel_rfl
def f6 : FT := fun p s k => hd s fun a0 s0 =>
 hd s0 fun a1 s1 =>
 nl s1 <|
 kbx p 5 a0 fun v2 p3 =>
 kbx p3 3 a1 fun v4 p5 =>
 kla p5 3 v4 fun v6 =>
 kbs p5 1 q29 [(0, 3, v6)] fun v7 p8 =>
 jn 2 (fun j9 =>
 lp 3 fuel (fun r10 v11 v12 v13 p14 =>
 kln v11 fun v15 =>
 klt v13 v15 fun v16 =>
 kif v16
 (jn 2 (fun j17 =>
 kla (prt [] p14) 5 v2 fun v18 =>
 kia 3 v11 v13 fun v19 =>
 kla (prt [] p14) 3 v19 fun v20 =>
 cn f17 p14 [v18, v20] fun v21 p22 =>
 kln v21 fun v23 =>
 kad v12 v23 fun v24 =>
 jn 1 (fun j25 =>
 lp 2 fuel (fun r26 v27 v28 p29 =>
 kln v21 fun v30 =>
 klt v28 v30 fun v31 =>
 kif v31
 (kia 3 v21 v28 fun v32 =>
 kla p29 3 v32 fun v33 =>
 cn f18 p29 [v27, v33] fun v34 p35 =>
 klt v34 q0 fun v36 =>
 jn 1 (fun j37 => kif v36
 (kia 3 v21 v28 fun v38 =>
 kla p35 3 v38 fun v39 =>
 kbs p35 1 q29 [(0, 3, v39)] fun v40 p41 =>
 kap p41 3 48 v27 v40 fun v42 p43 =>
 j37 v42 p43)
 (j37 v27 p35)) fun v44 p45 =>
 kad v28 q12 fun v46 =>
 r26 v44 v46 p45)
 (j25 v27 p29)) v11 q0 p22) fun v47 p48 =>
 j17 v47 v24 p48) fun v49 v50 p51 =>
 kad v13 q12 fun v52 =>
 r10 v49 v50 v52 p51)
 (j9 v11 v12 p14)) v7 q0 q0 p8) fun v53 v54 p55 =>
 k [v53, v54] p55
theorem o6 : FO EN 6 f6 := fe 2 (tc (cn_ok o17) (tc (cn_ok o18) tnil)) [some [6, 7], some [6, 7, 8], none, some [6, 7], some [6], some [6, 10], none, none, some [6]] (by kernel_rfl) fun p s k => by kernel_rfl
def t98 : List Ce := [⟨73, cc f73⟩]
def f98 : FT := fun p s k => hd s fun a0 s0 =>
 hd s0 fun a1 s1 =>
 nl s1 <|
 kbx p 2 a0 fun v2 p3 =>
 kbx p3 3 a1 fun v4 p5 =>
 kfa 1 v2 fun v6 =>
 kld p5 v6 fun v7 =>
 jn 0 (fun j8 =>
 lp 1 fuel (fun r9 v10 p11 =>
 ken true .p v10 .nilp fun v12 =>
 kif v12
 (kfa 0 v2 fun v13 =>
 kld (prt [] p11) v13 fun v14 =>
 kla (prt [] p11) 3 v4 fun v15 =>
 knc mth v10 fun v16 =>
 kfa 0 v16 fun v17 =>
 kfa 0 v17 fun v18 =>
 kla (prt [] p11) 3 v18 fun v19 =>
 kcv t98 p11 v14 [v15, v19] fun v20 p21 =>
 keq false .i v20 q0 fun v22 =>
 kif v22
 (knc mth v10 fun v23 =>
 kfa 0 v23 fun v24 =>
 kfa 3 v24 fun v25 =>
 kld p21 v25 fun v26 =>
 k [v26, q21] p21)
 (klt v20 q0 fun v27 =>
 jn 1 (fun j28 => kif v27
 (knc mth v10 fun v29 =>
 kfa 4 v29 fun v30 =>
 kld p21 v30 fun v31 =>
 j28 v31 p21)
 (knc mth v10 fun v32 =>
 kfa 5 v32 fun v33 =>
 kld p21 v33 fun v34 =>
 j28 v34 p21)) fun v35 p36 =>
 r9 v35 p36))
 (j8 p11)) v7 p5) fun p37 =>
 k [q0, q11] p37
theorem o98 : FO EN 98 f98 := fe 2 (T := t98) (tc (cc_ok o73) tnil) [some [], some [6], none, none, none, some [6]] (by kernel_rfl) fun p s k => by kernel_rfl
def f50 : FT := fun p s k => hd s fun a0 s0 =>
 hd s0 fun a1 s1 =>
 nl s1 <|
 kbx p 4 a0 fun v2 p3 =>
 kbx p3 3 a1 fun v4 p5 =>
 kfa 2 v2 fun v6 =>
 kla p5 2 v6 fun v7 =>
 kla p5 3 v4 fun v8 =>
 cn f98 p5 [v7, v8] fun v9 p10 =>
 kex v9 0 fun v11 =>
 kex v9 1 fun v12 =>
 k [v11, v12] p10
theorem o50 : FO EN 50 f50 := fe 2 (tc (cn_ok o98) tnil) [] (by kernel_rfl) fun p s k => by kernel_rfl
def f157 : FT := fun p s k => hd s fun a0 s0 =>
 nl s0 <|
 ken false .p a0 .nilp fun v1 =>
 kif v1
 (k [q0] p)
 (knc mth a0 fun v2 =>
 kfa 6 v2 fun v3 =>
 kld p v3 fun v4 =>
 k [v4] p)
theorem o157 : FO EN 157 f157 := fe 1 tnil [none] (by kernel_rfl) fun p s k => by kernel_rfl
def f99 : FT := fun p s k => hd s fun a0 s0 =>
 nl s0 <|
 kbx p 2 a0 fun v1 p2 =>
 kfa 1 v1 fun v3 =>
 kld p2 v3 fun v4 =>
 cc f157 p2 [v4] fun v5 p6 =>
 k [v5] p6
theorem o99 : FO EN 99 f99 := fe 1 (tc (cc_ok o157) tnil) [] (by kernel_rfl) fun p s k => by kernel_rfl
def f51 : FT := fun p s k => hd s fun a0 s0 =>
 nl s0 <|
 kbx p 4 a0 fun v1 p2 =>
 kfa 0 v1 fun v3 =>
 kla p2 2 v3 fun v4 =>
 cn f99 p2 [v4] fun v5 p6 =>
 k [v5] p6
theorem o51 : FO EN 51 f51 := fe 1 (tc (cn_ok o99) tnil) [] (by kernel_rfl) fun p s k => by kernel_rfl
def f100 : FT := fun p s k => hd s fun a0 s0 =>
 nl s0 <|
 kal p q32 fun v1 p2 =>
 kbd q32 [(0, 1, a0)] fun v3 =>
 kst p2 2 v1 v3 fun p4 =>
 kra p4 2 v1 fun v5 =>
 k [v5] p4
theorem o100 : FO EN 100 f100 := fe 1 tnil [] (by kernel_rfl) fun p s k => by kernel_rfl
def f102 : FT := fun p s k => hd s fun a0 s0 =>
 nl s0 <|
 kal p q32 fun v1 p2 =>
 kbd q32 [(0, 1, a0)] fun v3 =>
 kst p2 2 v1 v3 fun p4 =>
 kra p4 2 v1 fun v5 =>
 k [v5] p4
theorem o102 : FO EN 102 f102 := fe 1 tnil [] (by kernel_rfl) fun p s k => by kernel_rfl
def f52 : FT := fun p s k => hd s fun a0 s0 =>
 nl s0 <|
 kbx p 4 a0 fun v1 p2 =>
 kal p2 q35 fun v3 p4 =>
 kfa 0 v1 fun v5 =>
 kla p4 2 v5 fun v6 =>
 cn f99 p4 [v6] fun v7 p8 =>
 keq false .i v7 q0 fun v9 =>
 jn 0 (fun j10 => kif v9
 (cn f100 p8 [q94] fun v11 p12 =>
 kfa 0 v1 fun v13 =>
 kst p12 2 v13 v11 fun p14 =>
 cn f102 p14 [q95] fun v15 p16 =>
 kfa 2 v1 fun v17 =>
 kst p16 2 v17 v15 fun p18 =>
 j10 p18)
 (j10 p8)) fun p19 =>
 kla p19 4 v1 fun v20 =>
 kst p19 4 v3 v20 fun p21 =>
 kra p21 4 v3 fun v22 =>
 k [v22] p21
theorem o52 : FO EN 52 f52 := fe 1 (tc (cn_ok o99) (tc (cn_ok o100) (tc (cn_ok o102) tnil))) [some []] (by kernel_rfl) fun p s k => by kernel_rfl
def f196 : FT := fun p s k => hd s fun a0 s0 =>
 nl s0 <|
 ken false .p a0 .nilp fun v1 =>
 kif v1
 (k [q0] p)
 (knc mth a0 fun v2 =>
 kfa 7 v2 fun v3 =>
 kld p v3 fun v4 =>
 k [v4] p)
theorem o196 : FO EN 196 f196 := fe 1 tnil [none] (by kernel_rfl) fun p s k => by kernel_rfl
def f159 : FT := fun p s k => hd s fun a0 s0 =>
 hd s0 fun a1 s1 =>
 hd s1 fun a2 s2 =>
 nl s2 <|
 kbx p 4 a0 fun v3 p4 =>
 kla (prt [] p4) 4 v3 fun v5 =>
 cc f157 (prt [] p4) [a1] fun v6 p7 =>
 unpK p4 p7 fun p8 =>
 kad v6 q12 fun v9 =>
 cc f157 (prt [] p8) [a2] fun v10 p11 =>
 unpK p8 p11 fun p12 =>
 kad v9 v10 fun v13 =>
 cc f196 (prt [] p12) [a1] fun v14 p15 =>
 unpK p12 p15 fun p16 =>
 cc f196 (prt [] p16) [a2] fun v17 p18 =>
 unpK p16 p18 fun p19 =>
 ksw mth p19 (.minmax true [(.c v14), (.c v17)]) fun v20 p21 =>
 kad q12 v20 fun v22 =>
 kbd q96 [(0, 4, v5), (4, 1, a1), (5, 1, a2), (6, 1, v13), (7, 1, v22)] fun v23 =>
 kbx p19 8 v23 fun v24 p25 =>
 k [v24] p25
theorem o159 : FO EN 159 f159 := fe 3 (tc (cc_ok o157) (tc (cc_ok o196) tnil)) [] (by kernel_rfl) fun p s k => by kernel_rfl
def f160 : FT := fun p s k => hd s fun a0 s0 =>
 hd s0 fun a1 s1 =>
 hd s1 fun a2 s2 =>
 nl s2 <|
 kbx p 4 a0 fun v3 p4 =>
 cc f196 p4 [a1] fun v5 p6 =>
 cc f196 p6 [a2] fun v7 p8 =>
 ksb v5 v7 fun v9 =>
 kgt v9 q12 fun v10 =>
 jn 11 (fun j11 => gdK v10 true (knc mth a1 fun v12 =>
 kfa 4 v12 fun v13 =>
 kld (prt [] p8) v13 fun v14 =>
 cc f196 (prt [] p8) [v14] fun v15 p16 =>
 unpK p8 p16 fun p17 =>
 knc mth a1 fun v18 =>
 kfa 5 v18 fun v19 =>
 kld (prt [(p8.next, p16.next)] p17) v19 fun v20 =>
 cc f196 p17 [v20] fun v21 p22 =>
 kge v15 v21 fun v23 =>
 j11 a1 v12 v13 v14 v15 a1 v18 v19 v20 v21 v23 p22) (j11 .undef .undef .undef .undef .undef .undef .undef .undef .undef .undef .undef p8)) fun v24 v25 v26 v27 v28 v29 v30 v31 v32 v33 v34 p35 =>
 kpk v10 v34 q11 fun v36 =>
 kif v36
 (knc mth a1 fun v37 =>
 kfa 0 v37 fun v38 =>
 kla (prt [] p35) 4 v38 fun v39 =>
 knc mth a1 fun v40 =>
 kfa 4 v40 fun v41 =>
 kld (prt [] p35) v41 fun v42 =>
 kla (prt [] p35) 4 v3 fun v43 =>
 knc mth a1 fun v44 =>
 kfa 5 v44 fun v45 =>
 kld (prt [] p35) v45 fun v46 =>
 cn f159 (prt [] p35) [v43, v46, a2] fun v47 p48 =>
 unpK p35 p48 fun p49 =>
 cn f159 p49 [v39, v42, v47] fun v50 p51 =>
 k [v50] p51)
 (kgt v9 q12 fun v52 =>
 kif v52
 (knc mth a1 fun v53 =>
 kfa 5 v53 fun v54 =>
 kld p35 v54 fun v55 =>
 knc mth v55 fun v56 =>
 kfa 0 v56 fun v57 =>
 kla (prt [] p35) 4 v57 fun v58 =>
 knc mth a1 fun v59 =>
 kfa 0 v59 fun v60 =>
 kla (prt [] p35) 4 v60 fun v61 =>
 knc mth a1 fun v62 =>
 kfa 4 v62 fun v63 =>
 kld (prt [] p35) v63 fun v64 =>
 knc mth v55 fun v65 =>
 kfa 4 v65 fun v66 =>
 kld (prt [] p35) v66 fun v67 =>
 cn f159 (prt [] p35) [v61, v64, v67] fun v68 p69 =>
 unpK p35 p69 fun p70 =>
 kla (prt [(p35.next, p69.next)] p70) 4 v3 fun v71 =>
 knc mth v55 fun v72 =>
 kfa 5 v72 fun v73 =>
 kld (prt [(p35.next, p69.next)] p70) v73 fun v74 =>
 cn f159 (prt [] p70) [v71, v74, a2] fun v75 p76 =>
 unpK p70 p76 fun p77 =>
 cn f159 p77 [v58, v68, v75] fun v78 p79 =>
 k [v78] p79)
 (klt v9 q34 fun v80 =>
 jn 11 (fun j81 => gdK v80 true (knc mth a2 fun v82 =>
 kfa 5 v82 fun v83 =>
 kld (prt [] p35) v83 fun v84 =>
 cc f196 (prt [] p35) [v84] fun v85 p86 =>
 unpK p35 p86 fun p87 =>
 knc mth a2 fun v88 =>
 kfa 4 v88 fun v89 =>
 kld (prt [(p35.next, p86.next)] p87) v89 fun v90 =>
 cc f196 p87 [v90] fun v91 p92 =>
 kge v85 v91 fun v93 =>
 j81 a2 v82 v83 v84 v85 a2 v88 v89 v90 v91 v93 p92) (j81 .undef .undef .undef .undef .undef .undef .undef .undef .undef .undef .undef p35)) fun v94 v95 v96 v97 v98 v99 v100 v101 v102 v103 v104 p105 =>
 kpk v80 v104 q11 fun v106 =>
 kif v106
 (knc mth a2 fun v107 =>
 kfa 0 v107 fun v108 =>
 kla (prt [] p105) 4 v108 fun v109 =>
 kla (prt [] p105) 4 v3 fun v110 =>
 knc mth a2 fun v111 =>
 kfa 4 v111 fun v112 =>
 kld (prt [] p105) v112 fun v113 =>
 cn f159 (prt [] p105) [v110, a1, v113] fun v114 p115 =>
 unpK p105 p115 fun p116 =>
 knc mth a2 fun v117 =>
 kfa 5 v117 fun v118 =>
 kld (prt [(p105.next, p115.next)] p116) v118 fun v119 =>
 cn f159 p116 [v109, v114, v119] fun v120 p121 =>
 k [v120] p121)
 (klt v9 q34 fun v122 =>
 kif v122
 (knc mth a2 fun v123 =>
 kfa 4 v123 fun v124 =>
 kld p105 v124 fun v125 =>
 knc mth v125 fun v126 =>
 kfa 0 v126 fun v127 =>
 kla (prt [] p105) 4 v127 fun v128 =>
 kla (prt [] p105) 4 v3 fun v129 =>
 knc mth v125 fun v130 =>
 kfa 4 v130 fun v131 =>
 kld (prt [] p105) v131 fun v132 =>
 cn f159 (prt [] p105) [v129, a1, v132] fun v133 p134 =>
 unpK p105 p134 fun p135 =>
 knc mth a2 fun v136 =>
 kfa 0 v136 fun v137 =>
 kla (prt [(p105.next, p134.next)] p135) 4 v137 fun v138 =>
 knc mth v125 fun v139 =>
 kfa 5 v139 fun v140 =>
 kld (prt [(p105.next, p134.next)] p135) v140 fun v141 =>
 knc mth a2 fun v142 =>
 kfa 5 v142 fun v143 =>
 kld (prt [(p105.next, p134.next)] p135) v143 fun v144 =>
 cn f159 (prt [] p135) [v138, v141, v144] fun v145 p146 =>
 unpK p135 p146 fun p147 =>
 cn f159 p147 [v128, v133, v145] fun v148 p149 =>
 k [v148] p149)
 (kla p105 4 v3 fun v150 =>
 cn f159 p105 [v150, a1, a2] fun v151 p152 =>
 k [v151] p152))))
theorem o160 : FO EN 160 f160 := fe 3 (tc (cc_ok o196) (tc (cn_ok o159) tnil)) [none, none, none, none, none] (by kernel_rfl) fun p s k => by kernel_rfl
def t103 (self : FT) : List Ce := [⟨159, cn f159⟩, ⟨103, cn self⟩, ⟨160, cn f160⟩, ⟨101, cc f101⟩]
def g103 : FT → FT := fun self => fun p s k => hd s fun a0 s0 =>
 hd s0 fun a1 s1 =>
 hd s1 fun a2 s2 =>
 nl s2 <|
 kbx p 2 a0 fun v3 p4 =>
 kbx p4 4 a2 fun v5 p6 =>
 ken false .p a1 .nilp fun v7 =>
 kif v7
 (kla p6 4 v5 fun v8 =>
 cn f159 p6 [v8, .nilp, .nilp] fun v9 p10 =>
 k [v9] p10)
 (kfa 0 v3 fun v11 =>
 kld (prt [] p6) v11 fun v12 =>
 kfa 0 v5 fun v13 =>
 kld (prt [] p6) v13 fun v14 =>
 knc mth a1 fun v15 =>
 kfa 0 v15 fun v16 =>
 kfa 0 v16 fun v17 =>
 kld (prt [] p6) v17 fun v18 =>
 kcv (t103 self) p6 v12 [v14, v18] fun v19 p20 =>
 klt v19 q0 fun v21 =>
 kif v21
 (knc mth a1 fun v22 =>
 kfa 0 v22 fun v23 =>
 kla (prt [] p20) 4 v23 fun v24 =>
 kla (prt [] p20) 2 v3 fun v25 =>
 knc mth a1 fun v26 =>
 kfa 4 v26 fun v27 =>
 kld (prt [] p20) v27 fun v28 =>
 kla (prt [] p20) 4 v5 fun v29 =>
 cn self (prt [] p20) [v25, v28, v29] fun v30 p31 =>
 unpK p20 p31 fun p32 =>
 knc mth a1 fun v33 =>
 kfa 5 v33 fun v34 =>
 kld (prt [(p20.next, p31.next)] p32) v34 fun v35 =>
 cn f160 p32 [v24, v30, v35] fun v36 p37 =>
 k [v36] p37)
 (kgt v19 q0 fun v38 =>
 kif v38
 (knc mth a1 fun v39 =>
 kfa 0 v39 fun v40 =>
 kla (prt [] p20) 4 v40 fun v41 =>
 knc mth a1 fun v42 =>
 kfa 4 v42 fun v43 =>
 kld (prt [] p20) v43 fun v44 =>
 kla (prt [] p20) 2 v3 fun v45 =>
 knc mth a1 fun v46 =>
 kfa 5 v46 fun v47 =>
 kld (prt [] p20) v47 fun v48 =>
 kla (prt [] p20) 4 v5 fun v49 =>
 cn self (prt [] p20) [v45, v48, v49] fun v50 p51 =>
 unpK p20 p51 fun p52 =>
 cn f160 p52 [v41, v44, v50] fun v53 p54 =>
 k [v53] p54)
 (knc mth a1 fun v55 =>
 kfa 0 v55 fun v56 =>
 kfa 0 v56 fun v57 =>
 kld (prt [] p20) v57 fun v58 =>
 kfa 1 v5 fun v59 =>
 kla (prt [] p20) 3 v59 fun v60 =>
 kbd q97 [(0, 1, v58), (1, 3, v60)] fun v61 =>
 knc mth a1 fun v62 =>
 kfa 4 v62 fun v63 =>
 kld (prt [] p20) v63 fun v64 =>
 knc mth a1 fun v65 =>
 kfa 5 v65 fun v66 =>
 kld (prt [] p20) v66 fun v67 =>
 cn f159 p20 [v61, v64, v67] fun v68 p69 =>
 k [v68] p69)))
def f103 : FT := rcF depth g103
theorem o103 : FO EN 103 f103 := FO.rc (fun self h => fe 3 (T := t103 self) (tc (cn_ok o159) (tc (cn_ok h) (tc (cn_ok o160) (tc (cc_ok o101) tnil)))) [none, none, none, none] (by kernel_rfl) fun p s k => by kernel_rfl) depth
def f53 : FT := fun p s k => hd s fun a0 s0 =>
 hd s0 fun a1 s1 =>
 hd s1 fun a2 s2 =>
 nl s2 <|
 kbx p 2 a0 fun v3 p4 =>
 kbx p4 3 a2 fun v5 p6 =>
 kal p6 q32 fun v7 p8 =>
 kfa 0 v3 fun v9 =>
 kld p8 v9 fun v10 =>
 ken true .f v10 .nilf fun v11 =>
 jn 0 (fun j12 => kif v11
 (kla p8 2 v3 fun v13 =>
 kfa 1 v3 fun v14 =>
 kld p8 v14 fun v15 =>
 kla p8 3 v5 fun v16 =>
 kbd q97 [(0, 1, a1), (1, 3, v16)] fun v17 =>
 cn f103 p8 [v13, v15, v17] fun v18 p19 =>
 kfa 1 v3 fun v20 =>
 kst p19 1 v20 v18 fun p21 =>
 j12 p21)
 (j12 p8)) fun p22 =>
 kla p22 2 v3 fun v23 =>
 kst p22 2 v7 v23 fun p24 =>
 kra p24 2 v7 fun v25 =>
 k [v25] p24
theorem o53 : FO EN 53 f53 := fe 3 (tc (cn_ok o103) tnil) [some []] (by kernel_rfl) fun p s k => by kernel_rfl
def f197 : FT := fun p s k => hd s fun a0 s0 =>
 nl s0 <|
 ken false .p a0 .nilp fun v1 =>
 kif v1
 (k [q0] p)
 (knc mth a0 fun v2 =>
 kfa 6 v2 fun v3 =>
 kld p v3 fun v4 =>
 k [v4] p)
theorem o197 : FO EN 197 f197 := fe 1 tnil [none] (by kernel_rfl) fun p s k => by kernel_rfl
def f198 : FT := fun p s k => hd s fun a0 s0 =>
 nl s0 <|
 ken false .p a0 .nilp fun v1 =>
 kif v1
 (k [q0] p)
 (knc mth a0 fun v2 =>
 kfa 7 v2 fun v3 =>
 kld p v3 fun v4 =>
 k [v4] p)
theorem o198 : FO EN 198 f198 := fe 1 tnil [none] (by kernel_rfl) fun p s k => by kernel_rfl
def f161 : FT := fun p s k => hd s fun a0 s0 =>
 hd s0 fun a1 s1 =>
 hd s1 fun a2 s2 =>
 nl s2 <|
 kbx p 4 a0 fun v3 p4 =>
 kla (prt [] p4) 4 v3 fun v5 =>
 cc f197 (prt [] p4) [a1] fun v6 p7 =>
 unpK p4 p7 fun p8 =>
 kad v6 q12 fun v9 =>
 cc f197 (prt [] p8) [a2] fun v10 p11 =>
 unpK p8 p11 fun p12 =>
 kad v9 v10 fun v13 =>
 cc f198 (prt [] p12) [a1] fun v14 p15 =>
 unpK p12 p15 fun p16 =>
 cc f198 (prt [] p16) [a2] fun v17 p18 =>
 unpK p16 p18 fun p19 =>
 ksw mth p19 (.minmax true [(.c v14), (.c v17)]) fun v20 p21 =>
 kad q12 v20 fun v22 =>
 kbd q98 [(0, 4, v5), (4, 1, a1), (5, 1, a2), (6, 1, v13), (7, 1, v22)] fun v23 =>
 kbx p19 8 v23 fun v24 p25 =>
 k [v24] p25
theorem o161 : FO EN 161 f161 := fe 3 (tc (cc_ok o197) (tc (cc_ok o198) tnil)) [] (by kernel_rfl) fun p s k => by kernel_rfl
def f162 : FT := fun p s k => hd s fun a0 s0 =>
 hd s0 fun a1 s1 =>
 hd s1 fun a2 s2 =>
 nl s2 <|
 kbx p 4 a0 fun v3 p4 =>
 cc f198 p4 [a1] fun v5 p6 =>
 cc f198 p6 [a2] fun v7 p8 =>
 ksb v5 v7 fun v9 =>
 kgt v9 q12 fun v10 =>
 jn 11 (fun j11 => gdK v10 true (knc mth a1 fun v12 =>
 kfa 4 v12 fun v13 =>
 kld (prt [] p8) v13 fun v14 =>
 cc f198 (prt [] p8) [v14] fun v15 p16 =>
 unpK p8 p16 fun p17 =>
 knc mth a1 fun v18 =>
 kfa 5 v18 fun v19 =>
 kld (prt [(p8.next, p16.next)] p17) v19 fun v20 =>
 cc f198 p17 [v20] fun v21 p22 =>
 kge v15 v21 fun v23 =>
 j11 a1 v12 v13 v14 v15 a1 v18 v19 v20 v21 v23 p22) (j11 .undef .undef .undef .undef .undef .undef .undef .undef .undef .undef .undef p8)) fun v24 v25 v26 v27 v28 v29 v30 v31 v32 v33 v34 p35 =>
 kpk v10 v34 q11 fun v36 =>
 kif v36
 (knc mth a1 fun v37 =>
 kfa 0 v37 fun v38 =>
 kla (prt [] p35) 4 v38 fun v39 =>
 knc mth a1 fun v40 =>
 kfa 4 v40 fun v41 =>
 kld (prt [] p35) v41 fun v42 =>
 kla (prt [] p35) 4 v3 fun v43 =>
 knc mth a1 fun v44 =>
 kfa 5 v44 fun v45 =>
 kld (prt [] p35) v45 fun v46 =>
 cn f161 (prt [] p35) [v43, v46, a2] fun v47 p48 =>
 unpK p35 p48 fun p49 =>
 cn f161 p49 [v39, v42, v47] fun v50 p51 =>
 k [v50] p51)
 (kgt v9 q12 fun v52 =>
 kif v52
 (knc mth a1 fun v53 =>
 kfa 5 v53 fun v54 =>
 kld p35 v54 fun v55 =>
 knc mth v55 fun v56 =>
 kfa 0 v56 fun v57 =>
 kla (prt [] p35) 4 v57 fun v58 =>
 knc mth a1 fun v59 =>
 kfa 0 v59 fun v60 =>
 kla (prt [] p35) 4 v60 fun v61 =>
 knc mth a1 fun v62 =>
 kfa 4 v62 fun v63 =>
 kld (prt [] p35) v63 fun v64 =>
 knc mth v55 fun v65 =>
 kfa 4 v65 fun v66 =>
 kld (prt [] p35) v66 fun v67 =>
 cn f161 (prt [] p35) [v61, v64, v67] fun v68 p69 =>
 unpK p35 p69 fun p70 =>
 kla (prt [(p35.next, p69.next)] p70) 4 v3 fun v71 =>
 knc mth v55 fun v72 =>
 kfa 5 v72 fun v73 =>
 kld (prt [(p35.next, p69.next)] p70) v73 fun v74 =>
 cn f161 (prt [] p70) [v71, v74, a2] fun v75 p76 =>
 unpK p70 p76 fun p77 =>
 cn f161 p77 [v58, v68, v75] fun v78 p79 =>
 k [v78] p79)
 (klt v9 q34 fun v80 =>
 jn 11 (fun j81 => gdK v80 true (knc mth a2 fun v82 =>
 kfa 5 v82 fun v83 =>
 kld (prt [] p35) v83 fun v84 =>
 cc f198 (prt [] p35) [v84] fun v85 p86 =>
 unpK p35 p86 fun p87 =>
 knc mth a2 fun v88 =>
 kfa 4 v88 fun v89 =>
 kld (prt [(p35.next, p86.next)] p87) v89 fun v90 =>
 cc f198 p87 [v90] fun v91 p92 =>
 kge v85 v91 fun v93 =>
 j81 a2 v82 v83 v84 v85 a2 v88 v89 v90 v91 v93 p92) (j81 .undef .undef .undef .undef .undef .undef .undef .undef .undef .undef .undef p35)) fun v94 v95 v96 v97 v98 v99 v100 v101 v102 v103 v104 p105 =>
 kpk v80 v104 q11 fun v106 =>
 kif v106
 (knc mth a2 fun v107 =>
 kfa 0 v107 fun v108 =>
 kla (prt [] p105) 4 v108 fun v109 =>
 kla (prt [] p105) 4 v3 fun v110 =>
 knc mth a2 fun v111 =>
 kfa 4 v111 fun v112 =>
 kld (prt [] p105) v112 fun v113 =>
 cn f161 (prt [] p105) [v110, a1, v113] fun v114 p115 =>
 unpK p105 p115 fun p116 =>
 knc mth a2 fun v117 =>
 kfa 5 v117 fun v118 =>
 kld (prt [(p105.next, p115.next)] p116) v118 fun v119 =>
 cn f161 p116 [v109, v114, v119] fun v120 p121 =>
 k [v120] p121)
 (klt v9 q34 fun v122 =>
 kif v122
 (knc mth a2 fun v123 =>
 kfa 4 v123 fun v124 =>
 kld p105 v124 fun v125 =>
 knc mth v125 fun v126 =>
 kfa 0 v126 fun v127 =>
 kla (prt [] p105) 4 v127 fun v128 =>
 kla (prt [] p105) 4 v3 fun v129 =>
 knc mth v125 fun v130 =>
 kfa 4 v130 fun v131 =>
 kld (prt [] p105) v131 fun v132 =>
 cn f161 (prt [] p105) [v129, a1, v132] fun v133 p134 =>
 unpK p105 p134 fun p135 =>
 knc mth a2 fun v136 =>
 kfa 0 v136 fun v137 =>
 kla (prt [(p105.next, p134.next)] p135) 4 v137 fun v138 =>
 knc mth v125 fun v139 =>
 kfa 5 v139 fun v140 =>
 kld (prt [(p105.next, p134.next)] p135) v140 fun v141 =>
 knc mth a2 fun v142 =>
 kfa 5 v142 fun v143 =>
 kld (prt [(p105.next, p134.next)] p135) v143 fun v144 =>
 cn f161 (prt [] p135) [v138, v141, v144] fun v145 p146 =>
 unpK p135 p146 fun p147 =>
 cn f161 p147 [v128, v133, v145] fun v148 p149 =>
 k [v148] p149)
 (kla p105 4 v3 fun v150 =>
 cn f161 p105 [v150, a1, a2] fun v151 p152 =>
 k [v151] p152))))
theorem o162 : FO EN 162 f162 := fe 3 (tc (cc_ok o198) (tc (cn_ok o161) tnil)) [none, none, none, none, none] (by kernel_rfl) fun p s k => by kernel_rfl
def t104 (self : FT) : List Ce := [⟨161, cn f161⟩, ⟨104, cn self⟩, ⟨162, cn f162⟩, ⟨73, cc f73⟩]
def g104 : FT → FT := fun self => fun p s k => hd s fun a0 s0 =>
 hd s0 fun a1 s1 =>
 hd s1 fun a2 s2 =>
 nl s2 <|
 kbx p 2 a0 fun v3 p4 =>
 kbx p4 4 a2 fun v5 p6 =>
 ken false .p a1 .nilp fun v7 =>
 kif v7
 (kla p6 4 v5 fun v8 =>
 cn f161 p6 [v8, .nilp, .nilp] fun v9 p10 =>
 k [v9] p10)
 (kfa 0 v3 fun v11 =>
 kld (prt [] p6) v11 fun v12 =>
 kfa 0 v5 fun v13 =>
 kla (prt [] p6) 3 v13 fun v14 =>
 knc mth a1 fun v15 =>
 kfa 0 v15 fun v16 =>
 kfa 0 v16 fun v17 =>
 kla (prt [] p6) 3 v17 fun v18 =>
 kcv (t104 self) p6 v12 [v14, v18] fun v19 p20 =>
 klt v19 q0 fun v21 =>
 kif v21
 (knc mth a1 fun v22 =>
 kfa 0 v22 fun v23 =>
 kla (prt [] p20) 4 v23 fun v24 =>
 kla (prt [] p20) 2 v3 fun v25 =>
 knc mth a1 fun v26 =>
 kfa 4 v26 fun v27 =>
 kld (prt [] p20) v27 fun v28 =>
 kla (prt [] p20) 4 v5 fun v29 =>
 cn self (prt [] p20) [v25, v28, v29] fun v30 p31 =>
 unpK p20 p31 fun p32 =>
 knc mth a1 fun v33 =>
 kfa 5 v33 fun v34 =>
 kld (prt [(p20.next, p31.next)] p32) v34 fun v35 =>
 cn f162 p32 [v24, v30, v35] fun v36 p37 =>
 k [v36] p37)
 (kgt v19 q0 fun v38 =>
 kif v38
 (knc mth a1 fun v39 =>
 kfa 0 v39 fun v40 =>
 kla (prt [] p20) 4 v40 fun v41 =>
 knc mth a1 fun v42 =>
 kfa 4 v42 fun v43 =>
 kld (prt [] p20) v43 fun v44 =>
 kla (prt [] p20) 2 v3 fun v45 =>
 knc mth a1 fun v46 =>
 kfa 5 v46 fun v47 =>
 kld (prt [] p20) v47 fun v48 =>
 kla (prt [] p20) 4 v5 fun v49 =>
 cn self (prt [] p20) [v45, v48, v49] fun v50 p51 =>
 unpK p20 p51 fun p52 =>
 cn f162 p52 [v41, v44, v50] fun v53 p54 =>
 k [v53] p54)
 (knc mth a1 fun v55 =>
 kfa 0 v55 fun v56 =>
 kfa 0 v56 fun v57 =>
 kla (prt [] p20) 3 v57 fun v58 =>
 kfa 3 v5 fun v59 =>
 kld (prt [] p20) v59 fun v60 =>
 kbd q99 [(0, 3, v58), (3, 1, v60)] fun v61 =>
 knc mth a1 fun v62 =>
 kfa 4 v62 fun v63 =>
 kld (prt [] p20) v63 fun v64 =>
 knc mth a1 fun v65 =>
 kfa 5 v65 fun v66 =>
 kld (prt [] p20) v66 fun v67 =>
 cn f161 p20 [v61, v64, v67] fun v68 p69 =>
 k [v68] p69)))
def f104 : FT := rcF depth g104
theorem o104 : FO EN 104 f104 := FO.rc (fun self h => fe 3 (T := t104 self) (tc (cn_ok o161) (tc (cn_ok h) (tc (cn_ok o162) (tc (cc_ok o73) tnil)))) [none, none, none, none] (by kernel_rfl) fun p s k => by kernel_rfl) depth
def f54 : FT := fun p s k => hd s fun a0 s0 =>
 hd s0 fun a1 s1 =>
 hd s1 fun a2 s2 =>
 nl s2 <|
 kbx p 2 a0 fun v3 p4 =>
 kbx p4 3 a1 fun v5 p6 =>
 kal p6 q32 fun v7 p8 =>
 kfa 0 v3 fun v9 =>
 kld p8 v9 fun v10 =>
 ken true .f v10 .nilf fun v11 =>
 jn 0 (fun j12 => kif v11
 (kla p8 2 v3 fun v13 =>
 kfa 1 v3 fun v14 =>
 kld p8 v14 fun v15 =>
 kla p8 3 v5 fun v16 =>
 kbd q99 [(0, 3, v16), (3, 1, a2)] fun v17 =>
 cn f104 p8 [v13, v15, v17] fun v18 p19 =>
 kfa 1 v3 fun v20 =>
 kst p19 1 v20 v18 fun p21 =>
 j12 p21)
 (j12 p8)) fun p22 =>
 kla p22 2 v3 fun v23 =>
 kst p22 2 v7 v23 fun p24 =>
 kra p24 2 v7 fun v25 =>
 k [v25] p24
theorem o54 : FO EN 54 f54 := fe 3 (tc (cn_ok o104) tnil) [some []] (by kernel_rfl) fun p s k => by kernel_rfl
def f19 : FT := fun p s k => hd s fun a0 s0 =>
 hd s0 fun a1 s1 =>
 nl s1 <|
 kbx p 4 a0 fun v2 p3 =>
 kbx p3 3 a1 fun v4 p5 =>
 kal p5 q35 fun v6 p7 =>
 kla p7 3 v4 fun v8 =>
 cc f49 p7 [v8] fun v9 p10 =>
 keq true .i v9 q0 fun v11 =>
 kif v11
 (kla p10 4 v2 fun v12 =>
 kst p10 4 v6 v12 fun p13 =>
 kra p13 4 v6 fun v14 =>
 k [v14, q0, q11, v9] p13)
 (kla p10 4 v2 fun v15 =>
 kla p10 3 v4 fun v16 =>
 cn f50 p10 [v15, v16] fun v17 p18 =>
 kex v17 0 fun v19 =>
 kex v17 1 fun v20 =>
 kif v20
 (kla p18 4 v2 fun v21 =>
 kst p18 4 v6 v21 fun p22 =>
 kra p22 4 v6 fun v23 =>
 k [v23, v19, q11, q0] p22)
 (kla p18 4 v2 fun v24 =>
 cc f51 p18 [v24] fun v25 p26 =>
 kge v25 q100 fun v27 =>
 kif v27
 (kla p26 4 v2 fun v28 =>
 kst p26 4 v6 v28 fun p29 =>
 kra p29 4 v6 fun v30 =>
 k [v30, q0, q11, q17] p29)
 (kla p26 4 v2 fun v31 =>
 cn f52 p26 [v31] fun v32 p33 =>
 kst p33 4 v6 v32 fun p34 =>
 kfa 0 v6 fun v35 =>
 kla (prt [] p34) 2 v35 fun v36 =>
 kla (prt [] p34) 3 v4 fun v37 =>
 cn f53 (prt [] p34) [v36, v25, v37] fun v38 p39 =>
 unpK p34 p39 fun p40 =>
 kfa 2 v6 fun v41 =>
 kla (prt [(p34.next, p39.next)] p40) 2 v41 fun v42 =>
 kla (prt [(p34.next, p39.next)] p40) 3 v4 fun v43 =>
 cn f54 p40 [v42, v43, v25] fun v44 p45 =>
 kfa 0 v6 fun v46 =>
 kst p45 2 v46 v38 fun p47 =>
 kfa 2 v6 fun v48 =>
 kst p47 2 v48 v44 fun p49 =>
 kla p49 4 v6 fun v50 =>
 kst p49 4 v6 v50 fun p51 =>
 kra p51 4 v6 fun v52 =>
 k [v52, v25, q21, q0] p51)))
theorem o19 : FO EN 19 f19 := fe 2 (tc (cc_ok o49) (tc (cn_ok o50) (tc (cc_ok o51) (tc (cn_ok o52) (tc (cn_ok o53) (tc (cn_ok o54) tnil)))))) [none, none, none] (by kernel_rfl) fun p s k => by kernel_rfl
def f7 : FT := fun p s k => hd s fun a0 s0 =>
 nl s0 <|
 kal p q35 fun v1 p2 =>
 kln a0 fun v3 =>
 kgt v3 q100 fun v4 =>
 kif v4
 (kbd q35 [] fun v5 =>
 kst p2 4 v1 v5 fun p6 =>
 kra p6 4 v1 fun v7 =>
 k [v7, q17] p6)
 (kal p2 q35 fun v8 p9 =>
 kln a0 fun v10 =>
 jn 0 (fun j11 =>
 lp 1 fuel (fun r12 v13 p14 =>
 klt v13 v10 fun v15 =>
 kif v15
 (kia 3 a0 v13 fun v16 =>
 kla p14 3 v16 fun v17 =>
 kal p14 q29 fun v18 p19 =>
 kst p19 3 v18 v17 fun p20 =>
 kla p20 4 v8 fun v21 =>
 kla p20 3 v18 fun v22 =>
 cn f19 p20 [v21, v22] fun v23 p24 =>
 kex v23 0 fun v25 =>
 kex v23 1 fun v26 =>
 kex v23 2 fun v27 =>
 kex v23 3 fun v28 =>
 kal p24 q35 fun v29 p30 =>
 kst p30 4 v29 v25 fun p31 =>
 keq true .i v28 q0 fun v32 =>
 kif v32
 (kbd q35 [] fun v33 =>
 kst p31 4 v1 v33 fun p34 =>
 kra p34 4 v1 fun v35 =>
 k [v35, v28] p34)
 (knt v27 fun v36 =>
 kif v36
 (kbd q35 [] fun v37 =>
 kst p31 4 v1 v37 fun p38 =>
 kra p38 4 v1 fun v39 =>
 k [v39, q73] p38)
 (kla p31 4 v29 fun v40 =>
 kst p31 4 v8 v40 fun p41 =>
 kad v13 q12 fun v42 =>
 r12 v42 p41)))
 (j11 p14)) q0 p9) fun p43 =>
 kla p43 4 v8 fun v44 =>
 kst p43 4 v1 v44 fun p45 =>
 kra p45 4 v1 fun v46 =>
 k [v46, q0] p45)
theorem o7 : FO EN 7 f7 := fe 1 (tc (cn_ok o19) tnil) [none, some [], some [17], none, none, none, none] (by kernel_rfl) fun p s k => by kernel_rfl
end
end Go.V
end

section
set_option maxRecDepth 100000
set_option linter.unusedVariables false
namespace Go.V
noncomputable section
def f115 : FT := fun p s k => hd s fun a0 s0 =>
 nl s0 <|
 kbx p 5 a0 fun v1 p2 =>
 kfa 0 v1 fun v3 =>
 kld p2 v3 fun v4 =>
 k [v4] p2
theorem o115 : FO EN 115 f115 := fe 1 tnil [] (by kernel_rfl) fun p s k => by kernel_rfl
def f116 : FT := fun p s k => hd s fun a0 s0 =>
 nl s0 <|
 ken false .p a0 .nilp fun v1 =>
 kif v1
 (k [q0] p)
 (knc mth a0 fun v2 =>
 kfa 3 v2 fun v3 =>
 kld p v3 fun v4 =>
 k [v4] p)
theorem o116 : FO EN 116 f116 := fe 1 tnil [none] (by kernel_rfl) fun p s k => by kernel_rfl
def f201 : FT := fun p s k => hd s fun a0 s0 =>
 hd s0 fun a1 s1 =>
 hd s1 fun a2 s2 =>
 hd s2 fun a3 s3 =>
 nl s3 <|
 kbx p 1 a0 fun v4 p5 =>
 kbx p5 1 a1 fun v6 p7 =>
 kbx p7 1 a2 fun v8 p9 =>
 kbx p9 1 a3 fun v10 p11 =>
 k [(.func (.func 232) [] [v4, v6, v8, v10])] p11
theorem o201 : FO EN 201 f201 := fe 4 tnil [] (by kernel_rfl) fun p s k => by kernel_rfl
def tr200002 : List Ce := []
def fr200002 : FT := fun p s k => hd s fun pj s => ptrK pj (fun j _ => hd s fun tv fr => tupK tv fun vals => ifB (Nat.beq (lenF fr) 13) (ifB (Nat.ble p.floor j) (isR0 p j (
 hdK (drK 2 fr) fun x0 =>
 hd vals fun a1 s0 =>
 nl s0 <|
 kal p q97 fun v2 p3 =>
 kst p3 4 v2 a1 fun p4 =>
 isR0 p4 j (putK p4 j (some (.rnd (nat_lit 1))) fun p5 =>
 kld p5 x0 fun v6 =>
 kla p5 4 v2 fun v7 =>
 kbs p5 1 q97 [(0, 4, v7)] fun v8 p9 =>
 kap p9 4 56 v6 v8 fun v10 p11 =>
 kst p11 1 x0 v10 fun p12 =>
 rndK p12 j fun _ => putK p12 j (some (.rnd (nat_lit 0))) fun p13 => k [.bool true] p13))))) n2
theorem or200002 : FO EN 1200002 fr200002 := re (r := 200002) (N := 13) (L := [2]) (T := tr200002) tnil [] [none] (by kernel_rfl) fun p s k => by kernel_rfl
def tr232008 (self : Nat → FT) : List Ce := [⟨1200002, ci fr200002⟩, ⟨1232004, ci (self (nat_lit 0))⟩, ⟨1232008, ci (self (nat_lit 1))⟩]
def gr232008 : (Nat → FT) → FT := fun self => fun p s k => hd s fun pj s => ptrK pj (fun j _ => hd s fun tv fr => tupK tv fun vals => ifB (Nat.beq (lenF fr) 77) (ifB (Nat.ble p.floor j) (isR0 p j (
 hdK (drK 5 fr) fun x0 =>
 hd vals fun a1 s0 =>
 nl s0 <|
 kal p q97 fun v2 p3 =>
 kst p3 4 v2 a1 fun p4 =>
 isR0 p4 j (putK p4 j (some (.rnd (nat_lit 1))) fun p5 =>
 kld p5 x0 fun v6 =>
 kla p5 4 v2 fun v7 =>
 kcv (tr232008 self) p5 v6 [v7] fun v8 p9 =>
 knt v8 fun v10 =>
 kif v10
 (rndK p9 j fun _ => putK p9 j (some (.rnd (nat_lit 2))) fun p11 => k [.bool false] p11)
 (rndK p9 j fun _ => putK p9 j (some (.rnd (nat_lit 0))) fun p12 => k [.bool true] p12)))))) n2
def tr232004 (self : Nat → FT) : List Ce := [⟨1200002, ci fr200002⟩, ⟨1232004, ci (self (nat_lit 0))⟩, ⟨1232008, ci (self (nat_lit 1))⟩]
def gr232004 : (Nat → FT) → FT := fun self => fun p s k => hd s fun pj s => ptrK pj (fun j _ => hd s fun tv fr => tupK tv fun vals => ifB (Nat.beq (lenF fr) 77) (ifB (Nat.ble p.floor j) (isR0 p j (
 hdK (drK 5 fr) fun x0 =>
 hd vals fun a1 s0 =>
 nl s0 <|
 kal p q97 fun v2 p3 =>
 kst p3 4 v2 a1 fun p4 =>
 isR0 p4 j (putK p4 j (some (.rnd (nat_lit 1))) fun p5 =>
 kld p5 x0 fun v6 =>
 kla p5 4 v2 fun v7 =>
 kcv (tr232004 self) p5 v6 [v7] fun v8 p9 =>
 knt v8 fun v10 =>
 kif v10
 (rndK p9 j fun _ => putK p9 j (some (.rnd (nat_lit 2))) fun p11 => k [.bool false] p11)
 (rndK p9 j fun _ => putK p9 j (some (.rnd (nat_lit 0))) fun p12 => k [.bool true] p12)))))) n2
def fr232004 : FT := rcM depth (bth gr232004 gr232008) (nat_lit 0)
def fr232008 : FT := rcM depth (bth gr232004 gr232008) (nat_lit 1)
theorem wr232008 (self : Nat → FT) (h0 : FO EN 1232004 (self (nat_lit 0))) (h1 : FO EN 1232008 (self (nat_lit 1))) : FO EN 1232008 (gr232008 self) := re (r := 232008) (N := 77) (L := [5]) (T := tr232008 self) (tc (ci_ok or200002) (tc (ci_ok h0) (tc (ci_ok h1) tnil))) [] [none, none] (by kernel_rfl) fun p s k => by kernel_rfl
theorem wr232004 (self : Nat → FT) (h0 : FO EN 1232004 (self (nat_lit 0))) (h1 : FO EN 1232008 (self (nat_lit 1))) : FO EN 1232004 (gr232004 self) := re (r := 232004) (N := 77) (L := [5]) (T := tr232004 self) (tc (ci_ok or200002) (tc (ci_ok h0) (tc (ci_ok h1) tnil))) [] [none, none] (by kernel_rfl) fun p s k => by kernel_rfl
theorem or232004 : FO EN 1232004 fr232004 := (FO.rm wr232004 wr232008 depth).1
theorem or232008 : FO EN 1232008 fr232008 := (FO.rm wr232004 wr232008 depth).2
def t232 (self : FT) : List Ce := [⟨157, cc f157⟩, ⟨201, cn f201⟩, ⟨1200002, ci fr200002⟩, ⟨1232004, ci fr232004⟩, ⟨1232008, ci fr232008⟩, ⟨232, ci self⟩]
def g232 : FT → FT := fun self => fun p s k => hd s fun a0 s0 =>
 hd s0 fun a1 s1 =>
 hd s1 fun a2 s2 =>
 hd s2 fun a3 s3 =>
 hd s3 fun a4 s4 =>
 nl s4 <|
 kbx p 1 a0 fun v5 p6 =>
 kld p6 a1 fun v7 =>
 ken false .p v7 .nilp fun v8 =>
 jn 8 (fun j9 => gdK v8 false (kld (prt [] p6) a2 fun v10 =>
 kld (prt [] p6) a1 fun v11 =>
 knc mth v11 fun v12 =>
 kfa 6 v12 fun v13 =>
 kld (prt [] p6) v13 fun v14 =>
 kad v10 v14 fun v15 =>
 kld (prt [] p6) a3 fun v16 =>
 kle v15 v16 fun v17 =>
 j9 v10 v11 v12 v13 v14 v15 v16 v17 p6) (j9 .undef .undef .undef .undef .undef .undef .undef .undef p6)) fun v18 v19 v20 v21 v22 v23 v24 v25 _ =>
 kpk v8 q21 v25 fun v27 =>
 jn 3 (fun j28 => gdK v27 false (kld (prt [] p6) a2 fun v29 =>
 kld (prt [] p6) a4 fun v30 =>
 kge v29 v30 fun v31 =>
 j28 v29 v30 v31 p6) (j28 .undef .undef .undef p6)) fun v32 v33 v34 _ =>
 kpk v27 q21 v34 fun v36 =>
 kif v36
 (k [] p6)
 (kld (prt [] p6) a2 fun v37 =>
 kld (prt [] p6) a1 fun v38 =>
 knc mth v38 fun v39 =>
 kfa 4 v39 fun v40 =>
 kld (prt [] p6) v40 fun v41 =>
 cc f157 (prt [] p6) [v41] fun v42 p43 =>
 unpK p6 p43 fun p44 =>
 kad v37 v42 fun v45 =>
 kld (prt [] p44) a1 fun v46 =>
 knc mth v46 fun v47 =>
 kfa 4 v47 fun v48 =>
 kld (prt [] p44) v48 fun v49 =>
 kld (prt [] p44) a2 fun v50 =>
 kld (prt [] p44) a3 fun v51 =>
 kld (prt [] p44) a4 fun v52 =>
 cn f201 p44 [v49, v50, v51, v52] fun v53 p54 =>
 krg (t232 self) p54 232004 v53 (V.mk 77 [(5, v5)]) (fun p55 =>
 kld p55 a3 fun v57 =>
 kge v45 v57 fun v58 =>
 jn 3 (fun j59 => gdK v58 true (kld p55 a4 fun v60 =>
 klt v45 v60 fun v61 =>
 j59 v45 v60 v61 p55) (j59 .undef .undef .undef p55)) fun v62 v63 v64 _ =>
 kpk v58 v64 q11 fun v66 =>
 jn 7 (fun j67 => gdK v66 true (kld (prt [] p55) v5 fun v68 =>
 kld (prt [] p55) a1 fun v69 =>
 knc mth v69 fun v70 =>
 kfa 0 v70 fun v71 =>
 kla (prt [] p55) 4 v71 fun v72 =>
 kcv (t232 self) p55 v68 [v72] fun v73 p74 =>
 knt v73 fun v75 =>
 j67 v68 v69 v70 v71 v72 v73 v75 p74) (j67 .undef .undef .undef .undef .undef .undef .undef p55)) fun v76 v77 v78 v79 v80 v81 v82 p83 =>
 kpk v66 v82 q11 fun v84 =>
 kif v84
 (k [] p83)
 (kld (prt [] p83) a1 fun v85 =>
 knc mth v85 fun v86 =>
 kfa 5 v86 fun v87 =>
 kld (prt [] p83) v87 fun v88 =>
 kad v45 q12 fun v89 =>
 kld (prt [] p83) a3 fun v90 =>
 kld (prt [] p83) a4 fun v91 =>
 cn f201 p83 [v88, v89, v90, v91] fun v92 p93 =>
 krg (t232 self) p93 232008 v92 (V.mk 77 [(5, v5)]) (fun p94 =>
 k [] p94) (fun p95 =>
 k [] p95) [])) (fun p56 =>
 k [] p56) [])
def f232 : FT := rcF depth g232
theorem o232 : FO EN 232 f232 := FO.rc (fun self h => fe 5 (T := t232 self) (tc (cc_ok o157) (tc (cn_ok o201) (tc (ci_ok or200002) (tc (ci_ok or232004) (tc (ci_ok or232008) (tc (ci_ok h) tnil)))))) [none, none, some [5], some [], none, none, some [5], some []] (by kernel_rfl) fun p s k => by kernel_rfl) depth
def t200 : List Ce := [⟨232, ci f232⟩]
def f200 : FT := fun p s k => hd s fun a0 s0 =>
 hd s0 fun a1 s1 =>
 nl s1 <|
 kbx p 1 a0 fun v2 p3 =>
 krg t200 p3 200002 a1 (V.mk 13 [(2, v2)]) (fun p4 =>
 kld p4 v2 fun v6 =>
 k [v6] p4) (fun p5 =>
 k [.nils] p5) []
theorem o200 : FO EN 200 f200 := fe 2 (T := t200) (tc (ci_ok o232) tnil) [none, some [2], some []] (by kernel_rfl) fun p s k => by kernel_rfl
def f199 : FT := fun p s k => hd s fun a0 s0 =>
 nl s0 <|
 kln a0 fun v1 =>
 kln a0 fun v2 =>
 ksl 4 a0 none (some v1) (some v2) fun v3 =>
 k [v3] p
theorem o199 : FO EN 199 f199 := fe 1 tnil [] (by kernel_rfl) fun p s k => by kernel_rfl
def f165 : FT := fun p s k => hd s fun a0 s0 =>
 hd s0 fun a1 s1 =>
 hd s1 fun a2 s2 =>
 nl s2 <|
 kbx p 2 a0 fun v3 p4 =>
 ksw mth p4 (.minmax true [(.c a1), (.c q0)]) fun v5 p6 =>
 kla p6 2 v3 fun v7 =>
 cn f99 p6 [v7] fun v8 p9 =>
 ksw mth p9 (.minmax false [(.c a2), (.c v8)]) fun v10 p11 =>
 kge v5 v10 fun v12 =>
 kif v12
 (k [.nils] p11)
 (ksb v10 v5 fun v13 =>
 kms p11 4 56 q97 q0 v13 fun v14 p15 =>
 kfa 1 v3 fun v16 =>
 kld (prt [(p11.next, p15.next)] p15) v16 fun v17 =>
 cn f201 (prt [(p11.next, p15.next)] p15) [v17, q0, v5, v10] fun v18 p19 =>
 unpK p15 p19 fun p20 =>
 ci f200 p20 [v14, v18] fun v21 p22 =>
 cn f199 p22 [v21] fun v23 p24 =>
 k [v23] p24)
theorem o165 : FO EN 165 f165 := fe 3 (tc (cn_ok o99) (tc (cn_ok o201) (tc (ci_ok o200) (tc (cn_ok o199) tnil)))) [none] (by kernel_rfl) fun p s k => by kernel_rfl
def f117 : FT := fun p s k => hd s fun a0 s0 =>
 hd s0 fun a1 s1 =>
 nl s1 <|
 kbx p 4 a0 fun v2 p3 =>
 kfa 0 v2 fun v4 =>
 kla (prt [] p3) 2 v4 fun v5 =>
 kla (prt [] p3) 4 v2 fun v6 =>
 cc f51 (prt [] p3) [v6] fun v7 p8 =>
 unpK p3 p8 fun p9 =>
 cn f165 p9 [v5, a1, v7] fun v10 p11 =>
 kln v10 fun v12 =>
 keq false .i v12 q0 fun v13 =>
 kif v13
 (k [.nils] p11)
 (kln v10 fun v14 =>
 kms p11 3 48 q29 v14 v14 fun v15 p16 =>
 kln v10 fun v17 =>
 jn 0 (fun j18 =>
 lp 1 fuel (fun r19 v20 p21 =>
 klt v20 v17 fun v22 =>
 kif v22
 (kia 4 v10 v20 fun v23 =>
 kfa 1 v23 fun v24 =>
 kla p21 3 v24 fun v25 =>
 kia 3 v15 v20 fun v26 =>
 kst p21 3 v26 v25 fun p27 =>
 kad v20 q12 fun v28 =>
 r19 v28 p27)
 (j18 p21)) q0 p16) fun p29 =>
 k [v15] p29)
theorem o117 : FO EN 117 f117 := fe 2 (tc (cc_ok o51) (tc (cn_ok o165) tnil)) [none, some [], some [22], none, none] (by kernel_rfl) fun p s k => by kernel_rfl
def f253 : FT := fun p s k => hd s fun a0 s0 =>
 nl s0 <|
 kln a0 fun v1 =>
 kln a0 fun v2 =>
 ksl 2 a0 none (some v1) (some v2) fun v3 =>
 k [v3] p
theorem o253 : FO EN 253 f253 := fe 1 tnil [] (by kernel_rfl) fun p s k => by kernel_rfl
def f255 : FT := fun p s k => hd s fun a0 s0 =>
 nl s0 <|
 ken false .s a0 .nils fun v1 =>
 kif v1
 (k [.nils] p)
 (kbs p 0 [] [] fun v2 p3 =>
 kap p3 6 96 v2 a0 fun v4 p5 =>
 k [v4] p5)
theorem o255 : FO EN 255 f255 := fe 1 tnil [none] (by kernel_rfl) fun p s k => by kernel_rfl
def f254 : FT := fun p s k => hd s fun a0 s0 =>
 nl s0 <|
 kln a0 fun v1 =>
 kln a0 fun v2 =>
 ksl 6 a0 none (some v1) (some v2) fun v3 =>
 k [v3] p
theorem o254 : FO EN 254 f254 := fe 1 tnil [] (by kernel_rfl) fun p s k => by kernel_rfl
def f256 : FT := fun p s k => hd s fun a0 s0 =>
 nl s0 <|
 ken false .s a0 .nils fun v1 =>
 kif v1
 (k [.nils] p)
 (kbs p 0 [] [] fun v2 p3 =>
 kap p3 1 16 v2 a0 fun v4 p5 =>
 k [v4] p5)
theorem o256 : FO EN 256 f256 := fe 1 tnil [none] (by kernel_rfl) fun p s k => by kernel_rfl
def f68 : FT := fun p s k => hd s fun a0 s0 =>
 nl s0 <|
 ken false .s a0 .nils fun v1 =>
 kif v1
 (k [.nils] p)
 (kbs p 0 [] [] fun v2 p3 =>
 kap p3 1 8 v2 a0 fun v4 p5 =>
 k [v4] p5)
theorem o68 : FO EN 68 f68 := fe 1 tnil [none] (by kernel_rfl) fun p s k => by kernel_rfl
def f235 : FT := fun p s k => hd s fun a0 s0 =>
 nl s0 <|
 kbx p 6 a0 fun v1 p2 =>
 kal p2 q91 fun v3 p4 =>
 kfa 4 v1 fun v5 =>
 kld p4 v5 fun v6 =>
 cc f84 p4 [v6] fun v7 p8 =>
 ci f253 p8 [v7] fun v9 p10 =>
 kfa 4 v1 fun v11 =>
 kst p10 1 v11 v9 fun p12 =>
 kfa 5 v1 fun v13 =>
 kld p12 v13 fun v14 =>
 cc f255 p12 [v14] fun v15 p16 =>
 ci f254 p16 [v15] fun v17 p18 =>
 kfa 5 v1 fun v19 =>
 kst p18 1 v19 v17 fun p20 =>
 kfa 5 v1 fun v21 =>
 kld p20 v21 fun v22 =>
 kln v22 fun v23 =>
 jn 0 (fun j24 =>
 lp 1 fuel (fun r25 v26 p27 =>
 klt v26 v23 fun v28 =>
 kif v28
 (kfa 5 v1 fun v29 =>
 kld p27 v29 fun v30 =>
 kia 6 v30 v26 fun v31 =>
 knc mth v31 fun v32 =>
 kfa 3 v32 fun v33 =>
 kld (prt [] p27) v33 fun v34 =>
 cc f256 (prt [] p27) [v34] fun v35 p36 =>
 unpK p27 p36 fun p37 =>
 ci f190 (prt [] p37) [v35] fun v38 p39 =>
 unpK p37 p39 fun p40 =>
 knc mth v31 fun v41 =>
 kfa 4 v41 fun v42 =>
 kld (prt [(p27.next, p36.next), (p37.next, p39.next)] p40) v42 fun v43 =>
 cc f68 p40 [v43] fun v44 p45 =>
 ci f67 p45 [v44] fun v46 p47 =>
 knc mth v31 fun v48 =>
 kfa 3 v48 fun v49 =>
 kst p47 1 v49 v38 fun p50 =>
 knc mth v31 fun v51 =>
 kfa 4 v51 fun v52 =>
 kst p50 1 v52 v46 fun p53 =>
 kad v26 q12 fun v54 =>
 r25 v54 p53)
 (j24 p27)) q0 p20) fun p55 =>
 kla p55 6 v1 fun v56 =>
 kst p55 6 v3 v56 fun p57 =>
 kra p57 6 v3 fun v58 =>
 k [v58] p57
theorem o235 : FO EN 235 f235 := fe 1 (tc (cc_ok o84) (tc (ci_ok o253) (tc (cc_ok o255) (tc (ci_ok o254) (tc (cc_ok o256) (tc (ci_ok o190) (tc (cc_ok o68) (tc (ci_ok o67) tnil)))))))) [some [], some [18], none, none] (by kernel_rfl) fun p s k => by kernel_rfl
def f203 : FT := fun p s k => hd s fun a0 s0 =>
 hd s0 fun a1 s1 =>
 hd s1 fun a2 s2 =>
 nl s2 <|
 kal p q91 fun v3 p4 =>
 ken false .p a0 .nilp fun v5 =>
 jn 5 (fun j6 => gdK v5 false (knc mth a0 fun v7 =>
 kfa 0 v7 fun v8 =>
 kld p4 v8 fun v9 =>
 knt v9 fun v10 =>
 j6 a0 v7 v8 v9 v10 p4) (j6 .undef .undef .undef .undef .undef p4)) fun v11 v12 v13 v14 v15 p16 =>
 kpk v5 q21 v15 fun v17 =>
 kif v17
 (kbd q91 [] fun v18 =>
 kst p16 6 v3 v18 fun p19 =>
 kra p19 6 v3 fun v20 =>
 k [v20, q16] p19)
 (knc mth a0 fun v21 =>
 kfa 2 v21 fun v22 =>
 kld p16 v22 fun v23 =>
 kbd q30 [(0, 1, a1), (1, 1, a2)] fun v24 =>
 ksw mth p16 (.lookup ⟨true, [(0, .s), (1, .s)]⟩ q0 true (.c v23) (.c v24)) fun v25 p26 =>
 kex v25 0 fun v27 =>
 kex v25 1 fun v28 =>
 knt v28 fun v29 =>
 kif v29
 (kbd q91 [] fun v30 =>
 kst p26 6 v3 v30 fun p31 =>
 kra p31 6 v3 fun v32 =>
 k [v32, q24] p31)
 (knc mth a0 fun v33 =>
 kfa 1 v33 fun v34 =>
 kld p26 v34 fun v35 =>
 kia 6 v35 v27 fun v36 =>
 kla p26 6 v36 fun v37 =>
 cn f235 p26 [v37] fun v38 p39 =>
 kst p39 6 v3 v38 fun p40 =>
 kra p40 6 v3 fun v41 =>
 k [v41, q0] p40))
theorem o203 : FO EN 203 f203 := fe 3 (tc (cn_ok o235) tnil) [none, none] (by kernel_rfl) fun p s k => by kernel_rfl
def f168 : FT := fun p s k => hd s fun a0 s0 =>
 hd s0 fun a1 s1 =>
 nl s1 <|
 kbx p 5 a0 fun v2 p3 =>
 kbx p3 3 a1 fun v4 p5 =>
 kal p5 q91 fun v6 p7 =>
 kfa 0 v2 fun v8 =>
 kld p7 v8 fun v9 =>
 ken false .p v9 .nilp fun v10 =>
 kif v10
 (kbd q91 [] fun v11 =>
 kst p7 6 v6 v11 fun p12 =>
 kra p12 6 v6 fun v13 =>
 k [v13, q16] p12)
 (kla p7 3 v4 fun v14 =>
 cc f49 p7 [v14] fun v15 p16 =>
 keq true .i v15 q0 fun v17 =>
 kif v17
 (kbd q91 [] fun v18 =>
 kst p16 6 v6 v18 fun p19 =>
 kra p19 6 v6 fun v20 =>
 k [v20, v15] p19)
 (kfa 0 v2 fun v21 =>
 kld p16 v21 fun v22 =>
 kfa 0 v4 fun v23 =>
 kfa 0 v23 fun v24 =>
 kld p16 v24 fun v25 =>
 kfa 2 v4 fun v26 =>
 kld p16 v26 fun v27 =>
 cc f203 p16 [v22, v25, v27] fun v28 p29 =>
 kex v28 0 fun v30 =>
 kex v28 1 fun v31 =>
 kst p29 6 v6 v30 fun p32 =>
 kra p32 6 v6 fun v33 =>
 k [v33, v31] p32))
theorem o168 : FO EN 168 f168 := fe 2 (tc (cc_ok o49) (tc (cc_ok o203) tnil)) [none, none] (by kernel_rfl) fun p s k => by kernel_rfl
def t304 : List Ce := [⟨178, cc f178⟩, ⟨36, cc f36⟩]
def f304 : FT := fun p s k => hd s fun a0 s0 =>
 hd s0 fun a1 s1 =>
 nl s1 <|
 kbx p 2 a0 fun v2 p3 =>
 kbx p3 6 a1 fun v4 p5 =>
 kfa 1 v2 fun v6 =>
 kld p5 v6 fun v7 =>
 jn 1 (fun j8 =>
 lp 2 fuel (fun r9 v10 v11 p12 =>
 ken true .p v11 .nilp fun v13 =>
 kif v13
 (kfa 0 v2 fun v14 =>
 kld (prt [] p12) v14 fun v15 =>
 knc mth v11 fun v16 =>
 kfa 0 v16 fun v17 =>
 kfa 0 v17 fun v18 =>
 kla (prt [] p12) 6 v18 fun v19 =>
 kla (prt [] p12) 6 v4 fun v20 =>
 kcv t304 p12 v15 [v19, v20] fun v21 p22 =>
 klt v21 q0 fun v23 =>
 jn 2 (fun j24 => kif v23
 (knc mth v11 fun v25 =>
 kfa 6 v25 fun v26 =>
 kld p22 v26 fun v27 =>
 cc f178 p22 [v27] fun v28 p29 =>
 kad v28 q12 fun v30 =>
 kad v10 v30 fun v31 =>
 knc mth v11 fun v32 =>
 kfa 7 v32 fun v33 =>
 kld p29 v33 fun v34 =>
 j24 v31 v34 p29)
 (knc mth v11 fun v35 =>
 kfa 6 v35 fun v36 =>
 kld p22 v36 fun v37 =>
 j24 v10 v37 p22)) fun v38 v39 p40 =>
 r9 v38 v39 p40)
 (j8 v10 p12)) q0 v7 p5) fun v41 p42 =>
 k [v41] p42
theorem o304 : FO EN 304 f304 := fe 2 (T := t304) (tc (cc_ok o178) (tc (cc_ok o36) tnil)) [some [5], some [5, 6], none, none, some [5, 6]] (by kernel_rfl) fun p s k => by kernel_rfl
def f305 : FT := fun p s k => hd s fun a0 s0 =>
 hd s0 fun a1 s1 =>
 nl s1 <|
 kbx p 2 a0 fun v2 p3 =>
 kal p3 q22 fun v4 p5 =>
 klt a1 q0 fun v6 =>
 jn 4 (fun j7 => gdK v6 false (kla p5 2 v2 fun v8 =>
 cc f137 p5 [v8] fun v9 p10 =>
 kge a1 v9 fun v11 =>
 j7 a1 v8 v9 v11 p10) (j7 .undef .undef .undef .undef p5)) fun v12 v13 v14 v15 p16 =>
 kpk v6 q21 v15 fun v17 =>
 kif v17
 (kbd q22 [] fun v18 =>
 kst p16 6 v4 v18 fun p19 =>
 kra p19 6 v4 fun v20 =>
 k [v20, q15] p19)
 (kfa 1 v2 fun v21 =>
 kld p16 v21 fun v22 =>
 jn 0 (fun j23 =>
 lp 2 fuel (fun r24 v25 v26 p27 =>
 knc mth v26 fun v28 =>
 kfa 6 v28 fun v29 =>
 kld p27 v29 fun v30 =>
 cc f178 p27 [v30] fun v31 p32 =>
 klt v25 v31 fun v33 =>
 jn 2 (fun j34 => kif v33
 (knc mth v26 fun v35 =>
 kfa 6 v35 fun v36 =>
 kld p32 v36 fun v37 =>
 j34 v25 v37 p32)
 (kgt v25 v31 fun v38 =>
 kif v38
 (kad v31 q12 fun v39 =>
 ksb v25 v39 fun v40 =>
 knc mth v26 fun v41 =>
 kfa 7 v41 fun v42 =>
 kld p32 v42 fun v43 =>
 j34 v40 v43 p32)
 (knc mth v26 fun v44 =>
 kfa 0 v44 fun v45 =>
 kla p32 6 v45 fun v46 =>
 kst p32 6 v4 v46 fun p47 =>
 kra p47 6 v4 fun v48 =>
 k [v48, q0] p47))) fun v49 v50 p51 =>
 r24 v49 v50 p51) a1 v22 p16) fun p52 =>
 kra p52 6 v4 fun v53 =>
 k [v53, .junk] p52)
theorem o305 : FO EN 305 f305 := fe 2 (tc (cc_ok o137) (tc (cc_ok o178) tnil)) [none, some [], some [1, 6], none, none, some [1, 6], none] (by kernel_rfl) fun p s k => by kernel_rfl
def f281 : FT := fun p s k => hd s fun a0 s0 =>
 hd s0 fun a1 s1 =>
 nl s1 <|
 kbx p 6 a0 fun v2 p3 =>
 kfa 0 v2 fun v4 =>
 kla p3 3 v4 fun v5 =>
 kla p3 3 a1 fun v6 =>
 kea false [(0, .s), (1, .s), (2, .s)] v5 v6 fun v7 =>
 k [v7] p3
theorem o281 : FO EN 281 f281 := fe 2 tnil [] (by kernel_rfl) fun p s k => by kernel_rfl
def t280 : List Ce := [⟨304, cn f304⟩, ⟨137, cc f137⟩, ⟨305, cn f305⟩, ⟨91, cn f91⟩, ⟨281, cn f281⟩]
def f280 : FT := fun p s k => hd s fun a0 s0 =>
 hd s0 fun a1 s1 =>
 hd s1 fun a2 s2 =>
 nl s2 <|
 kbx p 2 a0 fun v3 p4 =>
 kbx p4 6 a1 fun v5 p6 =>
 kfa 0 v3 fun v7 =>
 kla p6 2 v7 fun v8 =>
 kla p6 6 v5 fun v9 =>
 cn f304 p6 [v8, v9] fun v10 p11 =>
 jn 1 (fun j12 =>
 lp 1 fuel (fun r13 v14 p15 =>
 kfa 0 v3 fun v16 =>
 kla p15 2 v16 fun v17 =>
 cc f137 p15 [v17] fun v18 p19 =>
 klt v14 v18 fun v20 =>
 kif v20
 (kfa 0 v3 fun v21 =>
 kla p19 2 v21 fun v22 =>
 cn f305 p19 [v22, v14] fun v23 p24 =>
 kex v23 0 fun v25 =>
 kex v23 1 fun v26 =>
 kal p24 q22 fun v27 p28 =>
 kst p28 6 v27 v25 fun p29 =>
 kfa 0 v27 fun v30 =>
 kla p29 6 v30 fun v31 =>
 kcv t280 p29 a2 [v31] fun v32 p33 =>
 knt v32 fun v34 =>
 kif v34
 (j12 v14 p33)
 (kad v14 q12 fun v35 =>
 r13 v35 p33))
 (j12 v14 p19)) v10 p11) fun v36 p37 =>
 kla p37 2 v3 fun v38 =>
 cn f91 p37 [v38, v10, v36] fun v39 p40 =>
 k [v39] p40
theorem o280 : FO EN 280 f280 := fe 3 (T := t280) (tc (cn_ok o304) (tc (cc_ok o137) (tc (cn_ok o305) (tc (cn_ok o91) (tc (cn_ok o281) tnil))))) [some [8], some [8], none, none, none] (by kernel_rfl) fun p s k => by kernel_rfl
def f250 : FT := fun p s k => hd s fun a0 s0 =>
 hd s0 fun a1 s1 =>
 nl s1 <|
 kbx p 4 a0 fun v2 p3 =>
 kbx p3 3 a1 fun v4 p5 =>
 kfa 0 v2 fun v6 =>
 kla p5 2 v6 fun v7 =>
 kla p5 3 v4 fun v8 =>
 kbd q22 [(0, 3, v8)] fun v9 =>
 cn f280 p5 [v7, v9, (.func (.func 281) [] [v4])] fun v10 p11 =>
 k [v10] p11
theorem o250 : FO EN 250 f250 := fe 2 (tc (cn_ok o280) tnil) [] (by kernel_rfl) fun p s k => by kernel_rfl
def f282 : FT := fun p s k => hd s fun a0 s0 =>
 hd s0 fun a1 s1 =>
 nl s1 <|
 kln a0 fun v2 =>
 jn 0 (fun j3 =>
 lp 1 fuel (fun r4 v5 p6 =>
 klt v5 v2 fun v7 =>
 kif v7
 (kia 1 a0 v5 fun v8 =>
 kld p6 v8 fun v9 =>
 keq false .s a1 v9 fun v10 =>
 kif v10
 (k [v5] p6)
 (kad v5 q12 fun v11 =>
 r4 v11 p6))
 (j3 p6)) q0 p) fun p12 =>
 k [q34] p12
theorem o282 : FO EN 282 f282 := fe 2 tnil [some [], some [8], none, none, none] (by kernel_rfl) fun p s k => by kernel_rfl
def f251 : FT := fun p s k => hd s fun a0 s0 =>
 hd s0 fun a1 s1 =>
 nl s1 <|
 cn f282 p [a0, a1] fun v2 p3 =>
 kge v2 q0 fun v4 =>
 k [v4] p3
theorem o251 : FO EN 251 f251 := fe 2 (tc (cn_ok o282) tnil) [] (by kernel_rfl) fun p s k => by kernel_rfl
def f252 : FT := fun p s k => hd s fun a0 s0 =>
 nl s0 <|
 kln a0 fun v1 =>
 kln a0 fun v2 =>
 ksl 2 a0 none (some v1) (some v2) fun v3 =>
 k [v3] p
theorem o252 : FO EN 252 f252 := fe 1 tnil [] (by kernel_rfl) fun p s k => by kernel_rfl
def f167 : FT := fun p s k => hd s fun a0 s0 =>
 nl s0 <|
 kln a0 fun v1 =>
 kln a0 fun v2 =>
 ksl 3 a0 none (some v1) (some v2) fun v3 =>
 k [v3] p
theorem o167 : FO EN 167 f167 := fe 1 tnil [] (by kernel_rfl) fun p s k => by kernel_rfl
def f233 : FT := fun p s k => hd s fun a0 s0 =>
 hd s0 fun a1 s1 =>
 hd s1 fun a2 s2 =>
 nl s2 <|
 kbx p 5 a0 fun v3 p4 =>
 kbx p4 3 a1 fun v5 p6 =>
 kbx p6 6 a2 fun v7 p8 =>
 kal p8 q101 fun v9 p10 =>
 kfa 0 v7 fun v11 =>
 kld p10 v11 fun v12 =>
 kbd q101 [(0, 1, v12)] fun v13 =>
 kal p10 q101 fun v14 p15 =>
 kst p15 3 v14 v13 fun p16 =>
 kla p16 3 v5 fun v17 =>
 kal p16 q29 fun v18 p19 =>
 kst p19 3 v18 v17 fun p20 =>
 kfa 0 v7 fun v21 =>
 kld p20 v21 fun v22 =>
 jn 0 (fun j23 =>
 jn 0 (fun j24 =>
 keq false .i v22 q43 fun v25 =>
 kif v25
 (kfa 0 v5 fun v26 =>
 kla p20 2 v26 fun v27 =>
 kfa 1 v7 fun v28 =>
 kld p20 v28 fun v29 =>
 kbd q29 [(0, 2, v27), (2, 1, v29)] fun v30 =>
 kbs p20 1 q29 [(0, 3, v30)] fun v31 p32 =>
 kfa 2 v14 fun v33 =>
 kst p32 1 v33 v31 fun p34 =>
 kla p34 3 v14 fun v35 =>
 kst p34 3 v9 v35 fun p36 =>
 kra p36 3 v9 fun v37 =>
 k [v37] p36)
 (keq false .i v22 q45 fun v38 =>
 kif v38
 (kfa 1 v7 fun v39 =>
 kld p20 v39 fun v40 =>
 kfa 2 v18 fun v41 =>
 kst p20 1 v41 v40 fun p42 =>
 j24 p42)
 (j24 p20))) fun p43 =>
 kfa 1 v3 fun v44 =>
 kla p43 4 v44 fun v45 =>
 kla p43 3 v18 fun v46 =>
 cn f250 p43 [v45, v46] fun v47 p48 =>
 kln v47 fun v49 =>
 jn 0 (fun j50 =>
 lp 1 fuel (fun r51 v52 p53 =>
 klt v52 v49 fun v54 =>
 kif v54
 (kia 6 v47 v52 fun v55 =>
 kla p53 6 v55 fun v56 =>
 kal p53 q22 fun v57 p58 =>
 kst p58 6 v57 v56 fun p59 =>
 kfa 3 v57 fun v60 =>
 kla p59 3 v60 fun v61 =>
 kal p59 q29 fun v62 p63 =>
 kst p63 3 v62 v61 fun p64 =>
 kfa 0 v7 fun v65 =>
 kld p64 v65 fun v66 =>
 keq false .i v66 q45 fun v67 =>
 jn 3 (fun j68 => gdK v67 true (kfa 2 v62 fun v69 =>
 kld p64 v69 fun v70 =>
 keq false .s v70 q31 fun v71 =>
 j68 v69 v70 v71 p64) (j68 .undef .undef .undef p64)) fun v72 v73 v74 p75 =>
 kpk v67 v74 q11 fun v76 =>
 jn 6 (fun j77 => gdK v76 true (kfa 3 v7 fun v78 =>
 kld p75 v78 fun v79 =>
 kfa 0 v62 fun v80 =>
 kfa 0 v80 fun v81 =>
 kld p75 v81 fun v82 =>
 cn f251 p75 [v79, v82] fun v83 p84 =>
 j77 v78 v79 v80 v81 v82 v83 p84) (j77 .undef .undef .undef .undef .undef .undef p75)) fun v85 v86 v87 v88 v89 v90 p91 =>
 kpk v76 v90 q11 fun v92 =>
 jn 0 (fun j93 => kif v92
 (kfa 2 v14 fun v94 =>
 kld p91 v94 fun v95 =>
 kfa 0 v62 fun v96 =>
 kla p91 2 v96 fun v97 =>
 kfa 2 v7 fun v98 =>
 kld p91 v98 fun v99 =>
 kbd q29 [(0, 2, v97), (2, 1, v99)] fun v100 =>
 kbs p91 1 q29 [(0, 3, v100)] fun v101 p102 =>
 kap p102 3 48 v95 v101 fun v103 p104 =>
 kfa 2 v14 fun v105 =>
 kst p104 1 v105 v103 fun p106 =>
 j93 p106)
 (kfa 0 v7 fun v107 =>
 kld p91 v107 fun v108 =>
 keq false .i v108 q44 fun v109 =>
 jn 3 (fun j110 => gdK v109 true (kfa 2 v62 fun v111 =>
 kld p91 v111 fun v112 =>
 keq false .s v112 q31 fun v113 =>
 j110 v111 v112 v113 p91) (j110 .undef .undef .undef p91)) fun v114 v115 v116 p117 =>
 kpk v109 v116 q11 fun v118 =>
 jn 0 (fun j119 => kif v118
 (kfa 1 v14 fun v120 =>
 kld p117 v120 fun v121 =>
 kfa 0 v62 fun v122 =>
 kla p117 2 v122 fun v123 =>
 kbs p117 1 q30 [(0, 2, v123)] fun v124 p125 =>
 kap p125 2 32 v121 v124 fun v126 p127 =>
 kfa 1 v14 fun v128 =>
 kst p127 1 v128 v126 fun p129 =>
 j119 p129)
 (kfa 0 v7 fun v130 =>
 kld p117 v130 fun v131 =>
 keq false .i v131 q44 fun v132 =>
 jn 0 (fun j133 => kif v132
 (kfa 2 v14 fun v134 =>
 kld p117 v134 fun v135 =>
 kfa 0 v62 fun v136 =>
 kla p117 2 v136 fun v137 =>
 kfa 2 v62 fun v138 =>
 kld p117 v138 fun v139 =>
 kbd q29 [(0, 2, v137), (2, 1, v139)] fun v140 =>
 kbs p117 1 q29 [(0, 3, v140)] fun v141 p142 =>
 kap p142 3 48 v135 v141 fun v143 p144 =>
 kfa 2 v14 fun v145 =>
 kst p144 1 v145 v143 fun p146 =>
 j133 p146)
 (j133 p117)) fun p147 =>
 j119 p147)) fun p148 =>
 j93 p148)) fun p149 =>
 kad v52 q12 fun v150 =>
 r51 v150 p149)
 (j50 p53)) q0 p48) fun p151 =>
 j23 p151) fun p152 =>
 kfa 1 v14 fun v153 =>
 kld (prt [] p152) v153 fun v154 =>
 ci f252 (prt [] p152) [v154] fun v155 p156 =>
 unpK p152 p156 fun p157 =>
 kfa 2 v14 fun v158 =>
 kld (prt [(p152.next, p156.next)] p157) v158 fun v159 =>
 ci f167 p157 [v159] fun v160 p161 =>
 kfa 1 v14 fun v162 =>
 kst p161 1 v162 v155 fun p163 =>
 kfa 2 v14 fun v164 =>
 kst p163 1 v164 v160 fun p165 =>
 kla p165 3 v14 fun v166 =>
 kst p165 3 v9 v166 fun p167 =>
 kra p167 3 v9 fun v168 =>
 k [v168] p167
theorem o233 : FO EN 233 f233 := fe 3 (tc (cn_ok o250) (tc (cn_ok o251) (tc (ci_ok o252) (tc (ci_ok o167) tnil)))) [some [], some [], none, none, none, none, some [], some [38], none, none, none, some [], some [], some []] (by kernel_rfl) fun p s k => by kernel_rfl
def f234 : FT := fun p s k => hd s fun a0 s0 =>
 nl s0 <|
 kln a0 fun v1 =>
 kln a0 fun v2 =>
 ksl 3 a0 none (some v1) (some v2) fun v3 =>
 k [v3] p
theorem o234 : FO EN 234 f234 := fe 1 tnil [] (by kernel_rfl) fun p s k => by kernel_rfl
def f202 : FT := fun p s k => hd s fun a0 s0 =>
 hd s0 fun a1 s1 =>
 hd s1 fun a2 s2 =>
 nl s2 <|
 kbx p 5 a0 fun v3 p4 =>
 kbx p4 3 a1 fun v5 p6 =>
 kbx p6 6 a2 fun v7 p8 =>
 kfa 5 v7 fun v9 =>
 kld p8 v9 fun v10 =>
 kln v10 fun v11 =>
 jn 1 (fun j12 =>
 lp 2 fuel (fun r13 v14 v15 p16 =>
 klt v15 v11 fun v17 =>
 kif v17
 (kia 6 v10 v15 fun v18 =>
 kla p16 6 v18 fun v19 =>
 kal p16 q89 fun v20 p21 =>
 kst p21 6 v20 v19 fun p22 =>
 kfa 5 v20 fun v23 =>
 kld p22 v23 fun v24 =>
 kge v24 q0 fun v25 =>
 jn 1 (fun j26 => kif v25
 (kla p22 5 v3 fun v27 =>
 kla p22 3 v5 fun v28 =>
 kla p22 6 v20 fun v29 =>
 cn f233 p22 [v27, v28, v29] fun v30 p31 =>
 kbs p31 1 q101 [(0, 3, v30)] fun v32 p33 =>
 kap p33 3 56 v14 v32 fun v34 p35 =>
 j26 v34 p35)
 (j26 v14 p22)) fun v36 p37 =>
 kad v15 q12 fun v38 =>
 r13 v36 v38 p37)
 (j12 v14 p16)) .nils q0 p8) fun v39 p40 =>
 ci f234 p40 [v39] fun v41 p42 =>
 k [v41] p42
theorem o202 : FO EN 202 f202 := fe 3 (tc (cn_ok o233) (tc (ci_ok o234) tnil)) [some [7], some [7, 13], none, none, some [7]] (by kernel_rfl) fun p s k => by kernel_rfl
def f166 : FT := fun p s k => hd s fun a0 s0 =>
 hd s0 fun a1 s1 =>
 nl s1 <|
 kbx p 5 a0 fun v2 p3 =>
 kbx p3 3 a1 fun v4 p5 =>
 kla p5 5 v2 fun v6 =>
 kla p5 3 v4 fun v7 =>
 cn f168 p5 [v6, v7] fun v8 p9 =>
 kex v8 0 fun v10 =>
 kex v8 1 fun v11 =>
 kal p9 q91 fun v12 p13 =>
 kst p13 6 v12 v10 fun p14 =>
 keq true .i v11 q0 fun v15 =>
 kif v15
 (k [.nils, v11] p14)
 (kla p14 5 v2 fun v16 =>
 kla p14 3 v4 fun v17 =>
 kla p14 6 v12 fun v18 =>
 cn f202 p14 [v16, v17, v18] fun v19 p20 =>
 k [v19, q0] p20)
theorem o166 : FO EN 166 f166 := fe 2 (tc (cn_ok o168) (tc (cn_ok o202) tnil)) [none] (by kernel_rfl) fun p s k => by kernel_rfl
def f118 : FT := fun p s k => hd s fun a0 s0 =>
 hd s0 fun a1 s1 =>
 nl s1 <|
 kbx p 5 a0 fun v2 p3 =>
 kbx p3 3 a1 fun v4 p5 =>
 kla p5 5 v2 fun v6 =>
 kla p5 3 v4 fun v7 =>
 cn f166 p5 [v6, v7] fun v8 p9 =>
 kex v8 0 fun v10 =>
 kex v8 1 fun v11 =>
 keq true .i v11 q0 fun v12 =>
 kif v12
 (k [.nils, v11] p9)
 (kln v10 fun v13 =>
 jn 1 (fun j14 =>
 lp 2 fuel (fun r15 v16 v17 p18 =>
 klt v17 v13 fun v19 =>
 kif v19
 (kia 3 v10 v17 fun v20 =>
 kla p18 3 v20 fun v21 =>
 kal p18 q101 fun v22 p23 =>
 kst p23 3 v22 v21 fun p24 =>
 kfa 2 v22 fun v25 =>
 kld p24 v25 fun v26 =>
 kap p24 3 48 v16 v26 fun v27 p28 =>
 kad v17 q12 fun v29 =>
 r15 v27 v29 p28)
 (j14 v16 p18)) .nils q0 p9) fun v30 p31 =>
 ci f167 p31 [v30] fun v32 p33 =>
 k [v32, q0] p33)
theorem o118 : FO EN 118 f118 := fe 2 (tc (cn_ok o166) (tc (ci_ok o167) tnil)) [none, some [8], some [8, 22], none, none] (by kernel_rfl) fun p s k => by kernel_rfl
def f119 : FT := fun p s k => hd s fun a0 s0 =>
 hd s0 fun a1 s1 =>
 nl s1 <|
 kbx p 5 a0 fun v2 p3 =>
 kbx p3 3 a1 fun v4 p5 =>
 kla p5 5 v2 fun v6 =>
 kla p5 3 v4 fun v7 =>
 cn f168 p5 [v6, v7] fun v8 p9 =>
 kex v8 0 fun v10 =>
 kex v8 1 fun v11 =>
 kal p9 q91 fun v12 p13 =>
 kst p13 6 v12 v10 fun p14 =>
 kfa 3 v12 fun v15 =>
 kld p14 v15 fun v16 =>
 k [v16, v11] p14
theorem o119 : FO EN 119 f119 := fe 2 (tc (cn_ok o168) tnil) [] (by kernel_rfl) fun p s k => by kernel_rfl
def f63 : FT := fun p s k => hd s fun a0 s0 =>
 hd s0 fun a1 s1 =>
 nl s1 <|
 kbx p 5 a0 fun v2 p3 =>
 kbx p3 4 a1 fun v4 p5 =>
 kal p5 q86 fun v6 p7 =>
 kla p7 5 v2 fun v8 =>
 cc f115 p7 [v8] fun v9 p10 =>
 ken false .p v9 .nilp fun v11 =>
 kif v11
 (kbd q86 [] fun v12 =>
 kst p10 2 v6 v12 fun p13 =>
 kra p13 2 v6 fun v14 =>
 k [v14, q16] p13)
 (kla p10 4 v4 fun v15 =>
 cc f51 p10 [v15] fun v16 p17 =>
 keq false .i v16 q0 fun v18 =>
 kif v18
 (kbd q86 [] fun v19 =>
 kst p17 2 v6 v19 fun p20 =>
 kra p20 2 v6 fun v21 =>
 k [v21, q102] p20)
 (kal p17 q86 fun v22 p23 =>
 kla p23 5 v2 fun v24 =>
 cc f115 p23 [v24] fun v25 p26 =>
 cn f116 p26 [v25] fun v27 p28 =>
 kms p28 1 24 q66 v27 v27 fun v29 p30 =>
 kla p30 4 v4 fun v31 =>
 cn f117 p30 [v31, q0] fun v32 p33 =>
 kln v32 fun v34 =>
 jn 0 (fun j35 =>
 lp 1 fuel (fun r36 v37 p38 =>
 klt v37 v34 fun v39 =>
 kif v39
 (jn 0 (fun j40 =>
 kia 3 v32 v37 fun v41 =>
 kla p38 3 v41 fun v42 =>
 kal p38 q29 fun v43 p44 =>
 kst p44 3 v43 v42 fun p45 =>
 kla p45 5 v2 fun v46 =>
 kla p45 3 v43 fun v47 =>
 cn f118 p45 [v46, v47] fun v48 p49 =>
 kex v48 0 fun v50 =>
 kex v48 1 fun v51 =>
 keq true .i v51 q0 fun v52 =>
 kif v52
 (kbd q86 [] fun v53 =>
 kst p49 2 v6 v53 fun p54 =>
 kra p54 2 v6 fun v55 =>
 k [v55, q102] p54)
 (kln v50 fun v56 =>
 jn 1 (fun j57 =>
 lp 2 fuel (fun r58 v59 v60 p61 =>
 klt v60 v56 fun v62 =>
 kif v62
 (kia 3 v50 v60 fun v63 =>
 kla p61 3 v63 fun v64 =>
 kal p61 q29 fun v65 p66 =>
 kst p66 3 v65 v64 fun p67 =>
 kla p67 4 v4 fun v68 =>
 kla p67 3 v65 fun v69 =>
 cn f50 p67 [v68, v69] fun v70 p71 =>
 kex v70 0 fun v72 =>
 kex v70 1 fun v73 =>
 knt v73 fun v74 =>
 kif v74
 (kbd q86 [] fun v75 =>
 kst p71 2 v6 v75 fun p76 =>
 kra p76 2 v6 fun v77 =>
 k [v77, q102] p76)
 (kbs p71 1 q14 [(0, 1, v72)] fun v78 p79 =>
 kap p79 1 8 v59 v78 fun v80 p81 =>
 kad v60 q12 fun v82 =>
 r58 v80 v82 p81))
 (j57 v59 p61)) .nils q0 p49) fun v83 p84 =>
 kfa 1 v22 fun v85 =>
 kld p84 v85 fun v86 =>
 kbs p84 1 q66 [(0, 1, v83)] fun v87 p88 =>
 kap p88 1 24 v86 v87 fun v89 p90 =>
 kfa 1 v22 fun v91 =>
 kst p90 1 v91 v89 fun p92 =>
 kla p92 5 v2 fun v93 =>
 kla p92 3 v43 fun v94 =>
 cn f119 p92 [v93, v94] fun v95 p96 =>
 kex v95 0 fun v97 =>
 kex v95 1 fun v98 =>
 keq true .i v98 q0 fun v99 =>
 kif v99
 (kbd q86 [] fun v100 =>
 kst p96 2 v6 v100 fun p101 =>
 kra p101 2 v6 fun v102 =>
 k [v102, q102] p101)
 (kia 1 v29 v97 fun v103 =>
 kld p96 v103 fun v104 =>
 kbs p96 1 q14 [(0, 1, v37)] fun v105 p106 =>
 kap p106 1 8 v104 v105 fun v107 p108 =>
 kia 1 v29 v97 fun v109 =>
 kst p108 1 v109 v107 fun p110 =>
 j40 p110))) fun p111 =>
 kad v37 q12 fun v112 =>
 r36 v112 p111)
 (j35 p38)) q0 p33) fun p113 =>
 kln v29 fun v114 =>
 jn 0 (fun j115 =>
 lp 1 fuel (fun r116 v117 p118 =>
 klt v117 v114 fun v119 =>
 kif v119
 (kia 1 v29 v117 fun v120 =>
 kld p118 v120 fun v121 =>
 kln v121 fun v122 =>
 kgt v122 q0 fun v123 =>
 jn 0 (fun j124 => kif v123
 (kfa 0 v22 fun v125 =>
 kld (prt [] p118) v125 fun v126 =>
 ci f67 (prt [] p118) [v121] fun v127 p128 =>
 unpK p118 p128 fun p129 =>
 kbs p129 1 q66 [(0, 1, v127)] fun v130 p131 =>
 kap p131 1 24 v126 v130 fun v132 p133 =>
 kfa 0 v22 fun v134 =>
 kst p133 1 v134 v132 fun p135 =>
 j124 p135)
 (j124 p118)) fun p136 =>
 kad v117 q12 fun v137 =>
 r116 v137 p136)
 (j115 p118)) q0 p113) fun p138 =>
 kfa 0 v22 fun v139 =>
 kld p138 v139 fun v140 =>
 ci f120 p138 [v140] fun v141 p142 =>
 kfa 0 v22 fun v143 =>
 kst p142 1 v143 v141 fun p144 =>
 kla p144 2 v22 fun v145 =>
 kst p144 2 v6 v145 fun p146 =>
 kra p146 2 v6 fun v147 =>
 k [v147, q0] p146))
theorem o63 : FO EN 63 f63 := fe 2 (tc (cc_ok o115) (tc (cc_ok o51) (tc (cn_ok o116) (tc (cn_ok o117) (tc (cn_ok o118) (tc (cn_ok o50) (tc (cn_ok o119) (tc (ci_ok o67) (tc (ci_ok o120) tnil))))))))) [none, none, some [], some [35], none, some [], none, some [12], some [12, 51], none, none, none, none, some [], some [97], none, none, some []] (by kernel_rfl) fun p s k => by kernel_rfl
def f122 : FT := fun p s k => hd s fun a0 s0 =>
 hd s0 fun a1 s1 =>
 nl s1 <|
 klt a0 q0 fun v2 =>
 jn 4 (fun j3 => gdK v2 false (kfa 9 a1 fun v4 =>
 kld p v4 fun v5 =>
 kgt a0 v5 fun v6 =>
 j3 a0 v4 v5 v6 p) (j3 .undef .undef .undef .undef p)) fun v7 v8 v9 v10 p11 =>
 kpk v2 q21 v10 fun v12 =>
 k [v12] p11
theorem o122 : FO EN 122 f122 := fe 2 tnil [] (by kernel_rfl) fun p s k => by kernel_rfl
def f163 : FT := fun p s k => hd s fun a0 s0 =>
 hd s0 fun a1 s1 =>
 nl s1 <|
 klt a0 q0 fun v2 =>
 jn 4 (fun j3 => gdK v2 false (kfa 9 a1 fun v4 =>
 kld p v4 fun v5 =>
 kgt a0 v5 fun v6 =>
 j3 a0 v4 v5 v6 p) (j3 .undef .undef .undef .undef p)) fun v7 v8 v9 v10 p11 =>
 kpk v2 q21 v10 fun v12 =>
 k [v12] p11
theorem o163 : FO EN 163 f163 := fe 2 tnil [] (by kernel_rfl) fun p s k => by kernel_rfl
def t169 : List Ce := [⟨122, cn f122⟩, ⟨163, cn f163⟩]
def f169 : FT := fun p s k => hd s fun a0 s0 =>
 hd s0 fun a1 s1 =>
 nl s1 <|
 kln a0 fun v2 =>
 jn 0 (fun j3 =>
 lp 1 fuel (fun r4 v5 p6 =>
 klt v5 v2 fun v7 =>
 kif v7
 (kia 1 a0 v5 fun v8 =>
 kld p6 v8 fun v9 =>
 kcv t169 p6 a1 [v9] fun v10 p11 =>
 kif v10
 (k [v5] p11)
 (kad v5 q12 fun v12 =>
 r4 v12 p11))
 (j3 p6)) q0 p) fun p13 =>
 k [q34] p13
theorem o169 : FO EN 169 f169 := fe 2 (T := t169) (tc (cn_ok o122) (tc (cn_ok o163) tnil)) [some [], some [8], none, none, none] (by kernel_rfl) fun p s k => by kernel_rfl
def f121 : FT := fun p s k => hd s fun a0 s0 =>
 hd s0 fun a1 s1 =>
 nl s1 <|
 cn f169 p [a0, a1] fun v2 p3 =>
 kge v2 q0 fun v4 =>
 k [v4] p3
theorem o121 : FO EN 121 f121 := fe 2 (tc (cn_ok o169) tnil) [] (by kernel_rfl) fun p s k => by kernel_rfl
end
end Go.V
end

section
set_option maxRecDepth 100000
set_option linter.unusedVariables false
namespace Go.V
noncomputable section
def t170 : List Ce := [⟨101, cc f101⟩]
def f170 : FT := fun p s k => hd s fun a0 s0 =>
 hd s0 fun a1 s1 =>
 nl s1 <|
 kbx p 2 a0 fun v2 p3 =>
 kal p3 q29 fun v4 p5 =>
 kfa 1 v2 fun v6 =>
 kld p5 v6 fun v7 =>
 jn 0 (fun j8 =>
 lp 1 fuel (fun r9 v10 p11 =>
 ken true .p v10 .nilp fun v12 =>
 kif v12
 (kfa 0 v2 fun v13 =>
 kld (prt [] p11) v13 fun v14 =>
 knc mth v10 fun v15 =>
 kfa 0 v15 fun v16 =>
 kfa 0 v16 fun v17 =>
 kld (prt [] p11) v17 fun v18 =>
 kcv t170 p11 v14 [a1, v18] fun v19 p20 =>
 keq false .i v19 q0 fun v21 =>
 kif v21
 (knc mth v10 fun v22 =>
 kfa 0 v22 fun v23 =>
 kfa 1 v23 fun v24 =>
 kla p20 3 v24 fun v25 =>
 kst p20 3 v4 v25 fun p26 =>
 kra p26 3 v4 fun v27 =>
 k [v27, q21] p26)
 (klt v19 q0 fun v28 =>
 jn 1 (fun j29 => kif v28
 (knc mth v10 fun v30 =>
 kfa 4 v30 fun v31 =>
 kld p20 v31 fun v32 =>
 j29 v32 p20)
 (knc mth v10 fun v33 =>
 kfa 5 v33 fun v34 =>
 kld p20 v34 fun v35 =>
 j29 v35 p20)) fun v36 p37 =>
 r9 v36 p37))
 (j8 p11)) v7 p5) fun p38 =>
 kal p38 q29 fun v39 p40 =>
 kla p40 3 v39 fun v41 =>
 kst p40 3 v4 v41 fun p42 =>
 kra p42 3 v4 fun v43 =>
 k [v43, q11] p42
theorem o170 : FO EN 170 f170 := fe 2 (T := t170) (tc (cc_ok o101) tnil) [some [], some [6], none, none, none, some [6]] (by kernel_rfl) fun p s k => by kernel_rfl
def f123 : FT := fun p s k => hd s fun a0 s0 =>
 hd s0 fun a1 s1 =>
 nl s1 <|
 kbx p 4 a0 fun v2 p3 =>
 kal p3 q29 fun v4 p5 =>
 kfa 0 v2 fun v6 =>
 kla p5 2 v6 fun v7 =>
 cn f170 p5 [v7, a1] fun v8 p9 =>
 kex v8 0 fun v10 =>
 kex v8 1 fun v11 =>
 kal p9 q29 fun v12 p13 =>
 kst p13 3 v12 v10 fun p14 =>
 knt v11 fun v15 =>
 kif v15
 (kbd q29 [] fun v16 =>
 kst p14 3 v4 v16 fun p17 =>
 kra p17 3 v4 fun v18 =>
 k [v18, q15] p17)
 (kla p14 3 v12 fun v19 =>
 kst p14 3 v4 v19 fun p20 =>
 kra p20 3 v4 fun v21 =>
 k [v21, q0] p20)
theorem o123 : FO EN 123 f123 := fe 2 (tc (cn_ok o170) tnil) [none] (by kernel_rfl) fun p s k => by kernel_rfl
def f350 : FT := fun p s k => hd s fun a0 s0 =>
 nl s0 <|
 kln a0 fun v1 =>
 jn 1 (fun j2 =>
 lp 2 fuel (fun r3 v4 v5 p6 =>
 klt v5 v1 fun v7 =>
 kif v7
 (kia 3 a0 v5 fun v8 =>
 kla p6 3 v8 fun v9 =>
 kal p6 q101 fun v10 p11 =>
 kst p11 3 v10 v9 fun p12 =>
 kfa 2 v10 fun v13 =>
 kld p12 v13 fun v14 =>
 kln v14 fun v15 =>
 kad v4 v15 fun v16 =>
 kad v5 q12 fun v17 =>
 r3 v16 v17 p12)
 (j2 v4 p6)) q0 q0 p) fun v18 p19 =>
 k [v18] p19
theorem o350 : FO EN 350 f350 := fe 1 tnil [some [3], some [3, 8], none, none] (by kernel_rfl) fun p s k => by kernel_rfl
def g360 : FT → FT := fun self => fun p s k => hd s fun a0 s0 =>
 hd s0 fun a1 s1 =>
 nl s1 <|
 kal p q88 fun v2 p3 =>
 kln a0 fun v4 =>
 kge a1 v4 fun v5 =>
 jn 3 (fun j6 => gdK v5 false (kln a0 fun v7 =>
 kgt v7 q3 fun v8 =>
 j6 a0 v7 v8 p3) (j6 .undef .undef .undef p3)) fun v9 v10 v11 p12 =>
 kpk v5 q21 v11 fun v13 =>
 kif v13
 (kla p12 4 v2 fun v14 =>
 kst p12 4 v2 v14 fun p15 =>
 kra p15 4 v2 fun v16 =>
 k [v16, a1, q11] p15)
 (kia 6 a0 a1 fun v17 =>
 kla p12 6 v17 fun v18 =>
 kal p12 q89 fun v19 p20 =>
 kst p20 6 v19 v18 fun p21 =>
 kfa 0 v19 fun v22 =>
 kld p21 v22 fun v23 =>
 kfa 1 v19 fun v24 =>
 kld p21 v24 fun v25 =>
 kfa 2 v19 fun v26 =>
 kld p21 v26 fun v27 =>
 kbd q88 [(0, 1, v23), (1, 1, v25), (2, 1, v27)] fun v28 =>
 kst p21 4 v2 v28 fun p29 =>
 kad a1 q12 fun v30 =>
 kfa 4 v19 fun v31 =>
 kld p29 v31 fun v32 =>
 kln v32 fun v33 =>
 jn 1 (fun j34 =>
 lp 2 fuel (fun r35 v36 v37 p38 =>
 klt v37 v33 fun v39 =>
 kif v39
 (kia 1 v32 v37 fun v40 =>
 kld p38 v40 fun v41 =>
 keq true .i v41 v36 fun v42 =>
 kif v42
 (kla p38 4 v2 fun v43 =>
 kst p38 4 v2 v43 fun p44 =>
 kra p44 4 v2 fun v45 =>
 k [v45, v36, q11] p44)
 (kal p38 q88 fun v46 p47 =>
 cn self p47 [a0, v41] fun v48 p49 =>
 kex v48 0 fun v50 =>
 kex v48 1 fun v51 =>
 kex v48 2 fun v52 =>
 kst p49 4 v46 v50 fun p53 =>
 knt v52 fun v54 =>
 kif v54
 (kla p53 4 v2 fun v55 =>
 kst p53 4 v2 v55 fun p56 =>
 kra p56 4 v2 fun v57 =>
 k [v57, v51, q11] p56)
 (kfa 3 v2 fun v58 =>
 kld p53 v58 fun v59 =>
 kla p53 4 v46 fun v60 =>
 kbs p53 1 q88 [(0, 4, v60)] fun v61 p62 =>
 kap p62 4 64 v59 v61 fun v63 p64 =>
 kfa 3 v2 fun v65 =>
 kst p64 1 v65 v63 fun p66 =>
 kad v37 q12 fun v67 =>
 r35 v51 v67 p66)))
 (j34 v36 p38)) v30 q0 p29) fun v68 p69 =>
 kfa 3 v2 fun v70 =>
 kld p69 v70 fun v71 =>
 ci f187 p69 [v71] fun v72 p73 =>
 kfa 3 v2 fun v74 =>
 kst p73 1 v74 v72 fun p75 =>
 kla p75 4 v2 fun v76 =>
 kst p75 4 v2 v76 fun p77 =>
 kra p77 4 v2 fun v78 =>
 k [v78, v68, q21] p77)
def f360 : FT := rcF depth g360
theorem o360 : FO EN 360 f360 := FO.rc (fun self h => fe 2 (tc (cn_ok h) (tc (ci_ok o187) tnil)) [none, some [5], some [5, 38], none, none, none, none] (by kernel_rfl) fun p s k => by kernel_rfl) depth
def f364 : FT := fun p s k => hd s fun a0 s0 =>
 hd s0 fun a1 s1 =>
 nl s1 <|
 kbx p 5 a0 fun v2 p3 =>
 kbx p3 5 a1 fun v4 p5 =>
 kfa 0 v2 fun v6 =>
 kld p5 v6 fun v7 =>
 kfa 0 v4 fun v8 =>
 kld p5 v8 fun v9 =>
 keq false .i v7 v9 fun v10 =>
 jn 11 (fun j11 => gdK v10 true (kfa 1 v2 fun v12 =>
 kld p5 v12 fun v13 =>
 kfa 2 v2 fun v14 =>
 kld p5 v14 fun v15 =>
 kbd q30 [(0, 1, v13), (1, 1, v15)] fun v16 =>
 kfa 1 v4 fun v17 =>
 kld p5 v17 fun v18 =>
 kfa 2 v4 fun v19 =>
 kld p5 v19 fun v20 =>
 kbd q30 [(0, 1, v18), (1, 1, v20)] fun v21 =>
 kea false [(0, .s), (1, .s)] v16 v21 fun v22 =>
 j11 v12 v13 v14 v15 v16 v17 v18 v19 v20 v21 v22 p5) (j11 .undef .undef .undef .undef .undef .undef .undef .undef .undef .undef .undef p5)) fun v23 v24 v25 v26 v27 v28 v29 v30 v31 v32 v33 p34 =>
 kpk v10 v33 q11 fun v35 =>
 jn 7 (fun j36 => gdK v35 true (kfa 3 v2 fun v37 =>
 kld p34 v37 fun v38 =>
 kln v38 fun v39 =>
 kfa 3 v4 fun v40 =>
 kld p34 v40 fun v41 =>
 kln v41 fun v42 =>
 keq false .i v39 v42 fun v43 =>
 j36 v37 v38 v39 v40 v41 v42 v43 p34) (j36 .undef .undef .undef .undef .undef .undef .undef p34)) fun v44 v45 v46 v47 v48 v49 v50 p51 =>
 kpk v35 v50 q11 fun v52 =>
 k [v52] p51
theorem o364 : FO EN 364 f364 := fe 2 tnil [] (by kernel_rfl) fun p s k => by kernel_rfl
def t363 : List Ce := [⟨364, cn f364⟩]
def f363 : FT := fun p s k => hd s fun a0 s0 =>
 hd s0 fun a1 s1 =>
 hd s1 fun a2 s2 =>
 nl s2 <|
 kln a0 fun v3 =>
 kln a1 fun v4 =>
 keq true .i v3 v4 fun v5 =>
 kif v5
 (k [q11] p)
 (kln a0 fun v6 =>
 jn 0 (fun j7 =>
 lp 1 fuel (fun r8 v9 p10 =>
 klt v9 v6 fun v11 =>
 kif v11
 (kia 5 a0 v9 fun v12 =>
 kla p10 5 v12 fun v13 =>
 kal p10 q65 fun v14 p15 =>
 kst p15 5 v14 v13 fun p16 =>
 kia 5 a1 v9 fun v17 =>
 kla p16 5 v17 fun v18 =>
 kal p16 q65 fun v19 p20 =>
 kst p20 5 v19 v18 fun p21 =>
 kla p21 5 v14 fun v22 =>
 kla p21 5 v19 fun v23 =>
 kcv t363 p21 a2 [v22, v23] fun v24 p25 =>
 knt v24 fun v26 =>
 kif v26
 (k [q11] p25)
 (kad v9 q12 fun v27 =>
 r8 v27 p25))
 (j7 p10)) q0 p) fun p28 =>
 k [q21] p28)
theorem o363 : FO EN 363 f363 := fe 3 (T := t363) (tc (cn_ok o364) tnil) [none, some [], some [17], none, none, none] (by kernel_rfl) fun p s k => by kernel_rfl
def f361 : FT := fun p s k => hd s fun a0 s0 =>
 hd s0 fun a1 s1 =>
 nl s1 <|
 kbx p 4 a0 fun v2 p3 =>
 kbx p3 4 a1 fun v4 p5 =>
 cc f186 p5 [v2] fun v6 p7 =>
 kex v6 0 fun v8 =>
 kex v6 1 fun v9 =>
 kex v6 2 fun v10 =>
 cc f186 p7 [v4] fun v11 p12 =>
 kex v11 0 fun v13 =>
 kex v11 1 fun v14 =>
 kex v11 2 fun v15 =>
 keq false .i v10 q0 fun v16 =>
 jn 2 (fun j17 => gdK v16 true (keq false .i v15 q0 fun v18 =>
 j17 v15 v18 p12) (j17 .undef .undef p12)) fun v19 v20 p21 =>
 kpk v16 v20 q11 fun v22 =>
 jn 3 (fun j23 => gdK v22 true (cn f363 p21 [v8, v13, q108] fun v24 p25 =>
 j23 v8 v13 v24 p25) (j23 .undef .undef .undef p21)) fun v26 v27 v28 p29 =>
 kpk v22 v28 q11 fun v30 =>
 k [v30] p29
theorem o361 : FO EN 361 f361 := fe 2 (tc (cc_ok o186) (tc (cn_ok o363) tnil)) [] (by kernel_rfl) fun p s k => by kernel_rfl
def f362 : FT := fun p s k => hd s fun a0 s0 =>
 nl s0 <|
 kln a0 fun v1 =>
 jn 0 (fun j2 =>
 lp 1 fuel (fun r3 v4 p5 =>
 klt v4 v1 fun v6 =>
 kif v6
 (kia 1 a0 v4 fun v7 =>
 kld p5 v7 fun v8 =>
 kbd q88 [(0, 1, q43), (1, 1, v8)] fun v9 =>
 cc f146 p5 [v9] fun v10 p11 =>
 keq true .i v10 q0 fun v12 =>
 jn 5 (fun j13 => gdK v12 false (ksl 1 a0 none (some v4) none fun v14 =>
 cn f251 p11 [v14, v8] fun v15 p16 =>
 j13 a0 v4 v14 v8 v15 p16) (j13 .undef .undef .undef .undef .undef p11)) fun v17 v18 v19 v20 v21 p22 =>
 kpk v12 q21 v21 fun v23 =>
 kif v23
 (k [q11] p22)
 (kad v4 q12 fun v24 =>
 r3 v24 p22))
 (j2 p5)) q0 p) fun p25 =>
 kln a0 fun v26 =>
 kgt v26 q0 fun v27 =>
 k [v27] p25
theorem o362 : FO EN 362 f362 := fe 1 (tc (cc_ok o146) (tc (cn_ok o251) tnil)) [some [], some [7], none, none, none] (by kernel_rfl) fun p s k => by kernel_rfl
def f354 : FT := fun p s k => hd s fun a0 s0 =>
 nl s0 <|
 cn f360 p [a0, q0] fun v1 p2 =>
 kex v1 0 fun v3 =>
 kex v1 1 fun v4 =>
 kex v1 2 fun v5 =>
 kal p2 q88 fun v6 p7 =>
 kst p7 4 v6 v3 fun p8 =>
 knt v5 fun v9 =>
 jn 4 (fun j10 => gdK v9 false (kln a0 fun v11 =>
 keq true .i v4 v11 fun v12 =>
 j10 v4 a0 v11 v12 p8) (j10 .undef .undef .undef .undef p8)) fun v13 v14 v15 v16 p17 =>
 kpk v9 q21 v16 fun v18 =>
 jn 3 (fun j19 => gdK v18 false (kla p17 4 v6 fun v20 =>
 cc f146 p17 [v20] fun v21 p22 =>
 keq true .i v21 q0 fun v23 =>
 j19 v20 v21 v23 p22) (j19 .undef .undef .undef p17)) fun v24 v25 v26 p27 =>
 kpk v18 q21 v26 fun v28 =>
 kif v28
 (k [q20] p27)
 (kla p27 4 v6 fun v29 =>
 cc f82 p27 [v29] fun v30 p31 =>
 kex v30 0 fun v32 =>
 kex v30 1 fun v33 =>
 kal p31 q88 fun v34 p35 =>
 kst p35 4 v34 v32 fun p36 =>
 kla p36 4 v34 fun v37 =>
 kla p36 4 v6 fun v38 =>
 cn f361 p36 [v37, v38] fun v39 p40 =>
 knt v39 fun v41 =>
 kif v41
 (k [q20] p40)
 (kln a0 fun v42 =>
 jn 0 (fun j43 =>
 lp 2 fuel (fun r44 v45 v46 p47 =>
 klt v46 v42 fun v48 =>
 kif v48
 (kia 6 a0 v46 fun v49 =>
 kla p47 6 v49 fun v50 =>
 kal p47 q89 fun v51 p52 =>
 kst p52 6 v51 v50 fun p53 =>
 kfa 0 v51 fun v54 =>
 kld p53 v54 fun v55 =>
 kle v55 q45 fun v56 =>
 jn 2 (fun j57 => kif v56
 (kad v45 q12 fun v58 =>
 j57 v58 v45 p53)
 (j57 v45 q34 p53)) fun v59 v60 p61 =>
 kfa 5 v51 fun v62 =>
 kld p61 v62 fun v63 =>
 keq true .i v63 v60 fun v64 =>
 jn 8 (fun j65 => gdK v64 false (kfa 0 v51 fun v66 =>
 kld p61 v66 fun v67 =>
 keq false .i v67 q45 fun v68 =>
 kfa 3 v51 fun v69 =>
 kld p61 v69 fun v70 =>
 kln v70 fun v71 =>
 kgt v71 q0 fun v72 =>
 keq true .b v68 v72 fun v73 =>
 j65 v66 v67 v68 v69 v70 v71 v72 v73 p61) (j65 .undef .undef .undef .undef .undef .undef .undef .undef p61)) fun v74 v75 v76 v77 v78 v79 v80 v81 p82 =>
 kpk v64 q21 v81 fun v83 =>
 jn 4 (fun j84 => gdK v83 false (kfa 0 v51 fun v85 =>
 kld p82 v85 fun v86 =>
 keq false .i v86 q45 fun v87 =>
 j84 v85 v86 v87 v87 p82) (j84 .undef .undef .undef .undef p82)) fun v88 v89 v90 v91 p92 =>
 jn 4 (fun j93 => gdK v91 true (kfa 3 v51 fun v94 =>
 kld p92 v94 fun v95 =>
 cn f362 p92 [v95] fun v96 p97 =>
 knt v96 fun v98 =>
 j93 v94 v95 v96 v98 p97) (j93 .undef .undef .undef .undef p92)) fun v99 v100 v101 v102 p103 =>
 jn 1 (fun j104 => gdK v83 false (kpk v91 v102 q11 fun v105 =>
 j104 v105 p103) (j104 .undef p103)) fun v106 p107 =>
 kpk v83 q21 v106 fun v108 =>
 kif v108
 (k [q20] p107)
 (kad v46 q12 fun v109 =>
 r44 v59 v109 p107))
 (j43 p47)) q0 q0 p40) fun p110 =>
 k [q0] p110))
theorem o354 : FO EN 354 f354 := fe 1 (tc (cn_ok o360) (tc (cc_ok o146) (tc (cc_ok o82) (tc (cn_ok o361) (tc (cn_ok o362) tnil))))) [none, none, some [], some [8, 42], none, none, some [8, 11], none] (by kernel_rfl) fun p s k => by kernel_rfl
def f355 : FT := fun p s k => hd s fun a0 s0 =>
 nl s0 <|
 kln a0 fun v1 =>
 jn 1 (fun j2 =>
 lp 2 fuel (fun r3 v4 v5 p6 =>
 klt v5 v1 fun v7 =>
 kif v7
 (kia 6 a0 v5 fun v8 =>
 kla p6 6 v8 fun v9 =>
 kal p6 q89 fun v10 p11 =>
 kst p11 6 v10 v9 fun p12 =>
 kfa 5 v10 fun v13 =>
 kld p12 v13 fun v14 =>
 kad v14 q12 fun v15 =>
 ksw mth p12 (.minmax true [(.c v4), (.c v15)]) fun v16 p17 =>
 kad v5 q12 fun v18 =>
 r3 v16 v18 p17)
 (j2 v4 p6)) q0 q0 p) fun v19 p20 =>
 k [v19] p20
theorem o355 : FO EN 355 f355 := fe 1 tnil [some [3], some [3, 8], none, none] (by kernel_rfl) fun p s k => by kernel_rfl
end
end Go.V
end
