/-
  Parts of the proof:
  YtepmmbbfladciaaGreatZm7
  YtepmmbbfladciaaGreatZm8
-/
import Derived.KernelRfl
import Derived.Test.YtepmmbbfladciaaGreatZ4

section
set_option maxRecDepth 100000
set_option linter.unusedVariables false
namespace Go.V
noncomputable section
def f23 : FT := fun p s k => nl s <|
 kal p q66 fun v0 p1 =>
 kbd q30 [(0, 1, q116)] fun v2 =>
 kal p1 q30 fun v3 p4 =>
 kst p4 2 v3 v2 fun p5 =>
 kbd q88 [(0, 1, q44)] fun v6 =>
 kal p5 q88 fun v7 p8 =>
 kst p8 4 v7 v6 fun p9 =>
 kla p9 4 v7 fun v10 =>
 kbd q88 [(0, 1, q43), (1, 1, q117)] fun v11 =>
 kbd q88 [(0, 1, q45), (1, 1, q118), (2, 1, q119)] fun v12 =>
 kbs p9 3 q120 [(0, 4, v10), (4, 4, v11), (8, 4, v12)] fun v13 p14 =>
 kbd q88 [(0, 1, q62), (3, 1, v13)] fun v15 =>
 kbd q88 [(0, 1, q43), (1, 1, q121)] fun v16 =>
 kbs p14 2 q122 [(0, 4, v15), (4, 4, v16)] fun v17 p18 =>
 kbd q88 [(0, 1, q64), (3, 1, v17)] fun v19 =>
 kal p18 q88 fun v20 p21 =>
 kst p21 4 v20 v19 fun p22 =>
 kbd q30 [(0, 1, q123)] fun v23 =>
 kbs p22 1 q30 [(0, 2, v23)] fun v24 p25 =>
 kla p25 4 v7 fun v26 =>
 kbd q69 [(0, 1, q118), (1, 1, v24), (2, 4, v26)] fun v27 =>
 kla p25 2 v3 fun v28 =>
 kbs p25 1 q30 [(0, 2, v28)] fun v29 p30 =>
 kla p30 4 v7 fun v31 =>
 kbd q69 [(0, 1, q117), (1, 1, v29), (2, 4, v31)] fun v32 =>
 kla p30 2 v3 fun v33 =>
 kbd q30 [(0, 1, q124), (1, 1, q125)] fun v34 =>
 kbs p30 2 q126 [(0, 2, v33), (2, 2, v34)] fun v35 p36 =>
 kla p36 4 v20 fun v37 =>
 kbd q69 [(0, 1, q119), (1, 1, v35), (2, 4, v37)] fun v38 =>
 kla p36 2 v3 fun v39 =>
 kbs p36 1 q30 [(0, 2, v39)] fun v40 p41 =>
 kla p41 4 v7 fun v42 =>
 kbd q69 [(0, 1, q121), (1, 1, v40), (2, 4, v42)] fun v43 =>
 kbs p41 4 q127 [(0, 6, v27), (6, 6, v32), (12, 6, v38), (18, 6, v43)] fun v44 p45 =>
 kbd q68 [(0, 1, q128), (1, 1, v44)] fun v46 =>
 kla p45 2 v3 fun v47 =>
 kbs p45 1 q30 [(0, 2, v47)] fun v48 p49 =>
 kla p49 4 v7 fun v50 =>
 kbd q69 [(0, 1, q119), (1, 1, v48), (2, 4, v50)] fun v51 =>
 kbs p49 1 q69 [(0, 6, v51)] fun v52 p53 =>
 kbd q68 [(0, 1, q123), (1, 1, v52)] fun v54 =>
 kla p53 2 v3 fun v55 =>
 kbs p53 1 q30 [(0, 2, v55)] fun v56 p57 =>
 kla p57 4 v7 fun v58 =>
 kbd q69 [(0, 1, q125), (1, 1, v56), (2, 4, v58)] fun v59 =>
 kbs p57 1 q69 [(0, 6, v59)] fun v60 p61 =>
 kbd q68 [(0, 1, q124), (1, 1, v60)] fun v62 =>
 kbd q68 [(0, 1, q116)] fun v63 =>
 kbs p61 4 q129 [(0, 2, v46), (2, 2, v54), (4, 2, v62), (6, 2, v63)] fun v64 p65 =>
 kbd q66 [(0, 1, v64)] fun v66 =>
 kal p65 q66 fun v67 p68 =>
 kst p68 1 v67 v66 fun p69 =>
 kbd q30 [(0, 1, q128), (1, 1, q130)] fun v70 =>
 kal p69 q30 fun v71 p72 =>
 kst p72 2 v71 v70 fun p73 =>
 kla (prt [] p73) 1 v67 fun v74 =>
 kla (prt [] p73) 2 v71 fun v75 =>
 kbd q29 [(0, 2, v75), (2, 1, q118)] fun v76 =>
 kbd q30 [(0, 1, q123), (1, 1, q131)] fun v77 =>
 kbd q29 [(0, 2, v77)] fun v78 =>
 kbd q22 [(0, 3, v76), (3, 3, v78)] fun v79 =>
 kla (prt [] p73) 2 v71 fun v80 =>
 kbd q29 [(0, 2, v80), (2, 1, q117)] fun v81 =>
 kbd q30 [(0, 1, q116), (1, 1, q132)] fun v82 =>
 kbd q29 [(0, 2, v82)] fun v83 =>
 kbd q22 [(0, 3, v81), (3, 3, v83)] fun v84 =>
 kla (prt [] p73) 2 v71 fun v85 =>
 kbd q29 [(0, 2, v85), (2, 1, q119)] fun v86 =>
 kbd q30 [(0, 1, q124), (1, 1, q133)] fun v87 =>
 kbd q29 [(0, 2, v87), (2, 1, q125)] fun v88 =>
 kbd q22 [(0, 3, v86), (3, 3, v88)] fun v89 =>
 kla (prt [] p73) 2 v71 fun v90 =>
 kbd q29 [(0, 2, v90), (2, 1, q119)] fun v91 =>
 kbd q30 [(0, 1, q116), (1, 1, q134)] fun v92 =>
 kbd q29 [(0, 2, v92)] fun v93 =>
 kbd q22 [(0, 3, v91), (3, 3, v93)] fun v94 =>
 kbs p73 4 q135 [(0, 6, v79), (6, 6, v84), (12, 6, v89), (18, 6, v94)] fun v95 p96 =>
 kps p96 [(p73.next, p96.next)] [v71, v71, v71, v71] 1 v0 v74 fun b97 p98 =>
 kra p98 1 v0 fun v99 =>
 k [v99, v95] p98
theorem o23 : FO EN 23 f23 := fe 0 tnil [] (by kernel_rfl) fun p s k => by kernel_rfl
def f114 : FT := fun p s k => hd s fun a0 s0 =>
 hd s0 fun a1 s1 =>
 nl s1 <|
 kbx p 2 a1 fun v2 p3 =>
 kln a0 fun v4 =>
 jn 0 (fun j5 =>
 lp 1 fuel (fun r6 v7 p8 =>
 klt v7 v4 fun v9 =>
 kif v9
 (kla (prt [] p8) 2 v2 fun v10 =>
 kia 2 a0 v7 fun v11 =>
 kla (prt [] p8) 2 v11 fun v12 =>
 kea false [(0, .s), (1, .s)] v10 v12 fun v13 =>
 kif v13
 (k [v7] p8)
 (kad v7 q12 fun v14 =>
 r6 v14 p8))
 (j5 p8)) q0 p3) fun p15 =>
 k [q34] p15
theorem o114 : FO EN 114 f114 := fe 2 tnil [some [], some [8], none, none, none] (by kernel_rfl) fun p s k => by kernel_rfl
def f62 : FT := fun p s k => hd s fun a0 s0 =>
 hd s0 fun a1 s1 =>
 nl s1 <|
 kbx p 2 a1 fun v2 p3 =>
 kla p3 2 v2 fun v4 =>
 cn f114 p3 [a0, v4] fun v5 p6 =>
 kge v5 q0 fun v7 =>
 k [v7] p6
theorem o62 : FO EN 62 f62 := fe 2 (tc (cn_ok o114) tnil) [] (by kernel_rfl) fun p s k => by kernel_rfl
def f28 : FT := fun p s k => hd s fun a0 s0 =>
 hd s0 fun a1 s1 =>
 nl s1 <|
 kbx p 5 a0 fun v2 p3 =>
 kbx p3 4 a1 fun v4 p5 =>
 kal p5 q103 fun v6 p7 =>
 kla p7 5 v2 fun v8 =>
 kla p7 4 v4 fun v9 =>
 cn f63 p7 [v8, v9] fun v10 p11 =>
 kex v10 0 fun v12 =>
 kex v10 1 fun v13 =>
 kal p11 q86 fun v14 p15 =>
 kst p15 2 v14 v12 fun p16 =>
 keq true .i v13 q0 fun v17 =>
 kif v17
 (kbd q103 [] fun v18 =>
 kst p16 10 v6 v18 fun p19 =>
 kra p19 10 v6 fun v20 =>
 k [v20, v13] p19)
 (kla (prt [] p16) 4 v4 fun v21 =>
 kla (prt [] p16) 4 v4 fun v22 =>
 cc f51 (prt [] p16) [v22] fun v23 p24 =>
 unpK p16 p24 fun p25 =>
 kms p25 1 1 q75 v23 v23 fun v26 p27 =>
 kla (prt [(p16.next, p24.next), (p25.next, p27.next)] p27) 4 v4 fun v28 =>
 cc f51 (prt [(p25.next, p27.next)] p27) [v28] fun v29 p30 =>
 unpK p27 p30 fun p31 =>
 kms p31 1 8 q14 v29 v29 fun v32 p33 =>
 kbd q103 [(0, 4, v21), (4, 1, v26), (5, 1, v32)] fun v34 =>
 kst p33 10 v6 v34 fun p35 =>
 kra p35 10 v6 fun v36 =>
 k [v36, q0] p35)
theorem o28 : FO EN 28 f28 := fe 2 (tc (cn_ok o63) (tc (cc_ok o51) tnil)) [none] (by kernel_rfl) fun p s k => by kernel_rfl
def f64 : FT := fun p s k => hd s fun a0 s0 =>
 hd s0 fun a1 s1 =>
 nl s1 <|
 kbx p 5 a0 fun v2 p3 =>
 kbx p3 10 a1 fun v4 p5 =>
 kal p5 q86 fun v6 p7 =>
 kla p7 5 v2 fun v8 =>
 kfa 0 v4 fun v9 =>
 kla p7 4 v9 fun v10 =>
 cn f63 p7 [v8, v10] fun v11 p12 =>
 kex v11 0 fun v13 =>
 kex v11 1 fun v14 =>
 kal p12 q86 fun v15 p16 =>
 kst p16 2 v15 v13 fun p17 =>
 keq true .i v14 q0 fun v18 =>
 kif v18
 (kbd q86 [] fun v19 =>
 kst p17 2 v6 v19 fun p20 =>
 kra p20 2 v6 fun v21 =>
 k [v21, v14] p20)
 (kfa 4 v4 fun v22 =>
 kld (prt [] p17) v22 fun v23 =>
 kln v23 fun v24 =>
 kfa 0 v4 fun v25 =>
 kla (prt [] p17) 4 v25 fun v26 =>
 cc f51 (prt [] p17) [v26] fun v27 p28 =>
 unpK p17 p28 fun p29 =>
 keq true .i v24 v27 fun v30 =>
 jn 7 (fun j31 => gdK v30 false (kfa 5 v4 fun v32 =>
 kld (prt [] p29) v32 fun v33 =>
 kln v33 fun v34 =>
 kfa 0 v4 fun v35 =>
 kla (prt [] p29) 4 v35 fun v36 =>
 cc f51 (prt [] p29) [v36] fun v37 p38 =>
 unpK p29 p38 fun p39 =>
 keq true .i v34 v37 fun v40 =>
 j31 v32 v33 v34 v35 v36 v37 v40 p39) (j31 .undef .undef .undef .undef .undef .undef .undef p29)) fun v41 v42 v43 v44 v45 v46 v47 p48 =>
 kpk v30 q21 v47 fun v49 =>
 jn 3 (fun j50 => gdK v49 false (kfa 6 v4 fun v51 =>
 kld p48 v51 fun v52 =>
 klt v52 q0 fun v53 =>
 j50 v51 v52 v53 p48) (j50 .undef .undef .undef p48)) fun v54 v55 v56 _ =>
 kpk v49 q21 v56 fun v58 =>
 jn 6 (fun j59 => gdK v58 false (kfa 6 v4 fun v60 =>
 kld (prt [] p48) v60 fun v61 =>
 kfa 0 v15 fun v62 =>
 kld (prt [] p48) v62 fun v63 =>
 kln v63 fun v64 =>
 kgt v61 v64 fun v65 =>
 j59 v60 v61 v62 v63 v64 v65 p48) (j59 .undef .undef .undef .undef .undef .undef p48)) fun v66 v67 v68 v69 v70 v71 _ =>
 kpk v58 q21 v71 fun v73 =>
 jn 3 (fun j74 => gdK v73 false (kfa 7 v4 fun v75 =>
 kld p48 v75 fun v76 =>
 klt v76 q0 fun v77 =>
 j74 v75 v76 v77 p48) (j74 .undef .undef .undef p48)) fun v78 v79 v80 _ =>
 kpk v73 q21 v80 fun v82 =>
 jn 3 (fun j83 => gdK v82 false (kfa 9 v4 fun v84 =>
 kld p48 v84 fun v85 =>
 klt v85 q0 fun v86 =>
 j83 v84 v85 v86 p48) (j83 .undef .undef .undef p48)) fun v87 v88 v89 _ =>
 kpk v82 q21 v89 fun v91 =>
 jn 3 (fun j92 => gdK v91 false (kfa 9 v4 fun v93 =>
 kld p48 v93 fun v94 =>
 kgt v94 q104 fun v95 =>
 j92 v93 v94 v95 p48) (j92 .undef .undef .undef p48)) fun v96 v97 v98 _ =>
 kpk v91 q21 v98 fun v100 =>
 kif v100
 (kbd q86 [] fun v101 =>
 kst p48 2 v6 v101 fun p102 =>
 kra p102 2 v6 fun v103 =>
 k [v103, q102] p102)
 (kfa 5 v4 fun v104 =>
 kld p48 v104 fun v105 =>
 cn f121 p48 [v105, (.func (.func 122) [] [v4])] fun v106 p107 =>
 kif v106
 (kbd q86 [] fun v108 =>
 kst p107 2 v6 v108 fun p109 =>
 kra p109 2 v6 fun v110 =>
 k [v110, q102] p109)
 (kfa 6 v4 fun v111 =>
 kld (prt [] p107) v111 fun v112 =>
 kfa 0 v15 fun v113 =>
 kld (prt [] p107) v113 fun v114 =>
 kln v114 fun v115 =>
 keq false .i v112 v115 fun v116 =>
 jn 4 (fun j117 => gdK v116 true (kfa 7 v4 fun v118 =>
 kld p107 v118 fun v119 =>
 kgt v119 q0 fun v120 =>
 j117 v118 v119 v120 v120 p107) (j117 .undef .undef .undef .undef p107)) fun v121 v122 v123 v124 _ =>
 jn 2 (fun j126 => gdK v124 false (kfa 8 v4 fun v127 =>
 kld p107 v127 fun v128 =>
 j126 v127 v128 p107) (j126 .undef .undef p107)) fun v129 v130 _ =>
 jn 1 (fun j132 => gdK v116 true (kpk v124 q21 v130 fun v133 =>
 j132 v133 p107) (j132 .undef p107)) fun v134 _ =>
 kpk v116 v134 q11 fun v136 =>
 jn 7 (fun j137 => gdK v136 false (kfa 6 v4 fun v138 =>
 kld (prt [] p107) v138 fun v139 =>
 kfa 0 v15 fun v140 =>
 kld (prt [] p107) v140 fun v141 =>
 kln v141 fun v142 =>
 klt v139 v142 fun v143 =>
 j137 v138 v139 v140 v141 v142 v143 v143 p107) (j137 .undef .undef .undef .undef .undef .undef .undef p107)) fun v144 v145 v146 v147 v148 v149 v150 _ =>
 jn 10 (fun j152 => gdK v150 true (kfa 7 v4 fun v153 =>
 kld (prt [] p107) v153 fun v154 =>
 kfa 0 v15 fun v155 =>
 kld (prt [] p107) v155 fun v156 =>
 kfa 6 v4 fun v157 =>
 kld (prt [] p107) v157 fun v158 =>
 kia 1 v156 v158 fun v159 =>
 kld (prt [] p107) v159 fun v160 =>
 kln v160 fun v161 =>
 kge v154 v161 fun v162 =>
 j152 v153 v154 v155 v156 v157 v158 v159 v160 v161 v162 p107) (j152 .undef .undef .undef .undef .undef .undef .undef .undef .undef .undef p107)) fun v163 v164 v165 v166 v167 v168 v169 v170 v171 v172 _ =>
 jn 1 (fun j174 => gdK v136 false (kpk v150 v172 q11 fun v175 =>
 j174 v175 p107) (j174 .undef p107)) fun v176 _ =>
 kpk v136 q21 v176 fun v178 =>
 kif v178
 (kbd q86 [] fun v179 =>
 kst p107 2 v6 v179 fun p180 =>
 kra p180 2 v6 fun v181 =>
 k [v181, q102] p180)
 (kla p107 2 v15 fun v182 =>
 kst p107 2 v6 v182 fun p183 =>
 kra p183 2 v6 fun v184 =>
 k [v184, q0] p183))))
theorem o64 : FO EN 64 f64 := fe 2 (tc (cn_ok o63) (tc (cc_ok o51) (tc (cn_ok o121) tnil))) [none, none, none, none] (by kernel_rfl) fun p s k => by kernel_rfl
def f66 : FT := fun p s k => hd s fun a0 s0 =>
 nl s0 <|
 ken false .s a0 .nils fun v1 =>
 kif v1
 (k [.nils] p)
 (kbs p 0 [] [] fun v2 p3 =>
 kap p3 1 1 v2 a0 fun v4 p5 =>
 k [v4] p5)
theorem o66 : FO EN 66 f66 := fe 1 tnil [none] (by kernel_rfl) fun p s k => by kernel_rfl
def f65 : FT := fun p s k => hd s fun a0 s0 =>
 nl s0 <|
 kln a0 fun v1 =>
 kln a0 fun v2 =>
 ksl 1 a0 none (some v1) (some v2) fun v3 =>
 k [v3] p
theorem o65 : FO EN 65 f65 := fe 1 tnil [] (by kernel_rfl) fun p s k => by kernel_rfl
def f353 : FT := fun p s k => hd s fun a0 s0 =>
 hd s0 fun a1 s1 =>
 nl s1 <|
 kln a0 fun v2 =>
 jn 0 (fun j3 =>
 lp 1 fuel (fun r4 v5 p6 =>
 klt v5 v2 fun v7 =>
 kif v7
 (kia 1 a0 v5 fun v8 =>
 kld p6 v8 fun v9 =>
 keq false .b a1 v9 fun v10 =>
 kif v10
 (k [v5] p6)
 (kad v5 q12 fun v11 =>
 r4 v11 p6))
 (j3 p6)) q0 p) fun p12 =>
 k [q34] p12
theorem o353 : FO EN 353 f353 := fe 2 tnil [some [], some [8], none, none, none] (by kernel_rfl) fun p s k => by kernel_rfl
def f351 : FT := fun p s k => hd s fun a0 s0 =>
 hd s0 fun a1 s1 =>
 nl s1 <|
 cn f353 p [a0, a1] fun v2 p3 =>
 kge v2 q0 fun v4 =>
 k [v4] p3
theorem o351 : FO EN 351 f351 := fe 2 (tc (cn_ok o353) tnil) [] (by kernel_rfl) fun p s k => by kernel_rfl
def f357 : FT := fun p s k => hd s fun a0 s0 =>
 hd s0 fun a1 s1 =>
 nl s1 <|
 jn 1 (fun j2 => gdK a0 false (j2 a1 p) (j2 .undef p)) fun v3 p4 =>
 kpk a0 q21 v3 fun v5 =>
 k [v5] p4
theorem o357 : FO EN 357 f357 := fe 2 tnil [] (by kernel_rfl) fun p s k => by kernel_rfl
def f359 : FT := fun p s k => hd s fun a0 s0 =>
 hd s0 fun a1 s1 =>
 nl s1 <|
 jn 2 (fun j2 => gdK a0 true (knt a1 fun v3 =>
 j2 a1 v3 p) (j2 .undef .undef p)) fun v4 v5 p6 =>
 kpk a0 v5 q11 fun v7 =>
 k [v7] p6
theorem o359 : FO EN 359 f359 := fe 2 tnil [] (by kernel_rfl) fun p s k => by kernel_rfl
def t356 (self : FT) : List Ce := [⟨356, cn self⟩, ⟨357, cn f357⟩, ⟨359, cn f359⟩]
def g356 : FT → FT := fun self => fun p s k => hd s fun a0 s0 =>
 hd s0 fun a1 s1 =>
 hd s1 fun a2 s2 =>
 hd s2 fun a3 s3 =>
 nl s3 <|
 kbx p 3 a3 fun v4 p5 =>
 kia 6 a0 a1 fun v6 =>
 kla p5 6 v6 fun v7 =>
 kal p5 q89 fun v8 p9 =>
 kst p9 6 v8 v7 fun p10 =>
 kfa 5 v8 fun v11 =>
 kld p10 v11 fun v12 =>
 kge v12 q0 fun v13 =>
 kif v13
 (kfa 5 v8 fun v14 =>
 kld p10 v14 fun v15 =>
 kia 1 a2 v15 fun v16 =>
 kld p10 v16 fun v17 =>
 k [v17] p10)
 (kfa 4 v8 fun v18 =>
 kld (prt [] p10) v18 fun v19 =>
 kia 1 v19 q0 fun v20 =>
 kld (prt [] p10) v20 fun v21 =>
 kla (prt [] p10) 3 v4 fun v22 =>
 cn self p10 [a0, v21, a2, v22] fun v23 p24 =>
 kfa 4 v8 fun v25 =>
 kld p24 v25 fun v26 =>
 ksl 1 v26 (some q12) none none fun v27 =>
 kln v27 fun v28 =>
 jn 1 (fun j29 =>
 lp 2 fuel (fun r30 v31 v32 p33 =>
 klt v32 v28 fun v34 =>
 kif v34
 (kia 1 v27 v32 fun v35 =>
 kld p33 v35 fun v36 =>
 kfa 0 v8 fun v37 =>
 kld (prt [] p33) v37 fun v38 =>
 ksb v38 q62 fun v39 =>
 kib 3 1 v4 v39 fun v40 =>
 kld (prt [] p33) v40 fun v41 =>
 kla (prt [] p33) 3 v4 fun v42 =>
 cn self (prt [] p33) [a0, v36, a2, v42] fun v43 p44 =>
 unpK p33 p44 fun p45 =>
 kcv (t356 self) p45 v41 [v31, v43] fun v46 p47 =>
 kad v32 q12 fun v48 =>
 r30 v46 v48 p47)
 (j29 v31 p33)) v23 q0 p24) fun v49 p50 =>
 k [v49] p50)
def f356 : FT := rcF depth g356
theorem o356 : FO EN 356 f356 := FO.rc (fun self h => fe 4 (T := t356 self) (tc (cn_ok h) (tc (cn_ok o357) (tc (cn_ok o359) tnil))) [none, some [10], some [10, 37], none, none] (by kernel_rfl) fun p s k => by kernel_rfl) depth
end
end Go.V
end

section
set_option maxRecDepth 100000
set_option linter.unusedVariables false
namespace Go.V
noncomputable section
def f352 : FT := fun p s k => hd s fun a0 s0 =>
 hd s0 fun a1 s1 =>
 nl s1 <|
 cn f354 p [a0] fun v2 p3 =>
 keq true .i v2 q0 fun v4 =>
 kif v4
 (k [q11, v2] p3)
 (kln a1 fun v5 =>
 cn f355 p3 [a0] fun v6 p7 =>
 keq true .i v5 v6 fun v8 =>
 kif v8
 (k [q11, q15] p7)
 (kbd q112 [(0, 1, q143), (1, 1, q144), (2, 1, q145)] fun v9 =>
 cn f356 p7 [a0, q0, a1, v9] fun v10 p11 =>
 k [v10, q0] p11))
theorem o352 : FO EN 352 f352 := fe 2 (tc (cn_ok o354) (tc (cn_ok o355) (tc (cn_ok o356) tnil))) [none, none] (by kernel_rfl) fun p s k => by kernel_rfl
def f349 : FT := fun p s k => hd s fun a0 s0 =>
 hd s0 fun a1 s1 =>
 hd s1 fun a2 s2 =>
 hd s2 fun a3 s3 =>
 nl s3 <|
 kbx p 5 a0 fun v4 p5 =>
 kbx p5 3 a1 fun v6 p7 =>
 kbx p7 2 a2 fun v8 p9 =>
 kla p9 5 v4 fun v10 =>
 kla p9 3 v6 fun v11 =>
 cn f168 p9 [v10, v11] fun v12 p13 =>
 kex v12 0 fun v14 =>
 kex v12 1 fun v15 =>
 kal p13 q91 fun v16 p17 =>
 kst p17 6 v16 v14 fun p18 =>
 keq true .i v15 q0 fun v19 =>
 kif v19
 (k [q11, v15] p18)
 (kla p18 5 v4 fun v20 =>
 kla p18 3 v6 fun v21 =>
 kla p18 6 v16 fun v22 =>
 cn f202 p18 [v20, v21, v22] fun v23 p24 =>
 cn f350 p24 [v23] fun v25 p26 =>
 kln a3 fun v27 =>
 keq true .i v25 v27 fun v28 =>
 kif v28
 (k [q11, q15] p26)
 (kln v23 fun v29 =>
 kms p26 1 1 q75 v29 v29 fun v30 p31 =>
 kln v23 fun v32 =>
 jn 0 (fun j33 =>
 lp 2 fuel (fun r34 v35 v36 p37 =>
 klt v36 v32 fun v38 =>
 kif v38
 (kia 3 v23 v36 fun v39 =>
 kla p37 3 v39 fun v40 =>
 kal p37 q101 fun v41 p42 =>
 kst p42 3 v41 v40 fun p43 =>
 kfa 2 v41 fun v44 =>
 kld p43 v44 fun v45 =>
 kln v45 fun v46 =>
 kfa 1 v41 fun v47 =>
 kld p43 v47 fun v48 =>
 kla p43 2 v8 fun v49 =>
 cn f62 p43 [v48, v49] fun v50 p51 =>
 jn 4 (fun j52 => gdK v50 false (ksl 1 v35 none (some v46) none fun v53 =>
 cn f351 p51 [v53, q21] fun v54 p55 =>
 j52 v35 v46 v53 v54 p55) (j52 .undef .undef .undef .undef p51)) fun v56 v57 v58 v59 p60 =>
 kpk v50 q21 v59 fun v61 =>
 kia 1 v30 v36 fun v62 =>
 kst p60 1 v62 v61 fun p63 =>
 ksl 1 v35 (some v46) none none fun v64 =>
 kad v36 q12 fun v65 =>
 r34 v64 v65 p63)
 (j33 p37)) a3 q0 p31) fun p66 =>
 kfa 5 v16 fun v67 =>
 kld p66 v67 fun v68 =>
 cn f352 p66 [v68, v30] fun v69 p70 =>
 kex v69 0 fun v71 =>
 kex v69 1 fun v72 =>
 k [v71, v72] p70))
theorem o349 : FO EN 349 f349 := fe 4 (tc (cn_ok o168) (tc (cn_ok o202) (tc (cn_ok o350) (tc (cn_ok o62) (tc (cn_ok o351) (tc (cn_ok o352) tnil)))))) [none, none, some [], some [3, 40], none, none] (by kernel_rfl) fun p s k => by kernel_rfl
def f347 : FT := fun p s k => hd s fun a0 s0 =>
 hd s0 fun a1 s1 =>
 hd s1 fun a2 s2 =>
 hd s2 fun a3 s3 =>
 nl s3 <|
 kbx p 2 a0 fun v4 p5 =>
 kbx p5 5 a1 fun v6 p7 =>
 kbx p7 3 a2 fun v8 p9 =>
 kla p9 5 v6 fun v10 =>
 kla p9 3 v8 fun v11 =>
 kfa 0 v4 fun v12 =>
 kla p9 2 v12 fun v13 =>
 cn f349 p9 [v10, v11, v13, a3] fun v14 p15 =>
 kex v14 0 fun v16 =>
 kex v14 1 fun v17 =>
 k [v16, v17] p15
theorem o347 : FO EN 347 f347 := fe 4 (tc (cn_ok o349) tnil) [] (by kernel_rfl) fun p s k => by kernel_rfl
def f348 : FT := fun p s k => hd s fun a0 s0 =>
 hd s0 fun a1 s1 =>
 hd s1 fun a2 s2 =>
 nl s2 <|
 kbx p 2 a0 fun v3 p4 =>
 keq false .b a1 a2 fun v5 =>
 k [v5] p4
theorem o348 : FO EN 348 f348 := fe 3 tnil [] (by kernel_rfl) fun p s k => by kernel_rfl
def t69 : List Ce := [⟨123, cn f123⟩, ⟨347, cn f347⟩, ⟨348, cn f348⟩]
def f69 : FT := fun p s k => hd s fun a0 s0 =>
 hd s0 fun a1 s1 =>
 hd s1 fun a2 s2 =>
 hd s2 fun a3 s3 =>
 nl s3 <|
 kbx p 5 a1 fun v4 p5 =>
 kbx p5 2 a2 fun v6 p7 =>
 kfa 0 v6 fun v8 =>
 kld (prt [] p7) v8 fun v9 =>
 knc mth a3 fun v10 =>
 kfa 6 v10 fun v11 =>
 kld (prt [] p7) v11 fun v12 =>
 kia 1 v9 v12 fun v13 =>
 kld (prt [] p7) v13 fun v14 =>
 knc mth a3 fun v15 =>
 kfa 7 v15 fun v16 =>
 kld (prt [] p7) v16 fun v17 =>
 kia 1 v14 v17 fun v18 =>
 kld p7 v18 fun v19 =>
 knc mth a3 fun v20 =>
 kfa 0 v20 fun v21 =>
 kla p7 4 v21 fun v22 =>
 cn f123 p7 [v22, v19] fun v23 p24 =>
 kex v23 0 fun v25 =>
 kex v23 1 fun v26 =>
 kal p24 q29 fun v27 p28 =>
 kst p28 3 v27 v25 fun p29 =>
 keq true .i v26 q0 fun v30 =>
 kif v30
 (k [v26] p29)
 (kfa 1 v6 fun v31 =>
 kld p29 v31 fun v32 =>
 kia 1 v32 v19 fun v33 =>
 kld p29 v33 fun v34 =>
 kln v34 fun v35 =>
 kms p29 1 1 q75 v35 v35 fun v36 p37 =>
 kfa 1 v6 fun v38 =>
 kld p37 v38 fun v39 =>
 kia 1 v39 v19 fun v40 =>
 kld p37 v40 fun v41 =>
 kln v41 fun v42 =>
 jn 0 (fun j43 =>
 lp 1 fuel (fun r44 v45 p46 =>
 klt v45 v42 fun v47 =>
 kif v47
 (kia 1 v41 v45 fun v48 =>
 kld p46 v48 fun v49 =>
 knc mth a3 fun v50 =>
 kfa 4 v50 fun v51 =>
 kld p46 v51 fun v52 =>
 kia 1 v52 v49 fun v53 =>
 kld p46 v53 fun v54 =>
 kia 1 v36 v45 fun v55 =>
 kst p46 1 v55 v54 fun p56 =>
 kad v45 q12 fun v57 =>
 r44 v57 p56)
 (j43 p46)) q0 p37) fun p58 =>
 kla p58 5 v4 fun v59 =>
 kla p58 3 v27 fun v60 =>
 kiv mth t69 p58 a0 "Make" [v59, v60, v36] fun v61 p62 =>
 kex v61 0 fun v63 =>
 kex v61 1 fun v64 =>
 keq true .i v64 q0 fun v65 =>
 kif v65
 (k [v64] p62)
 (knc mth a3 fun v66 =>
 kfa 9 v66 fun v67 =>
 kld p62 v67 fun v68 =>
 kad v68 q12 fun v69 =>
 knc mth a3 fun v70 =>
 kfa 9 v70 fun v71 =>
 kst p62 1 v71 v69 fun p72 =>
 knc mth a3 fun v73 =>
 kfa 4 v73 fun v74 =>
 kld p72 v74 fun v75 =>
 kia 1 v75 v19 fun v76 =>
 kld p72 v76 fun v77 =>
 knc mth (.func (.method "Same") [a0] []) fun v78 =>
 kiv mth t69 p72 a0 "Same" [v77, v63] fun v79 p80 =>
 knt v79 fun v81 =>
 jn 0 (fun j82 => kif v81
 (knc mth a3 fun v83 =>
 kfa 4 v83 fun v84 =>
 kld (prt [] p80) v84 fun v85 =>
 knc mth a3 fun v86 =>
 kfa 5 v86 fun v87 =>
 kld (prt [] p80) v87 fun v88 =>
 knc mth a3 fun v89 =>
 kfa 9 v89 fun v90 =>
 kld (prt [] p80) v90 fun v91 =>
 kia 1 v85 v19 fun v92 =>
 kst p80 1 v92 v63 fun p93 =>
 kia 1 v88 v19 fun v94 =>
 kst p93 1 v94 v91 fun p95 =>
 knc mth a3 fun v96 =>
 kfa 8 v96 fun v97 =>
 kst p95 1 v97 q21 fun p98 =>
 j82 p98)
 (j82 p80)) fun p99 =>
 knc mth a3 fun v100 =>
 kfa 7 v100 fun v101 =>
 kld p99 v101 fun v102 =>
 kad v102 q12 fun v103 =>
 knc mth a3 fun v104 =>
 kfa 7 v104 fun v105 =>
 kst p99 1 v105 v103 fun p106 =>
 knc mth a3 fun v107 =>
 kfa 7 v107 fun v108 =>
 kld (prt [] p106) v108 fun v109 =>
 kfa 0 v6 fun v110 =>
 kld (prt [] p106) v110 fun v111 =>
 knc mth a3 fun v112 =>
 kfa 6 v112 fun v113 =>
 kld (prt [] p106) v113 fun v114 =>
 kia 1 v111 v114 fun v115 =>
 kld (prt [] p106) v115 fun v116 =>
 kln v116 fun v117 =>
 keq false .i v109 v117 fun v118 =>
 jn 0 (fun j119 => kif v118
 (knc mth a3 fun v120 =>
 kfa 7 v120 fun v121 =>
 kst p106 1 v121 q0 fun p122 =>
 knc mth a3 fun v123 =>
 kfa 8 v123 fun v124 =>
 kld p122 v124 fun v125 =>
 knt v125 fun v126 =>
 jn 0 (fun j127 => kif v126
 (knc mth a3 fun v128 =>
 kfa 6 v128 fun v129 =>
 kld p122 v129 fun v130 =>
 kad v130 q12 fun v131 =>
 knc mth a3 fun v132 =>
 kfa 6 v132 fun v133 =>
 kst p122 1 v133 v131 fun p134 =>
 j127 p134)
 (j127 p122)) fun p135 =>
 knc mth a3 fun v136 =>
 kfa 8 v136 fun v137 =>
 kst p135 1 v137 q11 fun p138 =>
 j119 p138)
 (j119 p106)) fun p139 =>
 k [q0] p139))
theorem o69 : FO EN 69 f69 := fe 4 (T := t69) (tc (cn_ok o123) (tc (cn_ok o347) (tc (cn_ok o348) tnil))) [none, some [], some [55], none, none, none, some [], some [], some []] (by kernel_rfl) fun p s k => by kernel_rfl
def f29 : FT := fun p s k => hd s fun a0 s0 =>
 hd s0 fun a1 s1 =>
 hd s1 fun a2 s2 =>
 hd s2 fun a3 s3 =>
 nl s3 <|
 kbx p 5 a1 fun v4 p5 =>
 kbx p5 10 a2 fun v6 p7 =>
 kal p7 q103 fun v8 p9 =>
 klt a3 q0 fun v10 =>
 kif v10
 (kla p9 10 v6 fun v11 =>
 kst p9 10 v8 v11 fun p12 =>
 kra p12 10 v8 fun v13 =>
 k [v13, q0, q12] p12)
 (kla p9 5 v4 fun v14 =>
 kla p9 10 v6 fun v15 =>
 cn f64 p9 [v14, v15] fun v16 p17 =>
 kex v16 0 fun v18 =>
 kex v16 1 fun v19 =>
 kal p17 q86 fun v20 p21 =>
 kst p21 2 v20 v18 fun p22 =>
 keq true .i v19 q0 fun v23 =>
 kif v23
 (kla p22 10 v6 fun v24 =>
 kst p22 10 v8 v24 fun p25 =>
 kra p25 10 v8 fun v26 =>
 k [v26, q0, v19] p25)
 (ken false .i a0 .nili fun v27 =>
 kif v27
 (kla p22 10 v6 fun v28 =>
 kst p22 10 v8 v28 fun p29 =>
 kra p29 10 v8 fun v30 =>
 k [v30, q0, q16] p29)
 (kla p22 10 v6 fun v31 =>
 kst p22 10 v8 v31 fun p32 =>
 kfa 4 v6 fun v33 =>
 kld (prt [] p32) v33 fun v34 =>
 cn f66 (prt [] p32) [v34] fun v35 p36 =>
 unpK p32 p36 fun p37 =>
 ci f65 (prt [] p37) [v35] fun v38 p39 =>
 unpK p37 p39 fun p40 =>
 kfa 5 v6 fun v41 =>
 kld (prt [(p32.next, p36.next), (p37.next, p39.next)] p40) v41 fun v42 =>
 cc f68 p40 [v42] fun v43 p44 =>
 ci f67 p44 [v43] fun v45 p46 =>
 kfa 4 v8 fun v47 =>
 kst p46 1 v47 v38 fun p48 =>
 kfa 5 v8 fun v49 =>
 kst p48 1 v49 v45 fun p50 =>
 jn 1 (fun j51 =>
 lp 1 fuel (fun r52 v53 p54 =>
 klt v53 a3 fun v55 =>
 jn 6 (fun j56 => gdK v55 true (kfa 6 v8 fun v57 =>
 kld p54 v57 fun v58 =>
 kfa 0 v20 fun v59 =>
 kld p54 v59 fun v60 =>
 kln v60 fun v61 =>
 klt v58 v61 fun v62 =>
 j56 v57 v58 v59 v60 v61 v62 p54) (j56 .undef .undef .undef .undef .undef .undef p54)) fun v63 v64 v65 v66 v67 v68 p69 =>
 kpk v55 v68 q11 fun v70 =>
 kif v70
 (kla p69 5 v4 fun v71 =>
 kla p69 2 v20 fun v72 =>
 ci f69 p69 [a0, v71, v72, v8] fun v73 p74 =>
 keq true .i v73 q0 fun v75 =>
 kif v75
 (kla p74 10 v6 fun v76 =>
 kst p74 10 v8 v76 fun p77 =>
 kra p77 10 v8 fun v78 =>
 k [v78, q0, v73] p77)
 (kad v53 q12 fun v79 =>
 r52 v79 p74))
 (j51 v53 p69)) q0 p50) fun v80 p81 =>
 kla p81 10 v8 fun v82 =>
 kst p81 10 v8 v82 fun p83 =>
 kra p83 10 v8 fun v84 =>
 k [v84, v80, q0] p83)))
theorem o29 : FO EN 29 f29 := fe 4 (tc (cn_ok o64) (tc (cn_ok o66) (tc (ci_ok o65) (tc (cc_ok o68) (tc (ci_ok o67) (tc (ci_ok o69) tnil)))))) [none, none, none, some [9], some [9], none, none, none] (by kernel_rfl) fun p s k => by kernel_rfl
def f11 : FT := fun p s k => hd s fun a0 s0 =>
 hd s0 fun a1 s1 =>
 hd s1 fun a2 s2 =>
 nl s2 <|
 kbx p 5 a0 fun v3 p4 =>
 kbx p4 4 a1 fun v5 p6 =>
 kbx p6 2 a2 fun v7 p8 =>
 kla p8 5 v3 fun v9 =>
 kla p8 4 v5 fun v10 =>
 cn f28 p8 [v9, v10] fun v11 p12 =>
 kex v11 0 fun v13 =>
 kex v11 1 fun v14 =>
 kal p12 q103 fun v15 p16 =>
 kst p16 10 v15 v13 fun p17 =>
 keq true .i v14 q0 fun v18 =>
 kif v18
 (k [.nils, q0, v14] p17)
 (kla p17 2 v7 fun v19 =>
 kbd q30 [(0, 2, v19)] fun v20 =>
 kmi 118 v20 fun v21 =>
 kla p17 5 v3 fun v22 =>
 kla p17 10 v15 fun v23 =>
 cn f29 p17 [v21, v22, v23, q115] fun v24 p25 =>
 kex v24 0 fun v26 =>
 kex v24 1 fun v27 =>
 kex v24 2 fun v28 =>
 kst p25 10 v15 v26 fun p29 =>
 keq true .i v28 q0 fun v30 =>
 kif v30
 (k [.nils, q0, v28] p29)
 (kfa 4 v15 fun v31 =>
 kld p29 v31 fun v32 =>
 k [v32, v27, q0] p29))
theorem o11 : FO EN 11 f11 := fe 3 (tc (cn_ok o28) (tc (cn_ok o29) tnil)) [none, none] (by kernel_rfl) fun p s k => by kernel_rfl
def f30 : FT := fun p s k => hd s fun a0 s0 =>
 hd s0 fun a1 s1 =>
 nl s1 <|
 kbx p 5 a0 fun v2 p3 =>
 kbx p3 4 a1 fun v4 p5 =>
 kla p5 5 v2 fun v6 =>
 kla p5 4 v4 fun v7 =>
 cn f63 p5 [v6, v7] fun v8 p9 =>
 kex v8 0 fun v10 =>
 kex v8 1 fun v11 =>
 kal p9 q86 fun v12 p13 =>
 kst p13 2 v12 v10 fun p14 =>
 kfa 0 v12 fun v15 =>
 kld p14 v15 fun v16 =>
 k [v16, v11] p14
theorem o30 : FO EN 30 f30 := fe 2 (tc (cn_ok o63) tnil) [] (by kernel_rfl) fun p s k => by kernel_rfl
def f31 : FT := fun p s k => hd s fun a0 s0 =>
 hd s0 fun a1 s1 =>
 nl s1 <|
 kln a0 fun v2 =>
 kln a1 fun v3 =>
 keq true .i v2 v3 fun v4 =>
 kif v4
 (k [q0] p)
 (jn 0 (fun j5 =>
 lp 1 fuel (fun r6 v7 p8 =>
 kln a0 fun v9 =>
 klt v7 v9 fun v10 =>
 kif v10
 (jn 0 (fun j11 =>
 kia 1 a0 v7 fun v12 =>
 kld (prt [] p8) v12 fun v13 =>
 kln v13 fun v14 =>
 kia 1 a1 v7 fun v15 =>
 kld (prt [] p8) v15 fun v16 =>
 kln v16 fun v17 =>
 keq true .i v14 v17 fun v18 =>
 kif v18
 (k [q0] p8)
 (jn 0 (fun j19 =>
 lp 1 fuel (fun r20 v21 p22 =>
 kia 1 a0 v7 fun v23 =>
 kld p22 v23 fun v24 =>
 kln v24 fun v25 =>
 klt v21 v25 fun v26 =>
 kif v26
 (kia 1 a0 v7 fun v27 =>
 kld (prt [] p22) v27 fun v28 =>
 kia 1 v28 v21 fun v29 =>
 kld (prt [] p22) v29 fun v30 =>
 kia 1 a1 v7 fun v31 =>
 kld (prt [] p22) v31 fun v32 =>
 kia 1 v32 v21 fun v33 =>
 kld (prt [] p22) v33 fun v34 =>
 keq true .i v30 v34 fun v35 =>
 kif v35
 (k [q0] p22)
 (kad v21 q12 fun v36 =>
 r20 v36 p22))
 (j19 p22)) q0 p8) fun p37 =>
 j11 p37)) fun p38 =>
 kad v7 q12 fun v39 =>
 r6 v39 p38)
 (j5 p8)) q0 p) fun p40 =>
 k [q12] p40)
theorem o31 : FO EN 31 f31 := fe 2 tnil [none, some [], some [5], none, some [], none, some [], some [6], none, none, none] (by kernel_rfl) fun p s k => by kernel_rfl
def f32 : FT := fun p s k => hd s fun a0 s0 =>
 hd s0 fun a1 s1 =>
 nl s1 <|
 kln a0 fun v2 =>
 kln a1 fun v3 =>
 keq true .i v2 v3 fun v4 =>
 kif v4
 (k [q0] p)
 (jn 0 (fun j5 =>
 lp 1 fuel (fun r6 v7 p8 =>
 kln a0 fun v9 =>
 klt v7 v9 fun v10 =>
 kif v10
 (kia 1 a0 v7 fun v11 =>
 kld (prt [] p8) v11 fun v12 =>
 kia 1 a1 v7 fun v13 =>
 kld (prt [] p8) v13 fun v14 =>
 keq true .b v12 v14 fun v15 =>
 kif v15
 (k [q0] p8)
 (kad v7 q12 fun v16 =>
 r6 v16 p8))
 (j5 p8)) q0 p) fun p17 =>
 k [q12] p17)
theorem o32 : FO EN 32 f32 := fe 2 tnil [none, some [], some [5], none, none, none] (by kernel_rfl) fun p s k => by kernel_rfl
def f33 : FT := fun p s k => hd s fun a0 s0 =>
 hd s0 fun a1 s1 =>
 nl s1 <|
 kbx p 5 a0 fun v2 p3 =>
 kbx p3 10 a1 fun v4 p5 =>
 kla p5 5 v2 fun v6 =>
 kla p5 10 v4 fun v7 =>
 cn f64 p5 [v6, v7] fun v8 p9 =>
 kex v8 0 fun v10 =>
 kex v8 1 fun v11 =>
 kal p9 q86 fun v12 p13 =>
 kst p13 2 v12 v10 fun p14 =>
 keq false .i v11 q0 fun v15 =>
 jn 6 (fun j16 => gdK v15 true (kfa 6 v4 fun v17 =>
 kld p14 v17 fun v18 =>
 kfa 0 v12 fun v19 =>
 kld p14 v19 fun v20 =>
 kln v20 fun v21 =>
 keq false .i v18 v21 fun v22 =>
 j16 v17 v18 v19 v20 v21 v22 p14) (j16 .undef .undef .undef .undef .undef .undef p14)) fun v23 v24 v25 v26 v27 v28 p29 =>
 kpk v15 v28 q11 fun v30 =>
 k [v30] p29
theorem o33 : FO EN 33 f33 := fe 2 (tc (cn_ok o64) tnil) [] (by kernel_rfl) fun p s k => by kernel_rfl
def f12 : FT := fun p s k => nl s <|
 cn f23 p [] fun v0 p1 =>
 kex v0 0 fun v2 =>
 kex v0 1 fun v3 =>
 cn f5 p1 [v2, v3] fun v4 p5 =>
 kex v4 0 fun v6 =>
 kex v4 1 fun v7 =>
 kex v4 2 fun v8 =>
 kal p5 q93 fun v9 p10 =>
 kal p10 q92 fun v11 p12 =>
 kst p12 5 v9 v6 fun p13 =>
 kst p13 5 v11 v7 fun p14 =>
 kbd q30 [(0, 1, q128), (1, 1, q130)] fun v15 =>
 kbd q29 [(0, 2, v15), (2, 1, q119)] fun v16 =>
 kal p14 q29 fun v17 p18 =>
 kst p18 3 v17 v16 fun p19 =>
 kla p19 5 v9 fun v20 =>
 kla p19 3 v17 fun v21 =>
 cn f6 p19 [v20, v21] fun v22 p23 =>
 kex v22 0 fun v24 =>
 kex v22 1 fun v25 =>
 ci f7 p23 [v24] fun v26 p27 =>
 kex v26 0 fun v28 =>
 kex v26 1 fun v29 =>
 kal p27 q35 fun v30 p31 =>
 kst p31 4 v30 v28 fun p32 =>
 kla p32 5 v11 fun v33 =>
 kla p32 4 v30 fun v34 =>
 cn f30 p32 [v33, v34] fun v35 p36 =>
 kex v35 0 fun v37 =>
 kex v35 1 fun v38 =>
 knt v8 fun v39 =>
 jn 2 (fun j40 => gdK v39 false (keq true .i v29 q0 fun v41 =>
 j40 v29 v41 p36) (j40 .undef .undef p36)) fun v42 v43 p44 =>
 kpk v39 q21 v43 fun v45 =>
 jn 2 (fun j46 => gdK v45 false (keq true .i v38 q0 fun v47 =>
 j46 v38 v47 p44) (j46 .undef .undef p44)) fun v48 v49 p50 =>
 kpk v45 q21 v49 fun v51 =>
 jn 6 (fun j52 => gdK v51 false (kbs p50 4 q146 [(0, 1, q12), (1, 1, q16), (2, 1, q17), (3, 1, q15)] fun v53 p54 =>
 kbs p54 1 q14 [(0, 1, q0)] fun v55 p56 =>
 kbs p56 2 q86 [(0, 1, v53), (1, 1, v55)] fun v57 p58 =>
 cn f31 p58 [v37, v57] fun v59 p60 =>
 keq false .i v59 q0 fun v61 =>
 j52 v37 v53 v55 v57 v59 v61 p60) (j52 .undef .undef .undef .undef .undef .undef p50)) fun v62 v63 v64 v65 v66 v67 p68 =>
 kpk v51 q21 v67 fun v69 =>
 kif v69
 (k [q11] p68)
 (jn 0 (fun j70 =>
 lp 1 fuel (fun r71 v72 p73 =>
 klt v72 q17 fun v74 =>
 kif v74
 (kla (prt [] p73) 5 v11 fun v75 =>
 kla (prt [] p73) 4 v30 fun v76 =>
 kbs p73 3 q29 [(0, 1, q132), (1, 1, q134), (2, 1, q147)] fun v77 p78 =>
 kia 1 v77 v72 fun v79 =>
 kld (prt [] p78) v79 fun v80 =>
 kbd q30 [(0, 1, q116), (1, 1, v80)] fun v81 =>
 cn f11 p78 [v75, v76, v81] fun v82 p83 =>
 kex v82 0 fun v84 =>
 kex v82 1 fun v85 =>
 kex v82 2 fun v86 =>
 keq true .i v86 q0 fun v87 =>
 jn 6 (fun j88 => gdK v87 false (kbs p83 3 q77 [(0, 1, q60), (1, 1, q24), (2, 1, q20)] fun v89 p90 =>
 kia 1 v89 v72 fun v91 =>
 kld p90 v91 fun v92 =>
 keq true .i v85 v92 fun v93 =>
 j88 v85 v89 v72 v91 v92 v93 p90) (j88 .undef .undef .undef .undef .undef .undef p83)) fun v94 v95 v96 v97 v98 v99 p100 =>
 kpk v87 q21 v99 fun v101 =>
 jn 10 (fun j102 => gdK v101 false (kbs p100 5 q137 [(0, 1, q21), (1, 1, q11), (2, 1, q21), (3, 1, q11), (4, 1, q11)] fun v103 p104 =>
 kbs p104 5 q137 [(0, 1, q21), (1, 1, q11), (2, 1, q11), (3, 1, q11), (4, 1, q11)] fun v105 p106 =>
 kms p106 1 1 q75 q20 q20 fun v107 p108 =>
 kbs p108 3 q148 [(0, 1, v103), (1, 1, v105), (2, 1, v107)] fun v109 p110 =>
 kia 1 v109 v72 fun v111 =>
 kld p110 v111 fun v112 =>
 cn f32 p110 [v84, v112] fun v113 p114 =>
 keq false .i v113 q0 fun v115 =>
 j102 v84 v103 v105 v107 v109 v72 v111 v112 v113 v115 p114) (j102 .undef .undef .undef .undef .undef .undef .undef .undef .undef .undef p100)) fun v116 v117 v118 v119 v120 v121 v122 v123 v124 v125 p126 =>
 kpk v101 q21 v125 fun v127 =>
 kif v127
 (k [q11] p126)
 (kad v72 q12 fun v128 =>
 r71 v128 p126))
 (j70 p73)) q0 p68) fun p129 =>
 kbd q30 [(0, 1, q116), (1, 1, q132)] fun v130 =>
 kbd q30 [(0, 2, v130)] fun v131 =>
 kmi 118 v131 fun v132 =>
 kla p129 5 v11 fun v133 =>
 kla p129 4 v30 fun v134 =>
 cn f28 p129 [v133, v134] fun v135 p136 =>
 kex v135 0 fun v137 =>
 kex v135 1 fun v138 =>
 kal p136 q103 fun v139 p140 =>
 kst p140 10 v139 v137 fun p141 =>
 kla p141 5 v11 fun v142 =>
 kla p141 10 v139 fun v143 =>
 cn f29 p141 [v132, v142, v143, q15] fun v144 p145 =>
 kex v144 0 fun v146 =>
 kex v144 1 fun v147 =>
 kex v144 2 fun v148 =>
 kal p145 q103 fun v149 p150 =>
 kst p150 10 v149 v146 fun p151 =>
 kla p151 5 v11 fun v152 =>
 kla p151 10 v149 fun v153 =>
 cn f29 p151 [v132, v152, v153, q136] fun v154 p155 =>
 kex v154 0 fun v156 =>
 kex v154 1 fun v157 =>
 kex v154 2 fun v158 =>
 kal p155 q103 fun v159 p160 =>
 kst p160 10 v159 v156 fun p161 =>
 keq true .i v138 q0 fun v162 =>
 jn 2 (fun j163 => gdK v162 false (keq true .i v148 q0 fun v164 =>
 j163 v148 v164 p161) (j163 .undef .undef p161)) fun v165 v166 p167 =>
 kpk v162 q21 v166 fun v168 =>
 jn 2 (fun j169 => gdK v168 false (keq true .i v158 q0 fun v170 =>
 j169 v158 v170 p167) (j169 .undef .undef p167)) fun v171 v172 p173 =>
 kpk v168 q21 v172 fun v174 =>
 jn 2 (fun j175 => gdK v174 false (keq true .i v147 q15 fun v176 =>
 j175 v147 v176 p173) (j175 .undef .undef p173)) fun v177 v178 p179 =>
 kpk v174 q21 v178 fun v180 =>
 jn 2 (fun j181 => gdK v180 false (keq true .i v157 q24 fun v182 =>
 j181 v157 v182 p179) (j181 .undef .undef p179)) fun v183 v184 p185 =>
 kpk v180 q21 v184 fun v186 =>
 jn 3 (fun j187 => gdK v186 false (kfa 7 v149 fun v188 =>
 kld p185 v188 fun v189 =>
 keq true .i v189 q0 fun v190 =>
 j187 v188 v189 v190 p185) (j187 .undef .undef .undef p185)) fun v191 v192 v193 p194 =>
 kpk v186 q21 v193 fun v195 =>
 jn 3 (fun j196 => gdK v195 false (kfa 6 v149 fun v197 =>
 kld p194 v197 fun v198 =>
 keq true .i v198 q0 fun v199 =>
 j196 v197 v198 v199 p194) (j196 .undef .undef .undef p194)) fun v200 v201 v202 p203 =>
 kpk v195 q21 v202 fun v204 =>
 jn 2 (fun j205 => gdK v204 false (kfa 8 v149 fun v206 =>
 kld p203 v206 fun v207 =>
 j205 v206 v207 p203) (j205 .undef .undef p203)) fun v208 v209 p210 =>
 kpk v204 q21 v209 fun v211 =>
 jn 4 (fun j212 => gdK v211 false (kla p210 5 v11 fun v213 =>
 kla p210 10 v159 fun v214 =>
 cn f33 p210 [v213, v214] fun v215 p216 =>
 knt v215 fun v217 =>
 j212 v213 v214 v215 v217 p216) (j212 .undef .undef .undef .undef p210)) fun v218 v219 v220 v221 p222 =>
 kpk v211 q21 v221 fun v223 =>
 jn 4 (fun j224 => gdK v223 false (kfa 5 v159 fun v225 =>
 kld p222 v225 fun v226 =>
 kln v226 fun v227 =>
 keq true .i v227 q20 fun v228 =>
 j224 v225 v226 v227 v228 p222) (j224 .undef .undef .undef .undef p222)) fun v229 v230 v231 v232 p233 =>
 kpk v223 q21 v232 fun v234 =>
 kif v234
 (k [q11] p233)
 (kfa 5 v159 fun v235 =>
 kld p233 v235 fun v236 =>
 kia 1 v236 q0 fun v237 =>
 kld p233 v237 fun v238 =>
 keq false .i v238 q102 fun v239 =>
 jn 5 (fun j240 => gdK v239 true (kfa 5 v159 fun v241 =>
 kld p233 v241 fun v242 =>
 kia 1 v242 q12 fun v243 =>
 kld p233 v243 fun v244 =>
 keq false .i v244 q0 fun v245 =>
 j240 v241 v242 v243 v244 v245 p233) (j240 .undef .undef .undef .undef .undef p233)) fun v246 v247 v248 v249 v250 p251 =>
 kpk v239 v250 q11 fun v252 =>
 jn 5 (fun j253 => gdK v252 true (kfa 5 v159 fun v254 =>
 kld p251 v254 fun v255 =>
 kia 1 v255 q16 fun v256 =>
 kld p251 v256 fun v257 =>
 keq false .i v257 q16 fun v258 =>
 j253 v254 v255 v256 v257 v258 p251) (j253 .undef .undef .undef .undef .undef p251)) fun v259 v260 v261 v262 v263 p264 =>
 kpk v252 v263 q11 fun v265 =>
 jn 5 (fun j266 => gdK v265 true (kfa 5 v159 fun v267 =>
 kld p264 v267 fun v268 =>
 kia 1 v268 q17 fun v269 =>
 kld p264 v269 fun v270 =>
 keq false .i v270 q0 fun v271 =>
 j266 v267 v268 v269 v270 v271 p264) (j266 .undef .undef .undef .undef .undef p264)) fun v272 v273 v274 v275 v276 p277 =>
 kpk v265 v276 q11 fun v278 =>
 jn 5 (fun j279 => gdK v278 true (kfa 5 v159 fun v280 =>
 kld p277 v280 fun v281 =>
 kia 1 v281 q15 fun v282 =>
 kld p277 v282 fun v283 =>
 keq false .i v283 q0 fun v284 =>
 j279 v280 v281 v282 v283 v284 p277) (j279 .undef .undef .undef .undef .undef p277)) fun v285 v286 v287 v288 v289 p290 =>
 kpk v278 v289 q11 fun v291 =>
 k [v291] p290))
theorem o12 : FO EN 12 f12 := fe 0 (tc (cn_ok o23) (tc (cn_ok o5) (tc (cn_ok o6) (tc (ci_ok o7) (tc (cn_ok o30) (tc (cn_ok o31) (tc (cn_ok o11) (tc (cn_ok o32) (tc (cn_ok o28) (tc (cn_ok o29) (tc (cn_ok o33) tnil))))))))))) [none, some [], some [11], none, none, none, none] (by kernel_rfl) fun p s k => by kernel_rfl
def f4 : FT := fun p s k => nl s <|
 kbd q30 [(0, 1, q116)] fun v0 =>
 kbd q30 [(0, 1, q124), (1, 1, q125)] fun v1 =>
 kbs p 2 q126 [(0, 2, v0), (2, 2, v1)] fun v2 p3 =>
 kbd q88 [(0, 1, q44)] fun v4 =>
 kbd q69 [(0, 1, q125), (1, 1, v2), (2, 4, v4)] fun v5 =>
 kbs p3 1 q69 [(0, 6, v5)] fun v6 p7 =>
 kbd q68 [(0, 1, q124), (1, 1, v6)] fun v8 =>
 kbd q68 [(0, 1, q116)] fun v9 =>
 kbs p7 2 q138 [(0, 2, v8), (2, 2, v9)] fun v10 p11 =>
 kbd q66 [(0, 1, v10)] fun v12 =>
 kal p11 q66 fun v13 p14 =>
 kst p14 1 v13 v12 fun p15 =>
 kbd q30 [(0, 1, q116), (1, 1, q150)] fun v16 =>
 kal p15 q30 fun v17 p18 =>
 kst p18 2 v17 v16 fun p19 =>
 jn 1 (fun j20 =>
 lp 2 fuel (fun r21 v22 v23 p24 =>
 klt v23 q151 fun v25 =>
 kif v25
 (kar .quo v23 q60 fun v26 =>
 kar .quo v23 q60 fun v27 =>
 kad v27 q12 fun v28 =>
 kss q149 (some v26) (some v28) fun v29 =>
 kar .rem v23 q60 fun v30 =>
 kar .rem v23 q60 fun v31 =>
 kad v31 q12 fun v32 =>
 kss q149 (some v30) (some v32) fun v33 =>
 kad v29 v33 fun v34 =>
 kbd q30 [(0, 1, q124), (1, 1, v34)] fun v35 =>
 kbd q29 [(0, 2, v35), (2, 1, q125)] fun v36 =>
 kal p24 q29 fun v37 p38 =>
 kst p38 3 v37 v36 fun p39 =>
 klt v23 q152 fun v40 =>
 jn 1 (fun j41 => kif v40
 (kla p39 3 v37 fun v42 =>
 kad v23 q12 fun v43 =>
 kar .quo v43 q60 fun v44 =>
 kad v23 q12 fun v45 =>
 kar .quo v45 q60 fun v46 =>
 kad v46 q12 fun v47 =>
 kss q149 (some v44) (some v47) fun v48 =>
 kad v23 q12 fun v49 =>
 kar .rem v49 q60 fun v50 =>
 kad v23 q12 fun v51 =>
 kar .rem v51 q60 fun v52 =>
 kad v52 q12 fun v53 =>
 kss q149 (some v50) (some v53) fun v54 =>
 kad v48 v54 fun v55 =>
 kbd q30 [(0, 1, q124), (1, 1, v55)] fun v56 =>
 kbd q29 [(0, 2, v56), (2, 1, q125)] fun v57 =>
 kbd q22 [(0, 3, v42), (3, 3, v57)] fun v58 =>
 kbs p39 1 q22 [(0, 6, v58)] fun v59 p60 =>
 kap p60 6 96 v22 v59 fun v61 p62 =>
 j41 v61 p62)
 (kla p39 3 v37 fun v63 =>
 kla p39 2 v17 fun v64 =>
 kbd q29 [(0, 2, v64)] fun v65 =>
 kbd q22 [(0, 3, v63), (3, 3, v65)] fun v66 =>
 kbs p39 1 q22 [(0, 6, v66)] fun v67 p68 =>
 kap p68 6 96 v22 v67 fun v69 p70 =>
 j41 v69 p70)) fun v71 p72 =>
 kad v23 q12 fun v73 =>
 r21 v71 v73 p72)
 (j20 v22 p24)) .nils q0 p19) fun v74 p75 =>
 resK p75 false [v74] fun q76_ u77 =>
 drpK u77 p75 fun p78 =>
 hd q76_ fun w79 s80 =>
 nl s80 <|
 kla p78 1 v13 fun v81 =>
 cn f5 p78 [v81, w79] fun v82 p83 =>
 kex v82 0 fun v84 =>
 kex v82 1 fun v85 =>
 kex v82 2 fun v86 =>
 kal p83 q93 fun v87 p88 =>
 kal p88 q92 fun v89 p90 =>
 kst p90 5 v87 v84 fun p91 =>
 kst p91 5 v89 v85 fun p92 =>
 kla (prt [] p92) 5 v87 fun v93 =>
 kia 6 w79 q0 fun v94 =>
 kfa 0 v94 fun v95 =>
 kla (prt [] p92) 3 v95 fun v96 =>
 cn f6 p92 [v93, v96] fun v97 p98 =>
 kex v97 0 fun v99 =>
 kex v97 1 fun v100 =>
 ci f7 p98 [v99] fun v101 p102 =>
 kex v101 0 fun v103 =>
 kex v101 1 fun v104 =>
 kal p102 q35 fun v105 p106 =>
 kst p106 4 v105 v103 fun p107 =>
 kla p107 5 v89 fun v108 =>
 kla p107 4 v105 fun v109 =>
 kla p107 2 v17 fun v110 =>
 cn f11 p107 [v108, v109, v110] fun v111 p112 =>
 kex v111 0 fun v113 =>
 kex v111 1 fun v114 =>
 kex v111 2 fun v115 =>
 knt v86 fun v116 =>
 jn 2 (fun j117 => gdK v116 false (keq true .i v104 q0 fun v118 =>
 j117 v104 v118 p112) (j117 .undef .undef p112)) fun v119 v120 p121 =>
 kpk v116 q21 v120 fun v122 =>
 jn 2 (fun j123 => gdK v122 false (keq true .i v115 q0 fun v124 =>
 j123 v115 v124 p121) (j123 .undef .undef p121)) fun v125 v126 p127 =>
 kpk v122 q21 v126 fun v128 =>
 jn 3 (fun j129 => gdK v128 false (kln v113 fun v130 =>
 keq true .i v130 q151 fun v131 =>
 j129 v113 v130 v131 p127) (j129 .undef .undef .undef p127)) fun v132 v133 v134 p135 =>
 kpk v128 q21 v134 fun v136 =>
 jn 4 (fun j137 => gdK v136 false (kia 1 v113 q0 fun v138 =>
 kld p135 v138 fun v139 =>
 knt v139 fun v140 =>
 j137 v113 v138 v139 v140 p135) (j137 .undef .undef .undef .undef p135)) fun v141 v142 v143 v144 p145 =>
 kpk v136 q21 v144 fun v146 =>
 jn 2 (fun j147 => gdK v146 false (keq true .i v114 q153 fun v148 =>
 j147 v114 v148 p145) (j147 .undef .undef p145)) fun v149 v150 p151 =>
 kpk v146 q21 v150 fun v152 =>
 kif v152
 (k [q11] p151)
 (jn 1 (fun j153 =>
 lp 2 fuel (fun r154 v155 v156 p157 =>
 kge v156 q0 fun v158 =>
 kif v158
 (kia 3 v99 v156 fun v159 =>
 kla p157 3 v159 fun v160 =>
 kbs p157 1 q29 [(0, 3, v160)] fun v161 p162 =>
 kap p162 3 48 v155 v161 fun v163 p164 =>
 ksb v156 q12 fun v165 =>
 r154 v163 v165 p164)
 (j153 v155 p157)) .nils q152 p151) fun v166 p167 =>
 ci f7 p167 [v166] fun v168 p169 =>
 kex v168 0 fun v170 =>
 kex v168 1 fun v171 =>
 kal p169 q35 fun v172 p173 =>
 kst p173 4 v172 v170 fun p174 =>
 kla p174 5 v89 fun v175 =>
 kla p174 4 v172 fun v176 =>
 kla p174 2 v17 fun v177 =>
 cn f11 p174 [v175, v176, v177] fun v178 p179 =>
 kex v178 0 fun v180 =>
 kex v178 1 fun v181 =>
 kex v178 2 fun v182 =>
 kla p179 5 v89 fun v183 =>
 kla p179 4 v172 fun v184 =>
 kbd q30 [] fun v185 =>
 cn f11 p179 [v183, v184, v185] fun v186 p187 =>
 kex v186 0 fun v188 =>
 kex v186 1 fun v189 =>
 kex v186 2 fun v190 =>
 keq false .i v171 q0 fun v191 =>
 jn 2 (fun j192 => gdK v191 true (keq false .i v182 q0 fun v193 =>
 j192 v182 v193 p187) (j192 .undef .undef p187)) fun v194 v195 p196 =>
 kpk v191 v195 q11 fun v197 =>
 jn 2 (fun j198 => gdK v197 true (keq false .i v190 q0 fun v199 =>
 j198 v190 v199 p196) (j198 .undef .undef p196)) fun v200 v201 p202 =>
 kpk v197 v201 q11 fun v203 =>
 jn 3 (fun j204 => gdK v203 true (kln v180 fun v205 =>
 keq false .i v205 q151 fun v206 =>
 j204 v180 v205 v206 p202) (j204 .undef .undef .undef p202)) fun v207 v208 v209 p210 =>
 kpk v203 v209 q11 fun v211 =>
 jn 3 (fun j212 => gdK v211 true (kia 1 v180 q152 fun v213 =>
 kld p210 v213 fun v214 =>
 j212 v180 v213 v214 p210) (j212 .undef .undef .undef p210)) fun v215 v216 v217 p218 =>
 kpk v211 v217 q11 fun v219 =>
 jn 2 (fun j220 => gdK v219 true (keq false .i v181 q154 fun v221 =>
 j220 v181 v221 p218) (j220 .undef .undef p218)) fun v222 v223 p224 =>
 kpk v219 v223 q11 fun v225 =>
 jn 1 (fun j226 => gdK v225 true (cn f12 p224 [] fun v227 p228 =>
 j226 v227 p228) (j226 .undef p224)) fun v229 p230 =>
 kpk v225 v229 q11 fun v231 =>
 k [v231] p230)
theorem o4 : FO EN 4 f4 := ff 0 [(12, [2])] (tc (cn_ok o5) (tc (cn_ok o6) (tc (ci_ok o7) (tc (cn_ok o11) (tc (cn_ok o12) tnil))))) [some [2], some [2, 5], none, none, some [2], none, some [17], some [17, 18], none, none] (by kernel_rfl) fun p s k => by kernel_rfl
end
end Go.V
end
