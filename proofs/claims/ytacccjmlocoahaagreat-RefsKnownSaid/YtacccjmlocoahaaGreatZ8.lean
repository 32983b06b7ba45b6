/-
  Parts of the proof, from: YtacccjmlocoahaaGreatZm0
-/
import Derived.KernelRfl
import Derived.Test.YtacccjmlocoahaaGreatZ7

set_option linter.unusedVariables false
set_option linter.unusedSimpArgs false
set_option linter.unusedSectionVars false
section
set_option maxRecDepth 100000
namespace Go.V
noncomputable section
def f4:FT:=fun p s k=>nl s<|
 kal p q0 fun v0 p1=>
 kbd q1 [(0,1,q2)] fun v2=>
 kal p1 q1 fun v3 p4=>
 kst p4 2 v3 v2 fun p5=>
 kbd q3 [(0,1,q4)] fun v6=>
 kal p5 q3 fun v7 p8=>
 kst p8 4 v7 v6 fun p9=>
 kla p9 4 v7 fun v10=>
 kbd q3 [(0,1,q5),(1,1,q6)] fun v11=>
 kbd q3 [(0,1,q7),(1,1,q8),(2,1,q9)] fun v12=>
 kbs p9 3 q10 [(0,4,v10),(4,4,v11),(8,4,v12)] fun v13 p14=>
 kbd q3 [(0,1,q11),(3,1,v13)] fun v15=>
 kbd q3 [(0,1,q5),(1,1,q12)] fun v16=>
 kbs p14 2 q13 [(0,4,v15),(4,4,v16)] fun v17 p18=>
 kbd q3 [(0,1,q14),(3,1,v17)] fun v19=>
 kal p18 q3 fun v20 p21=>
 kst p21 4 v20 v19 fun p22=>
 kbd q1 [(0,1,q15)] fun v23=>
 kbs p22 1 q1 [(0,2,v23)] fun v24 p25=>
 kla p25 4 v7 fun v26=>
 kbd q16 [(0,1,q8),(1,1,v24),(2,4,v26)] fun v27=>
 kla p25 2 v3 fun v28=>
 kbs p25 1 q1 [(0,2,v28)] fun v29 p30=>
 kla p30 4 v7 fun v31=>
 kbd q16 [(0,1,q6),(1,1,v29),(2,4,v31)] fun v32=>
 kla p30 2 v3 fun v33=>
 kbd q1 [(0,1,q17),(1,1,q18)] fun v34=>
 kbs p30 2 q19 [(0,2,v33),(2,2,v34)] fun v35 p36=>
 kla p36 4 v20 fun v37=>
 kbd q16 [(0,1,q9),(1,1,v35),(2,4,v37)] fun v38=>
 kla p36 2 v3 fun v39=>
 kbs p36 1 q1 [(0,2,v39)] fun v40 p41=>
 kla p41 4 v7 fun v42=>
 kbd q16 [(0,1,q12),(1,1,v40),(2,4,v42)] fun v43=>
 kbs p41 4 q20 [(0,6,v27),(6,6,v32),(12,6,v38),(18,6,v43)] fun v44 p45=>
 kbd q21 [(0,1,q22),(1,1,v44)] fun v46=>
 kla p45 2 v3 fun v47=>
 kbs p45 1 q1 [(0,2,v47)] fun v48 p49=>
 kla p49 4 v7 fun v50=>
 kbd q16 [(0,1,q9),(1,1,v48),(2,4,v50)] fun v51=>
 kbs p49 1 q16 [(0,6,v51)] fun v52 p53=>
 kbd q21 [(0,1,q15),(1,1,v52)] fun v54=>
 kla p53 2 v3 fun v55=>
 kbs p53 1 q1 [(0,2,v55)] fun v56 p57=>
 kla p57 4 v7 fun v58=>
 kbd q16 [(0,1,q18),(1,1,v56),(2,4,v58)] fun v59=>
 kbs p57 1 q16 [(0,6,v59)] fun v60 p61=>
 kbd q21 [(0,1,q17),(1,1,v60)] fun v62=>
 kbd q21 [(0,1,q2)] fun v63=>
 kbs p61 4 q23 [(0,2,v46),(2,2,v54),(4,2,v62),(6,2,v63)] fun v64 p65=>
 kbd q0 [(0,1,v64)] fun v66=>
 kal p65 q0 fun v67 p68=>
 kst p68 1 v67 v66 fun p69=>
 kbd q1 [(0,1,q22),(1,1,q24)] fun v70=>
 kal p69 q1 fun v71 p72=>
 kst p72 2 v71 v70 fun p73=>
 kla (prt [] p73) 1 v67 fun v74=>
 kla (prt [] p73) 2 v71 fun v75=>
 kbd q25 [(0,2,v75),(2,1,q8)] fun v76=>
 kbd q1 [(0,1,q15),(1,1,q26)] fun v77=>
 kbd q25 [(0,2,v77)] fun v78=>
 kbd q27 [(0,3,v76),(3,3,v78)] fun v79=>
 kla (prt [] p73) 2 v71 fun v80=>
 kbd q25 [(0,2,v80),(2,1,q6)] fun v81=>
 kbd q1 [(0,1,q2),(1,1,q28)] fun v82=>
 kbd q25 [(0,2,v82)] fun v83=>
 kbd q27 [(0,3,v81),(3,3,v83)] fun v84=>
 kla (prt [] p73) 2 v71 fun v85=>
 kbd q25 [(0,2,v85),(2,1,q9)] fun v86=>
 kbd q1 [(0,1,q17),(1,1,q29)] fun v87=>
 kbd q25 [(0,2,v87),(2,1,q18)] fun v88=>
 kbd q27 [(0,3,v86),(3,3,v88)] fun v89=>
 kla (prt [] p73) 2 v71 fun v90=>
 kbd q25 [(0,2,v90),(2,1,q9)] fun v91=>
 kbd q1 [(0,1,q2),(1,1,q30)] fun v92=>
 kbd q25 [(0,2,v92)] fun v93=>
 kbd q27 [(0,3,v91),(3,3,v93)] fun v94=>
 kbs p73 4 q31 [(0,6,v79),(6,6,v84),(12,6,v89),(18,6,v94)] fun v95 p96=>
 kps p96 [(p73.next,p96.next)] [v71,v71,v71,v71] 1 v0 v74 fun b97 p98=>
 kra p98 1 v0 fun v99=>
 k [v99,v95] p98
theorem o4:FO EN 4 f4:=fe 0 tnil [] (by kernel_rfl) fun p s k=>by kernel_rfl
def f32:FT:=fun p s k=>hd s fun a0 s0=>
 nl s0<|
 ken false .s a0 .nils fun v1=>
 kif v1
 (k [.nils] p)
 (kbs p 0 [] [] fun v2 p3=>
 kap p3 6 96 v2 a0 fun v4 p5=>
 k [v4] p5)
theorem o32:FO EN 32 f32:=fe 1 tnil [none] (by kernel_rfl) fun p s k=>by kernel_rfl
def f119:FT:=fun p s k=>hd s fun a0 s0=>
 nl s0<|
 kge a0 q33 fun v1=>
 jn 2 (fun j2 => kif v1
 (kar .shr a0 q34 fun v3=>
 j2 v3 q35 p)
 (j2 a0 q32 p)) fun v4 v5 p6=>
 kge v4 q36 fun v7=>
 jn 2 (fun j8 => kif v7
 (kar .shr v4 q37 fun v9=>
 kad v5 q38 fun v10=>
 j8 v9 v10 p6)
 (j8 v4 v5 p6)) fun v11 v12 p13=>
 kge v11 q39 fun v14=>
 jn 2 (fun j15 => kif v14
 (kar .shr v11 q40 fun v16=>
 kad v12 q41 fun v17=>
 j15 v16 v17 p13)
 (j15 v11 v12 p13)) fun v18 v19 p20=>
 kci .u8 v18 fun v21=>
 kix q42 v21 fun v22=>
 kci .i64 v22 fun v23=>
 kad v19 v23 fun v24=>
 k [v24] p20
theorem o119:FO EN 119 f119:=fe 1 tnil [some [0,2],some [0,2],some [0,2]] (by kernel_rfl) fun p s k=>by kernel_rfl
def f64:FT:=fun p s k=>hd s fun a0 s0=>
 nl s0<|
 kif q43
 (kci .u32 a0 fun v1=>
 .no)
 (cn f119 p [a0] fun v2 p3=>
 k [v2] p3)
theorem o64:FO EN 64 f64:=fe 1 (tc (cn_ok o119) tnil) [none] (by kernel_rfl) fun p s k=>by kernel_rfl
def f165:FT:=fun p s k=>hd s fun a0 s0=>
 hd s0 fun a1 s1=>
 nl s1<|
 kcm a0 a1 fun v2=>
 k [v2] p
theorem o165:FO EN 165 f165:=fe 2 tnil [] (by kernel_rfl) fun p s k=>by kernel_rfl
def f120:FT:=fun p s k=>hd s fun a0 s0=>
 hd s0 fun a1 s1=>
 nl s1<|
 cn f165 p [a0,a1] fun v2 p3=>
 k [v2] p3
theorem o120:FO EN 120 f120:=fe 2 (tc (cn_ok o165) tnil) [] (by kernel_rfl) fun p s k=>by kernel_rfl
def f65:FT:=fun p s k=>hd s fun a0 s0=>
 nl s0<|
 kln a0 fun v1=>
 jn 0 (fun j2=>
 lp 1 fuel (fun r3 v4 p5=>
 klt v4 v1 fun v6=>
 kif v6
 (kia 1 a0 v4 fun v7=>
 kld p5 v7 fun v8=>
 keq true .i v8 q32 fun v9=>
 kif v9
 (k [v8] p5)
 (kad v4 q44 fun v10=>
 r3 v10 p5))
 (j2 p5)) q32 p) fun p11=>
 k [q32] p11
theorem o65:FO EN 65 f65:=fe 1 tnil [some [],some [8],none,none,none] (by kernel_rfl) fun p s k=>by kernel_rfl
def f99:FT:=fun p s k=>hd s fun a0 s0=>
 hd s0 fun a1 s1=>
 nl s1<|
 kbx p 2 a0 fun v2 p3=>
 kbx p3 2 a1 fun v4 p5=>
 kfa 0 v2 fun v6=>
 kld (prt [] p5) v6 fun v7=>
 kfa 0 v4 fun v8=>
 kld (prt [] p5) v8 fun v9=>
 cn f120 (prt [] p5) [v7,v9] fun v10 p11=>
 unpK p5 p11 fun p12=>
 kfa 1 v2 fun v13=>
 kld (prt [(p5.next,p11.next)] p12) v13 fun v14=>
 kfa 1 v4 fun v15=>
 kld (prt [(p5.next,p11.next)] p12) v15 fun v16=>
 cn f120 p12 [v14,v16] fun v17 p18=>
 kbs p18 2 q45 [(0,1,v10),(1,1,v17)] fun v19 p20=>
 cc f65 p20 [v19] fun v21 p22=>
 k [v21] p22
theorem o99:FO EN 99 f99:=fe 2 (tc (cn_ok o120) (tc (cc_ok o65) tnil)) [] (by kernel_rfl) fun p s k=>by kernel_rfl
def t110:List Ce:=[⟨34,c34⟩]
def f110:FT:=fun p s k=>hd s fun a0 s0=>
 hd s0 fun a1 s1=>
 hd s1 fun a2 s2=>
 hd s2 fun a3 s3=>
 nl s3<|
 kad a1 q44 fun v4=>
 jn 0 (fun j5=>
 lp 1 fuel (fun r6 v7 p8=>
 klt v7 a2 fun v9=>
 kif v9
 (jn 0 (fun j10=>
 jn 0 (fun j11=>
 lp 1 fuel (fun r12 v13 p14=>
 kgt v13 a1 fun v15=>
 jn 12 (fun j16=>gdK v15 true (kia 6 a0 v13 fun v17=>
 kla (prt [] p14) 6 v17 fun v18=>
 ksb v13 q44 fun v19=>
 kia 6 a0 v19 fun v20=>
 kla (prt [] p14) 6 v20 fun v21=>
 kcv t110 p14 a3 [v18,v21] fun v22 p23=>
 klt v22 q32 fun v24=>
 j16 a3 a0 v13 v17 v18 a0 v13 v19 v20 v21 v22 v24 p23) (j16 .undef .undef .undef .undef .undef .undef .undef .undef .undef .undef .undef .undef p14)) fun v25 v26 v27 v28 v29 v30 v31 v32 v33 v34 v35 v36 p37=>
 kpk v15 v36 q43 fun v38=>
 kif v38
 (ksb v13 q44 fun v39=>
 ksb v13 q44 fun v40=>
 kia 6 a0 v40 fun v41=>
 kla (prt [] p37) 6 v41 fun v42=>
 kia 6 a0 v13 fun v43=>
 kla (prt [] p37) 6 v43 fun v44=>
 kia 6 a0 v13 fun v45=>
 kst p37 6 v45 v42 fun p46=>
 kia 6 a0 v39 fun v47=>
 kst p46 6 v47 v44 fun p48=>
 ksb v13 q44 fun v49=>
 r12 v49 p48)
 (j11 p37)) v7 p8) fun p50=>
 j10 p50) fun p51=>
 kad v7 q44 fun v52=>
 r6 v52 p51)
 (j5 p8)) v4 p) fun p53=>
 k [] p53
theorem o110:FO EN 110 f110:=fe 4 (T:=t110) (tc c34_ok tnil) [some [],some [8],none,some [],some [],some [9],none,none] (by kernel_rfl) fun p s k=>by kernel_rfl
def t197:List Ce:=[⟨34,c34⟩]
def f197:FT:=fun p s k=>hd s fun a0 s0=>
 hd s0 fun a1 s1=>
 hd s1 fun a2 s2=>
 hd s2 fun a3 s3=>
 hd s3 fun a4 s4=>
 nl s4<|
 kia 6 a0 a2 fun v5=>
 kla (prt [] p) 6 v5 fun v6=>
 kia 6 a0 a1 fun v7=>
 kla (prt [] p) 6 v7 fun v8=>
 kcv t197 p a4 [v6,v8] fun v9 p10=>
 klt v9 q32 fun v11=>
 kif v11
 (knc mth a3 fun v12=>
 kld p10 v12 fun v13=>
 kad v13 q44 fun v14=>
 knc mth a3 fun v15=>
 kst p10 1 v15 v14 fun p16=>
 k [a2,a1] p16)
 (k [a1,a2] p10)
theorem o197:FO EN 197 f197:=fe 5 (T:=t197) (tc c34_ok tnil) [none] (by kernel_rfl) fun p s k=>by kernel_rfl
def f164:FT:=fun p s k=>hd s fun a0 s0=>
 hd s0 fun a1 s1=>
 hd s1 fun a2 s2=>
 hd s2 fun a3 s3=>
 hd s3 fun a4 s4=>
 hd s4 fun a5 s5=>
 nl s5<|
 ci f197 p [a0,a1,a2,a4,a5] fun v6 p7=>
 kex v6 0 fun v8=>
 kex v6 1 fun v9=>
 ci f197 p7 [a0,v9,a3,a4,a5] fun v10 p11=>
 kex v10 0 fun v12=>
 kex v10 1 fun v13=>
 ci f197 p11 [a0,v8,v12,a4,a5] fun v14 p15=>
 kex v14 0 fun v16=>
 kex v14 1 fun v17=>
 k [v17] p15
theorem o164:FO EN 164 f164:=fe 6 (tc (ci_ok o197) tnil) [] (by kernel_rfl) fun p s k=>by kernel_rfl
def f163:FT:=fun p s k=>hd s fun a0 s0=>
 hd s0 fun a1 s1=>
 hd s1 fun a2 s2=>
 hd s2 fun a3 s3=>
 nl s3<|
 ksb a1 q44 fun v4=>
 kad a1 q44 fun v5=>
 ci f164 p [a0,v4,a1,v5,a2,a3] fun v6 p7=>
 k [v6] p7
theorem o163:FO EN 163 f163:=fe 4 (tc (ci_ok o164) tnil) [] (by kernel_rfl) fun p s k=>by kernel_rfl
def f113:FT:=fun p s k=>hd s fun a0 s0=>
 hd s0 fun a1 s1=>
 hd s1 fun a2 s2=>
 hd s2 fun a3 s3=>
 nl s3<|
 ksb a2 a1 fun v4=>
 kal p q46 fun v5 p6=>
 kar .quo v4 q47 fun v7=>
 kar .mul v7 q44 fun v8=>
 kad a1 v8 fun v9=>
 kar .quo v4 q47 fun v10=>
 kar .mul v10 q48 fun v11=>
 kad a1 v11 fun v12=>
 kar .quo v4 q47 fun v13=>
 kar .mul v13 q49 fun v14=>
 kad a1 v14 fun v15=>
 kge v4 q41 fun v16=>
 jn 1 (fun j17 => kif v16
 (kge v4 q50 fun v18=>
 jn 3 (fun j19 => kif v18
 (ci f163 p6 [a0,v9,v5,a3] fun v20 p21=>
 ci f163 p21 [a0,v12,v5,a3] fun v22 p23=>
 ci f163 p23 [a0,v15,v5,a3] fun v24 p25=>
 j19 v20 v22 v24 p25)
 (j19 v9 v12 v15 p6)) fun v26 v27 v28 p29=>
 ci f164 p29 [a0,v26,v27,v28,v5,a3] fun v30 p31=>
 j17 v30 p31)
 (j17 v12 p6)) fun v32 p33=>
 kld p33 v5 fun v34=>
 keq false .i v34 q32 fun v35=>
 kif v35
 (k [v32,q44] p33)
 (keq false .i v34 q51 fun v36=>
 kif v36
 (k [v32,q48] p33)
 (k [v32,q32] p33))
theorem o113:FO EN 113 f113:=fe 4 (tc (ci_ok o163) (tc (ci_ok o164) tnil)) [some [13],some [12,13,14],none,none,none] (by kernel_rfl) fun p s k=>by kernel_rfl
def t115:List Ce:=[⟨34,c34⟩]
def f115:FT:=fun p s k=>hd s fun a0 s0=>
 hd s0 fun a1 s1=>
 hd s1 fun a2 s2=>
 hd s2 fun a3 s3=>
 nl s3<|
 kad a1 q44 fun v4=>
 jn 0 (fun j5=>
 lp 2 fuel (fun r6 v7 v8 p9=>
 klt v8 q52 fun v10=>
 kif v10
 (jn 1 (fun j11=>
 jn 1 (fun j12=>
 lp 1 fuel (fun r13 v14 p15=>
 klt v14 a2 fun v16=>
 jn 13 (fun j17=>gdK v16 true (kia 6 a0 v14 fun v18=>
 kla (prt [] p15) 6 v18 fun v19=>
 ksb v14 q44 fun v20=>
 kia 6 a0 v20 fun v21=>
 kla (prt [] p15) 6 v21 fun v22=>
 kcv t115 p15 a3 [v19,v22] fun v23 p24=>
 klt v23 q32 fun v25=>
 knt v25 fun v26=>
 j17 a3 a0 v14 v18 v19 a0 v14 v20 v21 v22 v23 v25 v26 p24) (j17 .undef .undef .undef .undef .undef .undef .undef .undef .undef .undef .undef .undef .undef p15)) fun v27 v28 v29 v30 v31 v32 v33 v34 v35 v36 v37 v38 v39 p40=>
 kpk v16 v39 q43 fun v41=>
 kif v41
 (kad v14 q44 fun v42=>
 r13 v42 p40)
 (j12 v14 p40)) v7 p9) fun v43 p44=>
 keq false .i v43 a2 fun v45=>
 kif v45
 (k [q53] p44)
 (ksb a2 a1 fun v46=>
 klt v46 q50 fun v47=>
 kif v47
 (k [q43] p44)
 (ksb v43 q44 fun v48=>
 ksb v43 q44 fun v49=>
 kia 6 a0 v49 fun v50=>
 kla (prt [] p44) 6 v50 fun v51=>
 kia 6 a0 v43 fun v52=>
 kla (prt [] p44) 6 v52 fun v53=>
 kia 6 a0 v43 fun v54=>
 kst p44 6 v54 v51 fun p55=>
 kia 6 a0 v48 fun v56=>
 kst p55 6 v56 v53 fun p57=>
 ksb v43 a1 fun v58=>
 kge v58 q48 fun v59=>
 jn 0 (fun j60 => kif v59
 (ksb v43 q44 fun v61=>
 jn 0 (fun j62=>
 lp 1 fuel (fun r63 v64 p65=>
 kge v64 q44 fun v66=>
 kif v66
 (kia 6 a0 v64 fun v67=>
 kla (prt [] p65) 6 v67 fun v68=>
 ksb v64 q44 fun v69=>
 kia 6 a0 v69 fun v70=>
 kla (prt [] p65) 6 v70 fun v71=>
 kcv t115 p65 a3 [v68,v71] fun v72 p73=>
 klt v72 q32 fun v74=>
 knt v74 fun v75=>
 kif v75
 (j62 p73)
 (ksb v64 q44 fun v76=>
 ksb v64 q44 fun v77=>
 kia 6 a0 v77 fun v78=>
 kla (prt [] p73) 6 v78 fun v79=>
 kia 6 a0 v64 fun v80=>
 kla (prt [] p73) 6 v80 fun v81=>
 kia 6 a0 v64 fun v82=>
 kst p73 6 v82 v79 fun p83=>
 kia 6 a0 v76 fun v84=>
 kst p83 6 v84 v81 fun p85=>
 ksb v64 q44 fun v86=>
 r63 v86 p85))
 (j62 p65)) v61 p57) fun p87=>
 j60 p87)
 (j60 p57)) fun p88=>
 ksb a2 v43 fun v89=>
 kge v89 q48 fun v90=>
 jn 0 (fun j91 => kif v90
 (kad v43 q44 fun v92=>
 jn 0 (fun j93=>
 lp 1 fuel (fun r94 v95 p96=>
 klt v95 a2 fun v97=>
 kif v97
 (kia 6 a0 v95 fun v98=>
 kla (prt [] p96) 6 v98 fun v99=>
 ksb v95 q44 fun v100=>
 kia 6 a0 v100 fun v101=>
 kla (prt [] p96) 6 v101 fun v102=>
 kcv t115 p96 a3 [v99,v102] fun v103 p104=>
 klt v103 q32 fun v105=>
 knt v105 fun v106=>
 kif v106
 (j93 p104)
 (ksb v95 q44 fun v107=>
 ksb v95 q44 fun v108=>
 kia 6 a0 v108 fun v109=>
 kla (prt [] p104) 6 v109 fun v110=>
 kia 6 a0 v95 fun v111=>
 kla (prt [] p104) 6 v111 fun v112=>
 kia 6 a0 v95 fun v113=>
 kst p104 6 v113 v110 fun p114=>
 kia 6 a0 v107 fun v115=>
 kst p114 6 v115 v112 fun p116=>
 kad v95 q44 fun v117=>
 r94 v117 p116))
 (j93 p96)) v92 p88) fun p118=>
 j91 p118)
 (j91 p88)) fun p119=>
 j11 v43 p119))) fun v120 p121=>
 kad v8 q44 fun v122=>
 r6 v120 v122 p121)
 (j5 p9)) v4 q32 p) fun p123=>
 k [q43] p123
theorem o115:FO EN 115 f115:=fe 4 (T:=t115) (tc c34_ok tnil) [some [],some [9,10],none,some [9],some [9],some [9],none,none,none,none,some [],some [],some [11],none,none,none,some [],some [],some [12],none,none,none] (by kernel_rfl) fun p s k=>by kernel_rfl
def t117:List Ce:=[⟨34,c34⟩]
def f117:FT:=fun p s k=>hd s fun a0 s0=>
 hd s0 fun a1 s1=>
 hd s1 fun a2 s2=>
 hd s2 fun a3 s3=>
 hd s3 fun a4 s4=>
 nl s4<|
 kia 6 a0 a3 fun v5=>
 kla (prt [] p) 6 v5 fun v6=>
 kia 6 a0 a1 fun v7=>
 kla (prt [] p) 6 v7 fun v8=>
 kia 6 a0 a1 fun v9=>
 kst p 6 v9 v6 fun p10=>
 kia 6 a0 a3 fun v11=>
 kst p10 6 v11 v8 fun p12=>
 kad a1 q44 fun v13=>
 ksb a2 q44 fun v14=>
 jn 1 (fun j15=>
 lp 1 fuel (fun r16 v17 p18=>
 kle v17 v14 fun v19=>
 jn 11 (fun j20=>gdK v19 true (kia 6 a0 v17 fun v21=>
 kla (prt [] p18) 6 v21 fun v22=>
 kia 6 a0 a1 fun v23=>
 kla (prt [] p18) 6 v23 fun v24=>
 kcv t117 p18 a4 [v22,v24] fun v25 p26=>
 klt v25 q32 fun v27=>
 j20 a4 a0 v17 v21 v22 a0 a1 v23 v24 v25 v27 p26) (j20 .undef .undef .undef .undef .undef .undef .undef .undef .undef .undef .undef p18)) fun v28 v29 v30 v31 v32 v33 v34 v35 v36 v37 v38 p39=>
 kpk v19 v38 q43 fun v40=>
 kif v40
 (kad v17 q44 fun v41=>
 r16 v41 p39)
 (j15 v17 p39)) v13 p12) fun v42 p43=>
 jn 1 (fun j44=>
 lp 1 fuel (fun r45 v46 p47=>
 kle v42 v46 fun v48=>
 jn 12 (fun j49=>gdK v48 true (kia 6 a0 v46 fun v50=>
 kla (prt [] p47) 6 v50 fun v51=>
 kia 6 a0 a1 fun v52=>
 kla (prt [] p47) 6 v52 fun v53=>
 kcv t117 p47 a4 [v51,v53] fun v54 p55=>
 klt v54 q32 fun v56=>
 knt v56 fun v57=>
 j49 a4 a0 v46 v50 v51 a0 a1 v52 v53 v54 v56 v57 p55) (j49 .undef .undef .undef .undef .undef .undef .undef .undef .undef .undef .undef .undef p47)) fun v58 v59 v60 v61 v62 v63 v64 v65 v66 v67 v68 v69 p70=>
 kpk v48 v69 q43 fun v71=>
 kif v71
 (ksb v46 q44 fun v72=>
 r45 v72 p70)
 (j44 v46 p70)) v14 p43) fun v73 p74=>
 kgt v42 v73 fun v75=>
 kif v75
 (kia 6 a0 a1 fun v76=>
 kla (prt [] p74) 6 v76 fun v77=>
 kia 6 a0 v73 fun v78=>
 kla (prt [] p74) 6 v78 fun v79=>
 kia 6 a0 v73 fun v80=>
 kst p74 6 v80 v77 fun p81=>
 kia 6 a0 a1 fun v82=>
 kst p81 6 v82 v79 fun p83=>
 k [v73,q53] p83)
 (kia 6 a0 v73 fun v84=>
 kla (prt [] p74) 6 v84 fun v85=>
 kia 6 a0 v42 fun v86=>
 kla (prt [] p74) 6 v86 fun v87=>
 kia 6 a0 v42 fun v88=>
 kst p74 6 v88 v85 fun p89=>
 kia 6 a0 v73 fun v90=>
 kst p89 6 v90 v87 fun p91=>
 kad v42 q44 fun v92=>
 ksb v73 q44 fun v93=>
 jn 1 (fun j94=>
 lp 2 fuel (fun r95 v96 v97 p98=>
 jn 2 (fun j99=>
 jn 1 (fun j100=>
 lp 1 fuel (fun r101 v102 p103=>
 kle v102 v97 fun v104=>
 jn 11 (fun j105=>gdK v104 true (kia 6 a0 v102 fun v106=>
 kla (prt [] p103) 6 v106 fun v107=>
 kia 6 a0 a1 fun v108=>
 kla (prt [] p103) 6 v108 fun v109=>
 kcv t117 p103 a4 [v107,v109] fun v110 p111=>
 klt v110 q32 fun v112=>
 j105 a4 a0 v102 v106 v107 a0 a1 v108 v109 v110 v112 p111) (j105 .undef .undef .undef .undef .undef .undef .undef .undef .undef .undef .undef p103)) fun v113 v114 v115 v116 v117 v118 v119 v120 v121 v122 v123 p124=>
 kpk v104 v123 q43 fun v125=>
 kif v125
 (kad v102 q44 fun v126=>
 r101 v126 p124)
 (j100 v102 p124)) v96 p98) fun v127 p128=>
 jn 1 (fun j129=>
 lp 1 fuel (fun r130 v131 p132=>
 kle v127 v131 fun v133=>
 jn 12 (fun j134=>gdK v133 true (kia 6 a0 v131 fun v135=>
 kla (prt [] p132) 6 v135 fun v136=>
 kia 6 a0 a1 fun v137=>
 kla (prt [] p132) 6 v137 fun v138=>
 kcv t117 p132 a4 [v136,v138] fun v139 p140=>
 klt v139 q32 fun v141=>
 knt v141 fun v142=>
 j134 a4 a0 v131 v135 v136 a0 a1 v137 v138 v139 v141 v142 p140) (j134 .undef .undef .undef .undef .undef .undef .undef .undef .undef .undef .undef .undef p132)) fun v143 v144 v145 v146 v147 v148 v149 v150 v151 v152 v153 v154 p155=>
 kpk v133 v154 q43 fun v156=>
 kif v156
 (ksb v131 q44 fun v157=>
 r130 v157 p155)
 (j129 v131 p155)) v97 p128) fun v158 p159=>
 kgt v127 v158 fun v160=>
 kif v160
 (j94 v158 p159)
 (kia 6 a0 v158 fun v161=>
 kla (prt [] p159) 6 v161 fun v162=>
 kia 6 a0 v127 fun v163=>
 kla (prt [] p159) 6 v163 fun v164=>
 kia 6 a0 v127 fun v165=>
 kst p159 6 v165 v162 fun p166=>
 kia 6 a0 v158 fun v167=>
 kst p166 6 v167 v164 fun p168=>
 kad v127 q44 fun v169=>
 ksb v158 q44 fun v170=>
 j99 v169 v170 p168)) fun v171 v172 p173=>
 r95 v171 v172 p173) v92 v93 p91) fun v174 p175=>
 kia 6 a0 a1 fun v176=>
 kla (prt [] p175) 6 v176 fun v177=>
 kia 6 a0 v174 fun v178=>
 kla (prt [] p175) 6 v178 fun v179=>
 kia 6 a0 v174 fun v180=>
 kst p175 6 v180 v177 fun p181=>
 kia 6 a0 a1 fun v182=>
 kst p181 6 v182 v179 fun p183=>
 k [v174,q43] p183)
theorem o117:FO EN 117 f117:=fe 5 (T:=t117) (tc c34_ok tnil) [some [12],some [12],none,none,some [13],some [13],none,none,none,some [13],some [12,13],some [12,13],some [12],some [12],none,none,some [13],some [13],none,none,none] (by kernel_rfl) fun p s k=>by kernel_rfl
end
end Go.V
end
section
namespace Go.V
noncomputable section
def intE (a b:Int):Bool:=Int.rec (motive:=fun _=>Bool) (fun m=>Int.rec (motive:=fun _=>Bool) (fun n=>Nat.beq m n) (fun _=>false) b) (fun _=>false) a
theorem intE_eq {a b:Int} (h:intE a b=true):a=b:=by
 cases a<;>cases b<;>first|exact congrArg Int.ofNat (Nat.eq_of_beq_eq_true h)|cases h
def eqG (u v:Val):Bool:=match u,v with
 | .int k m,.int j n=>Nat.beq (ikIx k) (ikIx j)&&intE m n
 | .bool true,.bool true=>true
 | .bool false,.bool false=>true
 | .nils,.nils =>true
 | .nilp,.nilp =>true
 | .nilm,.nilm =>true
 | .nilf,.nilf =>true
 | .nili,.nili =>true
 | .ptr b o,.ptr c q=>Nat.beq b c&&Nat.beq o q
 | .slice b o n c l,.slice b' o' n' c' l'=>Nat.beq b b'&&(Nat.beq o o'&&(Nat.beq n n'&&(Nat.beq c c'&&Nat.beq l l')))
 | .func (.func f) [] [],.func (.func g) [] []=>Nat.beq f g
 |_,_=>false
theorem eqG_eq {u v:Val} (h:eqG u v=true):u=v:=by
  unfold eqG at h
  split at h
  · simp only [Bool.and_eq_true] at h
    rw [ikIx_inj (Nat.eq_of_beq_eq_true h.1),intE_eq h.2]
  all_goals first
    |rfl
    |(cases h;done)
    | (simp only [Bool.and_eq_true] at h
       obtain ⟨h1,h2⟩:=h
       rw [Nat.eq_of_beq_eq_true h1,Nat.eq_of_beq_eq_true h2])
    | (simp only [Bool.and_eq_true] at h
       obtain ⟨h1,h2,h3,h4,h5⟩:=h
       rw [Nat.eq_of_beq_eq_true h1,Nat.eq_of_beq_eq_true h2,Nat.eq_of_beq_eq_true h3,Nat.eq_of_beq_eq_true h4,Nat.eq_of_beq_eq_true h5])
    |rw [Nat.eq_of_beq_eq_true h]
def eqV (u v:Val):Bool:=SV.rec (motive:=fun _=>Bool) (fun a=>SV.rec (motive:=fun _=>Bool) (fun b=>beqB a b) false (strC v)) (eqG u v) (strC u)
theorem strC_eq {u:Val} {a:List UInt8} (h:strC u=.y a):u=.str a:=by
 cases u<;>first|(cases h;rfl)|cases h
theorem eqV_eq {u v:Val} (h:eqV u v=true):u=v:=by
 unfold eqV at h
 cases e1:strC u with
 |z=>rw [e1] at h;exact eqG_eq h
 |y a=>
  rw [e1] at h
  cases e2:strC v with
  |z=>rw [e2] at h;cases h
  |y b=>
   rw [e2] at h
   have h':beqB a b=true:=h
   rw [beqB_eq] at h'
   rw [strC_eq e1,strC_eq e2,eq_of_beq h']
def eqVs (l:List Val):List Val→Bool:=List.rec (motive:=fun _=>List Val→Bool) (fun m=>List.rec (motive:=fun _=>Bool) true (fun _ _ _=>false) m) (fun u _ ih m=>List.rec (motive:=fun _=>Bool) false (fun v r _=>Bool.rec (motive:=fun _=>Bool) false (ih r) (eqV u v)) m) l
theorem eqVs_eq: ∀ {l m:List Val},eqVs l m=true→l=m
 |[],[],_=>rfl
 |[],_::_,h=>by cases h
 |_::_,[],h=>by cases h
 |u::l,v::m,h=>by
  have h':(Bool.rec (motive:=fun _=>Bool) false (eqVs l m) (eqV u v))=true:=h
  cases e:eqV u v with
  |false=>rw [e] at h';cases h'
  |true=>
   rw [e] at h'
   rw [eqV_eq e,eqVs_eq (l:=l) (m:=m) h']
def eqB (u v:Option Blk):Bool:=match u,v with
 |none,none=>true
 |some (.cells c),some (.cells d)=>eqVs c d
 |_,_=>false
theorem eqB_eq {u v:Option Blk} (h:eqB u v=true):u=v:=by
 unfold eqB at h
 split at h
 ·rfl
 ·rw [eqVs_eq h]
 ·cases h
def eqT (t:Tr):Tr→Bool:=Tr.rec (motive:=fun _=>Tr→Bool) (fun u=>Tr.rec (motive:=fun _=>Bool) true (fun _ _ _ _ _=>false) u) (fun _ v _ il ir u=>Tr.rec (motive:=fun _=>Bool) false (fun l' v' r' _ _=>Bool.rec (motive:=fun _=>Bool) false (Bool.rec (motive:=fun _=>Bool) false (ir r') (il l')) (eqB v v')) u) t
theorem eqT_eq: ∀ {t u:Tr},eqT t u=true→t=u
 | .leaf,.leaf,_=>rfl
 | .leaf,.node _ _ _,h=>by cases h
 | .node _ _ _,.leaf,h=>by cases h
 | .node l v r,.node l' v' r',h=>by
  have h':(Bool.rec (motive:=fun _=>Bool) false (Bool.rec (motive:=fun _=>Bool) false (eqT r r') (eqT l l')) (eqB v v'))=true:=h
  cases e1:eqB v v' with
  |false=>rw [e1] at h';cases h'
  |true=>
   rw [e1] at h'
   cases e2:eqT l l' with
   |false=>rw [e2] at h';cases h'
   |true=>
    rw [e2] at h'
    rw [eqB_eq e1,eqT_eq (t:=l) (u:=l') e2,eqT_eq (t:=r) (u:=r') h']
def nilH (l:List (Nat×Nat)):Bool:=List.rec (motive:=fun _=>Bool) true (fun _ _ _=>false) l
theorem nilH_eq {l:List (Nat×Nat)} (h:nilH l=true):l=[]:=by
 cases l with
 |nil=>rfl
 |cons _ _=>cases h
def eqH (p q:Heap):Bool:=Heap.rec (motive:=fun _=>Bool) (fun n t hid f b=>Heap.rec (motive:=fun _=>Bool) (fun n' t' hid' f' b'=>Bool.rec (motive:=fun _=>Bool) false (Bool.rec (motive:=fun _=>Bool) false (Bool.rec (motive:=fun _=>Bool) false (Bool.rec (motive:=fun _=>Bool) false (Bool.rec (motive:=fun _=>Bool) false (eqT t t') (Nat.beq b b')) (Nat.beq f f')) (nilH hid')) (nilH hid)) (Nat.beq n n')) q) p
theorem recB {a b:Bool} (h:(Bool.rec (motive:=fun _=>Bool) false a b)=true):b=true∧a=true:=by
 cases b
 ·cases h
 ·exact ⟨rfl,h⟩
theorem eqH_eq {p q:Heap} (h:eqH p q=true):p=q:=by
 obtain ⟨n,t,hid,f,b⟩:=p
 obtain ⟨n',t',hid',f',b'⟩:=q
 obtain ⟨h1,h⟩:=recB (show Bool.rec (motive:=fun _=>Bool) false _ (Nat.beq n n')=true from h)
 obtain ⟨h2,h⟩:=recB h
 obtain ⟨h3,h⟩:=recB h
 obtain ⟨h4,h⟩:=recB h
 obtain ⟨h5,h⟩:=recB h
 rw [Nat.eq_of_beq_eq_true h1,nilH_eq h2,nilH_eq h3,Nat.eq_of_beq_eq_true h4,Nat.eq_of_beq_eq_true h5,eqT_eq h]
structure Me where
 h:Heap
 a:List Val
 r:List Val
 h':Heap
def chkM (e:Me) (r:List Val) (p:Heap):AN:=Bool.rec (motive:=fun _=>AN) .no (Bool.rec (motive:=fun _=>AN) .no (.ok true []) (eqH p e.h')) (eqVs r e.r)
theorem chkM_inv {e:Me} {r:List Val} {p:Heap} (h:chkM e r p≠.no):r=e.r∧p=e.h':=by
 unfold chkM at h
 cases e1:eqVs r e.r with
 |false=>rw [e1] at h;exact absurd rfl h
 |true=>
  rw [e1] at h
  cases e2:eqH p e.h' with
  |false=>rw [e2] at h;exact absurd rfl h
  |true=>exact ⟨eqVs_eq e1,eqH_eq e2⟩
def MOk (F:FT) (T:List Me):Prop:= ∀ e∈T,isOk (F e.h e.a (chkM e))=true
theorem mnil {F:FT}:MOk F []:=fun _ h=>by cases h
theorem mcons {F:FT} {e:Me} {T:List Me} (h:isOk (F e.h e.a (chkM e))=true) (t:MOk F T):MOk F (e::T):=by
 intro x hx
 rcases List.mem_cons.1 hx with rfl|hx
 ·exact h
 ·exact t x hx
def memoF (F:FT) (T:List Me):FT:=fun p args k=>List.rec (motive:=fun _=>AN) (F p args k) (fun e _ ih=>Me.rec (motive:=fun _=>AN) (fun h a r h'=>Bool.rec (motive:=fun _=>AN) ih (Bool.rec (motive:=fun _=>AN) ih (k r h') (eqH p h)) (eqVs args a)) e) T
theorem FO.memo {E:Env} {f:FuncId} {F:FT} (hF:FO E f F): ∀ {T:List Me},MOk F T→FO E f (memoF F T)
 |[],_=>hF
 |e::T,hT=>by
  have ih:=FO.memo (f:=f) hF (T:=T) (fun x hx=>hT x (List.mem_cons_of_mem _ hx))
  have he:=hT e (List.mem_cons_self ..)
  intro p args k h
  have e0:memoF F (e::T) p args k=Bool.rec (motive:=fun _=>AN) (memoF F T p args k) (Bool.rec (motive:=fun _=>AN) (memoF F T p args k) (k e.r e.h') (eqH p e.h)) (eqVs args e.a):=rfl
  rw [e0] at h ⊢
  cases e1:eqVs args e.a with
  |false=>rw [e1] at h;exact ih p args k h
  |true=>
   rw [e1] at h
   cases e2:eqH p e.h with
   |false=>rw [e2] at h;exact ih p args k h
   |true=>
    have e3:=eqVs_eq e1
    have e4:=eqH_eq e2
    subst e3
    subst e4
    have hn:F e.h e.a (chkM e)≠.no :=by intro q;rw [q] at he;cases he
    obtain ⟨r,p',h1,h2⟩:=hF _ _ _ hn
    rw [h1] at hn
    obtain ⟨rfl,rfl⟩:=chkM_inv hn
    exact ⟨_,_,rfl,h2⟩
end
end Go.V
end
