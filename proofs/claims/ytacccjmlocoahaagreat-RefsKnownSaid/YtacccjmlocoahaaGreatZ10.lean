/-
  Parts of the proof, from: YtacccjmlocoahaaGreatZm1
-/
import Derived.KernelRfl
import Derived.Test.YtacccjmlocoahaaGreatZ9

set_option linter.unusedVariables false
set_option linter.unusedSimpArgs false
set_option linter.unusedSectionVars false
section
set_option maxRecDepth 100000
namespace Go.V
noncomputable section
def f284:FT:=fun p s k=>hd s fun a0 s0=>
 nl s0<|
 kge a0 q56 fun v1=>
 jn 2 (fun j2=>gdK v1 true (kle a0 q57 fun v3=>
 j2 a0 v3 p) (j2 .undef .undef p)) fun v4 v5 p6=>
 kpk v1 v5 q43 fun v7=>
 jn 3 (fun j8=>gdK v7 false (kge a0 q58 fun v9=>
 j8 a0 v9 v9 p6) (j8 .undef .undef .undef p6)) fun v10 v11 v12 p13=>
 jn 2 (fun j14=>gdK v12 true (kle a0 q59 fun v15=>
 j14 a0 v15 p13) (j14 .undef .undef p13)) fun v16 v17 p18=>
 jn 1 (fun j19=>gdK v7 false (kpk v12 v17 q43 fun v20=>
 j19 v20 p18) (j19 .undef p18)) fun v21 p22=>
 kpk v7 q53 v21 fun v23=>
 k [v23] p22
theorem o284:FO EN 284 f284:=fe 1 tnil [] (by kernel_rfl) fun p s k=>by kernel_rfl
def f285:FT:=fun p s k=>hd s fun a0 s0=>
 nl s0<|
 keq false .s a0 q68 fun v1=>
 jn 2 (fun j2=>gdK v1 false (keq false .s a0 q69 fun v3=>
 j2 a0 v3 p) (j2 .undef .undef p)) fun v4 v5 p6=>
 kpk v1 q53 v5 fun v7=>
 jn 2 (fun j8=>gdK v7 false (keq false .s a0 q70 fun v9=>
 j8 a0 v9 p6) (j8 .undef .undef p6)) fun v10 v11 p12=>
 kpk v7 q53 v11 fun v13=>
 k [v13] p12
theorem o285:FO EN 285 f285:=fe 1 tnil [] (by kernel_rfl) fun p s k=>by kernel_rfl
def t263:List Ce:=[⟨284,cc f284⟩,⟨285,cn f285⟩]
def f263:FT:=fun p s k=>hd s fun a0 s0=>
 nl s0<|
 kal p q71 fun v1 p2=>
 kal p2 q46 fun v3 p4=>
 jn 1 (fun j5=>
 lp 1 fuel (fun r6 v7 p8=>
 kls a0 fun v9=>
 klt v7 v9 fun v10=>
 jn 4 (fun j11=>gdK v10 true (kix a0 v7 fun v12=>
 cc f284 p8 [v12] fun v13 p14=>
 j11 a0 v7 v12 v13 p14) (j11 .undef .undef .undef .undef p8)) fun v15 v16 v17 v18 p19=>
 kpk v10 v18 q43 fun v20=>
 kif v20
 (kad v7 q44 fun v21=>
 r6 v21 p19)
 (j5 v7 p19)) q32 p4) fun v22 p23=>
 kgt v22 q38 fun v24=>
 kif v24
 (kla p23 3 v1 fun v25=>
 kst p23 3 v1 v25 fun p26=>
 kst p26 1 v3 q55 fun p27=>
 hd [v3,v1] fun b28 s100=>
 hd s100 fun b29 s101=>
 nl s101<|
 kld p27 b28 fun v30=>
 keq true .i v30 q32 fun v31=>
 jn 0 (fun j32 => kif v31
 (kbd q71 [] fun v33=>
 kst p27 3 b29 v33 fun p34=>
 j32 p34)
 (j32 p27)) fun p35=>
 kra p35 3 v1 fun v36=>
 kr1 p35 v3 fun v37=>
 k [v36,v37] p35)
 (kgt v22 q32 fun v38=>
 jn 4 (fun j39=>gdK v38 true (kss a0 none (some v22) fun v40=>
 cn f285 p23 [v40] fun v41 p42=>
 j39 a0 v22 v40 v41 p42) (j39 .undef .undef .undef .undef p23)) fun v43 v44 v45 v46 p47=>
 kpk v38 v46 q43 fun v48=>
 kif v48
 (kss a0 none (some v22) fun v49=>
 kbd q71 [(0,1,q5),(1,1,v49)] fun v50=>
 kst p47 3 v1 v50 fun p51=>
 kst p51 1 v3 q32 fun p52=>
 hd [v3,v1] fun b53 s100=>
 hd s100 fun b54 s101=>
 nl s101<|
 kld p52 b53 fun v55=>
 keq true .i v55 q32 fun v56=>
 jn 0 (fun j57 => kif v56
 (kbd q71 [] fun v58=>
 kst p52 3 b54 v58 fun p59=>
 j57 p59)
 (j57 p52)) fun p60=>
 kra p60 3 v1 fun v61=>
 kr1 p60 v3 fun v62=>
 k [v61,v62] p60)
 (kgt v22 q32 fun v63=>
 kif v63
 (kss a0 none (some v22) fun v64=>
 kbd q71 [(0,1,q4),(1,1,v64)] fun v65=>
 kst p47 3 v1 v65 fun p66=>
 kst p66 1 v3 q32 fun p67=>
 hd [v3,v1] fun b68 s100=>
 hd s100 fun b69 s101=>
 nl s101<|
 kld p67 b68 fun v70=>
 keq true .i v70 q32 fun v71=>
 jn 0 (fun j72 => kif v71
 (kbd q71 [] fun v73=>
 kst p67 3 b69 v73 fun p74=>
 j72 p74)
 (j72 p67)) fun p75=>
 kra p75 3 v1 fun v76=>
 kr1 p75 v3 fun v77=>
 k [v76,v77] p75)
 (kss a0 none (some q44) fun v78=>
 kbd q71 [(0,1,q7),(1,1,v78)] fun v79=>
 kst p47 3 v1 v79 fun p80=>
 kix a0 q32 fun v81=>
 jn 0 (fun j82=>
 jn 0 (fun j83=>
 keq false .i v81 q72 fun v84=>
 kif v84
 (.no)
 (keq false .i v81 q73 fun v85=>
 jn 1 (fun j86 => kif v85
 (j86 v85 p80)
 (keq false .i v81 q74 fun v87=>
 jn 1 (fun j88 => kif v87
 (j88 v87 p80)
 (keq false .i v81 q75 fun v89=>
 jn 1 (fun j90 => kif v89
 (j90 v89 p80)
 (keq false .i v81 q76 fun v91=>
 jn 1 (fun j92 => kif v91
 (j92 v91 p80)
 (keq false .i v81 q77 fun v93=>
 jn 1 (fun j94 => kif v93
 (j94 v93 p80)
 (keq false .i v81 q78 fun v95=>
 jn 1 (fun j96 => kif v95
 (j96 v95 p80)
 (keq false .i v81 q79 fun v97=>
 jn 1 (fun j98 => kif v97
 (j98 v97 p80)
 (keq false .i v81 q80 fun v99=>
 jn 1 (fun j100 => kif v99
 (j100 v99 p80)
 (keq false .i v81 q81 fun v101=>
 jn 1 (fun j102 => kif v101
 (j102 v101 p80)
 (keq false .i v81 q82 fun v103=>
 jn 1 (fun j104 => kif v103
 (j104 v103 p80)
 (keq false .i v81 q83 fun v105=>
 jn 1 (fun j106 => kif v105
 (j106 v105 p80)
 (keq false .i v81 q84 fun v107=>
 jn 1 (fun j108 => kif v107
 (j108 v107 p80)
 (keq false .i v81 q85 fun v109=>
 j108 v109 p80)) fun v110 p111=>
 j106 v110 p111)) fun v112 p113=>
 j104 v112 p113)) fun v114 p115=>
 j102 v114 p115)) fun v116 p117=>
 j100 v116 p117)) fun v118 p119=>
 j98 v118 p119)) fun v120 p121=>
 j96 v120 p121)) fun v122 p123=>
 j94 v122 p123)) fun v124 p125=>
 j92 v124 p125)) fun v126 p127=>
 j90 v126 p127)) fun v128 p129=>
 j88 v128 p129)) fun v130 p131=>
 j86 v130 p131)) fun v132 p133=>
 kif v132
 (j83 p133)
 (j82 p133))) fun p134=>
 kla p134 3 v1 fun v135=>
 kst p134 3 v1 v135 fun p136=>
 kst p136 1 v3 q32 fun p137=>
 hd [v3,v1] fun b138 s100=>
 hd s100 fun b139 s101=>
 nl s101<|
 kld p137 b138 fun v140=>
 keq true .i v140 q32 fun v141=>
 jn 0 (fun j142 => kif v141
 (kbd q71 [] fun v143=>
 kst p137 3 b139 v143 fun p144=>
 j142 p144)
 (j142 p137)) fun p145=>
 kra p145 3 v1 fun v146=>
 kr1 p145 v3 fun v147=>
 k [v146,v147] p145) fun p148=>
 kla p148 3 v1 fun v149=>
 kst p148 3 v1 v149 fun p150=>
 kst p150 1 v3 q52 fun p151=>
 hd [v3,v1] fun b152 s100=>
 hd s100 fun b153 s101=>
 nl s101<|
 kld p151 b152 fun v154=>
 keq true .i v154 q32 fun v155=>
 jn 0 (fun j156 => kif v155
 (kbd q71 [] fun v157=>
 kst p151 3 b153 v157 fun p158=>
 j156 p158)
 (j156 p151)) fun p159=>
 kra p159 3 v1 fun v160=>
 kr1 p159 v3 fun v161=>
 k [v160,v161] p159)))
theorem o263:FO EN 263 f263:=de (g:=283) (np:=1) (ng:=2) (T:=t263) (tc (cc_ok o284) (tc (cn_ok o285) tnil)) [] [some [4],some [4],none,none,none,none,none,none,some [],some [],none,none,some [49],some [49],some [49],some [49],some [49],some [49],some [49],some [49],some [49],some [49],some [49],some [49],none,some []] [some []] (by kernel_rfl) fun p s k=>by kernel_rfl
def f236:FT:=fun p s k=>hd s fun a0 s0=>
 nl s0<|
 kbx p 3 a0 fun v1 p2=>
 kal p2 q71 fun v3 p4=>
 kfa 1 v1 fun v5=>
 kld p4 v5 fun v6=>
 keq true .s v6 q60 fun v7=>
 jn 1 (fun j8 => kif v7
 (kfa 1 v1 fun v9=>
 kld p4 v9 fun v10=>
 cn f263 p4 [v10] fun v11 p12=>
 kex v11 0 fun v13=>
 kex v11 1 fun v14=>
 kst p12 3 v3 v13 fun p15=>
 j8 v14 p15)
 (j8 q52 p4)) fun v16 p17=>
 keq false .i v16 q32 fun v18=>
 jn 5 (fun j19=>gdK v18 true (kfa 0 v3 fun v20=>
 kld p17 v20 fun v21=>
 kfa 0 v1 fun v22=>
 kld p17 v22 fun v23=>
 keq false .i v21 v23 fun v24=>
 j19 v20 v21 v22 v23 v24 p17) (j19 .undef .undef .undef .undef .undef p17)) fun v25 v26 v27 v28 v29 p30=>
 kpk v18 v29 q43 fun v31=>
 jn 5 (fun j32=>gdK v31 true (kfa 1 v3 fun v33=>
 kld p30 v33 fun v34=>
 kfa 1 v1 fun v35=>
 kld p30 v35 fun v36=>
 keq false .s v34 v36 fun v37=>
 j32 v33 v34 v35 v36 v37 p30) (j32 .undef .undef .undef .undef .undef p30)) fun v38 v39 v40 v41 v42 p43=>
 kpk v31 v42 q43 fun v44=>
 kfa 0 v1 fun v45=>
 kld p43 v45 fun v46=>
 klt v46 q4 fun v47=>
 jn 3 (fun j48=>gdK v47 false (kfa 0 v1 fun v49=>
 kld p43 v49 fun v50=>
 kgt v50 q7 fun v51=>
 j48 v49 v50 v51 p43) (j48 .undef .undef .undef p43)) fun v52 v53 v54 p55=>
 kpk v47 q53 v54 fun v56=>
 kif v56
 (k [q86] p55)
 (kif v44
 (k [q32] p55)
 (kfa 0 v1 fun v57=>
 kld p55 v57 fun v58=>
 keq false .i v58 q4 fun v59=>
 kif v59
 (k [q55] p55)
 (k [q52] p55)))
theorem o236:FO EN 236 f236:=fe 1 (tc (cn_ok o263) tnil) [some [4],none,none,none,none] (by kernel_rfl) fun p s k=>by kernel_rfl
def f212:FT:=fun p s k=>hd s fun a0 s0=>
 nl s0<|
 kbd q71 [(0,1,q4),(1,1,a0)] fun v1=>
 cn f236 p [v1] fun v2 p3=>
 keq false .i v2 q32 fun v4=>
 k [v4] p3
theorem o212:FO EN 212 f212:=fe 1 (tc (cn_ok o236) tnil) [] (by kernel_rfl) fun p s k=>by kernel_rfl
def f187:FT:=fun p s k=>hd s fun a0 s0=>
 nl s0<|
 kln a0 fun v1=>
 kln a0 fun v2=>
 ksl 5 a0 none (some v1) (some v2) fun v3=>
 k [v3] p
theorem o187:FO EN 187 f187:=fe 1 tnil [] (by kernel_rfl) fun p s k=>by kernel_rfl
def f223:FT:=fun p s k=>hd s fun a0 s0=>
 nl s0<|
 kbd q71 [(0,1,q4),(1,1,a0)] fun v1=>
 cn f236 p [v1] fun v2 p3=>
 keq false .i v2 q32 fun v4=>
 k [v4] p3
theorem o223:FO EN 223 f223:=fe 1 (tc (cn_ok o236) tnil) [] (by kernel_rfl) fun p s k=>by kernel_rfl
def f186:FT:=fun p s k=>hd s fun a0 s0=>
 nl s0<|
 knc mth a0 fun v1=>
 kfa 1 v1 fun v2=>
 kld (prt [] p) v2 fun v3=>
 keq true .s v3 q60 fun v4=>
 knc mth a0 fun v5=>
 kfa 2 v5 fun v6=>
 kld (prt [] p) v6 fun v7=>
 keq true .s v7 q60 fun v8=>
 kbd q87 [(0,1,v4),(1,1,v8)] fun v9=>
 kal p q87 fun v10 p11=>
 kst p11 2 v10 v9 fun p12=>
 kbd q87 [] fun v13=>
 kal p12 q87 fun v14 p15=>
 kst p15 2 v14 v13 fun p16=>
 knc mth a0 fun v17=>
 kfa 3 v17 fun v18=>
 kld p16 v18 fun v19=>
 kln v19 fun v20=>
 keq false .i v20 q32 fun v21=>
 knc mth a0 fun v22=>
 kfa 0 v22 fun v23=>
 kld p16 v23 fun v24=>
 keq false .i v24 q4 fun v25=>
 jn 1 (fun j26 => kif v25
 (j26 v21 p16)
 (keq false .i v24 q5 fun v27=>
 jn 1 (fun j28 => kif v27
 (kib 2 1 v10 q32 fun v29=>
 kld p16 v29 fun v30=>
 kbd q87 [(0,1,v30),(1,1,q43)] fun v31=>
 kst p16 2 v14 v31 fun p32=>
 j28 v21 p32)
 (keq false .i v24 q7 fun v33=>
 jn 1 (fun j34 => kif v33
 (kla p16 2 v10 fun v35=>
 kst p16 2 v14 v35 fun p36=>
 j34 v21 p36)
 (keq false .i v24 q11 fun v37=>
 jn 1 (fun j38 => kif v37
 (j38 v37 p16)
 (keq false .i v24 q88 fun v39=>
 j38 v39 p16)) fun v40 p41=>
 jn 1 (fun j42 => kif v40
 (kge v20 q48 fun v43=>
 j42 v43 p41)
 (keq false .i v24 q14 fun v44=>
 kif v44
 (keq false .i v20 q48 fun v45=>
 j42 v45 p41)
 (k [q86] p41))) fun v46 p47=>
 j34 v46 p47)) fun v48 p49=>
 j28 v48 p49)) fun v50 p51=>
 j26 v50 p51)) fun v52 p53=>
 knt v52 fun v54=>
 jn 3 (fun j55=>gdK v54 false (kla p53 2 v10 fun v56=>
 kla p53 2 v14 fun v57=>
 kea true [(0,.b),(1,.b)] v56 v57 fun v58=>
 j55 v56 v57 v58 p53) (j55 .undef .undef .undef p53)) fun v59 v60 v61 p62=>
 kpk v54 q53 v61 fun v63=>
 kif v63
 (k [q52] p62)
 (knc mth a0 fun v64=>
 kfa 0 v64 fun v65=>
 kld p62 v65 fun v66=>
 keq false .i v66 q7 fun v67=>
 jn 6 (fun j68=>gdK v67 true (knc mth a0 fun v69=>
 kfa 2 v69 fun v70=>
 kld p62 v70 fun v71=>
 cn f223 p62 [v71] fun v72 p73=>
 knt v72 fun v74=>
 j68 a0 v69 v70 v71 v72 v74 p73) (j68 .undef .undef .undef .undef .undef .undef p62)) fun v75 v76 v77 v78 v79 v80 p81=>
 kpk v67 v80 q43 fun v82=>
 jn 1 (fun j83 => kif v82
 (j83 v82 p81)
 (knc mth a0 fun v84=>
 kfa 0 v84 fun v85=>
 kld p81 v85 fun v86=>
 keq false .i v86 q5 fun v87=>
 jn 5 (fun j88=>gdK v87 false (knc mth a0 fun v89=>
 kfa 0 v89 fun v90=>
 kld p81 v90 fun v91=>
 keq false .i v91 q7 fun v92=>
 j88 a0 v89 v90 v91 v92 p81) (j88 .undef .undef .undef .undef .undef p81)) fun v93 v94 v95 v96 v97 p98=>
 kpk v87 q53 v97 fun v99=>
 jn 6 (fun j100=>gdK v99 true (knc mth a0 fun v101=>
 kfa 1 v101 fun v102=>
 kld p98 v102 fun v103=>
 cn f223 p98 [v103] fun v104 p105=>
 knt v104 fun v106=>
 j100 a0 v101 v102 v103 v104 v106 p105) (j100 .undef .undef .undef .undef .undef .undef p98)) fun v107 v108 v109 v110 v111 v112 p113=>
 kpk v99 v112 q43 fun v114=>
 j83 v114 p113)) fun v115 p116=>
 kif v115
 (k [q55] p116)
 (k [q32] p116))
theorem o186:FO EN 186 f186:=fe 1 (tc (cn_ok o223) tnil) [none,some [6],some [6],some [6],some [40],some [6],none,none,none,some [57],none] (by kernel_rfl) fun p s k=>by kernel_rfl
def f147:FT:=fun p s k=>hd s fun a0 s0=>
 nl s0<|
 kln a0 fun v1=>
 kln a0 fun v2=>
 ksl 1 a0 none (some v1) (some v2) fun v3=>
 k [v3] p
theorem o147:FO EN 147 f147:=fe 1 tnil [] (by kernel_rfl) fun p s k=>by kernel_rfl
def t185 (self:FT):List Ce:=[⟨186,cn f186⟩,⟨147,ci f147⟩,⟨185,ci self⟩]
def g185:FT→FT:=fun self=>fun p s k=>hd s fun a0 s0=>
 hd s0 fun a1 s1=>
 hd s1 fun a2 s2=>
 hd s2 fun a3 s3=>
 hd s3 fun a4 s4=>
 hd s4 fun a5 s5=>
 hd s5 fun a6 s6=>
 nl s6<|
 kld p a3 fun v7=>
 kln v7 fun v8=>
 keq false .i v8 q35 fun v9=>
 jn 2 (fun j10=>gdK v9 false (kgt a1 q41 fun v11=>
 j10 a1 v11 p) (j10 .undef .undef p)) fun v12 v13 p14=>
 kpk v9 q53 v13 fun v15=>
 kif v15
 (k [q43] p14)
 (kld p14 a4 fun v16=>
 ksw mth p14 (.minmax true [(.c v16),(.c a1)]) fun v17 p18=>
 kst p18 1 a4 v17 fun p19=>
 kld p19 a5 fun v20=>
 keq false .i v20 q32 fun v21=>
 jn 0 (fun j22 => kif v21
 (cn f186 p19 [a0] fun v23 p24=>
 kst p24 1 a5 v23 fun p25=>
 j22 p25)
 (j22 p19)) fun p26=>
 kld p26 a3 fun v27=>
 kln v27 fun v28=>
 kld (prt [] p26) a3 fun v29=>
 knc mth a0 fun v30=>
 kfa 0 v30 fun v31=>
 kld (prt [] p26) v31 fun v32=>
 knc mth a0 fun v33=>
 kfa 1 v33 fun v34=>
 kld (prt [] p26) v34 fun v35=>
 knc mth a0 fun v36=>
 kfa 2 v36 fun v37=>
 kld (prt [] p26) v37 fun v38=>
 kbd q89 [(0,1,v32),(1,1,v35),(2,1,v38),(4,1,a2)] fun v39=>
 kbs p26 1 q89 [(0,5,v39)] fun v40 p41=>
 kap p41 5 72 v29 v40 fun v42 p43=>
 kst p43 1 a3 v42 fun p44=>
 knc mth a0 fun v45=>
 kfa 3 v45 fun v46=>
 kld p44 v46 fun v47=>
 kln v47 fun v48=>
 jn 1 (fun j49=>
 lp 2 fuel (fun r50 v51 v52 p53=>
 klt v52 v48 fun v54=>
 kif v54
 (kld p53 a3 fun v55=>
 kln v55 fun v56=>
 kbs p53 1 q46 [(0,1,v56)] fun v57 p58=>
 kap p58 1 8 v51 v57 fun v59 p60=>
 kld (prt [] p60) a6 fun v61=>
 knc mth a0 fun v62=>
 kfa 3 v62 fun v63=>
 kld (prt [] p60) v63 fun v64=>
 kia 4 v64 v52 fun v65=>
 kad a1 q44 fun v66=>
 jn 6 (fun j67=>gdK a2 false (knc mth a0 fun v68=>
 kfa 0 v68 fun v69=>
 kld (prt [] p60) v69 fun v70=>
 keq false .i v70 q14 fun v71=>
 j67 a0 v68 v69 v70 v71 v71 p60) (j67 .undef .undef .undef .undef .undef .undef p60)) fun v72 v73 v74 v75 v76 v77 _=>
 jn 2 (fun j79=>gdK v77 true (keq false .i v52 q44 fun v80=>
 j79 v52 v80 p60) (j79 .undef .undef p60)) fun v81 v82 _=>
 jn 1 (fun j84=>gdK a2 false (kpk v77 v82 q43 fun v85=>
 j84 v85 p60) (j84 .undef p60)) fun v86 _=>
 kpk a2 q53 v86 fun v88=>
 kcv (t185 self) p60 v61 [v65,v66,v88] fun v89 p90=>
 knt v89 fun v91=>
 kif v91
 (k [q43] p90)
 (kad v52 q44 fun v92=>
 r50 v59 v92 p90))
 (j49 v51 p53)) .nils q32 p44) fun v93 p94=>
 kld (prt [] p94) a3 fun v95=>
 ci f147 (prt [] p94) [v93] fun v96 p97=>
 unpK p94 p97 fun p98=>
 kia 5 v95 v28 fun v99=>
 kfa 3 v99 fun v100=>
 kst p98 1 v100 v96 fun p101=>
 k [q53] p101)
def f185:FT:=rcF depth g185
theorem o185:FO EN 185 f185:=FO.rc (fun self h=>fe 7 (T:=t185 self) (tc (cn_ok o186) (tc (ci_ok o147) (tc (ci_ok h) tnil))) [none,some [],some [12],some [12,52],none,none,none] (by kernel_rfl) fun p s k=>by kernel_rfl) depth
def t153:List Ce:=[⟨187,ci f187⟩,⟨185,ci f185⟩]
def f153:FT:=fun p s k=>hd s fun a0 s0=>
 nl s0<|
 kal p q0 fun v1 p2=>
 kal p2 q46 fun v3 p4=>
 kal p4 q46 fun v5 p6=>
 kst p6 1 v5 q32 fun p7=>
 kal p7 q90 fun v8 p9=>
 kst p9 1 v8 (.func (.func 185) [] [v1,v3,v5,v8]) fun p10=>
 kld p10 v8 fun v11=>
 kcv t153 p10 v11 [a0,q44,q43] fun v12 p13=>
 knt v12 fun v14=>
 kif v14
 (kst p13 1 v1 .nils fun p15=>
 kst p15 1 v3 q32 fun p16=>
 kr1 p16 v1 fun v17=>
 kr1 p16 v3 fun v18=>
 k [v17,v18,q49] p16)
 (kld p13 v5 fun v19=>
 keq true .i v19 q32 fun v20=>
 kif v20
 (kld (prt [] p13) v5 fun v21=>
 kps p13 [] [v5] 1 v1 .nils fun b22 p23=>
 kps p23 [] [v5] 1 v3 q32 fun b24 p25=>
 kr1 p25 v1 fun v26=>
 kr1 p25 v3 fun v27=>
 k [v26,v27,v21] p25)
 (kld (prt [] p13) v1 fun v28=>
 ci f187 (prt [] p13) [v28] fun v29 p30=>
 unpK p13 p30 fun p31=>
 kld (prt [(p13.next,p30.next)] p31) v3 fun v32=>
 kps p31 [] [v3] 1 v1 v29 fun b33 p34=>
 kst p34 1 v3 v32 fun p35=>
 kr1 p35 v1 fun v36=>
 kr1 p35 v3 fun v37=>
 k [v36,v37,q32] p35))
theorem o153:FO EN 153 f153:=fe 1 (T:=t153) (tc (ci_ok o187) (tc (ci_ok o185) tnil)) [none,none] (by kernel_rfl) fun p s k=>by kernel_rfl
def f95:FT:=fun p s k=>hd s fun a0 s0=>
 nl s0<|
 kbx p 4 a0 fun v1 p2=>
 cn f153 p2 [v1] fun v3 p4=>
 kex v3 0 fun v5=>
 kex v3 1 fun v6=>
 kex v3 2 fun v7=>
 k [v7] p4
theorem o95:FO EN 95 f95:=fe 1 (tc (cn_ok o153) tnil) [] (by kernel_rfl) fun p s k=>by kernel_rfl
def f213:FT:=fun p s k=>hd s fun a0 s0=>
 nl s0<|
 kbx p 6 a0 fun v1 p2=>
 kfa 0 v1 fun v3=>
 kld p2 v3 fun v4=>
 cn f212 p2 [v4] fun v5 p6=>
 knt v5 fun v7=>
 kif v7
 (k [q55] p6)
 (kfa 1 v1 fun v8=>
 kld p6 v8 fun v9=>
 kln v9 fun v10=>
 kgt v10 q41 fun v11=>
 kif v11
 (k [q49] p6)
 (kfa 1 v1 fun v12=>
 kld p6 v12 fun v13=>
 kln v13 fun v14=>
 jn 0 (fun j15=>
 lp 1 fuel (fun r16 v17 p18=>
 klt v17 v14 fun v19=>
 kif v19
 (kia 2 v13 v17 fun v20=>
 kla p18 2 v20 fun v21=>
 kal p18 q1 fun v22 p23=>
 kst p23 2 v22 v21 fun p24=>
 kfa 0 v22 fun v25=>
 kld p24 v25 fun v26=>
 cn f212 p24 [v26] fun v27 p28=>
 knt v27 fun v29=>
 jn 4 (fun j30=>gdK v29 false (kfa 1 v22 fun v31=>
 kld p28 v31 fun v32=>
 keq true .s v32 q60 fun v33=>
 j30 v31 v32 v33 v33 p28) (j30 .undef .undef .undef .undef p28)) fun v34 v35 v36 v37 p38=>
 jn 4 (fun j39=>gdK v37 true (kfa 1 v22 fun v40=>
 kld p38 v40 fun v41=>
 cn f212 p38 [v41] fun v42 p43=>
 knt v42 fun v44=>
 j39 v40 v41 v42 v44 p43) (j39 .undef .undef .undef .undef p38)) fun v45 v46 v47 v48 p49=>
 jn 1 (fun j50=>gdK v29 false (kpk v37 v48 q43 fun v51=>
 j50 v51 p49) (j50 .undef p49)) fun v52 p53=>
 kpk v29 q53 v52 fun v54=>
 kif v54
 (k [q55] p53)
 (kad v17 q44 fun v55=>
 r16 v55 p53))
 (j15 p18)) q32 p6) fun p56=>
 kfa 2 v1 fun v57=>
 kla p56 4 v57 fun v58=>
 cn f95 p56 [v58] fun v59 p60=>
 k [v59] p60))
theorem o213:FO EN 213 f213:=fe 1 (tc (cn_ok o212) (tc (cn_ok o95) tnil)) [none,none,none,some [],some [18],none,none,none] (by kernel_rfl) fun p s k=>by kernel_rfl
def f175:FT:=fun p s k=>hd s fun a0 s0=>
 nl s0<|
 kbx p 1 a0 fun v1 p2=>
 kfa 0 v1 fun v3=>
 kld p2 v3 fun v4=>
 kln v4 fun v5=>
 kgt v5 q38 fun v6=>
 kif v6
 (k [q49] p2)
 (kfa 0 v1 fun v7=>
 kld p2 v7 fun v8=>
 kln v8 fun v9=>
 jn 0 (fun j10=>
 lp 1 fuel (fun r11 v12 p13=>
 klt v12 v9 fun v14=>
 kif v14
 (jn 0 (fun j15=>
 kia 2 v8 v12 fun v16=>
 kla p13 2 v16 fun v17=>
 kal p13 q21 fun v18 p19=>
 kst p19 2 v18 v17 fun p20=>
 kfa 0 v18 fun v21=>
 kld p20 v21 fun v22=>
 cn f212 p20 [v22] fun v23 p24=>
 knt v23 fun v25=>
 kif v25
 (k [q55] p24)
 (kfa 1 v18 fun v26=>
 kld p24 v26 fun v27=>
 kln v27 fun v28=>
 kgt v28 q38 fun v29=>
 kif v29
 (k [q49] p24)
 (kfa 1 v18 fun v30=>
 kld p24 v30 fun v31=>
 kln v31 fun v32=>
 jn 0 (fun j33=>
 lp 1 fuel (fun r34 v35 p36=>
 klt v35 v32 fun v37=>
 kif v37
 (kia 6 v31 v35 fun v38=>
 kla p36 6 v38 fun v39=>
 kal p36 q16 fun v40 p41=>
 kst p41 6 v40 v39 fun p42=>
 kla p42 6 v40 fun v43=>
 cn f213 p42 [v43] fun v44 p45=>
 keq true .i v44 q32 fun v46=>
 kif v46
 (k [v44] p45)
 (kad v35 q44 fun v47=>
 r34 v47 p45))
 (j33 p36)) q32 p24) fun p48=>
 j15 p48))) fun p49=>
 kad v12 q44 fun v50=>
 r11 v50 p49)
 (j10 p13)) q32 p2) fun p51=>
 k [q32] p51)
theorem o175:FO EN 175 f175:=fe 1 (tc (cn_ok o212) (tc (cn_ok o213) tnil)) [none,some [],some [15],none,some [],none,none,none,some [],some [32],none,none,none] (by kernel_rfl) fun p s k=>by kernel_rfl
def f135:FT:=fun p s k=>hd s fun a0 s0=>
 nl s0<|
 kbx p 1 a0 fun v1 p2=>
 kla p2 1 v1 fun v3=>
 ksw mth p2 (.mkmap) fun v4 p5=>
 ksw mth p5 (.mkmap) fun v6 p7=>
 kbd q91 [(0,1,v3),(1,1,v4),(2,1,v6)] fun v8=>
 kbx p7 5 v8 fun v9 p10=>
 kfa 0 v1 fun v11=>
 kld p10 v11 fun v12=>
 kln v12 fun v13=>
 jn 0 (fun j14=>
 lp 1 fuel (fun r15 v16 p17=>
 klt v16 v13 fun v18=>
 kif v18
 (jn 0 (fun j19=>
 kia 2 v12 v16 fun v20=>
 kla p17 2 v20 fun v21=>
 kal p17 q21 fun v22 p23=>
 kst p23 2 v22 v21 fun p24=>
 knc mth v9 fun v25=>
 kfa 1 v25 fun v26=>
 kld (prt [] p24) v26 fun v27=>
 kfa 0 v22 fun v28=>
 kld (prt [] p24) v28 fun v29=>
 ksw mth p24 (.lookup ⟨false,[(0,.s)]⟩ q32 false (.c v27) (.c v29)) fun v30 p31=>
 kad v30 q44 fun v32=>
 ksw mth p24 (.mapUpdate ⟨false,[(0,.s)]⟩ (.c v27) (.c v29) (.c v32)) fun v33 p34=>
 kfa 1 v22 fun v35=>
 kld p34 v35 fun v36=>
 kln v36 fun v37=>
 jn 0 (fun j38=>
 lp 1 fuel (fun r39 v40 p41=>
 klt v40 v37 fun v42=>
 kif v42
 (kfa 1 v22 fun v43=>
 kld p41 v43 fun v44=>
 kia 6 v44 v40 fun v45=>
 knc mth v9 fun v46=>
 kfa 2 v46 fun v47=>
 kld (prt [] p41) v47 fun v48=>
 kfa 0 v22 fun v49=>
 kld (prt [] p41) v49 fun v50=>
 knc mth v45 fun v51=>
 kfa 0 v51 fun v52=>
 kld (prt [] p41) v52 fun v53=>
 kbd q1 [(0,1,v50),(1,1,v53)] fun v54=>
 ksw mth p41 (.lookup ⟨true,[(0,.s),(1,.s)]⟩ q32 true (.c v48) (.c v54)) fun v55 p56=>
 kex v55 0 fun v57=>
 kex v55 1 fun v58=>
 knt v58 fun v59=>
 jn 0 (fun j60 => kif v59
 (knc mth v9 fun v61=>
 kfa 2 v61 fun v62=>
 kld (prt [] p41) v62 fun v63=>
 kfa 0 v22 fun v64=>
 kld (prt [] p41) v64 fun v65=>
 knc mth v45 fun v66=>
 kfa 0 v66 fun v67=>
 kld (prt [] p41) v67 fun v68=>
 kbd q1 [(0,1,v65),(1,1,v68)] fun v69=>
 knc mth v9 fun v70=>
 kfa 3 v70 fun v71=>
 kld (prt [] p41) v71 fun v72=>
 kln v72 fun v73=>
 ksw mth p41 (.mapUpdate ⟨true,[(0,.s),(1,.s)]⟩ (.c v63) (.c v69) (.c v73)) fun v74 p75=>
 j60 p75)
 (j60 p41)) fun p76=>
 knc mth v9 fun v77=>
 kfa 3 v77 fun v78=>
 kld (prt [] p76) v78 fun v79=>
 kbs p76 1 q92 [(0,1,v45)] fun v80 p81=>
 kpa p81 [] [] 1 8 v79 v80 fun p83 v82 p84=>
 knc mth v9 fun v85=>
 kfa 4 v85 fun v86=>
 kld (prt [(p76.next,p81.next),(p81.next,p83)] p84) v86 fun v87=>
 kfa 0 v22 fun v88=>
 kld (prt [(p76.next,p81.next),(p81.next,p83)] p84) v88 fun v89=>
 kbs p84 1 q93 [(0,1,v89)] fun v90 p91=>
 kap p91 1 16 v87 v90 fun v92 p93=>
 knc mth v9 fun v94=>
 kfa 3 v94 fun v95=>
 kst p93 1 v95 v82 fun p96=>
 knc mth v9 fun v97=>
 kfa 4 v97 fun v98=>
 kst p96 1 v98 v92 fun p99=>
 kad v40 q44 fun v100=>
 r39 v100 p99)
 (j38 p41)) q32 p34) fun p101=>
 j19 p101) fun p102=>
 kad v16 q44 fun v103=>
 r15 v103 p102)
 (j14 p17)) q32 p10) fun p104=>
 k [v9] p104
theorem o135:FO EN 135 f135:=fe 1 tnil [some [],some [18],none,some [],some [],some [33],none,none,some []] (by kernel_rfl) fun p s k=>by kernel_rfl
def f133:FT:=fun p s k=>hd s fun a0 s0=>
 nl s0<|
 kbx p 4 a0 fun v1 p2=>
 cn f153 p2 [v1] fun v3 p4=>
 kex v3 0 fun v5=>
 kex v3 1 fun v6=>
 kex v3 2 fun v7=>
 k [v5,v7] p4
theorem o133:FO EN 133 f133:=fe 1 (tc (cn_ok o153) tnil) [] (by kernel_rfl) fun p s k=>by kernel_rfl
def f220:FT:=fun p s k=>hd s fun a0 s0=>
 hd s0 fun a1 s1=>
 hd s1 fun a2 s2=>
 nl s2<|
 kld p a0 fun v3=>
 jn 6 (fun j4=>gdK v3 true (kld p a1 fun v5=>
 knc mth v5 fun v6=>
 kfa 1 v6 fun v7=>
 kld p v7 fun v8=>
 kln v8 fun v9=>
 keq false .i v9 q32 fun v10=>
 j4 v5 v6 v7 v8 v9 v10 p) (j4 .undef .undef .undef .undef .undef .undef p)) fun v11 v12 v13 v14 v15 v16 _=>
 kpk v3 v16 q43 fun v18=>
 jn 3 (fun j19=>gdK v18 false (kld p a0 fun v20=>
 knt v20 fun v21=>
 j19 v20 v21 v21 p) (j19 .undef .undef .undef p)) fun v22 v23 v24 _=>
 jn 6 (fun j26=>gdK v24 true (kld p a1 fun v27=>
 knc mth v27 fun v28=>
 kfa 1 v28 fun v29=>
 kld p v29 fun v30=>
 kln v30 fun v31=>
 kgt v31 q32 fun v32=>
 j26 v27 v28 v29 v30 v31 v32 p) (j26 .undef .undef .undef .undef .undef .undef p)) fun v33 v34 v35 v36 v37 v38 _=>
 jn 2 (fun j40=>gdK v18 false (kpk v24 v38 q43 fun v41=>
 j40 v41 v41 p) (j40 .undef .undef p)) fun v42 v43 _=>
 jn 7 (fun j45=>gdK v43 true (kla (prt [] p) 2 a2 fun v46=>
 kld (prt [] p) a1 fun v47=>
 knc mth v47 fun v48=>
 kfa 0 v48 fun v49=>
 kld (prt [] p) v49 fun v50=>
 .no) (j45 .undef .undef .undef .undef .undef .undef .undef p)) fun v51 v52 v53 v54 v55 v56 v57 p58=>
 jn 1 (fun j59=>gdK v18 false (kpk v43 v57 q43 fun v60=>
 j59 v60 p58) (j59 .undef p58)) fun v61 _=>
 kpk v18 q53 v61 fun v63=>
 kif v63
 (k [q94] p58)
 (k [q32] p58)
theorem o220:FO EN 220 f220:=fe 3 tnil [none] (by kernel_rfl) fun p s k=>by kernel_rfl
def f136:FT:=fun p s k=>hd s fun a0 s0=>
 hd s0 fun a1 s1=>
 hd s1 fun a2 s2=>
 nl s2<|
 knc mth a0 fun v3=>
 kfa 2 v3 fun v4=>
 kld p v4 fun v5=>
 kbd q1 [(0,1,a1),(1,1,a2)] fun v6=>
 ksw mth p (.lookup ⟨true,[(0,.s),(1,.s)]⟩ q32 true (.c v5) (.c v6)) fun v7 p8=>
 kex v7 0 fun v9=>
 kex v7 1 fun v10=>
 knt v10 fun v11=>
 kif v11
 (k [.nilp] p8)
 (knc mth a0 fun v12=>
 kfa 3 v12 fun v13=>
 kld p8 v13 fun v14=>
 kia 1 v14 v9 fun v15=>
 kld p8 v15 fun v16=>
 k [v16] p8)
theorem o136:FO EN 136 f136:=fe 3 tnil [none] (by kernel_rfl) fun p s k=>by kernel_rfl
def f145:FT:=fun p s k=>hd s fun a0 s0=>
 nl s0<|
 kln a0 fun v1=>
 kln a0 fun v2=>
 ksl 1 a0 none (some v1) (some v2) fun v3=>
 k [v3] p
theorem o145:FO EN 145 f145:=fe 1 tnil [] (by kernel_rfl) fun p s k=>by kernel_rfl
def f137:FT:=fun p s k=>hd s fun a0 s0=>
 hd s0 fun a1 s1=>
 hd s1 fun a2 s2=>
 hd s2 fun a3 s3=>
 nl s3<|
 ci f136 p [a0,a1,a2] fun v4 p5=>
 ken true .p v4 .nilp fun v6=>
 jn 1 (fun j7 => kif v6
 (knc mth v4 fun v8=>
 kfa 1 v8 fun v9=>
 kld p5 v9 fun v10=>
 kln v10 fun v11=>
 jn 1 (fun j12=>
 lp 2 fuel (fun r13 v14 v15 p16=>
 klt v15 v11 fun v17=>
 kif v17
 (kia 2 v10 v15 fun v18=>
 kla p16 2 v18 fun v19=>
 kal p16 q1 fun v20 p21=>
 kst p21 2 v20 v19 fun p22=>
 kfa 1 v20 fun v23=>
 kld p22 v23 fun v24=>
 keq false .s v24 q60 fun v25=>
 jn 6 (fun j26=>gdK v25 true (kfa 0 v20 fun v27=>
 kld p22 v27 fun v28=>
 ci f136 p22 [a0,v28,a3] fun v29 p30=>
 ken true .p v29 .nilp fun v31=>
 j26 a0 v27 v28 a3 v29 v31 p30) (j26 .undef .undef .undef .undef .undef .undef p22)) fun v32 v33 v34 v35 v36 v37 p38=>
 kpk v25 v37 q43 fun v39=>
 jn 1 (fun j40 => kif v39
 (kfa 0 v20 fun v41=>
 kld p38 v41 fun v42=>
 kbs p38 1 q93 [(0,1,v42)] fun v43 p44=>
 kap p44 1 16 v14 v43 fun v45 p46=>
 j40 v45 p46)
 (j40 v14 p38)) fun v47 p48=>
 kad v15 q44 fun v49=>
 r13 v47 v49 p48)
 (j12 v14 p16)) .nils q32 p5) fun v50 p51=>
 j7 v50 p51)
 (j7 .nils p5)) fun v52 p53=>
 ci f145 p53 [v52] fun v54 p55=>
 k [v54] p55
theorem o137:FO EN 137 f137:=fe 4 (tc (ci_ok o136) (tc (ci_ok o145) tnil)) [some [9],some [9],some [9,24],none,none,some [9]] (by kernel_rfl) fun p s k=>by kernel_rfl
def f219:FT:=fun p s k=>hd s fun a0 s0=>
 hd s0 fun a1 s1=>
 hd s1 fun a2 s2=>
 nl s2<|
 kln a2 fun v3=>
 jn 1 (fun j4=>
 lp 2 fuel (fun r5 v6 v7 p8=>
 klt v7 v3 fun v9=>
 kif v9
 (kia 5 a2 v7 fun v10=>
 kla p8 5 v10 fun v11=>
 kal p8 q89 fun v12 p13=>
 kst p13 5 v12 v11 fun p14=>
 kfa 0 v12 fun v15=>
 kld p14 v15 fun v16=>
 keq false .i v16 q5 fun v17=>
 jn 3 (fun j18=>gdK v17 false (kfa 0 v12 fun v19=>
 kld p14 v19 fun v20=>
 keq false .i v20 q7 fun v21=>
 j18 v19 v20 v21 p14) (j18 .undef .undef .undef p14)) fun v22 v23 v24 p25=>
 kpk v17 q53 v24 fun v26=>
 jn 6 (fun j27=>gdK v26 true (kfa 1 v12 fun v28=>
 kld p25 v28 fun v29=>
 ci f136 p25 [a0,a1,v29] fun v30 p31=>
 ken false .p v30 .nilp fun v32=>
 j27 a0 a1 v28 v29 v30 v32 p31) (j27 .undef .undef .undef .undef .undef .undef p25)) fun v33 v34 v35 v36 v37 v38 p39=>
 kpk v26 v38 q43 fun v40=>
 kif v40
 (k [v6,q55] p39)
 (kfa 0 v12 fun v41=>
 kld p39 v41 fun v42=>
 keq false .i v42 q7 fun v43=>
 jn 9 (fun j44=>gdK v43 true (kfa 1 v12 fun v45=>
 kld p39 v45 fun v46=>
 kfa 2 v12 fun v47=>
 kld p39 v47 fun v48=>
 cn f137 p39 [a0,a1,v46,v48] fun v49 p50=>
 kln v49 fun v51=>
 keq false .i v51 q32 fun v52=>
 j44 a0 a1 v45 v46 v47 v48 v49 v51 v52 p50) (j44 .undef .undef .undef .undef .undef .undef .undef .undef .undef p39)) fun v53 v54 v55 v56 v57 v58 v59 v60 v61 p62=>
 kpk v43 v61 q43 fun v63=>
 kif v63
 (k [v6,q94] p62)
 (jn 3 (fun j64=>gdK v6 false (kfa 0 v12 fun v65=>
 kld p62 v65 fun v66=>
 keq false .i v66 q4 fun v67=>
 j64 v65 v66 v67 p62) (j64 .undef .undef .undef p62)) fun v68 v69 v70 p71=>
 kpk v6 q53 v70 fun v72=>
 kad v7 q44 fun v73=>
 r5 v72 v73 p71)))
 (j4 v6 p8)) q43 q32 p) fun v74 p75=>
 k [v74,q32] p75
theorem o219:FO EN 219 f219:=fe 3 (tc (ci_ok o136) (tc (cn_ok o137) tnil)) [some [6],some [6,13],none,none,none,none,none] (by kernel_rfl) fun p s k=>by kernel_rfl
def f218:FT:=fun p s k=>hd s fun a0 s0=>
 hd s0 fun a1 s1=>
 hd s1 fun a2 s2=>
 hd s2 fun a3 s3=>
 nl s3<|
 kld p a0 fun v4=>
 kfa 0 a1 fun v5=>
 kld p v5 fun v6=>
 kld p a2 fun v7=>
 cn f219 p [v4,v6,v7] fun v8 p9=>
 kex v8 0 fun v10=>
 kex v8 1 fun v11=>
 kst p9 1 a3 v10 fun p12=>
 k [v11] p12
theorem o218:FO EN 218 f218:=fe 4 (tc (cn_ok o219) tnil) [] (by kernel_rfl) fun p s k=>by kernel_rfl
def f177:FT:=fun p s k=>hd s fun a0 s0=>
 hd s0 fun a1 s1=>
 nl s1<|
 kbx p 2 a1 fun v2 p3=>
 kln a0 fun v4=>
 jn 0 (fun j5=>
 lp 1 fuel (fun r6 v7 p8=>
 klt v7 v4 fun v9=>
 kif v9
 (kla (prt [] p8) 2 v2 fun v10=>
 kia 2 a0 v7 fun v11=>
 kla (prt [] p8) 2 v11 fun v12=>
 kea false [(0,.s),(1,.s)] v10 v12 fun v13=>
 kif v13
 (k [v7] p8)
 (kad v7 q44 fun v14=>
 r6 v14 p8))
 (j5 p8)) q32 p3) fun p15=>
 k [q63] p15
theorem o177:FO EN 177 f177:=fe 2 tnil [some [],some [8],none,none,none] (by kernel_rfl) fun p s k=>by kernel_rfl
def f138:FT:=fun p s k=>hd s fun a0 s0=>
 hd s0 fun a1 s1=>
 nl s1<|
 kbx p 2 a1 fun v2 p3=>
 kla p3 2 v2 fun v4=>
 cn f177 p3 [a0,v4] fun v5 p6=>
 kge v5 q32 fun v7=>
 k [v7] p6
theorem o138:FO EN 138 f138:=fe 2 (tc (cn_ok o177) tnil) [] (by kernel_rfl) fun p s k=>by kernel_rfl
def f217:FT:=fun p s k=>hd s fun a0 s0=>
 hd s0 fun a1 s1=>
 nl s1<|
 knc mth a1 fun v2=>
 kfa 1 v2 fun v3=>
 kld p v3 fun v4=>
 kln v4 fun v5=>
 jn 0 (fun j6=>
 lp 1 fuel (fun r7 v8 p9=>
 klt v8 v5 fun v10=>
 kif v10
 (kia 2 v4 v8 fun v11=>
 kla p9 2 v11 fun v12=>
 kal p9 q1 fun v13 p14=>
 kst p14 2 v13 v12 fun p15=>
 knc mth a0 fun v16=>
 kfa 1 v16 fun v17=>
 kld (prt [] p15) v17 fun v18=>
 kfa 0 v13 fun v19=>
 kld (prt [] p15) v19 fun v20=>
 ksw mth p15 (.lookup ⟨false,[(0,.s)]⟩ q32 false (.c v18) (.c v20)) fun v21 p22=>
 keq false .i v21 q32 fun v23=>
 jn 4 (fun j24=>gdK v23 false (kfa 1 v13 fun v25=>
 kld p15 v25 fun v26=>
 keq true .s v26 q60 fun v27=>
 j24 v25 v26 v27 v27 p15) (j24 .undef .undef .undef .undef p15)) fun v28 v29 v30 v31 _=>
 jn 7 (fun j33=>gdK v31 true (kfa 0 v13 fun v34=>
 kld (prt [] p15) v34 fun v35=>
 kfa 1 v13 fun v36=>
 kld (prt [] p15) v36 fun v37=>
 ci f136 p15 [a0,v35,v37] fun v38 p39=>
 ken false .p v38 .nilp fun v40=>
 j33 a0 v34 v35 v36 v37 v38 v40 p39) (j33 .undef .undef .undef .undef .undef .undef .undef p15)) fun v41 v42 v43 v44 v45 v46 v47 p48=>
 jn 1 (fun j49=>gdK v23 false (kpk v31 v47 q43 fun v50=>
 j49 v50 p48) (j49 .undef p48)) fun v51 _=>
 kpk v23 q53 v51 fun v53=>
 kif v53
 (k [q55] p48)
 (knc mth a1 fun v54=>
 kfa 1 v54 fun v55=>
 kld (prt [] p48) v55 fun v56=>
 ksl 2 v56 none (some v8) none fun v57=>
 kla (prt [] p48) 2 v13 fun v58=>
 cn f138 p48 [v57,v58] fun v59 p60=>
 kif v59
 (k [q95] p60)
 (kad v8 q44 fun v61=>
 r7 v61 p60)))
 (j6 p9)) q32 p) fun p62=>
 k [q32] p62
theorem o217:FO EN 217 f217:=fe 2 (tc (ci_ok o136) (tc (cn_ok o138) tnil)) [some [],some [12],none,none,none,none,none] (by kernel_rfl) fun p s k=>by kernel_rfl
def f216:FT:=fun p s k=>hd s fun a0 s0=>
 hd s0 fun a1 s1=>
 nl s1<|
 kld p a0 fun v2=>
 kld p a1 fun v3=>
 cn f217 p [v2,v3] fun v4 p5=>
 k [v4] p5
theorem o216:FO EN 216 f216:=fe 2 (tc (cn_ok o217) tnil) [] (by kernel_rfl) fun p s k=>by kernel_rfl
def f215:FT:=fun p s k=>hd s fun a0 s0=>
 hd s0 fun a1 s1=>
 hd s1 fun a2 s2=>
 hd s2 fun a3 s3=>
 nl s3<|
 kld (prt [] p) a0 fun v4=>
 knc mth v4 fun v5=>
 kfa 2 v5 fun v6=>
 kld (prt [] p) v6 fun v7=>
 kfa 0 a1 fun v8=>
 kld (prt [] p) v8 fun v9=>
 kld (prt [] p) a2 fun v10=>
 knc mth v10 fun v11=>
 kfa 0 v11 fun v12=>
 kld (prt [] p) v12 fun v13=>
 kbd q1 [(0,1,v9),(1,1,v13)] fun v14=>
 ksw mth (prt [] p) (.lookup ⟨true,[(0,.s),(1,.s)]⟩ q32 false (.c v7) (.c v14)) fun v15 p16=>
 kld (prt [] p) a3 fun v17=>
 keq true .i v15 v17 fun v18=>
 kif v18
 (k [q95] p)
 (k [q32] p)
theorem o215:FO EN 215 f215:=fe 4 tnil [none] (by kernel_rfl) fun p s k=>by kernel_rfl
def t214:List Ce:=[⟨220,cn f220⟩,⟨218,ci f218⟩,⟨216,cn f216⟩,⟨215,cn f215⟩]
def f214:FT:=fun p s k=>hd s fun a0 s0=>
 nl s0<|
 kln a0 fun v1=>
 jn 0 (fun j2=>
 lp 1 fuel (fun r3 v4 p5=>
 klt v4 v1 fun v6=>
 kif v6
 (kia 1 a0 v4 fun v7=>
 kld p5 v7 fun v8=>
 kcv t214 p5 v8 [] fun v9 p10=>
 keq true .i v9 q32 fun v11=>
 kif v11
 (k [v9] p10)
 (kad v4 q44 fun v12=>
 r3 v12 p10))
 (j2 p5)) q32 p) fun p13=>
 k [q32] p13
theorem o214:FO EN 214 f214:=fe 1 (T:=t214) (tc (cn_ok o220) (tc (ci_ok o218) (tc (cn_ok o216) (tc (cn_ok o215) tnil)))) [some [],some [8],none,none,none] (by kernel_rfl) fun p s k=>by kernel_rfl
def f176:FT:=fun p s k=>hd s fun a0 s0=>
 hd s0 fun a1 s1=>
 hd s1 fun a2 s2=>
 nl s2<|
 kbx p 1 a0 fun v3 p4=>
 kbx p4 2 a1 fun v5 p6=>
 kbx p6 1 a2 fun v7 p8=>
 kld (prt [] p8) v3 fun v9=>
 knc mth v9 fun v10=>
 kfa 3 v10 fun v11=>
 kld (prt [] p8) v11 fun v12=>
 kld (prt [] p8) v7 fun v13=>
 kia 1 v12 v13 fun v14=>
 kld (prt [] p8) v14 fun v15=>
 kal p8 q92 fun v16 p17=>
 kst p17 1 v16 v15 fun p18=>
 kld p18 v16 fun v19=>
 knc mth v19 fun v20=>
 kfa 2 v20 fun v21=>
 kla p18 4 v21 fun v22=>
 ci f133 p18 [v22] fun v23 p24=>
 kex v23 0 fun v25=>
 kex v23 1 fun v26=>
 kal p24 q0 fun v27 p28=>
 kst p28 1 v27 v25 fun p29=>
 kal p29 q96 fun v30 p31=>
 kst p31 1 v30 q43 fun p32=>
 kbs p32 4 q97 [(0,1,(.func (.func 215) [] [v3,v5,v16,v7])),(1,1,(.func (.func 216) [] [v3,v16])),(2,1,(.func (.func 218) [] [v3,v5,v27,v30])),(3,1,(.func (.func 220) [] [v30,v16,v5]))] fun v33 p34=>
 ci f214 p34 [v33] fun v35 p36=>
 k [v35] p36
theorem o176:FO EN 176 f176:=fe 3 (tc (ci_ok o133) (tc (ci_ok o214) tnil)) [] (by kernel_rfl) fun p s k=>by kernel_rfl
end
end Go.V
end
section
set_option maxRecDepth 100000
namespace Go.V
noncomputable section
def f134:FT:=fun p s k=>hd s fun a0 s0=>
 nl s0<|
 kbx p 1 a0 fun v1 p2=>
 kla p2 1 v1 fun v3=>
 cn f175 p2 [v3] fun v4 p5=>
 keq true .i v4 q32 fun v6=>
 kif v6
 (k [v4] p5)
 (kla p5 1 v1 fun v7=>
 ci f135 p5 [v7] fun v8 p9=>
 knc mth v8 fun v10=>
 kfa 1 v10 fun v11=>
 kld (prt [] p9) v11 fun v12=>
 ksw mth (prt [] p9) (.lenMap (.c v12)) fun v13 p14=>
 kfa 0 v1 fun v15=>
 kld (prt [] p9) v15 fun v16=>
 kln v16 fun v17=>
 klt v13 v17 fun v18=>
 kif v18
 (k [q95] p9)
 (kfa 0 v1 fun v19=>
 kld p9 v19 fun v20=>
 kln v20 fun v21=>
 jn 0 (fun j22=>
 lp 2 fuel (fun r23 v24 v25 p26=>
 klt v25 v21 fun v27=>
 kif v27
 (jn 1 (fun j28=>
 kia 2 v20 v25 fun v29=>
 kla p26 2 v29 fun v30=>
 kal p26 q21 fun v31 p32=>
 kst p32 2 v31 v30 fun p33=>
 kfa 1 v31 fun v34=>
 kld p33 v34 fun v35=>
 kln v35 fun v36=>
 jn 1 (fun j37=>
 lp 2 fuel (fun r38 v39 v40 p41=>
 klt v40 v36 fun v42=>
 kif v42
 (kla p41 2 v31 fun v43=>
 cn f176 p41 [v8,v43,v39] fun v44 p45=>
 keq true .i v44 q32 fun v46=>
 kif v46
 (k [v44] p45)
 (kad v39 q44 fun v47=>
 kad v40 q44 fun v48=>
 r38 v47 v48 p45))
 (j37 v39 p41)) v24 q32 p33) fun v49 p50=>
 j28 v49 p50) fun v51 p52=>
 kad v25 q44 fun v53=>
 r23 v51 v53 p52)
 (j22 p26)) q32 q32 p9) fun p54=>
 k [q32] p54))
theorem o134:FO EN 134 f134:=fe 1 (tc (cn_ok o175) (tc (ci_ok o135) (tc (cn_ok o176) tnil))) [none,none,some [],some [5,28],none,some [5],some [5],some [5,35],none,none,none] (by kernel_rfl) fun p s k=>by kernel_rfl
def f80:FT:=fun p s k=>hd s fun a0 s0=>
 hd s0 fun a1 s1=>
 hd s1 fun a2 s2=>
 hd s2 fun a3 s3=>
 nl s3<|
 kbx p 1 a0 fun v4 p5=>
 kla p5 1 v4 fun v6=>
 cn f134 p5 [v6] fun v7 p8=>
 keq true .i v7 q32 fun v9=>
 kif v9
 (k [.nils,v7] p8)
 (kla p8 1 v4 fun v10=>
 ci f135 p8 [v10] fun v11 p12=>
 ci f136 p12 [v11,a1,a2] fun v13 p14=>
 ken false .p v13 .nilp fun v15=>
 kif v15
 (k [.nils,q55] p14)
 (cn f137 p14 [v11,a1,a2,a3] fun v16 p17=>
 kln v16 fun v18=>
 keq false .i v18 q32 fun v19=>
 kif v19
 (k [.nils,q94] p17)
 (k [v16,q32] p17)))
theorem o80:FO EN 80 f80:=fe 4 (tc (cn_ok o134) (tc (ci_ok o135) (tc (ci_ok o136) (tc (cn_ok o137) tnil)))) [none,none,none] (by kernel_rfl) fun p s k=>by kernel_rfl
def f242:FT:=fun p s k=>hd s fun a0 s0=>
 nl s0<|
 keq true .i a0 a0 fun v1=>
 k [v1] p
theorem o242:FO EN 242 f242:=fe 1 tnil [] (by kernel_rfl) fun p s k=>by kernel_rfl
def f228:FT:=fun p s k=>hd s fun a0 s0=>
 hd s0 fun a1 s1=>
 nl s1<|
 cc f242 p [a0] fun v2 p3=>
 cc f242 p3 [a1] fun v4 p5=>
 kif v2
 (kif v4
 (k [q32] p5)
 (k [q63] p5))
 (kif v4
 (k [q44] p5)
 (klt a0 a1 fun v6=>
 kif v6
 (k [q63] p5)
 (kgt a0 a1 fun v7=>
 kif v7
 (k [q44] p5)
 (k [q32] p5))))
theorem o228:FO EN 228 f228:=fe 2 (tc (cc_ok o242) tnil) [none,none,none,none,none] (by kernel_rfl) fun p s k=>by kernel_rfl
def f229:FT:=fun p s k=>hd s fun a0 s0=>
 nl s0<|
 kbx p 3 a0 fun v1 p2=>
 kfa 2 v1 fun v3=>
 kld p2 v3 fun v4=>
 kif v4
 (k [q44] p2)
 (k [q32] p2)
theorem o229:FO EN 229 f229:=fe 1 tnil [none] (by kernel_rfl) fun p s k=>by kernel_rfl
def f202:FT:=fun p s k=>hd s fun a0 s0=>
 hd s0 fun a1 s1=>
 nl s1<|
 kbx p 3 a0 fun v2 p3=>
 kbx p3 3 a1 fun v4 p5=>
 kfa 0 v2 fun v6=>
 kld (prt [] p5) v6 fun v7=>
 kfa 0 v4 fun v8=>
 kld (prt [] p5) v8 fun v9=>
 cc f228 (prt [] p5) [v7,v9] fun v10 p11=>
 unpK p5 p11 fun p12=>
 kfa 1 v2 fun v13=>
 kld (prt [(p5.next,p11.next)] p12) v13 fun v14=>
 kfa 1 v4 fun v15=>
 kld (prt [(p5.next,p11.next)] p12) v15 fun v16=>
 cc f228 (prt [] p12) [v14,v16] fun v17 p18=>
 unpK p12 p18 fun p19=>
 kla (prt [(p5.next,p11.next),(p12.next,p18.next)] p19) 3 v2 fun v20=>
 cn f229 (prt [] p19) [v20] fun v21 p22=>
 unpK p19 p22 fun p23=>
 kla (prt [(p5.next,p11.next),(p12.next,p18.next),(p19.next,p22.next)] p23) 3 v4 fun v24=>
 cn f229 p23 [v24] fun v25 p26=>
 cc f228 p26 [v21,v25] fun v27 p28=>
 kbs p28 3 q98 [(0,1,v10),(1,1,v17),(2,1,v27)] fun v29 p30=>
 cc f65 p30 [v29] fun v31 p32=>
 k [v31] p32
theorem o202:FO EN 202 f202:=fe 2 (tc (cc_ok o228) (tc (cn_ok o229) (tc (cc_ok o65) tnil))) [] (by kernel_rfl) fun p s k=>by kernel_rfl
def t243:List Ce:=[⟨202,cn f202⟩]
def f243:FT:=fun p s k=>hd s fun a0 s0=>
 hd s0 fun a1 s1=>
 hd s1 fun a2 s2=>
 hd s2 fun a3 s3=>
 nl s3<|
 kad a1 q44 fun v4=>
 jn 0 (fun j5=>
 lp 1 fuel (fun r6 v7 p8=>
 klt v7 a2 fun v9=>
 kif v9
 (jn 0 (fun j10=>
 jn 0 (fun j11=>
 lp 1 fuel (fun r12 v13 p14=>
 kgt v13 a1 fun v15=>
 jn 12 (fun j16=>gdK v15 true (kia 3 a0 v13 fun v17=>
 kla (prt [] p14) 3 v17 fun v18=>
 ksb v13 q44 fun v19=>
 kia 3 a0 v19 fun v20=>
 kla (prt [] p14) 3 v20 fun v21=>
 kcv t243 p14 a3 [v18,v21] fun v22 p23=>
 klt v22 q32 fun v24=>
 j16 a3 a0 v13 v17 v18 a0 v13 v19 v20 v21 v22 v24 p23) (j16 .undef .undef .undef .undef .undef .undef .undef .undef .undef .undef .undef .undef p14)) fun v25 v26 v27 v28 v29 v30 v31 v32 v33 v34 v35 v36 p37=>
 kpk v15 v36 q43 fun v38=>
 kif v38
 (ksb v13 q44 fun v39=>
 ksb v13 q44 fun v40=>
 kia 3 a0 v40 fun v41=>
 kla (prt [] p37) 3 v41 fun v42=>
 kia 3 a0 v13 fun v43=>
 kla (prt [] p37) 3 v43 fun v44=>
 kia 3 a0 v13 fun v45=>
 kst p37 3 v45 v42 fun p46=>
 kia 3 a0 v39 fun v47=>
 kst p46 3 v47 v44 fun p48=>
 ksb v13 q44 fun v49=>
 r12 v49 p48)
 (j11 p37)) v7 p8) fun p50=>
 j10 p50) fun p51=>
 kad v7 q44 fun v52=>
 r6 v52 p51)
 (j5 p8)) v4 p) fun p53=>
 k [] p53
theorem o243:FO EN 243 f243:=fe 4 (T:=t243) (tc (cn_ok o202) tnil) [some [],some [8],none,some [],some [],some [9],none,none] (by kernel_rfl) fun p s k=>by kernel_rfl
def f230:FT:=fun p s k=>hd s fun a0 s0=>
 hd s0 fun a1 s1=>
 hd s1 fun a2 s2=>
 hd s2 fun a3 s3=>
 hd s3 fun a4 s4=>
 nl s4<|
 jn 0 (fun j5=>
 lp 5 fuel (fun r6 v7 v8 v9 v10 v11 p12=>
 jn 5 (fun j13=>
 ksb v8 v7 fun v14=>
 kle v14 q51 fun v15=>
 kif v15
 (ci f243 p12 [a0,v7,v8,a4] fun v16 p17=>
 k [] p17)
 (keq false .i v9 q32 fun v18=>
 kif v18
 (.no)
 (knt v10 fun v19=>
 jn 1 (fun j20 => kif v19
 (.no)
 (j20 v9 p12)) fun v21 p22=>
 .no))) fun v23 v24 v25 v26 v27 p28=>
 r6 v23 v24 v25 v26 v27 p28) a1 a2 a3 q53 q53 p) fun p29=>
 k [] p29
theorem o230:FO EN 230 f230:=fe 5 (tc (ci_ok o243) tnil) [some [],some [1,2,3,10,11],some [1,2,3,10,11],none,none,some [3],some [13,14],some [],none,none,some [1,2,10]] (by kernel_rfl) fun p s k=>by kernel_rfl
def f203:FT:=fun p s k=>hd s fun a0 s0=>
 hd s0 fun a1 s1=>
 nl s1<|
 kln a0 fun v2=>
 kci .u64 v2 fun v3=>
 cc f64 p [v3] fun v4 p5=>
 ci f230 p5 [a0,q32,v2,v4,a1] fun v6 p7=>
 k [] p7
theorem o203:FO EN 203 f203:=fe 2 (tc (cc_ok o64) (tc (ci_ok o230) tnil)) [] (by kernel_rfl) fun p s k=>by kernel_rfl
def f205:FT:=fun p s k=>hd s fun a0 s0=>
 nl s0<|
 kln a0 fun v1=>
 klt v1 q48 fun v2=>
 kif v2
 (k [a0] p)
 (jn 0 (fun j3=>
 lp 1 fuel (fun r4 v5 p6=>
 kln a0 fun v7=>
 klt v5 v7 fun v8=>
 kif v8
 (jn 1 (fun j9=>
 kia 3 a0 v5 fun v10=>
 kla (prt [] p6) 3 v10 fun v11=>
 ksb v5 q44 fun v12=>
 kia 3 a0 v12 fun v13=>
 kla (prt [] p6) 3 v13 fun v14=>
 kea false [(0,.i),(1,.i),(2,.b)] v11 v14 fun v15=>
 kif v15
 (ksl 3 a0 (some v5) none none fun v16=>
 jn 1 (fun j17=>
 lp 2 fuel (fun r18 v19 v20 p21=>
 kln v16 fun v22=>
 klt v20 v22 fun v23=>
 kif v23
 (kia 3 v16 v20 fun v24=>
 kla (prt [] p21) 3 v24 fun v25=>
 ksb v20 q44 fun v26=>
 kia 3 v16 v26 fun v27=>
 kla (prt [] p21) 3 v27 fun v28=>
 kea true [(0,.i),(1,.i),(2,.b)] v25 v28 fun v29=>
 jn 1 (fun j30 => kif v29
 (kia 3 v16 v20 fun v31=>
 kla p21 3 v31 fun v32=>
 kia 3 a0 v19 fun v33=>
 kst p21 3 v33 v32 fun p34=>
 kad v19 q44 fun v35=>
 j30 v35 p34)
 (j30 v19 p21)) fun v36 p37=>
 kad v20 q44 fun v38=>
 r18 v36 v38 p37)
 (j17 v19 p21)) v5 q44 p6) fun v39 p40=>
 ksl 3 a0 (some v39) none none fun v41=>
 ksw mth p40 (.clear q99 (.c v41)) fun v42 p43=>
 ksl 3 a0 none (some v39) none fun v44=>
 k [v44] p43)
 (j9 v5 p6)) fun v45 p46=>
 kad v45 q44 fun v47=>
 r4 v47 p46)
 (j3 p6)) q44 p) fun p48=>
 k [a0] p48)
theorem o205:FO EN 205 f205:=fe 1 tnil [none,some [],some [3],none,some [3],none,some [3],some [3,5],none,none,some [3]] (by kernel_rfl) fun p s k=>by kernel_rfl
def f204:FT:=fun p s k=>hd s fun a0 s0=>
 nl s0<|
 kln a0 fun v1=>
 kln a0 fun v2=>
 ksl 3 a0 none (some v1) (some v2) fun v3=>
 k [v3] p
theorem o204:FO EN 204 f204:=fe 1 tnil [] (by kernel_rfl) fun p s k=>by kernel_rfl
def f171:FT:=fun p s k=>hd s fun a0 s0=>
 nl s0<|
 ci f203 p [a0,q100] fun v1 p2=>
 ci f205 p2 [a0] fun v3 p4=>
 ci f204 p4 [v3] fun v5 p6=>
 k [v5] p6
theorem o171:FO EN 171 f171:=fe 1 (tc (ci_ok o203) (tc (ci_ok o205) (tc (ci_ok o204) tnil))) [] (by kernel_rfl) fun p s k=>by kernel_rfl
def f170:FT:=fun p s k=>hd s fun a0 s0=>
 hd s0 fun a1 s1=>
 hd s1 fun a2 s2=>
 hd s2 fun a3 s3=>
 hd s3 fun a4 s4=>
 hd s4 fun a5 s5=>
 hd s5 fun a6 s6=>
 nl s6<|
 kfa 1 a2 fun v7=>
 kld (prt [] p) v7 fun v8=>
 kld (prt [] p) a3 fun v9=>
 kfa 0 a4 fun v10=>
 kld (prt [] p) v10 fun v11=>
 kfa 0 a5 fun v12=>
 kld (prt [] p) v12 fun v13=>
 kbd q1 [(0,1,v11),(1,1,v13)] fun v14=>
 ksw mth (prt [] p) (.lookup ⟨true,[(0,.s),(1,.s)]⟩ q32 false (.c v9) (.c v14)) fun v15 p16=>
 kld (prt [] p) a3 fun v17=>
 kbd q1 [(0,1,a0),(1,1,a1)] fun v18=>
 ksw mth (prt [] p) (.lookup ⟨true,[(0,.s),(1,.s)]⟩ q32 false (.c v17) (.c v18)) fun v19 p20=>
 kfa 4 a6 fun v21=>
 kld (prt [] p) v21 fun v22=>
 kbd q99 [(0,1,v15),(1,1,v19),(2,1,v22)] fun v23=>
 kbs p 1 q99 [(0,3,v23)] fun v24 p25=>
 kap p25 3 24 v8 v24 fun v26 p27=>
 kfa 1 a2 fun v28=>
 kst p27 1 v28 v26 fun p29=>
 k [] p29
theorem o170:FO EN 170 f170:=fe 7 tnil [] (by kernel_rfl) fun p s k=>by kernel_rfl
def t127:List Ce:=[⟨134,cn f134⟩,⟨133,ci f133⟩,⟨80,ci f80⟩,⟨171,ci f171⟩,⟨170,ci f170⟩]
def f127:FT:=fun p s k=>hd s fun a0 s0=>
 nl s0<|
 kbx p 1 a0 fun v1 p2=>
 kal p2 q101 fun v3 p4=>
 kla p4 1 v1 fun v5=>
 cn f134 p4 [v5] fun v6 p7=>
 keq true .i v6 q32 fun v8=>
 kif v8
 (kbd q101 [] fun v9=>
 kst p7 2 v3 v9 fun p10=>
 kra p10 2 v3 fun v11=>
 k [v11,v6] p10)
 (ksw mth p7 (.mkmap) fun v12 p13=>
 kal p13 q102 fun v14 p15=>
 kst p15 1 v14 v12 fun p16=>
 kfa 0 v1 fun v17=>
 kld p16 v17 fun v18=>
 kln v18 fun v19=>
 jn 0 (fun j20=>
 lp 1 fuel (fun r21 v22 p23=>
 klt v22 v19 fun v24=>
 kif v24
 (jn 0 (fun j25=>
 kia 2 v18 v22 fun v26=>
 kla p23 2 v26 fun v27=>
 kal p23 q21 fun v28 p29=>
 kst p29 2 v28 v27 fun p30=>
 kfa 1 v28 fun v31=>
 kld p30 v31 fun v32=>
 kln v32 fun v33=>
 jn 0 (fun j34=>
 lp 1 fuel (fun r35 v36 p37=>
 klt v36 v33 fun v38=>
 kif v38
 (kia 6 v32 v36 fun v39=>
 kla p37 6 v39 fun v40=>
 kal p37 q16 fun v41 p42=>
 kst p42 6 v41 v40 fun p43=>
 kld p43 v14 fun v44=>
 kfa 0 v28 fun v45=>
 kld p43 v45 fun v46=>
 kfa 0 v41 fun v47=>
 kld p43 v47 fun v48=>
 kbd q1 [(0,1,v46),(1,1,v48)] fun v49=>
 kld p43 v14 fun v50=>
 ksw mth p43 (.lenMap (.c v50)) fun v51 p52=>
 ksw mth p52 (.mapUpdate ⟨true,[(0,.s),(1,.s)]⟩ (.c v44) (.c v49) (.c v51)) fun v53 p54=>
 kad v36 q44 fun v55=>
 r35 v55 p54)
 (j34 p37)) q32 p30) fun p56=>
 j25 p56) fun p57=>
 kad v22 q44 fun v58=>
 r21 v58 p57)
 (j20 p23)) q32 p16) fun p59=>
 kld p59 v14 fun v60=>
 ksw mth p59 (.lenMap (.c v60)) fun v61 p62=>
 kbd q101 [(0,1,v61)] fun v63=>
 kal p62 q101 fun v64 p65=>
 kst p65 2 v64 v63 fun p66=>
 kfa 0 v1 fun v67=>
 kld p66 v67 fun v68=>
 kln v68 fun v69=>
 jn 0 (fun j70=>
 lp 1 fuel (fun r71 v72 p73=>
 klt v72 v69 fun v74=>
 kif v74
 (jn 0 (fun j75=>
 kia 2 v68 v72 fun v76=>
 kla p73 2 v76 fun v77=>
 kal p73 q21 fun v78 p79=>
 kst p79 2 v78 v77 fun p80=>
 kfa 1 v78 fun v81=>
 kld p80 v81 fun v82=>
 kln v82 fun v83=>
 jn 0 (fun j84=>
 lp 1 fuel (fun r85 v86 p87=>
 klt v86 v83 fun v88=>
 kif v88
 (jn 0 (fun j89=>
 kia 6 v82 v86 fun v90=>
 kla p87 6 v90 fun v91=>
 kal p87 q16 fun v92 p93=>
 kst p93 6 v92 v91 fun p94=>
 kfa 2 v92 fun v95=>
 kla p94 4 v95 fun v96=>
 ci f133 p94 [v96] fun v97 p98=>
 kex v97 0 fun v99=>
 kex v97 1 fun v100=>
 kln v99 fun v101=>
 jn 0 (fun j102=>
 lp 1 fuel (fun r103 v104 p105=>
 klt v104 v101 fun v106=>
 kif v106
 (jn 0 (fun j107=>
 kia 5 v99 v104 fun v108=>
 kla p105 5 v108 fun v109=>
 kal p105 q89 fun v110 p111=>
 kst p111 5 v110 v109 fun p112=>
 kfa 0 v110 fun v113=>
 kld p112 v113 fun v114=>
 jn 0 (fun j115=>
 keq false .i v114 q4 fun v116=>
 jn 0 (fun j117 => kif v116
 (kfa 1 v92 fun v118=>
 kld p112 v118 fun v119=>
 kln v119 fun v120=>
 jn 0 (fun j121=>
 lp 1 fuel (fun r122 v123 p124=>
 klt v123 v120 fun v125=>
 kif v125
 (kia 2 v119 v123 fun v126=>
 kla p124 2 v126 fun v127=>
 kal p124 q1 fun v128 p129=>
 kst p129 2 v128 v127 fun p130=>
 kfa 1 v128 fun v131=>
 kld p130 v131 fun v132=>
 keq true .s v132 q60 fun v133=>
 jn 0 (fun j134 => kif v133
 (kfa 0 v128 fun v135=>
 kld p130 v135 fun v136=>
 kfa 1 v128 fun v137=>
 kld p130 v137 fun v138=>
 kcv t127 p130 (.func (.func 170) [] [v64,v14,v78,v92,v110]) [v136,v138] fun v139 p140=>
 j134 p140)
 (j134 p130)) fun p141=>
 kad v123 q44 fun v142=>
 r122 v142 p141)
 (j121 p124)) q32 p112) fun p143=>
 j117 p143)
 (keq false .i v114 q5 fun v144=>
 jn 0 (fun j145 => kif v144
 (kfa 0 v78 fun v146=>
 kld p112 v146 fun v147=>
 kfa 1 v110 fun v148=>
 kld p112 v148 fun v149=>
 kcv t127 p112 (.func (.func 170) [] [v64,v14,v78,v92,v110]) [v147,v149] fun v150 p151=>
 j145 p151)
 (keq false .i v114 q7 fun v152=>
 jn 0 (fun j153 => kif v152
 (kla p112 1 v1 fun v154=>
 kfa 0 v78 fun v155=>
 kld p112 v155 fun v156=>
 kfa 1 v110 fun v157=>
 kld p112 v157 fun v158=>
 kfa 2 v110 fun v159=>
 kld p112 v159 fun v160=>
 ci f80 p112 [v154,v156,v158,v160] fun v161 p162=>
 kex v161 0 fun v163=>
 kex v161 1 fun v164=>
 kln v163 fun v165=>
 jn 0 (fun j166=>
 lp 1 fuel (fun r167 v168 p169=>
 klt v168 v165 fun v170=>
 kif v170
 (kia 1 v163 v168 fun v171=>
 kld p169 v171 fun v172=>
 kfa 2 v110 fun v173=>
 kld p169 v173 fun v174=>
 kcv t127 p169 (.func (.func 170) [] [v64,v14,v78,v92,v110]) [v172,v174] fun v175 p176=>
 kad v168 q44 fun v177=>
 r167 v177 p176)
 (j166 p169)) q32 p162) fun p178=>
 j153 p178)
 (j153 p112)) fun p179=>
 j145 p179)) fun p180=>
 j117 p180)) fun p181=>
 j115 p181) fun p182=>
 j107 p182) fun p183=>
 kad v104 q44 fun v184=>
 r103 v184 p183)
 (j102 p105)) q32 p98) fun p185=>
 j89 p185) fun p186=>
 kad v86 q44 fun v187=>
 r85 v187 p186)
 (j84 p87)) q32 p80) fun p188=>
 j75 p188) fun p189=>
 kad v72 q44 fun v190=>
 r71 v190 p189)
 (j70 p73)) q32 p66) fun p191=>
 kfa 1 v64 fun v192=>
 kld p191 v192 fun v193=>
 ci f171 p191 [v193] fun v194 p195=>
 kfa 1 v64 fun v196=>
 kst p195 1 v196 v194 fun p197=>
 kla p197 2 v64 fun v198=>
 kst p197 2 v3 v198 fun p199=>
 kra p199 2 v3 fun v200=>
 k [v200,q32] p199)
theorem o127:FO EN 127 f127:=fe 1 (T:=t127) (tc (cn_ok o134) (tc (ci_ok o133) (tc (ci_ok o80) (tc (ci_ok o171) (tc (ci_ok o170) tnil))))) [none,some [],some [36],none,some [],some [],some [43],none,none,some [],some [63],none,some [],some [],some [70],none,some [],some [],some [82],none,some [],some [],some [],some [],some [94],none,none,some [],some [],some [],some [],some [131],none,none] (by kernel_rfl) fun p s k=>by kernel_rfl
def f206:FT:=fun p s k=>hd s fun a0 s0=>
 nl s0<|
 kbx p 2 a0 fun v1 p2=>
 kfa 0 v1 fun v3=>
 kld p2 v3 fun v4=>
 klt v4 q32 fun v5=>
 jn 3 (fun j6=>gdK v5 false (kfa 0 v1 fun v7=>
 kld p2 v7 fun v8=>
 kgt v8 q103 fun v9=>
 j6 v7 v8 v9 p2) (j6 .undef .undef .undef p2)) fun v10 v11 v12 p13=>
 kpk v5 q53 v12 fun v14=>
 kif v14
 (k [q49] p13)
 (kfa 1 v1 fun v15=>
 kld p13 v15 fun v16=>
 kln v16 fun v17=>
 jn 0 (fun j18=>
 lp 1 fuel (fun r19 v20 p21=>
 klt v20 v17 fun v22=>
 kif v22
 (kia 3 v16 v20 fun v23=>
 kla p21 3 v23 fun v24=>
 kal p21 q99 fun v25 p26=>
 kst p26 3 v25 v24 fun p27=>
 kfa 0 v25 fun v28=>
 kld p27 v28 fun v29=>
 kfa 1 v25 fun v30=>
 kld p27 v30 fun v31=>
 ksw mth p27 (.minmax false [(.c v29),(.c v31)]) fun v32 p33=>
 klt v32 q32 fun v34=>
 jn 8 (fun j35=>gdK v34 false (kfa 0 v25 fun v36=>
 kld p33 v36 fun v37=>
 kfa 1 v25 fun v38=>
 kld p33 v38 fun v39=>
 ksw mth p33 (.minmax true [(.c v37),(.c v39)]) fun v40 p41=>
 kfa 0 v1 fun v42=>
 kld p41 v42 fun v43=>
 kge v40 v43 fun v44=>
 j35 v36 v37 v38 v39 v40 v42 v43 v44 p41) (j35 .undef .undef .undef .undef .undef .undef .undef .undef p33)) fun v45 v46 v47 v48 v49 v50 v51 v52 p53=>
 kpk v34 q53 v52 fun v54=>
 kif v54
 (k [q47] p53)
 (kgt v20 q32 fun v55=>
 jn 9 (fun j56=>gdK v55 true (kfa 1 v1 fun v57=>
 kld (prt [] p53) v57 fun v58=>
 ksb v20 q44 fun v59=>
 kia 3 v58 v59 fun v60=>
 kla (prt [] p53) 3 v60 fun v61=>
 kla (prt [] p53) 3 v25 fun v62=>
 cn f202 p53 [v61,v62] fun v63 p64=>
 kge v63 q32 fun v65=>
 j56 v57 v58 v20 v59 v60 v61 v62 v63 v65 p64) (j56 .undef .undef .undef .undef .undef .undef .undef .undef .undef p53)) fun v66 v67 v68 v69 v70 v71 v72 v73 v74 p75=>
 kpk v55 v74 q43 fun v76=>
 kif v76
 (k [q104] p75)
 (kad v20 q44 fun v77=>
 r19 v77 p75)))
 (j18 p21)) q32 p13) fun p78=>
 k [q32] p78)
theorem o206:FO EN 206 f206:=fe 1 (tc (cn_ok o202) tnil) [none,some [],some [16],none,none,none,none,none] (by kernel_rfl) fun p s k=>by kernel_rfl
def f252:FT:=fun p s k=>hd s fun a0 s0=>
 hd s0 fun a1 s1=>
 nl s1<|
 knc mth a0 fun v2=>
 kfa 1025 v2 fun v3=>
 kld p v3 fun v4=>
 kad v4 q44 fun v5=>
 knc mth a0 fun v6=>
 kfa 1025 v6 fun v7=>
 kst p 1 v7 v5 fun p8=>
 knc mth a0 fun v9=>
 kfa 1025 v9 fun v10=>
 kld (prt [] p8) v10 fun v11=>
 knc mth a0 fun v12=>
 kfa 1025 v12 fun v13=>
 kld (prt [] p8) v13 fun v14=>
 knc mth a0 fun v15=>
 kfa 256 v15 fun v16=>
 kib 256 1 v16 a1 fun v17=>
 kst p8 1 v17 v11 fun p18=>
 knc mth a0 fun v19=>
 kfa 512 v19 fun v20=>
 kib 256 1 v20 a1 fun v21=>
 kst p18 1 v21 v14 fun p22=>
 knc mth a0 fun v23=>
 kfa 768 v23 fun v24=>
 kib 256 1 v24 a1 fun v25=>
 kst p22 1 v25 q53 fun p26=>
 knc mth a0 fun v27=>
 kfa 1024 v27 fun v28=>
 kld p26 v28 fun v29=>
 kbs p26 1 q46 [(0,1,a1)] fun v30 p31=>
 kap p31 1 8 v29 v30 fun v32 p33=>
 knc mth a0 fun v34=>
 kfa 1024 v34 fun v35=>
 kst p33 1 v35 v32 fun p36=>
 k [] p36
theorem o252:FO EN 252 f252:=fe 2 tnil [] (by kernel_rfl) fun p s k=>by kernel_rfl
def f277:FT:=fun p s k=>hd s fun a0 s0=>
 hd s0 fun a1 s1=>
 nl s1<|
 kln a0 fun v2=>
 jn 0 (fun j3=>
 lp 1 fuel (fun r4 v5 p6=>
 klt v5 v2 fun v7=>
 kif v7
 (kia 1 a0 v5 fun v8=>
 kld p6 v8 fun v9=>
 keq false .i a1 v9 fun v10=>
 kif v10
 (k [v5] p6)
 (kad v5 q44 fun v11=>
 r4 v11 p6))
 (j3 p6)) q32 p) fun p12=>
 k [q63] p12
theorem o277:FO EN 277 f277:=fe 2 tnil [some [],some [8],none,none,none] (by kernel_rfl) fun p s k=>by kernel_rfl
def f279:FT:=fun p s k=>hd s fun a0 s0=>
 nl s0<|
 kbx p 1 a0 fun v1 p2=>
 k [(.func (.func 292) [] [v1])] p2
theorem o279:FO EN 279 f279:=fe 1 tnil [] (by kernel_rfl) fun p s k=>by kernel_rfl
def tr296002:List Ce:=[]
def fr296002:FT:=fun p s k=>hd s fun pj s=>ptrK pj (fun j _=>hd s fun tv fr=>tupK tv fun vals=>ifB (Nat.beq (lenF fr) 13) (ifB (Nat.ble p.floor j) (isR0 p j (
 hdK (drK 2 fr) fun x0=>
 hd vals fun a1 s0=>
 nl s0<|
 isR0 p j (putK p j (some (.rnd (nat_lit 1))) fun p2=>
 kld p2 x0 fun v3=>
 kbs p2 1 q46 [(0,1,a1)] fun v4 p5=>
 kap p5 1 8 v3 v4 fun v6 p7=>
 kst p7 1 x0 v6 fun p8=>
 rndK p8 j fun _=>putK p8 j (some (.rnd (nat_lit 0))) fun p9=>k [.bool true] p9))))) n2
theorem or296002:FO EN 1296002 fr296002:=re (r:=296002) (N:=13) (L:=[2]) (T:=tr296002) tnil [] [none] (by kernel_rfl) fun p s k=>by kernel_rfl
def t292:List Ce:=[⟨1296002,ci fr296002⟩]
def f292:FT:=fun p s k=>hd s fun a0 s0=>
 hd s0 fun a1 s1=>
 nl s1<|
 kld p a1 fun v2=>
 kln v2 fun v3=>
 jn 0 (fun j4=>
 lp 1 fuel (fun r5 v6 p7=>
 klt v6 v3 fun v8=>
 kif v8
 (kia 1 v2 v6 fun v9=>
 kld p7 v9 fun v10=>
 kcv t292 p7 a0 [v10] fun v11 p12=>
 knt v11 fun v13=>
 kif v13
 (k [] p12)
 (kad v6 q44 fun v14=>
 r5 v14 p12))
 (j4 p7)) q32 p) fun p15=>
 k [] p15
theorem o292:FO EN 292 f292:=fe 2 (T:=t292) (tc (ci_ok or296002) tnil) [some [],some [7],none,none,none] (by kernel_rfl) fun p s k=>by kernel_rfl
def t296:List Ce:=[⟨292,ci f292⟩]
def f296:FT:=fun p s k=>hd s fun a0 s0=>
 hd s0 fun a1 s1=>
 nl s1<|
 kbx p 1 a0 fun v2 p3=>
 krg t296 p3 296002 a1 (V.mk 13 [(2,v2)]) (fun p4=>
 kld p4 v2 fun v6=>
 k [v6] p4) (fun p5=>
 k [.nils] p5) []
theorem o296:FO EN 296 f296:=fe 2 (T:=t296) (tc (ci_ok o292) tnil) [none,some [2],some []] (by kernel_rfl) fun p s k=>by kernel_rfl
def f291:FT:=fun p s k=>hd s fun a0 s0=>
 nl s0<|
 cn f296 p [.nils,a0] fun v1 p2=>
 k [v1] p2
theorem o291:FO EN 291 f291:=fe 1 (tc (cn_ok o296) tnil) [] (by kernel_rfl) fun p s k=>by kernel_rfl
def f254:FT:=fun p s k=>hd s fun a0 s0=>
 hd s0 fun a1 s1=>
 hd s1 fun a2 s2=>
 nl s2<|
 kad a1 q44 fun v3=>
 jn 0 (fun j4=>
 lp 1 fuel (fun r5 v6 p7=>
 klt v6 a2 fun v8=>
 kif v8
 (jn 0 (fun j9=>
 jn 0 (fun j10=>
 lp 1 fuel (fun r11 v12 p13=>
 kgt v12 a1 fun v14=>
 jn 10 (fun j15=>gdK v14 true (kia 1 a0 v12 fun v16=>
 kld (prt [] p13) v16 fun v17=>
 ksb v12 q44 fun v18=>
 kia 1 a0 v18 fun v19=>
 kld (prt [] p13) v19 fun v20=>
 .no) (j15 .undef .undef .undef .undef .undef .undef .undef .undef .undef .undef p13)) fun v21 v22 v23 v24 v25 v26 v27 v28 v29 v30 p31=>
 kpk v14 v30 q43 fun v32=>
 kif v32
 (ksb v12 q44 fun v33=>
 ksb v12 q44 fun v34=>
 kia 1 a0 v34 fun v35=>
 kld (prt [] p31) v35 fun v36=>
 kia 1 a0 v12 fun v37=>
 kld (prt [] p31) v37 fun v38=>
 kia 1 a0 v12 fun v39=>
 kst p31 1 v39 v36 fun p40=>
 kia 1 a0 v33 fun v41=>
 kst p40 1 v41 v38 fun p42=>
 ksb v12 q44 fun v43=>
 r11 v43 p42)
 (j10 p31)) v6 p7) fun p44=>
 j9 p44) fun p45=>
 kad v6 q44 fun v46=>
 r5 v46 p45)
 (j4 p7)) v3 p) fun p47=>
 k [] p47
theorem o254:FO EN 254 f254:=fe 3 tnil [some [],some [6],none,some [],some [],some [7],none,none] (by kernel_rfl) fun p s k=>by kernel_rfl
def f235:FT:=fun p s k=>hd s fun a0 s0=>
 hd s0 fun a1 s1=>
 hd s1 fun a2 s2=>
 hd s2 fun a3 s3=>
 nl s3<|
 jn 0 (fun j4=>
 lp 5 fuel (fun r5 v6 v7 v8 v9 v10 p11=>
 jn 5 (fun j12=>
 ksb v7 v6 fun v13=>
 kle v13 q51 fun v14=>
 kif v14
 (cn f254 p11 [a0,v6,v7] fun v15 p16=>
 k [] p16)
 (keq false .i v8 q32 fun v17=>
 kif v17
 (.no)
 (knt v9 fun v18=>
 jn 1 (fun j19 => kif v18
 (.no)
 (j19 v8 p11)) fun v20 p21=>
 .no))) fun v22 v23 v24 v25 v26 p27=>
 r5 v22 v23 v24 v25 v26 p27) a1 a2 a3 q53 q53 p) fun p28=>
 k [] p28
theorem o235:FO EN 235 f235:=fe 4 (tc (cn_ok o254) tnil) [some [],some [1,2,3,8,9],some [1,2,3,8,9],none,none,some [3],some [11,12],some [],none,none,some [1,2,8]] (by kernel_rfl) fun p s k=>by kernel_rfl
def f210:FT:=fun p s k=>hd s fun a0 s0=>
 nl s0<|
 kln a0 fun v1=>
 kci .u64 v1 fun v2=>
 cc f64 p [v2] fun v3 p4=>
 cn f235 p4 [a0,q32,v1,v3] fun v5 p6=>
 k [] p6
theorem o210:FO EN 210 f210:=fe 1 (tc (cc_ok o64) (tc (cn_ok o235) tnil)) [] (by kernel_rfl) fun p s k=>by kernel_rfl
def f278:FT:=fun p s k=>hd s fun a0 s0=>
 nl s0<|
 cn f291 p [a0] fun v1 p2=>
 cn f210 p2 [v1] fun v3 p4=>
 k [v1] p4
theorem o278:FO EN 278 f278:=fe 1 (tc (cn_ok o291) (tc (cn_ok o210) tnil)) [] (by kernel_rfl) fun p s k=>by kernel_rfl
def f253:FT:=fun p s k=>hd s fun a0 s0=>
 hd s0 fun a1 s1=>
 nl s1<|
 knc mth a0 fun v2=>
 kfa 512 v2 fun v3=>
 kib 256 1 v3 a1 fun v4=>
 kld (prt [] p) v4 fun v5=>
 knc mth a0 fun v6=>
 kfa 256 v6 fun v7=>
 kib 256 1 v7 a1 fun v8=>
 kld (prt [] p) v8 fun v9=>
 klt v5 v9 fun v10=>
 kif v10
 (k [] p)
 (knc mth a0 fun v11=>
 kfa 1024 v11 fun v12=>
 kld p v12 fun v13=>
 cn f277 p [v13,a1] fun v14 p15=>
 knc mth a0 fun v16=>
 kfa 1024 v16 fun v17=>
 kld p15 v17 fun v18=>
 ksl 1 v18 (some v14) none none fun v19=>
 ci f279 p15 [v19] fun v20 p21=>
 cn f278 p21 [v20] fun v22 p23=>
 kln v22 fun v24=>
 jn 0 (fun j25=>
 lp 1 fuel (fun r26 v27 p28=>
 klt v27 v24 fun v29=>
 kif v29
 (kia 1 v22 v27 fun v30=>
 kld p28 v30 fun v31=>
 knc mth a0 fun v32=>
 kfa 768 v32 fun v33=>
 kib 256 1 v33 v31 fun v34=>
 kst p28 1 v34 q43 fun p35=>
 kad v27 q44 fun v36=>
 r26 v36 p35)
 (j25 p28)) q32 p23) fun p37=>
 knc mth a0 fun v38=>
 kfa 1024 v38 fun v39=>
 kld p37 v39 fun v40=>
 ksl 1 v40 none (some v14) none fun v41=>
 knc mth a0 fun v42=>
 kfa 1024 v42 fun v43=>
 kst p37 1 v43 v41 fun p44=>
 knc mth a0 fun v45=>
 kfa 1026 v45 fun v46=>
 kld p44 v46 fun v47=>
 kbs p44 1 q0 [(0,1,v22)] fun v48 p49=>
 kap p49 1 24 v47 v48 fun v50 p51=>
 knc mth a0 fun v52=>
 kfa 1026 v52 fun v53=>
 kst p51 1 v53 v50 fun p54=>
 k [] p54)
theorem o253:FO EN 253 f253:=fe 2 (tc (cn_ok o277) (tc (ci_ok o279) (tc (cn_ok o278) tnil))) [none,some [],some [37],none,none] (by kernel_rfl) fun p s k=>by kernel_rfl
def f234:FT:=fun p s k=>hd s fun a0 s0=>
 hd s0 fun a1 s1=>
 nl s1<|
 ci f252 p [a0,a1] fun v2 p3=>
 kbd q45 [(0,1,a1),(1,1,q32)] fun v4=>
 kbs p3 1 q45 [(0,2,v4)] fun v5 p6=>
 jn 0 (fun j7=>
 lp 1 fuel (fun r8 v9 p10=>
 kln v9 fun v11=>
 kgt v11 q32 fun v12=>
 kif v12
 (jn 1 (fun j13=>
 kln v9 fun v14=>
 ksb v14 q44 fun v15=>
 kia 2 v9 v15 fun v16=>
 jn 1 (fun j17=>
 lp 1 fuel (fun r18 v19 p20=>
 knc mth v16 fun v21=>
 kfa 1 v21 fun v22=>
 kld (prt [] p20) v22 fun v23=>
 knc mth v16 fun v24=>
 kfa 0 v24 fun v25=>
 kld (prt [] p20) v25 fun v26=>
 knc mth a0 fun v27=>
 kfa 0 v27 fun v28=>
 kib 256 1 v28 v26 fun v29=>
 kld (prt [] p20) v29 fun v30=>
 kln v30 fun v31=>
 klt v23 v31 fun v32=>
 kif v32
 (knc mth v16 fun v33=>
 kfa 0 v33 fun v34=>
 kld (prt [] p20) v34 fun v35=>
 knc mth a0 fun v36=>
 kfa 0 v36 fun v37=>
 kib 256 1 v37 v35 fun v38=>
 kld (prt [] p20) v38 fun v39=>
 knc mth v16 fun v40=>
 kfa 1 v40 fun v41=>
 kld (prt [] p20) v41 fun v42=>
 kia 1 v39 v42 fun v43=>
 kld p20 v43 fun v44=>
 knc mth v16 fun v45=>
 kfa 1 v45 fun v46=>
 kld p20 v46 fun v47=>
 kad v47 q44 fun v48=>
 knc mth v16 fun v49=>
 kfa 1 v49 fun v50=>
 kst p20 1 v50 v48 fun p51=>
 knc mth a0 fun v52=>
 kfa 256 v52 fun v53=>
 kib 256 1 v53 v44 fun v54=>
 kld p51 v54 fun v55=>
 keq false .i v55 q32 fun v56=>
 kif v56
 (ci f252 p51 [a0,v44] fun v57 p58=>
 kbd q45 [(0,1,v44),(1,1,q32)] fun v59=>
 kbs p58 1 q45 [(0,2,v59)] fun v60 p61=>
 kap p61 2 16 v19 v60 fun v62 p63=>
 j13 v62 p63)
 (knc mth a0 fun v64=>
 kfa 768 v64 fun v65=>
 kib 256 1 v65 v44 fun v66=>
 kld p51 v66 fun v67=>
 jn 0 (fun j68 => kif v67
 (knc mth v16 fun v69=>
 kfa 0 v69 fun v70=>
 kld (prt [] p51) v70 fun v71=>
 knc mth v16 fun v72=>
 kfa 0 v72 fun v73=>
 kld (prt [] p51) v73 fun v74=>
 knc mth a0 fun v75=>
 kfa 512 v75 fun v76=>
 kib 256 1 v76 v74 fun v77=>
 kld (prt [] p51) v77 fun v78=>
 knc mth a0 fun v79=>
 kfa 256 v79 fun v80=>
 kib 256 1 v80 v44 fun v81=>
 kld (prt [] p51) v81 fun v82=>
 ksw mth p51 (.minmax false [(.c v78),(.c v82)]) fun v83 p84=>
 knc mth a0 fun v85=>
 kfa 512 v85 fun v86=>
 kib 256 1 v86 v71 fun v87=>
 kst p51 1 v87 v83 fun p88=>
 j68 p88)
 (j68 p51)) fun p89=>
 r18 v19 p89))
 (j17 v19 p20)) v9 p10) fun v90 p91=>
 knc mth v16 fun v92=>
 kfa 0 v92 fun v93=>
 kld p91 v93 fun v94=>
 ci f253 p91 [a0,v94] fun v95 p96=>
 kln v90 fun v97=>
 ksb v97 q44 fun v98=>
 ksl 2 v90 none (some v98) none fun v99=>
 kln v99 fun v100=>
 kgt v100 q32 fun v101=>
 jn 0 (fun j102 => kif v101
 (kln v99 fun v103=>
 ksb v103 q44 fun v104=>
 kia 2 v99 v104 fun v105=>
 kfa 0 v105 fun v106=>
 kld p96 v106 fun v107=>
 knc mth a0 fun v108=>
 kfa 512 v108 fun v109=>
 kib 256 1 v109 v107 fun v110=>
 kld (prt [] p96) v110 fun v111=>
 knc mth a0 fun v112=>
 kfa 512 v112 fun v113=>
 kib 256 1 v113 v94 fun v114=>
 kld (prt [] p96) v114 fun v115=>
 ksw mth p96 (.minmax false [(.c v111),(.c v115)]) fun v116 p117=>
 knc mth a0 fun v118=>
 kfa 512 v118 fun v119=>
 kib 256 1 v119 v107 fun v120=>
 kst p96 1 v120 v116 fun p121=>
 j102 p121)
 (j102 p96)) fun p122=>
 j13 v99 p122) fun v123 p124=>
 r8 v123 p124)
 (j7 p10)) v5 p6) fun p125=>
 k [] p125
theorem o234:FO EN 234 f234:=fe 2 (tc (ci_ok o252) (tc (ci_ok o253) tnil)) [some [],some [4],none,some [4],some [4],some [4],none,none,none,some [],some []] (by kernel_rfl) fun p s k=>by kernel_rfl
def f208:FT:=fun p s k=>hd s fun a0 s0=>
 nl s0<|
 kbx p 2 a0 fun v1 p2=>
 kal p2 q105 fun v3 p4=>
 kfa 1 v1 fun v5=>
 kld p4 v5 fun v6=>
 kln v6 fun v7=>
 jn 0 (fun j8=>
 lp 1 fuel (fun r9 v10 p11=>
 klt v10 v7 fun v12=>
 kif v12
 (kia 3 v6 v10 fun v13=>
 kla p11 3 v13 fun v14=>
 kal p11 q99 fun v15 p16=>
 kst p16 3 v15 v14 fun p17=>
 kfa 0 v15 fun v18=>
 kld (prt [] p17) v18 fun v19=>
 kfa 0 v15 fun v20=>
 kld (prt [] p17) v20 fun v21=>
 kfa 0 v3 fun v22=>
 kib 256 1 v22 v21 fun v23=>
 kld (prt [] p17) v23 fun v24=>
 kfa 1 v15 fun v25=>
 kld (prt [] p17) v25 fun v26=>
 kbs p17 1 q46 [(0,1,v26)] fun v27 p28=>
 kpa p28 [] [v18] 1 8 v24 v27 fun p30 v29 p31=>
 kfa 0 v3 fun v32=>
 kib 256 1 v32 v19 fun v33=>
 kst p31 1 v33 v29 fun p34=>
 kad v10 q44 fun v35=>
 r9 v35 p34)
 (j8 p11)) q32 p4) fun p36=>
 kfa 0 v1 fun v37=>
 kld p36 v37 fun v38=>
 jn 0 (fun j39=>
 lp 1 fuel (fun r40 v41 p42=>
 klt v41 v38 fun v43=>
 kif v43
 (kfa 256 v3 fun v44=>
 kib 256 1 v44 v41 fun v45=>
 kld p42 v45 fun v46=>
 keq false .i v46 q32 fun v47=>
 jn 0 (fun j48 => kif v47
 (ci f234 p42 [v3,v41] fun v49 p50=>
 j48 p50)
 (j48 p42)) fun p51=>
 kad v41 q44 fun v52=>
 r40 v52 p51)
 (j39 p42)) q32 p36) fun p53=>
 kfa 1026 v3 fun v54=>
 kld p53 v54 fun v55=>
 k [v55] p53
theorem o208:FO EN 208 f208:=fe 1 (tc (ci_ok o234) tnil) [some [],some [10],none,none,some [],some [30],none,none,some []] (by kernel_rfl) fun p s k=>by kernel_rfl
def f232:FT:=fun p s k=>hd s fun a0 s0=>
 hd s0 fun a1 s1=>
 nl s1<|
 kia 1 a0 q32 fun v2=>
 kld (prt [] p) v2 fun v3=>
 kia 1 a1 q32 fun v4=>
 kld (prt [] p) v4 fun v5=>
 ksb v3 v5 fun v6=>
 k [v6] p
theorem o232:FO EN 232 f232:=fe 2 tnil [] (by kernel_rfl) fun p s k=>by kernel_rfl
def t269:List Ce:=[⟨232,cn f232⟩]
def f269:FT:=fun p s k=>hd s fun a0 s0=>
 hd s0 fun a1 s1=>
 hd s1 fun a2 s2=>
 hd s2 fun a3 s3=>
 nl s3<|
 kad a1 q44 fun v4=>
 jn 0 (fun j5=>
 lp 1 fuel (fun r6 v7 p8=>
 klt v7 a2 fun v9=>
 kif v9
 (jn 0 (fun j10=>
 jn 0 (fun j11=>
 lp 1 fuel (fun r12 v13 p14=>
 kgt v13 a1 fun v15=>
 jn 12 (fun j16=>gdK v15 true (kia 1 a0 v13 fun v17=>
 kld (prt [] p14) v17 fun v18=>
 ksb v13 q44 fun v19=>
 kia 1 a0 v19 fun v20=>
 kld (prt [] p14) v20 fun v21=>
 kcv t269 p14 a3 [v18,v21] fun v22 p23=>
 klt v22 q32 fun v24=>
 j16 a3 a0 v13 v17 v18 a0 v13 v19 v20 v21 v22 v24 p23) (j16 .undef .undef .undef .undef .undef .undef .undef .undef .undef .undef .undef .undef p14)) fun v25 v26 v27 v28 v29 v30 v31 v32 v33 v34 v35 v36 p37=>
 kpk v15 v36 q43 fun v38=>
 kif v38
 (ksb v13 q44 fun v39=>
 ksb v13 q44 fun v40=>
 kia 1 a0 v40 fun v41=>
 kld (prt [] p37) v41 fun v42=>
 kia 1 a0 v13 fun v43=>
 kld (prt [] p37) v43 fun v44=>
 kia 1 a0 v13 fun v45=>
 kst p37 1 v45 v42 fun p46=>
 kia 1 a0 v39 fun v47=>
 kst p46 1 v47 v44 fun p48=>
 ksb v13 q44 fun v49=>
 r12 v49 p48)
 (j11 p37)) v7 p8) fun p50=>
 j10 p50) fun p51=>
 kad v7 q44 fun v52=>
 r6 v52 p51)
 (j5 p8)) v4 p) fun p53=>
 k [] p53
theorem o269:FO EN 269 f269:=fe 4 (T:=t269) (tc (cn_ok o232) tnil) [some [],some [8],none,some [],some [],some [9],none,none] (by kernel_rfl) fun p s k=>by kernel_rfl
def f251:FT:=fun p s k=>hd s fun a0 s0=>
 hd s0 fun a1 s1=>
 hd s1 fun a2 s2=>
 hd s2 fun a3 s3=>
 hd s3 fun a4 s4=>
 nl s4<|
 jn 0 (fun j5=>
 lp 5 fuel (fun r6 v7 v8 v9 v10 v11 p12=>
 jn 5 (fun j13=>
 ksb v8 v7 fun v14=>
 kle v14 q51 fun v15=>
 kif v15
 (ci f269 p12 [a0,v7,v8,a4] fun v16 p17=>
 k [] p17)
 (keq false .i v9 q32 fun v18=>
 kif v18
 (.no)
 (knt v10 fun v19=>
 jn 1 (fun j20 => kif v19
 (.no)
 (j20 v9 p12)) fun v21 p22=>
 .no))) fun v23 v24 v25 v26 v27 p28=>
 r6 v23 v24 v25 v26 v27 p28) a1 a2 a3 q53 q53 p) fun p29=>
 k [] p29
theorem o251:FO EN 251 f251:=fe 5 (tc (ci_ok o269) tnil) [some [],some [1,2,3,10,11],some [1,2,3,10,11],none,none,some [3],some [13,14],some [],none,none,some [1,2,10]] (by kernel_rfl) fun p s k=>by kernel_rfl
def f231:FT:=fun p s k=>hd s fun a0 s0=>
 hd s0 fun a1 s1=>
 nl s1<|
 kln a0 fun v2=>
 kci .u64 v2 fun v3=>
 cc f64 p [v3] fun v4 p5=>
 ci f251 p5 [a0,q32,v2,v4,a1] fun v6 p7=>
 k [] p7
theorem o231:FO EN 231 f231:=fe 2 (tc (cc_ok o64) (tc (ci_ok o251) tnil)) [] (by kernel_rfl) fun p s k=>by kernel_rfl
def f207:FT:=fun p s k=>hd s fun a0 s0=>
 hd s0 fun a1 s1=>
 nl s1<|
 kbx p 2 a0 fun v2 p3=>
 kbx p3 1 a1 fun v4 p5=>
 kld p5 v4 fun v6=>
 ci f231 p5 [v6,q106] fun v7 p8=>
 kfa 0 v2 fun v9=>
 kld p8 v9 fun v10=>
 kms p8 1 8 q46 v10 v10 fun v11 p12=>
 kal p12 q0 fun v13 p14=>
 kst p14 1 v13 v11 fun p15=>
 kld p15 v4 fun v16=>
 kln v16 fun v17=>
 jn 0 (fun j18=>
 lp 1 fuel (fun r19 v20 p21=>
 klt v20 v17 fun v22=>
 kif v22
 (jn 0 (fun j23=>
 kia 1 v16 v20 fun v24=>
 kld p21 v24 fun v25=>
 kln v25 fun v26=>
 jn 0 (fun j27=>
 lp 1 fuel (fun r28 v29 p30=>
 klt v29 v26 fun v31=>
 kif v31
 (kia 1 v25 v29 fun v32=>
 kld p30 v32 fun v33=>
 kld p30 v13 fun v34=>
 kia 1 v34 v33 fun v35=>
 kst p30 1 v35 v20 fun p36=>
 kad v29 q44 fun v37=>
 r28 v37 p36)
 (j27 p30)) q32 p21) fun p38=>
 j23 p38) fun p39=>
 kad v20 q44 fun v40=>
 r19 v40 p39)
 (j18 p21)) q32 p15) fun p41=>
 k [(.func (.func 233) [] [v4,v2,v13])] p41
theorem o207:FO EN 207 f207:=fe 2 (tc (ci_ok o231) tnil) [some [],some [17],none,some [],some [],some [24],none,none] (by kernel_rfl) fun p s k=>by kernel_rfl
def f209:FT:=fun p s k=>hd s fun a0 s0=>
 nl s0<|
 kln a0 fun v1=>
 kln a0 fun v2=>
 ksl 1 a0 none (some v1) (some v2) fun v3=>
 k [v3] p
theorem o209:FO EN 209 f209:=fe 1 tnil [] (by kernel_rfl) fun p s k=>by kernel_rfl
def tr172008:List Ce:=[⟨147,ci f147⟩]
def fr172008:FT:=fun p s k=>hd s fun pj s=>ptrK pj (fun j _=>hd s fun tv fr=>tupK tv fun vals=>ifB (Nat.beq (lenF fr) 53) (ifB (Nat.ble p.floor j) (isR0 p j (
 hdK (drK 5 fr) fun x0=>
 hd vals fun a1 s0=>
 nl s0<|
 isR0 p j (putK p j (some (.rnd (nat_lit 1))) fun p2=>
 jn 0 (fun j3=>
 kln a1 fun v4=>
 jn 0 (fun j5=>
 lp 1 fuel (fun r6 v7 p8=>
 klt v7 v4 fun v9=>
 kif v9
 (kia 1 a1 v7 fun v10=>
 kld p8 v10 fun v11=>
 kfa 1 x0 fun v12=>
 kld p8 v12 fun v13=>
 kfa 0 x0 fun v14=>
 kld p8 v14 fun v15=>
 kln v15 fun v16=>
 kia 1 v13 v11 fun v17=>
 kst p8 1 v17 v16 fun p18=>
 kad v7 q44 fun v19=>
 r6 v19 p18)
 (j5 p8)) q32 p2) fun p20=>
 kfa 0 x0 fun v21=>
 kld (prt [] p20) v21 fun v22=>
 ci f147 (prt [] p20) [a1] fun v23 p24=>
 unpK p20 p24 fun p25=>
 kbs p25 1 q0 [(0,1,v23)] fun v26 p27=>
 kap p27 1 24 v22 v26 fun v28 p29=>
 kfa 0 x0 fun v30=>
 kst p29 1 v30 v28 fun p31=>
 j3 p31) fun p32=>
 rndK p32 j fun _=>putK p32 j (some (.rnd (nat_lit 0))) fun p33=>k [.bool true] p33))))) n2
theorem or172008:FO EN 1172008 fr172008:=re (r:=172008) (N:=53) (L:=[5]) (T:=tr172008) (tc (ci_ok o147) tnil) [] [some [],some [],some [29],none,none] (by kernel_rfl) fun p s k=>by kernel_rfl
def t233:List Ce:=[⟨1172008,ci fr172008⟩]
def f233:FT:=fun p s k=>hd s fun a0 s0=>
 hd s0 fun a1 s1=>
 hd s1 fun a2 s2=>
 hd s2 fun a3 s3=>
 nl s3<|
 kld p a1 fun v4=>
 kln v4 fun v5=>
 kms p 1 1 q96 v5 v5 fun v6 p7=>
 kld p7 a1 fun v8=>
 kln v8 fun v9=>
 jn 0 (fun j10=>
 lp 1 fuel (fun r11 v12 p13=>
 klt v12 v9 fun v14=>
 kif v14
 (jn 0 (fun j15=>
 kld p13 a1 fun v16=>
 kln v16 fun v17=>
 kms p13 1 1 q96 v17 v17 fun v18 p19=>
 kfa 1 a2 fun v20=>
 kld p19 v20 fun v21=>
 kln v21 fun v22=>
 jn 0 (fun j23=>
 lp 1 fuel (fun r24 v25 p26=>
 klt v25 v22 fun v27=>
 kif v27
 (kia 3 v21 v25 fun v28=>
 kla p26 3 v28 fun v29=>
 kal p26 q99 fun v30 p31=>
 kst p31 3 v30 v29 fun p32=>
 kld (prt [] p32) a3 fun v33=>
 kfa 0 v30 fun v34=>
 kld (prt [] p32) v34 fun v35=>
 kia 1 v33 v35 fun v36=>
 kld (prt [] p32) v36 fun v37=>
 kld (prt [] p32) a3 fun v38=>
 kfa 1 v30 fun v39=>
 kld (prt [] p32) v39 fun v40=>
 kia 1 v38 v40 fun v41=>
 kld (prt [] p32) v41 fun v42=>
 keq true .i v37 v42 fun v43=>
 jn 5 (fun j44=>gdK v43 true (kia 1 v6 v42 fun v45=>
 kld p32 v45 fun v46=>
 knt v46 fun v47=>
 j44 v6 v42 v45 v46 v47 p32) (j44 .undef .undef .undef .undef .undef p32)) fun v48 v49 v50 v51 v52 p53=>
 kpk v43 v52 q43 fun v54=>
 jn 0 (fun j55 => kif v54
 (kia 1 v18 v37 fun v56=>
 kst p53 1 v56 q53 fun p57=>
 j55 p57)
 (j55 p53)) fun p58=>
 kad v25 q44 fun v59=>
 r24 v59 p58)
 (j23 p26)) q32 p19) fun p60=>
 kld p60 a1 fun v61=>
 kln v61 fun v62=>
 jn 0 (fun j63=>
 lp 1 fuel (fun r64 v65 p66=>
 klt v65 v62 fun v67=>
 kif v67
 (kia 1 v6 v65 fun v68=>
 kld p66 v68 fun v69=>
 knt v69 fun v70=>
 jn 5 (fun j71=>gdK v70 true (kia 1 v18 v65 fun v72=>
 kld p66 v72 fun v73=>
 knt v73 fun v74=>
 j71 v18 v65 v72 v73 v74 p66) (j71 .undef .undef .undef .undef .undef p66)) fun v75 v76 v77 v78 v79 p80=>
 kpk v70 v79 q43 fun v81=>
 kif v81
 (kia 1 v6 v65 fun v82=>
 kst p80 1 v82 q53 fun p83=>
 kld p83 a1 fun v84=>
 kia 1 v84 v65 fun v85=>
 kld p83 v85 fun v86=>
 kcv t233 p83 a0 [v86] fun v87 p88=>
 knt v87 fun v89=>
 kif v89
 (k [] p88)
 (j63 p88))
 (kad v65 q44 fun v90=>
 r64 v90 p80))
 (j63 p66)) q32 p60) fun p91=>
 j15 p91) fun p92=>
 kad v12 q44 fun v93=>
 r11 v93 p92)
 (j10 p13)) q32 p7) fun p94=>
 k [] p94
theorem o233:FO EN 233 f233:=fe 4 (T:=t233) (tc (ci_ok or172008) tnil) [some [],some [17],none,some [],some [],some [25],none,none,some [],some [],some [55],none,none,none,none] (by kernel_rfl) fun p s k=>by kernel_rfl
def t172:List Ce:=[⟨206,cn f206⟩,⟨208,cn f208⟩,⟨207,ci f207⟩,⟨209,ci f209⟩,⟨233,ci f233⟩]
def f172:FT:=fun p s k=>hd s fun a0 s0=>
 nl s0<|
 kbx p 2 a0 fun v1 p2=>
 kal p2 q107 fun v3 p4=>
 kla p4 2 v1 fun v5=>
 cn f206 p4 [v5] fun v6 p7=>
 keq true .i v6 q32 fun v8=>
 kif v8
 (kbd q107 [] fun v9=>
 kst p7 2 v3 v9 fun p10=>
 kra p10 2 v3 fun v11=>
 k [v11,v6] p10)
 (kal p7 q107 fun v12 p13=>
 kfa 0 v1 fun v14=>
 kld p13 v14 fun v15=>
 kgt v15 q32 fun v16=>
 jn 0 (fun j17 => kif v16
 (kfa 0 v1 fun v18=>
 kld p13 v18 fun v19=>
 kms p13 1 8 q46 v19 v19 fun v20 p21=>
 kfa 1 v12 fun v22=>
 kst p21 1 v22 v20 fun p23=>
 j17 p23)
 (j17 p13)) fun p24=>
 kla (prt [] p24) 2 v1 fun v25=>
 kla (prt [] p24) 2 v1 fun v26=>
 cn f208 (prt [] p24) [v26] fun v27 p28=>
 unpK p24 p28 fun p29=>
 ci f207 p29 [v25,v27] fun v30 p31=>
 krg t172 p31 172008 v30 (V.mk 53 [(5,v12)]) (fun p32=>
 kfa 0 v12 fun v34=>
 kld p32 v34 fun v35=>
 ci f209 p32 [v35] fun v36 p37=>
 kfa 0 v12 fun v38=>
 kst p37 1 v38 v36 fun p39=>
 kla p39 2 v12 fun v40=>
 kst p39 2 v3 v40 fun p41=>
 kra p41 2 v3 fun v42=>
 k [v42,q32] p41) (fun p33=>
 kra p33 2 v3 fun v43=>
 k [v43,q32] p33) [])
theorem o172:FO EN 172 f172:=fe 1 (T:=t172) (tc (cn_ok o206) (tc (cn_ok o208) (tc (ci_ok o207) (tc (ci_ok o209) (tc (ci_ok o233) tnil))))) [none,some [],none,some [5],some []] (by kernel_rfl) fun p s k=>by kernel_rfl
end
end Go.V
end
section
set_option maxRecDepth 100000
namespace Go.V
noncomputable section
def f211:FT:=fun p s k=>hd s fun a0 s0=>
 nl s0<|
 kln a0 fun v1=>
 klt v1 q48 fun v2=>
 kif v2
 (k [a0] p)
 (jn 0 (fun j3=>
 lp 1 fuel (fun r4 v5 p6=>
 kln a0 fun v7=>
 klt v5 v7 fun v8=>
 kif v8
 (jn 1 (fun j9=>
 kia 1 a0 v5 fun v10=>
 kld (prt [] p6) v10 fun v11=>
 ksb v5 q44 fun v12=>
 kia 1 a0 v12 fun v13=>
 kld (prt [] p6) v13 fun v14=>
 keq false .i v11 v14 fun v15=>
 kif v15
 (ksl 1 a0 (some v5) none none fun v16=>
 jn 1 (fun j17=>
 lp 2 fuel (fun r18 v19 v20 p21=>
 kln v16 fun v22=>
 klt v20 v22 fun v23=>
 kif v23
 (kia 1 v16 v20 fun v24=>
 kld (prt [] p21) v24 fun v25=>
 ksb v20 q44 fun v26=>
 kia 1 v16 v26 fun v27=>
 kld (prt [] p21) v27 fun v28=>
 keq true .i v25 v28 fun v29=>
 jn 1 (fun j30 => kif v29
 (kia 1 v16 v20 fun v31=>
 kld p21 v31 fun v32=>
 kia 1 a0 v19 fun v33=>
 kst p21 1 v33 v32 fun p34=>
 kad v19 q44 fun v35=>
 j30 v35 p34)
 (j30 v19 p21)) fun v36 p37=>
 kad v20 q44 fun v38=>
 r18 v36 v38 p37)
 (j17 v19 p21)) v5 q44 p6) fun v39 p40=>
 ksl 1 a0 (some v39) none none fun v41=>
 ksw mth p40 (.clear q46 (.c v41)) fun v42 p43=>
 ksl 1 a0 none (some v39) none fun v44=>
 k [v44] p43)
 (j9 v5 p6)) fun v45 p46=>
 kad v45 q44 fun v47=>
 r4 v47 p46)
 (j3 p6)) q44 p) fun p48=>
 k [a0] p48)
theorem o211:FO EN 211 f211:=fe 1 tnil [none,some [],some [3],none,some [3],none,some [3],some [3,5],none,none,some [3]] (by kernel_rfl) fun p s k=>by kernel_rfl
def f173:FT:=fun p s k=>hd s fun a0 s0=>
 nl s0<|
 kbx p 2 a0 fun v1 p2=>
 kla p2 2 v1 fun v3=>
 cn f172 p2 [v3] fun v4 p5=>
 kex v4 0 fun v6=>
 kex v4 1 fun v7=>
 kal p5 q107 fun v8 p9=>
 kst p9 2 v8 v6 fun p10=>
 keq true .i v7 q32 fun v11=>
 kif v11
 (k [.nils,v7] p10)
 (kfa 1 v1 fun v12=>
 kld p10 v12 fun v13=>
 kln v13 fun v14=>
 jn 1 (fun j15=>
 lp 2 fuel (fun r16 v17 v18 p19=>
 klt v18 v14 fun v20=>
 kif v20
 (kia 3 v13 v18 fun v21=>
 kla p19 3 v21 fun v22=>
 kal p19 q99 fun v23 p24=>
 kst p24 3 v23 v22 fun p25=>
 kfa 2 v23 fun v26=>
 kld p25 v26 fun v27=>
 jn 13 (fun j28=>gdK v27 true (kfa 1 v8 fun v29=>
 kld (prt [] p25) v29 fun v30=>
 kfa 0 v23 fun v31=>
 kld (prt [] p25) v31 fun v32=>
 kia 1 v30 v32 fun v33=>
 kld (prt [] p25) v33 fun v34=>
 kfa 1 v8 fun v35=>
 kld (prt [] p25) v35 fun v36=>
 kfa 1 v23 fun v37=>
 kld (prt [] p25) v37 fun v38=>
 kia 1 v36 v38 fun v39=>
 kld (prt [] p25) v39 fun v40=>
 keq false .i v34 v40 fun v41=>
 j28 v29 v30 v31 v32 v33 v34 v35 v36 v37 v38 v39 v40 v41 p25) (j28 .undef .undef .undef .undef .undef .undef .undef .undef .undef .undef .undef .undef .undef p25)) fun v42 v43 v44 v45 v46 v47 v48 v49 v50 v51 v52 v53 v54 _=>
 kpk v27 v54 q43 fun v56=>
 jn 1 (fun j57 => kif v56
 (kfa 1 v8 fun v58=>
 kld p25 v58 fun v59=>
 kfa 0 v23 fun v60=>
 kld p25 v60 fun v61=>
 kia 1 v59 v61 fun v62=>
 kld p25 v62 fun v63=>
 kbs p25 1 q46 [(0,1,v63)] fun v64 p65=>
 kap p65 1 8 v17 v64 fun v66 p67=>
 j57 v66 p67)
 (j57 v17 p25)) fun v68 p69=>
 kad v18 q44 fun v70=>
 r16 v68 v70 p69)
 (j15 v17 p19)) .nils q32 p10) fun v71 p72=>
 cn f210 p72 [v71] fun v73 p74=>
 cn f211 p74 [v71] fun v75 p76=>
 ci f147 p76 [v75] fun v77 p78=>
 k [v77,q32] p78)
theorem o173:FO EN 173 f173:=fe 1 (tc (cn_ok o172) (tc (cn_ok o210) (tc (cn_ok o211) (tc (ci_ok o147) tnil)))) [none,some [6],some [6,20],none,none,some [6]] (by kernel_rfl) fun p s k=>by kernel_rfl
def f174:FT:=fun p s k=>hd s fun a0 s0=>
 nl s0<|
 kbx p 3 a0 fun v1 p2=>
 kfa 2 v1 fun v3=>
 kld p2 v3 fun v4=>
 kif v4
 (k [q44] p2)
 (k [q32] p2)
theorem o174:FO EN 174 f174:=fe 1 tnil [none] (by kernel_rfl) fun p s k=>by kernel_rfl
def f131:FT:=fun p s k=>hd s fun a0 s0=>
 nl s0<|
 kln a0 fun v1=>
 jn 1 (fun j2=>
 lp 2 fuel (fun r3 v4 v5 p6=>
 klt v5 v1 fun v7=>
 kif v7
 (kia 1 a0 v5 fun v8=>
 kld p6 v8 fun v9=>
 ksw mth p6 (.minmax true [(.c v4),(.c v9)]) fun v10 p11=>
 kad v5 q44 fun v12=>
 r3 v10 v12 p11)
 (j2 v4 p6)) q32 q32 p) fun v13 p14=>
 k [v13] p14
theorem o131:FO EN 131 f131:=fe 1 tnil [some [3],some [3,8],none,none] (by kernel_rfl) fun p s k=>by kernel_rfl
def f128:FT:=fun p s k=>hd s fun a0 s0=>
 nl s0<|
 kbx p 2 a0 fun v1 p2=>
 kla p2 2 v1 fun v3=>
 cn f172 p2 [v3] fun v4 p5=>
 kex v4 0 fun v6=>
 kex v4 1 fun v7=>
 kal p5 q107 fun v8 p9=>
 kst p9 2 v8 v6 fun p10=>
 keq true .i v7 q32 fun v11=>
 kif v11
 (k [.nils,v7] p10)
 (kla p10 2 v1 fun v12=>
 cn f173 p10 [v12] fun v13 p14=>
 kex v13 0 fun v15=>
 kex v13 1 fun v16=>
 kln v15 fun v17=>
 kgt v17 q32 fun v18=>
 kif v18
 (k [.nils,q51] p14)
 (kfa 0 v1 fun v19=>
 kld p14 v19 fun v20=>
 kgt v20 q32 fun v21=>
 jn 1 (fun j22 => kif v21
 (kfa 0 v1 fun v23=>
 kld p14 v23 fun v24=>
 kms p14 1 8 q46 v24 v24 fun v25 p26=>
 j22 v25 p26)
 (j22 .nils p14)) fun v27 p28=>
 kfa 0 v8 fun v29=>
 kld p28 v29 fun v30=>
 kln v30 fun v31=>
 jn 0 (fun j32=>
 lp 1 fuel (fun r33 v34 p35=>
 klt v34 v31 fun v36=>
 kif v36
 (jn 0 (fun j37=>
 kia 1 v30 v34 fun v38=>
 kld p35 v38 fun v39=>
 kfa 1 v1 fun v40=>
 kld p35 v40 fun v41=>
 kln v41 fun v42=>
 jn 1 (fun j43=>
 lp 2 fuel (fun r44 v45 v46 p47=>
 klt v46 v42 fun v48=>
 kif v48
 (kia 3 v41 v46 fun v49=>
 kla p47 3 v49 fun v50=>
 kal p47 q99 fun v51 p52=>
 kst p52 3 v51 v50 fun p53=>
 kfa 1 v8 fun v54=>
 kld p53 v54 fun v55=>
 kfa 0 v51 fun v56=>
 kld p53 v56 fun v57=>
 kia 1 v55 v57 fun v58=>
 kld p53 v58 fun v59=>
 keq false .i v59 v34 fun v60=>
 jn 8 (fun j61=>gdK v60 true (kfa 1 v8 fun v62=>
 kld p53 v62 fun v63=>
 kfa 1 v51 fun v64=>
 kld p53 v64 fun v65=>
 kia 1 v63 v65 fun v66=>
 kld p53 v66 fun v67=>
 keq true .i v67 v34 fun v68=>
 j61 v62 v63 v64 v65 v66 v67 v34 v68 p53) (j61 .undef .undef .undef .undef .undef .undef .undef .undef p53)) fun v69 v70 v71 v72 v73 v74 v75 v76 p77=>
 kpk v60 v76 q43 fun v78=>
 jn 1 (fun j79 => kif v78
 (kfa 1 v51 fun v80=>
 kld (prt [] p77) v80 fun v81=>
 kia 1 v27 v81 fun v82=>
 kld (prt [] p77) v82 fun v83=>
 kla (prt [] p77) 3 v51 fun v84=>
 cn f174 (prt [] p77) [v84] fun v85 p86=>
 unpK p77 p86 fun p87=>
 kad v83 v85 fun v88=>
 kbs p87 1 q46 [(0,1,v88)] fun v89 p90=>
 kap p90 1 8 v45 v89 fun v91 p92=>
 j79 v91 p92)
 (j79 v45 p77)) fun v93 p94=>
 kad v46 q44 fun v95=>
 r44 v93 v95 p94)
 (j43 v45 p47)) .nils q32 p35) fun v96 p97=>
 kln v39 fun v98=>
 jn 0 (fun j99=>
 lp 1 fuel (fun r100 v101 p102=>
 klt v101 v98 fun v103=>
 kif v103
 (kia 1 v39 v101 fun v104=>
 kld p102 v104 fun v105=>
 cn f131 p102 [v96] fun v106 p107=>
 kia 1 v27 v105 fun v108=>
 kst p107 1 v108 v106 fun p109=>
 kad v101 q44 fun v110=>
 r100 v110 p109)
 (j99 p102)) q32 p97) fun p111=>
 j37 p111) fun p112=>
 kad v34 q44 fun v113=>
 r33 v113 p112)
 (j32 p35)) q32 p28) fun p114=>
 k [v27,q32] p114))
theorem o128:FO EN 128 f128:=fe 1 (tc (cn_ok o172) (tc (cn_ok o173) (tc (cn_ok o174) (tc (cn_ok o131) tnil)))) [none,none,some [8],some [],some [41],none,some [],some [11],some [11,49],none,none,some [11],some [],some [85],none,none] (by kernel_rfl) fun p s k=>by kernel_rfl
def f129:FT:=fun p s k=>hd s fun a0 s0=>
 hd s0 fun a1 s1=>
 nl s1<|
 kbx p 1 a0 fun v2 p3=>
 kla p3 1 v2 fun v4=>
 cn f134 p3 [v4] fun v5 p6=>
 keq true .i v5 q32 fun v7=>
 kif v7
 (k [q60,q60,v5] p6)
 (kla p6 1 v2 fun v8=>
 ci f135 p6 [v8] fun v9 p10=>
 klt a1 q32 fun v11=>
 jn 7 (fun j12=>gdK v11 false (knc mth v9 fun v13=>
 kfa 3 v13 fun v14=>
 kld p10 v14 fun v15=>
 kln v15 fun v16=>
 kge a1 v16 fun v17=>
 j12 a1 v9 v13 v14 v15 v16 v17 p10) (j12 .undef .undef .undef .undef .undef .undef .undef p10)) fun v18 v19 v20 v21 v22 v23 v24 p25=>
 kpk v11 q53 v24 fun v26=>
 kif v26
 (k [q60,q60,q47] p25)
 (knc mth v9 fun v27=>
 kfa 4 v27 fun v28=>
 kld (prt [] p25) v28 fun v29=>
 kia 1 v29 a1 fun v30=>
 kld (prt [] p25) v30 fun v31=>
 knc mth v9 fun v32=>
 kfa 3 v32 fun v33=>
 kld (prt [] p25) v33 fun v34=>
 kia 1 v34 a1 fun v35=>
 kld (prt [] p25) v35 fun v36=>
 knc mth v36 fun v37=>
 kfa 0 v37 fun v38=>
 kld (prt [] p25) v38 fun v39=>
 k [v31,v39,q32] p25))
theorem o129:FO EN 129 f129:=fe 2 (tc (cn_ok o134) (tc (ci_ok o135) tnil)) [none,none] (by kernel_rfl) fun p s k=>by kernel_rfl
def f130:FT:=fun p s k=>hd s fun a0 s0=>
 hd s0 fun a1 s1=>
 nl s1<|
 knc mth a0 fun v2=>
 kfa 2 v2 fun v3=>
 kst p 1 v3 a1 fun p4=>
 k [] p4
theorem o130:FO EN 130 f130:=fe 2 tnil [] (by kernel_rfl) fun p s k=>by kernel_rfl
def f73:FT:=fun p s k=>hd s fun a0 s0=>
 nl s0<|
 kbx p 1 a0 fun v1 p2=>
 kal p2 q0 fun v3 p4=>
 kla p4 1 v1 fun v5=>
 cn f127 p4 [v5] fun v6 p7=>
 kex v6 0 fun v8=>
 kex v6 1 fun v9=>
 kal p7 q101 fun v10 p11=>
 kst p11 2 v10 v8 fun p12=>
 keq true .i v9 q32 fun v13=>
 kif v13
 (kbd q0 [] fun v14=>
 kst p12 1 v3 v14 fun p15=>
 kra p15 1 v3 fun v16=>
 k [v16,v9] p15)
 (kla p12 2 v10 fun v17=>
 cn f128 p12 [v17] fun v18 p19=>
 kex v18 0 fun v20=>
 kex v18 1 fun v21=>
 keq true .i v21 q32 fun v22=>
 kif v22
 (kbd q0 [] fun v23=>
 kst p19 1 v3 v23 fun p24=>
 kra p24 1 v3 fun v25=>
 k [v25,v21] p24)
 (kln v20 fun v26=>
 kms p19 3 40 q108 v26 v26 fun v27 p28=>
 kbd q0 [(0,1,v27)] fun v29=>
 kal p28 q0 fun v30 p31=>
 kst p31 1 v30 v29 fun p32=>
 kfa 0 v30 fun v33=>
 kld p32 v33 fun v34=>
 kln v34 fun v35=>
 jn 0 (fun j36=>
 lp 1 fuel (fun r37 v38 p39=>
 klt v38 v35 fun v40=>
 kif v40
 (kfa 0 v30 fun v41=>
 kld (prt [] p39) v41 fun v42=>
 kfa 0 v30 fun v43=>
 kld (prt [] p39) v43 fun v44=>
 kla (prt [] p39) 1 v1 fun v45=>
 cn f129 (prt [] p39) [v45,v38] fun v46 p47=>
 unpK p39 p47 fun p48=>
 kex v46 0 fun v49=>
 kex v46 1 fun v50=>
 kex v46 2 fun v51=>
 kia 3 v42 v38 fun v52=>
 kfa 0 v52 fun v53=>
 kps p48 [] [v43] 1 v53 v49 fun b54 p55=>
 kia 3 v44 v38 fun v56=>
 kfa 1 v56 fun v57=>
 kst p55 1 v57 v50 fun p58=>
 kfa 0 v30 fun v59=>
 kld (prt [] p58) v59 fun v60=>
 kia 3 v60 v38 fun v61=>
 kia 1 v20 v38 fun v62=>
 kld (prt [] p58) v62 fun v63=>
 ci f130 p58 [v61,v63] fun v64 p65=>
 kad v38 q44 fun v66=>
 r37 v66 p65)
 (j36 p39)) q32 p32) fun p67=>
 kla p67 1 v30 fun v68=>
 kst p67 1 v3 v68 fun p69=>
 kra p69 1 v3 fun v70=>
 k [v70,q32] p69))
theorem o73:FO EN 73 f73:=fe 1 (tc (cn_ok o127) (tc (cn_ok o128) (tc (cn_ok o129) (tc (ci_ok o130) tnil)))) [none,none,some [],some [34],none,none] (by kernel_rfl) fun p s k=>by kernel_rfl
def f74:FT:=fun p s k=>hd s fun a0 s0=>
 nl s0<|
 kbx p 1 a0 fun v1 p2=>
 kfa 0 v1 fun v3=>
 kld p2 v3 fun v4=>
 kln v4 fun v5=>
 jn 1 (fun j6=>
 lp 2 fuel (fun r7 v8 v9 p10=>
 klt v9 v5 fun v11=>
 kif v11
 (kia 3 v4 v9 fun v12=>
 kla p10 3 v12 fun v13=>
 kal p10 q108 fun v14 p15=>
 kst p15 3 v14 v13 fun p16=>
 kfa 2 v14 fun v17=>
 kld p16 v17 fun v18=>
 kad v18 q44 fun v19=>
 kbs p16 2 q45 [(0,1,v8),(1,1,v19)] fun v20 p21=>
 cn f131 p21 [v20] fun v22 p23=>
 kad v9 q44 fun v24=>
 r7 v22 v24 p23)
 (j6 v8 p10)) q32 q32 p2) fun v25 p26=>
 k [v25] p26
theorem o74:FO EN 74 f74:=fe 1 (tc (cn_ok o131) tnil) [some [3],some [3,9],none,none] (by kernel_rfl) fun p s k=>by kernel_rfl
def f152:FT:=fun p s k=>hd s fun a0 s0=>
 nl s0<|
 kln a0 fun v1=>
 kln a0 fun v2=>
 ksl 4 a0 none (some v1) (some v2) fun v3=>
 k [v3] p
theorem o152:FO EN 152 f152:=fe 1 tnil [] (by kernel_rfl) fun p s k=>by kernel_rfl
def g132:FT→FT:=fun self=>fun p s k=>hd s fun a0 s0=>
 nl s0<|
 kbx p 4 a0 fun v1 p2=>
 kal p2 q3 fun v3 p4=>
 kfa 3 v1 fun v5=>
 kld p4 v5 fun v6=>
 kln v6 fun v7=>
 jn 1 (fun j8=>
 lp 2 fuel (fun r9 v10 v11 p12=>
 klt v11 v7 fun v13=>
 kif v13
 (kia 4 v6 v11 fun v14=>
 kla p12 4 v14 fun v15=>
 kal p12 q3 fun v16 p17=>
 kst p17 4 v16 v15 fun p18=>
 kla p18 4 v16 fun v19=>
 ci self p18 [v19] fun v20 p21=>
 kst p21 4 v16 v20 fun p22=>
 kfa 0 v16 fun v23=>
 kld p22 v23 fun v24=>
 kfa 0 v1 fun v25=>
 kld p22 v25 fun v26=>
 keq false .i v24 v26 fun v27=>
 jn 3 (fun j28=>gdK v27 true (kfa 0 v1 fun v29=>
 kld p22 v29 fun v30=>
 keq true .i v30 q14 fun v31=>
 j28 v29 v30 v31 p22) (j28 .undef .undef .undef p22)) fun v32 v33 v34 p35=>
 kpk v27 v34 q43 fun v36=>
 jn 1 (fun j37 => kif v36
 (kfa 3 v16 fun v38=>
 kld p35 v38 fun v39=>
 kap p35 4 64 v10 v39 fun v40 p41=>
 j37 v40 p41)
 (kla p35 4 v16 fun v42=>
 kbs p35 1 q3 [(0,4,v42)] fun v43 p44=>
 kap p44 4 64 v10 v43 fun v45 p46=>
 j37 v45 p46)) fun v47 p48=>
 kad v11 q44 fun v49=>
 r9 v47 v49 p48)
 (j8 v10 p12)) .nils q32 p4) fun v50 p51=>
 ci f152 p51 [v50] fun v52 p53=>
 kfa 3 v1 fun v54=>
 kst p53 1 v54 v52 fun p55=>
 kla p55 4 v1 fun v56=>
 kst p55 4 v3 v56 fun p57=>
 kra p57 4 v3 fun v58=>
 k [v58] p57
def f132:FT:=rcF depth g132
theorem o132:FO EN 132 f132:=FO.rc (fun self h=>fe 1 (tc (ci_ok h) (tc (ci_ok o152) tnil)) [some [3],some [3,9],none,none,some [3]] (by kernel_rfl) fun p s k=>by kernel_rfl) depth
def f75:FT:=fun p s k=>hd s fun a0 s0=>
 nl s0<|
 kbx p 4 a0 fun v1 p2=>
 kal p2 q3 fun v3 p4=>
 kla p4 4 v1 fun v5=>
 cn f95 p4 [v5] fun v6 p7=>
 keq true .i v6 q32 fun v8=>
 kif v8
 (kbd q3 [] fun v9=>
 kst p7 4 v3 v9 fun p10=>
 kra p10 4 v3 fun v11=>
 k [v11,v6] p10)
 (kla p7 4 v1 fun v12=>
 ci f132 p7 [v12] fun v13 p14=>
 kst p14 4 v3 v13 fun p15=>
 kra p15 4 v3 fun v16=>
 k [v16,q32] p15)
theorem o75:FO EN 75 f75:=fe 1 (tc (cn_ok o95) (tc (ci_ok o132) tnil)) [none] (by kernel_rfl) fun p s k=>by kernel_rfl
def f76:FT:=fun p s k=>hd s fun a0 s0=>
 hd s0 fun a1 s1=>
 hd s1 fun a2 s2=>
 nl s2<|
 kbx p 1 a0 fun v3 p4=>
 kfa 0 v3 fun v5=>
 kld p4 v5 fun v6=>
 kln v6 fun v7=>
 jn 0 (fun j8=>
 lp 1 fuel (fun r9 v10 p11=>
 klt v10 v7 fun v12=>
 kif v12
 (kia 3 v6 v10 fun v13=>
 kla p11 3 v13 fun v14=>
 kal p11 q108 fun v15 p16=>
 kst p16 3 v15 v14 fun p17=>
 kfa 0 v15 fun v18=>
 kld p17 v18 fun v19=>
 keq false .s v19 a1 fun v20=>
 jn 4 (fun j21=>gdK v20 true (kfa 1 v15 fun v22=>
 kld p17 v22 fun v23=>
 keq false .s v23 a2 fun v24=>
 j21 v22 v23 a2 v24 p17) (j21 .undef .undef .undef .undef p17)) fun v25 v26 v27 v28 p29=>
 kpk v20 v28 q43 fun v30=>
 kif v30
 (kfa 2 v15 fun v31=>
 kld p29 v31 fun v32=>
 k [v32,q32] p29)
 (kad v10 q44 fun v33=>
 r9 v33 p29))
 (j8 p11)) q32 p4) fun p34=>
 k [q32,q55] p34
theorem o76:FO EN 76 f76:=fe 3 tnil [some [],some [13],none,none,none] (by kernel_rfl) fun p s k=>by kernel_rfl
def f77:FT:=fun p s k=>hd s fun a0 s0=>
 nl s0<|
 ken false .s a0 .nils fun v1=>
 kif v1
 (k [.nils] p)
 (kbs p 0 [] [] fun v2 p3=>
 kap p3 2 32 v2 a0 fun v4 p5=>
 k [v4] p5)
theorem o77:FO EN 77 f77:=fe 1 tnil [none] (by kernel_rfl) fun p s k=>by kernel_rfl
def f79:FT:=fun p s k=>hd s fun a0 s0=>
 hd s0 fun a1 s1=>
 hd s1 fun a2 s2=>
 hd s2 fun a3 s3=>
 nl s3<|
 kla p 1 a2 fun v4=>
 kfa 0 a3 fun v5=>
 kld p v5 fun v6=>
 ci f80 p [v4,v6,a0,a1] fun v7 p8=>
 kex v7 0 fun v9=>
 kex v7 1 fun v10=>
 k [v9] p8
theorem o79:FO EN 79 f79:=fe 4 (tc (ci_ok o80) tnil) [] (by kernel_rfl) fun p s k=>by kernel_rfl
def t78:List Ce:=[⟨133,ci f133⟩,⟨79,ci f79⟩]
def f78:FT:=fun p s k=>hd s fun a0 s0=>
 hd s0 fun a1 s1=>
 nl s1<|
 kbx p 4 a0 fun v2 p3=>
 kla p3 4 v2 fun v4=>
 ci f133 p3 [v4] fun v5 p6=>
 kex v5 0 fun v7=>
 kex v5 1 fun v8=>
 kln v7 fun v9=>
 kms p6 6 96 q109 v9 v9 fun v10 p11=>
 kln v7 fun v12=>
 jn 0 (fun j13=>
 lp 2 fuel (fun r14 v15 v16 p17=>
 klt v16 v12 fun v18=>
 kif v18
 (kia 5 v7 v16 fun v19=>
 kla p17 5 v19 fun v20=>
 kal p17 q89 fun v21 p22=>
 kst p22 5 v21 v20 fun p23=>
 kfa 0 v21 fun v24=>
 kld p23 v24 fun v25=>
 kfa 1 v21 fun v26=>
 kld p23 v26 fun v27=>
 kfa 2 v21 fun v28=>
 kld p23 v28 fun v29=>
 kfa 3 v21 fun v30=>
 kld p23 v30 fun v31=>
 kbd q109 [(0,1,v25),(1,1,v27),(2,1,v29),(4,1,v31),(5,1,q63)] fun v32=>
 kia 6 v10 v16 fun v33=>
 kst p23 6 v33 v32 fun p34=>
 kfa 0 v21 fun v35=>
 kld p34 v35 fun v36=>
 kle v36 q7 fun v37=>
 jn 1 (fun j38 => kif v37
 (kia 6 v10 v16 fun v39=>
 kfa 5 v39 fun v40=>
 kst p34 1 v40 v15 fun p41=>
 kad v15 q44 fun v42=>
 j38 v42 p41)
 (j38 v15 p34)) fun v43 p44=>
 kfa 0 v21 fun v45=>
 kld p44 v45 fun v46=>
 keq false .i v46 q7 fun v47=>
 jn 0 (fun j48 => kif v47
 (kfa 1 v21 fun v49=>
 kld p44 v49 fun v50=>
 kfa 2 v21 fun v51=>
 kld p44 v51 fun v52=>
 kcv t78 p44 a1 [v50,v52] fun v53 p54=>
 kia 6 v10 v16 fun v55=>
 kfa 3 v55 fun v56=>
 kst p54 1 v56 v53 fun p57=>
 j48 p57)
 (j48 p44)) fun p58=>
 kad v16 q44 fun v59=>
 r14 v43 v59 p58)
 (j13 p17)) q32 q32 p11) fun p60=>
 k [v10] p60
theorem o78:FO EN 78 f78:=fe 2 (T:=t78) (tc (ci_ok o133) (tc (ci_ok o79) tnil)) [some [],some [8,21],none,none,some [8],some []] (by kernel_rfl) fun p s k=>by kernel_rfl
def f37:FT:=fun p s k=>hd s fun a0 s0=>
 nl s0<|
 kbx p 1 a0 fun v1 p2=>
 kla p2 1 v1 fun v3=>
 cn f73 p2 [v3] fun v4 p5=>
 kex v4 0 fun v6=>
 kex v4 1 fun v7=>
 kal p5 q0 fun v8 p9=>
 kst p9 1 v8 v6 fun p10=>
 keq true .i v7 q32 fun v11=>
 kif v11
 (k [.nilp,v7] p10)
 (ksw mth p10 (.mkmap) fun v12 p13=>
 kla p13 1 v8 fun v14=>
 cn f74 p13 [v14] fun v15 p16=>
 kbd q110 [(0,1,q53),(2,1,v12),(3,1,v15)] fun v17=>
 kbx p16 4 v17 fun v18 p19=>
 kfa 0 v1 fun v20=>
 kld p19 v20 fun v21=>
 kln v21 fun v22=>
 jn 0 (fun j23=>
 lp 1 fuel (fun r24 v25 p26=>
 klt v25 v22 fun v27=>
 kif v27
 (jn 0 (fun j28=>
 kia 2 v21 v25 fun v29=>
 kla p26 2 v29 fun v30=>
 kal p26 q21 fun v31 p32=>
 kst p32 2 v31 v30 fun p33=>
 kfa 1 v31 fun v34=>
 kld p33 v34 fun v35=>
 kln v35 fun v36=>
 jn 0 (fun j37=>
 lp 1 fuel (fun r38 v39 p40=>
 klt v39 v36 fun v41=>
 kif v41
 (kia 6 v35 v39 fun v42=>
 kla p40 6 v42 fun v43=>
 kal p40 q16 fun v44 p45=>
 kst p45 6 v44 v43 fun p46=>
 kfa 2 v44 fun v47=>
 kla p46 4 v47 fun v48=>
 ci f75 p46 [v48] fun v49 p50=>
 kex v49 0 fun v51=>
 kex v49 1 fun v52=>
 kal p50 q3 fun v53 p54=>
 kst p54 4 v53 v51 fun p55=>
 kla p55 1 v8 fun v56=>
 kfa 0 v31 fun v57=>
 kld p55 v57 fun v58=>
 kfa 0 v44 fun v59=>
 kld p55 v59 fun v60=>
 cn f76 p55 [v56,v58,v60] fun v61 p62=>
 kex v61 0 fun v63=>
 kex v61 1 fun v64=>
 knc mth v18 fun v65=>
 kfa 2 v65 fun v66=>
 kld (prt [] p62) v66 fun v67=>
 kfa 0 v31 fun v68=>
 kld (prt [] p62) v68 fun v69=>
 kfa 0 v44 fun v70=>
 kld (prt [] p62) v70 fun v71=>
 kbd q1 [(0,1,v69),(1,1,v71)] fun v72=>
 knc mth v18 fun v73=>
 kfa 1 v73 fun v74=>
 kld (prt [] p62) v74 fun v75=>
 kln v75 fun v76=>
 ksw mth p62 (.mapUpdate ⟨true,[(0,.s),(1,.s)]⟩ (.c v67) (.c v72) (.c v76)) fun v77 p78=>
 knc mth v18 fun v79=>
 kfa 1 v79 fun v80=>
 kld (prt [] p78) v80 fun v81=>
 kfa 0 v31 fun v82=>
 kld (prt [] p78) v82 fun v83=>
 kfa 0 v44 fun v84=>
 kld (prt [] p78) v84 fun v85=>
 knc mth v18 fun v86=>
 kfa 1 v86 fun v87=>
 kld (prt [] p78) v87 fun v88=>
 kln v88 fun v89=>
 kfa 1 v44 fun v90=>
 kld (prt [] p78) v90 fun v91=>
 cn f77 (prt [] p78) [v91] fun v92 p93=>
 unpK p78 p93 fun p94=>
 kla (prt [(p78.next,p93.next)] p94) 4 v53 fun v95=>
 ci f78 (prt [] p94) [v95,(.func (.func 79) [] [v1,v31])] fun v96 p97=>
 unpK p94 p97 fun p98=>
 kbd q111 [(0,1,v83),(1,1,v85),(2,1,v89),(3,1,v63),(4,1,v92),(5,1,v96)] fun v99=>
 kbs p98 1 q111 [(0,6,v99)] fun v100 p101=>
 kap p101 6 96 v81 v100 fun v102 p103=>
 knc mth v18 fun v104=>
 kfa 1 v104 fun v105=>
 kst p103 1 v105 v102 fun p106=>
 kad v39 q44 fun v107=>
 r38 v107 p106)
 (j37 p40)) q32 p33) fun p108=>
 j28 p108) fun p109=>
 kad v25 q44 fun v110=>
 r24 v110 p109)
 (j23 p26)) q32 p19) fun p111=>
 k [v18,q32] p111)
theorem o37:FO EN 37 f37:=fe 1 (tc (cn_ok o73) (tc (cn_ok o74) (tc (ci_ok o75) (tc (cn_ok o76) (tc (cn_ok o77) (tc (ci_ok o78) tnil)))))) [none,some [],some [31],none,some [],some [],some [38],none,none] (by kernel_rfl) fun p s k=>by kernel_rfl
def f180:FT:=fun p s k=>hd s fun a0 s0=>
 hd s0 fun a1 s1=>
 hd s1 fun a2 s2=>
 hd s2 fun a3 s3=>
 nl s3<|
 kbx p 1 a0 fun v4 p5=>
 kbx p5 1 a1 fun v6 p7=>
 kbx p7 1 a2 fun v8 p9=>
 kbx p9 1 a3 fun v10 p11=>
 k [(.func (.func 222) [] [v4,v6,v8,v10])] p11
theorem o180:FO EN 180 f180:=fe 4 tnil [] (by kernel_rfl) fun p s k=>by kernel_rfl
def tr179002:List Ce:=[]
def fr179002:FT:=fun p s k=>hd s fun pj s=>ptrK pj (fun j _=>hd s fun tv fr=>tupK tv fun vals=>ifB (Nat.beq (lenF fr) 13) (ifB (Nat.ble p.floor j) (isR0 p j (
 hdK (drK 2 fr) fun x0=>
 hd vals fun a1 s0=>
 nl s0<|
 kal p q27 fun v2 p3=>
 kst p3 6 v2 a1 fun p4=>
 isR0 p4 j (putK p4 j (some (.rnd (nat_lit 1))) fun p5=>
 kld p5 x0 fun v6=>
 kla p5 6 v2 fun v7=>
 kbs p5 1 q27 [(0,6,v7)] fun v8 p9=>
 kap p9 6 104 v6 v8 fun v10 p11=>
 kst p11 1 x0 v10 fun p12=>
 rndK p12 j fun _=>putK p12 j (some (.rnd (nat_lit 0))) fun p13=>k [.bool true] p13))))) n2
theorem or179002:FO EN 1179002 fr179002:=re (r:=179002) (N:=13) (L:=[2]) (T:=tr179002) tnil [] [none] (by kernel_rfl) fun p s k=>by kernel_rfl
def tr222004 (self:Nat→FT):List Ce:=[⟨1222008,ci (self (nat_lit 1))⟩,⟨1179002,ci fr179002⟩,⟨1222004,ci (self (nat_lit 0))⟩]
def gr222004:(Nat→FT)→FT:=fun self=>fun p s k=>hd s fun pj s=>ptrK pj (fun j _=>hd s fun tv fr=>tupK tv fun vals=>ifB (Nat.beq (lenF fr) 77) (ifB (Nat.ble p.floor j) (isR0 p j (
 hdK (drK 5 fr) fun x0=>
 hd vals fun a1 s0=>
 nl s0<|
 kal p q27 fun v2 p3=>
 kst p3 6 v2 a1 fun p4=>
 isR0 p4 j (putK p4 j (some (.rnd (nat_lit 1))) fun p5=>
 kld p5 x0 fun v6=>
 kla p5 6 v2 fun v7=>
 kcv (tr222004 self) p5 v6 [v7] fun v8 p9=>
 knt v8 fun v10=>
 kif v10
 (rndK p9 j fun _=>putK p9 j (some (.rnd (nat_lit 2))) fun p11=>k [.bool false] p11)
 (rndK p9 j fun _=>putK p9 j (some (.rnd (nat_lit 0))) fun p12=>k [.bool true] p12)))))) n2
def tr222008 (self:Nat→FT):List Ce:=[⟨1179002,ci fr179002⟩,⟨1222008,ci (self (nat_lit 1))⟩,⟨1222004,ci (self (nat_lit 0))⟩]
def gr222008:(Nat→FT)→FT:=fun self=>fun p s k=>hd s fun pj s=>ptrK pj (fun j _=>hd s fun tv fr=>tupK tv fun vals=>ifB (Nat.beq (lenF fr) 77) (ifB (Nat.ble p.floor j) (isR0 p j (
 hdK (drK 5 fr) fun x0=>
 hd vals fun a1 s0=>
 nl s0<|
 kal p q27 fun v2 p3=>
 kst p3 6 v2 a1 fun p4=>
 isR0 p4 j (putK p4 j (some (.rnd (nat_lit 1))) fun p5=>
 kld p5 x0 fun v6=>
 kla p5 6 v2 fun v7=>
 kcv (tr222008 self) p5 v6 [v7] fun v8 p9=>
 knt v8 fun v10=>
 kif v10
 (rndK p9 j fun _=>putK p9 j (some (.rnd (nat_lit 2))) fun p11=>k [.bool false] p11)
 (rndK p9 j fun _=>putK p9 j (some (.rnd (nat_lit 0))) fun p12=>k [.bool true] p12)))))) n2
def fr222004:FT:=rcM depth (bth gr222004 gr222008) (nat_lit 0)
def fr222008:FT:=rcM depth (bth gr222004 gr222008) (nat_lit 1)
theorem wr222004 (self:Nat→FT) (h0:FO EN 1222004 (self (nat_lit 0))) (h1:FO EN 1222008 (self (nat_lit 1))):FO EN 1222004 (gr222004 self):=re (r:=222004) (N:=77) (L:=[5]) (T:=tr222004 self) (tc (ci_ok h1) (tc (ci_ok or179002) (tc (ci_ok h0) tnil))) [] [none,none] (by kernel_rfl) fun p s k=>by kernel_rfl
theorem wr222008 (self:Nat→FT) (h0:FO EN 1222004 (self (nat_lit 0))) (h1:FO EN 1222008 (self (nat_lit 1))):FO EN 1222008 (gr222008 self):=re (r:=222008) (N:=77) (L:=[5]) (T:=tr222008 self) (tc (ci_ok or179002) (tc (ci_ok h1) (tc (ci_ok h0) tnil))) [] [none,none] (by kernel_rfl) fun p s k=>by kernel_rfl
theorem or222004:FO EN 1222004 fr222004:=(FO.rm wr222004 wr222008 depth).1
theorem or222008:FO EN 1222008 fr222008:=(FO.rm wr222004 wr222008 depth).2
def t222 (self:FT):List Ce:=[⟨167,cn f167⟩,⟨180,cn f180⟩,⟨1179002,ci fr179002⟩,⟨1222008,ci fr222008⟩,⟨1222004,ci fr222004⟩,⟨222,ci self⟩]
def g222:FT→FT:=fun self=>fun p s k=>hd s fun a0 s0=>
 hd s0 fun a1 s1=>
 hd s1 fun a2 s2=>
 hd s2 fun a3 s3=>
 hd s3 fun a4 s4=>
 nl s4<|
 kbx p 1 a0 fun v5 p6=>
 kld p6 a1 fun v7=>
 ken false .p v7 .nilp fun v8=>
 jn 8 (fun j9=>gdK v8 false (kld (prt [] p6) a2 fun v10=>
 kld (prt [] p6) a1 fun v11=>
 knc mth v11 fun v12=>
 kfa 8 v12 fun v13=>
 kld (prt [] p6) v13 fun v14=>
 kad v10 v14 fun v15=>
 kld (prt [] p6) a3 fun v16=>
 kle v15 v16 fun v17=>
 j9 v10 v11 v12 v13 v14 v15 v16 v17 p6) (j9 .undef .undef .undef .undef .undef .undef .undef .undef p6)) fun v18 v19 v20 v21 v22 v23 v24 v25 _=>
 kpk v8 q53 v25 fun v27=>
 jn 3 (fun j28=>gdK v27 false (kld (prt [] p6) a2 fun v29=>
 kld (prt [] p6) a4 fun v30=>
 kge v29 v30 fun v31=>
 j28 v29 v30 v31 p6) (j28 .undef .undef .undef p6)) fun v32 v33 v34 _=>
 kpk v27 q53 v34 fun v36=>
 kif v36
 (k [] p6)
 (kld (prt [] p6) a2 fun v37=>
 kld (prt [] p6) a1 fun v38=>
 knc mth v38 fun v39=>
 kfa 6 v39 fun v40=>
 kld (prt [] p6) v40 fun v41=>
 cn f167 (prt [] p6) [v41] fun v42 p43=>
 unpK p6 p43 fun p44=>
 kad v37 v42 fun v45=>
 kld (prt [] p44) a1 fun v46=>
 knc mth v46 fun v47=>
 kfa 6 v47 fun v48=>
 kld (prt [] p44) v48 fun v49=>
 kld (prt [] p44) a2 fun v50=>
 kld (prt [] p44) a3 fun v51=>
 kld (prt [] p44) a4 fun v52=>
 cn f180 p44 [v49,v50,v51,v52] fun v53 p54=>
 krg (t222 self) p54 222004 v53 (V.mk 77 [(5,v5)]) (fun p55=>
 kld p55 a3 fun v57=>
 kge v45 v57 fun v58=>
 jn 3 (fun j59=>gdK v58 true (kld p55 a4 fun v60=>
 klt v45 v60 fun v61=>
 j59 v45 v60 v61 p55) (j59 .undef .undef .undef p55)) fun v62 v63 v64 _=>
 kpk v58 v64 q43 fun v66=>
 jn 7 (fun j67=>gdK v66 true (kld (prt [] p55) v5 fun v68=>
 kld (prt [] p55) a1 fun v69=>
 knc mth v69 fun v70=>
 kfa 0 v70 fun v71=>
 kla (prt [] p55) 6 v71 fun v72=>
 kcv (t222 self) p55 v68 [v72] fun v73 p74=>
 knt v73 fun v75=>
 j67 v68 v69 v70 v71 v72 v73 v75 p74) (j67 .undef .undef .undef .undef .undef .undef .undef p55)) fun v76 v77 v78 v79 v80 v81 v82 p83=>
 kpk v66 v82 q43 fun v84=>
 kif v84
 (k [] p83)
 (kld (prt [] p83) a1 fun v85=>
 knc mth v85 fun v86=>
 kfa 7 v86 fun v87=>
 kld (prt [] p83) v87 fun v88=>
 kad v45 q44 fun v89=>
 kld (prt [] p83) a3 fun v90=>
 kld (prt [] p83) a4 fun v91=>
 cn f180 p83 [v88,v89,v90,v91] fun v92 p93=>
 krg (t222 self) p93 222008 v92 (V.mk 77 [(5,v5)]) (fun p94=>
 k [] p94) (fun p95=>
 k [] p95) [])) (fun p56=>
 k [] p56) [])
def f222:FT:=rcF depth g222
theorem o222:FO EN 222 f222:=FO.rc (fun self h=>fe 5 (T:=t222 self) (tc (cn_ok o167) (tc (cn_ok o180) (tc (ci_ok or179002) (tc (ci_ok or222008) (tc (ci_ok or222004) (tc (ci_ok h) tnil)))))) [none,none,some [5],some [],none,none,some [5],some []] (by kernel_rfl) fun p s k=>by kernel_rfl) depth
def t179:List Ce:=[⟨222,ci f222⟩]
def f179:FT:=fun p s k=>hd s fun a0 s0=>
 hd s0 fun a1 s1=>
 nl s1<|
 kbx p 1 a0 fun v2 p3=>
 krg t179 p3 179002 a1 (V.mk 13 [(2,v2)]) (fun p4=>
 kld p4 v2 fun v6=>
 k [v6] p4) (fun p5=>
 k [.nils] p5) []
theorem o179:FO EN 179 f179:=fe 2 (T:=t179) (tc (ci_ok o222) tnil) [none,some [2],some []] (by kernel_rfl) fun p s k=>by kernel_rfl
def f178:FT:=fun p s k=>hd s fun a0 s0=>
 nl s0<|
 kln a0 fun v1=>
 kln a0 fun v2=>
 ksl 6 a0 none (some v1) (some v2) fun v3=>
 k [v3] p
theorem o178:FO EN 178 f178:=fe 1 tnil [] (by kernel_rfl) fun p s k=>by kernel_rfl
def f139:FT:=fun p s k=>hd s fun a0 s0=>
 hd s0 fun a1 s1=>
 hd s1 fun a2 s2=>
 nl s2<|
 kbx p 2 a0 fun v3 p4=>
 ksw mth p4 (.minmax true [(.c a1),(.c q32)]) fun v5 p6=>
 kla p6 2 v3 fun v7=>
 cn f123 p6 [v7] fun v8 p9=>
 ksw mth p9 (.minmax false [(.c a2),(.c v8)]) fun v10 p11=>
 kge v5 v10 fun v12=>
 kif v12
 (k [.nils] p11)
 (ksb v10 v5 fun v13=>
 kms p11 6 104 q27 q32 v13 fun v14 p15=>
 kfa 1 v3 fun v16=>
 kld (prt [(p11.next,p15.next)] p15) v16 fun v17=>
 cn f180 (prt [(p11.next,p15.next)] p15) [v17,q32,v5,v10] fun v18 p19=>
 unpK p15 p19 fun p20=>
 ci f179 p20 [v14,v18] fun v21 p22=>
 ci f178 p22 [v21] fun v23 p24=>
 k [v23] p24)
theorem o139:FO EN 139 f139:=fe 3 (tc (cn_ok o123) (tc (cn_ok o180) (tc (ci_ok o179) (tc (ci_ok o178) tnil)))) [none] (by kernel_rfl) fun p s k=>by kernel_rfl
def f84:FT:=fun p s k=>hd s fun a0 s0=>
 hd s0 fun a1 s1=>
 hd s1 fun a2 s2=>
 nl s2<|
 kbx p 2 a0 fun v3 p4=>
 kfa 0 v3 fun v5=>
 kla p4 2 v5 fun v6=>
 cn f139 p4 [v6,a1,a2] fun v7 p8=>
 kln v7 fun v9=>
 kms p8 6 96 q27 v9 v9 fun v10 p11=>
 kln v7 fun v12=>
 jn 0 (fun j13=>
 lp 1 fuel (fun r14 v15 p16=>
 klt v15 v12 fun v17=>
 kif v17
 (kia 6 v7 v15 fun v18=>
 kfa 0 v18 fun v19=>
 kla p16 6 v19 fun v20=>
 kia 6 v10 v15 fun v21=>
 kst p16 6 v21 v20 fun p22=>
 kad v15 q44 fun v23=>
 r14 v23 p22)
 (j13 p16)) q32 p11) fun p24=>
 k [v10] p24
theorem o84:FO EN 84 f84:=fe 3 (tc (cn_ok o139) tnil) [some [],some [20],none,none] (by kernel_rfl) fun p s k=>by kernel_rfl
def f39:FT:=fun p s k=>hd s fun a0 s0=>
 nl s0<|
 kbx p 4 a0 fun v1 p2=>
 kfa 0 v1 fun v3=>
 kla (prt [] p2) 2 v3 fun v4=>
 kla (prt [] p2) 4 v1 fun v5=>
 cn f70 (prt [] p2) [v5] fun v6 p7=>
 unpK p2 p7 fun p8=>
 cn f84 p8 [v4,q32,v6] fun v9 p10=>
 k [v9] p10
theorem o39:FO EN 39 f39:=fe 1 (tc (cn_ok o70) (tc (cn_ok o84) tnil)) [] (by kernel_rfl) fun p s k=>by kernel_rfl
end
end Go.V
end
section
set_option maxRecDepth 100000
namespace Go.V
noncomputable section
def alD (f:Val→Val→Bool) (l:List Val):List Val→Bool:=List.rec (motive:=fun _=>List Val→Bool) (fun m=>List.rec (motive:=fun _=>Bool) true (fun _ _ _=>false) m) (fun u _ ih m=>List.rec (motive:=fun _=>Bool) false (fun v m _=>Bool.rec (motive:=fun _=>Bool) false (ih m) (f u v)) m) l
theorem allD_eq {f:Val→Val→Bool} (hf: ∀ u v,f u v=true→u=v): ∀ {l m:List Val},alD f l m=true→l=m
 |[],[],_=>rfl
 |[],_::_,h=>by cases h
 |_::_,[],h=>by cases h
 |u::l,v::m,h=>by
  have h':(Bool.rec (motive:=fun _=>Bool) false (alD f l m) (f u v))=true:=h
  obtain ⟨h1,h2⟩:=recB h'
  rw [hf _ _ h1,allD_eq hf (l:=l) (m:=m) h2]
def eqD1 (ih:Val→Val→Bool) (u v:Val):Bool:=match u,v with
 | .list c n x,.list d m y=>Bool.rec (motive:=fun _=>Bool) false (alD ih c d) (Nat.beq n m&&Nat.beq x y)
 | .ref c n,.ref d m=>Bool.rec (motive:=fun _=>Bool) false (alD ih c d) (Nat.beq n m)
 | .agg c,.agg d=>alD ih c d
 |u,v=>eqV u v
theorem eqD1_eq {ih:Val→Val→Bool} (hi: ∀ u v,ih u v=true→u=v) {u v:Val} (h:eqD1 ih u v=true):u=v:=by
 unfold eqD1 at h
 split at h
 ·obtain ⟨h1,h2⟩:=recB h
  simp only [Bool.and_eq_true] at h1
  rw [allD_eq hi h2,Nat.eq_of_beq_eq_true h1.1,Nat.eq_of_beq_eq_true h1.2]
 ·obtain ⟨h1,h2⟩:=recB h
  rw [allD_eq hi h2,Nat.eq_of_beq_eq_true h1]
 ·rw [allD_eq hi h]
 ·exact eqV_eq h
def eqD (n:Nat):Val→Val→Bool:=Nat.rec (motive:=fun _=>Val→Val→Bool) (fun _ _=>false) (fun _ ih u v=>eqD1 ih u v) n
theorem eqD_eq: ∀ (n:Nat) (u v:Val),eqD n u v=true→u=v
 |0,_,_,h=>by cases h
 |n+1,u,v,h=>eqD1_eq (eqD_eq n) (show eqD1 (eqD n) u v=true from h)
def eqDs (l m:List Val):Bool:=alD (eqD (nat_lit 40)) l m
theorem eqDs_eq {l m:List Val} (h:eqDs l m=true):l=m:=allD_eq (eqD_eq 40) h
def chkD (l0:List Val) (r:List Val) (p:Heap):AN:=outK false p r (fun l=>Bool.rec (motive:=fun _=>AN) .no (.ok false l) (eqDs l l0))
theorem pcD_of {E:Env} {f:FuncId} {F:FT} {a0 l0:List Val} (hF:FO E f F) (h0:isOk (F heapK a0 (chkD l0))=true):PC E f a0 false l0:=by
 have hn:F heapK a0 (chkD l0)≠.no :=by intro q;rw [q] at h0;cases h0
 obtain ⟨r,p',h3,h4⟩:=hF heapK a0 _ hn
 rw [h3] at hn
 have hn':outK false p' r (fun l=>Bool.rec (motive:=fun _=>AN) .no (.ok false l) (eqDs l l0))≠.no :=hn
 obtain ⟨l,h5,h6⟩:=outK_inv hn'
 rw [h6] at hn'
 have h5':outO false p' r=some l0:=by
  cases e2:eqDs l l0 with
  |false=>rw [e2] at hn';exact absurd rfl hn'
  |true=>rw [eqDs_eq e2] at h5;exact h5
 refine ⟨⟨fun h F' σ args' ks' hr ha hk=> ?_⟩⟩
 obtain ⟨n,v',h',F2,σ2,e2,s,rv⟩:=h4 h F' σ args' hr ha
 exact ⟨n,v',h',_,[],p',F2,σ2,e2,s.far,s.hr,rv,hk,r,rfl,h5'⟩
def ckD (c:CK) (a0 l0:List Val):CK:=fun p args k=>resK p false args (fun a u=>Bool.rec (motive:=fun _=>AN) (c p args k) (otcK false l0 p u k) (eqDs a a0))
theorem ckD_ok {E:Env} {f:FuncId} {c:CK} {a0 l0:List Val} (hc:CallOk E f c) (pc:PC E f a0 false l0):CallOk E f (ckD c a0 l0):=by
 intro p args k h
 unfold ckD at h ⊢
 obtain ⟨a,u,h1,h2⟩:=resK_inv h
 rw [h2] at h ⊢
 cases e1:eqDs a a0 with
 |false=>rw [e1] at h;exact hc p args k h
 |true=>
  rw [e1] at h
  have:=eqDs_eq e1
  subst this
  obtain ⟨v,q',h7,h8⟩:=otcK_inv (show otcK false l0 p u k≠.no from h)
  exact ⟨v,q',h8,fun h F' σ args' hr ha=>pc.sim hr ha h1 h7⟩
end
end Go.V
end
section
set_option maxRecDepth 1000000
set_option maxHeartbeats 0
namespace Go.V
noncomputable section
def w0:Val:=.str [100,111,99]
def w1:Val:=.str [121]
def w2:Val:=.str [118,105,101,119,101,114]
def w3:Val:=.str [103,114,111,117,112]
def w4:Val:=.str [109,101,109,98,101,114]
def w5:Val:=.str [120]
def w6:Val:=.str [117,115,101,114]
def w7:Val:=.str [98]
def w8:Val:=.str []
def w9:Val:=.str [112,97,114,101,110,116]
def w10:Val:=.str [102,111,108,100,101,114]
def w11:Val:=.str [102]
def w12:Val:=.str [111,119,110,101,114]
def w13:Val:=.str [97]
def w14:Val:=.str [103]
def w15:Val:=.str [98,97,110,110,101,100]
def u0:List Val:=eG 105 100
def u1:List Val:=eG 100 111
def u2:List Val:=eG 98 109
def u3:List Val:=eG 97 108
def u4:List Val:=eG 97 100
def u5:List Val:=[w0,w5,w2,w6,w7,w8]
def u6:List Val:=[w0,w5,w9,w10,w11,w8]
def u7:List Val:=[w0,w5,w12,w6,w13,w8]
def u8:List Val:=[w0,w5,w2,w3,w14,w4]
def u9:List Val:=eG 97 98
def u10:List Val:=eG 97 97
def u11:List Val:=eG 97 99
def u12:List Val:=eG 97 104
def u13:List Val:=eG 97 102
def u14:List Val:=eG 97 101
def u15:List Val:=eG 97 103
def u16:List Val:=eG 97 106
def u17:List Val:=eG 97 105
def u18:List Val:=eG 97 107
def u19:List Val:=eG 98 101
def u20:List Val:=eG 98 97
def u21:List Val:=eG 97 110
def u22:List Val:=eG 97 109
def u23:List Val:=eG 97 111
def u24:List Val:=eG 98 99
def u25:List Val:=eG 98 98
def u26:List Val:=eG 98 100
def u27:List Val:=eG 98 105
def u28:List Val:=eG 98 103
def u29:List Val:=eG 98 102
def u30:List Val:=eG 98 104
def u31:List Val:=eG 98 107
def u32:List Val:=eG 98 106
def u33:List Val:=eG 98 108
def u34:List Val:=eG 99 110
def u35:List Val:=eG 99 102
def u36:List Val:=eG 99 98
def u37:List Val:=eG 98 111
def u38:List Val:=eG 98 110
def u39:List Val:=eG 99 97
def u40:List Val:=eG 99 100
def u41:List Val:=eG 99 99
def u42:List Val:=eG 99 101
def u43:List Val:=eG 99 106
def u44:List Val:=eG 99 104
def u45:List Val:=eG 99 103
def u46:List Val:=eG 99 105
def u47:List Val:=eG 99 108
def u48:List Val:=eG 99 107
def u49:List Val:=eG 99 109
def u50:List Val:=eG 100 103
def u51:List Val:=eG 100 99
def u52:List Val:=eG 100 97
def u53:List Val:=eG 99 111
def u54:List Val:=eG 100 98
def u55:List Val:=eG 100 101
def u56:List Val:=eG 100 100
def u57:List Val:=eG 100 102
def u58:List Val:=eG 100 107
def u59:List Val:=eG 100 105
def u60:List Val:=eG 100 104
def u61:List Val:=eG 100 106
def u62:List Val:=eG 100 109
def u63:List Val:=eG 100 108
def u64:List Val:=eG 100 110
def u65:List Val:=eG 103 98
def u66:List Val:=eG 102 97
def u67:List Val:=eG 101 104
def u68:List Val:=eG 101 100
def u69:List Val:=eG 101 98
def u70:List Val:=eG 101 97
def u71:List Val:=eG 101 99
def u72:List Val:=eG 101 102
def u73:List Val:=eG 101 101
def u74:List Val:=eG 101 103
def u75:List Val:=eG 101 108
def u76:List Val:=eG 101 106
def u77:List Val:=eG 101 105
def u78:List Val:=eG 101 107
def u79:List Val:=eG 101 110
def u80:List Val:=eG 101 109
def u81:List Val:=eG 101 111
def u82:List Val:=eG 102 105
def u83:List Val:=eG 102 101
def u84:List Val:=eG 102 99
def u85:List Val:=eG 102 98
def u86:List Val:=eG 102 100
def u87:List Val:=eG 102 103
def u88:List Val:=eG 102 102
def u89:List Val:=eG 102 104
def u90:List Val:=eG 102 109
def u91:List Val:=eG 102 107
def u92:List Val:=eG 102 106
def u93:List Val:=eG 102 108
def u94:List Val:=eG 102 111
def u95:List Val:=eG 102 110
def u96:List Val:=eG 103 97
def u97:List Val:=eG 104 99
def u98:List Val:=eG 103 106
def u99:List Val:=eG 103 102
def u100:List Val:=eG 103 100
def u101:List Val:=eG 103 99
def u102:List Val:=eG 103 101
def u103:List Val:=eG 103 104
def u104:List Val:=eG 103 103
def u105:List Val:=eG 103 105
def u106:List Val:=eG 103 110
def u107:List Val:=eG 103 108
def u108:List Val:=eG 103 107
def u109:List Val:=eG 103 109
def u110:List Val:=eG 104 97
def u111:List Val:=eG 103 111
def u112:List Val:=eG 104 98
def u113:List Val:=eG 104 107
def u114:List Val:=eG 104 103
def u115:List Val:=eG 104 101
def u116:List Val:=eG 104 100
def u117:List Val:=eG 104 102
def u118:List Val:=eG 104 105
def u119:List Val:=eG 104 104
def u120:List Val:=eG 104 106
def u121:List Val:=eG 104 111
def u122:List Val:=eG 104 109
def u123:List Val:=eG 104 108
def u124:List Val:=eG 104 110
def u125:List Val:=eG 105 98
def u126:List Val:=eG 105 97
def u127:List Val:=eG 105 99
def u128:List Val:=eG 109 104
def u129:List Val:=eG 107 102
def u130:List Val:=eG 106 101
def u131:List Val:=eG 105 108
def u132:List Val:=eG 105 104
def u133:List Val:=eG 105 102
def u134:List Val:=eG 105 101
def u135:List Val:=eG 105 103
def u136:List Val:=eG 105 106
def u137:List Val:=eG 105 105
def u138:List Val:=eG 105 107
def u139:List Val:=eG 106 97
def u140:List Val:=eG 105 110
def u141:List Val:=eG 105 109
def u142:List Val:=eG 105 111
def u143:List Val:=eG 106 99
def u144:List Val:=eG 106 98
def u145:List Val:=eG 106 100
def u146:List Val:=eG 106 109
def u147:List Val:=eG 106 105
def u148:List Val:=eG 106 103
def u149:List Val:=eG 106 102
def u150:List Val:=eG 106 104
def u151:List Val:=eG 106 107
def u152:List Val:=eG 106 106
def u153:List Val:=eG 106 108
def u154:List Val:=eG 107 98
def u155:List Val:=eG 106 111
def u156:List Val:=eG 106 110
def u157:List Val:=eG 107 97
def u158:List Val:=eG 107 100
def u159:List Val:=eG 107 99
def u160:List Val:=eG 107 101
def u161:List Val:=eG 108 103
def u162:List Val:=eG 107 110
def u163:List Val:=eG 107 106
def u164:List Val:=eG 107 104
def u165:List Val:=eG 107 103
def u166:List Val:=eG 107 105
def u167:List Val:=eG 107 108
def u168:List Val:=eG 107 107
def u169:List Val:=eG 107 109
def u170:List Val:=eG 108 99
def u171:List Val:=eG 108 97
def u172:List Val:=eG 107 111
def u173:List Val:=eG 108 98
def u174:List Val:=eG 108 101
def u175:List Val:=eG 108 100
def u176:List Val:=eG 108 102
def u177:List Val:=eG 108 111
def u178:List Val:=eG 108 107
def u179:List Val:=eG 108 105
def u180:List Val:=eG 108 104
def u181:List Val:=eG 108 106
def u182:List Val:=eG 108 109
def u183:List Val:=eG 108 108
def u184:List Val:=eG 108 110
def u185:List Val:=eG 109 100
def u186:List Val:=eG 109 98
def u187:List Val:=eG 109 97
def u188:List Val:=eG 109 99
def u189:List Val:=eG 109 102
def u190:List Val:=eG 109 101
def u191:List Val:=eG 109 103
def u192:List Val:=eG 113 108
def u193:List Val:=eG 111 106
def u194:List Val:=eG 110 105
def u195:List Val:=eG 110 97
def u196:List Val:=eG 109 108
def u197:List Val:=eG 109 106
def u198:List Val:=eG 109 105
def u199:List Val:=eG 109 107
def u200:List Val:=eG 109 110
def u201:List Val:=eG 109 109
def u202:List Val:=eG 109 111
def u203:List Val:=eG 110 101
def u204:List Val:=eG 110 99
def u205:List Val:=eG 110 98
def u206:List Val:=eG 110 100
def u207:List Val:=eG 110 103
def u208:List Val:=eG 110 102
def u209:List Val:=eG 110 104
def u210:List Val:=eG 111 98
def u211:List Val:=eG 110 109
def u212:List Val:=eG 110 107
def u213:List Val:=eG 110 106
def u214:List Val:=eG 110 108
def u215:List Val:=eG 110 111
def u216:List Val:=eG 110 110
def u217:List Val:=eG 111 97
def u218:List Val:=eG 111 102
def u219:List Val:=eG 111 100
def u220:List Val:=eG 111 99
def u221:List Val:=eG 111 101
def u222:List Val:=eG 111 104
def u223:List Val:=eG 111 103
def u224:List Val:=eG 111 105
def u225:List Val:=eG 112 107
def u226:List Val:=eG 112 99
def u227:List Val:=eG 111 110
def u228:List Val:=eG 111 108
def u229:List Val:=eG 111 107
def u230:List Val:=eG 111 109
def u231:List Val:=eG 112 97
def u232:List Val:=eG 111 111
def u233:List Val:=eG 112 98
def u234:List Val:=eG 112 103
def u235:List Val:=eG 112 101
def u236:List Val:=eG 112 100
def u237:List Val:=eG 112 102
def u238:List Val:=eG 112 105
def u239:List Val:=eG 112 104
def u240:List Val:=eG 112 106
def u241:List Val:=eG 113 100
def u242:List Val:=eG 112 111
def u243:List Val:=eG 112 109
def u244:List Val:=eG 112 108
def u245:List Val:=eG 112 110
def u246:List Val:=eG 113 98
def u247:List Val:=eG 113 97
def u248:List Val:=eG 113 99
def u249:List Val:=eG 113 104
def u250:List Val:=eG 113 102
def u251:List Val:=eG 113 101
def u252:List Val:=eG 113 103
def u253:List Val:=eG 113 106
def u254:List Val:=eG 113 105
def u255:List Val:=eG 113 107
def u256:List Val:=eG 115 110
def u257:List Val:=eG 114 109
def u258:List Val:=eG 114 101
def u259:List Val:=eG 114 97
def u260:List Val:=eG 113 110
def u261:List Val:=eG 113 109
def u262:List Val:=eG 113 111
def u263:List Val:=eG 114 99
def u264:List Val:=eG 114 98
def u265:List Val:=eG 114 100
def u266:List Val:=eG 114 105
def u267:List Val:=eG 114 103
def u268:List Val:=eG 114 102
def u269:List Val:=eG 114 104
def u270:List Val:=eG 114 107
def u271:List Val:=eG 114 106
def u272:List Val:=eG 114 108
def u273:List Val:=eG 115 102
def u274:List Val:=eG 115 98
def u275:List Val:=eG 114 111
def u276:List Val:=eG 114 110
def u277:List Val:=eG 115 97
def u278:List Val:=eG 115 100
def u279:List Val:=eG 115 99
def u280:List Val:=eG 115 101
def u281:List Val:=eG 115 106
def u282:List Val:=eG 115 104
def u283:List Val:=eG 115 103
def u284:List Val:=eG 115 105
def u285:List Val:=eG 115 108
def u286:List Val:=eG 115 107
def u287:List Val:=eG 115 109
def u288:List Val:=eG 116 103
def u289:List Val:=eG 116 99
def u290:List Val:=eG 116 97
def u291:List Val:=eG 115 111
def u292:List Val:=eG 116 98
def u293:List Val:=eG 116 101
def u294:List Val:=eG 116 100
def u295:List Val:=eG 116 102
def u296:List Val:=eG 116 107
def u297:List Val:=eG 116 105
def u298:List Val:=eG 116 104
def u299:List Val:=eG 116 106
def u300:List Val:=eG 116 109
def u301:List Val:=eG 116 108
def u302:List Val:=eG 116 110
def u303:List Val:=eG 116 111
def nd (t:List Val) (n d:Nat) (l r:Val):Val:=.ref (catE t [l,r,.int .i64 (.ofNat n),.int .i64 (.ofNat d)]) (nat_lit 0)
def vl0:Val:=.agg [.func (.func (nat_lit 34)) [] [],nd u0 304 9 (nd u1 127 7 (nd u2 63 6 (nd u3 31 5 (nd u4 15 4 (nd u5 7 3 (nd u6 3 2 (nd u7 1 1 .nilp .nilp) (nd u8 1 1 .nilp .nilp)) (nd u9 3 2 (nd u10 1 1 .nilp .nilp) (nd u11 1 1 .nilp .nilp))) (nd u12 7 3 (nd u13 3 2 (nd u14 1 1 .nilp .nilp) (nd u15 1 1 .nilp .nilp)) (nd u16 3 2 (nd u17 1 1 .nilp .nilp) (nd u18 1 1 .nilp .nilp)))) (nd u19 15 4 (nd u20 7 3 (nd u21 3 2 (nd u22 1 1 .nilp .nilp) (nd u23 1 1 .nilp .nilp)) (nd u24 3 2 (nd u25 1 1 .nilp .nilp) (nd u26 1 1 .nilp .nilp))) (nd u27 7 3 (nd u28 3 2 (nd u29 1 1 .nilp .nilp) (nd u30 1 1 .nilp .nilp)) (nd u31 3 2 (nd u32 1 1 .nilp .nilp) (nd u33 1 1 .nilp .nilp))))) (nd u34 31 5 (nd u35 15 4 (nd u36 7 3 (nd u37 3 2 (nd u38 1 1 .nilp .nilp) (nd u39 1 1 .nilp .nilp)) (nd u40 3 2 (nd u41 1 1 .nilp .nilp) (nd u42 1 1 .nilp .nilp))) (nd u43 7 3 (nd u44 3 2 (nd u45 1 1 .nilp .nilp) (nd u46 1 1 .nilp .nilp)) (nd u47 3 2 (nd u48 1 1 .nilp .nilp) (nd u49 1 1 .nilp .nilp)))) (nd u50 15 4 (nd u51 7 3 (nd u52 3 2 (nd u53 1 1 .nilp .nilp) (nd u54 1 1 .nilp .nilp)) (nd u55 3 2 (nd u56 1 1 .nilp .nilp) (nd u57 1 1 .nilp .nilp))) (nd u58 7 3 (nd u59 3 2 (nd u60 1 1 .nilp .nilp) (nd u61 1 1 .nilp .nilp)) (nd u62 3 2 (nd u63 1 1 .nilp .nilp) (nd u64 1 1 .nilp .nilp)))))) (nd u65 63 6 (nd u66 31 5 (nd u67 15 4 (nd u68 7 3 (nd u69 3 2 (nd u70 1 1 .nilp .nilp) (nd u71 1 1 .nilp .nilp)) (nd u72 3 2 (nd u73 1 1 .nilp .nilp) (nd u74 1 1 .nilp .nilp))) (nd u75 7 3 (nd u76 3 2 (nd u77 1 1 .nilp .nilp) (nd u78 1 1 .nilp .nilp)) (nd u79 3 2 (nd u80 1 1 .nilp .nilp) (nd u81 1 1 .nilp .nilp)))) (nd u82 15 4 (nd u83 7 3 (nd u84 3 2 (nd u85 1 1 .nilp .nilp) (nd u86 1 1 .nilp .nilp)) (nd u87 3 2 (nd u88 1 1 .nilp .nilp) (nd u89 1 1 .nilp .nilp))) (nd u90 7 3 (nd u91 3 2 (nd u92 1 1 .nilp .nilp) (nd u93 1 1 .nilp .nilp)) (nd u94 3 2 (nd u95 1 1 .nilp .nilp) (nd u96 1 1 .nilp .nilp))))) (nd u97 31 5 (nd u98 15 4 (nd u99 7 3 (nd u100 3 2 (nd u101 1 1 .nilp .nilp) (nd u102 1 1 .nilp .nilp)) (nd u103 3 2 (nd u104 1 1 .nilp .nilp) (nd u105 1 1 .nilp .nilp))) (nd u106 7 3 (nd u107 3 2 (nd u108 1 1 .nilp .nilp) (nd u109 1 1 .nilp .nilp)) (nd u110 3 2 (nd u111 1 1 .nilp .nilp) (nd u112 1 1 .nilp .nilp)))) (nd u113 15 4 (nd u114 7 3 (nd u115 3 2 (nd u116 1 1 .nilp .nilp) (nd u117 1 1 .nilp .nilp)) (nd u118 3 2 (nd u119 1 1 .nilp .nilp) (nd u120 1 1 .nilp .nilp))) (nd u121 7 3 (nd u122 3 2 (nd u123 1 1 .nilp .nilp) (nd u124 1 1 .nilp .nilp)) (nd u125 3 2 (nd u126 1 1 .nilp .nilp) (nd u127 1 1 .nilp .nilp))))))) (nd u128 176 8 (nd u129 63 6 (nd u130 31 5 (nd u131 15 4 (nd u132 7 3 (nd u133 3 2 (nd u134 1 1 .nilp .nilp) (nd u135 1 1 .nilp .nilp)) (nd u136 3 2 (nd u137 1 1 .nilp .nilp) (nd u138 1 1 .nilp .nilp))) (nd u139 7 3 (nd u140 3 2 (nd u141 1 1 .nilp .nilp) (nd u142 1 1 .nilp .nilp)) (nd u143 3 2 (nd u144 1 1 .nilp .nilp) (nd u145 1 1 .nilp .nilp)))) (nd u146 15 4 (nd u147 7 3 (nd u148 3 2 (nd u149 1 1 .nilp .nilp) (nd u150 1 1 .nilp .nilp)) (nd u151 3 2 (nd u152 1 1 .nilp .nilp) (nd u153 1 1 .nilp .nilp))) (nd u154 7 3 (nd u155 3 2 (nd u156 1 1 .nilp .nilp) (nd u157 1 1 .nilp .nilp)) (nd u158 3 2 (nd u159 1 1 .nilp .nilp) (nd u160 1 1 .nilp .nilp))))) (nd u161 31 5 (nd u162 15 4 (nd u163 7 3 (nd u164 3 2 (nd u165 1 1 .nilp .nilp) (nd u166 1 1 .nilp .nilp)) (nd u167 3 2 (nd u168 1 1 .nilp .nilp) (nd u169 1 1 .nilp .nilp))) (nd u170 7 3 (nd u171 3 2 (nd u172 1 1 .nilp .nilp) (nd u173 1 1 .nilp .nilp)) (nd u174 3 2 (nd u175 1 1 .nilp .nilp) (nd u176 1 1 .nilp .nilp)))) (nd u177 15 4 (nd u178 7 3 (nd u179 3 2 (nd u180 1 1 .nilp .nilp) (nd u181 1 1 .nilp .nilp)) (nd u182 3 2 (nd u183 1 1 .nilp .nilp) (nd u184 1 1 .nilp .nilp))) (nd u185 7 3 (nd u186 3 2 (nd u187 1 1 .nilp .nilp) (nd u188 1 1 .nilp .nilp)) (nd u189 3 2 (nd u190 1 1 .nilp .nilp) (nd u191 1 1 .nilp .nilp)))))) (nd u192 112 7 (nd u193 63 6 (nd u194 31 5 (nd u195 15 4 (nd u196 7 3 (nd u197 3 2 (nd u198 1 1 .nilp .nilp) (nd u199 1 1 .nilp .nilp)) (nd u200 3 2 (nd u201 1 1 .nilp .nilp) (nd u202 1 1 .nilp .nilp))) (nd u203 7 3 (nd u204 3 2 (nd u205 1 1 .nilp .nilp) (nd u206 1 1 .nilp .nilp)) (nd u207 3 2 (nd u208 1 1 .nilp .nilp) (nd u209 1 1 .nilp .nilp)))) (nd u210 15 4 (nd u211 7 3 (nd u212 3 2 (nd u213 1 1 .nilp .nilp) (nd u214 1 1 .nilp .nilp)) (nd u215 3 2 (nd u216 1 1 .nilp .nilp) (nd u217 1 1 .nilp .nilp))) (nd u218 7 3 (nd u219 3 2 (nd u220 1 1 .nilp .nilp) (nd u221 1 1 .nilp .nilp)) (nd u222 3 2 (nd u223 1 1 .nilp .nilp) (nd u224 1 1 .nilp .nilp))))) (nd u225 31 5 (nd u226 15 4 (nd u227 7 3 (nd u228 3 2 (nd u229 1 1 .nilp .nilp) (nd u230 1 1 .nilp .nilp)) (nd u231 3 2 (nd u232 1 1 .nilp .nilp) (nd u233 1 1 .nilp .nilp))) (nd u234 7 3 (nd u235 3 2 (nd u236 1 1 .nilp .nilp) (nd u237 1 1 .nilp .nilp)) (nd u238 3 2 (nd u239 1 1 .nilp .nilp) (nd u240 1 1 .nilp .nilp)))) (nd u241 15 4 (nd u242 7 3 (nd u243 3 2 (nd u244 1 1 .nilp .nilp) (nd u245 1 1 .nilp .nilp)) (nd u246 3 2 (nd u247 1 1 .nilp .nilp) (nd u248 1 1 .nilp .nilp))) (nd u249 7 3 (nd u250 3 2 (nd u251 1 1 .nilp .nilp) (nd u252 1 1 .nilp .nilp)) (nd u253 3 2 (nd u254 1 1 .nilp .nilp) (nd u255 1 1 .nilp .nilp)))))) (nd u256 48 6 (nd u257 31 5 (nd u258 15 4 (nd u259 7 3 (nd u260 3 2 (nd u261 1 1 .nilp .nilp) (nd u262 1 1 .nilp .nilp)) (nd u263 3 2 (nd u264 1 1 .nilp .nilp) (nd u265 1 1 .nilp .nilp))) (nd u266 7 3 (nd u267 3 2 (nd u268 1 1 .nilp .nilp) (nd u269 1 1 .nilp .nilp)) (nd u270 3 2 (nd u271 1 1 .nilp .nilp) (nd u272 1 1 .nilp .nilp)))) (nd u273 15 4 (nd u274 7 3 (nd u275 3 2 (nd u276 1 1 .nilp .nilp) (nd u277 1 1 .nilp .nilp)) (nd u278 3 2 (nd u279 1 1 .nilp .nilp) (nd u280 1 1 .nilp .nilp))) (nd u281 7 3 (nd u282 3 2 (nd u283 1 1 .nilp .nilp) (nd u284 1 1 .nilp .nilp)) (nd u285 3 2 (nd u286 1 1 .nilp .nilp) (nd u287 1 1 .nilp .nilp))))) (nd u288 16 5 (nd u289 7 3 (nd u290 3 2 (nd u291 1 1 .nilp .nilp) (nd u292 1 1 .nilp .nilp)) (nd u293 3 2 (nd u294 1 1 .nilp .nilp) (nd u295 1 1 .nilp .nilp))) (nd u296 8 4 (nd u297 3 2 (nd u298 1 1 .nilp .nilp) (nd u299 1 1 .nilp .nilp)) (nd u300 4 3 (nd u301 1 1 .nilp .nilp) (nd u302 2 2 .nilp (nd u303 1 1 .nilp .nilp)))))))),.func (.func (nat_lit 72)) [] [],nd u196 304 9 (nd u99 193 8 (nd u54 97 7 (nd u30 47 6 (nd u18 23 5 (nd u14 11 4 (nd u11 5 3 (nd u10 3 2 (nd u6 1 1 .nilp .nilp) (nd u9 1 1 .nilp .nilp)) (nd u4 1 1 .nilp .nilp)) (nd u17 5 3 (nd u15 3 2 (nd u13 1 1 .nilp .nilp) (nd u12 1 1 .nilp .nilp)) (nd u16 1 1 .nilp .nilp))) (nd u25 11 4 (nd u23 5 3 (nd u22 3 2 (nd u3 1 1 .nilp .nilp) (nd u21 1 1 .nilp .nilp)) (nd u20 1 1 .nilp .nilp)) (nd u29 5 3 (nd u26 3 2 (nd u24 1 1 .nilp .nilp) (nd u19 1 1 .nilp .nilp)) (nd u28 1 1 .nilp .nilp)))) (nd u42 23 5 (nd u38 11 4 (nd u33 5 3 (nd u32 3 2 (nd u27 1 1 .nilp .nilp) (nd u31 1 1 .nilp .nilp)) (nd u2 1 1 .nilp .nilp)) (nd u41 5 3 (nd u39 3 2 (nd u37 1 1 .nilp .nilp) (nd u36 1 1 .nilp .nilp)) (nd u40 1 1 .nilp .nilp))) (nd u48 11 4 (nd u46 5 3 (nd u45 3 2 (nd u35 1 1 .nilp .nilp) (nd u44 1 1 .nilp .nilp)) (nd u43 1 1 .nilp .nilp)) (nd u53 5 3 (nd u49 3 2 (nd u47 1 1 .nilp .nilp) (nd u34 1 1 .nilp .nilp)) (nd u52 1 1 .nilp .nilp))))) (nd u78 49 6 (nd u64 23 5 (nd u60 11 4 (nd u57 5 3 (nd u56 3 2 (nd u51 1 1 .nilp .nilp) (nd u55 1 1 .nilp .nilp)) (nd u50 1 1 .nilp .nilp)) (nd u63 5 3 (nd u61 3 2 (nd u59 1 1 .nilp .nilp) (nd u58 1 1 .nilp .nilp)) (nd u62 1 1 .nilp .nilp))) (nd u73 11 4 (nd u71 5 3 (nd u70 3 2 (nd u1 1 1 .nilp .nilp) (nd u69 1 1 .nilp .nilp)) (nd u68 1 1 .nilp .nilp)) (nd u77 5 3 (nd u74 3 2 (nd u72 1 1 .nilp .nilp) (nd u67 1 1 .nilp .nilp)) (nd u76 1 1 .nilp .nilp)))) (nd u89 25 5 (nd u85 11 4 (nd u81 5 3 (nd u80 3 2 (nd u75 1 1 .nilp .nilp) (nd u79 1 1 .nilp .nilp)) (nd u66 1 1 .nilp .nilp)) (nd u88 5 3 (nd u86 3 2 (nd u84 1 1 .nilp .nilp) (nd u83 1 1 .nilp .nilp)) (nd u87 1 1 .nilp .nilp))) (nd u8 13 4 (nd u93 7 3 (nd u92 3 2 (nd u82 1 1 .nilp .nilp) (nd u91 1 1 .nilp .nilp)) (nd u95 3 2 (nd u90 1 1 .nilp .nilp) (nd u94 1 1 .nilp .nilp))) (nd u101 5 3 (nd u65 2 2 (nd u96 1 1 .nilp .nilp) .nilp) (nd u102 2 2 (nd u100 1 1 .nilp .nilp) .nilp)))))) (nd u147 95 7 (nd u121 47 6 (nd u97 23 5 (nd u107 11 4 (nd u105 5 3 (nd u103 2 2 (nd u104 1 1 .nilp .nilp) .nilp) (nd u108 2 2 (nd u98 1 1 .nilp .nilp) .nilp)) (nd u111 5 3 (nd u106 2 2 (nd u109 1 1 .nilp .nilp) .nilp) (nd u112 2 2 (nd u110 1 1 .nilp .nilp) .nilp))) (nd u118 11 4 (nd u117 5 3 (nd u115 2 2 (nd u116 1 1 .nilp .nilp) .nilp) (nd u119 2 2 (nd u114 1 1 .nilp .nilp) .nilp)) (nd u123 5 3 (nd u113 2 2 (nd u120 1 1 .nilp .nilp) .nilp) (nd u124 2 2 (nd u122 1 1 .nilp .nilp) .nilp)))) (nd u131 23 5 (nd u133 11 4 (nd u127 5 3 (nd u125 2 2 (nd u126 1 1 .nilp .nilp) .nilp) (nd u134 2 2 (nd u0 1 1 .nilp .nilp) .nilp)) (nd u137 5 3 (nd u132 2 2 (nd u135 1 1 .nilp .nilp) .nilp) (nd u138 2 2 (nd u136 1 1 .nilp .nilp) .nilp))) (nd u143 11 4 (nd u142 5 3 (nd u140 2 2 (nd u141 1 1 .nilp .nilp) .nilp) (nd u144 2 2 (nd u139 1 1 .nilp .nilp) .nilp)) (nd u149 5 3 (nd u130 2 2 (nd u145 1 1 .nilp .nilp) .nilp) (nd u150 2 2 (nd u148 1 1 .nilp .nilp) .nilp))))) (nd u170 47 6 (nd u129 23 5 (nd u155 11 4 (nd u153 5 3 (nd u151 2 2 (nd u152 1 1 .nilp .nilp) .nilp) (nd u156 2 2 (nd u146 1 1 .nilp .nilp) .nilp)) (nd u159 5 3 (nd u154 2 2 (nd u157 1 1 .nilp .nilp) .nilp) (nd u160 2 2 (nd u158 1 1 .nilp .nilp) .nilp))) (nd u167 11 4 (nd u166 5 3 (nd u164 2 2 (nd u165 1 1 .nilp .nilp) .nilp) (nd u168 2 2 (nd u163 1 1 .nilp .nilp) .nilp)) (nd u172 5 3 (nd u162 2 2 (nd u169 1 1 .nilp .nilp) .nilp) (nd u173 2 2 (nd u171 1 1 .nilp .nilp) .nilp)))) (nd u177 23 5 (nd u179 11 4 (nd u176 5 3 (nd u174 2 2 (nd u175 1 1 .nilp .nilp) .nilp) (nd u180 2 2 (nd u161 1 1 .nilp .nilp) .nilp)) (nd u183 5 3 (nd u178 2 2 (nd u181 1 1 .nilp .nilp) .nilp) (nd u184 2 2 (nd u182 1 1 .nilp .nilp) .nilp))) (nd u189 11 4 (nd u188 5 3 (nd u186 2 2 (nd u187 1 1 .nilp .nilp) .nilp) (nd u190 2 2 (nd u185 1 1 .nilp .nilp) .nilp)) (nd u198 5 3 (nd u128 2 2 (nd u191 1 1 .nilp .nilp) .nilp) (nd u199 2 2 (nd u197 1 1 .nilp .nilp) .nilp))))))) (nd u242 110 8 (nd u218 47 6 (nd u194 23 5 (nd u204 11 4 (nd u202 5 3 (nd u200 2 2 (nd u201 1 1 .nilp .nilp) .nilp) (nd u205 2 2 (nd u195 1 1 .nilp .nilp) .nilp)) (nd u208 5 3 (nd u203 2 2 (nd u206 1 1 .nilp .nilp) .nilp) (nd u209 2 2 (nd u207 1 1 .nilp .nilp) .nilp))) (nd u215 11 4 (nd u214 5 3 (nd u212 2 2 (nd u213 1 1 .nilp .nilp) .nilp) (nd u216 2 2 (nd u211 1 1 .nilp .nilp) .nilp)) (nd u220 5 3 (nd u210 2 2 (nd u217 1 1 .nilp .nilp) .nilp) (nd u221 2 2 (nd u219 1 1 .nilp .nilp) .nilp)))) (nd u226 23 5 (nd u228 11 4 (nd u224 5 3 (nd u222 2 2 (nd u223 1 1 .nilp .nilp) .nilp) (nd u229 2 2 (nd u193 1 1 .nilp .nilp) .nilp)) (nd u232 5 3 (nd u227 2 2 (nd u230 1 1 .nilp .nilp) .nilp) (nd u233 2 2 (nd u231 1 1 .nilp .nilp) .nilp))) (nd u238 11 4 (nd u237 5 3 (nd u235 2 2 (nd u236 1 1 .nilp .nilp) .nilp) (nd u239 2 2 (nd u234 1 1 .nilp .nilp) .nilp)) (nd u244 5 3 (nd u225 2 2 (nd u240 1 1 .nilp .nilp) .nilp) (nd u245 2 2 (nd u243 1 1 .nilp .nilp) .nilp))))) (nd u266 62 7 (nd u192 23 5 (nd u250 11 4 (nd u248 5 3 (nd u246 2 2 (nd u247 1 1 .nilp .nilp) .nilp) (nd u251 2 2 (nd u241 1 1 .nilp .nilp) .nilp)) (nd u254 5 3 (nd u249 2 2 (nd u252 1 1 .nilp .nilp) .nilp) (nd u255 2 2 (nd u253 1 1 .nilp .nilp) .nilp))) (nd u263 11 4 (nd u262 5 3 (nd u260 2 2 (nd u261 1 1 .nilp .nilp) .nilp) (nd u264 2 2 (nd u259 1 1 .nilp .nilp) .nilp)) (nd u268 5 3 (nd u258 2 2 (nd u265 1 1 .nilp .nilp) .nilp) (nd u269 2 2 (nd u267 1 1 .nilp .nilp) .nilp)))) (nd u289 38 6 (nd u273 23 5 (nd u275 11 4 (nd u272 5 3 (nd u270 2 2 (nd u271 1 1 .nilp .nilp) .nilp) (nd u276 2 2 (nd u257 1 1 .nilp .nilp) .nilp)) (nd u279 5 3 (nd u274 2 2 (nd u277 1 1 .nilp .nilp) .nilp) (nd u280 2 2 (nd u278 1 1 .nilp .nilp) .nilp))) (nd u285 11 4 (nd u284 5 3 (nd u282 2 2 (nd u283 1 1 .nilp .nilp) .nilp) (nd u286 2 2 (nd u281 1 1 .nilp .nilp) .nilp)) (nd u291 5 3 (nd u256 2 2 (nd u287 1 1 .nilp .nilp) .nilp) (nd u292 2 2 (nd u290 1 1 .nilp .nilp) .nilp)))) (nd u297 14 5 (nd u295 5 3 (nd u293 2 2 (nd u294 1 1 .nilp .nilp) .nilp) (nd u298 2 2 (nd u288 1 1 .nilp .nilp) .nilp)) (nd u301 8 4 (nd u296 2 2 (nd u299 1 1 .nilp .nilp) .nilp) (nd u7 5 3 (nd u302 3 2 (nd u300 1 1 .nilp .nilp) (nd u303 1 1 .nilp .nilp)) (nd u5 1 1 .nilp .nilp)))))))]
def vl1:Val:=.list (fl6 [u7,u6,u8,u5,u10,u9,u11,u4,u14,u13,u15,u12,u17,u16,u18,u3,u22,u21,u23,u20,u25,u24,u26,u19,u29,u28,u30,u27,u32,u31,u33,u2,u38,u37,u39,u36,u41,u40,u42,u35,u45,u44,u46,u43,u48,u47,u49,u34,u53,u52,u54,u51,u56,u55,u57,u50,u60,u59,u61,u58,u63,u62,u64,u1,u70,u69,u71,u68,u73,u72,u74,u67,u77,u76,u78,u75,u80,u79,u81,u66,u85,u84,u86,u83,u88,u87,u89,u82,u92,u91,u93,u90,u95,u94,u96,u65,u101,u100,u102,u99,u104,u103,u105,u98,u108,u107,u109,u106,u111,u110,u112,u97,u116,u115,u117,u114,u119,u118,u120,u113,u123,u122,u124,u121,u126,u125,u127,u0,u134,u133,u135,u132,u137,u136,u138,u131,u141,u140,u142,u139,u144,u143,u145,u130,u149,u148,u150,u147,u152,u151,u153,u146,u156,u155,u157,u154,u159,u158,u160,u129,u165,u164,u166,u163,u168,u167,u169,u162,u172,u171,u173,u170,u175,u174,u176,u161,u180,u179,u181,u178,u183,u182,u184,u177,u187,u186,u188,u185,u190,u189,u191,u128,u198,u197,u199,u196,u201,u200,u202,u195,u205,u204,u206,u203,u208,u207,u209,u194,u213,u212,u214,u211,u216,u215,u217,u210,u220,u219,u221,u218,u223,u222,u224,u193,u229,u228,u230,u227,u232,u231,u233,u226,u236,u235,u237,u234,u239,u238,u240,u225,u244,u243,u245,u242,u247,u246,u248,u241,u251,u250,u252,u249,u254,u253,u255,u192,u261,u260,u262,u259,u264,u263,u265,u258,u268,u267,u269,u266,u271,u270,u272,u257,u276,u275,u277,u274,u279,u278,u280,u273,u283,u282,u284,u281,u286,u285,u287,u256,u291,u290,u292,u289,u294,u293,u295,u288,u298,u297,u299,u296,u301,u300,u302,u303]) (nat_lit 304) (nat_lit 0)
def vl2:Val:=.agg [.list [w0,.list [w9,.list [w10,w8] (nat_lit 1) (nat_lit 0),.int .u8 (.ofNat (nat_lit 1)),w8,w8,.nils,w12,.list [w6,w8] (nat_lit 1) (nat_lit 0),.int .u8 (.ofNat (nat_lit 1)),w8,w8,.nils,w2,.list [w6,w8,w3,w4] (nat_lit 2) (nat_lit 0),.int .u8 (.ofNat (nat_lit 6)),w8,w8,.list [.int .u8 (.ofNat (nat_lit 4)),w8,w8,.list [.int .u8 (.ofNat (nat_lit 1)),w8,w8,.nils,.int .u8 (.ofNat (nat_lit 2)),w12,w8,.nils,.int .u8 (.ofNat (nat_lit 3)),w9,w2,.nils] (nat_lit 3) (nat_lit 0),.int .u8 (.ofNat (nat_lit 2)),w15,w8,.nils] (nat_lit 2) (nat_lit 0),w15,.list [w6,w8] (nat_lit 1) (nat_lit 0),.int .u8 (.ofNat (nat_lit 1)),w8,w8,.nils] (nat_lit 4) (nat_lit 0),w10,.list [w2,.list [w6,w8] (nat_lit 1) (nat_lit 0),.int .u8 (.ofNat (nat_lit 1)),w8,w8,.nils] (nat_lit 1) (nat_lit 0),w3,.list [w4,.list [w6,w8] (nat_lit 1) (nat_lit 0),.int .u8 (.ofNat (nat_lit 1)),w8,w8,.nils] (nat_lit 1) (nat_lit 0),w6,.nils] (nat_lit 4) (nat_lit 0)]
def vl3:Val:=.list [w0,w5,w9,w0,w5,w12,w0,w5,w2,w0,w5,w15,w0,w1,w9,w0,w1,w12,w0,w1,w2,w0,w1,w15,w10,w11,w2,w3,(.str [97,97]),w4,w3,(.str [97,98]),w4,w3,(.str [97,99]),w4,w3,(.str [97,100]),w4,w3,(.str [97,101]),w4,w3,(.str [97,102]),w4,w3,(.str [97,103]),w4,w3,(.str [97,104]),w4,w3,(.str [97,105]),w4,w3,(.str [97,106]),w4,w3,(.str [97,107]),w4,w3,(.str [97,108]),w4,w3,(.str [97,109]),w4,w3,(.str [97,110]),w4,w3,(.str [97,111]),w4,w3,(.str [98,97]),w4,w3,(.str [98,98]),w4,w3,(.str [98,99]),w4,w3,(.str [98,100]),w4,w3,(.str [98,101]),w4,w3,(.str [98,102]),w4,w3,(.str [98,103]),w4,w3,(.str [98,104]),w4,w3,(.str [98,105]),w4,w3,(.str [98,106]),w4,w3,(.str [98,107]),w4,w3,(.str [98,108]),w4,w3,(.str [98,109]),w4,w3,(.str [98,110]),w4,w3,(.str [98,111]),w4,w3,(.str [99,97]),w4,w3,(.str [99,98]),w4,w3,(.str [99,99]),w4,w3,(.str [99,100]),w4,w3,(.str [99,101]),w4,w3,(.str [99,102]),w4,w3,(.str [99,103]),w4,w3,(.str [99,104]),w4,w3,(.str [99,105]),w4,w3,(.str [99,106]),w4,w3,(.str [99,107]),w4,w3,(.str [99,108]),w4,w3,(.str [99,109]),w4,w3,(.str [99,110]),w4,w3,(.str [99,111]),w4,w3,(.str [100,97]),w4,w3,(.str [100,98]),w4,w3,(.str [100,99]),w4,w3,(.str [100,100]),w4,w3,(.str [100,101]),w4,w3,(.str [100,102]),w4,w3,(.str [100,103]),w4,w3,(.str [100,104]),w4,w3,(.str [100,105]),w4,w3,(.str [100,106]),w4,w3,(.str [100,107]),w4,w3,(.str [100,108]),w4,w3,(.str [100,109]),w4,w3,(.str [100,110]),w4,w3,(.str [100,111]),w4,w3,(.str [101,97]),w4,w3,(.str [101,98]),w4,w3,(.str [101,99]),w4,w3,(.str [101,100]),w4,w3,(.str [101,101]),w4,w3,(.str [101,102]),w4,w3,(.str [101,103]),w4,w3,(.str [101,104]),w4,w3,(.str [101,105]),w4,w3,(.str [101,106]),w4,w3,(.str [101,107]),w4,w3,(.str [101,108]),w4,w3,(.str [101,109]),w4,w3,(.str [101,110]),w4,w3,(.str [101,111]),w4,w3,(.str [102,97]),w4,w3,(.str [102,98]),w4,w3,(.str [102,99]),w4,w3,(.str [102,100]),w4,w3,(.str [102,101]),w4,w3,(.str [102,102]),w4,w3,(.str [102,103]),w4,w3,(.str [102,104]),w4,w3,(.str [102,105]),w4,w3,(.str [102,106]),w4,w3,(.str [102,107]),w4,w3,(.str [102,108]),w4,w3,(.str [102,109]),w4,w3,(.str [102,110]),w4,w3,(.str [102,111]),w4,w3,w14,w4,w3,(.str [103,97]),w4,w3,(.str [103,98]),w4,w3,(.str [103,99]),w4,w3,(.str [103,100]),w4,w3,(.str [103,101]),w4,w3,(.str [103,102]),w4,w3,(.str [103,103]),w4,w3,(.str [103,104]),w4,w3,(.str [103,105]),w4,w3,(.str [103,106]),w4,w3,(.str [103,107]),w4,w3,(.str [103,108]),w4,w3,(.str [103,109]),w4,w3,(.str [103,110]),w4,w3,(.str [103,111]),w4,w3,(.str [104,97]),w4,w3,(.str [104,98]),w4,w3,(.str [104,99]),w4,w3,(.str [104,100]),w4,w3,(.str [104,101]),w4,w3,(.str [104,102]),w4,w3,(.str [104,103]),w4,w3,(.str [104,104]),w4,w3,(.str [104,105]),w4,w3,(.str [104,106]),w4,w3,(.str [104,107]),w4,w3,(.str [104,108]),w4,w3,(.str [104,109]),w4,w3,(.str [104,110]),w4,w3,(.str [104,111]),w4,w3,(.str [105,97]),w4,w3,(.str [105,98]),w4,w3,(.str [105,99]),w4,w3,(.str [105,100]),w4,w3,(.str [105,101]),w4,w3,(.str [105,102]),w4,w3,(.str [105,103]),w4,w3,(.str [105,104]),w4,w3,(.str [105,105]),w4,w3,(.str [105,106]),w4,w3,(.str [105,107]),w4,w3,(.str [105,108]),w4,w3,(.str [105,109]),w4,w3,(.str [105,110]),w4,w3,(.str [105,111]),w4,w3,(.str [106,97]),w4,w3,(.str [106,98]),w4,w3,(.str [106,99]),w4,w3,(.str [106,100]),w4,w3,(.str [106,101]),w4,w3,(.str [106,102]),w4,w3,(.str [106,103]),w4,w3,(.str [106,104]),w4,w3,(.str [106,105]),w4,w3,(.str [106,106]),w4,w3,(.str [106,107]),w4,w3,(.str [106,108]),w4,w3,(.str [106,109]),w4,w3,(.str [106,110]),w4,w3,(.str [106,111]),w4,w3,(.str [107,97]),w4,w3,(.str [107,98]),w4,w3,(.str [107,99]),w4,w3,(.str [107,100]),w4,w3,(.str [107,101]),w4,w3,(.str [107,102]),w4,w3,(.str [107,103]),w4,w3,(.str [107,104]),w4,w3,(.str [107,105]),w4,w3,(.str [107,106]),w4,w3,(.str [107,107]),w4,w3,(.str [107,108]),w4,w3,(.str [107,109]),w4,w3,(.str [107,110]),w4,w3,(.str [107,111]),w4,w3,(.str [108,97]),w4,w3,(.str [108,98]),w4,w3,(.str [108,99]),w4,w3,(.str [108,100]),w4,w3,(.str [108,101]),w4,w3,(.str [108,102]),w4,w3,(.str [108,103]),w4,w3,(.str [108,104]),w4,w3,(.str [108,105]),w4,w3,(.str [108,106]),w4,w3,(.str [108,107]),w4,w3,(.str [108,108]),w4,w3,(.str [108,109]),w4,w3,(.str [108,110]),w4,w3,(.str [108,111]),w4,w3,(.str [109,97]),w4,w3,(.str [109,98]),w4,w3,(.str [109,99]),w4,w3,(.str [109,100]),w4,w3,(.str [109,101]),w4,w3,(.str [109,102]),w4,w3,(.str [109,103]),w4,w3,(.str [109,104]),w4,w3,(.str [109,105]),w4,w3,(.str [109,106]),w4,w3,(.str [109,107]),w4,w3,(.str [109,108]),w4,w3,(.str [109,109]),w4,w3,(.str [109,110]),w4,w3,(.str [109,111]),w4,w3,(.str [110,97]),w4,w3,(.str [110,98]),w4,w3,(.str [110,99]),w4,w3,(.str [110,100]),w4,w3,(.str [110,101]),w4,w3,(.str [110,102]),w4,w3,(.str [110,103]),w4,w3,(.str [110,104]),w4,w3,(.str [110,105]),w4,w3,(.str [110,106]),w4,w3,(.str [110,107]),w4,w3,(.str [110,108]),w4,w3,(.str [110,109]),w4,w3,(.str [110,110]),w4,w3,(.str [110,111]),w4,w3,(.str [111,97]),w4,w3,(.str [111,98]),w4,w3,(.str [111,99]),w4,w3,(.str [111,100]),w4,w3,(.str [111,101]),w4,w3,(.str [111,102]),w4,w3,(.str [111,103]),w4,w3,(.str [111,104]),w4,w3,(.str [111,105]),w4,w3,(.str [111,106]),w4,w3,(.str [111,107]),w4,w3,(.str [111,108]),w4,w3,(.str [111,109]),w4,w3,(.str [111,110]),w4,w3,(.str [111,111]),w4,w3,(.str [112,97]),w4,w3,(.str [112,98]),w4,w3,(.str [112,99]),w4,w3,(.str [112,100]),w4,w3,(.str [112,101]),w4,w3,(.str [112,102]),w4,w3,(.str [112,103]),w4,w3,(.str [112,104]),w4,w3,(.str [112,105]),w4,w3,(.str [112,106]),w4,w3,(.str [112,107]),w4,w3,(.str [112,108]),w4,w3,(.str [112,109]),w4,w3,(.str [112,110]),w4,w3,(.str [112,111]),w4,w3,(.str [113,97]),w4,w3,(.str [113,98]),w4,w3,(.str [113,99]),w4,w3,(.str [113,100]),w4,w3,(.str [113,101]),w4,w3,(.str [113,102]),w4,w3,(.str [113,103]),w4,w3,(.str [113,104]),w4,w3,(.str [113,105]),w4,w3,(.str [113,106]),w4,w3,(.str [113,107]),w4,w3,(.str [113,108]),w4,w3,(.str [113,109]),w4,w3,(.str [113,110]),w4,w3,(.str [113,111]),w4,w3,(.str [114,97]),w4,w3,(.str [114,98]),w4,w3,(.str [114,99]),w4,w3,(.str [114,100]),w4,w3,(.str [114,101]),w4,w3,(.str [114,102]),w4,w3,(.str [114,103]),w4,w3,(.str [114,104]),w4,w3,(.str [114,105]),w4,w3,(.str [114,106]),w4,w3,(.str [114,107]),w4,w3,(.str [114,108]),w4,w3,(.str [114,109]),w4,w3,(.str [114,110]),w4,w3,(.str [114,111]),w4,w3,(.str [115,97]),w4,w3,(.str [115,98]),w4,w3,(.str [115,99]),w4,w3,(.str [115,100]),w4,w3,(.str [115,101]),w4,w3,(.str [115,102]),w4,w3,(.str [115,103]),w4,w3,(.str [115,104]),w4,w3,(.str [115,105]),w4,w3,(.str [115,106]),w4,w3,(.str [115,107]),w4,w3,(.str [115,108]),w4,w3,(.str [115,109]),w4,w3,(.str [115,110]),w4,w3,(.str [115,111]),w4,w3,(.str [116,97]),w4,w3,(.str [116,98]),w4,w3,(.str [116,99]),w4,w3,(.str [116,100]),w4,w3,(.str [116,101]),w4,w3,(.str [116,102]),w4,w3,(.str [116,103]),w4,w3,(.str [116,104]),w4,w3,(.str [116,105]),w4,w3,(.str [116,106]),w4,w3,(.str [116,107]),w4,w3,(.str [116,108]),w4,w3,(.str [116,109]),w4,w3,(.str [116,110]),w4,w3,(.str [116,111]),w4] (nat_lit 310) (nat_lit 7)
def vl4:Val:=.list (fl6 [u10,u9,u11,u4,u14,u13,u15,u12,u17,u16,u18,u3,u22,u21,u23,u20,u25,u24,u26,u19,u29,u28,u30,u27,u32,u31,u33,u2,u38,u37,u39,u36,u41,u40,u42,u35,u45,u44,u46,u43,u48,u47,u49,u34,u53,u52,u54,u51,u56,u55,u57,u50,u60,u59,u61,u58,u63,u62,u64,u1,u70,u69,u71,u68,u73,u72,u74,u67,u77,u76,u78,u75,u80,u79,u81,u66,u85,u84,u86,u83,u88,u87,u89,u82,u92,u91,u93,u90,u95,u94,u96,u65,u101,u100,u102,u99,u104,u103,u105,u98,u108,u107,u109,u106,u111,u110,u112,u97,u116,u115,u117,u114,u119,u118,u120,u113,u123,u122,u124,u121,u126,u125,u127,u0,u134,u133,u135,u132,u137,u136,u138,u131,u141,u140,u142,u139,u144,u143,u145,u130,u149,u148,u150,u147,u152,u151,u153,u146,u156,u155,u157,u154,u159,u158,u160,u129,u165,u164,u166,u163,u168,u167,u169,u162,u172,u171,u173,u170,u175,u174,u176,u161,u180,u179,u181,u178,u183,u182,u184,u177,u187,u186,u188,u185,u190,u189,u191,u128,u198,u197,u199,u196,u201,u200,u202,u195,u205,u204,u206,u203,u208,u207,u209,u194,u213,u212,u214,u211,u216,u215,u217,u210,u220,u219,u221,u218,u223,u222,u224,u193,u229,u228,u230,u227,u232,u231,u233,u226,u236,u235,u237,u234,u239,u238,u240,u225,u244,u243,u245,u242,u247,u246,u248,u241,u251,u250,u252,u249,u254,u253,u255,u192,u261,u260,u262,u259,u264,u263,u265,u258,u268,u267,u269,u266,u271,u270,u272,u257,u276,u275,u277,u274,u279,u278,u280,u273,u283,u282,u284,u281,u286,u285,u287,u256,u291,u290,u292,u289,u294,u293,u295,u288,u298,u297,u299,u296,u301,u300,u302,u303]) (nat_lit 300) (nat_lit 0)
def a39_0:List Val:=[vl0]
def r39_0:List Val:=[vl1]
def a38_0:List Val:=[vl2,vl1]
def r38_0:List Val:=[.int .i64 (.ofNat (nat_lit 304)),.int .i64 (.ofNat (nat_lit 0))]
def a43_0:List Val:=[vl2,vl1]
def r43_0:List Val:=[vl3]
def a91_0:List Val:=[vl0,.agg [w0,w1,w2]]
def r91_0:List Val:=[vl4]
end
end Go.V
end
