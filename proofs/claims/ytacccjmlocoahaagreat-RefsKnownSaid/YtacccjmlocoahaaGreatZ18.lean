/-
  Parts of the proof, from: YtacccjmlocoahaaGreatZm4vv
-/
import Derived.KernelRfl
import Derived.Test.YtacccjmlocoahaaGreatZ17

set_option linter.unusedVariables false
section
set_option maxRecDepth 100000
namespace Go.V
noncomputable section
def f151:FT:=fun p s k=>hd s fun a0 s0=>
 hd s0 fun a1 s1=>
 nl s1<|
 kln a0 fun v2=>
 jn 0 (fun j3=>
 lp 1 fuel (fun r4 v5 p6=>
 klt v5 v2 fun v7=>
 kif v7
 (kia 1 a0 v5 fun v8=>
 kld p6 v8 fun v9=>
 keq false .s a1 v9 fun v10=>
 kif v10
 (k [v5] p6)
 (kad v5 q44 fun v11=>
 r4 v11 p6))
 (j3 p6)) q32 p) fun p12=>
 k [q63] p12
theorem o151:FO EN 151 f151:=fe 2 tnil [some [],some [8],none,none,none] (by kernel_rfl) fun p s k=>by kernel_rfl
def f92:FT:=fun p s k=>hd s fun a0 s0=>
 hd s0 fun a1 s1=>
 nl s1<|
 cn f151 p [a0,a1] fun v2 p3=>
 kge v2 q32 fun v4=>
 k [v4] p3
theorem o92:FO EN 92 f92:=fe 2 (tc (cn_ok o151) tnil) [] (by kernel_rfl) fun p s k=>by kernel_rfl
def f93:FT:=fun p s k=>hd s fun a0 s0=>
 nl s0<|
 kln a0 fun v1=>
 kln a0 fun v2=>
 ksl 2 a0 none (some v1) (some v2) fun v3=>
 k [v3] p
theorem o93:FO EN 93 f93:=fe 1 tnil [] (by kernel_rfl) fun p s k=>by kernel_rfl
def f17:FT:=fun p s k=>hd s fun a0 s0=>
 nl s0<|
 kln a0 fun v1=>
 kln a0 fun v2=>
 ksl 3 a0 none (some v1) (some v2) fun v3=>
 k [v3] p
theorem o17:FO EN 17 f17:=fe 1 tnil [] (by kernel_rfl) fun p s k=>by kernel_rfl
def f47:FT:=fun p s k=>hd s fun a0 s0=>
 hd s0 fun a1 s1=>
 hd s1 fun a2 s2=>
 nl s2<|
 kbx p 5 a0 fun v3 p4=>
 kbx p4 3 a1 fun v5 p6=>
 kbx p6 6 a2 fun v7 p8=>
 kal p8 q114 fun v9 p10=>
 kfa 0 v7 fun v11=>
 kld p10 v11 fun v12=>
 kbd q114 [(0,1,v12)] fun v13=>
 kal p10 q114 fun v14 p15=>
 kst p15 3 v14 v13 fun p16=>
 kla p16 3 v5 fun v17=>
 kal p16 q25 fun v18 p19=>
 kst p19 3 v18 v17 fun p20=>
 kfa 0 v7 fun v21=>
 kld p20 v21 fun v22=>
 jn 0 (fun j23=>
 jn 0 (fun j24=>
 keq false .i v22 q5 fun v25=>
 kif v25
 (kfa 0 v5 fun v26=>
 kla p20 2 v26 fun v27=>
 kfa 1 v7 fun v28=>
 kld p20 v28 fun v29=>
 kbd q25 [(0,2,v27),(2,1,v29)] fun v30=>
 kbs p20 1 q25 [(0,3,v30)] fun v31 p32=>
 kfa 2 v14 fun v33=>
 kst p32 1 v33 v31 fun p34=>
 kla p34 3 v14 fun v35=>
 kst p34 3 v9 v35 fun p36=>
 kra p36 3 v9 fun v37=>
 k [v37] p36)
 (keq false .i v22 q7 fun v38=>
 kif v38
 (kfa 1 v7 fun v39=>
 kld p20 v39 fun v40=>
 kfa 2 v18 fun v41=>
 kst p20 1 v41 v40 fun p42=>
 j24 p42)
 (j24 p20))) fun p43=>
 kfa 1 v3 fun v44=>
 kla p43 4 v44 fun v45=>
 kla p43 3 v18 fun v46=>
 m91 p43 [v45,v46] fun v47 p48=>
 kln v47 fun v49=>
 jn 0 (fun j50=>
 lp 1 fuel (fun r51 v52 p53=>
 klt v52 v49 fun v54=>
 kif v54
 (kia 6 v47 v52 fun v55=>
 kla p53 6 v55 fun v56=>
 kal p53 q27 fun v57 p58=>
 kst p58 6 v57 v56 fun p59=>
 kfa 3 v57 fun v60=>
 kla p59 3 v60 fun v61=>
 kal p59 q25 fun v62 p63=>
 kst p63 3 v62 v61 fun p64=>
 kfa 0 v7 fun v65=>
 kld p64 v65 fun v66=>
 keq false .i v66 q7 fun v67=>
 jn 3 (fun j68=>gdK v67 true (kfa 2 v62 fun v69=>
 kld p64 v69 fun v70=>
 keq false .s v70 q60 fun v71=>
 j68 v69 v70 v71 p64) (j68 .undef .undef .undef p64)) fun v72 v73 v74 p75=>
 kpk v67 v74 q43 fun v76=>
 jn 6 (fun j77=>gdK v76 true (kfa 3 v7 fun v78=>
 kld p75 v78 fun v79=>
 kfa 0 v62 fun v80=>
 kfa 0 v80 fun v81=>
 kld p75 v81 fun v82=>
 cn f92 p75 [v79,v82] fun v83 p84=>
 j77 v78 v79 v80 v81 v82 v83 p84) (j77 .undef .undef .undef .undef .undef .undef p75)) fun v85 v86 v87 v88 v89 v90 p91=>
 kpk v76 v90 q43 fun v92=>
 jn 0 (fun j93 => kif v92
 (kfa 2 v14 fun v94=>
 kld p91 v94 fun v95=>
 kfa 0 v62 fun v96=>
 kla p91 2 v96 fun v97=>
 kfa 2 v7 fun v98=>
 kld p91 v98 fun v99=>
 kbd q25 [(0,2,v97),(2,1,v99)] fun v100=>
 kbs p91 1 q25 [(0,3,v100)] fun v101 p102=>
 kap p102 3 48 v95 v101 fun v103 p104=>
 kfa 2 v14 fun v105=>
 kst p104 1 v105 v103 fun p106=>
 j93 p106)
 (kfa 0 v7 fun v107=>
 kld p91 v107 fun v108=>
 keq false .i v108 q4 fun v109=>
 jn 3 (fun j110=>gdK v109 true (kfa 2 v62 fun v111=>
 kld p91 v111 fun v112=>
 keq false .s v112 q60 fun v113=>
 j110 v111 v112 v113 p91) (j110 .undef .undef .undef p91)) fun v114 v115 v116 p117=>
 kpk v109 v116 q43 fun v118=>
 jn 0 (fun j119 => kif v118
 (kfa 1 v14 fun v120=>
 kld p117 v120 fun v121=>
 kfa 0 v62 fun v122=>
 kla p117 2 v122 fun v123=>
 kbs p117 1 q1 [(0,2,v123)] fun v124 p125=>
 kap p125 2 32 v121 v124 fun v126 p127=>
 kfa 1 v14 fun v128=>
 kst p127 1 v128 v126 fun p129=>
 j119 p129)
 (kfa 0 v7 fun v130=>
 kld p117 v130 fun v131=>
 keq false .i v131 q4 fun v132=>
 jn 0 (fun j133 => kif v132
 (kfa 2 v14 fun v134=>
 kld p117 v134 fun v135=>
 kfa 0 v62 fun v136=>
 kla p117 2 v136 fun v137=>
 kfa 2 v62 fun v138=>
 kld p117 v138 fun v139=>
 kbd q25 [(0,2,v137),(2,1,v139)] fun v140=>
 kbs p117 1 q25 [(0,3,v140)] fun v141 p142=>
 kap p142 3 48 v135 v141 fun v143 p144=>
 kfa 2 v14 fun v145=>
 kst p144 1 v145 v143 fun p146=>
 j133 p146)
 (j133 p117)) fun p147=>
 j119 p147)) fun p148=>
 j93 p148)) fun p149=>
 kad v52 q44 fun v150=>
 r51 v150 p149)
 (j50 p53)) q32 p48) fun p151=>
 j23 p151) fun p152=>
 kfa 1 v14 fun v153=>
 kld (prt [] p152) v153 fun v154=>
 ci f93 (prt [] p152) [v154] fun v155 p156=>
 unpK p152 p156 fun p157=>
 kfa 2 v14 fun v158=>
 kld (prt [(p152.next,p156.next)] p157) v158 fun v159=>
 ci f17 p157 [v159] fun v160 p161=>
 kfa 1 v14 fun v162=>
 kst p161 1 v162 v155 fun p163=>
 kfa 2 v14 fun v164=>
 kst p163 1 v164 v160 fun p165=>
 kla p165 3 v14 fun v166=>
 kst p165 3 v9 v166 fun p167=>
 kra p167 3 v9 fun v168=>
 k [v168] p167
theorem o47:FO EN 47 f47:=fe 3 (tc m91_ok (tc (cn_ok o92) (tc (ci_ok o93) (tc (ci_ok o17) tnil)))) [some [],some [],none,none,none,none,some [],some [38],none,none,none,some [],some [],some []] (by kernel_rfl) fun p s k=>by kernel_rfl
def f48:FT:=fun p s k=>hd s fun a0 s0=>
 nl s0<|
 kln a0 fun v1=>
 kln a0 fun v2=>
 ksl 3 a0 none (some v1) (some v2) fun v3=>
 k [v3] p
theorem o48:FO EN 48 f48:=fe 1 tnil [] (by kernel_rfl) fun p s k=>by kernel_rfl
def f23:FT:=fun p s k=>hd s fun a0 s0=>
 hd s0 fun a1 s1=>
 hd s1 fun a2 s2=>
 nl s2<|
 kbx p 5 a0 fun v3 p4=>
 kbx p4 3 a1 fun v5 p6=>
 kbx p6 6 a2 fun v7 p8=>
 kfa 5 v7 fun v9=>
 kld p8 v9 fun v10=>
 kln v10 fun v11=>
 jn 1 (fun j12=>
 lp 2 fuel (fun r13 v14 v15 p16=>
 klt v15 v11 fun v17=>
 kif v17
 (kia 6 v10 v15 fun v18=>
 kla p16 6 v18 fun v19=>
 kal p16 q109 fun v20 p21=>
 kst p21 6 v20 v19 fun p22=>
 kfa 5 v20 fun v23=>
 kld p22 v23 fun v24=>
 kge v24 q32 fun v25=>
 jn 1 (fun j26 => kif v25
 (kla p22 5 v3 fun v27=>
 kla p22 3 v5 fun v28=>
 kla p22 6 v20 fun v29=>
 cn f47 p22 [v27,v28,v29] fun v30 p31=>
 kbs p31 1 q114 [(0,3,v30)] fun v32 p33=>
 kap p33 3 56 v14 v32 fun v34 p35=>
 j26 v34 p35)
 (j26 v14 p22)) fun v36 p37=>
 kad v15 q44 fun v38=>
 r13 v36 v38 p37)
 (j12 v14 p16)) .nils q32 p8) fun v39 p40=>
 ci f48 p40 [v39] fun v41 p42=>
 k [v41] p42
theorem o23:FO EN 23 f23:=fe 3 (tc (cn_ok o47) (tc (ci_ok o48) tnil)) [some [7],some [7,13],none,none,some [7]] (by kernel_rfl) fun p s k=>by kernel_rfl
def f16:FT:=fun p s k=>hd s fun a0 s0=>
 hd s0 fun a1 s1=>
 nl s1<|
 kbx p 5 a0 fun v2 p3=>
 kbx p3 3 a1 fun v4 p5=>
 kla p5 5 v2 fun v6=>
 kla p5 3 v4 fun v7=>
 ci f22 p5 [v6,v7] fun v8 p9=>
 kex v8 0 fun v10=>
 kex v8 1 fun v11=>
 kal p9 q111 fun v12 p13=>
 kst p13 6 v12 v10 fun p14=>
 keq true .i v11 q32 fun v15=>
 kif v15
 (k [.nils,v11] p14)
 (kla p14 5 v2 fun v16=>
 kla p14 3 v4 fun v17=>
 kla p14 6 v12 fun v18=>
 ci f23 p14 [v16,v17,v18] fun v19 p20=>
 k [v19,q32] p20)
theorem o16:FO EN 16 f16:=fe 2 (tc (ci_ok o22) (tc (ci_ok o23) tnil)) [none] (by kernel_rfl) fun p s k=>by kernel_rfl
def f6:FT:=fun p s k=>hd s fun a0 s0=>
 hd s0 fun a1 s1=>
 nl s1<|
 kbx p 5 a0 fun v2 p3=>
 kbx p3 3 a1 fun v4 p5=>
 kla p5 5 v2 fun v6=>
 kla p5 3 v4 fun v7=>
 ci f16 p5 [v6,v7] fun v8 p9=>
 kex v8 0 fun v10=>
 kex v8 1 fun v11=>
 keq true .i v11 q32 fun v12=>
 kif v12
 (k [.nils,v11] p9)
 (kln v10 fun v13=>
 jn 1 (fun j14=>
 lp 2 fuel (fun r15 v16 v17 p18=>
 klt v17 v13 fun v19=>
 kif v19
 (kia 3 v10 v17 fun v20=>
 kla p18 3 v20 fun v21=>
 kal p18 q114 fun v22 p23=>
 kst p23 3 v22 v21 fun p24=>
 kfa 2 v22 fun v25=>
 kld p24 v25 fun v26=>
 kap p24 3 48 v16 v26 fun v27 p28=>
 kad v17 q44 fun v29=>
 r15 v27 v29 p28)
 (j14 v16 p18)) .nils q32 p9) fun v30 p31=>
 ci f17 p31 [v30] fun v32 p33=>
 k [v32,q32] p33)
theorem o6:FO EN 6 f6:=fe 2 (tc (ci_ok o16) (tc (ci_ok o17) tnil)) [none,some [8],some [8,22],none,none] (by kernel_rfl) fun p s k=>by kernel_rfl
def f9:FT:=fun p s k=>hd s fun a0 s0=>
 hd s0 fun a1 s1=>
 nl s1<|
 kbx p 5 a0 fun v2 p3=>
 kbx p3 3 a1 fun v4 p5=>
 kfa 0 v2 fun v6=>
 kla p5 1 v6 fun v7=>
 kfa 0 v4 fun v8=>
 kfa 0 v8 fun v9=>
 kld p5 v9 fun v10=>
 kfa 2 v4 fun v11=>
 kld p5 v11 fun v12=>
 cn f18 p5 [v7,v10,v12] fun v13 p14=>
 kex v13 0 fun v15=>
 kex v13 1 fun v16=>
 kal p14 q16 fun v17 p18=>
 kst p18 6 v17 v15 fun p19=>
 kfa 2 v17 fun v20=>
 kla p19 4 v20 fun v21=>
 ci f19 p19 [.nils,v21,q43] fun v22 p23=>
 jn 1 (fun j24=>
 lp 2 fuel (fun r25 v26 v27 p28=>
 kln v22 fun v29=>
 klt v27 v29 fun v30=>
 kif v30
 (jn 1 (fun j31=>
 kia 5 v22 v27 fun v32=>
 kfa 0 v32 fun v33=>
 kld p28 v33 fun v34=>
 kgt v34 q7 fun v35=>
 kif v35
 (j31 v26 p28)
 (kia 5 v22 v27 fun v36=>
 kfa 0 v36 fun v37=>
 kld p28 v37 fun v38=>
 kbd q114 [(0,1,v38)] fun v39=>
 kal p28 q114 fun v40 p41=>
 kst p41 3 v40 v39 fun p42=>
 kia 5 v22 v27 fun v43=>
 kfa 0 v43 fun v44=>
 kld p42 v44 fun v45=>
 keq false .i v45 q5 fun v46=>
 jn 0 (fun j47 => kif v46
 (kfa 2 v40 fun v48=>
 kld (prt [] p42) v48 fun v49=>
 kfa 0 v4 fun v50=>
 kla (prt [] p42) 2 v50 fun v51=>
 kia 5 v22 v27 fun v52=>
 kfa 1 v52 fun v53=>
 kld (prt [] p42) v53 fun v54=>
 kbd q25 [(0,2,v51),(2,1,v54)] fun v55=>
 kbs p42 1 q25 [(0,3,v55)] fun v56 p57=>
 kap p57 3 48 v49 v56 fun v58 p59=>
 kfa 2 v40 fun v60=>
 kst p59 1 v60 v58 fun p61=>
 j47 p61)
 (j47 p42)) fun p62=>
 kfa 0 v2 fun v63=>
 kla (prt [] p62) 1 v63 fun v64=>
 kfa 0 v4 fun v65=>
 kfa 0 v65 fun v66=>
 kld (prt [] p62) v66 fun v67=>
 kia 5 v22 v27 fun v68=>
 kfa 1 v68 fun v69=>
 kld (prt [] p62) v69 fun v70=>
 kia 5 v22 v27 fun v71=>
 kfa 2 v71 fun v72=>
 kld (prt [] p62) v72 fun v73=>
 cn f20 p62 [v64,v67,v70,v73] fun v74 p75=>
 jn 0 (fun j76=>
 lp 1 fuel (fun r77 v78 p79=>
 kfa 1 v2 fun v80=>
 kld p79 v80 fun v81=>
 kln v81 fun v82=>
 klt v78 v82 fun v83=>
 kif v83
 (kfa 1 v2 fun v84=>
 kld p79 v84 fun v85=>
 kia 6 v85 v78 fun v86=>
 kla p79 6 v86 fun v87=>
 kal p79 q27 fun v88 p89=>
 kst p89 6 v88 v87 fun p90=>
 kfa 3 v88 fun v91=>
 kfa 2 v91 fun v92=>
 kld p90 v92 fun v93=>
 keq false .s v93 q60 fun v94=>
 kia 5 v22 v27 fun v95=>
 kfa 0 v95 fun v96=>
 kld p90 v96 fun v97=>
 keq false .i v97 q4 fun v98=>
 jn 4 (fun j99=>gdK v98 true (kfa 0 v88 fun v100=>
 kla p90 3 v100 fun v101=>
 kla p90 3 v4 fun v102=>
 kea false [(0,.s),(1,.s),(2,.s)] v101 v102 fun v103=>
 j99 v100 v101 v102 v103 p90) (j99 .undef .undef .undef .undef p90)) fun v104 v105 v106 v107 p108=>
 kpk v98 v107 q43 fun v109=>
 jn 0 (fun j110 => kif v109
 (jn 0 (fun j111 => kif v94
 (kfa 1 v40 fun v112=>
 kld p108 v112 fun v113=>
 kfa 3 v88 fun v114=>
 kfa 0 v114 fun v115=>
 kla p108 2 v115 fun v116=>
 kbs p108 1 q1 [(0,2,v116)] fun v117 p118=>
 kap p118 2 32 v113 v117 fun v119 p120=>
 kfa 1 v40 fun v121=>
 kst p120 1 v121 v119 fun p122=>
 j111 p122)
 (kfa 2 v40 fun v123=>
 kld p108 v123 fun v124=>
 kfa 3 v88 fun v125=>
 kfa 0 v125 fun v126=>
 kla p108 2 v126 fun v127=>
 kfa 3 v88 fun v128=>
 kfa 2 v128 fun v129=>
 kld p108 v129 fun v130=>
 kbd q25 [(0,2,v127),(2,1,v130)] fun v131=>
 kbs p108 1 q25 [(0,3,v131)] fun v132 p133=>
 kap p133 3 48 v124 v132 fun v134 p135=>
 kfa 2 v40 fun v136=>
 kst p135 1 v136 v134 fun p137=>
 j111 p137)) fun p138=>
 j110 p138)
 (j110 p108)) fun p139=>
 kia 5 v22 v27 fun v140=>
 kfa 0 v140 fun v141=>
 kld p139 v141 fun v142=>
 keq false .i v142 q7 fun v143=>
 jn 6 (fun j144=>gdK v143 true (kfa 0 v88 fun v145=>
 kfa 0 v145 fun v146=>
 kla (prt [] p139) 2 v146 fun v147=>
 kfa 0 v4 fun v148=>
 kla (prt [] p139) 2 v148 fun v149=>
 kea false [(0,.s),(1,.s)] v147 v149 fun v150=>
 j144 v145 v146 v147 v148 v149 v150 p139) (j144 .undef .undef .undef .undef .undef .undef p139)) fun v151 v152 v153 v154 v155 v156 _=>
 kpk v143 v156 q43 fun v158=>
 jn 9 (fun j159=>gdK v158 true (kfa 0 v88 fun v160=>
 kfa 2 v160 fun v161=>
 kld (prt [] p139) v161 fun v162=>
 kia 5 v22 v27 fun v163=>
 kfa 1 v163 fun v164=>
 kld (prt [] p139) v164 fun v165=>
 keq false .s v162 v165 fun v166=>
 j159 v160 v161 v162 v22 v27 v163 v164 v165 v166 p139) (j159 .undef .undef .undef .undef .undef .undef .undef .undef .undef p139)) fun v167 v168 v169 v170 v171 v172 v173 v174 v175 _=>
 kpk v158 v175 q43 fun v177=>
 jn 1 (fun j178=>gdK v177 true (j178 v94 p139) (j178 .undef p139)) fun v179 _=>
 kpk v177 v179 q43 fun v181=>
 jn 6 (fun j182=>gdK v181 true (kfa 3 v88 fun v183=>
 kfa 0 v183 fun v184=>
 kfa 0 v184 fun v185=>
 kld p139 v185 fun v186=>
 .no) (j182 .undef .undef .undef .undef .undef .undef p139)) fun v187 v188 v189 v190 v191 v192 p193=>
 kpk v181 v192 q43 fun v194=>
 jn 0 (fun j195 => kif v194
 (kfa 2 v40 fun v196=>
 kld (prt [] p193) v196 fun v197=>
 kfa 3 v88 fun v198=>
 kfa 0 v198 fun v199=>
 kla (prt [] p193) 2 v199 fun v200=>
 kia 5 v22 v27 fun v201=>
 kfa 2 v201 fun v202=>
 kld (prt [] p193) v202 fun v203=>
 kbd q25 [(0,2,v200),(2,1,v203)] fun v204=>
 kbs p193 1 q25 [(0,3,v204)] fun v205 p206=>
 kap p206 3 48 v197 v205 fun v207 p208=>
 kfa 2 v40 fun v209=>
 kst p208 1 v209 v207 fun p210=>
 j195 p210)
 (j195 p193)) fun p211=>
 kad v78 q44 fun v212=>
 r77 v212 p211)
 (j76 p79)) q32 p75) fun p213=>
 kla p213 3 v40 fun v214=>
 kbs p213 1 q114 [(0,3,v214)] fun v215 p216=>
 kap p216 3 56 v26 v215 fun v217 p218=>
 j31 v217 p218)) fun v219 p220=>
 kad v27 q44 fun v221=>
 r25 v219 v221 p220)
 (j24 v26 p28)) .nils q32 p23) fun v222 p223=>
 k [v222] p223
theorem o9:FO EN 9 f9:=fe 2 (tc (cn_ok o18) (tc (ci_ok o19) (tc (cn_ok o20) tnil))) [some [5],some [5,9],none,some [5],none,some [],some [],some [12],none,none,some [],some [],some []] (by kernel_rfl) fun p s k=>by kernel_rfl
end
end Go.V
end
section
set_option maxRecDepth 100000
namespace Go.V
noncomputable section
def f8:FT:=fun p s k=>hd s fun a0 s0=>
 nl s0<|
 jn 1 (fun j1=>
 lp 2 fuel (fun r2 v3 v4 p5=>
 kln a0 fun v6=>
 klt v4 v6 fun v7=>
 kif v7
 (jn 1 (fun j8=>
 jn 1 (fun j9=>
 lp 2 fuel (fun r10 v11 v12 p13=>
 kia 3 a0 v4 fun v14=>
 kfa 2 v14 fun v15=>
 kld p13 v15 fun v16=>
 kln v16 fun v17=>
 klt v12 v17 fun v18=>
 kif v18
 (kia 3 a0 v4 fun v19=>
 kfa 2 v19 fun v20=>
 kld p13 v20 fun v21=>
 kia 3 v21 v12 fun v22=>
 kla p13 3 v22 fun v23=>
 kbs p13 1 q25 [(0,3,v23)] fun v24 p25=>
 kap p25 3 48 v11 v24 fun v26 p27=>
 kad v12 q44 fun v28=>
 r10 v26 v28 p27)
 (j9 v11 p13)) v3 q32 p5) fun v29 p30=>
 j8 v29 p30) fun v31 p32=>
 kad v4 q44 fun v33=>
 r2 v31 v33 p32)
 (j1 v3 p5)) .nils q32 p) fun v34 p35=>
 k [v34] p35
theorem o8:FO EN 8 f8:=fe 1 tnil [some [3],some [3,4],none,some [3],some [3],some [3,5],none,none] (by kernel_rfl) fun p s k=>by kernel_rfl
def f7:FT:=fun p s k=>hd s fun a0 s0=>
 hd s0 fun a1 s1=>
 nl s1<|
 kln a0 fun v2=>
 kln a1 fun v3=>
 keq true .i v2 v3 fun v4=>
 kif v4
 (k [q32] p)
 (jn 0 (fun j5=>
 lp 1 fuel (fun r6 v7 p8=>
 kln a0 fun v9=>
 klt v7 v9 fun v10=>
 kif v10
 (kia 3 a0 v7 fun v11=>
 kla (prt [] p8) 3 v11 fun v12=>
 kia 3 a1 v7 fun v13=>
 kla (prt [] p8) 3 v13 fun v14=>
 kea true [(0,.s),(1,.s),(2,.s)] v12 v14 fun v15=>
 kif v15
 (k [q32] p8)
 (kad v7 q44 fun v16=>
 r6 v16 p8))
 (j5 p8)) q32 p) fun p17=>
 k [q44] p17)
theorem o7:FO EN 7 f7:=fe 2 tnil [none,some [],some [5],none,none,none] (by kernel_rfl) fun p s k=>by kernel_rfl
def f24:FT:=fun p s k=>hd s fun a0 s0=>
 nl s0<|
 kln a0 fun v1=>
 jn 1 (fun j2=>
 lp 2 fuel (fun r3 v4 v5 p6=>
 klt v5 v1 fun v7=>
 kif v7
 (kia 3 a0 v5 fun v8=>
 kla p6 3 v8 fun v9=>
 kal p6 q114 fun v10 p11=>
 kst p11 3 v10 v9 fun p12=>
 kfa 2 v10 fun v13=>
 kld p12 v13 fun v14=>
 kln v14 fun v15=>
 kad v4 v15 fun v16=>
 kad v5 q44 fun v17=>
 r3 v16 v17 p12)
 (j2 v4 p6)) q32 q32 p) fun v18 p19=>
 k [v18] p19
theorem o24:FO EN 24 f24:=fe 1 tnil [some [3],some [3,8],none,none] (by kernel_rfl) fun p s k=>by kernel_rfl
def f49:FT:=fun p s k=>hd s fun a0 s0=>
 hd s0 fun a1 s1=>
 nl s1<|
 kbx p 2 a1 fun v2 p3=>
 kln a0 fun v4=>
 jn 0 (fun j5=>
 lp 1 fuel (fun r6 v7 p8=>
 klt v7 v4 fun v9=>
 kif v9
 (kla (prt [] p8) 2 v2 fun v10=>
 kia 2 a0 v7 fun v11=>
 kla (prt [] p8) 2 v11 fun v12=>
 kea false [(0,.s),(1,.s)] v10 v12 fun v13=>
 kif v13
 (k [v7] p8)
 (kad v7 q44 fun v14=>
 r6 v14 p8))
 (j5 p8)) q32 p3) fun p15=>
 k [q63] p15
theorem o49:FO EN 49 f49:=fe 2 tnil [some [],some [8],none,none,none] (by kernel_rfl) fun p s k=>by kernel_rfl
def f25:FT:=fun p s k=>hd s fun a0 s0=>
 hd s0 fun a1 s1=>
 nl s1<|
 kbx p 2 a1 fun v2 p3=>
 kla p3 2 v2 fun v4=>
 cn f49 p3 [a0,v4] fun v5 p6=>
 kge v5 q32 fun v7=>
 k [v7] p6
theorem o25:FO EN 25 f25:=fe 2 (tc (cn_ok o49) tnil) [] (by kernel_rfl) fun p s k=>by kernel_rfl
def f50:FT:=fun p s k=>hd s fun a0 s0=>
 hd s0 fun a1 s1=>
 nl s1<|
 kln a0 fun v2=>
 jn 0 (fun j3=>
 lp 1 fuel (fun r4 v5 p6=>
 klt v5 v2 fun v7=>
 kif v7
 (kia 1 a0 v5 fun v8=>
 kld p6 v8 fun v9=>
 keq false .b a1 v9 fun v10=>
 kif v10
 (k [v5] p6)
 (kad v5 q44 fun v11=>
 r4 v11 p6))
 (j3 p6)) q32 p) fun p12=>
 k [q63] p12
theorem o50:FO EN 50 f50:=fe 2 tnil [some [],some [8],none,none,none] (by kernel_rfl) fun p s k=>by kernel_rfl
def f26:FT:=fun p s k=>hd s fun a0 s0=>
 hd s0 fun a1 s1=>
 nl s1<|
 cn f50 p [a0,a1] fun v2 p3=>
 kge v2 q32 fun v4=>
 k [v4] p3
theorem o26:FO EN 26 f26:=fe 2 (tc (cn_ok o50) tnil) [] (by kernel_rfl) fun p s k=>by kernel_rfl
def g94:FT→FT:=fun self=>fun p s k=>hd s fun a0 s0=>
 hd s0 fun a1 s1=>
 nl s1<|
 kal p q3 fun v2 p3=>
 kln a0 fun v4=>
 kge a1 v4 fun v5=>
 jn 3 (fun j6=>gdK v5 false (kln a0 fun v7=>
 kgt v7 q35 fun v8=>
 j6 a0 v7 v8 p3) (j6 .undef .undef .undef p3)) fun v9 v10 v11 p12=>
 kpk v5 q53 v11 fun v13=>
 kif v13
 (kla p12 4 v2 fun v14=>
 kst p12 4 v2 v14 fun p15=>
 kra p15 4 v2 fun v16=>
 k [v16,a1,q43] p15)
 (kia 6 a0 a1 fun v17=>
 kla p12 6 v17 fun v18=>
 kal p12 q109 fun v19 p20=>
 kst p20 6 v19 v18 fun p21=>
 kfa 0 v19 fun v22=>
 kld p21 v22 fun v23=>
 kfa 1 v19 fun v24=>
 kld p21 v24 fun v25=>
 kfa 2 v19 fun v26=>
 kld p21 v26 fun v27=>
 kbd q3 [(0,1,v23),(1,1,v25),(2,1,v27)] fun v28=>
 kst p21 4 v2 v28 fun p29=>
 kad a1 q44 fun v30=>
 kfa 4 v19 fun v31=>
 kld p29 v31 fun v32=>
 kln v32 fun v33=>
 jn 1 (fun j34=>
 lp 2 fuel (fun r35 v36 v37 p38=>
 klt v37 v33 fun v39=>
 kif v39
 (kia 1 v32 v37 fun v40=>
 kld p38 v40 fun v41=>
 keq true .i v41 v36 fun v42=>
 kif v42
 (kla p38 4 v2 fun v43=>
 kst p38 4 v2 v43 fun p44=>
 kra p44 4 v2 fun v45=>
 k [v45,v36,q43] p44)
 (kal p38 q3 fun v46 p47=>
 cn self p47 [a0,v41] fun v48 p49=>
 kex v48 0 fun v50=>
 kex v48 1 fun v51=>
 kex v48 2 fun v52=>
 kst p49 4 v46 v50 fun p53=>
 knt v52 fun v54=>
 kif v54
 (kla p53 4 v2 fun v55=>
 kst p53 4 v2 v55 fun p56=>
 kra p56 4 v2 fun v57=>
 k [v57,v51,q43] p56)
 (kfa 3 v2 fun v58=>
 kld p53 v58 fun v59=>
 kla p53 4 v46 fun v60=>
 kbs p53 1 q3 [(0,4,v60)] fun v61 p62=>
 kap p62 4 64 v59 v61 fun v63 p64=>
 kfa 3 v2 fun v65=>
 kst p64 1 v65 v63 fun p66=>
 kad v37 q44 fun v67=>
 r35 v51 v67 p66)))
 (j34 v36 p38)) v30 q32 p29) fun v68 p69=>
 kfa 3 v2 fun v70=>
 kld p69 v70 fun v71=>
 ci f152 p69 [v71] fun v72 p73=>
 kfa 3 v2 fun v74=>
 kst p73 1 v74 v72 fun p75=>
 kla p75 4 v2 fun v76=>
 kst p75 4 v2 v76 fun p77=>
 kra p77 4 v2 fun v78=>
 k [v78,v68,q53] p77)
def f94:FT:=rcF depth g94
theorem o94:FO EN 94 f94:=FO.rc (fun self h=>fe 2 (tc (cn_ok h) (tc (ci_ok o152) tnil)) [none,some [5],some [5,38],none,none,none,none] (by kernel_rfl) fun p s k=>by kernel_rfl) depth
def f155:FT:=fun p s k=>hd s fun a0 s0=>
 hd s0 fun a1 s1=>
 nl s1<|
 kbx p 5 a0 fun v2 p3=>
 kbx p3 5 a1 fun v4 p5=>
 kfa 0 v2 fun v6=>
 kld p5 v6 fun v7=>
 kfa 0 v4 fun v8=>
 kld p5 v8 fun v9=>
 keq false .i v7 v9 fun v10=>
 jn 11 (fun j11=>gdK v10 true (kfa 1 v2 fun v12=>
 kld p5 v12 fun v13=>
 kfa 2 v2 fun v14=>
 kld p5 v14 fun v15=>
 kbd q1 [(0,1,v13),(1,1,v15)] fun v16=>
 kfa 1 v4 fun v17=>
 kld p5 v17 fun v18=>
 kfa 2 v4 fun v19=>
 kld p5 v19 fun v20=>
 kbd q1 [(0,1,v18),(1,1,v20)] fun v21=>
 kea false [(0,.s),(1,.s)] v16 v21 fun v22=>
 j11 v12 v13 v14 v15 v16 v17 v18 v19 v20 v21 v22 p5) (j11 .undef .undef .undef .undef .undef .undef .undef .undef .undef .undef .undef p5)) fun v23 v24 v25 v26 v27 v28 v29 v30 v31 v32 v33 p34=>
 kpk v10 v33 q43 fun v35=>
 jn 7 (fun j36=>gdK v35 true (kfa 3 v2 fun v37=>
 kld p34 v37 fun v38=>
 kln v38 fun v39=>
 kfa 3 v4 fun v40=>
 kld p34 v40 fun v41=>
 kln v41 fun v42=>
 keq false .i v39 v42 fun v43=>
 j36 v37 v38 v39 v40 v41 v42 v43 p34) (j36 .undef .undef .undef .undef .undef .undef .undef p34)) fun v44 v45 v46 v47 v48 v49 v50 p51=>
 kpk v35 v50 q43 fun v52=>
 k [v52] p51
theorem o155:FO EN 155 f155:=fe 2 tnil [] (by kernel_rfl) fun p s k=>by kernel_rfl
def t154:List Ce:=[⟨155,cn f155⟩]
def f154:FT:=fun p s k=>hd s fun a0 s0=>
 hd s0 fun a1 s1=>
 hd s1 fun a2 s2=>
 nl s2<|
 kln a0 fun v3=>
 kln a1 fun v4=>
 keq true .i v3 v4 fun v5=>
 kif v5
 (k [q43] p)
 (kln a0 fun v6=>
 jn 0 (fun j7=>
 lp 1 fuel (fun r8 v9 p10=>
 klt v9 v6 fun v11=>
 kif v11
 (kia 5 a0 v9 fun v12=>
 kla p10 5 v12 fun v13=>
 kal p10 q89 fun v14 p15=>
 kst p15 5 v14 v13 fun p16=>
 kia 5 a1 v9 fun v17=>
 kla p16 5 v17 fun v18=>
 kal p16 q89 fun v19 p20=>
 kst p20 5 v19 v18 fun p21=>
 kla p21 5 v14 fun v22=>
 kla p21 5 v19 fun v23=>
 kcv t154 p21 a2 [v22,v23] fun v24 p25=>
 knt v24 fun v26=>
 kif v26
 (k [q43] p25)
 (kad v9 q44 fun v27=>
 r8 v27 p25))
 (j7 p10)) q32 p) fun p28=>
 k [q53] p28)
theorem o154:FO EN 154 f154:=fe 3 (T:=t154) (tc (cn_ok o155) tnil) [none,some [],some [17],none,none,none] (by kernel_rfl) fun p s k=>by kernel_rfl
def f96:FT:=fun p s k=>hd s fun a0 s0=>
 hd s0 fun a1 s1=>
 nl s1<|
 kbx p 4 a0 fun v2 p3=>
 kbx p3 4 a1 fun v4 p5=>
 cn f153 p5 [v2] fun v6 p7=>
 kex v6 0 fun v8=>
 kex v6 1 fun v9=>
 kex v6 2 fun v10=>
 cn f153 p7 [v4] fun v11 p12=>
 kex v11 0 fun v13=>
 kex v11 1 fun v14=>
 kex v11 2 fun v15=>
 keq false .i v10 q32 fun v16=>
 jn 2 (fun j17=>gdK v16 true (keq false .i v15 q32 fun v18=>
 j17 v15 v18 p12) (j17 .undef .undef p12)) fun v19 v20 p21=>
 kpk v16 v20 q43 fun v22=>
 jn 3 (fun j23=>gdK v22 true (cn f154 p21 [v8,v13,q115] fun v24 p25=>
 j23 v8 v13 v24 p25) (j23 .undef .undef .undef p21)) fun v26 v27 v28 p29=>
 kpk v22 v28 q43 fun v30=>
 k [v30] p29
theorem o96:FO EN 96 f96:=fe 2 (tc (cn_ok o153) (tc (cn_ok o154) tnil)) [] (by kernel_rfl) fun p s k=>by kernel_rfl
def f97:FT:=fun p s k=>hd s fun a0 s0=>
 nl s0<|
 kln a0 fun v1=>
 jn 0 (fun j2=>
 lp 1 fuel (fun r3 v4 p5=>
 klt v4 v1 fun v6=>
 kif v6
 (kia 1 a0 v4 fun v7=>
 kld p5 v7 fun v8=>
 kbd q3 [(0,1,q5),(1,1,v8)] fun v9=>
 cn f95 p5 [v9] fun v10 p11=>
 keq true .i v10 q32 fun v12=>
 jn 5 (fun j13=>gdK v12 false (ksl 1 a0 none (some v4) none fun v14=>
 cn f92 p11 [v14,v8] fun v15 p16=>
 j13 a0 v4 v14 v8 v15 p16) (j13 .undef .undef .undef .undef .undef p11)) fun v17 v18 v19 v20 v21 p22=>
 kpk v12 q53 v21 fun v23=>
 kif v23
 (k [q43] p22)
 (kad v4 q44 fun v24=>
 r3 v24 p22))
 (j2 p5)) q32 p) fun p25=>
 kln a0 fun v26=>
 kgt v26 q32 fun v27=>
 k [v27] p25
theorem o97:FO EN 97 f97:=fe 1 (tc (cn_ok o95) (tc (cn_ok o92) tnil)) [some [],some [7],none,none,none] (by kernel_rfl) fun p s k=>by kernel_rfl
def f51:FT:=fun p s k=>hd s fun a0 s0=>
 nl s0<|
 cn f94 p [a0,q32] fun v1 p2=>
 kex v1 0 fun v3=>
 kex v1 1 fun v4=>
 kex v1 2 fun v5=>
 kal p2 q3 fun v6 p7=>
 kst p7 4 v6 v3 fun p8=>
 knt v5 fun v9=>
 jn 4 (fun j10=>gdK v9 false (kln a0 fun v11=>
 keq true .i v4 v11 fun v12=>
 j10 v4 a0 v11 v12 p8) (j10 .undef .undef .undef .undef p8)) fun v13 v14 v15 v16 p17=>
 kpk v9 q53 v16 fun v18=>
 jn 3 (fun j19=>gdK v18 false (kla p17 4 v6 fun v20=>
 cn f95 p17 [v20] fun v21 p22=>
 keq true .i v21 q32 fun v23=>
 j19 v20 v21 v23 p22) (j19 .undef .undef .undef p17)) fun v24 v25 v26 p27=>
 kpk v18 q53 v26 fun v28=>
 kif v28
 (k [q52] p27)
 (kla p27 4 v6 fun v29=>
 ci f75 p27 [v29] fun v30 p31=>
 kex v30 0 fun v32=>
 kex v30 1 fun v33=>
 kal p31 q3 fun v34 p35=>
 kst p35 4 v34 v32 fun p36=>
 kla p36 4 v34 fun v37=>
 kla p36 4 v6 fun v38=>
 cn f96 p36 [v37,v38] fun v39 p40=>
 knt v39 fun v41=>
 kif v41
 (k [q52] p40)
 (kln a0 fun v42=>
 jn 0 (fun j43=>
 lp 2 fuel (fun r44 v45 v46 p47=>
 klt v46 v42 fun v48=>
 kif v48
 (kia 6 a0 v46 fun v49=>
 kla p47 6 v49 fun v50=>
 kal p47 q109 fun v51 p52=>
 kst p52 6 v51 v50 fun p53=>
 kfa 0 v51 fun v54=>
 kld p53 v54 fun v55=>
 kle v55 q7 fun v56=>
 jn 2 (fun j57 => kif v56
 (kad v45 q44 fun v58=>
 j57 v58 v45 p53)
 (j57 v45 q63 p53)) fun v59 v60 p61=>
 kfa 5 v51 fun v62=>
 kld p61 v62 fun v63=>
 keq true .i v63 v60 fun v64=>
 jn 8 (fun j65=>gdK v64 false (kfa 0 v51 fun v66=>
 kld p61 v66 fun v67=>
 keq false .i v67 q7 fun v68=>
 kfa 3 v51 fun v69=>
 kld p61 v69 fun v70=>
 kln v70 fun v71=>
 kgt v71 q32 fun v72=>
 keq true .b v68 v72 fun v73=>
 j65 v66 v67 v68 v69 v70 v71 v72 v73 p61) (j65 .undef .undef .undef .undef .undef .undef .undef .undef p61)) fun v74 v75 v76 v77 v78 v79 v80 v81 p82=>
 kpk v64 q53 v81 fun v83=>
 jn 4 (fun j84=>gdK v83 false (kfa 0 v51 fun v85=>
 kld p82 v85 fun v86=>
 keq false .i v86 q7 fun v87=>
 j84 v85 v86 v87 v87 p82) (j84 .undef .undef .undef .undef p82)) fun v88 v89 v90 v91 p92=>
 jn 4 (fun j93=>gdK v91 true (kfa 3 v51 fun v94=>
 kld p92 v94 fun v95=>
 cn f97 p92 [v95] fun v96 p97=>
 knt v96 fun v98=>
 j93 v94 v95 v96 v98 p97) (j93 .undef .undef .undef .undef p92)) fun v99 v100 v101 v102 p103=>
 jn 1 (fun j104=>gdK v83 false (kpk v91 v102 q43 fun v105=>
 j104 v105 p103) (j104 .undef p103)) fun v106 p107=>
 kpk v83 q53 v106 fun v108=>
 kif v108
 (k [q52] p107)
 (kad v46 q44 fun v109=>
 r44 v59 v109 p107))
 (j43 p47)) q32 q32 p40) fun p110=>
 k [q32] p110))
theorem o51:FO EN 51 f51:=fe 1 (tc (cn_ok o94) (tc (cn_ok o95) (tc (ci_ok o75) (tc (cn_ok o96) (tc (cn_ok o97) tnil))))) [none,none,some [],some [8,42],none,none,some [8,11],none] (by kernel_rfl) fun p s k=>by kernel_rfl
def f52:FT:=fun p s k=>hd s fun a0 s0=>
 nl s0<|
 kln a0 fun v1=>
 jn 1 (fun j2=>
 lp 2 fuel (fun r3 v4 v5 p6=>
 klt v5 v1 fun v7=>
 kif v7
 (kia 6 a0 v5 fun v8=>
 kla p6 6 v8 fun v9=>
 kal p6 q109 fun v10 p11=>
 kst p11 6 v10 v9 fun p12=>
 kfa 5 v10 fun v13=>
 kld p12 v13 fun v14=>
 kad v14 q44 fun v15=>
 ksw mth p12 (.minmax true [(.c v4),(.c v15)]) fun v16 p17=>
 kad v5 q44 fun v18=>
 r3 v16 v18 p17)
 (j2 v4 p6)) q32 q32 p) fun v19 p20=>
 k [v19] p20
theorem o52:FO EN 52 f52:=fe 1 tnil [some [3],some [3,8],none,none] (by kernel_rfl) fun p s k=>by kernel_rfl
def f56:FT:=fun p s k=>hd s fun a0 s0=>
 hd s0 fun a1 s1=>
 nl s1<|
 jn 2 (fun j2=>gdK a0 true (knt a1 fun v3=>
 j2 a1 v3 p) (j2 .undef .undef p)) fun v4 v5 p6=>
 kpk a0 v5 q43 fun v7=>
 k [v7] p6
theorem o56:FO EN 56 f56:=fe 2 tnil [] (by kernel_rfl) fun p s k=>by kernel_rfl
def f54:FT:=fun p s k=>hd s fun a0 s0=>
 hd s0 fun a1 s1=>
 nl s1<|
 jn 1 (fun j2=>gdK a0 false (j2 a1 p) (j2 .undef p)) fun v3 p4=>
 kpk a0 q53 v3 fun v5=>
 k [v5] p4
theorem o54:FO EN 54 f54:=fe 2 tnil [] (by kernel_rfl) fun p s k=>by kernel_rfl
def t53 (self:FT):List Ce:=[⟨53,cn self⟩,⟨56,cn f56⟩,⟨54,cn f54⟩]
def g53:FT→FT:=fun self=>fun p s k=>hd s fun a0 s0=>
 hd s0 fun a1 s1=>
 hd s1 fun a2 s2=>
 hd s2 fun a3 s3=>
 nl s3<|
 kbx p 3 a3 fun v4 p5=>
 kia 6 a0 a1 fun v6=>
 kla p5 6 v6 fun v7=>
 kal p5 q109 fun v8 p9=>
 kst p9 6 v8 v7 fun p10=>
 kfa 5 v8 fun v11=>
 kld p10 v11 fun v12=>
 kge v12 q32 fun v13=>
 kif v13
 (kfa 5 v8 fun v14=>
 kld p10 v14 fun v15=>
 kia 1 a2 v15 fun v16=>
 kld p10 v16 fun v17=>
 k [v17] p10)
 (kfa 4 v8 fun v18=>
 kld (prt [] p10) v18 fun v19=>
 kia 1 v19 q32 fun v20=>
 kld (prt [] p10) v20 fun v21=>
 kla (prt [] p10) 3 v4 fun v22=>
 cn self p10 [a0,v21,a2,v22] fun v23 p24=>
 kfa 4 v8 fun v25=>
 kld p24 v25 fun v26=>
 ksl 1 v26 (some q44) none none fun v27=>
 kln v27 fun v28=>
 jn 1 (fun j29=>
 lp 2 fuel (fun r30 v31 v32 p33=>
 klt v32 v28 fun v34=>
 kif v34
 (kia 1 v27 v32 fun v35=>
 kld p33 v35 fun v36=>
 kfa 0 v8 fun v37=>
 kld (prt [] p33) v37 fun v38=>
 ksb v38 q11 fun v39=>
 kib 3 1 v4 v39 fun v40=>
 kld (prt [] p33) v40 fun v41=>
 kla (prt [] p33) 3 v4 fun v42=>
 cn self (prt [] p33) [a0,v36,a2,v42] fun v43 p44=>
 unpK p33 p44 fun p45=>
 kcv (t53 self) p45 v41 [v31,v43] fun v46 p47=>
 kad v32 q44 fun v48=>
 r30 v46 v48 p47)
 (j29 v31 p33)) v23 q32 p24) fun v49 p50=>
 k [v49] p50)
def f53:FT:=rcF depth g53
theorem o53:FO EN 53 f53:=FO.rc (fun self h=>fe 4 (T:=t53 self) (tc (cn_ok h) (tc (cn_ok o56) (tc (cn_ok o54) tnil))) [none,some [10],some [10,37],none,none] (by kernel_rfl) fun p s k=>by kernel_rfl) depth
def f27:FT:=fun p s k=>hd s fun a0 s0=>
 hd s0 fun a1 s1=>
 nl s1<|
 cn f51 p [a0] fun v2 p3=>
 keq true .i v2 q32 fun v4=>
 kif v4
 (k [q43,v2] p3)
 (kln a1 fun v5=>
 cn f52 p3 [a0] fun v6 p7=>
 keq true .i v5 v6 fun v8=>
 kif v8
 (k [q43,q47] p7)
 (kbd q116 [(0,1,q117),(1,1,q118),(2,1,q119)] fun v9=>
 cn f53 p7 [a0,q32,a1,v9] fun v10 p11=>
 k [v10,q32] p11))
theorem o27:FO EN 27 f27:=fe 2 (tc (cn_ok o51) (tc (cn_ok o52) (tc (cn_ok o53) tnil))) [none,none] (by kernel_rfl) fun p s k=>by kernel_rfl
def f10:FT:=fun p s k=>hd s fun a0 s0=>
 hd s0 fun a1 s1=>
 hd s1 fun a2 s2=>
 hd s2 fun a3 s3=>
 nl s3<|
 kbx p 5 a0 fun v4 p5=>
 kbx p5 3 a1 fun v6 p7=>
 kbx p7 2 a2 fun v8 p9=>
 kla p9 5 v4 fun v10=>
 kla p9 3 v6 fun v11=>
 ci f22 p9 [v10,v11] fun v12 p13=>
 kex v12 0 fun v14=>
 kex v12 1 fun v15=>
 kal p13 q111 fun v16 p17=>
 kst p17 6 v16 v14 fun p18=>
 keq true .i v15 q32 fun v19=>
 kif v19
 (k [q43,v15] p18)
 (kla p18 5 v4 fun v20=>
 kla p18 3 v6 fun v21=>
 kla p18 6 v16 fun v22=>
 ci f23 p18 [v20,v21,v22] fun v23 p24=>
 cn f24 p24 [v23] fun v25 p26=>
 kln a3 fun v27=>
 keq true .i v25 v27 fun v28=>
 kif v28
 (k [q43,q47] p26)
 (kln v23 fun v29=>
 kms p26 1 1 q96 v29 v29 fun v30 p31=>
 kln v23 fun v32=>
 jn 0 (fun j33=>
 lp 2 fuel (fun r34 v35 v36 p37=>
 klt v36 v32 fun v38=>
 kif v38
 (kia 3 v23 v36 fun v39=>
 kla p37 3 v39 fun v40=>
 kal p37 q114 fun v41 p42=>
 kst p42 3 v41 v40 fun p43=>
 kfa 2 v41 fun v44=>
 kld p43 v44 fun v45=>
 kln v45 fun v46=>
 kfa 1 v41 fun v47=>
 kld p43 v47 fun v48=>
 kla p43 2 v8 fun v49=>
 cn f25 p43 [v48,v49] fun v50 p51=>
 jn 4 (fun j52=>gdK v50 false (ksl 1 v35 none (some v46) none fun v53=>
 cn f26 p51 [v53,q53] fun v54 p55=>
 j52 v35 v46 v53 v54 p55) (j52 .undef .undef .undef .undef p51)) fun v56 v57 v58 v59 p60=>
 kpk v50 q53 v59 fun v61=>
 kia 1 v30 v36 fun v62=>
 kst p60 1 v62 v61 fun p63=>
 ksl 1 v35 (some v46) none none fun v64=>
 kad v36 q44 fun v65=>
 r34 v64 v65 p63)
 (j33 p37)) a3 q32 p31) fun p66=>
 kfa 5 v16 fun v67=>
 kld p66 v67 fun v68=>
 cn f27 p66 [v68,v30] fun v69 p70=>
 kex v69 0 fun v71=>
 kex v69 1 fun v72=>
 k [v71,v72] p70))
theorem o10:FO EN 10 f10:=fe 4 (tc (ci_ok o22) (tc (ci_ok o23) (tc (cn_ok o24) (tc (cn_ok o25) (tc (cn_ok o26) (tc (cn_ok o27) tnil)))))) [none,none,some [],some [3,40],none,none] (by kernel_rfl) fun p s k=>by kernel_rfl
def f31:FT:=fun p s k=>hd s fun a0 s0=>
 hd s0 fun a1 s1=>
 nl s1<|
 kln a0 fun v2=>
 kln a1 fun v3=>
 keq true .i v2 v3 fun v4=>
 kif v4
 (k [q32] p)
 (jn 0 (fun j5=>
 lp 1 fuel (fun r6 v7 p8=>
 kln a0 fun v9=>
 klt v7 v9 fun v10=>
 kif v10
 (kia 2 a0 v7 fun v11=>
 kla (prt [] p8) 2 v11 fun v12=>
 kia 2 a1 v7 fun v13=>
 kla (prt [] p8) 2 v13 fun v14=>
 kea true [(0,.s),(1,.s)] v12 v14 fun v15=>
 kif v15
 (k [q32] p8)
 (kad v7 q44 fun v16=>
 r6 v16 p8))
 (j5 p8)) q32 p) fun p17=>
 k [q44] p17)
theorem o31:FO EN 31 f31:=fe 2 tnil [none,some [],some [5],none,none,none] (by kernel_rfl) fun p s k=>by kernel_rfl
def f28:FT:=fun p s k=>hd s fun a0 s0=>
 hd s0 fun a1 s1=>
 nl s1<|
 kln a0 fun v2=>
 kln a1 fun v3=>
 keq true .i v2 v3 fun v4=>
 kif v4
 (k [q32] p)
 (jn 0 (fun j5=>
 lp 1 fuel (fun r6 v7 p8=>
 kln a0 fun v9=>
 klt v7 v9 fun v10=>
 kif v10
 (kia 3 a0 v7 fun v11=>
 kfa 0 v11 fun v12=>
 kld (prt [] p8) v12 fun v13=>
 kia 3 a1 v7 fun v14=>
 kfa 0 v14 fun v15=>
 kld (prt [] p8) v15 fun v16=>
 keq true .i v13 v16 fun v17=>
 jn 24 (fun j18=>gdK v17 false (kia 3 a0 v7 fun v19=>
 kfa 1 v19 fun v20=>
 kld (prt [] p8) v20 fun v21=>
 kia 3 a1 v7 fun v22=>
 kfa 1 v22 fun v23=>
 kld (prt [] p8) v23 fun v24=>
 cn f31 (prt [] p8) [v21,v24] fun v25 p26=>
 unpK p8 p26 fun p27=>
 kia 3 a0 v7 fun v28=>
 kfa 2 v28 fun v29=>
 kld (prt [(p8.next,p26.next)] p27) v29 fun v30=>
 kia 3 a1 v7 fun v31=>
 kfa 2 v31 fun v32=>
 kld (prt [(p8.next,p26.next)] p27) v32 fun v33=>
 cn f7 p27 [v30,v33] fun v34 p35=>
 kar .mul v25 v34 fun v36=>
 keq false .i v36 q32 fun v37=>
 j18 a0 v7 v19 v20 v21 a1 v7 v22 v23 v24 v25 a0 v7 v28 v29 v30 a1 v7 v31 v32 v33 v34 v36 v37 p35) (j18 .undef .undef .undef .undef .undef .undef .undef .undef .undef .undef .undef .undef .undef .undef .undef .undef .undef .undef .undef .undef .undef .undef .undef .undef p8)) fun v38 v39 v40 v41 v42 v43 v44 v45 v46 v47 v48 v49 v50 v51 v52 v53 v54 v55 v56 v57 v58 v59 v60 v61 p62=>
 kpk v17 q53 v61 fun v63=>
 kif v63
 (k [q32] p62)
 (kad v7 q44 fun v64=>
 r6 v64 p62))
 (j5 p8)) q32 p) fun p65=>
 k [q44] p65)
theorem o28:FO EN 28 f28:=fe 2 (tc (cn_ok o31) (tc (cn_ok o7) tnil)) [none,some [],some [5],none,none,none] (by kernel_rfl) fun p s k=>by kernel_rfl
def f29:FT:=fun p s k=>hd s fun a0 s0=>
 hd s0 fun a1 s1=>
 nl s1<|
 kbx p 5 a0 fun v2 p3=>
 kbx p3 3 a1 fun v4 p5=>
 kla p5 5 v2 fun v6=>
 kla p5 3 v4 fun v7=>
 ci f22 p5 [v6,v7] fun v8 p9=>
 kex v8 0 fun v10=>
 kex v8 1 fun v11=>
 kal p9 q111 fun v12 p13=>
 kst p13 6 v12 v10 fun p14=>
 kfa 3 v12 fun v15=>
 kld p14 v15 fun v16=>
 k [v16,v11] p14
theorem o29:FO EN 29 f29:=fe 2 (tc (ci_ok o22) tnil) [] (by kernel_rfl) fun p s k=>by kernel_rfl
def f59:FT:=fun p s k=>hd s fun a0 s0=>
 nl s0<|
 jn 0 (fun j1=>
 lp 1 fuel (fun r2 v3 p4=>
 kln a0 fun v5=>
 klt v3 v5 fun v6=>
 kif v6
 (ksb v3 q44 fun v7=>
 kia 2 a0 v7 fun v8=>
 kla (prt [] p4) 2 v8 fun v9=>
 kia 2 a0 v3 fun v10=>
 kla (prt [] p4) 2 v10 fun v11=>
 cn f99 p4 [v9,v11] fun v12 p13=>
 kge v12 q32 fun v14=>
 kif v14
 (k [q43] p13)
 (kad v3 q44 fun v15=>
 r2 v15 p13))
 (j1 p4)) q44 p) fun p16=>
 k [q53] p16
theorem o59:FO EN 59 f59:=fe 1 (tc (cn_ok o99) tnil) [some [],some [3],none,none,none] (by kernel_rfl) fun p s k=>by kernel_rfl
def f58:FT:=fun p s k=>hd s fun a0 s0=>
 nl s0<|
 cn f59 p [a0] fun v1 p2=>
 knt v1 fun v3=>
 k [v3] p2
theorem o58:FO EN 58 f58:=fe 1 (tc (cn_ok o59) tnil) [] (by kernel_rfl) fun p s k=>by kernel_rfl
def t98:List Ce:=[⟨58,cn f58⟩]
def f98:FT:=fun p s k=>hd s fun a0 s0=>
 hd s0 fun a1 s1=>
 nl s1<|
 kln a0 fun v2=>
 jn 0 (fun j3=>
 lp 1 fuel (fun r4 v5 p6=>
 klt v5 v2 fun v7=>
 kif v7
 (kia 1 a0 v5 fun v8=>
 kld p6 v8 fun v9=>
 kcv t98 p6 a1 [v9] fun v10 p11=>
 kif v10
 (k [v5] p11)
 (kad v5 q44 fun v12=>
 r4 v12 p11))
 (j3 p6)) q32 p) fun p13=>
 k [q63] p13
theorem o98:FO EN 98 f98:=fe 2 (T:=t98) (tc (cn_ok o58) tnil) [some [],some [8],none,none,none] (by kernel_rfl) fun p s k=>by kernel_rfl
def f57:FT:=fun p s k=>hd s fun a0 s0=>
 hd s0 fun a1 s1=>
 nl s1<|
 cn f98 p [a0,a1] fun v2 p3=>
 kge v2 q32 fun v4=>
 k [v4] p3
theorem o57:FO EN 57 f57:=fe 2 (tc (cn_ok o98) tnil) [] (by kernel_rfl) fun p s k=>by kernel_rfl
def f61:FT:=fun p s k=>hd s fun a0 s0=>
 nl s0<|
 ken false .s a0 .nils fun v1=>
 kif v1
 (k [.nils] p)
 (kbs p 0 [] [] fun v2 p3=>
 kap p3 1 24 v2 a0 fun v4 p5=>
 k [v4] p5)
theorem o61:FO EN 61 f61:=fe 1 tnil [none] (by kernel_rfl) fun p s k=>by kernel_rfl
def f156:FT:=fun p s k=>hd s fun a0 s0=>
 hd s0 fun a1 s1=>
 nl s1<|
 klt a1 q32 fun v2=>
 jn 0 (fun j3 => kif v2
 (kmi 9 q120 fun v4=>
 ksw mth p (.bad) fun v5 p6=>
 j3 p6)
 (j3 p)) fun p7=>
 ksw mth p7 (.capOf (.c a0)) fun v8 p9=>
 kln a0 fun v10=>
 ksb v8 v10 fun v11=>
 ksb a1 v11 fun v12=>
 kgt v12 q32 fun v13=>
 jn 1 (fun j14 => kif v13
 (ksw mth p9 (.capOf (.c a0)) fun v15 p16=>
 ksl 2 a0 none (some v15) none fun v17=>
 ksw mth p16 (.appendZ 2 32 q1 (.c v17) (.c v12)) fun v18 p19=>
 kln a0 fun v20=>
 ksl 2 v18 none (some v20) none fun v21=>
 j14 v21 p19)
 (j14 a0 p9)) fun v22 p23=>
 k [v22] p23
theorem o156:FO EN 156 f156:=fe 2 tnil [some [],some [0]] (by kernel_rfl) fun p s k=>by kernel_rfl
def f100:FT:=fun p s k=>hd s fun a0 s0=>
 nl s0<|
 kln a0 fun v1=>
 jn 1 (fun j2=>
 lp 2 fuel (fun r3 v4 v5 p6=>
 klt v5 v1 fun v7=>
 kif v7
 (kia 1 a0 v5 fun v8=>
 kld p6 v8 fun v9=>
 kln v9 fun v10=>
 kad v4 v10 fun v11=>
 klt v11 q32 fun v12=>
 jn 0 (fun j13 => kif v12
 (kmi 9 q121 fun v14=>
 ksw mth p6 (.bad) fun v15 p16=>
 j13 p16)
 (j13 p6)) fun p17=>
 kad v5 q44 fun v18=>
 r3 v11 v18 p17)
 (j2 v4 p6)) q32 q32 p) fun v19 p20=>
 ci f156 p20 [.nils,v19] fun v21 p22=>
 kln a0 fun v23=>
 jn 1 (fun j24=>
 lp 2 fuel (fun r25 v26 v27 p28=>
 klt v27 v23 fun v29=>
 kif v29
 (kia 1 a0 v27 fun v30=>
 kld p28 v30 fun v31=>
 kap p28 2 32 v26 v31 fun v32 p33=>
 kad v27 q44 fun v34=>
 r25 v32 v34 p33)
 (j24 v26 p28)) v21 q32 p22) fun v35 p36=>
 k [v35] p36
theorem o100:FO EN 100 f100:=fe 1 (tc (ci_ok o156) tnil) [some [3],some [3,11],none,none,some [],some [6],some [6,27],none,none] (by kernel_rfl) fun p s k=>by kernel_rfl
def t188:List Ce:=[⟨99,cn f99⟩]
def f188:FT:=fun p s k=>hd s fun a0 s0=>
 hd s0 fun a1 s1=>
 hd s1 fun a2 s2=>
 hd s2 fun a3 s3=>
 nl s3<|
 kad a1 q44 fun v4=>
 jn 0 (fun j5=>
 lp 1 fuel (fun r6 v7 p8=>
 klt v7 a2 fun v9=>
 kif v9
 (jn 0 (fun j10=>
 jn 0 (fun j11=>
 lp 1 fuel (fun r12 v13 p14=>
 kgt v13 a1 fun v15=>
 jn 12 (fun j16=>gdK v15 true (kia 2 a0 v13 fun v17=>
 kla (prt [] p14) 2 v17 fun v18=>
 ksb v13 q44 fun v19=>
 kia 2 a0 v19 fun v20=>
 kla (prt [] p14) 2 v20 fun v21=>
 kcv t188 p14 a3 [v18,v21] fun v22 p23=>
 klt v22 q32 fun v24=>
 j16 a3 a0 v13 v17 v18 a0 v13 v19 v20 v21 v22 v24 p23) (j16 .undef .undef .undef .undef .undef .undef .undef .undef .undef .undef .undef .undef p14)) fun v25 v26 v27 v28 v29 v30 v31 v32 v33 v34 v35 v36 p37=>
 kpk v15 v36 q43 fun v38=>
 kif v38
 (ksb v13 q44 fun v39=>
 ksb v13 q44 fun v40=>
 kia 2 a0 v40 fun v41=>
 kla (prt [] p37) 2 v41 fun v42=>
 kia 2 a0 v13 fun v43=>
 kla (prt [] p37) 2 v43 fun v44=>
 kia 2 a0 v13 fun v45=>
 kst p37 2 v45 v42 fun p46=>
 kia 2 a0 v39 fun v47=>
 kst p46 2 v47 v44 fun p48=>
 ksb v13 q44 fun v49=>
 r12 v49 p48)
 (j11 p37)) v7 p8) fun p50=>
 j10 p50) fun p51=>
 kad v7 q44 fun v52=>
 r6 v52 p51)
 (j5 p8)) v4 p) fun p53=>
 k [] p53
theorem o188:FO EN 188 f188:=fe 4 (T:=t188) (tc (cn_ok o99) tnil) [some [],some [8],none,some [],some [],some [9],none,none] (by kernel_rfl) fun p s k=>by kernel_rfl
def f157:FT:=fun p s k=>hd s fun a0 s0=>
 hd s0 fun a1 s1=>
 hd s1 fun a2 s2=>
 hd s2 fun a3 s3=>
 hd s3 fun a4 s4=>
 nl s4<|
 jn 0 (fun j5=>
 lp 5 fuel (fun r6 v7 v8 v9 v10 v11 p12=>
 jn 5 (fun j13=>
 ksb v8 v7 fun v14=>
 kle v14 q51 fun v15=>
 kif v15
 (ci f188 p12 [a0,v7,v8,a4] fun v16 p17=>
 k [] p17)
 (keq false .i v9 q32 fun v18=>
 kif v18
 (.no)
 (knt v10 fun v19=>
 jn 1 (fun j20 => kif v19
 (.no)
 (j20 v9 p12)) fun v21 p22=>
 .no))) fun v23 v24 v25 v26 v27 p28=>
 r6 v23 v24 v25 v26 v27 p28) a1 a2 a3 q53 q53 p) fun p29=>
 k [] p29
theorem o157:FO EN 157 f157:=fe 5 (tc (ci_ok o188) tnil) [some [],some [1,2,3,10,11],some [1,2,3,10,11],none,none,some [3],some [13,14],some [],none,none,some [1,2,10]] (by kernel_rfl) fun p s k=>by kernel_rfl
def f101:FT:=fun p s k=>hd s fun a0 s0=>
 hd s0 fun a1 s1=>
 nl s1<|
 kln a0 fun v2=>
 kci .u64 v2 fun v3=>
 cc f64 p [v3] fun v4 p5=>
 ci f157 p5 [a0,q32,v2,v4,a1] fun v6 p7=>
 k [] p7
theorem o101:FO EN 101 f101:=fe 2 (tc (cc_ok o64) (tc (ci_ok o157) tnil)) [] (by kernel_rfl) fun p s k=>by kernel_rfl
def f102:FT:=fun p s k=>hd s fun a0 s0=>
 nl s0<|
 kln a0 fun v1=>
 klt v1 q48 fun v2=>
 kif v2
 (k [a0] p)
 (jn 0 (fun j3=>
 lp 1 fuel (fun r4 v5 p6=>
 kln a0 fun v7=>
 klt v5 v7 fun v8=>
 kif v8
 (jn 1 (fun j9=>
 kia 2 a0 v5 fun v10=>
 kla (prt [] p6) 2 v10 fun v11=>
 ksb v5 q44 fun v12=>
 kia 2 a0 v12 fun v13=>
 kla (prt [] p6) 2 v13 fun v14=>
 kea false [(0,.s),(1,.s)] v11 v14 fun v15=>
 kif v15
 (ksl 2 a0 (some v5) none none fun v16=>
 jn 1 (fun j17=>
 lp 2 fuel (fun r18 v19 v20 p21=>
 kln v16 fun v22=>
 klt v20 v22 fun v23=>
 kif v23
 (kia 2 v16 v20 fun v24=>
 kla (prt [] p21) 2 v24 fun v25=>
 ksb v20 q44 fun v26=>
 kia 2 v16 v26 fun v27=>
 kla (prt [] p21) 2 v27 fun v28=>
 kea true [(0,.s),(1,.s)] v25 v28 fun v29=>
 jn 1 (fun j30 => kif v29
 (kia 2 v16 v20 fun v31=>
 kla p21 2 v31 fun v32=>
 kia 2 a0 v19 fun v33=>
 kst p21 2 v33 v32 fun p34=>
 kad v19 q44 fun v35=>
 j30 v35 p34)
 (j30 v19 p21)) fun v36 p37=>
 kad v20 q44 fun v38=>
 r18 v36 v38 p37)
 (j17 v19 p21)) v5 q44 p6) fun v39 p40=>
 ksl 2 a0 (some v39) none none fun v41=>
 ksw mth p40 (.clear q1 (.c v41)) fun v42 p43=>
 ksl 2 a0 none (some v39) none fun v44=>
 k [v44] p43)
 (j9 v5 p6)) fun v45 p46=>
 kad v45 q44 fun v47=>
 r4 v47 p46)
 (j3 p6)) q44 p) fun p48=>
 k [a0] p48)
theorem o102:FO EN 102 f102:=fe 1 tnil [none,some [],some [3],none,some [3],none,some [3],some [3,5],none,none,some [3]] (by kernel_rfl) fun p s k=>by kernel_rfl
def f60:FT:=fun p s k=>hd s fun a0 s0=>
 nl s0<|
 cn f100 p [a0] fun v1 p2=>
 ci f101 p2 [v1,q122] fun v3 p4=>
 cn f102 p4 [v1] fun v5 p6=>
 k [v5] p6
theorem o60:FO EN 60 f60:=fe 1 (tc (cn_ok o100) (tc (ci_ok o101) (tc (cn_ok o102) tnil))) [] (by kernel_rfl) fun p s k=>by kernel_rfl
def f196:FT:=fun p s k=>hd s fun a0 s0=>
 nl s0<|
 keq true .s a0 a0 fun v1=>
 k [v1] p
theorem o196:FO EN 196 f196:=fe 1 tnil [] (by kernel_rfl) fun p s k=>by kernel_rfl
def f158:FT:=fun p s k=>hd s fun a0 s0=>
 hd s0 fun a1 s1=>
 nl s1<|
 cn f196 p [a0] fun v2 p3=>
 cn f196 p3 [a1] fun v4 p5=>
 kif v2
 (kif v4
 (k [q32] p5)
 (k [q63] p5))
 (kif v4
 (k [q44] p5)
 (klt a0 a1 fun v6=>
 kif v6
 (k [q63] p5)
 (kgt a0 a1 fun v7=>
 kif v7
 (k [q44] p5)
 (k [q32] p5))))
theorem o158:FO EN 158 f158:=fe 2 (tc (cn_ok o196) tnil) [none,none,none,none,none] (by kernel_rfl) fun p s k=>by kernel_rfl
def f103:FT:=fun p s k=>hd s fun a0 s0=>
 hd s0 fun a1 s1=>
 nl s1<|
 kbx p 2 a0 fun v2 p3=>
 kbx p3 2 a1 fun v4 p5=>
 kfa 0 v2 fun v6=>
 kld (prt [] p5) v6 fun v7=>
 kfa 0 v4 fun v8=>
 kld (prt [] p5) v8 fun v9=>
 cn f158 (prt [] p5) [v7,v9] fun v10 p11=>
 unpK p5 p11 fun p12=>
 kfa 1 v2 fun v13=>
 kld (prt [(p5.next,p11.next)] p12) v13 fun v14=>
 kfa 1 v4 fun v15=>
 kld (prt [(p5.next,p11.next)] p12) v15 fun v16=>
 cn f158 p12 [v14,v16] fun v17 p18=>
 kbs p18 2 q45 [(0,1,v10),(1,1,v17)] fun v19 p20=>
 cc f65 p20 [v19] fun v21 p22=>
 k [v21] p22
theorem o103:FO EN 103 f103:=fe 2 (tc (cn_ok o158) (tc (cc_ok o65) tnil)) [] (by kernel_rfl) fun p s k=>by kernel_rfl
def f105:FT:=fun p s k=>hd s fun a0 s0=>
 nl s0<|
 kbx p 1 a0 fun v1 p2=>
 k [(.func (.func 159) [] [v1])] p2
theorem o105:FO EN 105 f105:=fe 1 tnil [] (by kernel_rfl) fun p s k=>by kernel_rfl
def f108:FT:=fun p s k=>hd s fun a0 s0=>
 hd s0 fun a1 s1=>
 nl s1<|
 jn 2 (fun j2=>gdK a0 true (knt a1 fun v3=>
 j2 a1 v3 p) (j2 .undef .undef p)) fun v4 v5 p6=>
 kpk a0 v5 q43 fun v7=>
 k [v7] p6
theorem o108:FO EN 108 f108:=fe 2 tnil [] (by kernel_rfl) fun p s k=>by kernel_rfl
def f106:FT:=fun p s k=>hd s fun a0 s0=>
 hd s0 fun a1 s1=>
 nl s1<|
 jn 1 (fun j2=>gdK a0 false (j2 a1 p) (j2 .undef p)) fun v3 p4=>
 kpk a0 q53 v3 fun v5=>
 k [v5] p4
theorem o106:FO EN 106 f106:=fe 2 tnil [] (by kernel_rfl) fun p s k=>by kernel_rfl
def t159:List Ce:=[⟨103,cn f103⟩,⟨108,cn f108⟩,⟨106,cn f106⟩]
def f159:FT:=fun p s k=>hd s fun a0 s0=>
 hd s0 fun a1 s1=>
 hd s1 fun a2 s2=>
 nl s2<|
 jn 1 (fun j3=>
 lp 3 fuel (fun r4 v5 v6 v7 p8=>
 kln v5 fun v9=>
 kln v6 fun v10=>
 kad v9 v10 fun v11=>
 kgt v11 q32 fun v12=>
 kif v12
 (kln v5 fun v13=>
 keq false .i v13 q32 fun v14=>
 jn 1 (fun j15 => kif v14
 (j15 q44 p8)
 (kln v6 fun v16=>
 keq false .i v16 q32 fun v17=>
 jn 1 (fun j18 => kif v17
 (j18 q63 p8)
 (kia 2 v5 q32 fun v19=>
 kla (prt [] p8) 2 v19 fun v20=>
 kia 2 v6 q32 fun v21=>
 kla (prt [] p8) 2 v21 fun v22=>
 cn f103 p8 [v20,v22] fun v23 p24=>
 j18 v23 p24)) fun v25 p26=>
 j15 v25 p26)) fun v27 p28=>
 kal p28 q1 fun v29 p30=>
 kle v27 q32 fun v31=>
 jn 1 (fun j32 => kif v31
 (kia 2 v5 q32 fun v33=>
 kla p30 2 v33 fun v34=>
 ksl 2 v5 (some q44) none none fun v35=>
 kst p30 2 v29 v34 fun p36=>
 j32 v35 p36)
 (j32 v5 p30)) fun v37 p38=>
 kge v27 q32 fun v39=>
 jn 1 (fun j40 => kif v39
 (kia 2 v6 q32 fun v41=>
 kla p38 2 v41 fun v42=>
 ksl 2 v6 (some q44) none none fun v43=>
 kst p38 2 v29 v42 fun p44=>
 j40 v43 p44)
 (j40 v6 p38)) fun v45 p46=>
 kld p46 a2 fun v47=>
 kle v27 q32 fun v48=>
 kge v27 q32 fun v49=>
 kcv t159 p46 v47 [v48,v49] fun v50 p51=>
 jn 1 (fun j52 => kif v50
 (kla p51 2 v29 fun v53=>
 kbs p51 1 q1 [(0,2,v53)] fun v54 p55=>
 kap p55 2 32 v7 v54 fun v56 p57=>
 j52 v56 p57)
 (j52 v7 p51)) fun v58 p59=>
 r4 v37 v45 v58 p59)
 (j3 v7 p8)) a0 a1 .nils p) fun v60 p61=>
 k [v60] p61
theorem o159:FO EN 159 f159:=fe 3 (T:=t159) (tc (cn_ok o103) (tc (cn_ok o108) (tc (cn_ok o106) tnil))) [some [6],some [0,1,6],none,none,none,some [7],some [7],some [0],some [1],some [6]] (by kernel_rfl) fun p s k=>by kernel_rfl
def t104 (self:FT):List Ce:=[⟨104,cn self⟩,⟨159,cn f159⟩]
def g104:FT→FT:=fun self=>fun p s k=>hd s fun a0 s0=>
 hd s0 fun a1 s1=>
 hd s1 fun a2 s2=>
 hd s2 fun a3 s3=>
 nl s3<|
 kbx p 3 a3 fun v4 p5=>
 kia 6 a0 a1 fun v6=>
 kla p5 6 v6 fun v7=>
 kal p5 q109 fun v8 p9=>
 kst p9 6 v8 v7 fun p10=>
 kfa 5 v8 fun v11=>
 kld p10 v11 fun v12=>
 kge v12 q32 fun v13=>
 kif v13
 (kfa 5 v8 fun v14=>
 kld p10 v14 fun v15=>
 kia 1 a2 v15 fun v16=>
 kld p10 v16 fun v17=>
 k [v17] p10)
 (kfa 4 v8 fun v18=>
 kld (prt [] p10) v18 fun v19=>
 kia 1 v19 q32 fun v20=>
 kld (prt [] p10) v20 fun v21=>
 kla (prt [] p10) 3 v4 fun v22=>
 cn self p10 [a0,v21,a2,v22] fun v23 p24=>
 kfa 4 v8 fun v25=>
 kld p24 v25 fun v26=>
 ksl 1 v26 (some q44) none none fun v27=>
 kln v27 fun v28=>
 jn 1 (fun j29=>
 lp 2 fuel (fun r30 v31 v32 p33=>
 klt v32 v28 fun v34=>
 kif v34
 (kia 1 v27 v32 fun v35=>
 kld p33 v35 fun v36=>
 kfa 0 v8 fun v37=>
 kld (prt [] p33) v37 fun v38=>
 ksb v38 q11 fun v39=>
 kib 3 1 v4 v39 fun v40=>
 kld (prt [] p33) v40 fun v41=>
 kla (prt [] p33) 3 v4 fun v42=>
 cn self (prt [] p33) [a0,v36,a2,v42] fun v43 p44=>
 unpK p33 p44 fun p45=>
 kcv (t104 self) p45 v41 [v31,v43] fun v46 p47=>
 kad v32 q44 fun v48=>
 r30 v46 v48 p47)
 (j29 v31 p33)) v23 q32 p24) fun v49 p50=>
 k [v49] p50)
def f104:FT:=rcF depth g104
theorem o104:FO EN 104 f104:=FO.rc (fun self h=>fe 4 (T:=t104 self) (tc (cn_ok h) (tc (cn_ok o159) tnil)) [none,some [10],some [10,37],none,none] (by kernel_rfl) fun p s k=>by kernel_rfl) depth
def f109:FT:=fun p s k=>hd s fun a0 s0=>
 nl s0<|
 ken false .s a0 .nils fun v1=>
 kif v1
 (k [.nils] p)
 (kbs p 0 [] [] fun v2 p3=>
 kap p3 2 32 v2 a0 fun v4 p5=>
 k [v4] p5)
theorem o109:FO EN 109 f109:=fe 1 tnil [none] (by kernel_rfl) fun p s k=>by kernel_rfl
def f62:FT:=fun p s k=>hd s fun a0 s0=>
 hd s0 fun a1 s1=>
 nl s1<|
 cn f51 p [a0] fun v2 p3=>
 keq true .i v2 q32 fun v4=>
 kif v4
 (k [.nils,v2] p3)
 (kln a1 fun v5=>
 cn f52 p3 [a0] fun v6 p7=>
 keq true .i v5 v6 fun v8=>
 kif v8
 (k [.nils,q47] p7)
 (kln a1 fun v9=>
 jn 0 (fun j10=>
 lp 1 fuel (fun r11 v12 p13=>
 klt v12 v9 fun v14=>
 kif v14
 (jn 0 (fun j15=>
 kia 1 a1 v12 fun v16=>
 kld p13 v16 fun v17=>
 jn 0 (fun j18=>
 lp 1 fuel (fun r19 v20 p21=>
 kln v17 fun v22=>
 klt v20 v22 fun v23=>
 kif v23
 (ksb v20 q44 fun v24=>
 kia 2 v17 v24 fun v25=>
 kla (prt [] p21) 2 v25 fun v26=>
 kia 2 v17 v20 fun v27=>
 kla (prt [] p21) 2 v27 fun v28=>
 cn f103 p21 [v26,v28] fun v29 p30=>
 kge v29 q32 fun v31=>
 kif v31
 (k [.nils,q104] p30)
 (kad v20 q44 fun v32=>
 r19 v32 p30))
 (j18 p21)) q44 p13) fun p33=>
 j15 p33) fun p34=>
 kad v12 q44 fun v35=>
 r11 v35 p34)
 (j10 p13)) q32 p7) fun p36=>
 cn f105 p36 [q123] fun v37 p38=>
 cn f105 p38 [q124] fun v39 p40=>
 cn f105 p40 [q125] fun v41 p42=>
 kbd q116 [(0,1,v37),(1,1,v39),(2,1,v41)] fun v43=>
 cn f104 p42 [a0,q32,a1,v43] fun v44 p45=>
 cn f109 p45 [v44] fun v46 p47=>
 ci f93 p47 [v46] fun v48 p49=>
 k [v48,q32] p49))
theorem o62:FO EN 62 f62:=fe 2 (tc (cn_ok o51) (tc (cn_ok o52) (tc (cn_ok o103) (tc (cn_ok o105) (tc (cn_ok o104) (tc (cn_ok o109) (tc (ci_ok o93) tnil))))))) [none,none,some [],some [23],none,some [],some [],some [9],none,none,none] (by kernel_rfl) fun p s k=>by kernel_rfl
def f30:FT:=fun p s k=>hd s fun a0 s0=>
 hd s0 fun a1 s1=>
 hd s1 fun a2 s2=>
 nl s2<|
 kbx p 5 a0 fun v3 p4=>
 kbx p4 3 a1 fun v5 p6=>
 kla p6 5 v3 fun v7=>
 kla p6 3 v5 fun v8=>
 ci f22 p6 [v7,v8] fun v9 p10=>
 kex v9 0 fun v11=>
 kex v9 1 fun v12=>
 kal p10 q111 fun v13 p14=>
 kst p14 6 v13 v11 fun p15=>
 keq true .i v12 q32 fun v16=>
 kif v16
 (k [.nils,v12] p15)
 (kla p15 5 v3 fun v17=>
 kla p15 3 v5 fun v18=>
 kla p15 6 v13 fun v19=>
 ci f23 p15 [v17,v18,v19] fun v20 p21=>
 cn f24 p21 [v20] fun v22 p23=>
 kln a2 fun v24=>
 keq true .i v22 v24 fun v25=>
 kif v25
 (k [.nils,q47] p23)
 (kln v20 fun v26=>
 kms p23 1 24 q0 v26 v26 fun v27 p28=>
 kln v20 fun v29=>
 jn 0 (fun j30=>
 lp 2 fuel (fun r31 v32 v33 p34=>
 klt v33 v29 fun v35=>
 kif v35
 (kia 3 v20 v33 fun v36=>
 kla p34 3 v36 fun v37=>
 kal p34 q114 fun v38 p39=>
 kst p39 3 v38 v37 fun p40=>
 kfa 2 v38 fun v41=>
 kld p40 v41 fun v42=>
 kln v42 fun v43=>
 ksl 1 v32 none (some v43) none fun v44=>
 cn f57 p40 [v44,q126] fun v45 p46=>
 kif v45
 (k [.nils,q104] p46)
 (ksl 1 v32 none (some v43) none fun v47=>
 cn f61 (prt [] p46) [v47] fun v48 p49=>
 unpK p46 p49 fun p50=>
 kfa 1 v38 fun v51=>
 kld (prt [(p46.next,p49.next)] p50) v51 fun v52=>
 kbs p50 1 q0 [(0,1,v52)] fun v53 p54=>
 kap p54 1 24 v48 v53 fun v55 p56=>
 cn f60 p56 [v55] fun v57 p58=>
 kia 1 v27 v33 fun v59=>
 kst p58 1 v59 v57 fun p60=>
 ksl 1 v32 (some v43) none none fun v61=>
 kad v33 q44 fun v62=>
 r31 v61 v62 p60))
 (j30 p34)) a2 q32 p28) fun p63=>
 kfa 5 v13 fun v64=>
 kld p63 v64 fun v65=>
 cn f62 p63 [v65,v27] fun v66 p67=>
 kex v66 0 fun v68=>
 kex v66 1 fun v69=>
 k [v68,v69] p67))
theorem o30:FO EN 30 f30:=fe 3 (tc (ci_ok o22) (tc (ci_ok o23) (tc (cn_ok o24) (tc (cn_ok o57) (tc (cn_ok o61) (tc (cn_ok o60) (tc (cn_ok o62) tnil))))))) [none,none,some [],some [2,38],none,none,none] (by kernel_rfl) fun p s k=>by kernel_rfl
def f11:FT:=fun p s k=>nl s<|
 ci f4 p [] fun v0 p1=>
 kex v0 0 fun v2=>
 kex v0 1 fun v3=>
 ci f5 p1 [v2,v3] fun v4 p5=>
 kex v4 0 fun v6=>
 kex v4 1 fun v7=>
 kex v4 2 fun v8=>
 kal p5 q113 fun v9 p10=>
 kal p10 q112 fun v11 p12=>
 kst p12 5 v9 v6 fun p13=>
 kst p13 5 v11 v7 fun p14=>
 kbd q1 [(0,1,q22),(1,1,q24)] fun v15=>
 kal p14 q1 fun v16 p17=>
 kst p17 2 v16 v15 fun p18=>
 kbd q1 [(0,1,q2),(1,1,q28)] fun v19=>
 kbd q1 [(0,1,q2),(1,1,q30)] fun v20=>
 kbd q1 [(0,1,q2),(1,1,q127)] fun v21=>
 kal p18 q1 fun v22 p23=>
 kal p23 q1 fun v24 p25=>
 kal p25 q1 fun v26 p27=>
 kst p27 2 v22 v19 fun p28=>
 kst p28 2 v24 v20 fun p29=>
 kst p29 2 v26 v21 fun p30=>
 kla (prt [] p30) 2 v16 fun v31=>
 kbd q25 [(0,2,v31),(2,1,q9)] fun v32=>
 kla (prt [] p30) 2 v16 fun v33=>
 kbd q25 [(0,2,v33),(2,1,q12)] fun v34=>
 kal p30 q25 fun v35 p36=>
 kal p36 q25 fun v37 p38=>
 kps p38 [] [v16] 3 v35 v32 fun b39 p40=>
 kst p40 3 v37 v34 fun p41=>
 kla p41 2 v16 fun v42=>
 kbd q25 [(0,2,v42),(2,1,q6)] fun v43=>
 kbd q1 [(0,1,q15),(1,1,q26)] fun v44=>
 kbd q25 [(0,2,v44),(2,1,q9)] fun v45=>
 kal p41 q25 fun v46 p47=>
 kal p47 q25 fun v48 p49=>
 kst p49 3 v46 v43 fun p50=>
 kst p50 3 v48 v45 fun p51=>
 kbd q1 [(0,1,q17),(1,1,q29)] fun v52=>
 kbd q25 [(0,2,v52),(2,1,q18)] fun v53=>
 kal p51 q25 fun v54 p55=>
 kst p55 3 v54 v53 fun p56=>
 kla p56 5 v11 fun v57=>
 kla p56 3 v35 fun v58=>
 ci f16 p56 [v57,v58] fun v59 p60=>
 kex v59 0 fun v61=>
 kex v59 1 fun v62=>
 kla p60 5 v11 fun v63=>
 kla p60 3 v35 fun v64=>
 cn f6 p60 [v63,v64] fun v65 p66=>
 kex v65 0 fun v67=>
 kex v65 1 fun v68=>
 knt v8 fun v69=>
 jn 2 (fun j70=>gdK v69 false (keq true .i v62 q32 fun v71=>
 j70 v62 v71 p66) (j70 .undef .undef p66)) fun v72 v73 p74=>
 kpk v69 q53 v73 fun v75=>
 jn 2 (fun j76=>gdK v75 false (keq true .i v68 q32 fun v77=>
 j76 v68 v77 p74) (j76 .undef .undef p74)) fun v78 v79 p80=>
 kpk v75 q53 v79 fun v81=>
 jn 8 (fun j82=>gdK v81 false (kla p80 3 v54 fun v83=>
 kla p80 3 v46 fun v84=>
 kla p80 3 v48 fun v85=>
 kla p80 3 v37 fun v86=>
 kbs p80 4 q128 [(0,3,v83),(3,3,v84),(6,3,v85),(9,3,v86)] fun v87 p88=>
 cn f7 p88 [v67,v87] fun v89 p90=>
 keq false .i v89 q32 fun v91=>
 j82 v67 v83 v84 v85 v86 v87 v89 v91 p90) (j82 .undef .undef .undef .undef .undef .undef .undef .undef p80)) fun v92 v93 v94 v95 v96 v97 v98 v99 p100=>
 kpk v81 q53 v99 fun v101=>
 jn 18 (fun j102=>gdK v101 false (kla p100 2 v24 fun v103=>
 kbs p100 1 q1 [(0,2,v103)] fun v104 p105=>
 kla p105 3 v54 fun v106=>
 kbs p105 1 q25 [(0,3,v106)] fun v107 p108=>
 kbd q114 [(0,1,q4),(1,1,v104),(2,1,v107)] fun v109=>
 kla p108 3 v46 fun v110=>
 kbs p108 1 q25 [(0,3,v110)] fun v111 p112=>
 kbd q114 [(0,1,q5),(2,1,v111)] fun v113=>
 kla p112 3 v48 fun v114=>
 kbs p112 1 q25 [(0,3,v114)] fun v115 p116=>
 kbd q114 [(0,1,q7),(2,1,v115)] fun v117=>
 kla p116 3 v37 fun v118=>
 kbs p116 1 q25 [(0,3,v118)] fun v119 p120=>
 kbd q114 [(0,1,q5),(2,1,v119)] fun v121=>
 kbs p120 4 q129 [(0,3,v109),(3,3,v113),(6,3,v117),(9,3,v121)] fun v122 p123=>
 cn f28 p123 [v61,v122] fun v124 p125=>
 keq false .i v124 q32 fun v126=>
 j102 v61 v103 v104 v106 v107 v109 v110 v111 v113 v114 v115 v117 v118 v119 v121 v122 v124 v126 p125) (j102 .undef .undef .undef .undef .undef .undef .undef .undef .undef .undef .undef .undef .undef .undef .undef .undef .undef .undef p100)) fun v127 v128 v129 v130 v131 v132 v133 v134 v135 v136 v137 v138 v139 v140 v141 v142 v143 v144 p145=>
 kpk v101 q53 v144 fun v146=>
 kif v146
 (k [q43] p145)
 (kla p145 5 v11 fun v147=>
 kla p145 3 v35 fun v148=>
 cn f29 p145 [v147,v148] fun v149 p150=>
 kex v149 0 fun v151=>
 kex v149 1 fun v152=>
 kla p150 5 v11 fun v153=>
 kla p150 3 v37 fun v154=>
 cn f29 p150 [v153,v154] fun v155 p156=>
 kex v155 0 fun v157=>
 kex v155 1 fun v158=>
 kla p156 5 v11 fun v159=>
 kla p156 3 v35 fun v160=>
 kla p156 2 v26 fun v161=>
 kbs p156 4 q130 [(0,1,q43),(1,1,q53),(2,1,q43),(3,1,q43)] fun v162 p163=>
 cn f10 p163 [v159,v160,v161,v162] fun v164 p165=>
 kex v164 0 fun v166=>
 kex v164 1 fun v167=>
 kla p165 5 v11 fun v168=>
 kla p165 3 v35 fun v169=>
 kla p165 2 v26 fun v170=>
 kbs p165 4 q130 [(0,1,q43),(1,1,q53),(2,1,q43),(3,1,q53)] fun v171 p172=>
 cn f10 p172 [v168,v169,v170,v171] fun v173 p174=>
 kex v173 0 fun v175=>
 kex v173 1 fun v176=>
 kla (prt [] p174) 5 v11 fun v177=>
 kla (prt [] p174) 3 v35 fun v178=>
 kla (prt [] p174) 2 v24 fun v179=>
 kms p174 1 1 q96 q47 q47 fun v180 p181=>
 cn f10 p181 [v177,v178,v179,v180] fun v182 p183=>
 kex v182 0 fun v184=>
 kex v182 1 fun v185=>
 kla (prt [] p183) 5 v11 fun v186=>
 kla (prt [] p183) 3 v35 fun v187=>
 kla (prt [] p183) 2 v24 fun v188=>
 kms p183 1 1 q96 q49 q49 fun v189 p190=>
 cn f10 p190 [v186,v187,v188,v189] fun v191 p192=>
 kex v191 0 fun v193=>
 kex v191 1 fun v194=>
 kla p192 5 v11 fun v195=>
 kla p192 3 v35 fun v196=>
 kla p192 2 v26 fun v197=>
 kbs p192 1 q1 [(0,2,v197)] fun v198 p199=>
 kla p199 2 v22 fun v200=>
 kla p199 2 v24 fun v201=>
 kbs p199 2 q19 [(0,2,v200),(2,2,v201)] fun v202 p203=>
 kla p203 2 v24 fun v204=>
 kbs p203 1 q1 [(0,2,v204)] fun v205 p206=>
 kbs p206 4 q131 [(0,1,v198),(1,1,v202),(2,1,.nils),(3,1,v205)] fun v207 p208=>
 cn f30 p208 [v195,v196,v207] fun v209 p210=>
 kex v209 0 fun v211=>
 kex v209 1 fun v212=>
 keq true .i v152 q32 fun v213=>
 jn 2 (fun j214=>gdK v213 false (keq true .i v158 q32 fun v215=>
 j214 v158 v215 p210) (j214 .undef .undef p210)) fun v216 v217 p218=>
 kpk v213 q53 v217 fun v219=>
 jn 2 (fun j220=>gdK v219 false (keq true .i v167 q32 fun v221=>
 j220 v167 v221 p218) (j220 .undef .undef p218)) fun v222 v223 p224=>
 kpk v219 q53 v223 fun v225=>
 jn 2 (fun j226=>gdK v225 false (keq true .i v176 q32 fun v227=>
 j226 v176 v227 p224) (j226 .undef .undef p224)) fun v228 v229 p230=>
 kpk v225 q53 v229 fun v231=>
 jn 2 (fun j232=>gdK v231 false (keq true .i v185 q32 fun v233=>
 j232 v185 v233 p230) (j232 .undef .undef p230)) fun v234 v235 p236=>
 kpk v231 q53 v235 fun v237=>
 jn 2 (fun j238=>gdK v237 false (keq true .i v194 q47 fun v239=>
 j238 v194 v239 p236) (j238 .undef .undef p236)) fun v240 v241 p242=>
 kpk v237 q53 v241 fun v243=>
 jn 2 (fun j244=>gdK v243 false (keq true .i v212 q32 fun v245=>
 j244 v212 v245 p242) (j244 .undef .undef p242)) fun v246 v247 p248=>
 kpk v243 q53 v247 fun v249=>
 kif v249
 (k [q43] p248)
 (keq false .i v151 q44 fun v250=>
 jn 2 (fun j251=>gdK v250 true (keq false .i v157 q32 fun v252=>
 j251 v157 v252 p248) (j251 .undef .undef p248)) fun v253 v254 p255=>
 kpk v250 v254 q43 fun v256=>
 jn 1 (fun j257=>gdK v256 true (j257 v166 p255) (j257 .undef p255)) fun v258 p259=>
 kpk v256 v258 q43 fun v260=>
 jn 2 (fun j261=>gdK v260 true (knt v175 fun v262=>
 j261 v175 v262 p259) (j261 .undef .undef p259)) fun v263 v264 p265=>
 kpk v260 v264 q43 fun v266=>
 jn 1 (fun j267=>gdK v266 true (j267 v184 p265) (j267 .undef p265)) fun v268 p269=>
 kpk v266 v268 q43 fun v270=>
 jn 6 (fun j271=>gdK v270 true (kla p269 2 v22 fun v272=>
 kla p269 2 v26 fun v273=>
 kbs p269 2 q19 [(0,2,v272),(2,2,v273)] fun v274 p275=>
 cn f31 p275 [v211,v274] fun v276 p277=>
 keq false .i v276 q44 fun v278=>
 j271 v211 v272 v273 v274 v276 v278 p277) (j271 .undef .undef .undef .undef .undef .undef p269)) fun v279 v280 v281 v282 v283 v284 p285=>
 kpk v270 v284 q43 fun v286=>
 k [v286] p285))
theorem o11:FO EN 11 f11:=fe 0 (tc (ci_ok o4) (tc (ci_ok o5) (tc (ci_ok o16) (tc (cn_ok o6) (tc (cn_ok o7) (tc (cn_ok o28) (tc (cn_ok o29) (tc (cn_ok o10) (tc (cn_ok o30) (tc (cn_ok o31) tnil)))))))))) [none,none] (by kernel_rfl) fun p s k=>by kernel_rfl
end
end Go.V
end
section
set_option maxRecDepth 100000
namespace Go.V
noncomputable section
def t3:List Ce:=[⟨4,ci f4⟩,⟨5,ci f5⟩,⟨6,cn f6⟩,⟨9,cn f9⟩,⟨8,cn f8⟩,⟨7,cn f7⟩,⟨10,cn f10⟩,⟨11,cn f11⟩]
def f3:FT:=fun p s k=>nl s<|
 ci f4 p [] fun v0 p1=>
 kex v0 0 fun v2=>
 kex v0 1 fun v3=>
 kal p1 q0 fun v4 p5=>
 kst p5 1 v4 v2 fun p6=>
 kbd q1 [(0,1,q22),(1,1,q132)] fun v7=>
 kal p6 q1 fun v8 p9=>
 kst p9 2 v8 v7 fun p10=>
 jn 1 (fun j11=>
 lp 2 fuel (fun r12 v13 v14 p15=>
 klt v14 q133 fun v16=>
 kif v16
 (kar .rem v14 q134 fun v17=>
 kar .rem v14 q134 fun v18=>
 kad v18 q44 fun v19=>
 kss q135 (some v17) (some v19) fun v20=>
 kar .quo v14 q134 fun v21=>
 kar .quo v14 q134 fun v22=>
 kad v22 q44 fun v23=>
 kss q135 (some v21) (some v23) fun v24=>
 kad v20 v24 fun v25=>
 kla p15 2 v8 fun v26=>
 kbd q25 [(0,2,v26),(2,1,q9)] fun v27=>
 kbd q1 [(0,1,q17),(1,1,v25)] fun v28=>
 kbd q25 [(0,2,v28),(2,1,q18)] fun v29=>
 kbd q27 [(0,3,v27),(3,3,v29)] fun v30=>
 kbs p15 1 q27 [(0,6,v30)] fun v31 p32=>
 kap p32 6 96 v13 v31 fun v33 p34=>
 kad v14 q44 fun v35=>
 r12 v33 v35 p34)
 (j11 v13 p15)) v3 q32 p10) fun v36 p37=>
 resK p37 false [v4,v36,v8] fun q38_ _=>
 hd q38_ fun w39 s40=>
 hd s40 fun w41 s42=>
 hd s42 fun w43 s44=>
 nl s44<|
 kla heapK 1 w39 fun v45=>
 ci f5 heapK [v45,w41] fun v46 p47=>
 kex v46 0 fun v48=>
 kex v46 1 fun v49=>
 kex v46 2 fun v50=>
 kal p47 q113 fun v51 p52=>
 kal p52 q112 fun v53 p54=>
 kst p54 5 v51 v48 fun p55=>
 kst p55 5 v53 v49 fun p56=>
 kla p56 2 w43 fun v57=>
 kbd q25 [(0,2,v57),(2,1,q9)] fun v58=>
 kal p56 q25 fun v59 p60=>
 kst p60 3 v59 v58 fun p61=>
 kla p61 5 v53 fun v62=>
 kla p61 3 v59 fun v63=>
 cn f6 p61 [v62,v63] fun v64 p65=>
 kex v64 0 fun v66=>
 kex v64 1 fun v67=>
 knt v50 fun v68=>
 jn 2 (fun j69=>gdK v68 false (keq true .i v67 q32 fun v70=>
 j69 v67 v70 p65) (j69 .undef .undef p65)) fun v71 v72 p73=>
 kpk v68 q53 v72 fun v74=>
 jn 3 (fun j75=>gdK v74 false (kln v66 fun v76=>
 keq true .i v76 q136 fun v77=>
 j75 v66 v76 v77 p73) (j75 .undef .undef .undef p73)) fun v78 v79 v80 p81=>
 kpk v74 q53 v80 fun v82=>
 jn 7 (fun j83=>gdK v82 false (kla p81 5 v51 fun v84=>
 kla p81 3 v59 fun v85=>
 cn f9 p81 [v84,v85] fun v86 p87=>
 cn f8 p87 [v86] fun v88 p89=>
 cn f7 p89 [v66,v88] fun v90 p91=>
 keq false .i v90 q32 fun v92=>
 j83 v66 v84 v85 v86 v88 v90 v92 p91) (j83 .undef .undef .undef .undef .undef .undef .undef p81)) fun v93 v94 v95 v96 v97 v98 v99 p100=>
 kpk v82 q53 v99 fun v101=>
 jn 6 (fun j102=>gdK v101 false (kia 3 v66 q32 fun v103=>
 kfa 0 v103 fun v104=>
 kfa 1 v104 fun v105=>
 kld p100 v105 fun v106=>
 keq true .s v106 q137 fun v107=>
 j102 v66 v103 v104 v105 v106 v107 p100) (j102 .undef .undef .undef .undef .undef .undef p100)) fun v108 v109 v110 v111 v112 v113 p114=>
 kpk v101 q53 v113 fun v115=>
 jn 5 (fun j116=>gdK v115 false (kia 3 v66 q138 fun v117=>
 kfa 2 v117 fun v118=>
 kld p114 v118 fun v119=>
 keq true .s v119 q12 fun v120=>
 j116 v66 v117 v118 v119 v120 p114) (j116 .undef .undef .undef .undef .undef p114)) fun v121 v122 v123 v124 v125 p126=>
 kpk v115 q53 v125 fun v127=>
 kif v127
 (.no)
 (kms p126 1 1 q96 q136 q136 fun v128 p129=>
 kia 1 v128 q139 fun v130=>
 kst p129 1 v130 q53 fun p131=>
 kla p131 5 v53 fun v132=>
 kla p131 3 v59 fun v133=>
 kbd q1 [(0,1,q2),(1,1,q140)] fun v134=>
 cn f10 p131 [v132,v133,v134,v128] fun v135 p136=>
 kex v135 0 fun v137=>
 kex v135 1 fun v138=>
 kia 1 v128 q138 fun v139=>
 kst p136 1 v139 q53 fun p140=>
 kla p140 5 v53 fun v141=>
 kla p140 3 v59 fun v142=>
 kbd q1 [(0,1,q2),(1,1,q140)] fun v143=>
 cn f10 p140 [v141,v142,v143,v128] fun v144 p145=>
 kex v144 0 fun v146=>
 kex v144 1 fun v147=>
 keq true .i v138 q32 fun v148=>
 jn 2 (fun j149=>gdK v148 false (keq true .i v147 q32 fun v150=>
 j149 v147 v150 p145) (j149 .undef .undef p145)) fun v151 v152 p153=>
 kpk v148 q53 v152 fun v154=>
 jn 2 (fun j155=>gdK v154 false (knt v137 fun v156=>
 j155 v137 v156 p153) (j155 .undef .undef p153)) fun v157 v158 p159=>
 kpk v154 q53 v158 fun v160=>
 jn 1 (fun j161=>gdK v160 false (j161 v146 p159) (j161 .undef p159)) fun v162 p163=>
 kpk v160 q53 v162 fun v164=>
 kif v164
 (.no)
 (kfa 0 v4 fun v165=>
 kld (prt [] p37) v165 fun v166=>
 kia 2 v166 q32 fun v167=>
 kfa 1 v167 fun v168=>
 kld (prt [] p37) v168 fun v169=>
 kfa 0 v4 fun v170=>
 kld (prt [] p37) v170 fun v171=>
 kia 2 v171 q32 fun v172=>
 kfa 1 v172 fun v173=>
 kld (prt [] p37) v173 fun v174=>
 kia 6 v174 q48 fun v175=>
 kfa 1 v175 fun v176=>
 kld (prt [] p37) v176 fun v177=>
 kbd q1 [(0,1,q22),(1,1,q6)] fun v178=>
 kbs p37 1 q1 [(0,2,v178)] fun v179 p180=>
 kpa p180 [] [v165,v168] 2 32 v177 v179 fun p182 v181 p183=>
 kia 6 v169 q48 fun v184=>
 kfa 1 v184 fun v185=>
 kst p183 1 v185 v181 fun p186=>
 ci f4 p186 [] fun v187 p188=>
 kex v187 0 fun v189=>
 kex v187 1 fun v190=>
 kal p188 q0 fun v191 p192=>
 kst p192 1 v191 v189 fun p193=>
 kbd q1 [(0,1,q22),(1,1,q24)] fun v194=>
 kal p193 q1 fun v195 p196=>
 kst p196 2 v195 v194 fun p197=>
 kla p197 2 v195 fun v198=>
 kbd q25 [(0,2,v198),(2,1,q9)] fun v199=>
 kla p197 2 v195 fun v200=>
 kbd q25 [(0,2,v200),(2,1,q6)] fun v201=>
 kbd q27 [(0,3,v199),(3,3,v201)] fun v202=>
 kbs p197 1 q27 [(0,6,v202)] fun v203 p204=>
 kap p204 6 96 v190 v203 fun v205 p206=>
 kla p206 1 v4 fun v207=>
 ci f5 p206 [v207,v205] fun v208 p209=>
 kex v208 0 fun v210=>
 kex v208 1 fun v211=>
 kex v208 2 fun v212=>
 kal p209 q113 fun v213 p214=>
 kal p214 q112 fun v215 p216=>
 kst p216 5 v213 v210 fun p217=>
 kst p217 5 v215 v211 fun p218=>
 kla p218 5 v215 fun v219=>
 kla p218 2 v195 fun v220=>
 kbd q25 [(0,2,v220),(2,1,q9)] fun v221=>
 cn f6 p218 [v219,v221] fun v222 p223=>
 kex v222 0 fun v224=>
 kex v222 1 fun v225=>
 jn 2 (fun j226=>gdK v212 true (keq false .i v225 q32 fun v227=>
 j226 v225 v227 p223) (j226 .undef .undef p223)) fun v228 v229 _=>
 kpk v212 v229 q43 fun v231=>
 jn 3 (fun j232=>gdK v231 true (kln v224 fun v233=>
 keq false .i v233 q52 fun v234=>
 j232 v224 v233 v234 p223) (j232 .undef .undef .undef p223)) fun v235 v236 v237 _=>
 kpk v231 v237 q43 fun v239=>
 jn 7 (fun j240=>gdK v239 true (kia 3 v224 q32 fun v241=>
 kla (prt [] p223) 3 v241 fun v242=>
 kia 3 v224 q48 fun v243=>
 kla (prt [] p223) 3 v243 fun v244=>
 kea false [(0,.s),(1,.s),(2,.s)] v242 v244 fun v245=>
 j240 v224 v241 v242 v224 v243 v244 v245 p223) (j240 .undef .undef .undef .undef .undef .undef .undef p223)) fun v246 v247 v248 v249 v250 v251 v252 _=>
 kpk v239 v252 q43 fun v254=>
 jn 5 (fun j255=>gdK v254 true (kia 3 v224 q32 fun v256=>
 kfa 2 v256 fun v257=>
 kld p223 v257 fun v258=>
 keq false .s v258 q6 fun v259=>
 j255 v224 v256 v257 v258 v259 p223) (j255 .undef .undef .undef .undef .undef p223)) fun v260 v261 v262 v263 v264 _=>
 kpk v254 v264 q43 fun v266=>
 jn 1 (fun j267=>gdK v266 true (cn f11 p223 [] fun v268 p269=>
 j267 v268 p269) (j267 .undef p223)) fun v270 p271=>
 kpk v266 v270 q43 fun v272=>
 k [v272] p271))
theorem o3:FO EN 3 f3:=fg 0 3 9 [1,2,3] [] (T:=t3) (tc (ci_ok o4) (tc (ci_ok o5) (tc (cn_ok o6) (tc (cn_ok o9) (tc (cn_ok o8) (tc (cn_ok o7) (tc (cn_ok o10) (tc (cn_ok o11) tnil)))))))) [some [2],some [2,4],none,none] [none,none] [] (by kernel_rfl) fun p s k=>by kernel_rfl
end
end Go.V
end
