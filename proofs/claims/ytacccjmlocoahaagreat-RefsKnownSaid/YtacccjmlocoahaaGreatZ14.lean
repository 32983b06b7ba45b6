/-
  Parts of the proof, from: YtacccjmlocoahaaGreatZm3vv
-/
import Derived.KernelRfl
import Derived.Test.YtacccjmlocoahaaGreatZ13

set_option linter.unusedVariables false
section
set_option maxRecDepth 100000
namespace Go.V
noncomputable section
def f14:FT:=fun p s k=>hd s fun a0 s0=>
 hd s0 fun a1 s1=>
 nl s1<|
 kbx p 1 a0 fun v2 p3=>
 kbx p3 4 a1 fun v4 p5=>
 kal p5 q112 fun v6 p7=>
 kla p7 1 v2 fun v8=>
 ci f37 p7 [v8] fun v9 p10=>
 kex v9 0 fun v11=>
 kex v9 1 fun v12=>
 keq true .i v12 q32 fun v13=>
 kif v13
 (kbd q112 [] fun v14=>
 kst p10 5 v6 v14 fun p15=>
 kra p15 5 v6 fun v16=>
 k [v16,v12] p15)
 (kla (prt [] p10) 1 v2 fun v17=>
 kla (prt [] p10) 4 v4 fun v18=>
 m39 (prt [] p10) [v18] fun v19 p20=>
 unpK p10 p20 fun p21=>
 m38 p21 [v17,v19] fun v22 p23=>
 kex v22 0 fun v24=>
 kex v22 1 fun v25=>
 keq true .i v25 q32 fun v26=>
 kif v26
 (kbd q112 [] fun v27=>
 kst p23 5 v6 v27 fun p28=>
 kra p28 5 v6 fun v29=>
 k [v29,v25] p28)
 (kla p23 4 v4 fun v30=>
 kbd q112 [(0,1,v11),(1,4,v30)] fun v31=>
 kst p23 5 v6 v31 fun p32=>
 kra p32 5 v6 fun v33=>
 k [v33,q32] p32))
theorem o14:FO EN 14 f14:=fe 2 (tc (ci_ok o37) (tc m39_ok (tc m38_ok tnil))) [none,none] (by kernel_rfl) fun p s k=>by kernel_rfl
def f42:FT:=fun p s k=>hd s fun a0 s0=>
 nl s0<|
 kbx p 1 a0 fun v1 p2=>
 jn 1 (fun j3=>
 lp 2 fuel (fun r4 v5 v6 p7=>
 kfa 0 v1 fun v8=>
 kld p7 v8 fun v9=>
 kln v9 fun v10=>
 klt v6 v10 fun v11=>
 kif v11
 (jn 1 (fun j12=>
 jn 1 (fun j13=>
 lp 2 fuel (fun r14 v15 v16 p17=>
 kfa 0 v1 fun v18=>
 kld p17 v18 fun v19=>
 kia 2 v19 v6 fun v20=>
 kfa 1 v20 fun v21=>
 kld p17 v21 fun v22=>
 kln v22 fun v23=>
 klt v16 v23 fun v24=>
 kif v24
 (kfa 0 v1 fun v25=>
 kld (prt [] p17) v25 fun v26=>
 kia 2 v26 v6 fun v27=>
 kfa 0 v27 fun v28=>
 kld (prt [] p17) v28 fun v29=>
 kfa 0 v1 fun v30=>
 kld (prt [] p17) v30 fun v31=>
 kia 2 v31 v6 fun v32=>
 kfa 1 v32 fun v33=>
 kld (prt [] p17) v33 fun v34=>
 kia 6 v34 v16 fun v35=>
 kfa 0 v35 fun v36=>
 kld (prt [] p17) v36 fun v37=>
 kbd q1 [(0,1,v29),(1,1,v37)] fun v38=>
 kbs p17 1 q1 [(0,2,v38)] fun v39 p40=>
 kap p40 2 32 v15 v39 fun v41 p42=>
 kad v16 q44 fun v43=>
 r14 v41 v43 p42)
 (j13 v15 p17)) v5 q32 p7) fun v44 p45=>
 j12 v44 p45) fun v46 p47=>
 kad v6 q44 fun v48=>
 r4 v46 v48 p47)
 (j3 v5 p7)) .nils q32 p2) fun v49 p50=>
 k [v49] p50
theorem o42:FO EN 42 f42:=fe 1 tnil [some [3],some [3,4],none,some [3],some [3],some [3,5],none,none] (by kernel_rfl) fun p s k=>by kernel_rfl
def f85:FT:=fun p s k=>hd s fun a0 s0=>
 nl s0<|
 kal p q101 fun v1 p2=>
 kar .mul a0 a0 fun v3=>
 kms p2 1 8 q46 v3 v3 fun v4 p5=>
 kbd q101 [(0,1,a0),(1,1,v4)] fun v6=>
 kst p5 2 v1 v6 fun p7=>
 kra p7 2 v1 fun v8=>
 k [v8] p7
theorem o85:FO EN 85 f85:=fe 1 tnil [] (by kernel_rfl) fun p s k=>by kernel_rfl
def f44:FT:=fun p s k=>hd s fun a0 s0=>
 hd s0 fun a1 s1=>
 nl s1<|
 kbx p 1 a0 fun v2 p3=>
 jn 0 (fun j4=>
 lp 1 fuel (fun r5 v6 p7=>
 kfa 0 v2 fun v8=>
 kld p7 v8 fun v9=>
 kln v9 fun v10=>
 klt v6 v10 fun v11=>
 kif v11
 (kfa 0 v2 fun v12=>
 kld p7 v12 fun v13=>
 kia 2 v13 v6 fun v14=>
 kfa 0 v14 fun v15=>
 kld p7 v15 fun v16=>
 keq false .s v16 a1 fun v17=>
 kif v17
 (k [v6] p7)
 (kad v6 q44 fun v18=>
 r5 v18 p7))
 (j4 p7)) q32 p3) fun p19=>
 k [q63] p19
theorem o44:FO EN 44 f44:=fe 2 tnil [some [],some [5],none,none,none] (by kernel_rfl) fun p s k=>by kernel_rfl
def f18:FT:=fun p s k=>hd s fun a0 s0=>
 hd s0 fun a1 s1=>
 hd s1 fun a2 s2=>
 nl s2<|
 kbx p 1 a0 fun v3 p4=>
 kal p4 q16 fun v5 p6=>
 kla p6 1 v3 fun v7=>
 cn f44 p6 [v7,a1] fun v8 p9=>
 jn 0 (fun j10=>
 lp 1 fuel (fun r11 v12 p13=>
 kge v8 q32 fun v14=>
 jn 9 (fun j15=>gdK v14 true (kfa 0 v3 fun v16=>
 kld p13 v16 fun v17=>
 kia 2 v17 v8 fun v18=>
 kfa 1 v18 fun v19=>
 kld p13 v19 fun v20=>
 kln v20 fun v21=>
 klt v12 v21 fun v22=>
 j15 v12 v16 v17 v8 v18 v19 v20 v21 v22 p13) (j15 .undef .undef .undef .undef .undef .undef .undef .undef .undef p13)) fun v23 v24 v25 v26 v27 v28 v29 v30 v31 p32=>
 kpk v14 v31 q43 fun v33=>
 kif v33
 (kfa 0 v3 fun v34=>
 kld p32 v34 fun v35=>
 kia 2 v35 v8 fun v36=>
 kfa 1 v36 fun v37=>
 kld p32 v37 fun v38=>
 kia 6 v38 v12 fun v39=>
 kfa 0 v39 fun v40=>
 kld p32 v40 fun v41=>
 keq false .s v41 a2 fun v42=>
 kif v42
 (kfa 0 v3 fun v43=>
 kld p32 v43 fun v44=>
 kia 2 v44 v8 fun v45=>
 kfa 1 v45 fun v46=>
 kld p32 v46 fun v47=>
 kia 6 v47 v12 fun v48=>
 kla p32 6 v48 fun v49=>
 kst p32 6 v5 v49 fun p50=>
 kra p50 6 v5 fun v51=>
 k [v51,q53] p50)
 (kad v12 q44 fun v52=>
 r11 v52 p32))
 (j10 p32)) q32 p9) fun p53=>
 kbd q16 [] fun v54=>
 kst p53 6 v5 v54 fun p55=>
 kra p55 6 v5 fun v56=>
 k [v56,q43] p55
theorem o18:FO EN 18 f18:=fe 3 (tc (cn_ok o44) tnil) [some [],some [9],none,none,none] (by kernel_rfl) fun p s k=>by kernel_rfl
def g19:FT→FT:=fun self=>fun p s k=>hd s fun a0 s0=>
 hd s0 fun a1 s1=>
 hd s1 fun a2 s2=>
 nl s2<|
 kbx p 4 a1 fun v3 p4=>
 kln a0 fun v5=>
 kfa 0 v3 fun v6=>
 kld p4 v6 fun v7=>
 kfa 1 v3 fun v8=>
 kld p4 v8 fun v9=>
 kfa 2 v3 fun v10=>
 kld p4 v10 fun v11=>
 kbd q89 [(0,1,v7),(1,1,v9),(2,1,v11),(4,1,a2)] fun v12=>
 kbs p4 1 q89 [(0,5,v12)] fun v13 p14=>
 kap p14 5 72 a0 v13 fun v15 p16=>
 jn 2 (fun j17=>
 lp 3 fuel (fun r18 v19 v20 v21 p22=>
 kfa 3 v3 fun v23=>
 kld p22 v23 fun v24=>
 kln v24 fun v25=>
 klt v21 v25 fun v26=>
 kif v26
 (kln v19 fun v27=>
 kbs p22 1 q46 [(0,1,v27)] fun v28 p29=>
 kap p29 1 8 v20 v28 fun v30 p31=>
 kfa 3 v3 fun v32=>
 kld (prt [] p31) v32 fun v33=>
 kia 4 v33 v21 fun v34=>
 kla (prt [] p31) 4 v34 fun v35=>
 jn 4 (fun j36=>gdK a2 false (kfa 0 v3 fun v37=>
 kld (prt [] p31) v37 fun v38=>
 keq false .i v38 q14 fun v39=>
 j36 v37 v38 v39 v39 p31) (j36 .undef .undef .undef .undef p31)) fun v40 v41 v42 v43 _=>
 jn 2 (fun j45=>gdK v43 true (keq false .i v21 q44 fun v46=>
 j45 v21 v46 p31) (j45 .undef .undef p31)) fun v47 v48 _=>
 jn 1 (fun j50=>gdK a2 false (kpk v43 v48 q43 fun v51=>
 j50 v51 p31) (j50 .undef p31)) fun v52 _=>
 kpk a2 q53 v52 fun v54=>
 ci self p31 [v19,v35,v54] fun v55 p56=>
 kad v21 q44 fun v57=>
 r18 v55 v30 v57 p56)
 (j17 v19 v20 p22)) v15 .nils q32 p16) fun v58 v59 p60=>
 kia 5 v58 v5 fun v61=>
 kfa 3 v61 fun v62=>
 kst p60 1 v62 v59 fun p63=>
 k [v58] p63
def f19:FT:=rcF depth g19
theorem o19:FO EN 19 f19:=FO.rc (fun self h=>fe 3 (tc (ci_ok h) tnil) [some [0,8],some [0,8,9],none,none] (by kernel_rfl) fun p s k=>by kernel_rfl) depth
end
end Go.V
end
section
set_option maxRecDepth 100000
namespace Go.V
noncomputable section
def f87:FT:=fun p s k=>hd s fun a0 s0=>
 hd s0 fun a1 s1=>
 hd s1 fun a2 s2=>
 nl s2<|
 kbx p 1 a0 fun v3 p4=>
 kla p4 1 v3 fun v5=>
 cn f42 p4 [v5] fun v6 p7=>
 jn 0 (fun j8=>
 lp 1 fuel (fun r9 v10 p11=>
 kln v6 fun v12=>
 klt v10 v12 fun v13=>
 kif v13
 (kia 2 v6 v10 fun v14=>
 kfa 0 v14 fun v15=>
 kld p11 v15 fun v16=>
 keq false .s v16 a1 fun v17=>
 jn 7 (fun j18=>gdK v17 true (kia 2 v6 v10 fun v19=>
 kfa 1 v19 fun v20=>
 kld p11 v20 fun v21=>
 keq false .s v21 a2 fun v22=>
 j18 v6 v10 v19 v20 v21 a2 v22 p11) (j18 .undef .undef .undef .undef .undef .undef .undef p11)) fun v23 v24 v25 v26 v27 v28 v29 p30=>
 kpk v17 v29 q43 fun v31=>
 kif v31
 (k [v10] p30)
 (kad v10 q44 fun v32=>
 r9 v32 p30))
 (j8 p11)) q32 p7) fun p33=>
 k [q63] p33
theorem o87:FO EN 87 f87:=fe 3 (tc (cn_ok o42) tnil) [some [],some [8],none,none,none] (by kernel_rfl) fun p s k=>by kernel_rfl
def f86:FT:=fun p s k=>hd s fun a0 s0=>
 hd s0 fun a1 s1=>
 hd s1 fun a2 s2=>
 hd s2 fun a3 s3=>
 nl s3<|
 kbx p 2 a0 fun v4 p5=>
 jn 1 (fun j6 => kif a3
 (j6 q48 p5)
 (j6 q44 p5)) fun v7 p8=>
 kfa 1 v4 fun v9=>
 kld p8 v9 fun v10=>
 kfa 0 v4 fun v11=>
 kld p8 v11 fun v12=>
 kar .mul a1 v12 fun v13=>
 kad v13 a2 fun v14=>
 kia 1 v10 v14 fun v15=>
 kld p8 v15 fun v16=>
 kar .quo v16 v7 fun v17=>
 kar .rem v17 q48 fun v18=>
 keq false .i v18 q32 fun v19=>
 jn 0 (fun j20 => kif v19
 (kfa 1 v4 fun v21=>
 kld p8 v21 fun v22=>
 kfa 0 v4 fun v23=>
 kld p8 v23 fun v24=>
 kar .mul a1 v24 fun v25=>
 kad v25 a2 fun v26=>
 kia 1 v22 v26 fun v27=>
 kld p8 v27 fun v28=>
 kad v28 v7 fun v29=>
 kia 1 v22 v26 fun v30=>
 kst p8 1 v30 v29 fun p31=>
 j20 p31)
 (j20 p8)) fun p32=>
 k [] p32
theorem o86:FO EN 86 f86:=fe 4 tnil [some [8],some []] (by kernel_rfl) fun p s k=>by kernel_rfl
def f20:FT:=fun p s k=>hd s fun a0 s0=>
 hd s0 fun a1 s1=>
 hd s1 fun a2 s2=>
 hd s2 fun a3 s3=>
 nl s3<|
 kbx p 1 a0 fun v4 p5=>
 kla p5 1 v4 fun v6=>
 cn f18 p5 [v6,a1,a2] fun v7 p8=>
 kex v7 0 fun v9=>
 kex v7 1 fun v10=>
 kal p8 q16 fun v11 p12=>
 kst p12 6 v11 v9 fun p13=>
 jn 1 (fun j14=>
 lp 2 fuel (fun r15 v16 v17 p18=>
 kfa 1 v11 fun v19=>
 kld p18 v19 fun v20=>
 kln v20 fun v21=>
 klt v17 v21 fun v22=>
 kif v22
 (kla (prt [] p18) 1 v4 fun v23=>
 kfa 1 v11 fun v24=>
 kld (prt [] p18) v24 fun v25=>
 kia 2 v25 v17 fun v26=>
 kfa 0 v26 fun v27=>
 kld (prt [] p18) v27 fun v28=>
 cn f18 (prt [] p18) [v23,v28,a3] fun v29 p30=>
 unpK p18 p30 fun p31=>
 kex v29 0 fun v32=>
 kex v29 1 fun v33=>
 kal p31 q16 fun v34 p35=>
 kst p35 6 v34 v32 fun p36=>
 kfa 1 v11 fun v37=>
 kld p36 v37 fun v38=>
 kia 2 v38 v17 fun v39=>
 kfa 1 v39 fun v40=>
 kld p36 v40 fun v41=>
 keq false .s v41 q60 fun v42=>
 jn 1 (fun j43=>gdK v42 true (j43 v33 p36) (j43 .undef p36)) fun v44 p45=>
 kpk v42 v44 q43 fun v46=>
 jn 1 (fun j47 => kif v46
 (kfa 1 v11 fun v48=>
 kld p45 v48 fun v49=>
 kia 2 v49 v17 fun v50=>
 kfa 0 v50 fun v51=>
 kld p45 v51 fun v52=>
 kbs p45 1 q93 [(0,1,v52)] fun v53 p54=>
 kap p54 1 16 v16 v53 fun v55 p56=>
 j47 v55 p56)
 (j47 v16 p45)) fun v57 p58=>
 kad v17 q44 fun v59=>
 r15 v57 v59 p58)
 (j14 v16 p18)) .nils q32 p13) fun v60 p61=>
 k [v60] p61
theorem o20:FO EN 20 f20:=fe 4 (tc (cn_ok o18) tnil) [some [9],some [9,12],none,none,some [9]] (by kernel_rfl) fun p s k=>by kernel_rfl
def f41:FT:=fun p s k=>hd s fun a0 s0=>
 nl s0<|
 kbx p 1 a0 fun v1 p2=>
 kal p2 q101 fun v3 p4=>
 kla p4 1 v1 fun v5=>
 cn f42 p4 [v5] fun v6 p7=>
 kln v6 fun v8=>
 ci f85 p7 [v8] fun v9 p10=>
 kal p10 q101 fun v11 p12=>
 kst p12 2 v11 v9 fun p13=>
 jn 0 (fun j14=>
 lp 1 fuel (fun r15 v16 p17=>
 kln v6 fun v18=>
 klt v16 v18 fun v19=>
 kif v19
 (jn 0 (fun j20=>
 kla (prt [] p17) 1 v1 fun v21=>
 kia 2 v6 v16 fun v22=>
 kfa 0 v22 fun v23=>
 kld (prt [] p17) v23 fun v24=>
 kia 2 v6 v16 fun v25=>
 kfa 1 v25 fun v26=>
 kld (prt [] p17) v26 fun v27=>
 cn f18 (prt [] p17) [v21,v24,v27] fun v28 p29=>
 unpK p17 p29 fun p30=>
 kex v28 0 fun v31=>
 kex v28 1 fun v32=>
 kal p30 q16 fun v33 p34=>
 kst p34 6 v33 v31 fun p35=>
 kfa 2 v33 fun v36=>
 kla p35 4 v36 fun v37=>
 ci f19 p35 [.nils,v37,q43] fun v38 p39=>
 jn 0 (fun j40=>
 lp 1 fuel (fun r41 v42 p43=>
 kln v38 fun v44=>
 klt v42 v44 fun v45=>
 kif v45
 (jn 0 (fun j46=>
 kia 5 v38 v42 fun v47=>
 kfa 0 v47 fun v48=>
 kld p43 v48 fun v49=>
 jn 0 (fun j50=>
 keq false .i v49 q4 fun v51=>
 jn 0 (fun j52 => kif v51
 (jn 0 (fun j53=>
 lp 1 fuel (fun r54 v55 p56=>
 kfa 1 v33 fun v57=>
 kld p56 v57 fun v58=>
 kln v58 fun v59=>
 klt v55 v59 fun v60=>
 kif v60
 (kfa 1 v33 fun v61=>
 kld p56 v61 fun v62=>
 kia 2 v62 v55 fun v63=>
 kfa 1 v63 fun v64=>
 kld p56 v64 fun v65=>
 keq true .s v65 q60 fun v66=>
 jn 0 (fun j67 => kif v66
 (kla (prt [] p56) 2 v11 fun v68=>
 kla (prt [] p56) 1 v1 fun v69=>
 kfa 1 v33 fun v70=>
 kld (prt [] p56) v70 fun v71=>
 kia 2 v71 v55 fun v72=>
 kfa 0 v72 fun v73=>
 kld (prt [] p56) v73 fun v74=>
 kfa 1 v33 fun v75=>
 kld (prt [] p56) v75 fun v76=>
 kia 2 v76 v55 fun v77=>
 kfa 1 v77 fun v78=>
 kld (prt [] p56) v78 fun v79=>
 cn f87 (prt [] p56) [v69,v74,v79] fun v80 p81=>
 unpK p56 p81 fun p82=>
 kia 5 v38 v42 fun v83=>
 kfa 4 v83 fun v84=>
 kld (prt [(p56.next,p81.next)] p82) v84 fun v85=>
 ci f86 p82 [v68,v16,v80,v85] fun v86 p87=>
 j67 p87)
 (j67 p56)) fun p88=>
 kad v55 q44 fun v89=>
 r54 v89 p88)
 (j53 p56)) q32 p43) fun p90=>
 j52 p90)
 (keq false .i v49 q5 fun v91=>
 jn 0 (fun j92 => kif v91
 (kla (prt [] p43) 2 v11 fun v93=>
 kla (prt [] p43) 1 v1 fun v94=>
 kia 2 v6 v16 fun v95=>
 kfa 0 v95 fun v96=>
 kld (prt [] p43) v96 fun v97=>
 kia 5 v38 v42 fun v98=>
 kfa 1 v98 fun v99=>
 kld (prt [] p43) v99 fun v100=>
 cn f87 (prt [] p43) [v94,v97,v100] fun v101 p102=>
 unpK p43 p102 fun p103=>
 kia 5 v38 v42 fun v104=>
 kfa 4 v104 fun v105=>
 kld (prt [(p43.next,p102.next)] p103) v105 fun v106=>
 ci f86 p103 [v93,v16,v101,v106] fun v107 p108=>
 j92 p108)
 (keq false .i v49 q7 fun v109=>
 jn 0 (fun j110 => kif v109
 (kla (prt [] p43) 1 v1 fun v111=>
 kia 2 v6 v16 fun v112=>
 kfa 0 v112 fun v113=>
 kld (prt [] p43) v113 fun v114=>
 kia 5 v38 v42 fun v115=>
 kfa 1 v115 fun v116=>
 kld (prt [] p43) v116 fun v117=>
 kia 5 v38 v42 fun v118=>
 kfa 2 v118 fun v119=>
 kld (prt [] p43) v119 fun v120=>
 cn f20 p43 [v111,v114,v117,v120] fun v121 p122=>
 jn 0 (fun j123=>
 lp 1 fuel (fun r124 v125 p126=>
 kln v121 fun v127=>
 klt v125 v127 fun v128=>
 kif v128
 (kla (prt [] p126) 2 v11 fun v129=>
 kla (prt [] p126) 1 v1 fun v130=>
 kia 1 v121 v125 fun v131=>
 kld (prt [] p126) v131 fun v132=>
 kia 5 v38 v42 fun v133=>
 kfa 2 v133 fun v134=>
 kld (prt [] p126) v134 fun v135=>
 cn f87 (prt [] p126) [v130,v132,v135] fun v136 p137=>
 unpK p126 p137 fun p138=>
 kia 5 v38 v42 fun v139=>
 kfa 4 v139 fun v140=>
 kld (prt [(p126.next,p137.next)] p138) v140 fun v141=>
 ci f86 p138 [v129,v16,v136,v141] fun v142 p143=>
 kad v125 q44 fun v144=>
 r124 v144 p143)
 (j123 p126)) q32 p122) fun p145=>
 j110 p145)
 (j110 p43)) fun p146=>
 j92 p146)) fun p147=>
 j52 p147)) fun p148=>
 j50 p148) fun p149=>
 j46 p149) fun p150=>
 kad v42 q44 fun v151=>
 r41 v151 p150)
 (j40 p43)) q32 p39) fun p152=>
 j20 p152) fun p153=>
 kad v16 q44 fun v154=>
 r15 v154 p153)
 (j14 p17)) q32 p13) fun p155=>
 kla p155 2 v11 fun v156=>
 kst p155 2 v3 v156 fun p157=>
 kra p157 2 v3 fun v158=>
 k [v158] p157
theorem o41:FO EN 41 f41:=fe 1 (tc (cn_ok o42) (tc (ci_ok o85) (tc (cn_ok o18) (tc (ci_ok o19) (tc (cn_ok o87) (tc (ci_ok o86) (tc (cn_ok o20) tnil))))))) [some [],some [5],none,some [],some [],some [9],none,some [],some [],some [],some [],some [10],none,none,some [],some [],some [],some [],some [12],none,none] (by kernel_rfl) fun p s k=>by kernel_rfl
def f40:FT:=fun p s k=>hd s fun a0 s0=>
 nl s0<|
 kbx p 2 a0 fun v1 p2=>
 kfa 0 v1 fun v3=>
 kld p2 v3 fun v4=>
 kms p2 1 8 q46 v4 v4 fun v5 p6=>
 jn 0 (fun j7=>
 lp 1 fuel (fun r8 v9 p10=>
 kif v9
 (jn 1 (fun j11=>
 jn 1 (fun j12=>
 lp 2 fuel (fun r13 v14 v15 p16=>
 kfa 0 v1 fun v17=>
 kld p16 v17 fun v18=>
 klt v15 v18 fun v19=>
 kif v19
 (jn 1 (fun j20=>
 jn 1 (fun j21=>
 lp 2 fuel (fun r22 v23 v24 p25=>
 kfa 0 v1 fun v26=>
 kld p25 v26 fun v27=>
 klt v24 v27 fun v28=>
 kif v28
 (kfa 1 v1 fun v29=>
 kld p25 v29 fun v30=>
 kfa 0 v1 fun v31=>
 kld p25 v31 fun v32=>
 kar .mul v15 v32 fun v33=>
 kad v33 v24 fun v34=>
 kia 1 v30 v34 fun v35=>
 kld p25 v35 fun v36=>
 keq false .i v36 q44 fun v37=>
 jn 1 (fun j38 => kif v37
 (kia 1 v5 v24 fun v39=>
 kld p25 v39 fun v40=>
 j38 v40 p25)
 (j38 q63 p25)) fun v41 p42=>
 kfa 1 v1 fun v43=>
 kld p42 v43 fun v44=>
 kfa 0 v1 fun v45=>
 kld p42 v45 fun v46=>
 kar .mul v15 v46 fun v47=>
 kad v47 v24 fun v48=>
 kia 1 v44 v48 fun v49=>
 kld p42 v49 fun v50=>
 kgt v50 q44 fun v51=>
 jn 1 (fun j52 => kif v51
 (kia 1 v5 v24 fun v53=>
 kld p42 v53 fun v54=>
 kad v54 q44 fun v55=>
 j52 v55 p42)
 (j52 v41 p42)) fun v56 p57=>
 kia 1 v5 v15 fun v58=>
 kld p57 v58 fun v59=>
 klt v59 v56 fun v60=>
 jn 1 (fun j61 => kif v60
 (kia 1 v5 v15 fun v62=>
 kst p57 1 v62 v56 fun p63=>
 j61 q53 p63)
 (j61 v23 p57)) fun v64 p65=>
 kia 1 v5 v15 fun v66=>
 kld (prt [] p65) v66 fun v67=>
 kfa 0 v1 fun v68=>
 kld (prt [] p65) v68 fun v69=>
 kgt v67 v69 fun v70=>
 kif v70
 (k [.nils,q43] p65)
 (kad v24 q44 fun v71=>
 r22 v64 v71 p65))
 (j21 v23 p25)) v14 q32 p16) fun v72 p73=>
 j20 v72 p73) fun v74 p75=>
 kad v15 q44 fun v76=>
 r13 v74 v76 p75)
 (j12 v14 p16)) q43 q32 p10) fun v77 p78=>
 j11 v77 p78) fun v79 p80=>
 r8 v79 p80)
 (j7 p10)) q53 p6) fun p81=>
 k [v5,q53] p81
theorem o40:FO EN 40 f40:=fe 1 tnil [some [],some [5],none,some [5],some [5],some [5,6],none,some [5],some [5],some [5,7],none,none,some [8],some [8],some [5],none] (by kernel_rfl) fun p s k=>by kernel_rfl
def f88:FT:=fun p s k=>hd s fun a0 s0=>
 nl s0<|
 jn 1 (fun j1=>
 lp 2 fuel (fun r2 v3 v4 p5=>
 kln a0 fun v6=>
 klt v4 v6 fun v7=>
 kif v7
 (kia 6 a0 v4 fun v8=>
 kfa 0 v8 fun v9=>
 kfa 0 v9 fun v10=>
 kla (prt [] p5) 2 v10 fun v11=>
 c140 (prt [] p5) [v3,v11] fun v12 p13=>
 unpK p5 p13 fun p14=>
 kia 6 a0 v4 fun v15=>
 kfa 3 v15 fun v16=>
 kfa 0 v16 fun v17=>
 kla (prt [(p5.next,p13.next)] p14) 2 v17 fun v18=>
 c140 p14 [v12,v18] fun v19 p20=>
 kad v4 q44 fun v21=>
 r2 v19 v21 p20)
 (j1 v3 p5)) .nils q32 p) fun v22 p23=>
 k [v22] p23
theorem o88:FO EN 88 f88:=fe 1 (tc c140_ok tnil) [some [3],some [3,4],none,none] (by kernel_rfl) fun p s k=>by kernel_rfl
def f43:FT:=fun p s k=>hd s fun a0 s0=>
 hd s0 fun a1 s1=>
 nl s1<|
 kbx p 1 a0 fun v2 p3=>
 cn f88 p3 [a1] fun v4 p5=>
 kla p5 1 v2 fun v6=>
 cn f42 p5 [v6] fun v7 p8=>
 jn 1 (fun j9=>
 lp 2 fuel (fun r10 v11 v12 p13=>
 kln v4 fun v14=>
 klt v12 v14 fun v15=>
 kif v15
 (jn 1 (fun j16=>
 jn 1 (fun j17=>
 lp 2 fuel (fun r18 v19 v20 p21=>
 kln v7 fun v22=>
 klt v20 v22 fun v23=>
 kif v23
 (kia 2 v7 v20 fun v24=>
 kfa 0 v24 fun v25=>
 kld (prt [] p21) v25 fun v26=>
 kia 2 v4 v12 fun v27=>
 kfa 0 v27 fun v28=>
 kld (prt [] p21) v28 fun v29=>
 keq false .s v26 v29 fun v30=>
 jn 1 (fun j31 => kif v30
 (kia 2 v4 v12 fun v32=>
 kla (prt [] p21) 2 v32 fun v33=>
 kia 2 v7 v20 fun v34=>
 kfa 1 v34 fun v35=>
 kld (prt [] p21) v35 fun v36=>
 kbd q25 [(0,2,v33),(2,1,v36)] fun v37=>
 kbs p21 1 q25 [(0,3,v37)] fun v38 p39=>
 kap p39 3 48 v19 v38 fun v40 p41=>
 j31 v40 p41)
 (j31 v19 p21)) fun v42 p43=>
 kad v20 q44 fun v44=>
 r18 v42 v44 p43)
 (j17 v19 p21)) v11 q32 p13) fun v45 p46=>
 j16 v45 p46) fun v47 p48=>
 kad v12 q44 fun v49=>
 r10 v47 v49 p48)
 (j9 v11 p13)) .nils q32 p8) fun v50 p51=>
 k [v50] p51
theorem o43:FO EN 43 f43:=fe 2 (tc (cn_ok o88) (tc (cn_ok o42) tnil)) [some [5],some [5,8],none,some [5],some [5],some [5,9],none,none,some [5]] (by kernel_rfl) fun p s k=>by kernel_rfl
end
end Go.V
end
