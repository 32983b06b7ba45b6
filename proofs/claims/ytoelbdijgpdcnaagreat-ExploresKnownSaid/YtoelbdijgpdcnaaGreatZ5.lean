/-
  Parts of the proof:
  YtoelbdijgpdcnaaGreatZm6
  YtoelbdijgpdcnaaGreatZm7
  YtoelbdijgpdcnaaGreatZm8
-/
import Derived.KernelRfl
import Derived.Test.YtoelbdijgpdcnaaGreatZ4

section
set_option maxRecDepth 100000
set_option linter.unusedVariables false
namespace Go.V
noncomputable section
/- 67 countersign/countersignref15.Number -/
def t67 : List Ce := [⟨30, cc f30⟩]
def f67 : FT := fun p s k => hd s fun a0 s0 =>
 hd s0 fun a1 s1 =>
 hd s1 fun a2 s2 =>
 nl s2 <|
 kbx p 1 a0 fun v3 p4 =>
 kla p4 1 v3 fun v5 =>
 cc f30 p4 [v5] fun v6 p7 =>
 jn 0 (fun j8 =>
 lp 1 fuel (fun r9 v10 p11 =>
 kln v6 fun v12 =>
 klt v10 v12 fun v13 =>
 kif v13
 (kia 2 v6 v10 fun v14 =>
 kfa 0 v14 fun v15 =>
 kld p11 v15 fun v16 =>
 keq false .s v16 a1 fun v17 =>
 jn 7 (fun j18 => gdK v17 true (kia 2 v6 v10 fun v19 =>
 kfa 1 v19 fun v20 =>
 kld p11 v20 fun v21 =>
 keq false .s v21 a2 fun v22 =>
 j18 v6 v10 v19 v20 v21 a2 v22 p11) (j18 .undef .undef .undef .undef .undef .undef .undef p11)) fun v23 v24 v25 v26 v27 v28 v29 p30 =>
 kpk v17 v29 q13 fun v31 =>
 kif v31
 (k [v10] p30)
 (kad v10 q14 fun v32 =>
 r9 v32 p30))
 (j8 p11)) q0 p7) fun p33 =>
 k [q42] p33
theorem o67 : FO EN 67 f67 := fe (np := 3) (T := t67) (tcons (cc_ok o30) tnil) [some [], some [8], none, none, none] (by kernel_rfl) fun p s k => by kernel_rfl
/- 66 countersign/countersignref16.put -/
def t66 : List Ce := []
def f66 : FT := fun p s k => hd s fun a0 s0 =>
 hd s0 fun a1 s1 =>
 hd s1 fun a2 s2 =>
 hd s2 fun a3 s3 =>
 nl s3 <|
 kbx p 2 a0 fun v4 p5 =>
 jn 1 (fun j6 => kif a3
 (j6 q16 p5)
 (j6 q14 p5)) fun v7 p8 =>
 kfa 1 v4 fun v9 =>
 kld p8 v9 fun v10 =>
 kfa 0 v4 fun v11 =>
 kld p8 v11 fun v12 =>
 kar .mul a1 v12 fun v13 =>
 kad v13 a2 fun v14 =>
 kia 1 v10 v14 fun v15 =>
 kld p8 v15 fun v16 =>
 kar .quo v16 v7 fun v17 =>
 kar .rem v17 q16 fun v18 =>
 keq false .i v18 q0 fun v19 =>
 jn 0 (fun j20 => kif v19
 (kfa 1 v4 fun v21 =>
 kld p8 v21 fun v22 =>
 kfa 0 v4 fun v23 =>
 kld p8 v23 fun v24 =>
 kar .mul a1 v24 fun v25 =>
 kad v25 a2 fun v26 =>
 kia 1 v22 v26 fun v27 =>
 kld p8 v27 fun v28 =>
 kad v28 v7 fun v29 =>
 kia 1 v22 v26 fun v30 =>
 kst p8 1 v30 v29 fun p31 =>
 j20 p31)
 (j20 p8)) fun p32 =>
 k [] p32
theorem o66 : FO EN 66 f66 := fe (np := 4) (T := t66) tnil [some [8], some []] (by kernel_rfl) fun p s k => by kernel_rfl
/- 68 countersign/countersignref15.Targets -/
def t68 : List Ce := [⟨64, cn f64⟩]
def f68 : FT := fun p s k => hd s fun a0 s0 =>
 hd s0 fun a1 s1 =>
 hd s1 fun a2 s2 =>
 hd s2 fun a3 s3 =>
 nl s3 <|
 kbx p 1 a0 fun v4 p5 =>
 kla p5 1 v4 fun v6 =>
 cn f64 p5 [v6, a1, a2] fun v7 p8 =>
 kex v7 0 fun v9 =>
 kex v7 1 fun v10 =>
 kal p8 q78 fun v11 p12 =>
 kst p12 6 v11 v9 fun p13 =>
 jn 1 (fun j14 =>
 lp 2 fuel (fun r15 v16 v17 p18 =>
 kfa 1 v11 fun v19 =>
 kld p18 v19 fun v20 =>
 kln v20 fun v21 =>
 klt v17 v21 fun v22 =>
 kif v22
 (kla (prt [] p18) 1 v4 fun v23 =>
 kfa 1 v11 fun v24 =>
 kld (prt [] p18) v24 fun v25 =>
 kia 2 v25 v17 fun v26 =>
 kfa 0 v26 fun v27 =>
 kld (prt [] p18) v27 fun v28 =>
 cn f64 (prt [] p18) [v23, v28, a3] fun v29 p30 =>
 unpK p18 p30 fun p31 =>
 kex v29 0 fun v32 =>
 kex v29 1 fun v33 =>
 kal p31 q78 fun v34 p35 =>
 kst p35 6 v34 v32 fun p36 =>
 kfa 1 v11 fun v37 =>
 kld p36 v37 fun v38 =>
 kia 2 v38 v17 fun v39 =>
 kfa 1 v39 fun v40 =>
 kld p36 v40 fun v41 =>
 keq false .s v41 q39 fun v42 =>
 jn 1 (fun j43 => gdK v42 true (j43 v33 p36) (j43 .undef p36)) fun v44 p45 =>
 kpk v42 v44 q13 fun v46 =>
 jn 1 (fun j47 => kif v46
 (kfa 1 v11 fun v48 =>
 kld p45 v48 fun v49 =>
 kia 2 v49 v17 fun v50 =>
 kfa 0 v50 fun v51 =>
 kld p45 v51 fun v52 =>
 kbs p45 1 q81 [(0, 1, v52)] fun v53 p54 =>
 kap p54 1 16 v16 v53 fun v55 p56 =>
 j47 v55 p56)
 (j47 v16 p45)) fun v57 p58 =>
 kad v17 q14 fun v59 =>
 r15 v57 v59 p58)
 (j14 v16 p18)) .nils q0 p13) fun v60 p61 =>
 k [v60] p61
theorem o68 : FO EN 68 f68 := fe (np := 4) (T := t68) (tcons (cn_ok o64) tnil) [some [9], some [9, 12], none, none, some [9]] (by kernel_rfl) fun p s k => by kernel_rfl
/- 29 countersign/countersignref16.Of -/
def t29 : List Ce := [⟨30, cc f30⟩, ⟨63, ci f63⟩, ⟨64, cn f64⟩, ⟨65, ci f65⟩, ⟨67, cn f67⟩, ⟨66, ci f66⟩, ⟨68, cn f68⟩]
def f29 : FT := fun p s k => hd s fun a0 s0 =>
 nl s0 <|
 kbx p 1 a0 fun v1 p2 =>
 kal p2 q89 fun v3 p4 =>
 kla p4 1 v1 fun v5 =>
 cc f30 p4 [v5] fun v6 p7 =>
 kln v6 fun v8 =>
 ci f63 p7 [v8] fun v9 p10 =>
 kal p10 q89 fun v11 p12 =>
 kst p12 2 v11 v9 fun p13 =>
 jn 0 (fun j14 =>
 lp 1 fuel (fun r15 v16 p17 =>
 kln v6 fun v18 =>
 klt v16 v18 fun v19 =>
 kif v19
 (jn 0 (fun j20 =>
 kla (prt [] p17) 1 v1 fun v21 =>
 kia 2 v6 v16 fun v22 =>
 kfa 0 v22 fun v23 =>
 kld (prt [] p17) v23 fun v24 =>
 kia 2 v6 v16 fun v25 =>
 kfa 1 v25 fun v26 =>
 kld (prt [] p17) v26 fun v27 =>
 cn f64 (prt [] p17) [v21, v24, v27] fun v28 p29 =>
 unpK p17 p29 fun p30 =>
 kex v28 0 fun v31 =>
 kex v28 1 fun v32 =>
 kal p30 q78 fun v33 p34 =>
 kst p34 6 v33 v31 fun p35 =>
 kfa 2 v33 fun v36 =>
 kla p35 4 v36 fun v37 =>
 ci f65 p35 [.nils, v37, q13] fun v38 p39 =>
 jn 0 (fun j40 =>
 lp 1 fuel (fun r41 v42 p43 =>
 kln v38 fun v44 =>
 klt v42 v44 fun v45 =>
 kif v45
 (jn 0 (fun j46 =>
 kia 5 v38 v42 fun v47 =>
 kfa 0 v47 fun v48 =>
 kld p43 v48 fun v49 =>
 jn 0 (fun j50 =>
 keq false .i v49 q52 fun v51 =>
 jn 0 (fun j52 => kif v51
 (jn 0 (fun j53 =>
 lp 1 fuel (fun r54 v55 p56 =>
 kfa 1 v33 fun v57 =>
 kld p56 v57 fun v58 =>
 kln v58 fun v59 =>
 klt v55 v59 fun v60 =>
 kif v60
 (kfa 1 v33 fun v61 =>
 kld p56 v61 fun v62 =>
 kia 2 v62 v55 fun v63 =>
 kfa 1 v63 fun v64 =>
 kld p56 v64 fun v65 =>
 keq true .s v65 q39 fun v66 =>
 jn 0 (fun j67 => kif v66
 (kla (prt [] p56) 2 v11 fun v68 =>
 kla (prt [] p56) 1 v1 fun v69 =>
 kfa 1 v33 fun v70 =>
 kld (prt [] p56) v70 fun v71 =>
 kia 2 v71 v55 fun v72 =>
 kfa 0 v72 fun v73 =>
 kld (prt [] p56) v73 fun v74 =>
 kfa 1 v33 fun v75 =>
 kld (prt [] p56) v75 fun v76 =>
 kia 2 v76 v55 fun v77 =>
 kfa 1 v77 fun v78 =>
 kld (prt [] p56) v78 fun v79 =>
 cn f67 (prt [] p56) [v69, v74, v79] fun v80 p81 =>
 unpK p56 p81 fun p82 =>
 kia 5 v38 v42 fun v83 =>
 kfa 4 v83 fun v84 =>
 kld (prt [(p56.next, p81.next)] p82) v84 fun v85 =>
 ci f66 p82 [v68, v16, v80, v85] fun v86 p87 =>
 j67 p87)
 (j67 p56)) fun p88 =>
 kad v55 q14 fun v89 =>
 r54 v89 p88)
 (j53 p56)) q0 p43) fun p90 =>
 j52 p90)
 (keq false .i v49 q51 fun v91 =>
 jn 0 (fun j92 => kif v91
 (kla (prt [] p43) 2 v11 fun v93 =>
 kla (prt [] p43) 1 v1 fun v94 =>
 kia 2 v6 v16 fun v95 =>
 kfa 0 v95 fun v96 =>
 kld (prt [] p43) v96 fun v97 =>
 kia 5 v38 v42 fun v98 =>
 kfa 1 v98 fun v99 =>
 kld (prt [] p43) v99 fun v100 =>
 cn f67 (prt [] p43) [v94, v97, v100] fun v101 p102 =>
 unpK p43 p102 fun p103 =>
 kia 5 v38 v42 fun v104 =>
 kfa 4 v104 fun v105 =>
 kld (prt [(p43.next, p102.next)] p103) v105 fun v106 =>
 ci f66 p103 [v93, v16, v101, v106] fun v107 p108 =>
 j92 p108)
 (keq false .i v49 q53 fun v109 =>
 jn 0 (fun j110 => kif v109
 (kla (prt [] p43) 1 v1 fun v111 =>
 kia 2 v6 v16 fun v112 =>
 kfa 0 v112 fun v113 =>
 kld (prt [] p43) v113 fun v114 =>
 kia 5 v38 v42 fun v115 =>
 kfa 1 v115 fun v116 =>
 kld (prt [] p43) v116 fun v117 =>
 kia 5 v38 v42 fun v118 =>
 kfa 2 v118 fun v119 =>
 kld (prt [] p43) v119 fun v120 =>
 cn f68 p43 [v111, v114, v117, v120] fun v121 p122 =>
 jn 0 (fun j123 =>
 lp 1 fuel (fun r124 v125 p126 =>
 kln v121 fun v127 =>
 klt v125 v127 fun v128 =>
 kif v128
 (kla (prt [] p126) 2 v11 fun v129 =>
 kla (prt [] p126) 1 v1 fun v130 =>
 kia 1 v121 v125 fun v131 =>
 kld (prt [] p126) v131 fun v132 =>
 kia 5 v38 v42 fun v133 =>
 kfa 2 v133 fun v134 =>
 kld (prt [] p126) v134 fun v135 =>
 cn f67 (prt [] p126) [v130, v132, v135] fun v136 p137 =>
 unpK p126 p137 fun p138 =>
 kia 5 v38 v42 fun v139 =>
 kfa 4 v139 fun v140 =>
 kld (prt [(p126.next, p137.next)] p138) v140 fun v141 =>
 ci f66 p138 [v129, v16, v136, v141] fun v142 p143 =>
 kad v125 q14 fun v144 =>
 r124 v144 p143)
 (j123 p126)) q0 p122) fun p145 =>
 j110 p145)
 (j110 p43)) fun p146 =>
 j92 p146)) fun p147 =>
 j52 p147)) fun p148 =>
 j50 p148) fun p149 =>
 j46 p149) fun p150 =>
 kad v42 q14 fun v151 =>
 r41 v151 p150)
 (j40 p43)) q0 p39) fun p152 =>
 j20 p152) fun p153 =>
 kad v16 q14 fun v154 =>
 r15 v154 p153)
 (j14 p17)) q0 p13) fun p155 =>
 kla p155 2 v11 fun v156 =>
 kst p155 2 v3 v156 fun p157 =>
 kra p157 2 v3 fun v158 =>
 k [v158] p157
theorem o29 : FO EN 29 f29 := fe (np := 1) (T := t29) (tcons (cc_ok o30) (tcons (ci_ok o63) (tcons (cn_ok o64) (tcons (ci_ok o65) (tcons (cn_ok o67) (tcons (ci_ok o66) (tcons (cn_ok o68) tnil))))))) [some [], some [5], none, some [], some [], some [9], none, some [], some [], some [], some [], some [10], none, none, some [], some [], some [], some [], some [12], none, none] (by kernel_rfl) fun p s k => by kernel_rfl
/- 28 countersign/countersignref18.Numbers -/
def t28 : List Ce := []
def f28 : FT := fun p s k => hd s fun a0 s0 =>
 nl s0 <|
 kbx p 2 a0 fun v1 p2 =>
 kfa 0 v1 fun v3 =>
 kld p2 v3 fun v4 =>
 kms p2 1 8 q24 v4 v4 fun v5 p6 =>
 jn 0 (fun j7 =>
 lp 1 fuel (fun r8 v9 p10 =>
 kif v9
 (jn 1 (fun j11 =>
 jn 1 (fun j12 =>
 lp 2 fuel (fun r13 v14 v15 p16 =>
 kfa 0 v1 fun v17 =>
 kld p16 v17 fun v18 =>
 klt v15 v18 fun v19 =>
 kif v19
 (jn 1 (fun j20 =>
 jn 1 (fun j21 =>
 lp 2 fuel (fun r22 v23 v24 p25 =>
 kfa 0 v1 fun v26 =>
 kld p25 v26 fun v27 =>
 klt v24 v27 fun v28 =>
 kif v28
 (kfa 1 v1 fun v29 =>
 kld p25 v29 fun v30 =>
 kfa 0 v1 fun v31 =>
 kld p25 v31 fun v32 =>
 kar .mul v15 v32 fun v33 =>
 kad v33 v24 fun v34 =>
 kia 1 v30 v34 fun v35 =>
 kld p25 v35 fun v36 =>
 keq false .i v36 q14 fun v37 =>
 jn 1 (fun j38 => kif v37
 (kia 1 v5 v24 fun v39 =>
 kld p25 v39 fun v40 =>
 j38 v40 p25)
 (j38 q42 p25)) fun v41 p42 =>
 kfa 1 v1 fun v43 =>
 kld p42 v43 fun v44 =>
 kfa 0 v1 fun v45 =>
 kld p42 v45 fun v46 =>
 kar .mul v15 v46 fun v47 =>
 kad v47 v24 fun v48 =>
 kia 1 v44 v48 fun v49 =>
 kld p42 v49 fun v50 =>
 kgt v50 q14 fun v51 =>
 jn 1 (fun j52 => kif v51
 (kia 1 v5 v24 fun v53 =>
 kld p42 v53 fun v54 =>
 kad v54 q14 fun v55 =>
 j52 v55 p42)
 (j52 v41 p42)) fun v56 p57 =>
 kia 1 v5 v15 fun v58 =>
 kld p57 v58 fun v59 =>
 klt v59 v56 fun v60 =>
 jn 1 (fun j61 => kif v60
 (kia 1 v5 v15 fun v62 =>
 kst p57 1 v62 v56 fun p63 =>
 j61 q29 p63)
 (j61 v23 p57)) fun v64 p65 =>
 kia 1 v5 v15 fun v66 =>
 kld (prt [] p65) v66 fun v67 =>
 kfa 0 v1 fun v68 =>
 kld (prt [] p65) v68 fun v69 =>
 kgt v67 v69 fun v70 =>
 kif v70
 (k [.nils, q13] p65)
 (kad v24 q14 fun v71 =>
 r22 v64 v71 p65))
 (j21 v23 p25)) v14 q0 p16) fun v72 p73 =>
 j20 v72 p73) fun v74 p75 =>
 kad v15 q14 fun v76 =>
 r13 v74 v76 p75)
 (j12 v14 p16)) q13 q0 p10) fun v77 p78 =>
 j11 v77 p78) fun v79 p80 =>
 r8 v79 p80)
 (j7 p10)) q29 p6) fun p81 =>
 k [v5, q29] p81
theorem o28 : FO EN 28 f28 := fe (np := 1) (T := t28) tnil [some [], some [5], none, some [5], some [5], some [5, 6], none, some [5], some [5], some [5, 7], none, none, some [8], some [8], some [5], none] (by kernel_rfl) fun p s k => by kernel_rfl
/- 151 countersign/countersignref19.Has -/
def t151 : List Ce := []
def f151 : FT := fun p s k => hd s fun a0 s0 =>
 hd s0 fun a1 s1 =>
 nl s1 <|
 kbx p 2 a1 fun v2 p3 =>
 jn 0 (fun j4 =>
 lp 1 fuel (fun r5 v6 p7 =>
 kln a0 fun v8 =>
 klt v6 v8 fun v9 =>
 kif v9
 (kia 2 a0 v6 fun v10 =>
 kla (prt [] p7) 2 v10 fun v11 =>
 kla (prt [] p7) 2 v2 fun v12 =>
 kea false [(0, .s), (1, .s)] v11 v12 fun v13 =>
 kif v13
 (k [q29] p7)
 (kad v6 q14 fun v14 =>
 r5 v14 p7))
 (j4 p7)) q0 p3) fun p15 =>
 k [q13] p15
theorem o151 : FO EN 151 f151 := fe (np := 2) (T := t151) tnil [some [], some [5], none, none, none] (by kernel_rfl) fun p s k => by kernel_rfl
/- 152 countersign/countersignref19.Less -/
def t152 : List Ce := []
def f152 : FT := fun p s k => hd s fun a0 s0 =>
 hd s0 fun a1 s1 =>
 nl s1 <|
 kbx p 2 a0 fun v2 p3 =>
 kbx p3 2 a1 fun v4 p5 =>
 kfa 0 v2 fun v6 =>
 kld p5 v6 fun v7 =>
 kfa 0 v4 fun v8 =>
 kld p5 v8 fun v9 =>
 klt v7 v9 fun v10 =>
 jn 6 (fun j11 => gdK v10 false (kfa 0 v2 fun v12 =>
 kld p5 v12 fun v13 =>
 kfa 0 v4 fun v14 =>
 kld p5 v14 fun v15 =>
 keq false .s v13 v15 fun v16 =>
 j11 v12 v13 v14 v15 v16 v16 p5) (j11 .undef .undef .undef .undef .undef .undef p5)) fun v17 v18 v19 v20 v21 v22 p23 =>
 jn 5 (fun j24 => gdK v22 true (kfa 1 v2 fun v25 =>
 kld p23 v25 fun v26 =>
 kfa 1 v4 fun v27 =>
 kld p23 v27 fun v28 =>
 klt v26 v28 fun v29 =>
 j24 v25 v26 v27 v28 v29 p23) (j24 .undef .undef .undef .undef .undef p23)) fun v30 v31 v32 v33 v34 p35 =>
 jn 1 (fun j36 => gdK v10 false (kpk v22 v34 q13 fun v37 =>
 j36 v37 p35) (j36 .undef p35)) fun v38 p39 =>
 kpk v10 q29 v38 fun v40 =>
 k [v40] p39
theorem o152 : FO EN 152 f152 := fe (np := 2) (T := t152) tnil [] (by kernel_rfl) fun p s k => by kernel_rfl
/- 116 countersign/countersignref19.Put -/
def t116 : List Ce := [⟨151, cn f151⟩, ⟨152, cn f152⟩]
def f116 : FT := fun p s k => hd s fun a0 s0 =>
 hd s0 fun a1 s1 =>
 nl s1 <|
 kbx p 2 a1 fun v2 p3 =>
 kla p3 2 v2 fun v4 =>
 cn f151 p3 [a0, v4] fun v5 p6 =>
 kif v5
 (k [a0] p6)
 (jn 2 (fun j7 =>
 lp 3 fuel (fun r8 v9 v10 v11 p12 =>
 kln a0 fun v13 =>
 klt v11 v13 fun v14 =>
 kif v14
 (knt v10 fun v15 =>
 jn 6 (fun j16 => gdK v15 true (kla (prt [] p12) 2 v2 fun v17 =>
 kia 2 a0 v11 fun v18 =>
 kla (prt [] p12) 2 v18 fun v19 =>
 cn f152 p12 [v17, v19] fun v20 p21 =>
 j16 v17 a0 v11 v18 v19 v20 p21) (j16 .undef .undef .undef .undef .undef .undef p12)) fun v22 v23 v24 v25 v26 v27 p28 =>
 kpk v15 v27 q13 fun v29 =>
 jn 2 (fun j30 => kif v29
 (kla p28 2 v2 fun v31 =>
 kbs p28 1 q38 [(0, 2, v31)] fun v32 p33 =>
 kap p33 2 32 v9 v32 fun v34 p35 =>
 j30 v34 q29 p35)
 (j30 v9 v10 p28)) fun v36 v37 p38 =>
 kia 2 a0 v11 fun v39 =>
 kla p38 2 v39 fun v40 =>
 kbs p38 1 q38 [(0, 2, v40)] fun v41 p42 =>
 kap p42 2 32 v36 v41 fun v43 p44 =>
 kad v11 q14 fun v45 =>
 r8 v43 v37 v45 p44)
 (j7 v9 v10 p12)) .nils q13 q0 p6) fun v46 v47 p48 =>
 knt v47 fun v49 =>
 jn 1 (fun j50 => kif v49
 (kla p48 2 v2 fun v51 =>
 kbs p48 1 q38 [(0, 2, v51)] fun v52 p53 =>
 kap p53 2 32 v46 v52 fun v54 p55 =>
 j50 v54 p55)
 (j50 v46 p48)) fun v56 p57 =>
 k [v56] p57)
theorem o116 : FO EN 116 f116 := fe (np := 2) (T := t116) (tcons (cn_ok o151) (tcons (cn_ok o152) tnil)) [none, some [5, 6], some [5, 6, 7], none, none, some [5, 6], some [5]] (by kernel_rfl) fun p s k => by kernel_rfl
/- 69 countersign/countersignref20.Objects -/
def t69 : List Ce := [⟨116, ci f116⟩]
def f69 : FT := fun p s k => hd s fun a0 s0 =>
 nl s0 <|
 jn 1 (fun j1 =>
 lp 2 fuel (fun r2 v3 v4 p5 =>
 kln a0 fun v6 =>
 klt v4 v6 fun v7 =>
 kif v7
 (kia 6 a0 v4 fun v8 =>
 kfa 0 v8 fun v9 =>
 kfa 0 v9 fun v10 =>
 kla (prt [] p5) 2 v10 fun v11 =>
 ci f116 (prt [] p5) [v3, v11] fun v12 p13 =>
 unpK p5 p13 fun p14 =>
 kia 6 a0 v4 fun v15 =>
 kfa 3 v15 fun v16 =>
 kfa 0 v16 fun v17 =>
 kla (prt [(p5.next, p13.next)] p14) 2 v17 fun v18 =>
 ci f116 p14 [v12, v18] fun v19 p20 =>
 kad v4 q14 fun v21 =>
 r2 v19 v21 p20)
 (j1 v3 p5)) .nils q0 p) fun v22 p23 =>
 k [v22] p23
theorem o69 : FO EN 69 f69 := fe (np := 1) (T := t69) (tcons (ci_ok o116) tnil) [some [3], some [3, 4], none, none] (by kernel_rfl) fun p s k => by kernel_rfl
/- 31 countersign/countersignref20.Goals -/
def t31 : List Ce := [⟨69, cn f69⟩, ⟨30, cc f30⟩]
def f31 : FT := fun p s k => hd s fun a0 s0 =>
 hd s0 fun a1 s1 =>
 nl s1 <|
 kbx p 1 a0 fun v2 p3 =>
 cn f69 p3 [a1] fun v4 p5 =>
 kla p5 1 v2 fun v6 =>
 cc f30 p5 [v6] fun v7 p8 =>
 jn 1 (fun j9 =>
 lp 2 fuel (fun r10 v11 v12 p13 =>
 kln v4 fun v14 =>
 klt v12 v14 fun v15 =>
 kif v15
 (jn 1 (fun j16 =>
 jn 1 (fun j17 =>
 lp 2 fuel (fun r18 v19 v20 p21 =>
 kln v7 fun v22 =>
 klt v20 v22 fun v23 =>
 kif v23
 (kia 2 v7 v20 fun v24 =>
 kfa 0 v24 fun v25 =>
 kld (prt [] p21) v25 fun v26 =>
 kia 2 v4 v12 fun v27 =>
 kfa 0 v27 fun v28 =>
 kld (prt [] p21) v28 fun v29 =>
 keq false .s v26 v29 fun v30 =>
 jn 1 (fun j31 => kif v30
 (kia 2 v4 v12 fun v32 =>
 kla (prt [] p21) 2 v32 fun v33 =>
 kia 2 v7 v20 fun v34 =>
 kfa 1 v34 fun v35 =>
 kld (prt [] p21) v35 fun v36 =>
 kbd q37 [(0, 2, v33), (2, 1, v36)] fun v37 =>
 kbs p21 1 q37 [(0, 3, v37)] fun v38 p39 =>
 kap p39 3 48 v19 v38 fun v40 p41 =>
 j31 v40 p41)
 (j31 v19 p21)) fun v42 p43 =>
 kad v20 q14 fun v44 =>
 r18 v42 v44 p43)
 (j17 v19 p21)) v11 q0 p13) fun v45 p46 =>
 j16 v45 p46) fun v47 p48 =>
 kad v12 q14 fun v49 =>
 r10 v47 v49 p48)
 (j9 v11 p13)) .nils q0 p8) fun v50 p51 =>
 k [v50] p51
theorem o31 : FO EN 31 f31 := fe (np := 2) (T := t31) (tcons (cn_ok o69) (tcons (cc_ok o30) tnil)) [some [5], some [5, 8], none, some [5], some [5], some [5, 9], none, none, some [5]] (by kernel_rfl) fun p s k => by kernel_rfl
/- 11 countersign/countersignref21.New -/
def t11 : List Ce := [⟨29, cc f29⟩, ⟨28, cc f28⟩, ⟨30, cc f30⟩, ⟨31, cn f31⟩]
def f11 : FT := fun p s k => hd s fun a0 s0 =>
 hd s0 fun a1 s1 =>
 nl s1 <|
 kbx p 1 a0 fun v2 p3 =>
 kal p3 q102 fun v4 p5 =>
 kla p5 1 v2 fun v6 =>
 cc f29 p5 [v6] fun v7 p8 =>
 cc f28 p8 [v7] fun v9 p10 =>
 kex v9 0 fun v11 =>
 kex v9 1 fun v12 =>
 kla (prt [] p10) 1 v2 fun v13 =>
 kla (prt [] p10) 1 v2 fun v14 =>
 cc f30 (prt [] p10) [v14] fun v15 p16 =>
 unpK p10 p16 fun p17 =>
 kla (prt [(p10.next, p16.next)] p17) 1 v2 fun v18 =>
 cn f31 (prt [] p17) [v18, a1] fun v19 p20 =>
 unpK p17 p20 fun p21 =>
 kbd q102 [(0, 1, v13), (1, 1, a1), (2, 1, v15), (3, 1, v11), (4, 1, v19)] fun v22 =>
 kst p21 5 v4 v22 fun p23 =>
 kra p23 5 v4 fun v24 =>
 k [v24] p23
theorem o11 : FO EN 11 f11 := fe (np := 2) (T := t11) (tcons (cc_ok o29) (tcons (cc_ok o28) (tcons (cc_ok o30) (tcons (cn_ok o31) tnil)))) [] (by kernel_rfl) fun p s k => by kernel_rfl
/- 4 countersign/countersignlaw24.Both -/
def t4 : List Ce := [⟨8, ci f8⟩, ⟨9, cn f9⟩, ⟨10, ci f10⟩, ⟨11, ci f11⟩]
def f4 : FT := fun p s k => hd s fun a0 s0 =>
 hd s0 fun a1 s1 =>
 nl s1 <|
 kbx p 1 a0 fun v2 p3 =>
 kal p3 q102 fun v4 p5 =>
 kal p5 q101 fun v6 p7 =>
 ci f8 p7 [a1] fun v8 p9 =>
 cn f9 p9 [v8] fun v10 p11 =>
 kex v10 0 fun v12 =>
 kex v10 1 fun v13 =>
 kal p11 q43 fun v14 p15 =>
 kst p15 4 v14 v12 fun p16 =>
 kla p16 1 v2 fun v17 =>
 kla p16 4 v14 fun v18 =>
 ci f10 p16 [v17, v18] fun v19 p20 =>
 kex v19 0 fun v21 =>
 kex v19 1 fun v22 =>
 kal p20 q101 fun v23 p24 =>
 kst p24 5 v23 v21 fun p25 =>
 kla (prt [] p25) 1 v2 fun v26 =>
 ci f11 (prt [] p25) [v26, v8] fun v27 p28 =>
 unpK p25 p28 fun p29 =>
 kla (prt [(p25.next, p28.next)] p29) 5 v23 fun v30 =>
 keq false .i v13 q0 fun v31 =>
 jn 2 (fun j32 => gdK v31 true (keq false .i v22 q0 fun v33 =>
 j32 v22 v33 p29) (j32 .undef .undef p29)) fun v34 v35 _ =>
 kpk v31 v35 q13 fun v37 =>
 kps p29 [] [v23] 5 v4 v27 fun b38 p39 =>
 kst p39 5 v6 v30 fun p40 =>
 kra p40 5 v4 fun v41 =>
 kra p40 5 v6 fun v42 =>
 k [v41, v42, v37] p40
theorem o4 : FO EN 4 f4 := fe (np := 2) (T := t4) (tcons (ci_ok o8) (tcons (cn_ok o9) (tcons (ci_ok o10) (tcons (ci_ok o11) tnil)))) [] (by kernel_rfl) fun p s k => by kernel_rfl
/- 192 slices.Clip[[]countersign/api.Type,countersign/api.Type] -/
def t192 : List Ce := []
def f192 : FT := fun p s k => hd s fun a0 s0 =>
 nl s0 <|
 kln a0 fun v1 =>
 kln a0 fun v2 =>
 ksl 2 a0 none (some v1) (some v2) fun v3 =>
 k [v3] p
theorem o192 : FO EN 192 f192 := fe (np := 1) (T := t192) tnil [] (by kernel_rfl) fun p s k => by kernel_rfl
/- 194 slices.Clone[[]countersign/tables.Node,countersign/tables.Node] -/
def t194 : List Ce := []
def f194 : FT := fun p s k => hd s fun a0 s0 =>
 nl s0 <|
 ken false .s a0 .nils fun v1 =>
 kif v1
 (k [.nils] p)
 (kbs p 0 [] [] fun v2 p3 =>
 kap p3 6 96 v2 a0 fun v4 p5 =>
 k [v4] p5)
theorem o194 : FO EN 194 f194 := fe (np := 1) (T := t194) tnil [none] (by kernel_rfl) fun p s k => by kernel_rfl
/- 193 slices.Clip[[]countersign/tables.Node,countersign/tables.Node] -/
def t193 : List Ce := []
def f193 : FT := fun p s k => hd s fun a0 s0 =>
 nl s0 <|
 kln a0 fun v1 =>
 kln a0 fun v2 =>
 ksl 6 a0 none (some v1) (some v2) fun v3 =>
 k [v3] p
theorem o193 : FO EN 193 f193 := fe (np := 1) (T := t193) tnil [] (by kernel_rfl) fun p s k => by kernel_rfl
/- 195 slices.Clone[[]string,string] -/
def t195 : List Ce := []
def f195 : FT := fun p s k => hd s fun a0 s0 =>
 nl s0 <|
 ken false .s a0 .nils fun v1 =>
 kif v1
 (k [.nils] p)
 (kbs p 0 [] [] fun v2 p3 =>
 kap p3 1 16 v2 a0 fun v4 p5 =>
 k [v4] p5)
theorem o195 : FO EN 195 f195 := fe (np := 1) (T := t195) tnil [none] (by kernel_rfl) fun p s k => by kernel_rfl
/- 196 slices.Clone[[]int,int] -/
def t196 : List Ce := []
def f196 : FT := fun p s k => hd s fun a0 s0 =>
 nl s0 <|
 ken false .s a0 .nils fun v1 =>
 kif v1
 (k [.nils] p)
 (kbs p 0 [] [] fun v2 p3 =>
 kap p3 1 8 v2 a0 fun v4 p5 =>
 k [v4] p5)
theorem o196 : FO EN 196 f196 := fe (np := 1) (T := t196) tnil [none] (by kernel_rfl) fun p s k => by kernel_rfl
/- 153 countersign/tables.copied -/
def t153 : List Ce := [⟨55, cc f55⟩, ⟨192, ci f192⟩, ⟨194, cc f194⟩, ⟨193, ci f193⟩, ⟨195, cc f195⟩, ⟨146, ci f146⟩, ⟨196, cc f196⟩, ⟨174, ci f174⟩]
def f153 : FT := fun p s k => hd s fun a0 s0 =>
 nl s0 <|
 kbx p 6 a0 fun v1 p2 =>
 kal p2 q100 fun v3 p4 =>
 kfa 4 v1 fun v5 =>
 kld p4 v5 fun v6 =>
 cc f55 p4 [v6] fun v7 p8 =>
 ci f192 p8 [v7] fun v9 p10 =>
 kfa 4 v1 fun v11 =>
 kst p10 1 v11 v9 fun p12 =>
 kfa 5 v1 fun v13 =>
 kld p12 v13 fun v14 =>
 cc f194 p12 [v14] fun v15 p16 =>
 ci f193 p16 [v15] fun v17 p18 =>
 kfa 5 v1 fun v19 =>
 kst p18 1 v19 v17 fun p20 =>
 kfa 5 v1 fun v21 =>
 kld p20 v21 fun v22 =>
 kln v22 fun v23 =>
 jn 0 (fun j24 =>
 lp 1 fuel (fun r25 v26 p27 =>
 klt v26 v23 fun v28 =>
 kif v28
 (kfa 5 v1 fun v29 =>
 kld p27 v29 fun v30 =>
 kia 6 v30 v26 fun v31 =>
 knc v31 fun v32 =>
 kfa 3 v32 fun v33 =>
 kld (prt [] p27) v33 fun v34 =>
 cc f195 (prt [] p27) [v34] fun v35 p36 =>
 unpK p27 p36 fun p37 =>
 ci f146 (prt [] p37) [v35] fun v38 p39 =>
 unpK p37 p39 fun p40 =>
 knc v31 fun v41 =>
 kfa 4 v41 fun v42 =>
 kld (prt [(p27.next, p36.next), (p37.next, p39.next)] p40) v42 fun v43 =>
 cc f196 p40 [v43] fun v44 p45 =>
 ci f174 p45 [v44] fun v46 p47 =>
 knc v31 fun v48 =>
 kfa 3 v48 fun v49 =>
 kst p47 1 v49 v38 fun p50 =>
 knc v31 fun v51 =>
 kfa 4 v51 fun v52 =>
 kst p50 1 v52 v46 fun p53 =>
 kad v26 q14 fun v54 =>
 r25 v54 p53)
 (j24 p27)) q0 p20) fun p55 =>
 kla p55 6 v1 fun v56 =>
 kst p55 6 v3 v56 fun p57 =>
 kra p57 6 v3 fun v58 =>
 k [v58] p57
theorem o153 : FO EN 153 f153 := fe (np := 1) (T := t153) (tcons (cc_ok o55) (tcons (ci_ok o192) (tcons (cc_ok o194) (tcons (ci_ok o193) (tcons (cc_ok o195) (tcons (ci_ok o146) (tcons (cc_ok o196) (tcons (ci_ok o174) tnil)))))))) [some [], some [18], none, none] (by kernel_rfl) fun p s k => by kernel_rfl
/- 118 (*countersign/tables.Tables).Find -/
def t118 : List Ce := [⟨153, cn f153⟩]
def f118 : FT := fun p s k => hd s fun a0 s0 =>
 hd s0 fun a1 s1 =>
 hd s1 fun a2 s2 =>
 nl s2 <|
 kal p q100 fun v3 p4 =>
 ken false .p a0 .nilp fun v5 =>
 jn 5 (fun j6 => gdK v5 false (knc a0 fun v7 =>
 kfa 0 v7 fun v8 =>
 kld p4 v8 fun v9 =>
 knt v9 fun v10 =>
 j6 a0 v7 v8 v9 v10 p4) (j6 .undef .undef .undef .undef .undef p4)) fun v11 v12 v13 v14 v15 p16 =>
 kpk v5 q29 v15 fun v17 =>
 kif v17
 (kbd q100 [] fun v18 =>
 kst p16 6 v3 v18 fun p19 =>
 kra p19 6 v3 fun v20 =>
 k [v20, q16] p19)
 (knc a0 fun v21 =>
 kfa 2 v21 fun v22 =>
 kld p16 v22 fun v23 =>
 kbd q38 [(0, 1, a1), (1, 1, a2)] fun v24 =>
 ksw mth p16 (.lookup ⟨true, [(0, .s), (1, .s)]⟩ q0 true (.c v23) (.c v24)) fun v25 p26 =>
 kex v25 0 fun v27 =>
 kex v25 1 fun v28 =>
 knt v28 fun v29 =>
 kif v29
 (kbd q100 [] fun v30 =>
 kst p26 6 v3 v30 fun p31 =>
 kra p31 6 v3 fun v32 =>
 k [v32, q32] p31)
 (knc a0 fun v33 =>
 kfa 1 v33 fun v34 =>
 kld p26 v34 fun v35 =>
 kia 6 v35 v27 fun v36 =>
 kla p26 6 v36 fun v37 =>
 cn f153 p26 [v37] fun v38 p39 =>
 kst p39 6 v3 v38 fun p40 =>
 kra p40 6 v3 fun v41 =>
 k [v41, q0] p40))
theorem o118 : FO EN 118 f118 := fe (np := 3) (T := t118) (tcons (cn_ok o153) tnil) [none, none] (by kernel_rfl) fun p s k => by kernel_rfl
/- 73 (countersign/refs.World).table -/
def t73 : List Ce := [⟨77, cc f77⟩, ⟨118, cc f118⟩]
def f73 : FT := fun p s k => hd s fun a0 s0 =>
 hd s0 fun a1 s1 =>
 nl s1 <|
 kbx p 5 a0 fun v2 p3 =>
 kbx p3 3 a1 fun v4 p5 =>
 kal p5 q100 fun v6 p7 =>
 kfa 0 v2 fun v8 =>
 kld p7 v8 fun v9 =>
 ken false .p v9 .nilp fun v10 =>
 kif v10
 (kbd q100 [] fun v11 =>
 kst p7 6 v6 v11 fun p12 =>
 kra p12 6 v6 fun v13 =>
 k [v13, q16] p12)
 (kla p7 3 v4 fun v14 =>
 cc f77 p7 [v14] fun v15 p16 =>
 keq true .i v15 q0 fun v17 =>
 kif v17
 (kbd q100 [] fun v18 =>
 kst p16 6 v6 v18 fun p19 =>
 kra p19 6 v6 fun v20 =>
 k [v20, v15] p19)
 (kfa 0 v2 fun v21 =>
 kld p16 v21 fun v22 =>
 kfa 0 v4 fun v23 =>
 kfa 0 v23 fun v24 =>
 kld p16 v24 fun v25 =>
 kfa 2 v4 fun v26 =>
 kld p16 v26 fun v27 =>
 cc f118 p16 [v22, v25, v27] fun v28 p29 =>
 kex v28 0 fun v30 =>
 kex v28 1 fun v31 =>
 kst p29 6 v6 v30 fun p32 =>
 kra p32 6 v6 fun v33 =>
 k [v33, v31] p32))
theorem o73 : FO EN 73 f73 := fe (np := 2) (T := t73) (tcons (cc_ok o77) (tcons (cc_ok o118) tnil)) [none, none] (by kernel_rfl) fun p s k => by kernel_rfl
/- 33 (countersign/refs.World).Check -/
def t33 : List Ce := [⟨73, cn f73⟩]
def f33 : FT := fun p s k => hd s fun a0 s0 =>
 hd s0 fun a1 s1 =>
 nl s1 <|
 kbx p 5 a0 fun v2 p3 =>
 kbx p3 3 a1 fun v4 p5 =>
 kla p5 5 v2 fun v6 =>
 kla p5 3 v4 fun v7 =>
 cn f73 p5 [v6, v7] fun v8 p9 =>
 kex v8 0 fun v10 =>
 kex v8 1 fun v11 =>
 kal p9 q100 fun v12 p13 =>
 kst p13 6 v12 v10 fun p14 =>
 k [v11] p14
theorem o33 : FO EN 33 f33 := fe (np := 2) (T := t33) (tcons (cn_ok o73) tnil) [] (by kernel_rfl) fun p s k => by kernel_rfl
/- 121 (countersign/trees.Map[countersign/api.Goal, int]).Get -/
def t121 : List Ce := [⟨44, cc f44⟩]
def f121 : FT := fun p s k => hd s fun a0 s0 =>
 hd s0 fun a1 s1 =>
 nl s1 <|
 kbx p 2 a0 fun v2 p3 =>
 kbx p3 3 a1 fun v4 p5 =>
 kfa 1 v2 fun v6 =>
 kld p5 v6 fun v7 =>
 jn 0 (fun j8 =>
 lp 1 fuel (fun r9 v10 p11 =>
 ken true .p v10 .nilp fun v12 =>
 kif v12
 (kfa 0 v2 fun v13 =>
 kld (prt [] p11) v13 fun v14 =>
 kla (prt [] p11) 3 v4 fun v15 =>
 knc v10 fun v16 =>
 kfa 0 v16 fun v17 =>
 kfa 0 v17 fun v18 =>
 kla (prt [] p11) 3 v18 fun v19 =>
 kcv t121 p11 v14 [v15, v19] fun v20 p21 =>
 keq false .i v20 q0 fun v22 =>
 kif v22
 (knc v10 fun v23 =>
 kfa 0 v23 fun v24 =>
 kfa 3 v24 fun v25 =>
 kld p21 v25 fun v26 =>
 k [v26, q29] p21)
 (klt v20 q0 fun v27 =>
 jn 1 (fun j28 => kif v27
 (knc v10 fun v29 =>
 kfa 4 v29 fun v30 =>
 kld p21 v30 fun v31 =>
 j28 v31 p21)
 (knc v10 fun v32 =>
 kfa 5 v32 fun v33 =>
 kld p21 v33 fun v34 =>
 j28 v34 p21)) fun v35 p36 =>
 r9 v35 p36))
 (j8 p11)) v7 p5) fun p37 =>
 k [q0, q13] p37
theorem o121 : FO EN 121 f121 := fe (np := 2) (T := t121) (tcons (cc_ok o44) tnil) [some [], some [6], none, none, none, some [6]] (by kernel_rfl) fun p s k => by kernel_rfl
/- 78 (countersign/goals.Table).Find -/
def t78 : List Ce := [⟨121, cn f121⟩]
def f78 : FT := fun p s k => hd s fun a0 s0 =>
 hd s0 fun a1 s1 =>
 nl s1 <|
 kbx p 4 a0 fun v2 p3 =>
 kbx p3 3 a1 fun v4 p5 =>
 kfa 2 v2 fun v6 =>
 kla p5 2 v6 fun v7 =>
 kla p5 3 v4 fun v8 =>
 cn f121 p5 [v7, v8] fun v9 p10 =>
 kex v9 0 fun v11 =>
 kex v9 1 fun v12 =>
 k [v11, v12] p10
theorem o78 : FO EN 78 f78 := fe (np := 2) (T := t78) (tcons (cn_ok o121) tnil) [] (by kernel_rfl) fun p s k => by kernel_rfl
/- 82 (*countersign/trees.node[int, countersign/api.Goal]).size -/
def t82 : List Ce := []
def f82 : FT := fun p s k => hd s fun a0 s0 =>
 nl s0 <|
 ken false .p a0 .nilp fun v1 =>
 kif v1
 (k [q0] p)
 (knc a0 fun v2 =>
 kfa 6 v2 fun v3 =>
 kld p v3 fun v4 =>
 k [v4] p)
theorem o82 : FO EN 82 f82 := fe (np := 1) (T := t82) tnil [none] (by kernel_rfl) fun p s k => by kernel_rfl
/- 40 (countersign/trees.Map[int, countersign/api.Goal]).Len -/
def t40 : List Ce := [⟨82, cc f82⟩]
def f40 : FT := fun p s k => hd s fun a0 s0 =>
 nl s0 <|
 kbx p 2 a0 fun v1 p2 =>
 kfa 1 v1 fun v3 =>
 kld p2 v3 fun v4 =>
 cc f82 p2 [v4] fun v5 p6 =>
 k [v5] p6
theorem o40 : FO EN 40 f40 := fe (np := 1) (T := t40) (tcons (cc_ok o82) tnil) [] (by kernel_rfl) fun p s k => by kernel_rfl
/- 18 (countersign/goals.Table).Len -/
def t18 : List Ce := [⟨40, cn f40⟩]
def f18 : FT := fun p s k => hd s fun a0 s0 =>
 nl s0 <|
 kbx p 4 a0 fun v1 p2 =>
 kfa 0 v1 fun v3 =>
 kla p2 2 v3 fun v4 =>
 cn f40 p2 [v4] fun v5 p6 =>
 k [v5] p6
theorem o18 : FO EN 18 f18 := fe (np := 1) (T := t18) (tcons (cn_ok o40) tnil) [] (by kernel_rfl) fun p s k => by kernel_rfl
/- 122 countersign/trees.New[int,countersign/api.Goal] -/
def t122 : List Ce := []
def f122 : FT := fun p s k => hd s fun a0 s0 =>
 nl s0 <|
 kal p q40 fun v1 p2 =>
 kbd q40 [(0, 1, a0)] fun v3 =>
 kst p2 2 v1 v3 fun p4 =>
 kra p4 2 v1 fun v5 =>
 k [v5] p4
theorem o122 : FO EN 122 f122 := fe (np := 1) (T := t122) tnil [] (by kernel_rfl) fun p s k => by kernel_rfl
/- 124 countersign/trees.New[countersign/api.Goal,int] -/
def t124 : List Ce := []
def f124 : FT := fun p s k => hd s fun a0 s0 =>
 nl s0 <|
 kal p q40 fun v1 p2 =>
 kbd q40 [(0, 1, a0)] fun v3 =>
 kst p2 2 v1 v3 fun p4 =>
 kra p4 2 v1 fun v5 =>
 k [v5] p4
theorem o124 : FO EN 124 f124 := fe (np := 1) (T := t124) tnil [] (by kernel_rfl) fun p s k => by kernel_rfl
/- 79 (countersign/goals.Table).order -/
def t79 : List Ce := [⟨40, cn f40⟩, ⟨122, cn f122⟩, ⟨124, cn f124⟩]
def f79 : FT := fun p s k => hd s fun a0 s0 =>
 nl s0 <|
 kbx p 4 a0 fun v1 p2 =>
 kal p2 q43 fun v3 p4 =>
 kfa 0 v1 fun v5 =>
 kla p4 2 v5 fun v6 =>
 cn f40 p4 [v6] fun v7 p8 =>
 keq false .i v7 q0 fun v9 =>
 jn 0 (fun j10 => kif v9
 (cn f122 p8 [q103] fun v11 p12 =>
 kfa 0 v1 fun v13 =>
 kst p12 2 v13 v11 fun p14 =>
 cn f124 p14 [q104] fun v15 p16 =>
 kfa 2 v1 fun v17 =>
 kst p16 2 v17 v15 fun p18 =>
 j10 p18)
 (j10 p8)) fun p19 =>
 kla p19 4 v1 fun v20 =>
 kst p19 4 v3 v20 fun p21 =>
 kra p21 4 v3 fun v22 =>
 k [v22] p21
theorem o79 : FO EN 79 f79 := fe (np := 1) (T := t79) (tcons (cn_ok o40) (tcons (cn_ok o122) (tcons (cn_ok o124) tnil))) [some []] (by kernel_rfl) fun p s k => by kernel_rfl
/- 200 (*countersign/trees.node[int, countersign/api.Goal]).deep -/
def t200 : List Ce := []
def f200 : FT := fun p s k => hd s fun a0 s0 =>
 nl s0 <|
 ken false .p a0 .nilp fun v1 =>
 kif v1
 (k [q0] p)
 (knc a0 fun v2 =>
 kfa 7 v2 fun v3 =>
 kld p v3 fun v4 =>
 k [v4] p)
theorem o200 : FO EN 200 f200 := fe (np := 1) (T := t200) tnil [none] (by kernel_rfl) fun p s k => by kernel_rfl
/- 158 countersign/trees.join[int,countersign/api.Goal] -/
def t158 : List Ce := [⟨82, cc f82⟩, ⟨200, cc f200⟩]
def f158 : FT := fun p s k => hd s fun a0 s0 =>
 hd s0 fun a1 s1 =>
 hd s1 fun a2 s2 =>
 nl s2 <|
 kbx p 4 a0 fun v3 p4 =>
 kla (prt [] p4) 4 v3 fun v5 =>
 cc f82 (prt [] p4) [a1] fun v6 p7 =>
 unpK p4 p7 fun p8 =>
 kad v6 q14 fun v9 =>
 cc f82 (prt [] p8) [a2] fun v10 p11 =>
 unpK p8 p11 fun p12 =>
 kad v9 v10 fun v13 =>
 cc f200 (prt [] p12) [a1] fun v14 p15 =>
 unpK p12 p15 fun p16 =>
 cc f200 (prt [] p16) [a2] fun v17 p18 =>
 unpK p16 p18 fun p19 =>
 ksw mth p19 (.minmax true [(.c v14), (.c v17)]) fun v20 p21 =>
 kad q14 v20 fun v22 =>
 kbd q105 [(0, 4, v5), (4, 1, a1), (5, 1, a2), (6, 1, v13), (7, 1, v22)] fun v23 =>
 kbx p19 8 v23 fun v24 p25 =>
 k [v24] p25
theorem o158 : FO EN 158 f158 := fe (np := 3) (T := t158) (tcons (cc_ok o82) (tcons (cc_ok o200) tnil)) [] (by kernel_rfl) fun p s k => by kernel_rfl
/- 159 countersign/trees.balance[int,countersign/api.Goal] -/
def t159 : List Ce := [⟨200, cc f200⟩, ⟨158, cn f158⟩]
def f159 : FT := fun p s k => hd s fun a0 s0 =>
 hd s0 fun a1 s1 =>
 hd s1 fun a2 s2 =>
 nl s2 <|
 kbx p 4 a0 fun v3 p4 =>
 cc f200 p4 [a1] fun v5 p6 =>
 cc f200 p6 [a2] fun v7 p8 =>
 ksb v5 v7 fun v9 =>
 kgt v9 q14 fun v10 =>
 jn 11 (fun j11 => gdK v10 true (knc a1 fun v12 =>
 kfa 4 v12 fun v13 =>
 kld (prt [] p8) v13 fun v14 =>
 cc f200 (prt [] p8) [v14] fun v15 p16 =>
 unpK p8 p16 fun p17 =>
 knc a1 fun v18 =>
 kfa 5 v18 fun v19 =>
 kld (prt [(p8.next, p16.next)] p17) v19 fun v20 =>
 cc f200 p17 [v20] fun v21 p22 =>
 kge v15 v21 fun v23 =>
 j11 a1 v12 v13 v14 v15 a1 v18 v19 v20 v21 v23 p22) (j11 .undef .undef .undef .undef .undef .undef .undef .undef .undef .undef .undef p8)) fun v24 v25 v26 v27 v28 v29 v30 v31 v32 v33 v34 p35 =>
 kpk v10 v34 q13 fun v36 =>
 kif v36
 (knc a1 fun v37 =>
 kfa 0 v37 fun v38 =>
 kla (prt [] p35) 4 v38 fun v39 =>
 knc a1 fun v40 =>
 kfa 4 v40 fun v41 =>
 kld (prt [] p35) v41 fun v42 =>
 kla (prt [] p35) 4 v3 fun v43 =>
 knc a1 fun v44 =>
 kfa 5 v44 fun v45 =>
 kld (prt [] p35) v45 fun v46 =>
 cn f158 (prt [] p35) [v43, v46, a2] fun v47 p48 =>
 unpK p35 p48 fun p49 =>
 cn f158 p49 [v39, v42, v47] fun v50 p51 =>
 k [v50] p51)
 (kgt v9 q14 fun v52 =>
 kif v52
 (knc a1 fun v53 =>
 kfa 5 v53 fun v54 =>
 kld p35 v54 fun v55 =>
 knc v55 fun v56 =>
 kfa 0 v56 fun v57 =>
 kla (prt [] p35) 4 v57 fun v58 =>
 knc a1 fun v59 =>
 kfa 0 v59 fun v60 =>
 kla (prt [] p35) 4 v60 fun v61 =>
 knc a1 fun v62 =>
 kfa 4 v62 fun v63 =>
 kld (prt [] p35) v63 fun v64 =>
 knc v55 fun v65 =>
 kfa 4 v65 fun v66 =>
 kld (prt [] p35) v66 fun v67 =>
 cn f158 (prt [] p35) [v61, v64, v67] fun v68 p69 =>
 unpK p35 p69 fun p70 =>
 kla (prt [(p35.next, p69.next)] p70) 4 v3 fun v71 =>
 knc v55 fun v72 =>
 kfa 5 v72 fun v73 =>
 kld (prt [(p35.next, p69.next)] p70) v73 fun v74 =>
 cn f158 (prt [] p70) [v71, v74, a2] fun v75 p76 =>
 unpK p70 p76 fun p77 =>
 cn f158 p77 [v58, v68, v75] fun v78 p79 =>
 k [v78] p79)
 (klt v9 q42 fun v80 =>
 jn 11 (fun j81 => gdK v80 true (knc a2 fun v82 =>
 kfa 5 v82 fun v83 =>
 kld (prt [] p35) v83 fun v84 =>
 cc f200 (prt [] p35) [v84] fun v85 p86 =>
 unpK p35 p86 fun p87 =>
 knc a2 fun v88 =>
 kfa 4 v88 fun v89 =>
 kld (prt [(p35.next, p86.next)] p87) v89 fun v90 =>
 cc f200 p87 [v90] fun v91 p92 =>
 kge v85 v91 fun v93 =>
 j81 a2 v82 v83 v84 v85 a2 v88 v89 v90 v91 v93 p92) (j81 .undef .undef .undef .undef .undef .undef .undef .undef .undef .undef .undef p35)) fun v94 v95 v96 v97 v98 v99 v100 v101 v102 v103 v104 p105 =>
 kpk v80 v104 q13 fun v106 =>
 kif v106
 (knc a2 fun v107 =>
 kfa 0 v107 fun v108 =>
 kla (prt [] p105) 4 v108 fun v109 =>
 kla (prt [] p105) 4 v3 fun v110 =>
 knc a2 fun v111 =>
 kfa 4 v111 fun v112 =>
 kld (prt [] p105) v112 fun v113 =>
 cn f158 (prt [] p105) [v110, a1, v113] fun v114 p115 =>
 unpK p105 p115 fun p116 =>
 knc a2 fun v117 =>
 kfa 5 v117 fun v118 =>
 kld (prt [(p105.next, p115.next)] p116) v118 fun v119 =>
 cn f158 p116 [v109, v114, v119] fun v120 p121 =>
 k [v120] p121)
 (klt v9 q42 fun v122 =>
 kif v122
 (knc a2 fun v123 =>
 kfa 4 v123 fun v124 =>
 kld p105 v124 fun v125 =>
 knc v125 fun v126 =>
 kfa 0 v126 fun v127 =>
 kla (prt [] p105) 4 v127 fun v128 =>
 kla (prt [] p105) 4 v3 fun v129 =>
 knc v125 fun v130 =>
 kfa 4 v130 fun v131 =>
 kld (prt [] p105) v131 fun v132 =>
 cn f158 (prt [] p105) [v129, a1, v132] fun v133 p134 =>
 unpK p105 p134 fun p135 =>
 knc a2 fun v136 =>
 kfa 0 v136 fun v137 =>
 kla (prt [(p105.next, p134.next)] p135) 4 v137 fun v138 =>
 knc v125 fun v139 =>
 kfa 5 v139 fun v140 =>
 kld (prt [(p105.next, p134.next)] p135) v140 fun v141 =>
 knc a2 fun v142 =>
 kfa 5 v142 fun v143 =>
 kld (prt [(p105.next, p134.next)] p135) v143 fun v144 =>
 cn f158 (prt [] p135) [v138, v141, v144] fun v145 p146 =>
 unpK p135 p146 fun p147 =>
 cn f158 p147 [v128, v133, v145] fun v148 p149 =>
 k [v148] p149)
 (kla p105 4 v3 fun v150 =>
 cn f158 p105 [v150, a1, a2] fun v151 p152 =>
 k [v151] p152))))
theorem o159 : FO EN 159 f159 := fe (np := 3) (T := t159) (tcons (cc_ok o200) (tcons (cn_ok o158) tnil)) [none, none, none, none, none] (by kernel_rfl) fun p s k => by kernel_rfl
/- 125 (countersign/trees.Map[int, countersign/api.Goal]).put -/
def t125 (self : FT) : List Ce := [⟨158, cn f158⟩, ⟨125, cn self⟩, ⟨159, cn f159⟩, ⟨123, cc f123⟩]
def g125 : FT → FT := fun self => fun p s k => hd s fun a0 s0 =>
 hd s0 fun a1 s1 =>
 hd s1 fun a2 s2 =>
 nl s2 <|
 kbx p 2 a0 fun v3 p4 =>
 kbx p4 4 a2 fun v5 p6 =>
 ken false .p a1 .nilp fun v7 =>
 kif v7
 (kla p6 4 v5 fun v8 =>
 cn f158 p6 [v8, .nilp, .nilp] fun v9 p10 =>
 k [v9] p10)
 (kfa 0 v3 fun v11 =>
 kld (prt [] p6) v11 fun v12 =>
 kfa 0 v5 fun v13 =>
 kld (prt [] p6) v13 fun v14 =>
 knc a1 fun v15 =>
 kfa 0 v15 fun v16 =>
 kfa 0 v16 fun v17 =>
 kld (prt [] p6) v17 fun v18 =>
 kcv (t125 self) p6 v12 [v14, v18] fun v19 p20 =>
 klt v19 q0 fun v21 =>
 kif v21
 (knc a1 fun v22 =>
 kfa 0 v22 fun v23 =>
 kla (prt [] p20) 4 v23 fun v24 =>
 kla (prt [] p20) 2 v3 fun v25 =>
 knc a1 fun v26 =>
 kfa 4 v26 fun v27 =>
 kld (prt [] p20) v27 fun v28 =>
 kla (prt [] p20) 4 v5 fun v29 =>
 cn self (prt [] p20) [v25, v28, v29] fun v30 p31 =>
 unpK p20 p31 fun p32 =>
 knc a1 fun v33 =>
 kfa 5 v33 fun v34 =>
 kld (prt [(p20.next, p31.next)] p32) v34 fun v35 =>
 cn f159 p32 [v24, v30, v35] fun v36 p37 =>
 k [v36] p37)
 (kgt v19 q0 fun v38 =>
 kif v38
 (knc a1 fun v39 =>
 kfa 0 v39 fun v40 =>
 kla (prt [] p20) 4 v40 fun v41 =>
 knc a1 fun v42 =>
 kfa 4 v42 fun v43 =>
 kld (prt [] p20) v43 fun v44 =>
 kla (prt [] p20) 2 v3 fun v45 =>
 knc a1 fun v46 =>
 kfa 5 v46 fun v47 =>
 kld (prt [] p20) v47 fun v48 =>
 kla (prt [] p20) 4 v5 fun v49 =>
 cn self (prt [] p20) [v45, v48, v49] fun v50 p51 =>
 unpK p20 p51 fun p52 =>
 cn f159 p52 [v41, v44, v50] fun v53 p54 =>
 k [v53] p54)
 (knc a1 fun v55 =>
 kfa 0 v55 fun v56 =>
 kfa 0 v56 fun v57 =>
 kld (prt [] p20) v57 fun v58 =>
 kfa 1 v5 fun v59 =>
 kla (prt [] p20) 3 v59 fun v60 =>
 kbd q106 [(0, 1, v58), (1, 3, v60)] fun v61 =>
 knc a1 fun v62 =>
 kfa 4 v62 fun v63 =>
 kld (prt [] p20) v63 fun v64 =>
 knc a1 fun v65 =>
 kfa 5 v65 fun v66 =>
 kld (prt [] p20) v66 fun v67 =>
 cn f158 p20 [v61, v64, v67] fun v68 p69 =>
 k [v68] p69)))
def f125 : FT := rcF depth g125
theorem o125 : FO EN 125 f125 := FO.rc (fun self h => fe (np := 3) (T := t125 self) (tcons (cn_ok o158) (tcons (cn_ok h) (tcons (cn_ok o159) (tcons (cc_ok o123) tnil)))) [none, none, none, none] (by kernel_rfl) fun p s k => by kernel_rfl) depth
/- 80 (countersign/trees.Map[int, countersign/api.Goal]).Put -/
def t80 : List Ce := [⟨125, cn f125⟩]
def f80 : FT := fun p s k => hd s fun a0 s0 =>
 hd s0 fun a1 s1 =>
 hd s1 fun a2 s2 =>
 nl s2 <|
 kbx p 2 a0 fun v3 p4 =>
 kbx p4 3 a2 fun v5 p6 =>
 kal p6 q40 fun v7 p8 =>
 kfa 0 v3 fun v9 =>
 kld p8 v9 fun v10 =>
 ken true .f v10 .nilf fun v11 =>
 jn 0 (fun j12 => kif v11
 (kla p8 2 v3 fun v13 =>
 kfa 1 v3 fun v14 =>
 kld p8 v14 fun v15 =>
 kla p8 3 v5 fun v16 =>
 kbd q106 [(0, 1, a1), (1, 3, v16)] fun v17 =>
 cn f125 p8 [v13, v15, v17] fun v18 p19 =>
 kfa 1 v3 fun v20 =>
 kst p19 1 v20 v18 fun p21 =>
 j12 p21)
 (j12 p8)) fun p22 =>
 kla p22 2 v3 fun v23 =>
 kst p22 2 v7 v23 fun p24 =>
 kra p24 2 v7 fun v25 =>
 k [v25] p24
theorem o80 : FO EN 80 f80 := fe (np := 3) (T := t80) (tcons (cn_ok o125) tnil) [some []] (by kernel_rfl) fun p s k => by kernel_rfl
/- 201 (*countersign/trees.node[countersign/api.Goal, int]).size -/
def t201 : List Ce := []
def f201 : FT := fun p s k => hd s fun a0 s0 =>
 nl s0 <|
 ken false .p a0 .nilp fun v1 =>
 kif v1
 (k [q0] p)
 (knc a0 fun v2 =>
 kfa 6 v2 fun v3 =>
 kld p v3 fun v4 =>
 k [v4] p)
theorem o201 : FO EN 201 f201 := fe (np := 1) (T := t201) tnil [none] (by kernel_rfl) fun p s k => by kernel_rfl
/- 202 (*countersign/trees.node[countersign/api.Goal, int]).deep -/
def t202 : List Ce := []
def f202 : FT := fun p s k => hd s fun a0 s0 =>
 nl s0 <|
 ken false .p a0 .nilp fun v1 =>
 kif v1
 (k [q0] p)
 (knc a0 fun v2 =>
 kfa 7 v2 fun v3 =>
 kld p v3 fun v4 =>
 k [v4] p)
theorem o202 : FO EN 202 f202 := fe (np := 1) (T := t202) tnil [none] (by kernel_rfl) fun p s k => by kernel_rfl
/- 160 countersign/trees.join[countersign/api.Goal,int] -/
def t160 : List Ce := [⟨201, cc f201⟩, ⟨202, cc f202⟩]
def f160 : FT := fun p s k => hd s fun a0 s0 =>
 hd s0 fun a1 s1 =>
 hd s1 fun a2 s2 =>
 nl s2 <|
 kbx p 4 a0 fun v3 p4 =>
 kla (prt [] p4) 4 v3 fun v5 =>
 cc f201 (prt [] p4) [a1] fun v6 p7 =>
 unpK p4 p7 fun p8 =>
 kad v6 q14 fun v9 =>
 cc f201 (prt [] p8) [a2] fun v10 p11 =>
 unpK p8 p11 fun p12 =>
 kad v9 v10 fun v13 =>
 cc f202 (prt [] p12) [a1] fun v14 p15 =>
 unpK p12 p15 fun p16 =>
 cc f202 (prt [] p16) [a2] fun v17 p18 =>
 unpK p16 p18 fun p19 =>
 ksw mth p19 (.minmax true [(.c v14), (.c v17)]) fun v20 p21 =>
 kad q14 v20 fun v22 =>
 kbd q107 [(0, 4, v5), (4, 1, a1), (5, 1, a2), (6, 1, v13), (7, 1, v22)] fun v23 =>
 kbx p19 8 v23 fun v24 p25 =>
 k [v24] p25
theorem o160 : FO EN 160 f160 := fe (np := 3) (T := t160) (tcons (cc_ok o201) (tcons (cc_ok o202) tnil)) [] (by kernel_rfl) fun p s k => by kernel_rfl
/- 161 countersign/trees.balance[countersign/api.Goal,int] -/
def t161 : List Ce := [⟨202, cc f202⟩, ⟨160, cn f160⟩]
def f161 : FT := fun p s k => hd s fun a0 s0 =>
 hd s0 fun a1 s1 =>
 hd s1 fun a2 s2 =>
 nl s2 <|
 kbx p 4 a0 fun v3 p4 =>
 cc f202 p4 [a1] fun v5 p6 =>
 cc f202 p6 [a2] fun v7 p8 =>
 ksb v5 v7 fun v9 =>
 kgt v9 q14 fun v10 =>
 jn 11 (fun j11 => gdK v10 true (knc a1 fun v12 =>
 kfa 4 v12 fun v13 =>
 kld (prt [] p8) v13 fun v14 =>
 cc f202 (prt [] p8) [v14] fun v15 p16 =>
 unpK p8 p16 fun p17 =>
 knc a1 fun v18 =>
 kfa 5 v18 fun v19 =>
 kld (prt [(p8.next, p16.next)] p17) v19 fun v20 =>
 cc f202 p17 [v20] fun v21 p22 =>
 kge v15 v21 fun v23 =>
 j11 a1 v12 v13 v14 v15 a1 v18 v19 v20 v21 v23 p22) (j11 .undef .undef .undef .undef .undef .undef .undef .undef .undef .undef .undef p8)) fun v24 v25 v26 v27 v28 v29 v30 v31 v32 v33 v34 p35 =>
 kpk v10 v34 q13 fun v36 =>
 kif v36
 (knc a1 fun v37 =>
 kfa 0 v37 fun v38 =>
 kla (prt [] p35) 4 v38 fun v39 =>
 knc a1 fun v40 =>
 kfa 4 v40 fun v41 =>
 kld (prt [] p35) v41 fun v42 =>
 kla (prt [] p35) 4 v3 fun v43 =>
 knc a1 fun v44 =>
 kfa 5 v44 fun v45 =>
 kld (prt [] p35) v45 fun v46 =>
 cn f160 (prt [] p35) [v43, v46, a2] fun v47 p48 =>
 unpK p35 p48 fun p49 =>
 cn f160 p49 [v39, v42, v47] fun v50 p51 =>
 k [v50] p51)
 (kgt v9 q14 fun v52 =>
 kif v52
 (knc a1 fun v53 =>
 kfa 5 v53 fun v54 =>
 kld p35 v54 fun v55 =>
 knc v55 fun v56 =>
 kfa 0 v56 fun v57 =>
 kla (prt [] p35) 4 v57 fun v58 =>
 knc a1 fun v59 =>
 kfa 0 v59 fun v60 =>
 kla (prt [] p35) 4 v60 fun v61 =>
 knc a1 fun v62 =>
 kfa 4 v62 fun v63 =>
 kld (prt [] p35) v63 fun v64 =>
 knc v55 fun v65 =>
 kfa 4 v65 fun v66 =>
 kld (prt [] p35) v66 fun v67 =>
 cn f160 (prt [] p35) [v61, v64, v67] fun v68 p69 =>
 unpK p35 p69 fun p70 =>
 kla (prt [(p35.next, p69.next)] p70) 4 v3 fun v71 =>
 knc v55 fun v72 =>
 kfa 5 v72 fun v73 =>
 kld (prt [(p35.next, p69.next)] p70) v73 fun v74 =>
 cn f160 (prt [] p70) [v71, v74, a2] fun v75 p76 =>
 unpK p70 p76 fun p77 =>
 cn f160 p77 [v58, v68, v75] fun v78 p79 =>
 k [v78] p79)
 (klt v9 q42 fun v80 =>
 jn 11 (fun j81 => gdK v80 true (knc a2 fun v82 =>
 kfa 5 v82 fun v83 =>
 kld (prt [] p35) v83 fun v84 =>
 cc f202 (prt [] p35) [v84] fun v85 p86 =>
 unpK p35 p86 fun p87 =>
 knc a2 fun v88 =>
 kfa 4 v88 fun v89 =>
 kld (prt [(p35.next, p86.next)] p87) v89 fun v90 =>
 cc f202 p87 [v90] fun v91 p92 =>
 kge v85 v91 fun v93 =>
 j81 a2 v82 v83 v84 v85 a2 v88 v89 v90 v91 v93 p92) (j81 .undef .undef .undef .undef .undef .undef .undef .undef .undef .undef .undef p35)) fun v94 v95 v96 v97 v98 v99 v100 v101 v102 v103 v104 p105 =>
 kpk v80 v104 q13 fun v106 =>
 kif v106
 (knc a2 fun v107 =>
 kfa 0 v107 fun v108 =>
 kla (prt [] p105) 4 v108 fun v109 =>
 kla (prt [] p105) 4 v3 fun v110 =>
 knc a2 fun v111 =>
 kfa 4 v111 fun v112 =>
 kld (prt [] p105) v112 fun v113 =>
 cn f160 (prt [] p105) [v110, a1, v113] fun v114 p115 =>
 unpK p105 p115 fun p116 =>
 knc a2 fun v117 =>
 kfa 5 v117 fun v118 =>
 kld (prt [(p105.next, p115.next)] p116) v118 fun v119 =>
 cn f160 p116 [v109, v114, v119] fun v120 p121 =>
 k [v120] p121)
 (klt v9 q42 fun v122 =>
 kif v122
 (knc a2 fun v123 =>
 kfa 4 v123 fun v124 =>
 kld p105 v124 fun v125 =>
 knc v125 fun v126 =>
 kfa 0 v126 fun v127 =>
 kla (prt [] p105) 4 v127 fun v128 =>
 kla (prt [] p105) 4 v3 fun v129 =>
 knc v125 fun v130 =>
 kfa 4 v130 fun v131 =>
 kld (prt [] p105) v131 fun v132 =>
 cn f160 (prt [] p105) [v129, a1, v132] fun v133 p134 =>
 unpK p105 p134 fun p135 =>
 knc a2 fun v136 =>
 kfa 0 v136 fun v137 =>
 kla (prt [(p105.next, p134.next)] p135) 4 v137 fun v138 =>
 knc v125 fun v139 =>
 kfa 5 v139 fun v140 =>
 kld (prt [(p105.next, p134.next)] p135) v140 fun v141 =>
 knc a2 fun v142 =>
 kfa 5 v142 fun v143 =>
 kld (prt [(p105.next, p134.next)] p135) v143 fun v144 =>
 cn f160 (prt [] p135) [v138, v141, v144] fun v145 p146 =>
 unpK p135 p146 fun p147 =>
 cn f160 p147 [v128, v133, v145] fun v148 p149 =>
 k [v148] p149)
 (kla p105 4 v3 fun v150 =>
 cn f160 p105 [v150, a1, a2] fun v151 p152 =>
 k [v151] p152))))
theorem o161 : FO EN 161 f161 := fe (np := 3) (T := t161) (tcons (cc_ok o202) (tcons (cn_ok o160) tnil)) [none, none, none, none, none] (by kernel_rfl) fun p s k => by kernel_rfl
end
end Go.V
end

section
set_option maxRecDepth 100000
set_option linter.unusedVariables false
namespace Go.V
noncomputable section
/- 126 (countersign/trees.Map[countersign/api.Goal, int]).put -/
def t126 (self : FT) : List Ce := [⟨160, cn f160⟩, ⟨126, cn self⟩, ⟨161, cn f161⟩, ⟨44, cc f44⟩]
def g126 : FT → FT := fun self => fun p s k => hd s fun a0 s0 =>
 hd s0 fun a1 s1 =>
 hd s1 fun a2 s2 =>
 nl s2 <|
 kbx p 2 a0 fun v3 p4 =>
 kbx p4 4 a2 fun v5 p6 =>
 ken false .p a1 .nilp fun v7 =>
 kif v7
 (kla p6 4 v5 fun v8 =>
 cn f160 p6 [v8, .nilp, .nilp] fun v9 p10 =>
 k [v9] p10)
 (kfa 0 v3 fun v11 =>
 kld (prt [] p6) v11 fun v12 =>
 kfa 0 v5 fun v13 =>
 kla (prt [] p6) 3 v13 fun v14 =>
 knc a1 fun v15 =>
 kfa 0 v15 fun v16 =>
 kfa 0 v16 fun v17 =>
 kla (prt [] p6) 3 v17 fun v18 =>
 kcv (t126 self) p6 v12 [v14, v18] fun v19 p20 =>
 klt v19 q0 fun v21 =>
 kif v21
 (knc a1 fun v22 =>
 kfa 0 v22 fun v23 =>
 kla (prt [] p20) 4 v23 fun v24 =>
 kla (prt [] p20) 2 v3 fun v25 =>
 knc a1 fun v26 =>
 kfa 4 v26 fun v27 =>
 kld (prt [] p20) v27 fun v28 =>
 kla (prt [] p20) 4 v5 fun v29 =>
 cn self (prt [] p20) [v25, v28, v29] fun v30 p31 =>
 unpK p20 p31 fun p32 =>
 knc a1 fun v33 =>
 kfa 5 v33 fun v34 =>
 kld (prt [(p20.next, p31.next)] p32) v34 fun v35 =>
 cn f161 p32 [v24, v30, v35] fun v36 p37 =>
 k [v36] p37)
 (kgt v19 q0 fun v38 =>
 kif v38
 (knc a1 fun v39 =>
 kfa 0 v39 fun v40 =>
 kla (prt [] p20) 4 v40 fun v41 =>
 knc a1 fun v42 =>
 kfa 4 v42 fun v43 =>
 kld (prt [] p20) v43 fun v44 =>
 kla (prt [] p20) 2 v3 fun v45 =>
 knc a1 fun v46 =>
 kfa 5 v46 fun v47 =>
 kld (prt [] p20) v47 fun v48 =>
 kla (prt [] p20) 4 v5 fun v49 =>
 cn self (prt [] p20) [v45, v48, v49] fun v50 p51 =>
 unpK p20 p51 fun p52 =>
 cn f161 p52 [v41, v44, v50] fun v53 p54 =>
 k [v53] p54)
 (knc a1 fun v55 =>
 kfa 0 v55 fun v56 =>
 kfa 0 v56 fun v57 =>
 kla (prt [] p20) 3 v57 fun v58 =>
 kfa 3 v5 fun v59 =>
 kld (prt [] p20) v59 fun v60 =>
 kbd q108 [(0, 3, v58), (3, 1, v60)] fun v61 =>
 knc a1 fun v62 =>
 kfa 4 v62 fun v63 =>
 kld (prt [] p20) v63 fun v64 =>
 knc a1 fun v65 =>
 kfa 5 v65 fun v66 =>
 kld (prt [] p20) v66 fun v67 =>
 cn f160 p20 [v61, v64, v67] fun v68 p69 =>
 k [v68] p69)))
def f126 : FT := rcF depth g126
theorem o126 : FO EN 126 f126 := FO.rc (fun self h => fe (np := 3) (T := t126 self) (tcons (cn_ok o160) (tcons (cn_ok h) (tcons (cn_ok o161) (tcons (cc_ok o44) tnil)))) [none, none, none, none] (by kernel_rfl) fun p s k => by kernel_rfl) depth
/- 81 (countersign/trees.Map[countersign/api.Goal, int]).Put -/
def t81 : List Ce := [⟨126, cn f126⟩]
def f81 : FT := fun p s k => hd s fun a0 s0 =>
 hd s0 fun a1 s1 =>
 hd s1 fun a2 s2 =>
 nl s2 <|
 kbx p 2 a0 fun v3 p4 =>
 kbx p4 3 a1 fun v5 p6 =>
 kal p6 q40 fun v7 p8 =>
 kfa 0 v3 fun v9 =>
 kld p8 v9 fun v10 =>
 ken true .f v10 .nilf fun v11 =>
 jn 0 (fun j12 => kif v11
 (kla p8 2 v3 fun v13 =>
 kfa 1 v3 fun v14 =>
 kld p8 v14 fun v15 =>
 kla p8 3 v5 fun v16 =>
 kbd q108 [(0, 3, v16), (3, 1, a2)] fun v17 =>
 cn f126 p8 [v13, v15, v17] fun v18 p19 =>
 kfa 1 v3 fun v20 =>
 kst p19 1 v20 v18 fun p21 =>
 j12 p21)
 (j12 p8)) fun p22 =>
 kla p22 2 v3 fun v23 =>
 kst p22 2 v7 v23 fun p24 =>
 kra p24 2 v7 fun v25 =>
 k [v25] p24
theorem o81 : FO EN 81 f81 := fe (np := 3) (T := t81) (tcons (cn_ok o126) tnil) [some []] (by kernel_rfl) fun p s k => by kernel_rfl
/- 38 (countersign/goals.Table).With -/
def t38 : List Ce := [⟨77, cc f77⟩, ⟨78, cn f78⟩, ⟨18, cc f18⟩, ⟨79, cn f79⟩, ⟨80, cn f80⟩, ⟨81, cn f81⟩]
def f38 : FT := fun p s k => hd s fun a0 s0 =>
 hd s0 fun a1 s1 =>
 nl s1 <|
 kbx p 4 a0 fun v2 p3 =>
 kbx p3 3 a1 fun v4 p5 =>
 kal p5 q43 fun v6 p7 =>
 kla p7 3 v4 fun v8 =>
 cc f77 p7 [v8] fun v9 p10 =>
 keq true .i v9 q0 fun v11 =>
 kif v11
 (kla p10 4 v2 fun v12 =>
 kst p10 4 v6 v12 fun p13 =>
 kra p13 4 v6 fun v14 =>
 k [v14, q0, q13, v9] p13)
 (kla p10 4 v2 fun v15 =>
 kla p10 3 v4 fun v16 =>
 cn f78 p10 [v15, v16] fun v17 p18 =>
 kex v17 0 fun v19 =>
 kex v17 1 fun v20 =>
 kif v20
 (kla p18 4 v2 fun v21 =>
 kst p18 4 v6 v21 fun p22 =>
 kra p22 4 v6 fun v23 =>
 k [v23, v19, q13, q0] p22)
 (kla p18 4 v2 fun v24 =>
 cc f18 p18 [v24] fun v25 p26 =>
 kge v25 q109 fun v27 =>
 kif v27
 (kla p26 4 v2 fun v28 =>
 kst p26 4 v6 v28 fun p29 =>
 kra p29 4 v6 fun v30 =>
 k [v30, q0, q13, q25] p29)
 (kla p26 4 v2 fun v31 =>
 cn f79 p26 [v31] fun v32 p33 =>
 kst p33 4 v6 v32 fun p34 =>
 kfa 0 v6 fun v35 =>
 kla (prt [] p34) 2 v35 fun v36 =>
 kla (prt [] p34) 3 v4 fun v37 =>
 cn f80 (prt [] p34) [v36, v25, v37] fun v38 p39 =>
 unpK p34 p39 fun p40 =>
 kfa 2 v6 fun v41 =>
 kla (prt [(p34.next, p39.next)] p40) 2 v41 fun v42 =>
 kla (prt [(p34.next, p39.next)] p40) 3 v4 fun v43 =>
 cn f81 p40 [v42, v43, v25] fun v44 p45 =>
 kfa 0 v6 fun v46 =>
 kst p45 2 v46 v38 fun p47 =>
 kfa 2 v6 fun v48 =>
 kst p47 2 v48 v44 fun p49 =>
 kla p49 4 v6 fun v50 =>
 kst p49 4 v6 v50 fun p51 =>
 kra p51 4 v6 fun v52 =>
 k [v52, v25, q29, q0] p51)))
theorem o38 : FO EN 38 f38 := fe (np := 2) (T := t38) (tcons (cc_ok o77) (tcons (cn_ok o78) (tcons (cc_ok o18) (tcons (cn_ok o79) (tcons (cn_ok o80) (tcons (cn_ok o81) tnil)))))) [none, none, none] (by kernel_rfl) fun p s k => by kernel_rfl
/- 34 countersign/goals.Of -/
def t34 : List Ce := [⟨38, cn f38⟩]
def f34 : FT := fun p s k => hd s fun a0 s0 =>
 nl s0 <|
 kal p q43 fun v1 p2 =>
 kln a0 fun v3 =>
 kgt v3 q109 fun v4 =>
 kif v4
 (kbd q43 [] fun v5 =>
 kst p2 4 v1 v5 fun p6 =>
 kra p6 4 v1 fun v7 =>
 k [v7, q25] p6)
 (kal p2 q43 fun v8 p9 =>
 kln a0 fun v10 =>
 jn 0 (fun j11 =>
 lp 1 fuel (fun r12 v13 p14 =>
 klt v13 v10 fun v15 =>
 kif v15
 (kia 3 a0 v13 fun v16 =>
 kla p14 3 v16 fun v17 =>
 kal p14 q37 fun v18 p19 =>
 kst p19 3 v18 v17 fun p20 =>
 kla p20 4 v8 fun v21 =>
 kla p20 3 v18 fun v22 =>
 cn f38 p20 [v21, v22] fun v23 p24 =>
 kex v23 0 fun v25 =>
 kex v23 1 fun v26 =>
 kex v23 2 fun v27 =>
 kex v23 3 fun v28 =>
 kal p24 q43 fun v29 p30 =>
 kst p30 4 v29 v25 fun p31 =>
 keq true .i v28 q0 fun v32 =>
 kif v32
 (kbd q43 [] fun v33 =>
 kst p31 4 v1 v33 fun p34 =>
 kra p34 4 v1 fun v35 =>
 k [v35, v28] p34)
 (knt v27 fun v36 =>
 kif v36
 (kbd q43 [] fun v37 =>
 kst p31 4 v1 v37 fun p38 =>
 kra p38 4 v1 fun v39 =>
 k [v39, q82] p38)
 (kla p31 4 v29 fun v40 =>
 kst p31 4 v8 v40 fun p41 =>
 kad v13 q14 fun v42 =>
 r12 v42 p41)))
 (j11 p14)) q0 p9) fun p43 =>
 kla p43 4 v8 fun v44 =>
 kst p43 4 v1 v44 fun p45 =>
 kra p45 4 v1 fun v46 =>
 k [v46, q0] p45)
theorem o34 : FO EN 34 f34 := fe (np := 1) (T := t34) (tcons (cn_ok o38) tnil) [none, some [], some [17], none, none, none, none] (by kernel_rfl) fun p s k => by kernel_rfl
/- 15 countersign/explores.New -/
def t15 : List Ce := [⟨33, cc f33⟩, ⟨34, cn f34⟩]
def f15 : FT := fun p s k => hd s fun a0 s0 =>
 hd s0 fun a1 s1 =>
 nl s1 <|
 kbx p 5 a0 fun v2 p3 =>
 kbx p3 3 a1 fun v4 p5 =>
 kal p5 q110 fun v6 p7 =>
 kla p7 5 v2 fun v8 =>
 kla p7 3 v4 fun v9 =>
 cc f33 p7 [v8, v9] fun v10 p11 =>
 keq true .i v10 q0 fun v12 =>
 kif v12
 (kbd q110 [] fun v13 =>
 kst p11 7 v6 v13 fun p14 =>
 kra p14 7 v6 fun v15 =>
 k [v15, v10] p14)
 (kla p11 3 v4 fun v16 =>
 kbs p11 1 q37 [(0, 3, v16)] fun v17 p18 =>
 cn f34 p18 [v17] fun v19 p20 =>
 kex v19 0 fun v21 =>
 kex v19 1 fun v22 =>
 kal p20 q43 fun v23 p24 =>
 kst p24 4 v23 v21 fun p25 =>
 kla p25 4 v23 fun v26 =>
 kbd q110 [(0, 4, v26)] fun v27 =>
 kst p25 7 v6 v27 fun p28 =>
 kra p28 7 v6 fun v29 =>
 k [v29, v22] p28)
theorem o15 : FO EN 15 f15 := fe (np := 2) (T := t15) (tcons (cc_ok o33) (tcons (cn_ok o34) tnil)) [none] (by kernel_rfl) fun p s k => by kernel_rfl
/- 74 (countersign/refs.World).Tables -/
def t74 : List Ce := []
def f74 : FT := fun p s k => hd s fun a0 s0 =>
 nl s0 <|
 kbx p 5 a0 fun v1 p2 =>
 kfa 0 v1 fun v3 =>
 kld p2 v3 fun v4 =>
 k [v4] p2
theorem o74 : FO EN 74 f74 := fe (np := 1) (T := t74) tnil [] (by kernel_rfl) fun p s k => by kernel_rfl
/- 72 (*countersign/trees.node[int, countersign/api.Goal]).pairs -/
def t72 : List Ce := []
def f72 : FT := fun p s k => hd s fun a0 s0 =>
 hd s0 fun a1 s1 =>
 hd s1 fun a2 s2 =>
 hd s2 fun a3 s3 =>
 nl s3 <|
 kbx p 1 a0 fun v4 p5 =>
 kbx p5 1 a1 fun v6 p7 =>
 kbx p7 1 a2 fun v8 p9 =>
 kbx p9 1 a3 fun v10 p11 =>
 k [(.func (.func 117) [] [v4, v6, v8, v10])] p11
theorem o72 : FO EN 72 f72 := fe (np := 4) (T := t72) tnil [] (by kernel_rfl) fun p s k => by kernel_rfl
/- 1071002 round -/
def tr71002 : List Ce := []
def fr71002 : FT := fun p s k => hd s fun pj s => ptrK pj (fun j _ => hd s fun tv fr => tupK tv fun vals => ifB (Nat.beq (lenF fr) 13) (ifB (Nat.ble p.floor j) (isR0 p j (
 hdK (drK 2 fr) fun x0 =>
 hd vals fun a1 s0 =>
 nl s0 <|
 kal p q106 fun v2 p3 =>
 kst p3 4 v2 a1 fun p4 =>
 isR0 p4 j (putK p4 j (some (.rnd (nat_lit 1))) fun p5 =>
 kld p5 x0 fun v6 =>
 kla p5 4 v2 fun v7 =>
 kbs p5 1 q106 [(0, 4, v7)] fun v8 p9 =>
 kap p9 4 56 v6 v8 fun v10 p11 =>
 kst p11 1 x0 v10 fun p12 =>
 rndK p12 j fun _ => putK p12 j (some (.rnd (nat_lit 0))) fun p13 => k [.bool true] p13))))) n2
theorem or71002 : FO EN 1071002 fr71002 := re (r := 71002) (N := 13) (L := [2]) (T := tr71002) tnil [] [none] (by kernel_rfl) fun p s k => by kernel_rfl
/- 1117004+1117008 rounds -/
def tr117008 (self : Nat → FT) : List Ce := [⟨1071002, ci fr71002⟩, ⟨1117004, ci (self (nat_lit 0))⟩, ⟨1117008, ci (self (nat_lit 1))⟩]
def gr117008 : (Nat → FT) → FT := fun self => fun p s k => hd s fun pj s => ptrK pj (fun j _ => hd s fun tv fr => tupK tv fun vals => ifB (Nat.beq (lenF fr) 77) (ifB (Nat.ble p.floor j) (isR0 p j (
 hdK (drK 5 fr) fun x0 =>
 hd vals fun a1 s0 =>
 nl s0 <|
 kal p q106 fun v2 p3 =>
 kst p3 4 v2 a1 fun p4 =>
 isR0 p4 j (putK p4 j (some (.rnd (nat_lit 1))) fun p5 =>
 kld p5 x0 fun v6 =>
 kla p5 4 v2 fun v7 =>
 kcv (tr117008 self) p5 v6 [v7] fun v8 p9 =>
 knt v8 fun v10 =>
 kif v10
 (rndK p9 j fun _ => putK p9 j (some (.rnd (nat_lit 2))) fun p11 => k [.bool false] p11)
 (rndK p9 j fun _ => putK p9 j (some (.rnd (nat_lit 0))) fun p12 => k [.bool true] p12)))))) n2
def tr117004 (self : Nat → FT) : List Ce := [⟨1071002, ci fr71002⟩, ⟨1117004, ci (self (nat_lit 0))⟩, ⟨1117008, ci (self (nat_lit 1))⟩]
def gr117004 : (Nat → FT) → FT := fun self => fun p s k => hd s fun pj s => ptrK pj (fun j _ => hd s fun tv fr => tupK tv fun vals => ifB (Nat.beq (lenF fr) 77) (ifB (Nat.ble p.floor j) (isR0 p j (
 hdK (drK 5 fr) fun x0 =>
 hd vals fun a1 s0 =>
 nl s0 <|
 kal p q106 fun v2 p3 =>
 kst p3 4 v2 a1 fun p4 =>
 isR0 p4 j (putK p4 j (some (.rnd (nat_lit 1))) fun p5 =>
 kld p5 x0 fun v6 =>
 kla p5 4 v2 fun v7 =>
 kcv (tr117004 self) p5 v6 [v7] fun v8 p9 =>
 knt v8 fun v10 =>
 kif v10
 (rndK p9 j fun _ => putK p9 j (some (.rnd (nat_lit 2))) fun p11 => k [.bool false] p11)
 (rndK p9 j fun _ => putK p9 j (some (.rnd (nat_lit 0))) fun p12 => k [.bool true] p12)))))) n2
def fr117004 : FT := rcM depth (bth gr117004 gr117008) (nat_lit 0)
def fr117008 : FT := rcM depth (bth gr117004 gr117008) (nat_lit 1)
theorem wr117008 (self : Nat → FT) (h0 : FO EN 1117004 (self (nat_lit 0))) (h1 : FO EN 1117008 (self (nat_lit 1))) : FO EN 1117008 (gr117008 self) := re (r := 117008) (N := 77) (L := [5]) (T := tr117008 self) (tcons (ci_ok or71002) (tcons (ci_ok h0) (tcons (ci_ok h1) tnil))) [] [none, none] (by kernel_rfl) fun p s k => by kernel_rfl
theorem wr117004 (self : Nat → FT) (h0 : FO EN 1117004 (self (nat_lit 0))) (h1 : FO EN 1117008 (self (nat_lit 1))) : FO EN 1117004 (gr117004 self) := re (r := 117004) (N := 77) (L := [5]) (T := tr117004 self) (tcons (ci_ok or71002) (tcons (ci_ok h0) (tcons (ci_ok h1) tnil))) [] [none, none] (by kernel_rfl) fun p s k => by kernel_rfl
theorem or117004 : FO EN 1117004 fr117004 := (FO.rm wr117004 wr117008 depth).1
theorem or117008 : FO EN 1117008 fr117008 := (FO.rm wr117004 wr117008 depth).2
/- 117 (*countersign/trees.node[int, countersign/api.Goal]).pairs$1 -/
def t117 (self : FT) : List Ce := [⟨82, cc f82⟩, ⟨72, cn f72⟩, ⟨1071002, ci fr71002⟩, ⟨1117004, ci fr117004⟩, ⟨1117008, ci fr117008⟩, ⟨117, ci self⟩]
def g117 : FT → FT := fun self => fun p s k => hd s fun a0 s0 =>
 hd s0 fun a1 s1 =>
 hd s1 fun a2 s2 =>
 hd s2 fun a3 s3 =>
 hd s3 fun a4 s4 =>
 nl s4 <|
 kbx p 1 a0 fun v5 p6 =>
 kld p6 a1 fun v7 =>
 ken false .p v7 .nilp fun v8 =>
 jn 8 (fun j9 => gdK v8 false (kld (prt [] p6) a2 fun v10 =>
 kld (prt [] p6) a1 fun v11 =>
 knc v11 fun v12 =>
 kfa 6 v12 fun v13 =>
 kld (prt [] p6) v13 fun v14 =>
 kad v10 v14 fun v15 =>
 kld (prt [] p6) a3 fun v16 =>
 kle v15 v16 fun v17 =>
 j9 v10 v11 v12 v13 v14 v15 v16 v17 p6) (j9 .undef .undef .undef .undef .undef .undef .undef .undef p6)) fun v18 v19 v20 v21 v22 v23 v24 v25 _ =>
 kpk v8 q29 v25 fun v27 =>
 jn 3 (fun j28 => gdK v27 false (kld (prt [] p6) a2 fun v29 =>
 kld (prt [] p6) a4 fun v30 =>
 kge v29 v30 fun v31 =>
 j28 v29 v30 v31 p6) (j28 .undef .undef .undef p6)) fun v32 v33 v34 _ =>
 kpk v27 q29 v34 fun v36 =>
 kif v36
 (k [] p6)
 (kld (prt [] p6) a2 fun v37 =>
 kld (prt [] p6) a1 fun v38 =>
 knc v38 fun v39 =>
 kfa 4 v39 fun v40 =>
 kld (prt [] p6) v40 fun v41 =>
 cc f82 (prt [] p6) [v41] fun v42 p43 =>
 unpK p6 p43 fun p44 =>
 kad v37 v42 fun v45 =>
 kld (prt [] p44) a1 fun v46 =>
 knc v46 fun v47 =>
 kfa 4 v47 fun v48 =>
 kld (prt [] p44) v48 fun v49 =>
 kld (prt [] p44) a2 fun v50 =>
 kld (prt [] p44) a3 fun v51 =>
 kld (prt [] p44) a4 fun v52 =>
 cn f72 p44 [v49, v50, v51, v52] fun v53 p54 =>
 krg (t117 self) p54 117004 v53 (V.mk 77 [(5, v5)]) (fun p55 =>
 kld p55 a3 fun v57 =>
 kge v45 v57 fun v58 =>
 jn 3 (fun j59 => gdK v58 true (kld p55 a4 fun v60 =>
 klt v45 v60 fun v61 =>
 j59 v45 v60 v61 p55) (j59 .undef .undef .undef p55)) fun v62 v63 v64 _ =>
 kpk v58 v64 q13 fun v66 =>
 jn 7 (fun j67 => gdK v66 true (kld (prt [] p55) v5 fun v68 =>
 kld (prt [] p55) a1 fun v69 =>
 knc v69 fun v70 =>
 kfa 0 v70 fun v71 =>
 kla (prt [] p55) 4 v71 fun v72 =>
 kcv (t117 self) p55 v68 [v72] fun v73 p74 =>
 knt v73 fun v75 =>
 j67 v68 v69 v70 v71 v72 v73 v75 p74) (j67 .undef .undef .undef .undef .undef .undef .undef p55)) fun v76 v77 v78 v79 v80 v81 v82 p83 =>
 kpk v66 v82 q13 fun v84 =>
 kif v84
 (k [] p83)
 (kld (prt [] p83) a1 fun v85 =>
 knc v85 fun v86 =>
 kfa 5 v86 fun v87 =>
 kld (prt [] p83) v87 fun v88 =>
 kad v45 q14 fun v89 =>
 kld (prt [] p83) a3 fun v90 =>
 kld (prt [] p83) a4 fun v91 =>
 cn f72 p83 [v88, v89, v90, v91] fun v92 p93 =>
 krg (t117 self) p93 117008 v92 (V.mk 77 [(5, v5)]) (fun p94 =>
 k [] p94) (fun p95 =>
 k [] p95) [])) (fun p56 =>
 k [] p56) [])
def f117 : FT := rcF depth g117
theorem o117 : FO EN 117 f117 := FO.rc (fun self h => fe (np := 5) (T := t117 self) (tcons (cc_ok o82) (tcons (cn_ok o72) (tcons (ci_ok or71002) (tcons (ci_ok or117004) (tcons (ci_ok or117008) (tcons (ci_ok h) tnil)))))) [none, none, some [5], some [], none, none, some [5], some []] (by kernel_rfl) fun p s k => by kernel_rfl) depth
/- 71 slices.AppendSeq[[]countersign/trees.Pair[int, countersign/api.Goal],countersign/trees.Pair[int, countersign/api.Goal]] -/
def t71 : List Ce := [⟨117, ci f117⟩]
def f71 : FT := fun p s k => hd s fun a0 s0 =>
 hd s0 fun a1 s1 =>
 nl s1 <|
 kbx p 1 a0 fun v2 p3 =>
 krg t71 p3 71002 a1 (V.mk 13 [(2, v2)]) (fun p4 =>
 kld p4 v2 fun v6 =>
 k [v6] p4) (fun p5 =>
 k [.nils] p5) []
theorem o71 : FO EN 71 f71 := fe (np := 2) (T := t71) (tcons (ci_ok o117) tnil) [none, some [2], some []] (by kernel_rfl) fun p s k => by kernel_rfl
/- 70 slices.Clip[[]countersign/trees.Pair[int, countersign/api.Goal],countersign/trees.Pair[int, countersign/api.Goal]] -/
def t70 : List Ce := []
def f70 : FT := fun p s k => hd s fun a0 s0 =>
 nl s0 <|
 kln a0 fun v1 =>
 kln a0 fun v2 =>
 ksl 4 a0 none (some v1) (some v2) fun v3 =>
 k [v3] p
theorem o70 : FO EN 70 f70 := fe (np := 1) (T := t70) tnil [] (by kernel_rfl) fun p s k => by kernel_rfl
/- 32 (countersign/trees.Map[int, countersign/api.Goal]).Range -/
def t32 : List Ce := [⟨40, cn f40⟩, ⟨72, cn f72⟩, ⟨71, ci f71⟩, ⟨70, ci f70⟩]
def f32 : FT := fun p s k => hd s fun a0 s0 =>
 hd s0 fun a1 s1 =>
 hd s1 fun a2 s2 =>
 nl s2 <|
 kbx p 2 a0 fun v3 p4 =>
 ksw mth p4 (.minmax true [(.c a1), (.c q0)]) fun v5 p6 =>
 kla p6 2 v3 fun v7 =>
 cn f40 p6 [v7] fun v8 p9 =>
 ksw mth p9 (.minmax false [(.c a2), (.c v8)]) fun v10 p11 =>
 kge v5 v10 fun v12 =>
 kif v12
 (k [.nils] p11)
 (ksb v10 v5 fun v13 =>
 kms p11 4 56 q106 q0 v13 fun v14 p15 =>
 kfa 1 v3 fun v16 =>
 kld (prt [(p11.next, p15.next)] p15) v16 fun v17 =>
 cn f72 (prt [(p11.next, p15.next)] p15) [v17, q0, v5, v10] fun v18 p19 =>
 unpK p15 p19 fun p20 =>
 ci f71 p20 [v14, v18] fun v21 p22 =>
 ci f70 p22 [v21] fun v23 p24 =>
 k [v23] p24)
theorem o32 : FO EN 32 f32 := fe (np := 3) (T := t32) (tcons (cn_ok o40) (tcons (cn_ok o72) (tcons (ci_ok o71) (tcons (ci_ok o70) tnil)))) [none] (by kernel_rfl) fun p s k => by kernel_rfl
/- 13 (countersign/goals.Table).From -/
def t13 : List Ce := [⟨18, cc f18⟩, ⟨32, cn f32⟩]
def f13 : FT := fun p s k => hd s fun a0 s0 =>
 hd s0 fun a1 s1 =>
 nl s1 <|
 kbx p 4 a0 fun v2 p3 =>
 kfa 0 v2 fun v4 =>
 kla (prt [] p3) 2 v4 fun v5 =>
 kla (prt [] p3) 4 v2 fun v6 =>
 cc f18 (prt [] p3) [v6] fun v7 p8 =>
 unpK p3 p8 fun p9 =>
 cn f32 p9 [v5, a1, v7] fun v10 p11 =>
 kln v10 fun v12 =>
 keq false .i v12 q0 fun v13 =>
 kif v13
 (k [.nils] p11)
 (kln v10 fun v14 =>
 kms p11 3 48 q37 v14 v14 fun v15 p16 =>
 kln v10 fun v17 =>
 jn 0 (fun j18 =>
 lp 1 fuel (fun r19 v20 p21 =>
 klt v20 v17 fun v22 =>
 kif v22
 (kia 4 v10 v20 fun v23 =>
 kfa 1 v23 fun v24 =>
 kla p21 3 v24 fun v25 =>
 kia 3 v15 v20 fun v26 =>
 kst p21 3 v26 v25 fun p27 =>
 kad v20 q14 fun v28 =>
 r19 v28 p27)
 (j18 p21)) q0 p16) fun p29 =>
 k [v15] p29)
theorem o13 : FO EN 13 f13 := fe (np := 2) (T := t13) (tcons (cc_ok o18) (tcons (cn_ok o32) tnil)) [none, some [], some [22], none, none] (by kernel_rfl) fun p s k => by kernel_rfl
/- 39 (countersign/trees.Map[int, countersign/api.Goal]).Get -/
def t39 : List Ce := [⟨123, cc f123⟩]
def f39 : FT := fun p s k => hd s fun a0 s0 =>
 hd s0 fun a1 s1 =>
 nl s1 <|
 kbx p 2 a0 fun v2 p3 =>
 kal p3 q37 fun v4 p5 =>
 kfa 1 v2 fun v6 =>
 kld p5 v6 fun v7 =>
 jn 0 (fun j8 =>
 lp 1 fuel (fun r9 v10 p11 =>
 ken true .p v10 .nilp fun v12 =>
 kif v12
 (kfa 0 v2 fun v13 =>
 kld (prt [] p11) v13 fun v14 =>
 knc v10 fun v15 =>
 kfa 0 v15 fun v16 =>
 kfa 0 v16 fun v17 =>
 kld (prt [] p11) v17 fun v18 =>
 kcv t39 p11 v14 [a1, v18] fun v19 p20 =>
 keq false .i v19 q0 fun v21 =>
 kif v21
 (knc v10 fun v22 =>
 kfa 0 v22 fun v23 =>
 kfa 1 v23 fun v24 =>
 kla p20 3 v24 fun v25 =>
 kst p20 3 v4 v25 fun p26 =>
 kra p26 3 v4 fun v27 =>
 k [v27, q29] p26)
 (klt v19 q0 fun v28 =>
 jn 1 (fun j29 => kif v28
 (knc v10 fun v30 =>
 kfa 4 v30 fun v31 =>
 kld p20 v31 fun v32 =>
 j29 v32 p20)
 (knc v10 fun v33 =>
 kfa 5 v33 fun v34 =>
 kld p20 v34 fun v35 =>
 j29 v35 p20)) fun v36 p37 =>
 r9 v36 p37))
 (j8 p11)) v7 p5) fun p38 =>
 kal p38 q37 fun v39 p40 =>
 kla p40 3 v39 fun v41 =>
 kst p40 3 v4 v41 fun p42 =>
 kra p42 3 v4 fun v43 =>
 k [v43, q13] p42
theorem o39 : FO EN 39 f39 := fe (np := 2) (T := t39) (tcons (cc_ok o123) tnil) [some [], some [6], none, none, none, some [6]] (by kernel_rfl) fun p s k => by kernel_rfl
/- 17 (countersign/goals.Table).At -/
def t17 : List Ce := [⟨39, cn f39⟩]
def f17 : FT := fun p s k => hd s fun a0 s0 =>
 hd s0 fun a1 s1 =>
 nl s1 <|
 kbx p 4 a0 fun v2 p3 =>
 kal p3 q37 fun v4 p5 =>
 kfa 0 v2 fun v6 =>
 kla p5 2 v6 fun v7 =>
 cn f39 p5 [v7, a1] fun v8 p9 =>
 kex v8 0 fun v10 =>
 kex v8 1 fun v11 =>
 kal p9 q37 fun v12 p13 =>
 kst p13 3 v12 v10 fun p14 =>
 knt v11 fun v15 =>
 kif v15
 (kbd q37 [] fun v16 =>
 kst p14 3 v4 v16 fun p17 =>
 kra p17 3 v4 fun v18 =>
 k [v18, q23] p17)
 (kla p14 3 v12 fun v19 =>
 kst p14 3 v4 v19 fun p20 =>
 kra p20 3 v4 fun v21 =>
 k [v21, q0] p20)
theorem o17 : FO EN 17 f17 := fe (np := 2) (T := t17) (tcons (cn_ok o39) tnil) [none] (by kernel_rfl) fun p s k => by kernel_rfl
/- 243 (countersign/trees.Map[countersign/api.Tuple, struct{}]).Rank -/
def t243 : List Ce := [⟨134, cc f134⟩, ⟨22, cc f22⟩]
def f243 : FT := fun p s k => hd s fun a0 s0 =>
 hd s0 fun a1 s1 =>
 nl s1 <|
 kbx p 2 a0 fun v2 p3 =>
 kbx p3 6 a1 fun v4 p5 =>
 kfa 1 v2 fun v6 =>
 kld p5 v6 fun v7 =>
 jn 1 (fun j8 =>
 lp 2 fuel (fun r9 v10 v11 p12 =>
 ken true .p v11 .nilp fun v13 =>
 kif v13
 (kfa 0 v2 fun v14 =>
 kld (prt [] p12) v14 fun v15 =>
 knc v11 fun v16 =>
 kfa 0 v16 fun v17 =>
 kfa 0 v17 fun v18 =>
 kla (prt [] p12) 6 v18 fun v19 =>
 kla (prt [] p12) 6 v4 fun v20 =>
 kcv t243 p12 v15 [v19, v20] fun v21 p22 =>
 klt v21 q0 fun v23 =>
 jn 2 (fun j24 => kif v23
 (knc v11 fun v25 =>
 kfa 6 v25 fun v26 =>
 kld p22 v26 fun v27 =>
 cc f134 p22 [v27] fun v28 p29 =>
 kad v28 q14 fun v30 =>
 kad v10 v30 fun v31 =>
 knc v11 fun v32 =>
 kfa 7 v32 fun v33 =>
 kld p29 v33 fun v34 =>
 j24 v31 v34 p29)
 (knc v11 fun v35 =>
 kfa 6 v35 fun v36 =>
 kld p22 v36 fun v37 =>
 j24 v10 v37 p22)) fun v38 v39 p40 =>
 r9 v38 v39 p40)
 (j8 v10 p12)) q0 v7 p5) fun v41 p42 =>
 k [v41] p42
theorem o243 : FO EN 243 f243 := fe (np := 2) (T := t243) (tcons (cc_ok o134) (tcons (cc_ok o22) tnil)) [some [5], some [5, 6], none, none, some [5, 6]] (by kernel_rfl) fun p s k => by kernel_rfl
/- 244 (countersign/trees.Map[countersign/api.Tuple, struct{}]).At -/
def t244 : List Ce := [⟨97, cc f97⟩, ⟨134, cc f134⟩]
def f244 : FT := fun p s k => hd s fun a0 s0 =>
 hd s0 fun a1 s1 =>
 nl s1 <|
 kbx p 2 a0 fun v2 p3 =>
 kal p3 q30 fun v4 p5 =>
 klt a1 q0 fun v6 =>
 jn 4 (fun j7 => gdK v6 false (kla p5 2 v2 fun v8 =>
 cc f97 p5 [v8] fun v9 p10 =>
 kge a1 v9 fun v11 =>
 j7 a1 v8 v9 v11 p10) (j7 .undef .undef .undef .undef p5)) fun v12 v13 v14 v15 p16 =>
 kpk v6 q29 v15 fun v17 =>
 kif v17
 (kbd q30 [] fun v18 =>
 kst p16 6 v4 v18 fun p19 =>
 kra p19 6 v4 fun v20 =>
 k [v20, q23] p19)
 (kfa 1 v2 fun v21 =>
 kld p16 v21 fun v22 =>
 jn 0 (fun j23 =>
 lp 2 fuel (fun r24 v25 v26 p27 =>
 knc v26 fun v28 =>
 kfa 6 v28 fun v29 =>
 kld p27 v29 fun v30 =>
 cc f134 p27 [v30] fun v31 p32 =>
 klt v25 v31 fun v33 =>
 jn 2 (fun j34 => kif v33
 (knc v26 fun v35 =>
 kfa 6 v35 fun v36 =>
 kld p32 v36 fun v37 =>
 j34 v25 v37 p32)
 (kgt v25 v31 fun v38 =>
 kif v38
 (kad v31 q14 fun v39 =>
 ksb v25 v39 fun v40 =>
 knc v26 fun v41 =>
 kfa 7 v41 fun v42 =>
 kld p32 v42 fun v43 =>
 j34 v40 v43 p32)
 (knc v26 fun v44 =>
 kfa 0 v44 fun v45 =>
 kla p32 6 v45 fun v46 =>
 kst p32 6 v4 v46 fun p47 =>
 kra p47 6 v4 fun v48 =>
 k [v48, q0] p47))) fun v49 v50 p51 =>
 r24 v49 v50 p51) a1 v22 p16) fun p52 =>
 kra p52 6 v4 fun v53 =>
 k [v53, .junk] p52)
theorem o244 : FO EN 244 f244 := fe (np := 2) (T := t244) (tcons (cc_ok o97) (tcons (cc_ok o134) tnil)) [none, some [], some [1, 6], none, none, some [1, 6], none] (by kernel_rfl) fun p s k => by kernel_rfl
/- 218 (countersign/sets.Set).Goal$1 -/
def t218 : List Ce := []
def f218 : FT := fun p s k => hd s fun a0 s0 =>
 hd s0 fun a1 s1 =>
 nl s1 <|
 kbx p 6 a0 fun v2 p3 =>
 kfa 0 v2 fun v4 =>
 kla p3 3 v4 fun v5 =>
 kla p3 3 a1 fun v6 =>
 kea false [(0, .s), (1, .s), (2, .s)] v5 v6 fun v7 =>
 k [v7] p3
theorem o218 : FO EN 218 f218 := fe (np := 2) (T := t218) tnil [] (by kernel_rfl) fun p s k => by kernel_rfl
/- 217 (countersign/sets.index).run -/
def t217 : List Ce := [⟨243, cn f243⟩, ⟨97, cc f97⟩, ⟨244, cn f244⟩, ⟨62, cn f62⟩, ⟨218, cn f218⟩]
def f217 : FT := fun p s k => hd s fun a0 s0 =>
 hd s0 fun a1 s1 =>
 hd s1 fun a2 s2 =>
 nl s2 <|
 kbx p 2 a0 fun v3 p4 =>
 kbx p4 6 a1 fun v5 p6 =>
 kfa 0 v3 fun v7 =>
 kla p6 2 v7 fun v8 =>
 kla p6 6 v5 fun v9 =>
 cn f243 p6 [v8, v9] fun v10 p11 =>
 jn 1 (fun j12 =>
 lp 1 fuel (fun r13 v14 p15 =>
 kfa 0 v3 fun v16 =>
 kla p15 2 v16 fun v17 =>
 cc f97 p15 [v17] fun v18 p19 =>
 klt v14 v18 fun v20 =>
 kif v20
 (kfa 0 v3 fun v21 =>
 kla p19 2 v21 fun v22 =>
 cn f244 p19 [v22, v14] fun v23 p24 =>
 kex v23 0 fun v25 =>
 kex v23 1 fun v26 =>
 kal p24 q30 fun v27 p28 =>
 kst p28 6 v27 v25 fun p29 =>
 kfa 0 v27 fun v30 =>
 kla p29 6 v30 fun v31 =>
 kcv t217 p29 a2 [v31] fun v32 p33 =>
 knt v32 fun v34 =>
 kif v34
 (j12 v14 p33)
 (kad v14 q14 fun v35 =>
 r13 v35 p33))
 (j12 v14 p19)) v10 p11) fun v36 p37 =>
 kla p37 2 v3 fun v38 =>
 cn f62 p37 [v38, v10, v36] fun v39 p40 =>
 k [v39] p40
theorem o217 : FO EN 217 f217 := fe (np := 3) (T := t217) (tcons (cn_ok o243) (tcons (cc_ok o97) (tcons (cn_ok o244) (tcons (cn_ok o62) (tcons (cn_ok o218) tnil))))) [some [8], some [8], none, none, none] (by kernel_rfl) fun p s k => by kernel_rfl
/- 197 (countersign/sets.Set).Goal -/
def t197 : List Ce := [⟨217, cn f217⟩]
def f197 : FT := fun p s k => hd s fun a0 s0 =>
 hd s0 fun a1 s1 =>
 nl s1 <|
 kbx p 4 a0 fun v2 p3 =>
 kbx p3 3 a1 fun v4 p5 =>
 kfa 0 v2 fun v6 =>
 kla p5 2 v6 fun v7 =>
 kla p5 3 v4 fun v8 =>
 kbd q30 [(0, 3, v8)] fun v9 =>
 cn f217 p5 [v7, v9, (.func (.func 218) [] [v4])] fun v10 p11 =>
 k [v10] p11
theorem o197 : FO EN 197 f197 := fe (np := 2) (T := t197) (tcons (cn_ok o217) tnil) [] (by kernel_rfl) fun p s k => by kernel_rfl
/- 219 slices.Index[[]string,string] -/
def t219 : List Ce := []
def f219 : FT := fun p s k => hd s fun a0 s0 =>
 hd s0 fun a1 s1 =>
 nl s1 <|
 kln a0 fun v2 =>
 jn 0 (fun j3 =>
 lp 1 fuel (fun r4 v5 p6 =>
 klt v5 v2 fun v7 =>
 kif v7
 (kia 1 a0 v5 fun v8 =>
 kld p6 v8 fun v9 =>
 keq false .s a1 v9 fun v10 =>
 kif v10
 (k [v5] p6)
 (kad v5 q14 fun v11 =>
 r4 v11 p6))
 (j3 p6)) q0 p) fun p12 =>
 k [q42] p12
theorem o219 : FO EN 219 f219 := fe (np := 2) (T := t219) tnil [some [], some [8], none, none, none] (by kernel_rfl) fun p s k => by kernel_rfl
/- 198 slices.Contains[[]string,string] -/
def t198 : List Ce := [⟨219, cn f219⟩]
def f198 : FT := fun p s k => hd s fun a0 s0 =>
 hd s0 fun a1 s1 =>
 nl s1 <|
 cn f219 p [a0, a1] fun v2 p3 =>
 kge v2 q0 fun v4 =>
 k [v4] p3
theorem o198 : FO EN 198 f198 := fe (np := 2) (T := t198) (tcons (cn_ok o219) tnil) [] (by kernel_rfl) fun p s k => by kernel_rfl
/- 199 slices.Clip[[]countersign/api.Object,countersign/api.Object] -/
def t199 : List Ce := []
def f199 : FT := fun p s k => hd s fun a0 s0 =>
 nl s0 <|
 kln a0 fun v1 =>
 kln a0 fun v2 =>
 ksl 2 a0 none (some v1) (some v2) fun v3 =>
 k [v3] p
theorem o199 : FO EN 199 f199 := fe (np := 1) (T := t199) tnil [] (by kernel_rfl) fun p s k => by kernel_rfl
/- 76 slices.Clip[[]countersign/api.Goal,countersign/api.Goal] -/
def t76 : List Ce := []
def f76 : FT := fun p s k => hd s fun a0 s0 =>
 nl s0 <|
 kln a0 fun v1 =>
 kln a0 fun v2 =>
 ksl 3 a0 none (some v1) (some v2) fun v3 =>
 k [v3] p
theorem o76 : FO EN 76 f76 := fe (np := 1) (T := t76) tnil [] (by kernel_rfl) fun p s k => by kernel_rfl
/- 154 (countersign/refs.World).leaf -/
def t154 : List Ce := [⟨197, cn f197⟩, ⟨198, cn f198⟩, ⟨199, ci f199⟩, ⟨76, ci f76⟩]
def f154 : FT := fun p s k => hd s fun a0 s0 =>
 hd s0 fun a1 s1 =>
 hd s1 fun a2 s2 =>
 nl s2 <|
 kbx p 5 a0 fun v3 p4 =>
 kbx p4 3 a1 fun v5 p6 =>
 kbx p6 6 a2 fun v7 p8 =>
 kal p8 q111 fun v9 p10 =>
 kfa 0 v7 fun v11 =>
 kld p10 v11 fun v12 =>
 kbd q111 [(0, 1, v12)] fun v13 =>
 kal p10 q111 fun v14 p15 =>
 kst p15 3 v14 v13 fun p16 =>
 kla p16 3 v5 fun v17 =>
 kal p16 q37 fun v18 p19 =>
 kst p19 3 v18 v17 fun p20 =>
 kfa 0 v7 fun v21 =>
 kld p20 v21 fun v22 =>
 jn 0 (fun j23 =>
 jn 0 (fun j24 =>
 keq false .i v22 q51 fun v25 =>
 kif v25
 (kfa 0 v5 fun v26 =>
 kla p20 2 v26 fun v27 =>
 kfa 1 v7 fun v28 =>
 kld p20 v28 fun v29 =>
 kbd q37 [(0, 2, v27), (2, 1, v29)] fun v30 =>
 kbs p20 1 q37 [(0, 3, v30)] fun v31 p32 =>
 kfa 2 v14 fun v33 =>
 kst p32 1 v33 v31 fun p34 =>
 kla p34 3 v14 fun v35 =>
 kst p34 3 v9 v35 fun p36 =>
 kra p36 3 v9 fun v37 =>
 k [v37] p36)
 (keq false .i v22 q53 fun v38 =>
 kif v38
 (kfa 1 v7 fun v39 =>
 kld p20 v39 fun v40 =>
 kfa 2 v18 fun v41 =>
 kst p20 1 v41 v40 fun p42 =>
 j24 p42)
 (j24 p20))) fun p43 =>
 kfa 1 v3 fun v44 =>
 kla p43 4 v44 fun v45 =>
 kla p43 3 v18 fun v46 =>
 cn f197 p43 [v45, v46] fun v47 p48 =>
 kln v47 fun v49 =>
 jn 0 (fun j50 =>
 lp 1 fuel (fun r51 v52 p53 =>
 klt v52 v49 fun v54 =>
 kif v54
 (kia 6 v47 v52 fun v55 =>
 kla p53 6 v55 fun v56 =>
 kal p53 q30 fun v57 p58 =>
 kst p58 6 v57 v56 fun p59 =>
 kfa 3 v57 fun v60 =>
 kla p59 3 v60 fun v61 =>
 kal p59 q37 fun v62 p63 =>
 kst p63 3 v62 v61 fun p64 =>
 kfa 0 v7 fun v65 =>
 kld p64 v65 fun v66 =>
 keq false .i v66 q53 fun v67 =>
 jn 3 (fun j68 => gdK v67 true (kfa 2 v62 fun v69 =>
 kld p64 v69 fun v70 =>
 keq false .s v70 q39 fun v71 =>
 j68 v69 v70 v71 p64) (j68 .undef .undef .undef p64)) fun v72 v73 v74 p75 =>
 kpk v67 v74 q13 fun v76 =>
 jn 6 (fun j77 => gdK v76 true (kfa 3 v7 fun v78 =>
 kld p75 v78 fun v79 =>
 kfa 0 v62 fun v80 =>
 kfa 0 v80 fun v81 =>
 kld p75 v81 fun v82 =>
 cn f198 p75 [v79, v82] fun v83 p84 =>
 j77 v78 v79 v80 v81 v82 v83 p84) (j77 .undef .undef .undef .undef .undef .undef p75)) fun v85 v86 v87 v88 v89 v90 p91 =>
 kpk v76 v90 q13 fun v92 =>
 jn 0 (fun j93 => kif v92
 (kfa 2 v14 fun v94 =>
 kld p91 v94 fun v95 =>
 kfa 0 v62 fun v96 =>
 kla p91 2 v96 fun v97 =>
 kfa 2 v7 fun v98 =>
 kld p91 v98 fun v99 =>
 kbd q37 [(0, 2, v97), (2, 1, v99)] fun v100 =>
 kbs p91 1 q37 [(0, 3, v100)] fun v101 p102 =>
 kap p102 3 48 v95 v101 fun v103 p104 =>
 kfa 2 v14 fun v105 =>
 kst p104 1 v105 v103 fun p106 =>
 j93 p106)
 (kfa 0 v7 fun v107 =>
 kld p91 v107 fun v108 =>
 keq false .i v108 q52 fun v109 =>
 jn 3 (fun j110 => gdK v109 true (kfa 2 v62 fun v111 =>
 kld p91 v111 fun v112 =>
 keq false .s v112 q39 fun v113 =>
 j110 v111 v112 v113 p91) (j110 .undef .undef .undef p91)) fun v114 v115 v116 p117 =>
 kpk v109 v116 q13 fun v118 =>
 jn 0 (fun j119 => kif v118
 (kfa 1 v14 fun v120 =>
 kld p117 v120 fun v121 =>
 kfa 0 v62 fun v122 =>
 kla p117 2 v122 fun v123 =>
 kbs p117 1 q38 [(0, 2, v123)] fun v124 p125 =>
 kap p125 2 32 v121 v124 fun v126 p127 =>
 kfa 1 v14 fun v128 =>
 kst p127 1 v128 v126 fun p129 =>
 j119 p129)
 (kfa 0 v7 fun v130 =>
 kld p117 v130 fun v131 =>
 keq false .i v131 q52 fun v132 =>
 jn 0 (fun j133 => kif v132
 (kfa 2 v14 fun v134 =>
 kld p117 v134 fun v135 =>
 kfa 0 v62 fun v136 =>
 kla p117 2 v136 fun v137 =>
 kfa 2 v62 fun v138 =>
 kld p117 v138 fun v139 =>
 kbd q37 [(0, 2, v137), (2, 1, v139)] fun v140 =>
 kbs p117 1 q37 [(0, 3, v140)] fun v141 p142 =>
 kap p142 3 48 v135 v141 fun v143 p144 =>
 kfa 2 v14 fun v145 =>
 kst p144 1 v145 v143 fun p146 =>
 j133 p146)
 (j133 p117)) fun p147 =>
 j119 p147)) fun p148 =>
 j93 p148)) fun p149 =>
 kad v52 q14 fun v150 =>
 r51 v150 p149)
 (j50 p53)) q0 p48) fun p151 =>
 j23 p151) fun p152 =>
 kfa 1 v14 fun v153 =>
 kld (prt [] p152) v153 fun v154 =>
 ci f199 (prt [] p152) [v154] fun v155 p156 =>
 unpK p152 p156 fun p157 =>
 kfa 2 v14 fun v158 =>
 kld (prt [(p152.next, p156.next)] p157) v158 fun v159 =>
 ci f76 p157 [v159] fun v160 p161 =>
 kfa 1 v14 fun v162 =>
 kst p161 1 v162 v155 fun p163 =>
 kfa 2 v14 fun v164 =>
 kst p163 1 v164 v160 fun p165 =>
 kla p165 3 v14 fun v166 =>
 kst p165 3 v9 v166 fun p167 =>
 kra p167 3 v9 fun v168 =>
 k [v168] p167
theorem o154 : FO EN 154 f154 := fe (np := 3) (T := t154) (tcons (cn_ok o197) (tcons (cn_ok o198) (tcons (ci_ok o199) (tcons (ci_ok o76) tnil)))) [some [], some [], none, none, none, none, some [], some [38], none, none, none, some [], some [], some []] (by kernel_rfl) fun p s k => by kernel_rfl
/- 155 slices.Clip[[]countersign/refs.Leaf,countersign/refs.Leaf] -/
def t155 : List Ce := []
def f155 : FT := fun p s k => hd s fun a0 s0 =>
 nl s0 <|
 kln a0 fun v1 =>
 kln a0 fun v2 =>
 ksl 3 a0 none (some v1) (some v2) fun v3 =>
 k [v3] p
theorem o155 : FO EN 155 f155 := fe (np := 1) (T := t155) tnil [] (by kernel_rfl) fun p s k => by kernel_rfl
/- 119 (countersign/refs.World).leaves -/
def t119 : List Ce := [⟨154, cn f154⟩, ⟨155, ci f155⟩]
def f119 : FT := fun p s k => hd s fun a0 s0 =>
 hd s0 fun a1 s1 =>
 hd s1 fun a2 s2 =>
 nl s2 <|
 kbx p 5 a0 fun v3 p4 =>
 kbx p4 3 a1 fun v5 p6 =>
 kbx p6 6 a2 fun v7 p8 =>
 kfa 5 v7 fun v9 =>
 kld p8 v9 fun v10 =>
 kln v10 fun v11 =>
 jn 1 (fun j12 =>
 lp 2 fuel (fun r13 v14 v15 p16 =>
 klt v15 v11 fun v17 =>
 kif v17
 (kia 6 v10 v15 fun v18 =>
 kla p16 6 v18 fun v19 =>
 kal p16 q98 fun v20 p21 =>
 kst p21 6 v20 v19 fun p22 =>
 kfa 5 v20 fun v23 =>
 kld p22 v23 fun v24 =>
 kge v24 q0 fun v25 =>
 jn 1 (fun j26 => kif v25
 (kla p22 5 v3 fun v27 =>
 kla p22 3 v5 fun v28 =>
 kla p22 6 v20 fun v29 =>
 cn f154 p22 [v27, v28, v29] fun v30 p31 =>
 kbs p31 1 q111 [(0, 3, v30)] fun v32 p33 =>
 kap p33 3 56 v14 v32 fun v34 p35 =>
 j26 v34 p35)
 (j26 v14 p22)) fun v36 p37 =>
 kad v15 q14 fun v38 =>
 r13 v36 v38 p37)
 (j12 v14 p16)) .nils q0 p8) fun v39 p40 =>
 ci f155 p40 [v39] fun v41 p42 =>
 k [v41] p42
theorem o119 : FO EN 119 f119 := fe (np := 3) (T := t119) (tcons (cn_ok o154) (tcons (ci_ok o155) tnil)) [some [7], some [7, 13], none, none, some [7]] (by kernel_rfl) fun p s k => by kernel_rfl
/- 75 (countersign/refs.World).Leaves -/
def t75 : List Ce := [⟨73, cn f73⟩, ⟨119, cn f119⟩]
def f75 : FT := fun p s k => hd s fun a0 s0 =>
 hd s0 fun a1 s1 =>
 nl s1 <|
 kbx p 5 a0 fun v2 p3 =>
 kbx p3 3 a1 fun v4 p5 =>
 kla p5 5 v2 fun v6 =>
 kla p5 3 v4 fun v7 =>
 cn f73 p5 [v6, v7] fun v8 p9 =>
 kex v8 0 fun v10 =>
 kex v8 1 fun v11 =>
 kal p9 q100 fun v12 p13 =>
 kst p13 6 v12 v10 fun p14 =>
 keq true .i v11 q0 fun v15 =>
 kif v15
 (k [.nils, v11] p14)
 (kla p14 5 v2 fun v16 =>
 kla p14 3 v4 fun v17 =>
 kla p14 6 v12 fun v18 =>
 cn f119 p14 [v16, v17, v18] fun v19 p20 =>
 k [v19, q0] p20)
theorem o75 : FO EN 75 f75 := fe (np := 2) (T := t75) (tcons (cn_ok o73) (tcons (cn_ok o119) tnil)) [none] (by kernel_rfl) fun p s k => by kernel_rfl
/- 36 (countersign/refs.World).Refs -/
def t36 : List Ce := [⟨75, cn f75⟩, ⟨76, ci f76⟩]
def f36 : FT := fun p s k => hd s fun a0 s0 =>
 hd s0 fun a1 s1 =>
 nl s1 <|
 kbx p 5 a0 fun v2 p3 =>
 kbx p3 3 a1 fun v4 p5 =>
 kla p5 5 v2 fun v6 =>
 kla p5 3 v4 fun v7 =>
 cn f75 p5 [v6, v7] fun v8 p9 =>
 kex v8 0 fun v10 =>
 kex v8 1 fun v11 =>
 keq true .i v11 q0 fun v12 =>
 kif v12
 (k [.nils, v11] p9)
 (kln v10 fun v13 =>
 jn 1 (fun j14 =>
 lp 2 fuel (fun r15 v16 v17 p18 =>
 klt v17 v13 fun v19 =>
 kif v19
 (kia 3 v10 v17 fun v20 =>
 kla p18 3 v20 fun v21 =>
 kal p18 q111 fun v22 p23 =>
 kst p23 3 v22 v21 fun p24 =>
 kfa 2 v22 fun v25 =>
 kld p24 v25 fun v26 =>
 kap p24 3 48 v16 v26 fun v27 p28 =>
 kad v17 q14 fun v29 =>
 r15 v27 v29 p28)
 (j14 v16 p18)) .nils q0 p9) fun v30 p31 =>
 ci f76 p31 [v30] fun v32 p33 =>
 k [v32, q0] p33)
theorem o36 : FO EN 36 f36 := fe (np := 2) (T := t36) (tcons (cn_ok o75) (tcons (ci_ok o76) tnil)) [none, some [8], some [8, 22], none, none] (by kernel_rfl) fun p s k => by kernel_rfl
/- 37 countersign/explores.references -/
def t37 : List Ce := [⟨18, cc f18⟩, ⟨17, cn f17⟩, ⟨36, cn f36⟩]
def f37 : FT := fun p s k => hd s fun a0 s0 =>
 hd s0 fun a1 s1 =>
 hd s1 fun a2 s2 =>
 nl s2 <|
 kbx p 4 a1 fun v3 p4 =>
 kla p4 4 v3 fun v5 =>
 cc f18 p4 [v5] fun v6 p7 =>
 keq false .i a2 v6 fun v8 =>
 kif v8
 (k [.nils, q0] p7)
 (kla p7 4 v3 fun v9 =>
 cn f17 p7 [v9, a2] fun v10 p11 =>
 kex v10 0 fun v12 =>
 kex v10 1 fun v13 =>
 kal p11 q37 fun v14 p15 =>
 kst p15 3 v14 v12 fun p16 =>
 keq true .i v13 q0 fun v17 =>
 kif v17
 (k [.nils, v13] p16)
 (kla p16 3 v14 fun v18 =>
 kcv t37 p16 a0 [v18] fun v19 p20 =>
 kex v19 0 fun v21 =>
 kex v19 1 fun v22 =>
 k [v21, v22] p20))
theorem o37 : FO EN 37 f37 := fe (np := 3) (T := t37) (tcons (cc_ok o18) (tcons (cn_ok o17) (tcons (cn_ok o36) tnil))) [none, none] (by kernel_rfl) fun p s k => by kernel_rfl
/- 35 countersign/explores.Check -/
def t35 : List Ce := [⟨74, cc f74⟩, ⟨18, cc f18⟩, ⟨13, cn f13⟩, ⟨33, cc f33⟩, ⟨37, cn f37⟩]
def f35 : FT := fun p s k => hd s fun a0 s0 =>
 hd s0 fun a1 s1 =>
 nl s1 <|
 kbx p 5 a0 fun v2 p3 =>
 kbx p3 7 a1 fun v4 p5 =>
 kla p5 5 v2 fun v6 =>
 cc f74 p5 [v6] fun v7 p8 =>
 ken false .p v7 .nilp fun v9 =>
 kif v9
 (k [q16] p8)
 (kfa 0 v4 fun v10 =>
 kla p8 4 v10 fun v11 =>
 cc f18 p8 [v11] fun v12 p13 =>
 keq false .i v12 q0 fun v14 =>
 jn 3 (fun j15 => gdK v14 false (kfa 4 v4 fun v16 =>
 kld p13 v16 fun v17 =>
 klt v17 q0 fun v18 =>
 j15 v16 v17 v18 p13) (j15 .undef .undef .undef p13)) fun v19 v20 v21 _ =>
 kpk v14 q29 v21 fun v23 =>
 jn 6 (fun j24 => gdK v23 false (kfa 4 v4 fun v25 =>
 kld (prt [] p13) v25 fun v26 =>
 kfa 0 v4 fun v27 =>
 kla (prt [] p13) 4 v27 fun v28 =>
 cc f18 (prt [] p13) [v28] fun v29 p30 =>
 unpK p13 p30 fun p31 =>
 kgt v26 v29 fun v32 =>
 j24 v25 v26 v27 v28 v29 v32 p31) (j24 .undef .undef .undef .undef .undef .undef p13)) fun v33 v34 v35 v36 v37 v38 p39 =>
 kpk v23 q29 v38 fun v40 =>
 jn 3 (fun j41 => gdK v40 false (kfa 6 v4 fun v42 =>
 kld p39 v42 fun v43 =>
 klt v43 q0 fun v44 =>
 j41 v42 v43 v44 p39) (j41 .undef .undef .undef p39)) fun v45 v46 v47 _ =>
 kpk v40 q29 v47 fun v49 =>
 jn 3 (fun j50 => gdK v49 false (kfa 6 v4 fun v51 =>
 kld p39 v51 fun v52 =>
 kgt v52 q112 fun v53 =>
 j50 v51 v52 v53 p39) (j50 .undef .undef .undef p39)) fun v54 v55 v56 _ =>
 kpk v49 q29 v56 fun v58 =>
 kif v58
 (k [q113] p39)
 (kfa 0 v4 fun v59 =>
 kla p39 4 v59 fun v60 =>
 cn f13 p39 [v60, q0] fun v61 p62 =>
 kln v61 fun v63 =>
 jn 0 (fun j64 =>
 lp 1 fuel (fun r65 v66 p67 =>
 klt v66 v63 fun v68 =>
 kif v68
 (kia 3 v61 v66 fun v69 =>
 kla p67 3 v69 fun v70 =>
 kal p67 q37 fun v71 p72 =>
 kst p72 3 v71 v70 fun p73 =>
 kla p73 5 v2 fun v74 =>
 kla p73 3 v71 fun v75 =>
 cc f33 p73 [v74, v75] fun v76 p77 =>
 keq true .i v76 q0 fun v78 =>
 kif v78
 (k [q113] p77)
 (kad v66 q14 fun v79 =>
 r65 v79 p77))
 (j64 p67)) q0 p62) fun p80 =>
 kla p80 5 v2 fun v81 =>
 kfa 0 v4 fun v82 =>
 kla p80 4 v82 fun v83 =>
 kfa 4 v4 fun v84 =>
 kld p80 v84 fun v85 =>
 cn f37 p80 [(.func (.func 36) [v81] []), v83, v85] fun v86 p87 =>
 kex v86 0 fun v88 =>
 kex v86 1 fun v89 =>
 keq true .i v89 q0 fun v90 =>
 jn 3 (fun j91 => gdK v90 false (kfa 5 v4 fun v92 =>
 kld p87 v92 fun v93 =>
 klt v93 q0 fun v94 =>
 j91 v92 v93 v94 p87) (j91 .undef .undef .undef p87)) fun v95 v96 v97 p98 =>
 kpk v90 q29 v97 fun v99 =>
 jn 5 (fun j100 => gdK v99 false (kfa 5 v4 fun v101 =>
 kld p98 v101 fun v102 =>
 kln v88 fun v103 =>
 kgt v102 v103 fun v104 =>
 j100 v101 v102 v88 v103 v104 p98) (j100 .undef .undef .undef .undef .undef p98)) fun v105 v106 v107 v108 v109 p110 =>
 kpk v99 q29 v109 fun v111 =>
 kif v111
 (k [q113] p110)
 (k [q0] p110)))
theorem o35 : FO EN 35 f35 := fe (np := 2) (T := t35) (tcons (cc_ok o74) (tcons (cc_ok o18) (tcons (cn_ok o13) (tcons (cc_ok o33) (tcons (cn_ok o37) tnil))))) [none, none, some [], some [43], none, none, none, none] (by kernel_rfl) fun p s k => by kernel_rfl
/- 19 countersign/explores.Done -/
def t19 : List Ce := [⟨18, cc f18⟩]
def f19 : FT := fun p s k => hd s fun a0 s0 =>
 nl s0 <|
 kbx p 7 a0 fun v1 p2 =>
 kfa 0 v1 fun v3 =>
 kla p2 4 v3 fun v4 =>
 cc f18 p2 [v4] fun v5 p6 =>
 kgt v5 q0 fun v7 =>
 jn 6 (fun j8 => gdK v7 true (kfa 4 v1 fun v9 =>
 kld (prt [] p6) v9 fun v10 =>
 kfa 0 v1 fun v11 =>
 kla (prt [] p6) 4 v11 fun v12 =>
 cc f18 (prt [] p6) [v12] fun v13 p14 =>
 unpK p6 p14 fun p15 =>
 keq false .i v10 v13 fun v16 =>
 j8 v9 v10 v11 v12 v13 v16 p15) (j8 .undef .undef .undef .undef .undef .undef p6)) fun v17 v18 v19 v20 v21 v22 p23 =>
 kpk v7 v22 q13 fun v24 =>
 k [v24] p23
theorem o19 : FO EN 19 f19 := fe (np := 1) (T := t19) (tcons (cc_ok o18) tnil) [] (by kernel_rfl) fun p s k => by kernel_rfl
/- 16 countersign/explores.Step -/
def t16 : List Ce := [⟨35, cn f35⟩, ⟨19, cn f19⟩, ⟨37, cn f37⟩, ⟨38, cn f38⟩]
def f16 : FT := fun p s k => hd s fun a0 s0 =>
 hd s0 fun a1 s1 =>
 hd s1 fun a2 s2 =>
 nl s2 <|
 kbx p 5 a0 fun v3 p4 =>
 kbx p4 7 a1 fun v5 p6 =>
 kal p6 q110 fun v7 p8 =>
 klt a2 q0 fun v9 =>
 kif v9
 (kla p8 7 v5 fun v10 =>
 kst p8 7 v7 v10 fun p11 =>
 kra p11 7 v7 fun v12 =>
 k [v12, q0, q14] p11)
 (kla p8 5 v3 fun v13 =>
 kla p8 7 v5 fun v14 =>
 cn f35 p8 [v13, v14] fun v15 p16 =>
 keq true .i v15 q0 fun v17 =>
 kif v17
 (kla p16 7 v5 fun v18 =>
 kst p16 7 v7 v18 fun p19 =>
 kra p19 7 v7 fun v20 =>
 k [v20, q0, v15] p19)
 (kla p16 7 v5 fun v21 =>
 kst p16 7 v7 v21 fun p22 =>
 kla p22 5 v3 fun v23 =>
 jn 1 (fun j24 =>
 lp 1 fuel (fun r25 v26 p27 =>
 kla p27 7 v7 fun v28 =>
 cn f19 p27 [v28] fun v29 p30 =>
 knt v29 fun v31 =>
 kif v31
 (jn 1 (fun j32 =>
 kfa 0 v7 fun v33 =>
 kla p30 4 v33 fun v34 =>
 kfa 4 v7 fun v35 =>
 kld p30 v35 fun v36 =>
 cn f37 p30 [(.func (.func 36) [v23] []), v34, v36] fun v37 p38 =>
 kex v37 0 fun v39 =>
 kex v37 1 fun v40 =>
 keq true .i v40 q0 fun v41 =>
 kif v41
 (kla p38 7 v5 fun v42 =>
 kst p38 7 v7 v42 fun p43 =>
 kra p43 7 v7 fun v44 =>
 k [v44, q0, v40] p43)
 (jn 1 (fun j45 =>
 lp 1 fuel (fun r46 v47 p48 =>
 keq false .i v47 a2 fun v49 =>
 kif v49
 (j24 v47 p48)
 (kad v47 q14 fun v50 =>
 kfa 5 v7 fun v51 =>
 kld p48 v51 fun v52 =>
 kln v39 fun v53 =>
 keq false .i v52 v53 fun v54 =>
 kif v54
 (j45 v50 p48)
 (kfa 0 v7 fun v55 =>
 kla (prt [] p48) 4 v55 fun v56 =>
 kfa 5 v7 fun v57 =>
 kld (prt [] p48) v57 fun v58 =>
 kia 3 v39 v58 fun v59 =>
 kla (prt [] p48) 3 v59 fun v60 =>
 cn f38 (prt [] p48) [v56, v60] fun v61 p62 =>
 unpK p48 p62 fun p63 =>
 kex v61 0 fun v64 =>
 kex v61 1 fun v65 =>
 kex v61 2 fun v66 =>
 kex v61 3 fun v67 =>
 kal p63 q43 fun v68 p69 =>
 kst p69 4 v68 v64 fun p70 =>
 keq true .i v67 q0 fun v71 =>
 kif v71
 (kla p70 7 v5 fun v72 =>
 kst p70 7 v7 v72 fun p73 =>
 kra p73 7 v7 fun v74 =>
 k [v74, q0, v67] p73)
 (kla p70 4 v68 fun v75 =>
 kfa 0 v7 fun v76 =>
 kst p70 4 v76 v75 fun p77 =>
 kfa 5 v7 fun v78 =>
 kld p77 v78 fun v79 =>
 kad v79 q14 fun v80 =>
 kfa 5 v7 fun v81 =>
 kst p77 1 v81 v80 fun p82 =>
 r46 v50 p82)))) v26 p38) fun v83 p84 =>
 kfa 4 v7 fun v85 =>
 kld p84 v85 fun v86 =>
 kad v86 q14 fun v87 =>
 kfa 4 v7 fun v88 =>
 kst p84 1 v88 v87 fun p89 =>
 kfa 5 v7 fun v90 =>
 kst p89 1 v90 q0 fun p91 =>
 j32 v83 p91)) fun v92 p93 =>
 r25 v92 p93)
 (j24 v26 p30)) q0 p22) fun v94 p95 =>
 kfa 6 v7 fun v96 =>
 kld p95 v96 fun v97 =>
 kad v97 v94 fun v98 =>
 kfa 6 v7 fun v99 =>
 kst p95 1 v99 v98 fun p100 =>
 kla p100 7 v7 fun v101 =>
 kst p100 7 v7 v101 fun p102 =>
 kra p102 7 v7 fun v103 =>
 k [v103, v94, q0] p102))
theorem o16 : FO EN 16 f16 := fe (np := 3) (T := t16) (tcons (cn_ok o35) (tcons (cn_ok o19) (tcons (cn_ok o37) (tcons (cn_ok o38) tnil)))) [none, none, some [7], some [7], none, some [7], none, some [7], some [7], none, none, none, none] (by kernel_rfl) fun p s k => by kernel_rfl
end
end Go.V
end

section
set_option maxRecDepth 100000
set_option linter.unusedVariables false
namespace Go.V
noncomputable section
/- 12 countersign/explores.all -/
def t12 : List Ce := [⟨15, cn f15⟩, ⟨16, cn f16⟩]
def f12 : FT := fun p s k => hd s fun a0 s0 =>
 hd s0 fun a1 s1 =>
 nl s1 <|
 kbx p 5 a0 fun v2 p3 =>
 kbx p3 3 a1 fun v4 p5 =>
 kal p5 q110 fun v6 p7 =>
 kla p7 5 v2 fun v8 =>
 kla p7 3 v4 fun v9 =>
 cn f15 p7 [v8, v9] fun v10 p11 =>
 kex v10 0 fun v12 =>
 kex v10 1 fun v13 =>
 kal p11 q110 fun v14 p15 =>
 kst p15 7 v14 v12 fun p16 =>
 keq true .i v13 q0 fun v17 =>
 kif v17
 (kbd q110 [] fun v18 =>
 kst p16 7 v6 v18 fun p19 =>
 kra p19 7 v6 fun v20 =>
 k [v20, v13] p19)
 (kla p16 5 v2 fun v21 =>
 kla p16 7 v14 fun v22 =>
 cn f16 p16 [v21, v22, q114] fun v23 p24 =>
 kex v23 0 fun v25 =>
 kex v23 1 fun v26 =>
 kex v23 2 fun v27 =>
 kst p24 7 v14 v25 fun p28 =>
 kla p28 7 v14 fun v29 =>
 kst p28 7 v6 v29 fun p30 =>
 kra p30 7 v6 fun v31 =>
 k [v31, v27] p30)
theorem o12 : FO EN 12 f12 := fe (np := 2) (T := t12) (tcons (cn_ok o15) (tcons (cn_ok o16) tnil)) [none] (by kernel_rfl) fun p s k => by kernel_rfl
/- 5 countersign/explores.Cost -/
def t5 : List Ce := [⟨12, cn f12⟩]
def f5 : FT := fun p s k => hd s fun a0 s0 =>
 hd s0 fun a1 s1 =>
 nl s1 <|
 kbx p 5 a0 fun v2 p3 =>
 kbx p3 3 a1 fun v4 p5 =>
 kla p5 5 v2 fun v6 =>
 kla p5 3 v4 fun v7 =>
 cn f12 p5 [v6, v7] fun v8 p9 =>
 kex v8 0 fun v10 =>
 kex v8 1 fun v11 =>
 kal p9 q110 fun v12 p13 =>
 kst p13 7 v12 v10 fun p14 =>
 keq true .i v11 q0 fun v15 =>
 kif v15
 (k [q0, v11] p14)
 (kfa 6 v12 fun v16 =>
 kld p14 v16 fun v17 =>
 k [v17, q0] p14)
theorem o5 : FO EN 5 f5 := fe (np := 2) (T := t5) (tcons (cn_ok o12) tnil) [none] (by kernel_rfl) fun p s k => by kernel_rfl
/- 6 countersign/explores.Goals -/
def t6 : List Ce := [⟨12, cn f12⟩, ⟨13, cn f13⟩]
def f6 : FT := fun p s k => hd s fun a0 s0 =>
 hd s0 fun a1 s1 =>
 nl s1 <|
 kbx p 5 a0 fun v2 p3 =>
 kbx p3 3 a1 fun v4 p5 =>
 kla p5 5 v2 fun v6 =>
 kla p5 3 v4 fun v7 =>
 cn f12 p5 [v6, v7] fun v8 p9 =>
 kex v8 0 fun v10 =>
 kex v8 1 fun v11 =>
 kal p9 q110 fun v12 p13 =>
 kst p13 7 v12 v10 fun p14 =>
 keq true .i v11 q0 fun v15 =>
 kif v15
 (k [.nils, v11] p14)
 (kfa 0 v12 fun v16 =>
 kla p14 4 v16 fun v17 =>
 cn f13 p14 [v17, q0] fun v18 p19 =>
 k [v18, q0] p19)
theorem o6 : FO EN 6 f6 := fe (np := 2) (T := t6) (tcons (cn_ok o12) (tcons (cn_ok o13) tnil)) [none] (by kernel_rfl) fun p s k => by kernel_rfl
/- 14 countersign/countersignlaw24.Plain -/
def t14 : List Ce := []
def f14 : FT := fun p s k => nl s <|
 kal p q75 fun v0 p1 =>
 kbd q38 [(0, 1, q115)] fun v2 =>
 kal p1 q38 fun v3 p4 =>
 kst p4 2 v3 v2 fun p5 =>
 kbd q97 [(0, 1, q52)] fun v6 =>
 kal p5 q97 fun v7 p8 =>
 kst p8 4 v7 v6 fun p9 =>
 kla p9 4 v7 fun v10 =>
 kbd q97 [(0, 1, q51), (1, 1, q116)] fun v11 =>
 kbd q97 [(0, 1, q53), (1, 1, q117), (2, 1, q118)] fun v12 =>
 kbs p9 3 q119 [(0, 4, v10), (4, 4, v11), (8, 4, v12)] fun v13 p14 =>
 kbd q97 [(0, 1, q71), (3, 1, v13)] fun v15 =>
 kbd q97 [(0, 1, q51), (1, 1, q120)] fun v16 =>
 kbs p14 2 q121 [(0, 4, v15), (4, 4, v16)] fun v17 p18 =>
 kbd q97 [(0, 1, q73), (3, 1, v17)] fun v19 =>
 kal p18 q97 fun v20 p21 =>
 kst p21 4 v20 v19 fun p22 =>
 kbd q38 [(0, 1, q122)] fun v23 =>
 kbs p22 1 q38 [(0, 2, v23)] fun v24 p25 =>
 kla p25 4 v7 fun v26 =>
 kbd q78 [(0, 1, q117), (1, 1, v24), (2, 4, v26)] fun v27 =>
 kla p25 2 v3 fun v28 =>
 kbs p25 1 q38 [(0, 2, v28)] fun v29 p30 =>
 kla p30 4 v7 fun v31 =>
 kbd q78 [(0, 1, q116), (1, 1, v29), (2, 4, v31)] fun v32 =>
 kla p30 2 v3 fun v33 =>
 kbd q38 [(0, 1, q123), (1, 1, q124)] fun v34 =>
 kbs p30 2 q125 [(0, 2, v33), (2, 2, v34)] fun v35 p36 =>
 kla p36 4 v20 fun v37 =>
 kbd q78 [(0, 1, q118), (1, 1, v35), (2, 4, v37)] fun v38 =>
 kla p36 2 v3 fun v39 =>
 kbs p36 1 q38 [(0, 2, v39)] fun v40 p41 =>
 kla p41 4 v7 fun v42 =>
 kbd q78 [(0, 1, q120), (1, 1, v40), (2, 4, v42)] fun v43 =>
 kbs p41 4 q126 [(0, 6, v27), (6, 6, v32), (12, 6, v38), (18, 6, v43)] fun v44 p45 =>
 kbd q77 [(0, 1, q127), (1, 1, v44)] fun v46 =>
 kla p45 2 v3 fun v47 =>
 kbs p45 1 q38 [(0, 2, v47)] fun v48 p49 =>
 kla p49 4 v7 fun v50 =>
 kbd q78 [(0, 1, q118), (1, 1, v48), (2, 4, v50)] fun v51 =>
 kbs p49 1 q78 [(0, 6, v51)] fun v52 p53 =>
 kbd q77 [(0, 1, q122), (1, 1, v52)] fun v54 =>
 kla p53 2 v3 fun v55 =>
 kbs p53 1 q38 [(0, 2, v55)] fun v56 p57 =>
 kla p57 4 v7 fun v58 =>
 kbd q78 [(0, 1, q124), (1, 1, v56), (2, 4, v58)] fun v59 =>
 kbs p57 1 q78 [(0, 6, v59)] fun v60 p61 =>
 kbd q77 [(0, 1, q123), (1, 1, v60)] fun v62 =>
 kbd q77 [(0, 1, q115)] fun v63 =>
 kbs p61 4 q128 [(0, 2, v46), (2, 2, v54), (4, 2, v62), (6, 2, v63)] fun v64 p65 =>
 kbd q75 [(0, 1, v64)] fun v66 =>
 kal p65 q75 fun v67 p68 =>
 kst p68 1 v67 v66 fun p69 =>
 kbd q38 [(0, 1, q127), (1, 1, q129)] fun v70 =>
 kal p69 q38 fun v71 p72 =>
 kst p72 2 v71 v70 fun p73 =>
 kla (prt [] p73) 1 v67 fun v74 =>
 kla (prt [] p73) 2 v71 fun v75 =>
 kbd q37 [(0, 2, v75), (2, 1, q117)] fun v76 =>
 kbd q38 [(0, 1, q122), (1, 1, q130)] fun v77 =>
 kbd q37 [(0, 2, v77)] fun v78 =>
 kbd q30 [(0, 3, v76), (3, 3, v78)] fun v79 =>
 kla (prt [] p73) 2 v71 fun v80 =>
 kbd q37 [(0, 2, v80), (2, 1, q116)] fun v81 =>
 kbd q38 [(0, 1, q115), (1, 1, q131)] fun v82 =>
 kbd q37 [(0, 2, v82)] fun v83 =>
 kbd q30 [(0, 3, v81), (3, 3, v83)] fun v84 =>
 kla (prt [] p73) 2 v71 fun v85 =>
 kbd q37 [(0, 2, v85), (2, 1, q118)] fun v86 =>
 kbd q38 [(0, 1, q123), (1, 1, q132)] fun v87 =>
 kbd q37 [(0, 2, v87), (2, 1, q124)] fun v88 =>
 kbd q30 [(0, 3, v86), (3, 3, v88)] fun v89 =>
 kla (prt [] p73) 2 v71 fun v90 =>
 kbd q37 [(0, 2, v90), (2, 1, q118)] fun v91 =>
 kbd q38 [(0, 1, q115), (1, 1, q133)] fun v92 =>
 kbd q37 [(0, 2, v92)] fun v93 =>
 kbd q30 [(0, 3, v91), (3, 3, v93)] fun v94 =>
 kbs p73 4 q134 [(0, 6, v79), (6, 6, v84), (12, 6, v89), (18, 6, v94)] fun v95 p96 =>
 kps p96 [(p73.next, p96.next)] [v71, v71, v71, v71] 1 v0 v74 fun b97 p98 =>
 kra p98 1 v0 fun v99 =>
 k [v99, v95] p98
theorem o14 : FO EN 14 f14 := fe (np := 0) (T := t14) tnil [] (by kernel_rfl) fun p s k => by kernel_rfl
/- 7 countersign/countersignlaw25.lives -/
def t7 : List Ce := [⟨14, cn f14⟩, ⟨4, ci f4⟩, ⟨15, cn f15⟩, ⟨16, cn f16⟩, ⟨5, cn f5⟩, ⟨17, cn f17⟩, ⟨18, cc f18⟩, ⟨19, cn f19⟩]
def f7 : FT := fun p s k => nl s <|
 cn f14 p [] fun v0 p1 =>
 kex v0 0 fun v2 =>
 kex v0 1 fun v3 =>
 ci f4 p1 [v2, v3] fun v4 p5 =>
 kex v4 0 fun v6 =>
 kex v4 1 fun v7 =>
 kex v4 2 fun v8 =>
 kal p5 q102 fun v9 p10 =>
 kal p10 q101 fun v11 p12 =>
 kst p12 5 v9 v6 fun p13 =>
 kst p13 5 v11 v7 fun p14 =>
 kbd q38 [(0, 1, q127), (1, 1, q129)] fun v15 =>
 kal p14 q38 fun v16 p17 =>
 kst p17 2 v16 v15 fun p18 =>
 kla (prt [] p18) 2 v16 fun v19 =>
 kbd q37 [(0, 2, v19), (2, 1, q118)] fun v20 =>
 kla (prt [] p18) 2 v16 fun v21 =>
 kbd q37 [(0, 2, v21), (2, 1, q116)] fun v22 =>
 kal p18 q37 fun v23 p24 =>
 kal p24 q37 fun v25 p26 =>
 kps p26 [] [v16] 3 v23 v20 fun b27 p28 =>
 kst p28 3 v25 v22 fun p29 =>
 kla p29 5 v11 fun v30 =>
 kla p29 3 v23 fun v31 =>
 cn f15 p29 [v30, v31] fun v32 p33 =>
 kex v32 0 fun v34 =>
 kex v32 1 fun v35 =>
 kal p33 q110 fun v36 p37 =>
 kst p37 7 v36 v34 fun p38 =>
 kla p38 5 v11 fun v39 =>
 kla p38 7 v36 fun v40 =>
 cn f16 p38 [v39, v40, q16] fun v41 p42 =>
 kex v41 0 fun v43 =>
 kex v41 1 fun v44 =>
 kex v41 2 fun v45 =>
 kal p42 q110 fun v46 p47 =>
 kst p47 7 v46 v43 fun p48 =>
 kla p48 5 v11 fun v49 =>
 kla p48 7 v46 fun v50 =>
 cn f16 p48 [v49, v50, q25] fun v51 p52 =>
 kex v51 0 fun v53 =>
 kex v51 1 fun v54 =>
 kex v51 2 fun v55 =>
 kal p52 q110 fun v56 p57 =>
 kst p57 7 v56 v53 fun p58 =>
 kla p58 5 v11 fun v59 =>
 kla p58 7 v56 fun v60 =>
 cn f16 p58 [v59, v60, q69] fun v61 p62 =>
 kex v61 0 fun v63 =>
 kex v61 1 fun v64 =>
 kex v61 2 fun v65 =>
 kal p62 q110 fun v66 p67 =>
 kst p67 7 v66 v63 fun p68 =>
 kla p68 5 v11 fun v69 =>
 kla p68 3 v23 fun v70 =>
 cn f5 p68 [v69, v70] fun v71 p72 =>
 kex v71 0 fun v73 =>
 kex v71 1 fun v74 =>
 kla p72 5 v11 fun v75 =>
 kla p72 3 v25 fun v76 =>
 cn f5 p72 [v75, v76] fun v77 p78 =>
 kex v77 0 fun v79 =>
 kex v77 1 fun v80 =>
 kla p78 5 v11 fun v81 =>
 kbd q110 [] fun v82 =>
 cn f16 p78 [v81, v82, q14] fun v83 p84 =>
 kex v83 0 fun v85 =>
 kex v83 1 fun v86 =>
 kex v83 2 fun v87 =>
 kal p84 q110 fun v88 p89 =>
 kst p89 7 v88 v85 fun p90 =>
 knt v8 fun v91 =>
 jn 2 (fun j92 => gdK v91 false (keq true .i v35 q0 fun v93 =>
 j92 v35 v93 p90) (j92 .undef .undef p90)) fun v94 v95 p96 =>
 kpk v91 q29 v95 fun v97 =>
 jn 2 (fun j98 => gdK v97 false (keq true .i v45 q0 fun v99 =>
 j98 v45 v99 p96) (j98 .undef .undef p96)) fun v100 v101 p102 =>
 kpk v97 q29 v101 fun v103 =>
 jn 2 (fun j104 => gdK v103 false (keq true .i v55 q0 fun v105 =>
 j104 v55 v105 p102) (j104 .undef .undef p102)) fun v106 v107 p108 =>
 kpk v103 q29 v107 fun v109 =>
 jn 2 (fun j110 => gdK v109 false (keq true .i v65 q0 fun v111 =>
 j110 v65 v111 p108) (j110 .undef .undef p108)) fun v112 v113 p114 =>
 kpk v109 q29 v113 fun v115 =>
 jn 2 (fun j116 => gdK v115 false (keq true .i v74 q0 fun v117 =>
 j116 v74 v117 p114) (j116 .undef .undef p114)) fun v118 v119 p120 =>
 kpk v115 q29 v119 fun v121 =>
 jn 2 (fun j122 => gdK v121 false (keq true .i v80 q0 fun v123 =>
 j122 v80 v123 p120) (j122 .undef .undef p120)) fun v124 v125 p126 =>
 kpk v121 q29 v125 fun v127 =>
 jn 2 (fun j128 => gdK v127 false (keq true .i v87 q113 fun v129 =>
 j128 v87 v129 p126) (j128 .undef .undef p126)) fun v130 v131 p132 =>
 kpk v127 q29 v131 fun v133 =>
 jn 2 (fun j134 => gdK v133 false (keq true .i v73 q113 fun v135 =>
 j134 v73 v135 p132) (j134 .undef .undef p132)) fun v136 v137 p138 =>
 kpk v133 q29 v137 fun v139 =>
 jn 2 (fun j140 => gdK v139 false (keq true .i v79 q14 fun v141 =>
 j140 v79 v141 p138) (j140 .undef .undef p138)) fun v142 v143 p144 =>
 kpk v139 q29 v143 fun v145 =>
 jn 2 (fun j146 => gdK v145 false (keq true .i v44 q16 fun v147 =>
 j146 v44 v147 p144) (j146 .undef .undef p144)) fun v148 v149 p150 =>
 kpk v145 q29 v149 fun v151 =>
 jn 2 (fun j152 => gdK v151 false (keq true .i v54 q25 fun v153 =>
 j152 v54 v153 p150) (j152 .undef .undef p150)) fun v154 v155 p156 =>
 kpk v151 q29 v155 fun v157 =>
 jn 2 (fun j158 => gdK v157 false (keq true .i v64 q23 fun v159 =>
 j158 v64 v159 p156) (j158 .undef .undef p156)) fun v160 v161 p162 =>
 kpk v157 q29 v161 fun v163 =>
 kif v163
 (k [q13] p162)
 (kfa 0 v46 fun v164 =>
 kla p162 4 v164 fun v165 =>
 cn f17 p162 [v165, q16] fun v166 p167 =>
 kex v166 0 fun v168 =>
 kex v166 1 fun v169 =>
 kal p167 q37 fun v170 p171 =>
 kst p171 3 v170 v168 fun p172 =>
 keq true .i v169 q0 fun v173 =>
 jn 3 (fun j174 => gdK v173 false (kla p172 3 v170 fun v175 =>
 kla p172 3 v25 fun v176 =>
 kea true [(0, .s), (1, .s), (2, .s)] v175 v176 fun v177 =>
 j174 v175 v176 v177 p172) (j174 .undef .undef .undef p172)) fun v178 v179 v180 p181 =>
 kpk v173 q29 v180 fun v182 =>
 jn 4 (fun j183 => gdK v182 false (kfa 0 v46 fun v184 =>
 kla p181 4 v184 fun v185 =>
 cc f18 p181 [v185] fun v186 p187 =>
 keq true .i v186 q25 fun v188 =>
 j183 v184 v185 v186 v188 p187) (j183 .undef .undef .undef .undef p181)) fun v189 v190 v191 v192 p193 =>
 kpk v182 q29 v192 fun v194 =>
 jn 3 (fun j195 => gdK v194 false (kfa 4 v46 fun v196 =>
 kld p193 v196 fun v197 =>
 keq true .i v197 q0 fun v198 =>
 j195 v196 v197 v198 p193) (j195 .undef .undef .undef p193)) fun v199 v200 v201 p202 =>
 kpk v194 q29 v201 fun v203 =>
 jn 3 (fun j204 => gdK v203 false (kfa 5 v46 fun v205 =>
 kld p202 v205 fun v206 =>
 keq true .i v206 q16 fun v207 =>
 j204 v205 v206 v207 p202) (j204 .undef .undef .undef p202)) fun v208 v209 v210 p211 =>
 kpk v203 q29 v210 fun v212 =>
 jn 4 (fun j213 => gdK v212 false (kfa 0 v56 fun v214 =>
 kla p211 4 v214 fun v215 =>
 cc f18 p211 [v215] fun v216 p217 =>
 keq true .i v216 q28 fun v218 =>
 j213 v214 v215 v216 v218 p217) (j213 .undef .undef .undef .undef p211)) fun v219 v220 v221 v222 p223 =>
 kpk v212 q29 v222 fun v224 =>
 jn 3 (fun j225 => gdK v224 false (kfa 4 v56 fun v226 =>
 kld p223 v226 fun v227 =>
 keq true .i v227 q14 fun v228 =>
 j225 v226 v227 v228 p223) (j225 .undef .undef .undef p223)) fun v229 v230 v231 p232 =>
 kpk v224 q29 v231 fun v233 =>
 jn 3 (fun j234 => gdK v233 false (kfa 5 v56 fun v235 =>
 kld p232 v235 fun v236 =>
 keq true .i v236 q0 fun v237 =>
 j234 v235 v236 v237 p232) (j234 .undef .undef .undef p232)) fun v238 v239 v240 p241 =>
 kpk v233 q29 v240 fun v242 =>
 jn 2 (fun j243 => gdK v242 false (kla p241 7 v56 fun v244 =>
 cn f19 p241 [v244] fun v245 p246 =>
 j243 v244 v245 p246) (j243 .undef .undef p241)) fun v247 v248 p249 =>
 kpk v242 q29 v248 fun v250 =>
 kif v250
 (k [q13] p249)
 (kfa 4 v66 fun v251 =>
 kld p249 v251 fun v252 =>
 keq false .i v252 q28 fun v253 =>
 jn 2 (fun j254 => gdK v253 true (kla p249 7 v66 fun v255 =>
 cn f19 p249 [v255] fun v256 p257 =>
 j254 v255 v256 p257) (j254 .undef .undef p249)) fun v258 v259 p260 =>
 kpk v253 v259 q13 fun v261 =>
 k [v261] p260))
theorem o7 : FO EN 7 f7 := fe (np := 0) (T := t7) (tcons (cn_ok o14) (tcons (ci_ok o4) (tcons (cn_ok o15) (tcons (cn_ok o16) (tcons (cn_ok o5) (tcons (cn_ok o17) (tcons (cc_ok o18) (tcons (cn_ok o19) tnil)))))))) [none, none] (by kernel_rfl) fun p s k => by kernel_rfl
/- 3 countersign/countersignlaw25.ExploresKnown -/
def t3 : List Ce := [⟨4, ci f4⟩, ⟨5, cn f5⟩, ⟨6, cn f6⟩, ⟨7, cn f7⟩]
abbrev b3_0 (R : Val → Val → Val → Heap → (List Val → Heap → AN) → AN) : FT := fun p s k => nl s <|
 kbd q38 [(0, 1, q115)] fun v0 =>
 kbd q38 [(0, 1, q123), (1, 1, q124)] fun v1 =>
 kbs p 2 q125 [(0, 2, v0), (2, 2, v1)] fun v2 p3 =>
 kbd q97 [(0, 1, q52)] fun v4 =>
 kbd q78 [(0, 1, q124), (1, 1, v2), (2, 4, v4)] fun v5 =>
 kbs p3 1 q78 [(0, 6, v5)] fun v6 p7 =>
 kbd q77 [(0, 1, q123), (1, 1, v6)] fun v8 =>
 kbd q77 [(0, 1, q115)] fun v9 =>
 kbs p7 2 q135 [(0, 2, v8), (2, 2, v9)] fun v10 p11 =>
 kbd q75 [(0, 1, v10)] fun v12 =>
 kal p11 q75 fun v13 p14 =>
 kst p14 1 v13 v12 fun p15 =>
 jn 1 (fun j16 =>
 lp 2 fuel (fun r17 v18 v19 p20 =>
 klt v19 q137 fun v21 =>
 kif v21
 (kad v19 q14 fun v22 =>
 kar .rem v22 q137 fun v23 =>
 kar .quo v19 q69 fun v24 =>
 kar .quo v19 q69 fun v25 =>
 kad v25 q14 fun v26 =>
 kss q136 (some v24) (some v26) fun v27 =>
 kar .rem v19 q69 fun v28 =>
 kar .rem v19 q69 fun v29 =>
 kad v29 q14 fun v30 =>
 kss q136 (some v28) (some v30) fun v31 =>
 kad v27 v31 fun v32 =>
 kbd q38 [(0, 1, q123), (1, 1, v32)] fun v33 =>
 kbd q37 [(0, 2, v33), (2, 1, q124)] fun v34 =>
 kar .quo v23 q69 fun v35 =>
 kar .quo v23 q69 fun v36 =>
 kad v36 q14 fun v37 =>
 kss q136 (some v35) (some v37) fun v38 =>
 kar .rem v23 q69 fun v39 =>
 kar .rem v23 q69 fun v40 =>
 kad v40 q14 fun v41 =>
 kss q136 (some v39) (some v41) fun v42 =>
 kad v38 v42 fun v43 =>
 kbd q38 [(0, 1, q123), (1, 1, v43)] fun v44 =>
 kbd q37 [(0, 2, v44), (2, 1, q124)] fun v45 =>
 kbd q30 [(0, 3, v34), (3, 3, v45)] fun v46 =>
 kbs p20 1 q30 [(0, 6, v46)] fun v47 p48 =>
 kap p48 6 96 v18 v47 fun v49 p50 =>
 kad v19 q14 fun v51 =>
 r17 v49 v51 p50)
 (j16 v18 p20)) .nils q0 p15) fun v52 p53 =>
 kla (prt [] p53) 1 v13 fun v54 =>
 ksl 6 v52 none (some q138) none fun v55 =>
 ci f4 (prt [] p53) [v54, v55] fun v56 p57 =>
 unpK p53 p57 fun p58 =>
 (R v13 v52 v56 p58 k)
abbrev b3_1 (R : Val → Val → Val → Val → Val → Heap → (List Val → Heap → AN) → AN) : Val → Val → Val → Heap → (List Val → Heap → AN) → AN := fun v13 v52 v56 p58 k =>
 kex v56 0 fun v59 =>
 kex v56 1 fun v60 =>
 kex v56 2 fun v61 =>
 kal p58 q102 fun v62 p63 =>
 kal p63 q101 fun v64 p65 =>
 kst p65 5 v62 v59 fun p66 =>
 kst p66 5 v64 v60 fun p67 =>
 kla p67 1 v13 fun v68 =>
 ci f4 p67 [v68, v52] fun v69 p70 =>
 (R v13 v52 v61 v64 v69 p70 k)
abbrev b3_2 (R : Val → Val → Val → Val → Val → Heap → (List Val → Heap → AN) → AN) : Val → Val → Val → Val → Val → Heap → (List Val → Heap → AN) → AN := fun v13 v52 v61 v64 v69 p70 k =>
 kex v69 0 fun v71 =>
 kex v69 1 fun v72 =>
 kex v69 2 fun v73 =>
 kal p70 q102 fun v74 p75 =>
 kal p75 q101 fun v76 p77 =>
 kst p77 5 v74 v71 fun p78 =>
 kst p78 5 v76 v72 fun p79 =>
 kla (prt [] p79) 1 v13 fun v80 =>
 kia 6 v52 q0 fun v81 =>
 kfa 0 v81 fun v82 =>
 kla (prt [] p79) 3 v82 fun v83 =>
 kia 6 v52 q0 fun v84 =>
 kfa 0 v84 fun v85 =>
 kfa 0 v85 fun v86 =>
 kla (prt [] p79) 2 v86 fun v87 =>
 kbd q37 [(0, 2, v87), (2, 1, q124)] fun v88 =>
 kbd q30 [(0, 3, v83), (3, 3, v88)] fun v89 =>
 kbs p79 1 q30 [(0, 6, v89)] fun v90 p91 =>
 ci f4 (prt [] p91) [v80, v90] fun v92 p93 =>
 unpK p91 p93 fun p94 =>
 kex v92 0 fun v95 =>
 kex v92 1 fun v96 =>
 kex v92 2 fun v97 =>
 kal p94 q102 fun v98 p99 =>
 kal p99 q101 fun v100 p101 =>
 kst p101 5 v98 v95 fun p102 =>
 kst p102 5 v100 v96 fun p103 =>
 knt v61 fun v104 =>
 jn 2 (fun j105 => gdK v104 false (knt v73 fun v106 =>
 j105 v73 v106 p103) (j105 .undef .undef p103)) fun v107 v108 p109 =>
 kpk v104 q29 v108 fun v110 =>
 jn 2 (fun j111 => gdK v110 false (knt v97 fun v112 =>
 j111 v97 v112 p109) (j111 .undef .undef p109)) fun v113 v114 p115 =>
 kpk v110 q29 v114 fun v116 =>
 kif v116
 (k [q13] p115)
 (kla (prt [] p115) 5 v64 fun v117 =>
 kia 6 v52 q0 fun v118 =>
 kfa 0 v118 fun v119 =>
 kla (prt [] p115) 3 v119 fun v120 =>
 cn f5 p115 [v117, v120] fun v121 p122 =>
 (R v52 v64 v76 v100 v121 p122 k))
abbrev b3_3 (R : Val → Val → Val → Val → Val → Val → Val → Heap → (List Val → Heap → AN) → AN) : Val → Val → Val → Val → Val → Heap → (List Val → Heap → AN) → AN := fun v52 v64 v76 v100 v121 p122 k =>
 kex v121 0 fun v123 =>
 kex v121 1 fun v124 =>
 kla (prt [] p122) 5 v76 fun v125 =>
 kia 6 v52 q0 fun v126 =>
 kfa 0 v126 fun v127 =>
 kla (prt [] p122) 3 v127 fun v128 =>
 cn f5 p122 [v125, v128] fun v129 p130 =>
 (R v52 v64 v76 v100 v123 v124 v129 p130 k)
abbrev b3_4 (R : Val → Val → Val → Val → Val → Val → Val → Val → Val → Heap → (List Val → Heap → AN) → AN) : Val → Val → Val → Val → Val → Val → Val → Heap → (List Val → Heap → AN) → AN := fun v52 v64 v76 v100 v123 v124 v129 p130 k =>
 kex v129 0 fun v131 =>
 kex v129 1 fun v132 =>
 kla (prt [] p130) 5 v100 fun v133 =>
 kia 6 v52 q0 fun v134 =>
 kfa 0 v134 fun v135 =>
 kla (prt [] p130) 3 v135 fun v136 =>
 cn f5 p130 [v133, v136] fun v137 p138 =>
 kex v137 0 fun v139 =>
 kex v137 1 fun v140 =>
 kla (prt [] p138) 5 v64 fun v141 =>
 kia 6 v52 q26 fun v142 =>
 kfa 0 v142 fun v143 =>
 kla (prt [] p138) 3 v143 fun v144 =>
 cn f5 p138 [v141, v144] fun v145 p146 =>
 (R v52 v76 v123 v124 v131 v132 v139 v140 v145 p146 k)
abbrev b3_5 (R : Val → Val → Val → Val → Val → Val → Val → Val → Val → Val → Heap → (List Val → Heap → AN) → AN) : Val → Val → Val → Val → Val → Val → Val → Val → Val → Heap → (List Val → Heap → AN) → AN := fun v52 v76 v123 v124 v131 v132 v139 v140 v145 p146 k =>
 kex v145 0 fun v147 =>
 kex v145 1 fun v148 =>
 kla (prt [] p146) 5 v76 fun v149 =>
 kia 6 v52 q138 fun v150 =>
 kfa 0 v150 fun v151 =>
 kla (prt [] p146) 3 v151 fun v152 =>
 cn f6 p146 [v149, v152] fun v153 p154 =>
 (R v52 v123 v124 v131 v132 v139 v140 v147 v148 v153 p154 k)
abbrev b3_6 : Val → Val → Val → Val → Val → Val → Val → Val → Val → Val → Heap → (List Val → Heap → AN) → AN := fun v52 v123 v124 v131 v132 v139 v140 v147 v148 v153 p154 k =>
 kex v153 0 fun v155 =>
 kex v153 1 fun v156 =>
 keq true .i v124 q0 fun v157 =>
 jn 2 (fun j158 => gdK v157 false (keq true .i v132 q0 fun v159 =>
 j158 v132 v159 p154) (j158 .undef .undef p154)) fun v160 v161 _ =>
 kpk v157 q29 v161 fun v163 =>
 jn 2 (fun j164 => gdK v163 false (keq true .i v140 q0 fun v165 =>
 j164 v140 v165 p154) (j164 .undef .undef p154)) fun v166 v167 _ =>
 kpk v163 q29 v167 fun v169 =>
 jn 2 (fun j170 => gdK v169 false (keq true .i v148 q0 fun v171 =>
 j170 v148 v171 p154) (j170 .undef .undef p154)) fun v172 v173 _ =>
 kpk v169 q29 v173 fun v175 =>
 jn 2 (fun j176 => gdK v175 false (keq true .i v156 q0 fun v177 =>
 j176 v156 v177 p154) (j176 .undef .undef p154)) fun v178 v179 _ =>
 kpk v175 q29 v179 fun v181 =>
 jn 2 (fun j182 => gdK v181 false (keq true .i v123 q139 fun v183 =>
 j182 v123 v183 p154) (j182 .undef .undef p154)) fun v184 v185 _ =>
 kpk v181 q29 v185 fun v187 =>
 jn 2 (fun j188 => gdK v187 false (keq true .i v131 q140 fun v189 =>
 j188 v131 v189 p154) (j188 .undef .undef p154)) fun v190 v191 _ =>
 kpk v187 q29 v191 fun v193 =>
 jn 2 (fun j194 => gdK v193 false (keq true .i v139 q16 fun v195 =>
 j194 v139 v195 p154) (j194 .undef .undef p154)) fun v196 v197 _ =>
 kpk v193 q29 v197 fun v199 =>
 jn 2 (fun j200 => gdK v199 false (keq true .i v147 q138 fun v201 =>
 j200 v147 v201 p154) (j200 .undef .undef p154)) fun v202 v203 _ =>
 kpk v199 q29 v203 fun v205 =>
 jn 3 (fun j206 => gdK v205 false (kln v155 fun v207 =>
 keq true .i v207 q137 fun v208 =>
 j206 v155 v207 v208 p154) (j206 .undef .undef .undef p154)) fun v209 v210 v211 _ =>
 kpk v205 q29 v211 fun v213 =>
 jn 8 (fun j214 => gdK v213 false (kia 3 v155 q14 fun v215 =>
 kla (prt [] p154) 3 v215 fun v216 =>
 kia 6 v52 q0 fun v217 =>
 kfa 0 v217 fun v218 =>
 kla (prt [] p154) 3 v218 fun v219 =>
 kea true [(0, .s), (1, .s), (2, .s)] v216 v219 fun v220 =>
 j214 v155 v215 v216 v52 v217 v218 v219 v220 p154) (j214 .undef .undef .undef .undef .undef .undef .undef .undef p154)) fun v221 v222 v223 v224 v225 v226 v227 v228 _ =>
 kpk v213 q29 v228 fun v230 =>
 kif v230
 (k [q13] p154)
 (cn f7 p154 [] fun v231 p232 =>
 k [v231] p232)
abbrev z3_6 : Val → Val → Val → Val → Val → Val → Val → Val → Val → Val → Heap → (List Val → Heap → AN) → AN := b3_6
abbrev z3_5 : Val → Val → Val → Val → Val → Val → Val → Val → Val → Heap → (List Val → Heap → AN) → AN := b3_5 z3_6
abbrev z3_4 : Val → Val → Val → Val → Val → Val → Val → Heap → (List Val → Heap → AN) → AN := b3_4 z3_5
abbrev z3_3 : Val → Val → Val → Val → Val → Heap → (List Val → Heap → AN) → AN := b3_3 z3_4
abbrev z3_2 : Val → Val → Val → Val → Val → Heap → (List Val → Heap → AN) → AN := b3_2 z3_3
abbrev z3_1 : Val → Val → Val → Heap → (List Val → Heap → AN) → AN := b3_1 z3_2
def f3 : FT := b3_0 z3_1
theorem o3 : FO EN 3 f3 := fe (np := 0) (T := t3) (tcons (ci_ok o4) (tcons (cn_ok o5) (tcons (cn_ok o6) (tcons (cn_ok o7) tnil)))) [some [2], some [2, 4], none, none, none, none] (by kernel_rfl) fun p s k => by kernel_rfl
end
end Go.V
end
