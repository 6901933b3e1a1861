import Derived.Test.YtpnfhddcnnoclaaSort2
namespace Go.Proofs.Ytpnfhddcnnoclaa.Px
open Go.RowKit Go.Proofs.YtpnfhddcnnoclaaW.PrintWords Go.Proofs.YtpnfhddcnnoclaaW.PrintLast Go.Proofs.YtpnfhddcnnoclaaW.PrintMore
attribute [local go_sem] max2_int min2_int max_two min_two max_three min_three max_four min_four
set_option linter.unusedVariables false
set_option linter.unusedSimpArgs false
theorem ex_Early:layers_Early.f 64 3 0 exOps=some ([1,2,1,2,3],0):=by kernel_rfl
theorem ex_Late:layers_Late.f 64 3 0 exOps=some ([1,2,2,2,3],0):=by kernel_rfl
theorem ex_Depth:layers_Depth.f 64 3 0 exOps=some (3,0):=by kernel_rfl
theorem ex_Moments:layers_Moments.f 64 3 0 exOps=some ([[0,2],[1],[4]],0):=by kernel_rfl
theorem ex_Past2:layers_Past.f 64 3 0 exOps [2]=some ([2,4],0):=by kernel_rfl
theorem ex_Past3:layers_Past.f 64 3 0 exOps [3]=some ([],190):=by kernel_rfl
def exSort:List S57:=[⟨1,2,[0],0,-1,0⟩,⟨1,2,[2],0,-1,0⟩,⟨1,11,[0,1],0,-1,0⟩,⟨4,0,[1,2],0,-1,0⟩,⟨1,2,[2],0,-1,0⟩]
theorem ex_Sorted:layers_Sorted.f 64 3 0 exOps=some (3,0,exSort,0):=by kernel_rfl
theorem ex_ints1:phasorlaw19_ints.f 64 [1,2,1,2,3] [1,2,1,2,3]=some true:=by kernel_rfl
theorem ex_ints2:phasorlaw19_ints.f 64 [1,2,2,2,3] [1,2,2,2,3]=some true:=by kernel_rfl
theorem ex_ints3:phasorlaw19_ints.f 64 [2,4] [2,4]=some true:=by kernel_rfl
set_option maxHeartbeats 4000000 in
set_option maxRecDepth 100000 in
theorem heads_calls (w:World):Calls Try.prog 19 #[] w fun e w'=>e=.returned (.bool true)∧Below w.heap.size w w':=by
 have hu24:=Try.underlying24
 have hu57:=Try.underlying57
 have HB:=Aside0.mk (Below.refl w.heap.size w)
 go_enter Try.func19,Try.ntmps19
 go_wp2_with (first | (go_at_call 36;refine (Example_calls _).mono ?_;rintro e w1 ⟨Ax,rfl,hC,hb⟩;(try clear HX);(first | (have HB_:=Aside0.mk (below_step (show Below w.heap.size w (w2.alloc (.cells #[.int .i64 3,.int .i64 0,.slice Sa 5 Sc] 24)) from below_alloc HB.out _) hb);clear HB;have HB:=HB_;clear HB_;have BK:=Aside0.mk (blk_below (blk_new w2 (.cells #[.int .i64 3,.int .i64 0,.slice Sa 5 Sc] 24)) hb);(have HA_:=Aside0.mk (Kd.C_below (Kd.C_alloc HA.out _) hb);clear HA;have HA:=HA_;clear HA_);(have HL_:=Aside0.mk (Kd.C_below (Kd.C_alloc HL.out _) hb);clear HL;have HL:=HL_;clear HL_);(have HP_:=Aside0.mk (Kd.C_below (Kd.C_alloc HP.out _) hb);clear HP;have HP:=HP_;clear HP_);(have HSo_:=Aside0.mk (Kd.C_below (Kd.C_alloc HSo.out _) hb);clear HSo;have HSo:=HSo_;clear HSo_);clear hb) | ((try (have HX_:=Aside0.mk (Kd.C_below HX.out hb);clear HX;have HX:=HX_;clear HX_));(try (have HA_:=Aside0.mk (Kd.C_below HA.out hb);clear HA;have HA:=HA_;clear HA_));(try (have HL_:=Aside0.mk (Kd.C_below HL.out hb);clear HL;have HL:=HL_;clear HL_));(try (have HP_:=Aside0.mk (Kd.C_below HP.out hb);clear HP;have HP:=HP_;clear HP_));(try (have HSo_:=Aside0.mk (Kd.C_below HSo.out hb);clear HSo;have HSo:=HSo_;clear HSo_));(try (have BK_:=Aside0.mk (blk_below BK.out hb);clear BK;have BK:=BK_;clear BK_));have HB_:=Aside0.mk (below_step HB.out hb);clear HB;have HB:=HB_;clear HB_ hb));have HX:=Aside0.mk hC;clear hC) | (go_at_call 6;refine (layers_Early.calls 64 3 0 Ax 5 exOps [1,2,1,2,3] 0 _ HX.out (by decide) ex_Early).mono ?_;rintro e w2 ⟨v,rfl,ho,hb⟩;obtain ⟨HAa,HAc,rfl,hle,hC⟩:=Kd.R_reads ho;(try (have HX_:=Aside0.mk (Kd.C_below HX.out hb);clear HX;have HX:=HX_;clear HX_));(try (have HA_:=Aside0.mk (Kd.C_below HA.out hb);clear HA;have HA:=HA_;clear HA_));(try (have HL_:=Aside0.mk (Kd.C_below HL.out hb);clear HL;have HL:=HL_;clear HL_));(try (have HP_:=Aside0.mk (Kd.C_below HP.out hb);clear HP;have HP:=HP_;clear HP_));(try (have HSo_:=Aside0.mk (Kd.C_below HSo.out hb);clear HSo;have HSo:=HSo_;clear HSo_));(try (have BK_:=Aside0.mk (blk_below BK.out hb);clear BK;have BK:=BK_;clear BK_));have HB_:=Aside0.mk (below_step HB.out hb);clear HB;have HB:=HB_;clear HB_ hb;have HA:=Aside0.mk hC;have HAl:=Aside0.mk hle;clear hC hle ho) | (go_at_call 9;refine (layers_Late.calls 64 3 0 Ax 5 exOps [1,2,2,2,3] 0 _ HX.out (by decide) ex_Late).mono ?_;rintro e w2 ⟨v,rfl,ho,hb⟩;obtain ⟨HLa,HLc,rfl,hle,hC⟩:=Kd.R_reads ho;(try (have HX_:=Aside0.mk (Kd.C_below HX.out hb);clear HX;have HX:=HX_;clear HX_));(try (have HA_:=Aside0.mk (Kd.C_below HA.out hb);clear HA;have HA:=HA_;clear HA_));(try (have HL_:=Aside0.mk (Kd.C_below HL.out hb);clear HL;have HL:=HL_;clear HL_));(try (have HP_:=Aside0.mk (Kd.C_below HP.out hb);clear HP;have HP:=HP_;clear HP_));(try (have HSo_:=Aside0.mk (Kd.C_below HSo.out hb);clear HSo;have HSo:=HSo_;clear HSo_));(try (have BK_:=Aside0.mk (blk_below BK.out hb);clear BK;have BK:=BK_;clear BK_));have HB_:=Aside0.mk (below_step HB.out hb);clear HB;have HB:=HB_;clear HB_ hb;have HL:=Aside0.mk hC;have HLl:=Aside0.mk hle;clear hC hle ho) | (go_at_call 20;refine (layers_Moments.calls 64 3 0 Ax 5 exOps [[0,2],[1],[4]] 0 _ HX.out (by decide) ex_Moments).mono ?_;rintro e w2 ⟨v,rfl,ho,hb⟩;obtain ⟨HMa,HMc,rfl,hle,hC⟩:=Kd.S_reads ho;(try (have HX_:=Aside0.mk (Kd.C_below HX.out hb);clear HX;have HX:=HX_;clear HX_));(try (have HA_:=Aside0.mk (Kd.C_below HA.out hb);clear HA;have HA:=HA_;clear HA_));(try (have HL_:=Aside0.mk (Kd.C_below HL.out hb);clear HL;have HL:=HL_;clear HL_));(try (have HP_:=Aside0.mk (Kd.C_below HP.out hb);clear HP;have HP:=HP_;clear HP_));(try (have HSo_:=Aside0.mk (Kd.C_below HSo.out hb);clear HSo;have HSo:=HSo_;clear HSo_));(try (have BK_:=Aside0.mk (blk_below BK.out hb);clear BK;have BK:=BK_;clear BK_));have HB_:=Aside0.mk (below_step HB.out hb);clear HB;have HB:=HB_;clear HB_ hb;have HM:=Aside0.mk hC;have HMl:=Aside0.mk hle;clear hC hle ho) | (go_at_call 15;refine (layers_Depth.calls 64 3 0 Ax 5 exOps 3 0 _ HX.out (by decide) ex_Depth).mono ?_;rintro e w2 ⟨rfl,hb⟩;(try (have HX_:=Aside0.mk (Kd.C_below HX.out hb);clear HX;have HX:=HX_;clear HX_));(try (have HA_:=Aside0.mk (Kd.C_below HA.out hb);clear HA;have HA:=HA_;clear HA_));(try (have HL_:=Aside0.mk (Kd.C_below HL.out hb);clear HL;have HL:=HL_;clear HL_));(try (have HP_:=Aside0.mk (Kd.C_below HP.out hb);clear HP;have HP:=HP_;clear HP_));(try (have HSo_:=Aside0.mk (Kd.C_below HSo.out hb);clear HSo;have HSo:=HSo_;clear HSo_));(try (have BK_:=Aside0.mk (blk_below BK.out hb);clear BK;have BK:=BK_;clear BK_));have HB_:=Aside0.mk (below_step HB.out hb);clear HB;have HB:=HB_;clear HB_ hb) | (go_at_call 11;have _hp:=HP;have hr:=(RowL.new (b:=0) (w:=w1) [3] (Nat.zero_le _) (by decide)).now;obtain ⟨Aq,cq,hqv,hqc,hqC⟩:=hr;injection hqv with hq1 hq2 hq3;subst hq1;subst hq3;have hb:=below_alloc (Below.refl w1.heap.size w1) (.cells #[.int .i64 3] 3);(try (have HX_:=Aside0.mk (Kd.C_below HX.out hb);clear HX;have HX:=HX_;clear HX_));(try (have HA_:=Aside0.mk (Kd.C_below HA.out hb);clear HA;have HA:=HA_;clear HA_));(try (have HL_:=Aside0.mk (Kd.C_below HL.out hb);clear HL;have HL:=HL_;clear HL_));(try (have HP_:=Aside0.mk (Kd.C_below HP.out hb);clear HP;have HP:=HP_;clear HP_));(try (have HSo_:=Aside0.mk (Kd.C_below HSo.out hb);clear HSo;have HSo:=HSo_;clear HSo_));(try (have BK_:=Aside0.mk (blk_below BK.out hb);clear BK;have BK:=BK_;clear BK_));have HB_:=Aside0.mk (below_step HB.out hb);clear HB;have HB:=HB_;clear HB_ hb;refine (layers_Past.calls 64 3 0 Ax 5 exOps _ 1 [3] [] 190 _ HX.out (by decide) hqC (by decide) ex_Past3).mono ?_;clear hqC hqc hq2;rintro e w2 ⟨v,rfl,ho,hb⟩;obtain ⟨HQa,HQc,rfl,hle,hC⟩:=Kd.R_reads ho;(try (have HX_:=Aside0.mk (Kd.C_below HX.out hb);clear HX;have HX:=HX_;clear HX_));(try (have HA_:=Aside0.mk (Kd.C_below HA.out hb);clear HA;have HA:=HA_;clear HA_));(try (have HL_:=Aside0.mk (Kd.C_below HL.out hb);clear HL;have HL:=HL_;clear HL_));(try (have HP_:=Aside0.mk (Kd.C_below HP.out hb);clear HP;have HP:=HP_;clear HP_));(try (have HSo_:=Aside0.mk (Kd.C_below HSo.out hb);clear HSo;have HSo:=HSo_;clear HSo_));(try (have BK_:=Aside0.mk (blk_below BK.out hb);clear BK;have BK:=BK_;clear BK_));have HB_:=Aside0.mk (below_step HB.out hb);clear HB;have HB:=HB_;clear HB_ hb;have HQ:=Aside0.mk hC;have HQl:=Aside0.mk hle;clear hC hle ho) | (go_at_call 11;have hr:=(RowL.new (b:=0) (w:=w1) [2] (Nat.zero_le _) (by decide)).now;obtain ⟨Aq,cq,hqv,hqc,hqC⟩:=hr;injection hqv with hq1 hq2 hq3;subst hq1;subst hq3;have hb:=below_alloc (Below.refl w1.heap.size w1) (.cells #[.int .i64 2] 3);(try (have HX_:=Aside0.mk (Kd.C_below HX.out hb);clear HX;have HX:=HX_;clear HX_));(try (have HA_:=Aside0.mk (Kd.C_below HA.out hb);clear HA;have HA:=HA_;clear HA_));(try (have HL_:=Aside0.mk (Kd.C_below HL.out hb);clear HL;have HL:=HL_;clear HL_));(try (have HP_:=Aside0.mk (Kd.C_below HP.out hb);clear HP;have HP:=HP_;clear HP_));(try (have HSo_:=Aside0.mk (Kd.C_below HSo.out hb);clear HSo;have HSo:=HSo_;clear HSo_));(try (have BK_:=Aside0.mk (blk_below BK.out hb);clear BK;have BK:=BK_;clear BK_));have HB_:=Aside0.mk (below_step HB.out hb);clear HB;have HB:=HB_;clear HB_ hb;refine (layers_Past.calls 64 3 0 Ax 5 exOps _ 1 [2] [2,4] 0 _ HX.out (by decide) hqC (by decide) ex_Past2).mono ?_;clear hqC hqc hq2;rintro e w2 ⟨v,rfl,ho,hb⟩;obtain ⟨HPa,HPc,rfl,hle,hC⟩:=Kd.R_reads ho;(try (have HX_:=Aside0.mk (Kd.C_below HX.out hb);clear HX;have HX:=HX_;clear HX_));(try (have HA_:=Aside0.mk (Kd.C_below HA.out hb);clear HA;have HA:=HA_;clear HA_));(try (have HL_:=Aside0.mk (Kd.C_below HL.out hb);clear HL;have HL:=HL_;clear HL_));(try (have HP_:=Aside0.mk (Kd.C_below HP.out hb);clear HP;have HP:=HP_;clear HP_));(try (have HSo_:=Aside0.mk (Kd.C_below HSo.out hb);clear HSo;have HSo:=HSo_;clear HSo_));(try (have BK_:=Aside0.mk (blk_below BK.out hb);clear BK;have BK:=BK_;clear BK_));have HB_:=Aside0.mk (below_step HB.out hb);clear HB;have HB:=HB_;clear HB_ hb;have HP:=Aside0.mk hC;have HPl:=Aside0.mk hle;clear hC hle ho) | (go_at_call 22;refine (layers_Sorted.calls 64 3 0 Ax 5 exOps 3 0 exSort 0 _ HX.out (by decide) ex_Sorted).mono ?_;rintro e w2 ⟨v,rfl,ho,hb⟩;obtain ⟨Sa,Sc,e22,hle,hC⟩:=Kd.N_reads ho;replace e22:v=.slice Sa 5 Sc:=e22;subst e22;(try (have HX_:=Aside0.mk (Kd.C_below HX.out hb);clear HX;have HX:=HX_;clear HX_));(try (have HA_:=Aside0.mk (Kd.C_below HA.out hb);clear HA;have HA:=HA_;clear HA_));(try (have HL_:=Aside0.mk (Kd.C_below HL.out hb);clear HL;have HL:=HL_;clear HL_));(try (have HP_:=Aside0.mk (Kd.C_below HP.out hb);clear HP;have HP:=HP_;clear HP_));(try (have HSo_:=Aside0.mk (Kd.C_below HSo.out hb);clear HSo;have HSo:=HSo_;clear HSo_));(try (have BK_:=Aside0.mk (blk_below BK.out hb);clear BK;have BK:=BK_;clear BK_));have HB_:=Aside0.mk (below_step HB.out hb);clear HB;have HB:=HB_;clear HB_ hb;have HSo:=Aside0.mk (C57u hC);have HSl:=Aside0.mk hle;clear hC hle ho) | (go_at_call 17;have hr:=(RowL.new (b:=0) (w:=w2) [1,2,1,2,3] (Nat.zero_le _) (by decide)).now;obtain ⟨Aq,cq,hqv,hqc,hqC⟩:=hr;injection hqv with hq1 hq2 hq3;subst hq1;subst hq3;refine (phasorlaw19_ints.calls 64 HAa HAc [1,2,1,2,3] _ _ [1,2,1,2,3] true _ (Kd.C_alloc HA.out _) HAl.out hqC (by decide) ex_ints1).mono ?_;clear hqC hqc hq2;rintro e w9 ⟨rfl,hd⟩;have hb:=below_step (below_alloc (Below.refl w2.heap.size w2) _) hd.below;clear hd;(try (have HX_:=Aside0.mk (Kd.C_below HX.out hb);clear HX;have HX:=HX_;clear HX_));(try (have HA_:=Aside0.mk (Kd.C_below HA.out hb);clear HA;have HA:=HA_;clear HA_));(try (have HL_:=Aside0.mk (Kd.C_below HL.out hb);clear HL;have HL:=HL_;clear HL_));(try (have HP_:=Aside0.mk (Kd.C_below HP.out hb);clear HP;have HP:=HP_;clear HP_));(try (have HSo_:=Aside0.mk (Kd.C_below HSo.out hb);clear HSo;have HSo:=HSo_;clear HSo_));(try (have BK_:=Aside0.mk (blk_below BK.out hb);clear BK;have BK:=BK_;clear BK_));have HB_:=Aside0.mk (below_step HB.out hb);clear HB;have HB:=HB_;clear HB_ hb) | (go_at_call 17;have hr:=(RowL.new (b:=0) (w:=w9) [1,2,2,2,3] (Nat.zero_le _) (by decide)).now;obtain ⟨Aq,cq,hqv,hqc,hqC⟩:=hr;injection hqv with hq1 hq2 hq3;subst hq1;subst hq3;refine (phasorlaw19_ints.calls 64 HLa HLc [1,2,2,2,3] _ _ [1,2,2,2,3] true _ (Kd.C_alloc HL.out _) HLl.out hqC (by decide) ex_ints2).mono ?_;clear hqC hqc hq2;rintro e w8 ⟨rfl,hd⟩;have hb:=below_step (below_alloc (Below.refl w9.heap.size w9) _) hd.below;clear hd;(try (have HX_:=Aside0.mk (Kd.C_below HX.out hb);clear HX;have HX:=HX_;clear HX_));(try (have HA_:=Aside0.mk (Kd.C_below HA.out hb);clear HA;have HA:=HA_;clear HA_));(try (have HL_:=Aside0.mk (Kd.C_below HL.out hb);clear HL;have HL:=HL_;clear HL_));(try (have HP_:=Aside0.mk (Kd.C_below HP.out hb);clear HP;have HP:=HP_;clear HP_));(try (have HSo_:=Aside0.mk (Kd.C_below HSo.out hb);clear HSo;have HSo:=HSo_;clear HSo_));(try (have BK_:=Aside0.mk (blk_below BK.out hb);clear BK;have BK:=BK_;clear BK_));have HB_:=Aside0.mk (below_step HB.out hb);clear HB;have HB:=HB_;clear HB_ hb) | (go_at_call 17;have hr:=(RowL.new (b:=0) (w:=w8) [2,4] (Nat.zero_le _) (by decide)).now;obtain ⟨Aq,cq,hqv,hqc,hqC⟩:=hr;injection hqv with hq1 hq2 hq3;subst hq1;subst hq3;refine (phasorlaw19_ints.calls 64 HPa HPc [2,4] _ _ [2,4] true _ (Kd.C_alloc HP.out _) HPl.out hqC (by decide) ex_ints3).mono ?_;clear hqC hqc hq2;rintro e w7 ⟨rfl,hd⟩;have hb:=below_step (below_alloc (Below.refl w8.heap.size w8) _) hd.below;clear hd;(try (have HX_:=Aside0.mk (Kd.C_below HX.out hb);clear HX;have HX:=HX_;clear HX_));(try (have HA_:=Aside0.mk (Kd.C_below HA.out hb);clear HA;have HA:=HA_;clear HA_));(try (have HL_:=Aside0.mk (Kd.C_below HL.out hb);clear HL;have HL:=HL_;clear HL_));(try (have HP_:=Aside0.mk (Kd.C_below HP.out hb);clear HP;have HP:=HP_;clear HP_));(try (have HSo_:=Aside0.mk (Kd.C_below HSo.out hb);clear HSo;have HSo:=HSo_;clear HSo_));(try (have BK_:=Aside0.mk (blk_below BK.out hb);clear BK;have BK:=BK_;clear BK_));have HB_:=Aside0.mk (below_step HB.out hb);clear HB;have HB:=HB_;clear HB_ hb;have y2:=(blk_cell BK.out 2).trans (rfl:_=some (Value.slice Sa 5 Sc));obtain ⟨ad,A2_,c2_,e_,hx0,hx1,hx2,hx3,hx4,hx5,hl_,hi_⟩:=at_T57 HSo.out 1 (by decide) (by decide);cases e_;replace hx1:w7.cell? ⟨ad.block,ad.off + 6 + 1,none⟩=some (.int .i64 2):=hx1;clear hx0 hx2 hx3 hx4 hx5 hl_ hi_))
 go_ret
 exact ⟨rfl,HB.out⟩
mutual
def phasorref07_Qubits.l0:Nat→List Int→Int→Int→Option (Bool)
 | 0,_,_,_=>none
 | k + 1,x0,x1,x5=>if x5 < (x0.length:Int) then (if 0≤x5 then (if (rd x0 x5) < 0 then (phasorref07_Qubits.j1 k x0 x1 x5 true) else (phasorref07_Qubits.j1 k x0 x1 x5 (decide ((rd x0 x5) ≥ x1)))) else (none)) else (some true)
def phasorref07_Qubits.j1:Nat→List Int→Int→Int→Bool→Option (Bool)
 | 0,_,_,_,_=>none
 | k + 1,x0,x1,x5,x25=>if x25=true then (some false) else (phasorref07_Qubits.l1 k x0 x1 x5 0)
def phasorref07_Qubits.l1:Nat→List Int→Int→Int→Int→Option (Bool)
 | 0,_,_,_,_=>none
 | k + 1,x0,x1,x5,x6=>if x6 < x5 then (if 0≤x6 then (if x6 < (x0.length:Int) then (if 0≤x5 then (if x5 < (x0.length:Int) then (if (rd x0 x6)=(rd x0 x5) then (some false) else (phasorref07_Qubits.l1 k x0 x1 x5 (wrap64 (x6 + 1)))) else (none)) else (none)) else (none)) else (none)) else (phasorref07_Qubits.l0 k x0 x1 (wrap64 (x5 + 1)))
end
def phasorref07_Qubits.f (k:Nat) (l0:List Int) (a1:Int):Option (Bool):=phasorref07_Qubits.l0 k l0 a1 0
set_option maxHeartbeats 8000000 in
set_option maxRecDepth 100000 in
theorem phasorref07_Qubits.calls (k:Nat) (A0:Option Addr) (c0:Nat) (l0:List Int) (a1:Int) (r:Bool) (w:World) (hr0:Kd.C (Kd.int .i64) w A0 l0.length l0) (hc0:l0.length≤c0) (h:phasorref07_Qubits.f k l0 a1=some r) :
  Calls Try.prog 50 #[.slice A0 l0.length c0,.int .i64 a1] w fun e w'=>e=.returned (.bool r)∧Drawn0 w w':=by
 have HR0:=Qh hr0;have HC0:=Qh hc0;clear hr0 hc0;have H:(phasorref07_Qubits.l0 k l0 a1 0)=some r:=h;clear h;have H':=Qh H;clear H;go_enter Try.func50,Try.ntmps50
 go_wp2
 repeat (go_quiet (fail);try go_wp2)
 go_loopg [5] k (fun kq v5 w'=>∃ (x5_1:Int),v5=.int .i64 x5_1∧Aside0 (phasorref07_Qubits.l0 kq l0 a1 x5_1=some r)∧Aside0 (kq≤k)∧Drawn0 w w')
 case atStart=>exact ⟨(0),(by first | rfl | (simp;done) | (simp [*];done)),H',⟨Nat.le_refl _⟩,by repeat (first | exact Drawn0.refl _ | apply Drawn0.step)⟩
 case round =>
  clear H';(try clear p2);obtain ⟨x5_1,rfl,HA,HK1,⟨m1,rfl⟩⟩:=hrel
  cases gk with
  | zero=>exact absurd HA.out (by simp [phasorref07_Qubits.l0])
  | succ k1 =>
   have H:=HA.out;clear HA;simp only [phasorref07_Qubits.l0] at H;by_cases c3:x5_1 < (l0.length:Int)
   ·rw [if_pos c3] at H
    have c3b0:decide (x5_1 < (l0.length:Int))=true:=decide_eq_true c3;clear c3;have HC4:=Qh H;clear H;go_upto_region 4 with (fail)
    repeat (go_quiet (fail);go_upto_region 4 with (fail))
    go_cut [25] (fun v25 wc=>∃ (kq:Nat) (x25_3:Bool),v25=.bool x25_3∧Aside0 (phasorref07_Qubits.j1 kq l0 a1 x5_1 x25_3=some r)∧Aside0 (kq≤k1)∧Drawn0 w wc)
    case first =>
     have H:=HC4.out;clear HC4;by_cases c5:0≤x5_1
     ·rw [if_pos c5] at H
      have c5b0:decide (0≤x5_1)=true:=decide_eq_true c5;clear c5;(first | rw [c5b0] | (simp only [i64_w,i32_w];rw [c5b0]) | skip)
      by_cases c6:(rd l0 x5_1) < 0
      ·rw [if_pos c6] at H
       have c6b0:decide ((rd l0 x5_1) < 0)=true:=decide_eq_true c6;clear c6;have H':=Qh H;clear H;have b':0≤(x5_1:Int):=of_decide_eq_true (by first | (with_reducible assumption) | assumption);have a':x5_1 < (l0.length:Int):=of_decide_eq_true (by first | (with_reducible assumption) | assumption);obtain ⟨p',o',i'⟩:=Kd.at_int HR0.out x5_1 b' a'
       cases o'
       replace b':=eq_true b';replace a':=eq_true a';go_wp2
       repeat (go_quiet (fail);try go_wp2)
       go_meet
       case rel=>exact ⟨_,(true),(by first | rfl | (simp;done) | (simp [*];done)),H',⟨by have:=HK1.out;first | omega | exact Nat.le_refl _⟩,by repeat (first | exact Drawn0.refl _ | apply Drawn0.step)⟩
      ·rw [if_neg c6] at H
       have c6b0:decide ((rd l0 x5_1) < 0)=false:=decide_eq_false c6;clear c6;have H':=Qh H;clear H;have b':0≤(x5_1:Int):=of_decide_eq_true (by first | (with_reducible assumption) | assumption);have a':x5_1 < (l0.length:Int):=of_decide_eq_true (by first | (with_reducible assumption) | assumption);obtain ⟨p',o',i'⟩:=Kd.at_int HR0.out x5_1 b' a'
       cases o'
       replace b':=eq_true b';replace a':=eq_true a';have h':0≤(x5_1:Int):=of_decide_eq_true (by first | (with_reducible assumption) | assumption);have g':x5_1 < (l0.length:Int):=of_decide_eq_true (by first | (with_reducible assumption) | assumption);obtain ⟨s',t',l'⟩:=Kd.at_int HR0.out x5_1 h' g';obtain rfl:p'=s':=(by injection t');replace h':=eq_true h';replace g':=eq_true g';go_wp2
       repeat (go_quiet (fail);try go_wp2)
       go_meet
       case rel=>exact ⟨_,(decide ((rd l0 x5_1) ≥ a1)),(by first | rfl | (simp;done) | (simp [*];done)),H',⟨by have:=HK1.out;first | omega | exact Nat.le_refl _⟩,by repeat (first | exact Drawn0.refl _ | apply Drawn0.step)⟩
     ·rw [if_neg c5] at H
      exact absurd H (by simp)
    case rest =>
     clear HC4;(try clear p2);(try clear q2);(try clear hx2);(try clear c3);(try clear c3b0);(try clear c5);(try clear c5b0);(try clear c6);(try clear c6b0);(try clear i');(try clear l');(try clear p2);(try clear b');(try clear h');(try clear a');(try clear g');obtain ⟨kq,x25_3,rfl,HA,HJ3,⟨mc3,rfl⟩⟩:=hcut
     cases kq with
     | zero=>exact absurd HA.out (by simp [phasorref07_Qubits.j1])
     | succ kj3 =>
      have H:=HA.out;clear HA;simp only [phasorref07_Qubits.j1] at H;by_cases c7:x25_3=true
      ·subst c7
       have H1:(some false)=some r:=by rw [if_pos rfl] at H;exact H
       clear H;have H:=H1;clear H1;obtain rfl:=Option.some.inj H;go_wp2
       repeat (go_quiet (fail);try go_wp2)
       go_ret
       exact ⟨by first | rfl | (simp;done) | (simp [*];done),by repeat (first | exact Drawn0.refl _ | apply Drawn0.step)⟩
      ·replace c7:=Bool.eq_false_iff.mpr c7
       subst c7;have H1:(phasorref07_Qubits.l1 kj3 l0 a1 x5_1 0)=some r:=by rw [if_neg (show ¬ (false=true) by decide)] at H;exact H
       clear H;have H:=H1;clear H1;have H':=Qh H;clear H;go_wp2
       repeat (go_quiet (fail);try go_wp2)
       go_loopg [6] kj3 (fun kq v6 w'=>∃ (x6_3:Int),v6=.int .i64 x6_3∧Aside0 (phasorref07_Qubits.l1 kq l0 a1 x5_1 x6_3=some r)∧Aside0 (kq≤kj3)∧Drawn0 w w')
       case atStart=>exact ⟨(0),(by first | rfl | (simp;done) | (simp [*];done)),H',⟨Nat.le_refl _⟩,by repeat (first | exact Drawn0.refl _ | apply Drawn0.step)⟩
       case round =>
        clear H';(try clear p2);(try clear q2);(try clear hx2);(try clear c3);(try clear c3b0);(try clear c5);(try clear c5b0);(try clear c6);(try clear c6b0);(try clear c7);(try clear i');(try clear l');(try clear p2);(try clear b');(try clear h');(try clear q2);(try clear a');(try clear g');obtain ⟨x6_3,rfl,HA,HK3,⟨m3,rfl⟩⟩:=hrel
        cases gk with
        | zero=>exact absurd HA.out (by simp [phasorref07_Qubits.l1])
        | succ k3 =>
         have H:=HA.out;clear HA;simp only [phasorref07_Qubits.l1] at H;by_cases c8:x6_3 < x5_1
         ·rw [if_pos c8] at H
          have c8b0:decide (x6_3 < x5_1)=true:=decide_eq_true c8;clear c8;by_cases c9:0≤x6_3
          ·rw [if_pos c9] at H
           have c9b0:decide (0≤x6_3)=true:=decide_eq_true c9;clear c9;by_cases c10:x6_3 < (l0.length:Int)
           ·rw [if_pos c10] at H
            have c10b0:decide (x6_3 < (l0.length:Int))=true:=decide_eq_true c10;clear c10;by_cases c11:0≤x5_1
            ·rw [if_pos c11] at H
             have c11b0:decide (0≤x5_1)=true:=decide_eq_true c11;clear c11;by_cases c12:x5_1 < (l0.length:Int)
             ·rw [if_pos c12] at H
              have c12b0:decide (x5_1 < (l0.length:Int))=true:=decide_eq_true c12;clear c12;by_cases c13:(rd l0 x6_3)=(rd l0 x5_1)
              ·rw [if_pos c13] at H
               have c13b0:((rd l0 x6_3) == (rd l0 x5_1))=true:=beq_iff_eq.mpr c13;have c13b1:((rd l0 x6_3) != (rd l0 x5_1))=false:=bne_eq_false_iff_eq.mpr c13;clear c13;obtain rfl:=Option.some.inj H;have f':0≤(x6_3:Int):=of_decide_eq_true (by first | (with_reducible assumption) | assumption);have d':x6_3 < (l0.length:Int):=of_decide_eq_true (by first | (with_reducible assumption) | assumption);obtain ⟨k',n',r'⟩:=Kd.at_int HR0.out x6_3 f' d'
               cases n'
               replace f':=eq_true f';replace d':=eq_true d';have e':0≤(x5_1:Int):=of_decide_eq_true (by first | (with_reducible assumption) | assumption);have c':x5_1 < (l0.length:Int):=of_decide_eq_true (by first | (with_reducible assumption) | assumption);obtain ⟨j',m',q'⟩:=Kd.at_int HR0.out x5_1 e' c';obtain rfl:k'=j':=(by injection m');replace e':=eq_true e';replace c':=eq_true c';go_wp2
               repeat (go_quiet (fail);try go_wp2)
               go_ret
               exact ⟨by first | rfl | (simp;done) | (simp [*];done),by repeat (first | exact Drawn0.refl _ | apply Drawn0.step)⟩
              ·rw [if_neg c13] at H
               have c13b0:((rd l0 x6_3) == (rd l0 x5_1))=false:=beq_eq_false_iff_ne.mpr c13;have c13b1:((rd l0 x6_3) != (rd l0 x5_1))=true:=bne_iff_ne.mpr c13;have H':=Qh H;clear H;have f':0≤(x6_3:Int):=of_decide_eq_true (by first | (with_reducible assumption) | assumption);have d':x6_3 < (l0.length:Int):=of_decide_eq_true (by first | (with_reducible assumption) | assumption);obtain ⟨k',n',r'⟩:=Kd.at_int HR0.out x6_3 f' d'
               cases n'
               replace f':=eq_true f';replace d':=eq_true d';have e':0≤(x5_1:Int):=of_decide_eq_true (by first | (with_reducible assumption) | assumption);have c':x5_1 < (l0.length:Int):=of_decide_eq_true (by first | (with_reducible assumption) | assumption);obtain ⟨j',m',q'⟩:=Kd.at_int HR0.out x5_1 e' c';obtain rfl:k'=j':=(by injection m');replace e':=eq_true e';replace c':=eq_true c';go_wp2
               repeat (go_quiet (fail);try go_wp2)
               go_roundg k3
               case measure=>have:=HK1.out;have:=HJ3.out;have:=HK3.out;omega
               case rel=>exact ⟨(wrap64 (x6_3 + 1)),(by first | rfl | (simp;done) | (simp [*];done)),H',⟨by have:=HK1.out;have:=HJ3.out;have:=HK3.out;omega⟩,by repeat (first | exact Drawn0.refl _ | apply Drawn0.step)⟩
             ·rw [if_neg c12] at H
              exact absurd H (by simp)
            ·rw [if_neg c11] at H
             exact absurd H (by simp)
           ·rw [if_neg c10] at H
            exact absurd H (by simp)
          ·rw [if_neg c9] at H
           exact absurd H (by simp)
         ·rw [if_neg c8] at H
          have c8b0:decide (x6_3 < x5_1)=false:=decide_eq_false c8;clear c8;have H':=Qh H;clear H;go_wp2
          repeat (go_quiet (fail);try go_wp2)
          go_roundg k3
          case measure=>have:=HK1.out;have:=HJ3.out;have:=HK3.out;omega
          case rel=>exact ⟨(wrap64 (x5_1 + 1)),(by first | rfl | (simp;done) | (simp [*];done)),H',⟨by have:=HK1.out;have:=HJ3.out;have:=HK3.out;omega⟩,by repeat (first | exact Drawn0.refl _ | apply Drawn0.step)⟩
   ·rw [if_neg c3] at H
    have c3b0:decide (x5_1 < (l0.length:Int))=false:=decide_eq_false c3;clear c3;obtain rfl:=Option.some.inj H;go_wp2
    repeat (go_quiet (fail);try go_wp2)
    go_ret
    exact ⟨by first | rfl | (simp;done) | (simp [*];done),by repeat (first | exact Drawn0.refl _ | apply Drawn0.step)⟩
def phasorref06_Is.f (a0:Int):Option (Bool):=if a0 ≥ 1 then (some (decide (a0≤20))) else (some false)
set_option maxHeartbeats 8000000 in
set_option maxRecDepth 100000 in
theorem phasorref06_Is.calls (a0:Int) (r:Bool) (w:World) (h:phasorref06_Is.f a0=some r) :
  Calls Try.prog 67 #[.int .i64 a0] w fun e w'=>e=.returned (.bool r)∧Drawn0 w w':=by
 have H:(if a0 ≥ 1 then (some (decide (a0≤20))) else (some false))=some r:=h;clear h;by_cases c2:a0 ≥ 1
 ·rw [if_pos c2] at H
  have c2b0:decide (1≤a0)=true:=decide_eq_true c2;clear c2;obtain rfl:=Option.some.inj H;go_enter Try.func67,Try.ntmps67
  go_wp2
  go_ret
  exact ⟨by first | rfl | (simp;done) | (simp [*];done),by repeat (first | exact Drawn0.refl _ | apply Drawn0.step)⟩
 ·rw [if_neg c2] at H
  have c2b0:decide (1≤a0)=false:=decide_eq_false c2;clear c2;obtain rfl:=Option.some.inj H;go_enter Try.func67,Try.ntmps67
  go_wp2
  go_ret
  exact ⟨by first | rfl | (simp;done) | (simp [*];done),by repeat (first | exact Drawn0.refl _ | apply Drawn0.step)⟩
def phasorref06_Arity.f (a0:Int):Option (Int):=(phasorref06_Is.f a0).bind fun t34101=>(if t34101=true then (if a0≤10 then (some 1) else (if a0≤17 then (some 2) else (some 3))) else (some 0))
set_option maxHeartbeats 8000000 in
set_option maxRecDepth 100000 in
theorem phasorref06_Arity.calls (a0:Int) (r:Int) (w:World) (h:phasorref06_Arity.f a0=some r) :
  Calls Try.prog 68 #[.int .i64 a0] w fun e w'=>e=.returned (.int .i64 r)∧Drawn0 w w':=by
 have H:((phasorref06_Is.f a0).bind fun a'=>(if a'=true then (if a0≤10 then (some 1) else (if a0≤17 then (some 2) else (some 3))) else (some 0)))=some r:=h;clear h;replace H:=Option.bind_eq_some_iff.mp H;obtain ⟨a',A20,H⟩:=H;replace H:(if a'=true then (if a0≤10 then (some 1) else (if a0≤17 then (some 2) else (some 3))) else (some 0))=some r:=H
 have A2:=Qh A20;clear A20;by_cases c3:a'=true
 ·subst c3
  have H1:(if a0≤10 then (some 1) else (if a0≤17 then (some 2) else (some 3)))=some r:=by rw [if_pos rfl] at H;exact H
  clear H;have H:=H1;clear H1;by_cases c4:a0≤10
  ·rw [if_pos c4] at H
   have c4b0:decide (a0≤10)=true:=decide_eq_true c4;clear c4;obtain rfl:=Option.some.inj H;go_enter Try.func68,Try.ntmps68
   go_wp2_with (first | ((with_reducible refine gate_callee (f:=67) rfl ?_);refine goesL_ (some 5) rfl rfl Try.func67 (by kernel_rfl) rfl #[.int .i64 a0] rfl (by (try simp only [List.map_toArray,List.map_cons,List.map_nil]);first | done | rfl | (simp only [List.length_drop,List.length_take];rfl)) ?_;(with_reducible refine (phasorref06_Is.calls a0 true _ A2.out).mono ?_);rintro e w' ⟨rfl,⟨nd,rfl⟩⟩;refine ⟨_,rfl,?_⟩))
   go_ret
   exact ⟨by first | rfl | (simp;done) | (simp [*];done),by repeat (first | exact Drawn0.refl _ | apply Drawn0.step)⟩
  ·rw [if_neg c4] at H
   have c4b0:decide (a0≤10)=false:=decide_eq_false c4;clear c4;by_cases c5:a0≤17
   ·rw [if_pos c5] at H
    have c5b0:decide (a0≤17)=true:=decide_eq_true c5;clear c5;obtain rfl:=Option.some.inj H;go_enter Try.func68,Try.ntmps68
    go_wp2_with (first | ((with_reducible refine gate_callee (f:=67) rfl ?_);refine goesL_ (some 5) rfl rfl Try.func67 (by kernel_rfl) rfl #[.int .i64 a0] rfl (by (try simp only [List.map_toArray,List.map_cons,List.map_nil]);first | done | rfl | (simp only [List.length_drop,List.length_take];rfl)) ?_;(with_reducible refine (phasorref06_Is.calls a0 true _ A2.out).mono ?_);rintro e w' ⟨rfl,⟨nd,rfl⟩⟩;refine ⟨_,rfl,?_⟩))
    go_ret
    exact ⟨by first | rfl | (simp;done) | (simp [*];done),by repeat (first | exact Drawn0.refl _ | apply Drawn0.step)⟩
   ·rw [if_neg c5] at H
    have c5b0:decide (a0≤17)=false:=decide_eq_false c5;clear c5;obtain rfl:=Option.some.inj H;go_enter Try.func68,Try.ntmps68
    go_wp2_with (first | ((with_reducible refine gate_callee (f:=67) rfl ?_);refine goesL_ (some 5) rfl rfl Try.func67 (by kernel_rfl) rfl #[.int .i64 a0] rfl (by (try simp only [List.map_toArray,List.map_cons,List.map_nil]);first | done | rfl | (simp only [List.length_drop,List.length_take];rfl)) ?_;(with_reducible refine (phasorref06_Is.calls a0 true _ A2.out).mono ?_);rintro e w' ⟨rfl,⟨nd,rfl⟩⟩;refine ⟨_,rfl,?_⟩))
    go_ret
    exact ⟨by first | rfl | (simp;done) | (simp [*];done),by repeat (first | exact Drawn0.refl _ | apply Drawn0.step)⟩
 ·replace c3:=Bool.eq_false_iff.mpr c3
  subst c3;have H1:(some 0)=some r:=by rw [if_neg (show ¬ (false=true) by decide)] at H;exact H
  clear H;have H:=H1;clear H1;obtain rfl:=Option.some.inj H;go_enter Try.func68,Try.ntmps68
  go_wp2_with (first | ((with_reducible refine gate_callee (f:=67) rfl ?_);refine goesL_ (some 5) rfl rfl Try.func67 (by kernel_rfl) rfl #[.int .i64 a0] rfl (by (try simp only [List.map_toArray,List.map_cons,List.map_nil]);first | done | rfl | (simp only [List.length_drop,List.length_take];rfl)) ?_;(with_reducible refine (phasorref06_Is.calls a0 false _ A2.out).mono ?_);rintro e w' ⟨rfl,⟨nd,rfl⟩⟩;refine ⟨_,rfl,?_⟩))
  go_ret
  exact ⟨by first | rfl | (simp;done) | (simp [*];done),by repeat (first | exact Drawn0.refl _ | apply Drawn0.step)⟩
mutual
def phasorref06_Check.l0:Nat→List Int→Int→Int→Option (Int)
 | 0,_,_,_=>none
 | k + 1,x1,x2,x7=>if x7 < (x1.length:Int) then (if 0≤x7 then (if (rd x1 x7) < 0 then (phasorref06_Check.j1 k x1 x2 x7 true) else (phasorref06_Check.j1 k x1 x2 x7 (decide ((rd x1 x7) ≥ x2)))) else (none)) else (some 0)
def phasorref06_Check.j1:Nat→List Int→Int→Int→Bool→Option (Int)
 | 0,_,_,_,_=>none
 | k + 1,x1,x2,x7,x35=>if x35=true then (some 61) else (phasorref06_Check.l1 k x1 x2 x7 0)
def phasorref06_Check.l1:Nat→List Int→Int→Int→Int→Option (Int)
 | 0,_,_,_,_=>none
 | k + 1,x1,x2,x7,x8=>if x8 < x7 then (if 0≤x7 then (if x7 < (x1.length:Int) then (if 0≤x8 then (if x8 < (x1.length:Int) then (if (rd x1 x7)=(rd x1 x8) then (some 61) else (phasorref06_Check.l1 k x1 x2 x7 (wrap64 (x8 + 1)))) else (none)) else (none)) else (none)) else (none)) else (phasorref06_Check.l0 k x1 x2 (wrap64 (x7 + 1)))
end
def phasorref06_Check.f (k:Nat) (a0:Int) (l1:List Int) (a2:Int):Option (Int):=(phasorref06_Is.f a0).bind fun t31101=>(if t31101=true then ((phasorref06_Arity.f a0).bind fun t31102=>(if (l1.length:Int)=t31102 then (phasorref06_Check.l0 k l1 a2 0) else (some 61))) else (some 60))
set_option maxHeartbeats 8000000 in
set_option maxRecDepth 100000 in
theorem phasorref06_Check.calls (k:Nat) (a0:Int) (A1:Option Addr) (c1:Nat) (l1:List Int) (a2:Int) (r:Int) (w:World) (hr1:Kd.C (Kd.int .i64) w A1 l1.length l1) (hc1:l1.length≤c1) (h:phasorref06_Check.f k a0 l1 a2=some r) :
  Calls Try.prog 62 #[.int .i64 a0,.slice A1 l1.length c1,.int .i64 a2] w fun e w'=>e=.returned (.int .i64 r)∧Drawn0 w w':=by
 have HR1:=Qh hr1;have HC1:=Qh hc1;clear hr1 hc1;have H:((phasorref06_Is.f a0).bind fun k'=>(if k'=true then ((phasorref06_Arity.f a0).bind fun a'=>(if (l1.length:Int)=a' then (phasorref06_Check.l0 k l1 a2 0) else (some 61))) else (some 60)))=some r:=h;clear h;replace H:=Option.bind_eq_some_iff.mp H;obtain ⟨k',A40,H⟩:=H;replace H:(if k'=true then ((phasorref06_Arity.f a0).bind fun a'=>(if (l1.length:Int)=a' then (phasorref06_Check.l0 k l1 a2 0) else (some 61))) else (some 60))=some r:=H
 have A4:=Qh A40;clear A40;by_cases c5:k'=true
 ·subst c5
  have H1:((phasorref06_Arity.f a0).bind fun a'=>(if (l1.length:Int)=a' then (phasorref06_Check.l0 k l1 a2 0) else (some 61)))=some r:=by rw [if_pos rfl] at H;exact H
  clear H;have H:=H1;clear H1;replace H:=Option.bind_eq_some_iff.mp H;obtain ⟨a',A60,H⟩:=H;replace H:(if (l1.length:Int)=a' then (phasorref06_Check.l0 k l1 a2 0) else (some 61))=some r:=H
  have A6:=Qh A60;clear A60;by_cases c7:(l1.length:Int)=a'
  ·rw [if_pos c7] at H
   have c7b0:((l1.length:Int) == a')=true:=beq_iff_eq.mpr c7;have c7b1:((l1.length:Int) != a')=false:=bne_eq_false_iff_eq.mpr c7;clear c7;have H':=Qh H;clear H;go_enter Try.func62,Try.ntmps62
   go_wp2_with (first | (go_at_call 67;(with_reducible refine (phasorref06_Is.calls a0 true _ A4.out).mono ?_);rintro e w' ⟨rfl,⟨nd,rfl⟩⟩;(try first | exact ⟨rfl,_,World.drewN_drewN _ _ _⟩ | exact ⟨rfl,_,Eq.trans (World.drewN_drewN _ _ _) (congrArg (World.drewN _) (Nat.add_assoc _ _ _))⟩)) | (go_at_call 68;(with_reducible refine (phasorref06_Arity.calls a0 a' _ A6.out).mono ?_);rintro e w' ⟨rfl,⟨nd,rfl⟩⟩;(try first | exact ⟨rfl,_,World.drewN_drewN _ _ _⟩ | exact ⟨rfl,_,Eq.trans (World.drewN_drewN _ _ _) (congrArg (World.drewN _) (Nat.add_assoc _ _ _))⟩)))
   repeat (go_quiet (first | (go_at_call 67;(with_reducible refine (phasorref06_Is.calls a0 true _ A4.out).mono ?_);rintro e w' ⟨rfl,⟨nd,rfl⟩⟩;(try first | exact ⟨rfl,_,World.drewN_drewN _ _ _⟩ | exact ⟨rfl,_,Eq.trans (World.drewN_drewN _ _ _) (congrArg (World.drewN _) (Nat.add_assoc _ _ _))⟩)) | (go_at_call 68;(with_reducible refine (phasorref06_Arity.calls a0 a' _ A6.out).mono ?_);rintro e w' ⟨rfl,⟨nd,rfl⟩⟩;(try first | exact ⟨rfl,_,World.drewN_drewN _ _ _⟩ | exact ⟨rfl,_,Eq.trans (World.drewN_drewN _ _ _) (congrArg (World.drewN _) (Nat.add_assoc _ _ _))⟩)));try go_wp2_with (first | (go_at_call 67;(with_reducible refine (phasorref06_Is.calls a0 true _ A4.out).mono ?_);rintro e w' ⟨rfl,⟨nd,rfl⟩⟩;(try first | exact ⟨rfl,_,World.drewN_drewN _ _ _⟩ | exact ⟨rfl,_,Eq.trans (World.drewN_drewN _ _ _) (congrArg (World.drewN _) (Nat.add_assoc _ _ _))⟩)) | (go_at_call 68;(with_reducible refine (phasorref06_Arity.calls a0 a' _ A6.out).mono ?_);rintro e w' ⟨rfl,⟨nd,rfl⟩⟩;(try first | exact ⟨rfl,_,World.drewN_drewN _ _ _⟩ | exact ⟨rfl,_,Eq.trans (World.drewN_drewN _ _ _) (congrArg (World.drewN _) (Nat.add_assoc _ _ _))⟩))))
   go_loopg [7] k (fun kq v7 w'=>∃ (x7_1:Int),v7=.int .i64 x7_1∧Aside0 (phasorref06_Check.l0 kq l1 a2 x7_1=some r)∧Aside0 (kq≤k)∧Drawn0 w w')
   case atStart=>exact ⟨(0),(by first | rfl | (simp;done) | (simp [*];done)),H',⟨Nat.le_refl _⟩,by repeat (first | exact Drawn0.refl _ | apply Drawn0.step)⟩
   case round =>
    clear H';(try clear c1);(try clear p2);(try clear c5);(try clear c6);(try clear c7);(try clear c7b0);(try clear c7b1);obtain ⟨x7_1,rfl,HA,HK1,⟨m1,rfl⟩⟩:=hrel
    cases gk with
    | zero=>exact absurd HA.out (by simp [phasorref06_Check.l0])
    | succ k1 =>
     have H:=HA.out;clear HA;simp only [phasorref06_Check.l0] at H;by_cases c8:x7_1 < (l1.length:Int)
     ·rw [if_pos c8] at H
      have c8b0:decide (x7_1 < (l1.length:Int))=true:=decide_eq_true c8;clear c8;have HC9:=Qh H;clear H;go_upto_region 8 with (fail)
      repeat (go_quiet (fail);go_upto_region 8 with (fail))
      go_cut [35] (fun v35 wc=>∃ (kq:Nat) (x35_8:Bool),v35=.bool x35_8∧Aside0 (phasorref06_Check.j1 kq l1 a2 x7_1 x35_8=some r)∧Aside0 (kq≤k1)∧Drawn0 w wc)
      case first =>
       have H:=HC9.out;clear HC9;by_cases c10:0≤x7_1
       ·rw [if_pos c10] at H
        have c10b0:decide (0≤x7_1)=true:=decide_eq_true c10;clear c10;(first | rw [c10b0] | (simp only [i64_w,i32_w];rw [c10b0]) | skip)
        by_cases c11:(rd l1 x7_1) < 0
        ·rw [if_pos c11] at H
         have c11b0:decide ((rd l1 x7_1) < 0)=true:=decide_eq_true c11;clear c11;have H':=Qh H;clear H;have c':0≤(x7_1:Int):=of_decide_eq_true (by first | (with_reducible assumption) | assumption);have b':x7_1 < (l1.length:Int):=of_decide_eq_true (by first | (with_reducible assumption) | assumption);obtain ⟨r',q',j'⟩:=Kd.at_int HR1.out x7_1 c' b'
         cases q'
         replace c':=eq_true c';replace b':=eq_true b';go_wp2
         repeat (go_quiet (fail);try go_wp2)
         go_meet
         case rel=>exact ⟨_,(true),(by first | rfl | (simp;done) | (simp [*];done)),H',⟨by have:=HK1.out;first | omega | exact Nat.le_refl _⟩,by repeat (first | exact Drawn0.refl _ | apply Drawn0.step)⟩
        ·rw [if_neg c11] at H
         have c11b0:decide ((rd l1 x7_1) < 0)=false:=decide_eq_false c11;clear c11;have H':=Qh H;clear H;have c':0≤(x7_1:Int):=of_decide_eq_true (by first | (with_reducible assumption) | assumption);have b':x7_1 < (l1.length:Int):=of_decide_eq_true (by first | (with_reducible assumption) | assumption);obtain ⟨r',q',j'⟩:=Kd.at_int HR1.out x7_1 c' b'
         cases q'
         replace c':=eq_true c';replace b':=eq_true b';have i':0≤(x7_1:Int):=of_decide_eq_true (by first | (with_reducible assumption) | assumption);have h':x7_1 < (l1.length:Int):=of_decide_eq_true (by first | (with_reducible assumption) | assumption);obtain ⟨u',v',n'⟩:=Kd.at_int HR1.out x7_1 i' h';obtain rfl:r'=u':=(by injection v');replace i':=eq_true i';replace h':=eq_true h';go_wp2
         repeat (go_quiet (fail);try go_wp2)
         go_meet
         case rel=>exact ⟨_,(decide ((rd l1 x7_1) ≥ a2)),(by first | rfl | (simp;done) | (simp [*];done)),H',⟨by have:=HK1.out;first | omega | exact Nat.le_refl _⟩,by repeat (first | exact Drawn0.refl _ | apply Drawn0.step)⟩
       ·rw [if_neg c10] at H
        exact absurd H (by simp)
      case rest =>
       clear HC9;(try clear c1);(try clear p2);(try clear p3);(try clear q3);(try clear hx3);(try clear c5);(try clear c6);(try clear c7);(try clear c7b0);(try clear c7b1);(try clear c8);(try clear c8b0);(try clear c10);(try clear c10b0);(try clear c11);(try clear c11b0);(try clear j');(try clear n');(try clear p2);(try clear c');(try clear i');(try clear b');(try clear h');obtain ⟨kq,x35_8,rfl,HA,HJ8,⟨mc8,rfl⟩⟩:=hcut
       cases kq with
       | zero=>exact absurd HA.out (by simp [phasorref06_Check.j1])
       | succ kj8 =>
        have H:=HA.out;clear HA;simp only [phasorref06_Check.j1] at H;by_cases c12:x35_8=true
        ·subst c12
         have H1:(some 61)=some r:=by rw [if_pos rfl] at H;exact H
         clear H;have H:=H1;clear H1;obtain rfl:=Option.some.inj H;go_wp2
         repeat (go_quiet (fail);try go_wp2)
         go_ret
         exact ⟨by first | rfl | (simp;done) | (simp [*];done),by repeat (first | exact Drawn0.refl _ | apply Drawn0.step)⟩
        ·replace c12:=Bool.eq_false_iff.mpr c12
         subst c12;have H1:(phasorref06_Check.l1 kj8 l1 a2 x7_1 0)=some r:=by rw [if_neg (show ¬ (false=true) by decide)] at H;exact H
         clear H;have H:=H1;clear H1;have H':=Qh H;clear H;go_wp2
         repeat (go_quiet (fail);try go_wp2)
         go_loopg [8] kj8 (fun kq v8 w'=>∃ (x8_3:Int),v8=.int .i64 x8_3∧Aside0 (phasorref06_Check.l1 kq l1 a2 x7_1 x8_3=some r)∧Aside0 (kq≤kj8)∧Drawn0 w w')
         case atStart=>exact ⟨(0),(by first | rfl | (simp;done) | (simp [*];done)),H',⟨Nat.le_refl _⟩,by repeat (first | exact Drawn0.refl _ | apply Drawn0.step)⟩
         case round =>
          clear H';(try clear c1);(try clear p2);(try clear p3);(try clear q3);(try clear hx3);(try clear c5);(try clear c6);(try clear c7);(try clear c7b0);(try clear c7b1);(try clear c8);(try clear c8b0);(try clear c10);(try clear c10b0);(try clear c11);(try clear c11b0);(try clear c12);(try clear j');(try clear n');(try clear p2);(try clear p3);(try clear c');(try clear i');(try clear q3);(try clear b');(try clear h');obtain ⟨x8_3,rfl,HA,HK3,⟨m3,rfl⟩⟩:=hrel
          cases gk with
          | zero=>exact absurd HA.out (by simp [phasorref06_Check.l1])
          | succ k3 =>
           have H:=HA.out;clear HA;simp only [phasorref06_Check.l1] at H;by_cases c13:x8_3 < x7_1
           ·rw [if_pos c13] at H
            have c13b0:decide (x8_3 < x7_1)=true:=decide_eq_true c13;clear c13;by_cases c14:0≤x7_1
            ·rw [if_pos c14] at H
             have c14b0:decide (0≤x7_1)=true:=decide_eq_true c14;clear c14;by_cases c15:x7_1 < (l1.length:Int)
             ·rw [if_pos c15] at H
              have c15b0:decide (x7_1 < (l1.length:Int))=true:=decide_eq_true c15;clear c15;by_cases c16:0≤x8_3
              ·rw [if_pos c16] at H
               have c16b0:decide (0≤x8_3)=true:=decide_eq_true c16;clear c16;by_cases c17:x8_3 < (l1.length:Int)
               ·rw [if_pos c17] at H
                have c17b0:decide (x8_3 < (l1.length:Int))=true:=decide_eq_true c17;clear c17;by_cases c18:(rd l1 x7_1)=(rd l1 x8_3)
                ·rw [if_pos c18] at H
                 have c18b0:((rd l1 x7_1) == (rd l1 x8_3))=true:=beq_iff_eq.mpr c18;have c18b1:((rd l1 x7_1) != (rd l1 x8_3))=false:=bne_eq_false_iff_eq.mpr c18;clear c18;obtain rfl:=Option.some.inj H;have g':0≤(x7_1:Int):=of_decide_eq_true (by first | (with_reducible assumption) | assumption);have e':x7_1 < (l1.length:Int):=of_decide_eq_true (by first | (with_reducible assumption) | assumption);obtain ⟨m',p',t'⟩:=Kd.at_int HR1.out x7_1 g' e'
                 cases p'
                 replace g':=eq_true g';replace e':=eq_true e';have f':0≤(x8_3:Int):=of_decide_eq_true (by first | (with_reducible assumption) | assumption);have d':x8_3 < (l1.length:Int):=of_decide_eq_true (by first | (with_reducible assumption) | assumption);obtain ⟨l',o',s'⟩:=Kd.at_int HR1.out x8_3 f' d';obtain rfl:m'=l':=(by injection o');replace f':=eq_true f';replace d':=eq_true d';go_wp2
                 repeat (go_quiet (fail);try go_wp2)
                 go_ret
                 exact ⟨by first | rfl | (simp;done) | (simp [*];done),by repeat (first | exact Drawn0.refl _ | apply Drawn0.step)⟩
                ·rw [if_neg c18] at H
                 have c18b0:((rd l1 x7_1) == (rd l1 x8_3))=false:=beq_eq_false_iff_ne.mpr c18;have c18b1:((rd l1 x7_1) != (rd l1 x8_3))=true:=bne_iff_ne.mpr c18;have H':=Qh H;clear H;have g':0≤(x7_1:Int):=of_decide_eq_true (by first | (with_reducible assumption) | assumption);have e':x7_1 < (l1.length:Int):=of_decide_eq_true (by first | (with_reducible assumption) | assumption);obtain ⟨m',p',t'⟩:=Kd.at_int HR1.out x7_1 g' e'
                 cases p'
                 replace g':=eq_true g';replace e':=eq_true e';have f':0≤(x8_3:Int):=of_decide_eq_true (by first | (with_reducible assumption) | assumption);have d':x8_3 < (l1.length:Int):=of_decide_eq_true (by first | (with_reducible assumption) | assumption);obtain ⟨l',o',s'⟩:=Kd.at_int HR1.out x8_3 f' d';obtain rfl:m'=l':=(by injection o');replace f':=eq_true f';replace d':=eq_true d';go_wp2
                 repeat (go_quiet (fail);try go_wp2)
                 go_roundg k3
                 case measure=>have:=HK1.out;have:=HJ8.out;have:=HK3.out;omega
                 case rel=>exact ⟨(wrap64 (x8_3 + 1)),(by first | rfl | (simp;done) | (simp [*];done)),H',⟨by have:=HK1.out;have:=HJ8.out;have:=HK3.out;omega⟩,by repeat (first | exact Drawn0.refl _ | apply Drawn0.step)⟩
               ·rw [if_neg c17] at H
                exact absurd H (by simp)
              ·rw [if_neg c16] at H
               exact absurd H (by simp)
             ·rw [if_neg c15] at H
              exact absurd H (by simp)
            ·rw [if_neg c14] at H
             exact absurd H (by simp)
           ·rw [if_neg c13] at H
            have c13b0:decide (x8_3 < x7_1)=false:=decide_eq_false c13;clear c13;have H':=Qh H;clear H;go_wp2
            repeat (go_quiet (fail);try go_wp2)
            go_roundg k3
            case measure=>have:=HK1.out;have:=HJ8.out;have:=HK3.out;omega
            case rel=>exact ⟨(wrap64 (x7_1 + 1)),(by first | rfl | (simp;done) | (simp [*];done)),H',⟨by have:=HK1.out;have:=HJ8.out;have:=HK3.out;omega⟩,by repeat (first | exact Drawn0.refl _ | apply Drawn0.step)⟩
     ·rw [if_neg c8] at H
      have c8b0:decide (x7_1 < (l1.length:Int))=false:=decide_eq_false c8;clear c8;obtain rfl:=Option.some.inj H;go_wp2
      repeat (go_quiet (fail);try go_wp2)
      go_ret
      exact ⟨by first | rfl | (simp;done) | (simp [*];done),by repeat (first | exact Drawn0.refl _ | apply Drawn0.step)⟩
  ·rw [if_neg c7] at H
   have c7b0:((l1.length:Int) == a')=false:=beq_eq_false_iff_ne.mpr c7;have c7b1:((l1.length:Int) != a')=true:=bne_iff_ne.mpr c7;obtain rfl:=Option.some.inj H;go_enter Try.func62,Try.ntmps62
   go_wp2_with (first | (go_at_call 67;(with_reducible refine (phasorref06_Is.calls a0 true _ A4.out).mono ?_);rintro e w' ⟨rfl,⟨nd,rfl⟩⟩;(try first | exact ⟨rfl,_,World.drewN_drewN _ _ _⟩ | exact ⟨rfl,_,Eq.trans (World.drewN_drewN _ _ _) (congrArg (World.drewN _) (Nat.add_assoc _ _ _))⟩)) | (go_at_call 68;(with_reducible refine (phasorref06_Arity.calls a0 a' _ A6.out).mono ?_);rintro e w' ⟨rfl,⟨nd,rfl⟩⟩;(try first | exact ⟨rfl,_,World.drewN_drewN _ _ _⟩ | exact ⟨rfl,_,Eq.trans (World.drewN_drewN _ _ _) (congrArg (World.drewN _) (Nat.add_assoc _ _ _))⟩)))
   repeat (go_quiet (first | (go_at_call 67;(with_reducible refine (phasorref06_Is.calls a0 true _ A4.out).mono ?_);rintro e w' ⟨rfl,⟨nd,rfl⟩⟩;(try first | exact ⟨rfl,_,World.drewN_drewN _ _ _⟩ | exact ⟨rfl,_,Eq.trans (World.drewN_drewN _ _ _) (congrArg (World.drewN _) (Nat.add_assoc _ _ _))⟩)) | (go_at_call 68;(with_reducible refine (phasorref06_Arity.calls a0 a' _ A6.out).mono ?_);rintro e w' ⟨rfl,⟨nd,rfl⟩⟩;(try first | exact ⟨rfl,_,World.drewN_drewN _ _ _⟩ | exact ⟨rfl,_,Eq.trans (World.drewN_drewN _ _ _) (congrArg (World.drewN _) (Nat.add_assoc _ _ _))⟩)));try go_wp2_with (first | (go_at_call 67;(with_reducible refine (phasorref06_Is.calls a0 true _ A4.out).mono ?_);rintro e w' ⟨rfl,⟨nd,rfl⟩⟩;(try first | exact ⟨rfl,_,World.drewN_drewN _ _ _⟩ | exact ⟨rfl,_,Eq.trans (World.drewN_drewN _ _ _) (congrArg (World.drewN _) (Nat.add_assoc _ _ _))⟩)) | (go_at_call 68;(with_reducible refine (phasorref06_Arity.calls a0 a' _ A6.out).mono ?_);rintro e w' ⟨rfl,⟨nd,rfl⟩⟩;(try first | exact ⟨rfl,_,World.drewN_drewN _ _ _⟩ | exact ⟨rfl,_,Eq.trans (World.drewN_drewN _ _ _) (congrArg (World.drewN _) (Nat.add_assoc _ _ _))⟩))))
   go_ret
   exact ⟨by first | rfl | (simp;done) | (simp [*];done),by repeat (first | exact Drawn0.refl _ | apply Drawn0.step)⟩
 ·replace c5:=Bool.eq_false_iff.mpr c5
  subst c5;have H1:(some 60)=some r:=by rw [if_neg (show ¬ (false=true) by decide)] at H;exact H
  clear H;have H:=H1;clear H1;obtain rfl:=Option.some.inj H;go_enter Try.func62,Try.ntmps62
  go_wp2_with (first | (go_at_call 67;(with_reducible refine (phasorref06_Is.calls a0 false _ A4.out).mono ?_);rintro e w' ⟨rfl,⟨nd,rfl⟩⟩;(try first | exact ⟨rfl,_,World.drewN_drewN _ _ _⟩ | exact ⟨rfl,_,Eq.trans (World.drewN_drewN _ _ _) (congrArg (World.drewN _) (Nat.add_assoc _ _ _))⟩)))
  repeat (go_quiet (first | (go_at_call 67;(with_reducible refine (phasorref06_Is.calls a0 false _ A4.out).mono ?_);rintro e w' ⟨rfl,⟨nd,rfl⟩⟩;(try first | exact ⟨rfl,_,World.drewN_drewN _ _ _⟩ | exact ⟨rfl,_,Eq.trans (World.drewN_drewN _ _ _) (congrArg (World.drewN _) (Nat.add_assoc _ _ _))⟩)));try go_wp2_with (first | (go_at_call 67;(with_reducible refine (phasorref06_Is.calls a0 false _ A4.out).mono ?_);rintro e w' ⟨rfl,⟨nd,rfl⟩⟩;(try first | exact ⟨rfl,_,World.drewN_drewN _ _ _⟩ | exact ⟨rfl,_,Eq.trans (World.drewN_drewN _ _ _) (congrArg (World.drewN _) (Nat.add_assoc _ _ _))⟩))))
  go_ret
  exact ⟨by first | rfl | (simp;done) | (simp [*];done),by repeat (first | exact Drawn0.refl _ | apply Drawn0.step)⟩
mutual
def phasorref08_unlike.l0:Nat→List Int→Int→Int→Option (Bool)
 | 0,_,_,_=>none
 | k + 1,x0,x1,x5=>if x5 < (x0.length:Int) then (if 0≤x5 then (if (rd x0 x5) < 0 then (phasorref08_unlike.j1 k x0 x1 x5 true) else (phasorref08_unlike.j1 k x0 x1 x5 (decide ((rd x0 x5) ≥ x1)))) else (none)) else (some true)
def phasorref08_unlike.j1:Nat→List Int→Int→Int→Bool→Option (Bool)
 | 0,_,_,_,_=>none
 | k + 1,x0,x1,x5,x25=>if x25=true then (some false) else (phasorref08_unlike.l1 k x0 x1 x5 0)
def phasorref08_unlike.l1:Nat→List Int→Int→Int→Int→Option (Bool)
 | 0,_,_,_,_=>none
 | k + 1,x0,x1,x5,x6=>if x6 < x5 then (if 0≤x6 then (if x6 < (x0.length:Int) then (if 0≤x5 then (if x5 < (x0.length:Int) then (if (rd x0 x6)=(rd x0 x5) then (some false) else (phasorref08_unlike.l1 k x0 x1 x5 (wrap64 (x6 + 1)))) else (none)) else (none)) else (none)) else (none)) else (phasorref08_unlike.l0 k x0 x1 (wrap64 (x5 + 1)))
end
def phasorref08_unlike.f (k:Nat) (l0:List Int) (a1:Int):Option (Bool):=phasorref08_unlike.l0 k l0 a1 0
set_option maxHeartbeats 8000000 in
set_option maxRecDepth 100000 in
theorem phasorref08_unlike.calls (k:Nat) (A0:Option Addr) (c0:Nat) (l0:List Int) (a1:Int) (r:Bool) (w:World) (hr0:Kd.C (Kd.int .i64) w A0 l0.length l0) (hc0:l0.length≤c0) (h:phasorref08_unlike.f k l0 a1=some r) :
  Calls Try.prog 63 #[.slice A0 l0.length c0,.int .i64 a1] w fun e w'=>e=.returned (.bool r)∧Drawn0 w w':=by
 have HR0:=Qh hr0;have HC0:=Qh hc0;clear hr0 hc0;have H:(phasorref08_unlike.l0 k l0 a1 0)=some r:=h;clear h;have H':=Qh H;clear H;go_enter Try.func63,Try.ntmps63
 go_wp2
 repeat (go_quiet (fail);try go_wp2)
 go_loopg [5] k (fun kq v5 w'=>∃ (x5_1:Int),v5=.int .i64 x5_1∧Aside0 (phasorref08_unlike.l0 kq l0 a1 x5_1=some r)∧Aside0 (kq≤k)∧Drawn0 w w')
 case atStart=>exact ⟨(0),(by first | rfl | (simp;done) | (simp [*];done)),H',⟨Nat.le_refl _⟩,by repeat (first | exact Drawn0.refl _ | apply Drawn0.step)⟩
 case round =>
  clear H';(try clear p2);obtain ⟨x5_1,rfl,HA,HK1,⟨m1,rfl⟩⟩:=hrel
  cases gk with
  | zero=>exact absurd HA.out (by simp [phasorref08_unlike.l0])
  | succ k1 =>
   have H:=HA.out;clear HA;simp only [phasorref08_unlike.l0] at H;by_cases c3:x5_1 < (l0.length:Int)
   ·rw [if_pos c3] at H
    have c3b0:decide (x5_1 < (l0.length:Int))=true:=decide_eq_true c3;clear c3;have HC4:=Qh H;clear H;go_upto_region 4 with (fail)
    repeat (go_quiet (fail);go_upto_region 4 with (fail))
    go_cut [25] (fun v25 wc=>∃ (kq:Nat) (x25_3:Bool),v25=.bool x25_3∧Aside0 (phasorref08_unlike.j1 kq l0 a1 x5_1 x25_3=some r)∧Aside0 (kq≤k1)∧Drawn0 w wc)
    case first =>
     have H:=HC4.out;clear HC4;by_cases c5:0≤x5_1
     ·rw [if_pos c5] at H
      have c5b0:decide (0≤x5_1)=true:=decide_eq_true c5;clear c5;(first | rw [c5b0] | (simp only [i64_w,i32_w];rw [c5b0]) | skip)
      by_cases c6:(rd l0 x5_1) < 0
      ·rw [if_pos c6] at H
       have c6b0:decide ((rd l0 x5_1) < 0)=true:=decide_eq_true c6;clear c6;have H':=Qh H;clear H;have b':0≤(x5_1:Int):=of_decide_eq_true (by first | (with_reducible assumption) | assumption);have a':x5_1 < (l0.length:Int):=of_decide_eq_true (by first | (with_reducible assumption) | assumption);obtain ⟨p',o',i'⟩:=Kd.at_int HR0.out x5_1 b' a'
       cases o'
       replace b':=eq_true b';replace a':=eq_true a';go_wp2
       repeat (go_quiet (fail);try go_wp2)
       go_meet
       case rel=>exact ⟨_,(true),(by first | rfl | (simp;done) | (simp [*];done)),H',⟨by have:=HK1.out;first | omega | exact Nat.le_refl _⟩,by repeat (first | exact Drawn0.refl _ | apply Drawn0.step)⟩
      ·rw [if_neg c6] at H
       have c6b0:decide ((rd l0 x5_1) < 0)=false:=decide_eq_false c6;clear c6;have H':=Qh H;clear H;have b':0≤(x5_1:Int):=of_decide_eq_true (by first | (with_reducible assumption) | assumption);have a':x5_1 < (l0.length:Int):=of_decide_eq_true (by first | (with_reducible assumption) | assumption);obtain ⟨p',o',i'⟩:=Kd.at_int HR0.out x5_1 b' a'
       cases o'
       replace b':=eq_true b';replace a':=eq_true a';have h':0≤(x5_1:Int):=of_decide_eq_true (by first | (with_reducible assumption) | assumption);have g':x5_1 < (l0.length:Int):=of_decide_eq_true (by first | (with_reducible assumption) | assumption);obtain ⟨s',t',l'⟩:=Kd.at_int HR0.out x5_1 h' g';obtain rfl:p'=s':=(by injection t');replace h':=eq_true h';replace g':=eq_true g';go_wp2
       repeat (go_quiet (fail);try go_wp2)
       go_meet
       case rel=>exact ⟨_,(decide ((rd l0 x5_1) ≥ a1)),(by first | rfl | (simp;done) | (simp [*];done)),H',⟨by have:=HK1.out;first | omega | exact Nat.le_refl _⟩,by repeat (first | exact Drawn0.refl _ | apply Drawn0.step)⟩
     ·rw [if_neg c5] at H
      exact absurd H (by simp)
    case rest =>
     clear HC4;(try clear p2);(try clear c3);(try clear c3b0);(try clear p3);(try clear q3);(try clear hx3);(try clear c5);(try clear c5b0);(try clear c6);(try clear c6b0);(try clear i');(try clear l');(try clear p2);(try clear b');(try clear h');(try clear a');(try clear g');obtain ⟨kq,x25_3,rfl,HA,HJ3,⟨mc3,rfl⟩⟩:=hcut
     cases kq with
     | zero=>exact absurd HA.out (by simp [phasorref08_unlike.j1])
     | succ kj3 =>
      have H:=HA.out;clear HA;simp only [phasorref08_unlike.j1] at H;by_cases c7:x25_3=true
      ·subst c7
       have H1:(some false)=some r:=by rw [if_pos rfl] at H;exact H
       clear H;have H:=H1;clear H1;obtain rfl:=Option.some.inj H;go_wp2
       repeat (go_quiet (fail);try go_wp2)
       go_ret
       exact ⟨by first | rfl | (simp;done) | (simp [*];done),by repeat (first | exact Drawn0.refl _ | apply Drawn0.step)⟩
      ·replace c7:=Bool.eq_false_iff.mpr c7
       subst c7;have H1:(phasorref08_unlike.l1 kj3 l0 a1 x5_1 0)=some r:=by rw [if_neg (show ¬ (false=true) by decide)] at H;exact H
       clear H;have H:=H1;clear H1;have H':=Qh H;clear H;go_wp2
       repeat (go_quiet (fail);try go_wp2)
       go_loopg [6] kj3 (fun kq v6 w'=>∃ (x6_3:Int),v6=.int .i64 x6_3∧Aside0 (phasorref08_unlike.l1 kq l0 a1 x5_1 x6_3=some r)∧Aside0 (kq≤kj3)∧Drawn0 w w')
       case atStart=>exact ⟨(0),(by first | rfl | (simp;done) | (simp [*];done)),H',⟨Nat.le_refl _⟩,by repeat (first | exact Drawn0.refl _ | apply Drawn0.step)⟩
       case round =>
        clear H';(try clear p2);(try clear c3);(try clear c3b0);(try clear p3);(try clear q3);(try clear hx3);(try clear c5);(try clear c5b0);(try clear c6);(try clear c6b0);(try clear c7);(try clear i');(try clear l');(try clear p2);(try clear p3);(try clear b');(try clear h');(try clear q3);(try clear a');(try clear g');obtain ⟨x6_3,rfl,HA,HK3,⟨m3,rfl⟩⟩:=hrel
        cases gk with
        | zero=>exact absurd HA.out (by simp [phasorref08_unlike.l1])
        | succ k3 =>
         have H:=HA.out;clear HA;simp only [phasorref08_unlike.l1] at H;by_cases c8:x6_3 < x5_1
         ·rw [if_pos c8] at H
          have c8b0:decide (x6_3 < x5_1)=true:=decide_eq_true c8;clear c8;by_cases c9:0≤x6_3
          ·rw [if_pos c9] at H
           have c9b0:decide (0≤x6_3)=true:=decide_eq_true c9;clear c9;by_cases c10:x6_3 < (l0.length:Int)
           ·rw [if_pos c10] at H
            have c10b0:decide (x6_3 < (l0.length:Int))=true:=decide_eq_true c10;clear c10;by_cases c11:0≤x5_1
            ·rw [if_pos c11] at H
             have c11b0:decide (0≤x5_1)=true:=decide_eq_true c11;clear c11;by_cases c12:x5_1 < (l0.length:Int)
             ·rw [if_pos c12] at H
              have c12b0:decide (x5_1 < (l0.length:Int))=true:=decide_eq_true c12;clear c12;by_cases c13:(rd l0 x6_3)=(rd l0 x5_1)
              ·rw [if_pos c13] at H
               have c13b0:((rd l0 x6_3) == (rd l0 x5_1))=true:=beq_iff_eq.mpr c13;have c13b1:((rd l0 x6_3) != (rd l0 x5_1))=false:=bne_eq_false_iff_eq.mpr c13;clear c13;obtain rfl:=Option.some.inj H;have f':0≤(x6_3:Int):=of_decide_eq_true (by first | (with_reducible assumption) | assumption);have d':x6_3 < (l0.length:Int):=of_decide_eq_true (by first | (with_reducible assumption) | assumption);obtain ⟨k',n',r'⟩:=Kd.at_int HR0.out x6_3 f' d'
               cases n'
               replace f':=eq_true f';replace d':=eq_true d';have e':0≤(x5_1:Int):=of_decide_eq_true (by first | (with_reducible assumption) | assumption);have c':x5_1 < (l0.length:Int):=of_decide_eq_true (by first | (with_reducible assumption) | assumption);obtain ⟨j',m',q'⟩:=Kd.at_int HR0.out x5_1 e' c';obtain rfl:k'=j':=(by injection m');replace e':=eq_true e';replace c':=eq_true c';go_wp2
               repeat (go_quiet (fail);try go_wp2)
               go_ret
               exact ⟨by first | rfl | (simp;done) | (simp [*];done),by repeat (first | exact Drawn0.refl _ | apply Drawn0.step)⟩
              ·rw [if_neg c13] at H
               have c13b0:((rd l0 x6_3) == (rd l0 x5_1))=false:=beq_eq_false_iff_ne.mpr c13;have c13b1:((rd l0 x6_3) != (rd l0 x5_1))=true:=bne_iff_ne.mpr c13;have H':=Qh H;clear H;have f':0≤(x6_3:Int):=of_decide_eq_true (by first | (with_reducible assumption) | assumption);have d':x6_3 < (l0.length:Int):=of_decide_eq_true (by first | (with_reducible assumption) | assumption);obtain ⟨k',n',r'⟩:=Kd.at_int HR0.out x6_3 f' d'
               cases n'
               replace f':=eq_true f';replace d':=eq_true d';have e':0≤(x5_1:Int):=of_decide_eq_true (by first | (with_reducible assumption) | assumption);have c':x5_1 < (l0.length:Int):=of_decide_eq_true (by first | (with_reducible assumption) | assumption);obtain ⟨j',m',q'⟩:=Kd.at_int HR0.out x5_1 e' c';obtain rfl:k'=j':=(by injection m');replace e':=eq_true e';replace c':=eq_true c';go_wp2
               repeat (go_quiet (fail);try go_wp2)
               go_roundg k3
               case measure=>have:=HK1.out;have:=HJ3.out;have:=HK3.out;omega
               case rel=>exact ⟨(wrap64 (x6_3 + 1)),(by first | rfl | (simp;done) | (simp [*];done)),H',⟨by have:=HK1.out;have:=HJ3.out;have:=HK3.out;omega⟩,by repeat (first | exact Drawn0.refl _ | apply Drawn0.step)⟩
             ·rw [if_neg c12] at H
              exact absurd H (by simp)
            ·rw [if_neg c11] at H
             exact absurd H (by simp)
           ·rw [if_neg c10] at H
            exact absurd H (by simp)
          ·rw [if_neg c9] at H
           exact absurd H (by simp)
         ·rw [if_neg c8] at H
          have c8b0:decide (x6_3 < x5_1)=false:=decide_eq_false c8;clear c8;have H':=Qh H;clear H;go_wp2
          repeat (go_quiet (fail);try go_wp2)
          go_roundg k3
          case measure=>have:=HK1.out;have:=HJ3.out;have:=HK3.out;omega
          case rel=>exact ⟨(wrap64 (x5_1 + 1)),(by first | rfl | (simp;done) | (simp [*];done)),H',⟨by have:=HK1.out;have:=HJ3.out;have:=HK3.out;omega⟩,by repeat (first | exact Drawn0.refl _ | apply Drawn0.step)⟩
   ·rw [if_neg c3] at H
    have c3b0:decide (x5_1 < (l0.length:Int))=false:=decide_eq_false c3;clear c3;obtain rfl:=Option.some.inj H;go_wp2
    repeat (go_quiet (fail);try go_wp2)
    go_ret
    exact ⟨by first | rfl | (simp;done) | (simp [*];done),by repeat (first | exact Drawn0.refl _ | apply Drawn0.step)⟩
def phasorref08_Op.j0:Nat→Int→Int→Bool→Int→Int→List Int→Int→Int→Int→Option (Bool)
 | 0,_,_,_,_,_,_,_,_,_=>none
 | k + 1,x1,x2,x7,x28102000,x28102001,x28102002,x28102003,x28102004,x28102005=>if x28102000=1 then ((phasorref06_Check.f k x28102001 x28102002 x1).bind fun t28102=>(if t28102=0 then (if x28102003=0 then (if x7=true then (some true) else (if x28102004 ≥ 0 then (if x28102004 < x2 then (if x28102005=0 then (some true) else (some (x28102005 == 1))) else (some false)) else (some false))) else (some false)) else (some false))) else (if x28102000=2 then (if x28102001=0 then (if (x28102002.length:Int)=1 then ((phasorref08_unlike.f k x28102002 x1).bind fun t28103=>(if t28103=true then (if x28102003 ≥ 0 then (if x28102003 < x2 then (some x7) else (some false)) else (some false)) else (some false))) else (some false)) else (some false)) else (if x28102000=3 then (if x28102001=0 then (if (x28102002.length:Int)=1 then ((phasorref08_unlike.f k x28102002 x1).bind fun t28104=>(if t28104=true then (if x28102003=0 then (some x7) else (some false)) else (some false))) else (some false)) else (some false)) else (if x28102000=4 then (if x28102001=0 then (if (x28102002.length:Int) > 0 then ((phasorref08_unlike.f k x28102002 x1).bind fun t28105=>(if t28105=true then (if x28102003=0 then (some x7) else (some false)) else (some false))) else (some false)) else (some false)) else (some false))))
def phasorref08_Op.f (k:Nat) (a0_0:Int) (a0_1:Int) (l0_2:List Int) (a0_3:Int) (a0_4:Int) (a0_5:Int) (a1:Int) (a2:Int):Option (Bool):=if a0_4=(-1) then (phasorref08_Op.j0 k a1 a2 (a0_5 == 0) a0_0 a0_1 l0_2 a0_3 a0_4 a0_5) else (phasorref08_Op.j0 k a1 a2 false a0_0 a0_1 l0_2 a0_3 a0_4 a0_5)
set_option maxHeartbeats 8000000 in
set_option maxRecDepth 100000 in
theorem phasorref08_Op.calls (k:Nat) (a0_0:Int) (a0_1:Int) (A0_2:Option Addr) (c0_2:Nat) (l0_2:List Int) (a0_3:Int) (a0_4:Int) (a0_5:Int) (a1:Int) (a2:Int) (r:Bool) (w:World) (hr0_2:Kd.C (Kd.int .i64) w A0_2 l0_2.length l0_2) (hc0_2:l0_2.length≤c0_2) (h:phasorref08_Op.f k a0_0 a0_1 l0_2 a0_3 a0_4 a0_5 a1 a2=some r) :
  Calls Try.prog 56 #[.agg #[.int .i64 a0_0,.int .i64 a0_1,.slice A0_2 l0_2.length c0_2,.int .i64 a0_3,.int .i64 a0_4,.int .i64 a0_5],.int .i64 a1,.int .i64 a2] w fun e w'=>e=.returned (.bool r)∧Below w.heap.size w w':=by
 have hu57:=Try.underlying57;have HR0_2:=Qh hr0_2;have HC0_2:=Qh hc0_2;clear hr0_2 hc0_2;have HB:=Qh (Below.refl w.heap.size w);have H:(if a0_4=(-1) then (phasorref08_Op.j0 k a1 a2 (a0_5 == 0) a0_0 a0_1 l0_2 a0_3 a0_4 a0_5) else (phasorref08_Op.j0 k a1 a2 false a0_0 a0_1 l0_2 a0_3 a0_4 a0_5))=some r:=h;clear h;have HC4:=Qh H;clear H;go_enter Try.func56,Try.ntmps56
 go_upto_region 1 with (first | ((with_reducible refine gate_dst (N:=3) rfl ?_);(try (refine gate_guard (by rfl) ?_;dsimp only));refine box_event ?hg (N:=3) ?hd (cs:=#[.int .i64 a0_0,.int .i64 a0_1,.slice A0_2 l0_2.length c0_2,.int .i64 a0_3,.int .i64 a0_4,.int .i64 a0_5]) (t:=57) ?hr ?_;(case hd=>rfl);(case hg=>rfl);(case hr=>first | (go_simp;done) | (go_simp;rfl));intro b' hg w5 hbox hb;have n0_:=Qh (Qr (by repeat (first | (with_reducible first | exact HB.out | apply Qd | apply Qe | apply Qf) | exact HB.out)) hb);have n1_:=Qh (hbox);have n2_:=Qh ((by rw [hg];exact (Qs (by repeat (first | (with_reducible first | exact HB.out | apply Qd | apply Qe | apply Qf) | exact HB.out))):w.heap.size≤b'));have n3_:=Qh ((by rw [hg];exact (Qs (by repeat (first | (with_reducible first | exact HB.out | apply Qd | apply Qe | apply Qf) | exact HB.out))):w.heap.size≤b'));clear HB;have HB:=n0_;have a':=n1_;have lm':=n2_;have c':=n3_;clear n0_ n1_ n2_ n3_;clear hb hbox hg))
 (try simp only [Act.put,List.setIfInBounds_toArray,List.set_cons_zero,List.set_cons_succ])
 go_cut [7] (fun v7 wc=>∃ (kq:Nat) (x7_3:Bool),v7=.bool x7_3∧Aside0 (phasorref08_Op.j0 kq a1 a2 x7_3 a0_0 a0_1 l0_2 a0_3 a0_4 a0_5=some r)∧Aside0 (kq≤k)∧Aside0 (wc.heap[b']?=some (.cells #[.int .i64 a0_0,.int .i64 a0_1,(.slice A0_2 l0_2.length c0_2),.int .i64 a0_3,.int .i64 a0_4,.int .i64 a0_5] 57 (0,0)))∧Aside0 (Below w.heap.size w wc))
 case first =>
  have H:=HC4.out;clear HC4;by_cases c6:a0_4=(-1)
  ·rw [if_pos c6] at H
   have c6b0:(a0_4 == (-1))=true:=beq_iff_eq.mpr c6;have c6b1:(a0_4 != (-1))=false:=bne_eq_false_iff_eq.mpr c6;clear c6;(first | rw [c6b0] | (simp only [i64_w,i32_w];rw [c6b0]) | skip)
   have H':=Qh H;clear H;have af':w5.cell? ⟨b',0,none⟩=some (.int .i64 a0_0):=(Qi a'.out 0).trans rfl;have ae':w5.cell? ⟨b',1,none⟩=some (.int .i64 a0_1):=(Qi a'.out 1).trans rfl;have ad':w5.cell? ⟨b',2,none⟩=some (.slice A0_2 l0_2.length c0_2):=(Qi a'.out 2).trans rfl;have ac':w5.cell? ⟨b',3,none⟩=some (.int .i64 a0_3):=(Qi a'.out 3).trans rfl;have ab':w5.cell? ⟨b',4,none⟩=some (.int .i64 a0_4):=(Qi a'.out 4).trans rfl;have aa':w5.cell? ⟨b',5,none⟩=some (.int .i64 a0_5):=(Qi a'.out 5).trans rfl;have s':=Qj a'.out 0;have r':=Qj a'.out 1;have q':=Qj a'.out 2;have p':=Qj a'.out 3;have o':=Qj a'.out 4;have n':=Qj a'.out 5;go_wp2
   go_meet
   case rel=>exact ⟨_,((a0_5 == 0)),(by first | rfl | (simp;done) | (simp [*];done)),H',⟨by first | omega | exact Nat.le_refl _⟩,⟨by (with_reducible repeat (first | refine Qa ?_ _ | refine Qb ?_ | refine Qc ?_ _));exact a'.out⟩,⟨by repeat (first | (with_reducible first | exact HB.out | apply Qd | apply Qe | apply Qf | refine Qg ?_ c'.out) | exact HB.out)⟩⟩
  ·rw [if_neg c6] at H
   have c6b0:(a0_4 == (-1))=false:=beq_eq_false_iff_ne.mpr c6;have c6b1:(a0_4 != (-1))=true:=bne_iff_ne.mpr c6;(first | rw [c6b0] | (simp only [i64_w,i32_w];rw [c6b0]) | skip)
   have H':=Qh H;clear H;have z':w5.cell? ⟨b',0,none⟩=some (.int .i64 a0_0):=(Qi a'.out 0).trans rfl;have y':w5.cell? ⟨b',1,none⟩=some (.int .i64 a0_1):=(Qi a'.out 1).trans rfl;have x':w5.cell? ⟨b',2,none⟩=some (.slice A0_2 l0_2.length c0_2):=(Qi a'.out 2).trans rfl;have v':w5.cell? ⟨b',3,none⟩=some (.int .i64 a0_3):=(Qi a'.out 3).trans rfl;have u':w5.cell? ⟨b',4,none⟩=some (.int .i64 a0_4):=(Qi a'.out 4).trans rfl;have t':w5.cell? ⟨b',5,none⟩=some (.int .i64 a0_5):=(Qi a'.out 5).trans rfl;have m':=Qj a'.out 0;have l':=Qj a'.out 1;have k':=Qj a'.out 2;have j':=Qj a'.out 3;have i':=Qj a'.out 4;have h':=Qj a'.out 5;go_wp2
   go_meet
   case rel=>exact ⟨_,(false),(by first | rfl | (simp;done) | (simp [*];done)),H',⟨by first | omega | exact Nat.le_refl _⟩,⟨by (with_reducible repeat (first | refine Qa ?_ _ | refine Qb ?_ | refine Qc ?_ _));exact a'.out⟩,⟨by repeat (first | (with_reducible first | exact HB.out | apply Qd | apply Qe | apply Qf | refine Qg ?_ c'.out) | exact HB.out)⟩⟩
 case rest =>
  clear HC4;(try clear p2);(try clear c5);(try clear c6);(try clear c6b0);(try clear c6b1);(try clear af');(try clear ae');(try clear ad');(try clear ac');(try clear ab');(try clear aa');(try clear z');(try clear y');(try clear x');(try clear v');(try clear u');(try clear t');(try clear s');(try clear r');(try clear q');(try clear p');(try clear o');(try clear n');(try clear m');(try clear l');(try clear k');(try clear j');(try clear i');(try clear h');obtain ⟨kq,x7_3,rfl,HA,HJ3,a',HB⟩:=hcut
  cases kq with
  | zero=>exact absurd HA.out (by simp [phasorref08_Op.j0])
  | succ kj3 =>
   have H:=HA.out;clear HA;simp only [phasorref08_Op.j0] at H;by_cases c9:a0_0=1
   ·rw [if_pos c9] at H
    have c9b0:(a0_0 == 1)=true:=beq_iff_eq.mpr c9;have c9b1:(a0_0 != 1)=false:=bne_eq_false_iff_eq.mpr c9;clear c9;replace H:=Option.bind_eq_some_iff.mp H;obtain ⟨d',aj',H⟩:=H;replace H:(if d'=0 then (if a0_3=0 then (if x7_3=true then (some true) else (if a0_4 ≥ 0 then (if a0_4 < a2 then (if a0_5=0 then (some true) else (some (a0_5 == 1))) else (some false)) else (some false))) else (some false)) else (some false))=some r:=H
    have A10:=Qh aj';clear aj';by_cases c11:d'=0
    ·rw [if_pos c11] at H
     have c11b0:(d' == 0)=true:=beq_iff_eq.mpr c11;have c11b1:(d' != 0)=false:=bne_eq_false_iff_eq.mpr c11;clear c11;by_cases c12:a0_3=0
     ·rw [if_pos c12] at H
      have c12b0:(a0_3 == 0)=true:=beq_iff_eq.mpr c12;have c12b1:(a0_3 != 0)=false:=bne_eq_false_iff_eq.mpr c12;clear c12;by_cases c13:x7_3=true
      ·subst c13
       have H1:(some true)=some r:=by rw [if_pos rfl] at H;exact H
       clear H;have H:=H1;clear H1;obtain rfl:=Option.some.inj H;have ll':wc.cell? ⟨b',0,none⟩=some (.int .i64 a0_0):=(Qi a'.out 0).trans rfl;have lk':wc.cell? ⟨b',1,none⟩=some (.int .i64 a0_1):=(Qi a'.out 1).trans rfl;have lj':wc.cell? ⟨b',2,none⟩=some (.slice A0_2 l0_2.length c0_2):=(Qi a'.out 2).trans rfl;have li':wc.cell? ⟨b',3,none⟩=some (.int .i64 a0_3):=(Qi a'.out 3).trans rfl;have lh':wc.cell? ⟨b',4,none⟩=some (.int .i64 a0_4):=(Qi a'.out 4).trans rfl;have lg':wc.cell? ⟨b',5,none⟩=some (.int .i64 a0_5):=(Qi a'.out 5).trans rfl;have fx':=Qj a'.out 0;have fw':=Qj a'.out 1;have fv':=Qj a'.out 2;have fu':=Qj a'.out 3;have ft':=Qj a'.out 4;have fs':=Qj a'.out 5;go_wp2_with (first | ((with_reducible refine gate_callee (f:=62) rfl ?_);refine goesL_ (some 25) rfl rfl Try.func62 (by kernel_rfl) rfl #[.int .i64 a0_1,.slice A0_2 l0_2.length c0_2,.int .i64 a1] rfl (by (try simp only [List.map_toArray,List.map_cons,List.map_nil]);first | done | rfl | (simp only [List.length_drop,List.length_take];rfl)) ?_;(with_reducible refine (phasorref06_Check.calls kj3 a0_1 _ _ l0_2 a1 d' _ ?side1 ?side2 A10.out).mono ?_);(case side1=>repeat (first | exact (Qt HR0_2.out HB.out) | (with_reducible refine Kd.C_alloc ?_ _) | (with_reducible refine Kd.C_drewN ?_ _) | (with_reducible refine Kd.C_drew ?_)));(case side2=>exact HC0_2.out);rintro e w' ⟨rfl,⟨nd,rfl⟩⟩;refine ⟨_,rfl,?_⟩))
       go_ret
       exact ⟨by first | rfl | (simp [errW_none,errW_some]<;>rfl) | (simp [*,errW_none,errW_some]<;>rfl),by repeat (first | (with_reducible first | exact HB.out | apply Qd | apply Qe | apply Qf | refine Qg ?_ c'.out) | exact HB.out)⟩
      ·replace c13:=Bool.eq_false_iff.mpr c13
       subst c13;have H1:(if a0_4 ≥ 0 then (if a0_4 < a2 then (if a0_5=0 then (some true) else (some (a0_5 == 1))) else (some false)) else (some false))=some r:=by rw [if_neg (show ¬ (false=true) by decide)] at H;exact H
       clear H;have H:=H1;clear H1;by_cases c15:a0_4 ≥ 0
       ·rw [if_pos c15] at H
        have c15b0:decide (0≤a0_4)=true:=decide_eq_true c15;clear c15;by_cases c16:a0_4 < a2
        ·rw [if_pos c16] at H
         have c16b0:decide (a0_4 < a2)=true:=decide_eq_true c16;clear c16;by_cases c17:a0_5=0
         ·rw [if_pos c17] at H
          have c17b0:(a0_5 == 0)=true:=beq_iff_eq.mpr c17;have c17b1:(a0_5 != 0)=false:=bne_eq_false_iff_eq.mpr c17;clear c17;obtain rfl:=Option.some.inj H;have lf':wc.cell? ⟨b',0,none⟩=some (.int .i64 a0_0):=(Qi a'.out 0).trans rfl;have le':wc.cell? ⟨b',1,none⟩=some (.int .i64 a0_1):=(Qi a'.out 1).trans rfl;have ld':wc.cell? ⟨b',2,none⟩=some (.slice A0_2 l0_2.length c0_2):=(Qi a'.out 2).trans rfl;have lc':wc.cell? ⟨b',3,none⟩=some (.int .i64 a0_3):=(Qi a'.out 3).trans rfl;have lb':wc.cell? ⟨b',4,none⟩=some (.int .i64 a0_4):=(Qi a'.out 4).trans rfl;have la':wc.cell? ⟨b',5,none⟩=some (.int .i64 a0_5):=(Qi a'.out 5).trans rfl;have fr':=Qj a'.out 0;have fq':=Qj a'.out 1;have fp':=Qj a'.out 2;have fo':=Qj a'.out 3;have fn':=Qj a'.out 4;have fm':=Qj a'.out 5;go_wp2_with (first | ((with_reducible refine gate_callee (f:=62) rfl ?_);refine goesL_ (some 25) rfl rfl Try.func62 (by kernel_rfl) rfl #[.int .i64 a0_1,.slice A0_2 l0_2.length c0_2,.int .i64 a1] rfl (by (try simp only [List.map_toArray,List.map_cons,List.map_nil]);first | done | rfl | (simp only [List.length_drop,List.length_take];rfl)) ?_;(with_reducible refine (phasorref06_Check.calls kj3 a0_1 _ _ l0_2 a1 d' _ ?side1 ?side2 A10.out).mono ?_);(case side1=>repeat (first | exact (Qt HR0_2.out HB.out) | (with_reducible refine Kd.C_alloc ?_ _) | (with_reducible refine Kd.C_drewN ?_ _) | (with_reducible refine Kd.C_drew ?_)));(case side2=>exact HC0_2.out);rintro e w' ⟨rfl,⟨nd,rfl⟩⟩;refine ⟨_,rfl,?_⟩))
          go_ret
          exact ⟨by first | rfl | (simp [errW_none,errW_some]<;>rfl) | (simp [*,errW_none,errW_some]<;>rfl),by repeat (first | (with_reducible first | exact HB.out | apply Qd | apply Qe | apply Qf | refine Qg ?_ c'.out) | exact HB.out)⟩
         ·rw [if_neg c17] at H
          have c17b0:(a0_5 == 0)=false:=beq_eq_false_iff_ne.mpr c17;have c17b1:(a0_5 != 0)=true:=bne_iff_ne.mpr c17;obtain rfl:=Option.some.inj H;have kz':wc.cell? ⟨b',0,none⟩=some (.int .i64 a0_0):=(Qi a'.out 0).trans rfl;have ky':wc.cell? ⟨b',1,none⟩=some (.int .i64 a0_1):=(Qi a'.out 1).trans rfl;have kx':wc.cell? ⟨b',2,none⟩=some (.slice A0_2 l0_2.length c0_2):=(Qi a'.out 2).trans rfl;have kw':wc.cell? ⟨b',3,none⟩=some (.int .i64 a0_3):=(Qi a'.out 3).trans rfl;have kv':wc.cell? ⟨b',4,none⟩=some (.int .i64 a0_4):=(Qi a'.out 4).trans rfl;have ku':wc.cell? ⟨b',5,none⟩=some (.int .i64 a0_5):=(Qi a'.out 5).trans rfl;have fl':=Qj a'.out 0;have fk':=Qj a'.out 1;have fj':=Qj a'.out 2;have fi':=Qj a'.out 3;have fh':=Qj a'.out 4;have fg':=Qj a'.out 5;go_wp2_with (first | ((with_reducible refine gate_callee (f:=62) rfl ?_);refine goesL_ (some 25) rfl rfl Try.func62 (by kernel_rfl) rfl #[.int .i64 a0_1,.slice A0_2 l0_2.length c0_2,.int .i64 a1] rfl (by (try simp only [List.map_toArray,List.map_cons,List.map_nil]);first | done | rfl | (simp only [List.length_drop,List.length_take];rfl)) ?_;(with_reducible refine (phasorref06_Check.calls kj3 a0_1 _ _ l0_2 a1 d' _ ?side1 ?side2 A10.out).mono ?_);(case side1=>repeat (first | exact (Qt HR0_2.out HB.out) | (with_reducible refine Kd.C_alloc ?_ _) | (with_reducible refine Kd.C_drewN ?_ _) | (with_reducible refine Kd.C_drew ?_)));(case side2=>exact HC0_2.out);rintro e w' ⟨rfl,⟨nd,rfl⟩⟩;refine ⟨_,rfl,?_⟩))
          go_ret
          exact ⟨by first | rfl | (simp [errW_none,errW_some]<;>rfl) | (simp [*,errW_none,errW_some]<;>rfl),by repeat (first | (with_reducible first | exact HB.out | apply Qd | apply Qe | apply Qf | refine Qg ?_ c'.out) | exact HB.out)⟩
        ·rw [if_neg c16] at H
         have c16b0:decide (a0_4 < a2)=false:=decide_eq_false c16;clear c16;obtain rfl:=Option.some.inj H;have kt':wc.cell? ⟨b',0,none⟩=some (.int .i64 a0_0):=(Qi a'.out 0).trans rfl;have ks':wc.cell? ⟨b',1,none⟩=some (.int .i64 a0_1):=(Qi a'.out 1).trans rfl;have kr':wc.cell? ⟨b',2,none⟩=some (.slice A0_2 l0_2.length c0_2):=(Qi a'.out 2).trans rfl;have kq':wc.cell? ⟨b',3,none⟩=some (.int .i64 a0_3):=(Qi a'.out 3).trans rfl;have kp':wc.cell? ⟨b',4,none⟩=some (.int .i64 a0_4):=(Qi a'.out 4).trans rfl;have ko':wc.cell? ⟨b',5,none⟩=some (.int .i64 a0_5):=(Qi a'.out 5).trans rfl;have ff':=Qj a'.out 0;have fe':=Qj a'.out 1;have fd':=Qj a'.out 2;have fc':=Qj a'.out 3;have fb':=Qj a'.out 4;have fa':=Qj a'.out 5;go_wp2_with (first | ((with_reducible refine gate_callee (f:=62) rfl ?_);refine goesL_ (some 25) rfl rfl Try.func62 (by kernel_rfl) rfl #[.int .i64 a0_1,.slice A0_2 l0_2.length c0_2,.int .i64 a1] rfl (by (try simp only [List.map_toArray,List.map_cons,List.map_nil]);first | done | rfl | (simp only [List.length_drop,List.length_take];rfl)) ?_;(with_reducible refine (phasorref06_Check.calls kj3 a0_1 _ _ l0_2 a1 d' _ ?side1 ?side2 A10.out).mono ?_);(case side1=>repeat (first | exact (Qt HR0_2.out HB.out) | (with_reducible refine Kd.C_alloc ?_ _) | (with_reducible refine Kd.C_drewN ?_ _) | (with_reducible refine Kd.C_drew ?_)));(case side2=>exact HC0_2.out);rintro e w' ⟨rfl,⟨nd,rfl⟩⟩;refine ⟨_,rfl,?_⟩))
         go_ret
         exact ⟨by first | rfl | (simp [errW_none,errW_some]<;>rfl) | (simp [*,errW_none,errW_some]<;>rfl),by repeat (first | (with_reducible first | exact HB.out | apply Qd | apply Qe | apply Qf | refine Qg ?_ c'.out) | exact HB.out)⟩
       ·rw [if_neg c15] at H
        have c15b0:decide (0≤a0_4)=false:=decide_eq_false c15;clear c15;obtain rfl:=Option.some.inj H;have kn':wc.cell? ⟨b',0,none⟩=some (.int .i64 a0_0):=(Qi a'.out 0).trans rfl;have km':wc.cell? ⟨b',1,none⟩=some (.int .i64 a0_1):=(Qi a'.out 1).trans rfl;have kl':wc.cell? ⟨b',2,none⟩=some (.slice A0_2 l0_2.length c0_2):=(Qi a'.out 2).trans rfl;have kk':wc.cell? ⟨b',3,none⟩=some (.int .i64 a0_3):=(Qi a'.out 3).trans rfl;have kj':wc.cell? ⟨b',4,none⟩=some (.int .i64 a0_4):=(Qi a'.out 4).trans rfl;have ki':wc.cell? ⟨b',5,none⟩=some (.int .i64 a0_5):=(Qi a'.out 5).trans rfl;have ez':=Qj a'.out 0;have ey':=Qj a'.out 1;have ex':=Qj a'.out 2;have ew':=Qj a'.out 3;have ev':=Qj a'.out 4;have eu':=Qj a'.out 5;go_wp2_with (first | ((with_reducible refine gate_callee (f:=62) rfl ?_);refine goesL_ (some 25) rfl rfl Try.func62 (by kernel_rfl) rfl #[.int .i64 a0_1,.slice A0_2 l0_2.length c0_2,.int .i64 a1] rfl (by (try simp only [List.map_toArray,List.map_cons,List.map_nil]);first | done | rfl | (simp only [List.length_drop,List.length_take];rfl)) ?_;(with_reducible refine (phasorref06_Check.calls kj3 a0_1 _ _ l0_2 a1 d' _ ?side1 ?side2 A10.out).mono ?_);(case side1=>repeat (first | exact (Qt HR0_2.out HB.out) | (with_reducible refine Kd.C_alloc ?_ _) | (with_reducible refine Kd.C_drewN ?_ _) | (with_reducible refine Kd.C_drew ?_)));(case side2=>exact HC0_2.out);rintro e w' ⟨rfl,⟨nd,rfl⟩⟩;refine ⟨_,rfl,?_⟩))
        go_ret
        exact ⟨by first | rfl | (simp [errW_none,errW_some]<;>rfl) | (simp [*,errW_none,errW_some]<;>rfl),by repeat (first | (with_reducible first | exact HB.out | apply Qd | apply Qe | apply Qf | refine Qg ?_ c'.out) | exact HB.out)⟩
     ·rw [if_neg c12] at H
      have c12b0:(a0_3 == 0)=false:=beq_eq_false_iff_ne.mpr c12;have c12b1:(a0_3 != 0)=true:=bne_iff_ne.mpr c12;obtain rfl:=Option.some.inj H;have kh':wc.cell? ⟨b',0,none⟩=some (.int .i64 a0_0):=(Qi a'.out 0).trans rfl;have kg':wc.cell? ⟨b',1,none⟩=some (.int .i64 a0_1):=(Qi a'.out 1).trans rfl;have kf':wc.cell? ⟨b',2,none⟩=some (.slice A0_2 l0_2.length c0_2):=(Qi a'.out 2).trans rfl;have ke':wc.cell? ⟨b',3,none⟩=some (.int .i64 a0_3):=(Qi a'.out 3).trans rfl;have kd':wc.cell? ⟨b',4,none⟩=some (.int .i64 a0_4):=(Qi a'.out 4).trans rfl;have kc':wc.cell? ⟨b',5,none⟩=some (.int .i64 a0_5):=(Qi a'.out 5).trans rfl;have et':=Qj a'.out 0;have es':=Qj a'.out 1;have er':=Qj a'.out 2;have eq':=Qj a'.out 3;have ep':=Qj a'.out 4;have eo':=Qj a'.out 5;go_wp2_with (first | ((with_reducible refine gate_callee (f:=62) rfl ?_);refine goesL_ (some 25) rfl rfl Try.func62 (by kernel_rfl) rfl #[.int .i64 a0_1,.slice A0_2 l0_2.length c0_2,.int .i64 a1] rfl (by (try simp only [List.map_toArray,List.map_cons,List.map_nil]);first | done | rfl | (simp only [List.length_drop,List.length_take];rfl)) ?_;(with_reducible refine (phasorref06_Check.calls kj3 a0_1 _ _ l0_2 a1 d' _ ?side1 ?side2 A10.out).mono ?_);(case side1=>repeat (first | exact (Qt HR0_2.out HB.out) | (with_reducible refine Kd.C_alloc ?_ _) | (with_reducible refine Kd.C_drewN ?_ _) | (with_reducible refine Kd.C_drew ?_)));(case side2=>exact HC0_2.out);rintro e w' ⟨rfl,⟨nd,rfl⟩⟩;refine ⟨_,rfl,?_⟩))
      go_ret
      exact ⟨by first | rfl | (simp [errW_none,errW_some]<;>rfl) | (simp [*,errW_none,errW_some]<;>rfl),by repeat (first | (with_reducible first | exact HB.out | apply Qd | apply Qe | apply Qf | refine Qg ?_ c'.out) | exact HB.out)⟩
    ·rw [if_neg c11] at H
     have c11b0:(d' == 0)=false:=beq_eq_false_iff_ne.mpr c11;have c11b1:(d' != 0)=true:=bne_iff_ne.mpr c11;obtain rfl:=Option.some.inj H;have kb':wc.cell? ⟨b',0,none⟩=some (.int .i64 a0_0):=(Qi a'.out 0).trans rfl;have ka':wc.cell? ⟨b',1,none⟩=some (.int .i64 a0_1):=(Qi a'.out 1).trans rfl;have jz':wc.cell? ⟨b',2,none⟩=some (.slice A0_2 l0_2.length c0_2):=(Qi a'.out 2).trans rfl;have jy':wc.cell? ⟨b',3,none⟩=some (.int .i64 a0_3):=(Qi a'.out 3).trans rfl;have jx':wc.cell? ⟨b',4,none⟩=some (.int .i64 a0_4):=(Qi a'.out 4).trans rfl;have jw':wc.cell? ⟨b',5,none⟩=some (.int .i64 a0_5):=(Qi a'.out 5).trans rfl;have en':=Qj a'.out 0;have em':=Qj a'.out 1;have el':=Qj a'.out 2;have ek':=Qj a'.out 3;have ej':=Qj a'.out 4;have ei':=Qj a'.out 5;go_wp2_with (first | ((with_reducible refine gate_callee (f:=62) rfl ?_);refine goesL_ (some 25) rfl rfl Try.func62 (by kernel_rfl) rfl #[.int .i64 a0_1,.slice A0_2 l0_2.length c0_2,.int .i64 a1] rfl (by (try simp only [List.map_toArray,List.map_cons,List.map_nil]);first | done | rfl | (simp only [List.length_drop,List.length_take];rfl)) ?_;(with_reducible refine (phasorref06_Check.calls kj3 a0_1 _ _ l0_2 a1 d' _ ?side1 ?side2 A10.out).mono ?_);(case side1=>repeat (first | exact (Qt HR0_2.out HB.out) | (with_reducible refine Kd.C_alloc ?_ _) | (with_reducible refine Kd.C_drewN ?_ _) | (with_reducible refine Kd.C_drew ?_)));(case side2=>exact HC0_2.out);rintro e w' ⟨rfl,⟨nd,rfl⟩⟩;refine ⟨_,rfl,?_⟩))
     go_ret
     exact ⟨by first | rfl | (simp [errW_none,errW_some]<;>rfl) | (simp [*,errW_none,errW_some]<;>rfl),by repeat (first | (with_reducible first | exact HB.out | apply Qd | apply Qe | apply Qf | refine Qg ?_ c'.out) | exact HB.out)⟩
   ·rw [if_neg c9] at H
    have c9b0:(a0_0 == 1)=false:=beq_eq_false_iff_ne.mpr c9;have c9b1:(a0_0 != 1)=true:=bne_iff_ne.mpr c9;by_cases c24:a0_0=2
    ·rw [if_pos c24] at H
     have c24b0:(a0_0 == 2)=true:=beq_iff_eq.mpr c24;have c24b1:(a0_0 != 2)=false:=bne_eq_false_iff_eq.mpr c24;clear c24;by_cases c25:a0_1=0
     ·rw [if_pos c25] at H
      have c25b0:(a0_1 == 0)=true:=beq_iff_eq.mpr c25;have c25b1:(a0_1 != 0)=false:=bne_eq_false_iff_eq.mpr c25;clear c25;by_cases c26:(l0_2.length:Int)=1
      ·rw [if_pos c26] at H
       have c26b0:((l0_2.length:Int) == 1)=true:=beq_iff_eq.mpr c26;have c26b1:((l0_2.length:Int) != 1)=false:=bne_eq_false_iff_eq.mpr c26;clear c26;replace H:=Option.bind_eq_some_iff.mp H;obtain ⟨g',ai',H⟩:=H;replace H:(if g'=true then (if a0_3 ≥ 0 then (if a0_3 < a2 then (some x7_3) else (some false)) else (some false)) else (some false))=some r:=H
       have A27:=Qh ai';clear ai';by_cases c28:g'=true
       ·subst c28
        have H1:(if a0_3 ≥ 0 then (if a0_3 < a2 then (some x7_3) else (some false)) else (some false))=some r:=by rw [if_pos rfl] at H;exact H
        clear H;have H:=H1;clear H1;by_cases c29:a0_3 ≥ 0
        ·rw [if_pos c29] at H
         have c29b0:decide (0≤a0_3)=true:=decide_eq_true c29;clear c29;by_cases c30:a0_3 < a2
         ·rw [if_pos c30] at H
          have c30b0:decide (a0_3 < a2)=true:=decide_eq_true c30;clear c30;obtain rfl:=Option.some.inj H;have jv':wc.cell? ⟨b',0,none⟩=some (.int .i64 a0_0):=(Qi a'.out 0).trans rfl;have ju':wc.cell? ⟨b',1,none⟩=some (.int .i64 a0_1):=(Qi a'.out 1).trans rfl;have jt':wc.cell? ⟨b',2,none⟩=some (.slice A0_2 l0_2.length c0_2):=(Qi a'.out 2).trans rfl;have js':wc.cell? ⟨b',3,none⟩=some (.int .i64 a0_3):=(Qi a'.out 3).trans rfl;have jr':wc.cell? ⟨b',4,none⟩=some (.int .i64 a0_4):=(Qi a'.out 4).trans rfl;have jq':wc.cell? ⟨b',5,none⟩=some (.int .i64 a0_5):=(Qi a'.out 5).trans rfl;have eh':=Qj a'.out 0;have eg':=Qj a'.out 1;have ef':=Qj a'.out 2;have ee':=Qj a'.out 3;have ed':=Qj a'.out 4;have ec':=Qj a'.out 5;go_wp2_with (first | (go_at_call 63;(with_reducible refine (phasorref08_unlike.calls kj3 _ _ l0_2 a1 true _ ?side1 ?side2 A27.out).mono ?_);(case side1=>repeat (first | exact (Qt HR0_2.out HB.out) | (with_reducible refine Kd.C_alloc ?_ _) | (with_reducible refine Kd.C_drewN ?_ _) | (with_reducible refine Kd.C_drew ?_)));(case side2=>exact HC0_2.out);rintro e w' ⟨rfl,⟨nd,rfl⟩⟩))
          go_ret
          exact ⟨by first | rfl | (simp [errW_none,errW_some]<;>rfl) | (simp [*,errW_none,errW_some]<;>rfl),by repeat (first | (with_reducible first | exact HB.out | apply Qd | apply Qe | apply Qf | refine Qg ?_ c'.out) | exact HB.out)⟩
         ·rw [if_neg c30] at H
          have c30b0:decide (a0_3 < a2)=false:=decide_eq_false c30;clear c30;obtain rfl:=Option.some.inj H;have jp':wc.cell? ⟨b',0,none⟩=some (.int .i64 a0_0):=(Qi a'.out 0).trans rfl;have jo':wc.cell? ⟨b',1,none⟩=some (.int .i64 a0_1):=(Qi a'.out 1).trans rfl;have jn':wc.cell? ⟨b',2,none⟩=some (.slice A0_2 l0_2.length c0_2):=(Qi a'.out 2).trans rfl;have jm':wc.cell? ⟨b',3,none⟩=some (.int .i64 a0_3):=(Qi a'.out 3).trans rfl;have jl':wc.cell? ⟨b',4,none⟩=some (.int .i64 a0_4):=(Qi a'.out 4).trans rfl;have jk':wc.cell? ⟨b',5,none⟩=some (.int .i64 a0_5):=(Qi a'.out 5).trans rfl;have eb':=Qj a'.out 0;have ea':=Qj a'.out 1;have dz':=Qj a'.out 2;have dy':=Qj a'.out 3;have dx':=Qj a'.out 4;have dw':=Qj a'.out 5;go_wp2_with (first | (go_at_call 63;(with_reducible refine (phasorref08_unlike.calls kj3 _ _ l0_2 a1 true _ ?side1 ?side2 A27.out).mono ?_);(case side1=>repeat (first | exact (Qt HR0_2.out HB.out) | (with_reducible refine Kd.C_alloc ?_ _) | (with_reducible refine Kd.C_drewN ?_ _) | (with_reducible refine Kd.C_drew ?_)));(case side2=>exact HC0_2.out);rintro e w' ⟨rfl,⟨nd,rfl⟩⟩))
          go_ret
          exact ⟨by first | rfl | (simp [errW_none,errW_some]<;>rfl) | (simp [*,errW_none,errW_some]<;>rfl),by repeat (first | (with_reducible first | exact HB.out | apply Qd | apply Qe | apply Qf | refine Qg ?_ c'.out) | exact HB.out)⟩
        ·rw [if_neg c29] at H
         have c29b0:decide (0≤a0_3)=false:=decide_eq_false c29;clear c29;obtain rfl:=Option.some.inj H;have jj':wc.cell? ⟨b',0,none⟩=some (.int .i64 a0_0):=(Qi a'.out 0).trans rfl;have ji':wc.cell? ⟨b',1,none⟩=some (.int .i64 a0_1):=(Qi a'.out 1).trans rfl;have jh':wc.cell? ⟨b',2,none⟩=some (.slice A0_2 l0_2.length c0_2):=(Qi a'.out 2).trans rfl;have jg':wc.cell? ⟨b',3,none⟩=some (.int .i64 a0_3):=(Qi a'.out 3).trans rfl;have jf':wc.cell? ⟨b',4,none⟩=some (.int .i64 a0_4):=(Qi a'.out 4).trans rfl;have je':wc.cell? ⟨b',5,none⟩=some (.int .i64 a0_5):=(Qi a'.out 5).trans rfl;have dv':=Qj a'.out 0;have du':=Qj a'.out 1;have dt':=Qj a'.out 2;have ds':=Qj a'.out 3;have dr':=Qj a'.out 4;have dq':=Qj a'.out 5;go_wp2_with (first | (go_at_call 63;(with_reducible refine (phasorref08_unlike.calls kj3 _ _ l0_2 a1 true _ ?side1 ?side2 A27.out).mono ?_);(case side1=>repeat (first | exact (Qt HR0_2.out HB.out) | (with_reducible refine Kd.C_alloc ?_ _) | (with_reducible refine Kd.C_drewN ?_ _) | (with_reducible refine Kd.C_drew ?_)));(case side2=>exact HC0_2.out);rintro e w' ⟨rfl,⟨nd,rfl⟩⟩))
         go_ret
         exact ⟨by first | rfl | (simp [errW_none,errW_some]<;>rfl) | (simp [*,errW_none,errW_some]<;>rfl),by repeat (first | (with_reducible first | exact HB.out | apply Qd | apply Qe | apply Qf | refine Qg ?_ c'.out) | exact HB.out)⟩
       ·replace c28:=Bool.eq_false_iff.mpr c28
        subst c28;have H1:(some false)=some r:=by rw [if_neg (show ¬ (false=true) by decide)] at H;exact H
        clear H;have H:=H1;clear H1;obtain rfl:=Option.some.inj H;have jd':wc.cell? ⟨b',0,none⟩=some (.int .i64 a0_0):=(Qi a'.out 0).trans rfl;have jc':wc.cell? ⟨b',1,none⟩=some (.int .i64 a0_1):=(Qi a'.out 1).trans rfl;have jb':wc.cell? ⟨b',2,none⟩=some (.slice A0_2 l0_2.length c0_2):=(Qi a'.out 2).trans rfl;have ja':wc.cell? ⟨b',3,none⟩=some (.int .i64 a0_3):=(Qi a'.out 3).trans rfl;have iz':wc.cell? ⟨b',4,none⟩=some (.int .i64 a0_4):=(Qi a'.out 4).trans rfl;have iy':wc.cell? ⟨b',5,none⟩=some (.int .i64 a0_5):=(Qi a'.out 5).trans rfl;have dp':=Qj a'.out 0;have do':=Qj a'.out 1;have dn':=Qj a'.out 2;have dm':=Qj a'.out 3;have dl':=Qj a'.out 4;have dk':=Qj a'.out 5;go_wp2_with (first | (go_at_call 63;(with_reducible refine (phasorref08_unlike.calls kj3 _ _ l0_2 a1 false _ ?side1 ?side2 A27.out).mono ?_);(case side1=>repeat (first | exact (Qt HR0_2.out HB.out) | (with_reducible refine Kd.C_alloc ?_ _) | (with_reducible refine Kd.C_drewN ?_ _) | (with_reducible refine Kd.C_drew ?_)));(case side2=>exact HC0_2.out);rintro e w' ⟨rfl,⟨nd,rfl⟩⟩))
        go_ret
        exact ⟨by first | rfl | (simp [errW_none,errW_some]<;>rfl) | (simp [*,errW_none,errW_some]<;>rfl),by repeat (first | (with_reducible first | exact HB.out | apply Qd | apply Qe | apply Qf | refine Qg ?_ c'.out) | exact HB.out)⟩
      ·rw [if_neg c26] at H
       have c26b0:((l0_2.length:Int) == 1)=false:=beq_eq_false_iff_ne.mpr c26;have c26b1:((l0_2.length:Int) != 1)=true:=bne_iff_ne.mpr c26;obtain rfl:=Option.some.inj H;have ix':wc.cell? ⟨b',0,none⟩=some (.int .i64 a0_0):=(Qi a'.out 0).trans rfl;have iw':wc.cell? ⟨b',1,none⟩=some (.int .i64 a0_1):=(Qi a'.out 1).trans rfl;have iv':wc.cell? ⟨b',2,none⟩=some (.slice A0_2 l0_2.length c0_2):=(Qi a'.out 2).trans rfl;have iu':wc.cell? ⟨b',3,none⟩=some (.int .i64 a0_3):=(Qi a'.out 3).trans rfl;have it':wc.cell? ⟨b',4,none⟩=some (.int .i64 a0_4):=(Qi a'.out 4).trans rfl;have is':wc.cell? ⟨b',5,none⟩=some (.int .i64 a0_5):=(Qi a'.out 5).trans rfl;have dj':=Qj a'.out 0;have di':=Qj a'.out 1;have dh':=Qj a'.out 2;have dg':=Qj a'.out 3;have df':=Qj a'.out 4;have de':=Qj a'.out 5;go_wp2
       go_ret
       exact ⟨by first | rfl | (simp [errW_none,errW_some]<;>rfl) | (simp [*,errW_none,errW_some]<;>rfl),by repeat (first | (with_reducible first | exact HB.out | apply Qd | apply Qe | apply Qf | refine Qg ?_ c'.out) | exact HB.out)⟩
     ·rw [if_neg c25] at H
      have c25b0:(a0_1 == 0)=false:=beq_eq_false_iff_ne.mpr c25;have c25b1:(a0_1 != 0)=true:=bne_iff_ne.mpr c25;obtain rfl:=Option.some.inj H;have ir':wc.cell? ⟨b',0,none⟩=some (.int .i64 a0_0):=(Qi a'.out 0).trans rfl;have iq':wc.cell? ⟨b',1,none⟩=some (.int .i64 a0_1):=(Qi a'.out 1).trans rfl;have ip':wc.cell? ⟨b',2,none⟩=some (.slice A0_2 l0_2.length c0_2):=(Qi a'.out 2).trans rfl;have io':wc.cell? ⟨b',3,none⟩=some (.int .i64 a0_3):=(Qi a'.out 3).trans rfl;have in':wc.cell? ⟨b',4,none⟩=some (.int .i64 a0_4):=(Qi a'.out 4).trans rfl;have im':wc.cell? ⟨b',5,none⟩=some (.int .i64 a0_5):=(Qi a'.out 5).trans rfl;have dd':=Qj a'.out 0;have dc':=Qj a'.out 1;have db':=Qj a'.out 2;have da':=Qj a'.out 3;have cz':=Qj a'.out 4;have cy':=Qj a'.out 5;go_wp2
      go_ret
      exact ⟨by first | rfl | (simp [errW_none,errW_some]<;>rfl) | (simp [*,errW_none,errW_some]<;>rfl),by repeat (first | (with_reducible first | exact HB.out | apply Qd | apply Qe | apply Qf | refine Qg ?_ c'.out) | exact HB.out)⟩
    ·rw [if_neg c24] at H
     have c24b0:(a0_0 == 2)=false:=beq_eq_false_iff_ne.mpr c24;have c24b1:(a0_0 != 2)=true:=bne_iff_ne.mpr c24;by_cases c37:a0_0=3
     ·rw [if_pos c37] at H
      have c37b0:(a0_0 == 3)=true:=beq_iff_eq.mpr c37;have c37b1:(a0_0 != 3)=false:=bne_eq_false_iff_eq.mpr c37;clear c37;by_cases c38:a0_1=0
      ·rw [if_pos c38] at H
       have c38b0:(a0_1 == 0)=true:=beq_iff_eq.mpr c38;have c38b1:(a0_1 != 0)=false:=bne_eq_false_iff_eq.mpr c38;clear c38;by_cases c39:(l0_2.length:Int)=1
       ·rw [if_pos c39] at H
        have c39b0:((l0_2.length:Int) == 1)=true:=beq_iff_eq.mpr c39;have c39b1:((l0_2.length:Int) != 1)=false:=bne_eq_false_iff_eq.mpr c39;clear c39;replace H:=Option.bind_eq_some_iff.mp H;obtain ⟨f',ah',H⟩:=H;replace H:(if f'=true then (if a0_3=0 then (some x7_3) else (some false)) else (some false))=some r:=H
        have A40:=Qh ah';clear ah';by_cases c41:f'=true
        ·subst c41
         have H1:(if a0_3=0 then (some x7_3) else (some false))=some r:=by rw [if_pos rfl] at H;exact H
         clear H;have H:=H1;clear H1;by_cases c42:a0_3=0
         ·rw [if_pos c42] at H
          have c42b0:(a0_3 == 0)=true:=beq_iff_eq.mpr c42;have c42b1:(a0_3 != 0)=false:=bne_eq_false_iff_eq.mpr c42;clear c42;obtain rfl:=Option.some.inj H;have il':wc.cell? ⟨b',0,none⟩=some (.int .i64 a0_0):=(Qi a'.out 0).trans rfl;have ik':wc.cell? ⟨b',1,none⟩=some (.int .i64 a0_1):=(Qi a'.out 1).trans rfl;have ij':wc.cell? ⟨b',2,none⟩=some (.slice A0_2 l0_2.length c0_2):=(Qi a'.out 2).trans rfl;have ii':wc.cell? ⟨b',3,none⟩=some (.int .i64 a0_3):=(Qi a'.out 3).trans rfl;have ih':wc.cell? ⟨b',4,none⟩=some (.int .i64 a0_4):=(Qi a'.out 4).trans rfl;have ig':wc.cell? ⟨b',5,none⟩=some (.int .i64 a0_5):=(Qi a'.out 5).trans rfl;have cx':=Qj a'.out 0;have cw':=Qj a'.out 1;have cv':=Qj a'.out 2;have cu':=Qj a'.out 3;have ct':=Qj a'.out 4;have cs':=Qj a'.out 5;go_wp2_with (first | (go_at_call 63;(with_reducible refine (phasorref08_unlike.calls kj3 _ _ l0_2 a1 true _ ?side1 ?side2 A40.out).mono ?_);(case side1=>repeat (first | exact (Qt HR0_2.out HB.out) | (with_reducible refine Kd.C_alloc ?_ _) | (with_reducible refine Kd.C_drewN ?_ _) | (with_reducible refine Kd.C_drew ?_)));(case side2=>exact HC0_2.out);rintro e w' ⟨rfl,⟨nd,rfl⟩⟩))
          go_ret
          exact ⟨by first | rfl | (simp [errW_none,errW_some]<;>rfl) | (simp [*,errW_none,errW_some]<;>rfl),by repeat (first | (with_reducible first | exact HB.out | apply Qd | apply Qe | apply Qf | refine Qg ?_ c'.out) | exact HB.out)⟩
         ·rw [if_neg c42] at H
          have c42b0:(a0_3 == 0)=false:=beq_eq_false_iff_ne.mpr c42;have c42b1:(a0_3 != 0)=true:=bne_iff_ne.mpr c42;obtain rfl:=Option.some.inj H;have if':wc.cell? ⟨b',0,none⟩=some (.int .i64 a0_0):=(Qi a'.out 0).trans rfl;have ie':wc.cell? ⟨b',1,none⟩=some (.int .i64 a0_1):=(Qi a'.out 1).trans rfl;have id':wc.cell? ⟨b',2,none⟩=some (.slice A0_2 l0_2.length c0_2):=(Qi a'.out 2).trans rfl;have ic':wc.cell? ⟨b',3,none⟩=some (.int .i64 a0_3):=(Qi a'.out 3).trans rfl;have ib':wc.cell? ⟨b',4,none⟩=some (.int .i64 a0_4):=(Qi a'.out 4).trans rfl;have ia':wc.cell? ⟨b',5,none⟩=some (.int .i64 a0_5):=(Qi a'.out 5).trans rfl;have cr':=Qj a'.out 0;have cq':=Qj a'.out 1;have cp':=Qj a'.out 2;have co':=Qj a'.out 3;have cn':=Qj a'.out 4;have cm':=Qj a'.out 5;go_wp2_with (first | (go_at_call 63;(with_reducible refine (phasorref08_unlike.calls kj3 _ _ l0_2 a1 true _ ?side1 ?side2 A40.out).mono ?_);(case side1=>repeat (first | exact (Qt HR0_2.out HB.out) | (with_reducible refine Kd.C_alloc ?_ _) | (with_reducible refine Kd.C_drewN ?_ _) | (with_reducible refine Kd.C_drew ?_)));(case side2=>exact HC0_2.out);rintro e w' ⟨rfl,⟨nd,rfl⟩⟩))
          go_ret
          exact ⟨by first | rfl | (simp [errW_none,errW_some]<;>rfl) | (simp [*,errW_none,errW_some]<;>rfl),by repeat (first | (with_reducible first | exact HB.out | apply Qd | apply Qe | apply Qf | refine Qg ?_ c'.out) | exact HB.out)⟩
        ·replace c41:=Bool.eq_false_iff.mpr c41
         subst c41;have H1:(some false)=some r:=by rw [if_neg (show ¬ (false=true) by decide)] at H;exact H
         clear H;have H:=H1;clear H1;obtain rfl:=Option.some.inj H;have hz':wc.cell? ⟨b',0,none⟩=some (.int .i64 a0_0):=(Qi a'.out 0).trans rfl;have hy':wc.cell? ⟨b',1,none⟩=some (.int .i64 a0_1):=(Qi a'.out 1).trans rfl;have hx':wc.cell? ⟨b',2,none⟩=some (.slice A0_2 l0_2.length c0_2):=(Qi a'.out 2).trans rfl;have hw':wc.cell? ⟨b',3,none⟩=some (.int .i64 a0_3):=(Qi a'.out 3).trans rfl;have hv':wc.cell? ⟨b',4,none⟩=some (.int .i64 a0_4):=(Qi a'.out 4).trans rfl;have hu':wc.cell? ⟨b',5,none⟩=some (.int .i64 a0_5):=(Qi a'.out 5).trans rfl;have cl':=Qj a'.out 0;have ck':=Qj a'.out 1;have cj':=Qj a'.out 2;have ci':=Qj a'.out 3;have ch':=Qj a'.out 4;have cg':=Qj a'.out 5;go_wp2_with (first | (go_at_call 63;(with_reducible refine (phasorref08_unlike.calls kj3 _ _ l0_2 a1 false _ ?side1 ?side2 A40.out).mono ?_);(case side1=>repeat (first | exact (Qt HR0_2.out HB.out) | (with_reducible refine Kd.C_alloc ?_ _) | (with_reducible refine Kd.C_drewN ?_ _) | (with_reducible refine Kd.C_drew ?_)));(case side2=>exact HC0_2.out);rintro e w' ⟨rfl,⟨nd,rfl⟩⟩))
         go_ret
         exact ⟨by first | rfl | (simp [errW_none,errW_some]<;>rfl) | (simp [*,errW_none,errW_some]<;>rfl),by repeat (first | (with_reducible first | exact HB.out | apply Qd | apply Qe | apply Qf | refine Qg ?_ c'.out) | exact HB.out)⟩
       ·rw [if_neg c39] at H
        have c39b0:((l0_2.length:Int) == 1)=false:=beq_eq_false_iff_ne.mpr c39;have c39b1:((l0_2.length:Int) != 1)=true:=bne_iff_ne.mpr c39;obtain rfl:=Option.some.inj H;have ht':wc.cell? ⟨b',0,none⟩=some (.int .i64 a0_0):=(Qi a'.out 0).trans rfl;have hs':wc.cell? ⟨b',1,none⟩=some (.int .i64 a0_1):=(Qi a'.out 1).trans rfl;have hr':wc.cell? ⟨b',2,none⟩=some (.slice A0_2 l0_2.length c0_2):=(Qi a'.out 2).trans rfl;have hq':wc.cell? ⟨b',3,none⟩=some (.int .i64 a0_3):=(Qi a'.out 3).trans rfl;have hp':wc.cell? ⟨b',4,none⟩=some (.int .i64 a0_4):=(Qi a'.out 4).trans rfl;have ho':wc.cell? ⟨b',5,none⟩=some (.int .i64 a0_5):=(Qi a'.out 5).trans rfl;have cf':=Qj a'.out 0;have ce':=Qj a'.out 1;have cd':=Qj a'.out 2;have cc':=Qj a'.out 3;have cb':=Qj a'.out 4;have ca':=Qj a'.out 5;go_wp2
        go_ret
        exact ⟨by first | rfl | (simp [errW_none,errW_some]<;>rfl) | (simp [*,errW_none,errW_some]<;>rfl),by repeat (first | (with_reducible first | exact HB.out | apply Qd | apply Qe | apply Qf | refine Qg ?_ c'.out) | exact HB.out)⟩
      ·rw [if_neg c38] at H
       have c38b0:(a0_1 == 0)=false:=beq_eq_false_iff_ne.mpr c38;have c38b1:(a0_1 != 0)=true:=bne_iff_ne.mpr c38;obtain rfl:=Option.some.inj H;have hn':wc.cell? ⟨b',0,none⟩=some (.int .i64 a0_0):=(Qi a'.out 0).trans rfl;have hm':wc.cell? ⟨b',1,none⟩=some (.int .i64 a0_1):=(Qi a'.out 1).trans rfl;have hl':wc.cell? ⟨b',2,none⟩=some (.slice A0_2 l0_2.length c0_2):=(Qi a'.out 2).trans rfl;have hk':wc.cell? ⟨b',3,none⟩=some (.int .i64 a0_3):=(Qi a'.out 3).trans rfl;have hj':wc.cell? ⟨b',4,none⟩=some (.int .i64 a0_4):=(Qi a'.out 4).trans rfl;have hi':wc.cell? ⟨b',5,none⟩=some (.int .i64 a0_5):=(Qi a'.out 5).trans rfl;have bz':=Qj a'.out 0;have by':=Qj a'.out 1;have bx':=Qj a'.out 2;have bw':=Qj a'.out 3;have bv':=Qj a'.out 4;have bu':=Qj a'.out 5;go_wp2
       go_ret
       exact ⟨by first | rfl | (simp [errW_none,errW_some]<;>rfl) | (simp [*,errW_none,errW_some]<;>rfl),by repeat (first | (with_reducible first | exact HB.out | apply Qd | apply Qe | apply Qf | refine Qg ?_ c'.out) | exact HB.out)⟩
     ·rw [if_neg c37] at H
      have c37b0:(a0_0 == 3)=false:=beq_eq_false_iff_ne.mpr c37;have c37b1:(a0_0 != 3)=true:=bne_iff_ne.mpr c37;by_cases c48:a0_0=4
      ·rw [if_pos c48] at H
       have c48b0:(a0_0 == 4)=true:=beq_iff_eq.mpr c48;have c48b1:(a0_0 != 4)=false:=bne_eq_false_iff_eq.mpr c48;clear c48;by_cases c49:a0_1=0
       ·rw [if_pos c49] at H
        have c49b0:(a0_1 == 0)=true:=beq_iff_eq.mpr c49;have c49b1:(a0_1 != 0)=false:=bne_eq_false_iff_eq.mpr c49;clear c49;by_cases c50:(l0_2.length:Int) > 0
        ·rw [if_pos c50] at H
         have c50b0:decide (0 < (l0_2.length:Int))=true:=decide_eq_true c50;have c50b1:decide (0 < l0_2.length)=true:=decide_eq_true (by omega);clear c50;replace H:=Option.bind_eq_some_iff.mp H;obtain ⟨e',ag',H⟩:=H;replace H:(if e'=true then (if a0_3=0 then (some x7_3) else (some false)) else (some false))=some r:=H
         have A51:=Qh ag';clear ag';by_cases c52:e'=true
         ·subst c52
          have H1:(if a0_3=0 then (some x7_3) else (some false))=some r:=by rw [if_pos rfl] at H;exact H
          clear H;have H:=H1;clear H1;by_cases c53:a0_3=0
          ·rw [if_pos c53] at H
           have c53b0:(a0_3 == 0)=true:=beq_iff_eq.mpr c53;have c53b1:(a0_3 != 0)=false:=bne_eq_false_iff_eq.mpr c53;clear c53;obtain rfl:=Option.some.inj H;have hh':wc.cell? ⟨b',0,none⟩=some (.int .i64 a0_0):=(Qi a'.out 0).trans rfl;have hg':wc.cell? ⟨b',1,none⟩=some (.int .i64 a0_1):=(Qi a'.out 1).trans rfl;have hf':wc.cell? ⟨b',2,none⟩=some (.slice A0_2 l0_2.length c0_2):=(Qi a'.out 2).trans rfl;have he':wc.cell? ⟨b',3,none⟩=some (.int .i64 a0_3):=(Qi a'.out 3).trans rfl;have hd':wc.cell? ⟨b',4,none⟩=some (.int .i64 a0_4):=(Qi a'.out 4).trans rfl;have hc':wc.cell? ⟨b',5,none⟩=some (.int .i64 a0_5):=(Qi a'.out 5).trans rfl;have bt':=Qj a'.out 0;have bs':=Qj a'.out 1;have br':=Qj a'.out 2;have bq':=Qj a'.out 3;have bp':=Qj a'.out 4;have bo':=Qj a'.out 5;go_wp2_with (first | (go_at_call 63;(with_reducible refine (phasorref08_unlike.calls kj3 _ _ l0_2 a1 true _ ?side1 ?side2 A51.out).mono ?_);(case side1=>repeat (first | exact (Qt HR0_2.out HB.out) | (with_reducible refine Kd.C_alloc ?_ _) | (with_reducible refine Kd.C_drewN ?_ _) | (with_reducible refine Kd.C_drew ?_)));(case side2=>exact HC0_2.out);rintro e w' ⟨rfl,⟨nd,rfl⟩⟩))
           go_ret
           exact ⟨by first | rfl | (simp [errW_none,errW_some]<;>rfl) | (simp [*,errW_none,errW_some]<;>rfl),by repeat (first | (with_reducible first | exact HB.out | apply Qd | apply Qe | apply Qf | refine Qg ?_ c'.out) | exact HB.out)⟩
          ·rw [if_neg c53] at H
           have c53b0:(a0_3 == 0)=false:=beq_eq_false_iff_ne.mpr c53;have c53b1:(a0_3 != 0)=true:=bne_iff_ne.mpr c53;obtain rfl:=Option.some.inj H;have hb':wc.cell? ⟨b',0,none⟩=some (.int .i64 a0_0):=(Qi a'.out 0).trans rfl;have ha':wc.cell? ⟨b',1,none⟩=some (.int .i64 a0_1):=(Qi a'.out 1).trans rfl;have gz':wc.cell? ⟨b',2,none⟩=some (.slice A0_2 l0_2.length c0_2):=(Qi a'.out 2).trans rfl;have gy':wc.cell? ⟨b',3,none⟩=some (.int .i64 a0_3):=(Qi a'.out 3).trans rfl;have gx':wc.cell? ⟨b',4,none⟩=some (.int .i64 a0_4):=(Qi a'.out 4).trans rfl;have gw':wc.cell? ⟨b',5,none⟩=some (.int .i64 a0_5):=(Qi a'.out 5).trans rfl;have bn':=Qj a'.out 0;have bm':=Qj a'.out 1;have bl':=Qj a'.out 2;have bk':=Qj a'.out 3;have bj':=Qj a'.out 4;have bi':=Qj a'.out 5;go_wp2_with (first | (go_at_call 63;(with_reducible refine (phasorref08_unlike.calls kj3 _ _ l0_2 a1 true _ ?side1 ?side2 A51.out).mono ?_);(case side1=>repeat (first | exact (Qt HR0_2.out HB.out) | (with_reducible refine Kd.C_alloc ?_ _) | (with_reducible refine Kd.C_drewN ?_ _) | (with_reducible refine Kd.C_drew ?_)));(case side2=>exact HC0_2.out);rintro e w' ⟨rfl,⟨nd,rfl⟩⟩))
           go_ret
           exact ⟨by first | rfl | (simp [errW_none,errW_some]<;>rfl) | (simp [*,errW_none,errW_some]<;>rfl),by repeat (first | (with_reducible first | exact HB.out | apply Qd | apply Qe | apply Qf | refine Qg ?_ c'.out) | exact HB.out)⟩
         ·replace c52:=Bool.eq_false_iff.mpr c52
          subst c52;have H1:(some false)=some r:=by rw [if_neg (show ¬ (false=true) by decide)] at H;exact H
          clear H;have H:=H1;clear H1;obtain rfl:=Option.some.inj H;have gv':wc.cell? ⟨b',0,none⟩=some (.int .i64 a0_0):=(Qi a'.out 0).trans rfl;have gu':wc.cell? ⟨b',1,none⟩=some (.int .i64 a0_1):=(Qi a'.out 1).trans rfl;have gt':wc.cell? ⟨b',2,none⟩=some (.slice A0_2 l0_2.length c0_2):=(Qi a'.out 2).trans rfl;have gs':wc.cell? ⟨b',3,none⟩=some (.int .i64 a0_3):=(Qi a'.out 3).trans rfl;have gr':wc.cell? ⟨b',4,none⟩=some (.int .i64 a0_4):=(Qi a'.out 4).trans rfl;have gq':wc.cell? ⟨b',5,none⟩=some (.int .i64 a0_5):=(Qi a'.out 5).trans rfl;have bh':=Qj a'.out 0;have bg':=Qj a'.out 1;have bf':=Qj a'.out 2;have be':=Qj a'.out 3;have bd':=Qj a'.out 4;have bc':=Qj a'.out 5;go_wp2_with (first | (go_at_call 63;(with_reducible refine (phasorref08_unlike.calls kj3 _ _ l0_2 a1 false _ ?side1 ?side2 A51.out).mono ?_);(case side1=>repeat (first | exact (Qt HR0_2.out HB.out) | (with_reducible refine Kd.C_alloc ?_ _) | (with_reducible refine Kd.C_drewN ?_ _) | (with_reducible refine Kd.C_drew ?_)));(case side2=>exact HC0_2.out);rintro e w' ⟨rfl,⟨nd,rfl⟩⟩))
          go_ret
          exact ⟨by first | rfl | (simp [errW_none,errW_some]<;>rfl) | (simp [*,errW_none,errW_some]<;>rfl),by repeat (first | (with_reducible first | exact HB.out | apply Qd | apply Qe | apply Qf | refine Qg ?_ c'.out) | exact HB.out)⟩
        ·rw [if_neg c50] at H
         have c50b0:decide (0 < (l0_2.length:Int))=false:=decide_eq_false c50;have c50b1:decide (0 < l0_2.length)=false:=decide_eq_false (by omega);clear c50;obtain rfl:=Option.some.inj H;have gp':wc.cell? ⟨b',0,none⟩=some (.int .i64 a0_0):=(Qi a'.out 0).trans rfl;have go':wc.cell? ⟨b',1,none⟩=some (.int .i64 a0_1):=(Qi a'.out 1).trans rfl;have gn':wc.cell? ⟨b',2,none⟩=some (.slice A0_2 l0_2.length c0_2):=(Qi a'.out 2).trans rfl;have gm':wc.cell? ⟨b',3,none⟩=some (.int .i64 a0_3):=(Qi a'.out 3).trans rfl;have gl':wc.cell? ⟨b',4,none⟩=some (.int .i64 a0_4):=(Qi a'.out 4).trans rfl;have gk':wc.cell? ⟨b',5,none⟩=some (.int .i64 a0_5):=(Qi a'.out 5).trans rfl;have bb':=Qj a'.out 0;have ba':=Qj a'.out 1;have az':=Qj a'.out 2;have ay':=Qj a'.out 3;have ax':=Qj a'.out 4;have aw':=Qj a'.out 5;go_wp2
         go_ret
         exact ⟨by first | rfl | (simp [errW_none,errW_some]<;>rfl) | (simp [*,errW_none,errW_some]<;>rfl),by repeat (first | (with_reducible first | exact HB.out | apply Qd | apply Qe | apply Qf | refine Qg ?_ c'.out) | exact HB.out)⟩
       ·rw [if_neg c49] at H
        have c49b0:(a0_1 == 0)=false:=beq_eq_false_iff_ne.mpr c49;have c49b1:(a0_1 != 0)=true:=bne_iff_ne.mpr c49;obtain rfl:=Option.some.inj H;have gj':wc.cell? ⟨b',0,none⟩=some (.int .i64 a0_0):=(Qi a'.out 0).trans rfl;have gi':wc.cell? ⟨b',1,none⟩=some (.int .i64 a0_1):=(Qi a'.out 1).trans rfl;have gh':wc.cell? ⟨b',2,none⟩=some (.slice A0_2 l0_2.length c0_2):=(Qi a'.out 2).trans rfl;have gg':wc.cell? ⟨b',3,none⟩=some (.int .i64 a0_3):=(Qi a'.out 3).trans rfl;have gf':wc.cell? ⟨b',4,none⟩=some (.int .i64 a0_4):=(Qi a'.out 4).trans rfl;have ge':wc.cell? ⟨b',5,none⟩=some (.int .i64 a0_5):=(Qi a'.out 5).trans rfl;have av':=Qj a'.out 0;have au':=Qj a'.out 1;have at':=Qj a'.out 2;have as':=Qj a'.out 3;have ar':=Qj a'.out 4;have aq':=Qj a'.out 5;go_wp2
        go_ret
        exact ⟨by first | rfl | (simp [errW_none,errW_some]<;>rfl) | (simp [*,errW_none,errW_some]<;>rfl),by repeat (first | (with_reducible first | exact HB.out | apply Qd | apply Qe | apply Qf | refine Qg ?_ c'.out) | exact HB.out)⟩
      ·rw [if_neg c48] at H
       have c48b0:(a0_0 == 4)=false:=beq_eq_false_iff_ne.mpr c48;have c48b1:(a0_0 != 4)=true:=bne_iff_ne.mpr c48;obtain rfl:=Option.some.inj H;have gd':wc.cell? ⟨b',0,none⟩=some (.int .i64 a0_0):=(Qi a'.out 0).trans rfl;have gc':wc.cell? ⟨b',1,none⟩=some (.int .i64 a0_1):=(Qi a'.out 1).trans rfl;have gb':wc.cell? ⟨b',2,none⟩=some (.slice A0_2 l0_2.length c0_2):=(Qi a'.out 2).trans rfl;have ga':wc.cell? ⟨b',3,none⟩=some (.int .i64 a0_3):=(Qi a'.out 3).trans rfl;have fz':wc.cell? ⟨b',4,none⟩=some (.int .i64 a0_4):=(Qi a'.out 4).trans rfl;have fy':wc.cell? ⟨b',5,none⟩=some (.int .i64 a0_5):=(Qi a'.out 5).trans rfl;have ap':=Qj a'.out 0;have ao':=Qj a'.out 1;have an':=Qj a'.out 2;have am':=Qj a'.out 3;have al':=Qj a'.out 4;have ak':=Qj a'.out 5;go_wp2
       go_ret
       exact ⟨by first | rfl | (simp [errW_none,errW_some]<;>rfl) | (simp [*,errW_none,errW_some]<;>rfl),by repeat (first | (with_reducible first | exact HB.out | apply Qd | apply Qe | apply Qf | refine Qg ?_ c'.out) | exact HB.out)⟩
mutual
def phasorref08_Check.j0:Nat→Bool→Int→Int→List (S57)→Option (Int × Int)
 | 0,_,_,_,_=>none
 | k + 1,x28,x21602000,x21602001,x21602002=>if x28=true then (some ((-1),80)) else (phasorref08_Check.l0 k 0 x21602000 x21602001 x21602002)
def phasorref08_Check.l0:Nat→Int→Int→Int→List (S57)→Option (Int × Int)
 | 0,_,_,_,_=>none
 | k + 1,x4,x21602000,x21602001,x21602002=>if x4 < (x21602002.length:Int) then (if 0≤x4 then ((phasorref08_Op.f k ((rd_T57 x21602002 x4).f0) ((rd_T57 x21602002 x4).f1) ((rd_T57 x21602002 x4).f2) ((rd_T57 x21602002 x4).f3) ((rd_T57 x21602002 x4).f4) ((rd_T57 x21602002 x4).f5) x21602000 x21602001).bind fun t21603=>(if t21603=true then (phasorref08_Check.l0 k (wrap64 (x4 + 1)) x21602000 x21602001 x21602002) else (some (x4,80)))) else (none)) else (some (0,0))
end
def phasorref08_Check.f (k:Nat) (a0_0:Int) (a0_1:Int) (l0_2:List (S57)):Option (Int × Int):=if a0_0 < 0 then (phasorref08_Check.j0 k true a0_0 a0_1 l0_2) else (if a0_0 > 64 then (phasorref08_Check.j0 k true a0_0 a0_1 l0_2) else (if a0_1 < 0 then (phasorref08_Check.j0 k true a0_0 a0_1 l0_2) else (if a0_1 > 64 then (phasorref08_Check.j0 k true a0_0 a0_1 l0_2) else (phasorref08_Check.j0 k (decide ((l0_2.length:Int) > 4096)) a0_0 a0_1 l0_2))))
def phasorref08_Check.T6:Bool × List (List Nat × List Nat):=(true,[([],[]),([0],[0]),([],[]),([1,2],[1,2]),([3],[3]),([],[]),([5],[5]),([],[]),([7],[7]),([4,6,8],[4,6,8]),([9],[9])])
def phasorref08_Check.B6:List Nat:=[0,1,0,7,15,0,32,0,128,511,1023]
theorem phasorref08_Check.tab6:rtab .any (opsOf Try.f43 6)=phasorref08_Check.T6:=by kernel_rfl
theorem phasorref08_Check.bits6:waitsOk phasorref08_Check.T6.2 phasorref08_Check.B6=true:=by kernel_rfl
set_option maxHeartbeats 8000000 in
set_option maxRecDepth 100000 in
theorem phasorref08_Check.calls (k:Nat) (a0_0:Int) (a0_1:Int) (A0_2:Option Addr) (c0_2:Nat) (l0_2:List (S57)) (r1:Int) (r2:Int) (w:World) (hr0_2:Kd.C k57 w A0_2 l0_2.length l0_2) (hc0_2:l0_2.length≤c0_2) (h:phasorref08_Check.f k a0_0 a0_1 l0_2=some (r1,r2)) :
  Calls Try.prog 43 #[.agg #[.int .i64 a0_0,.int .i64 a0_1,.slice A0_2 l0_2.length c0_2]] w fun e w'=>e=.returned (.tuple #[.int .i64 r1,.int .i64 r2])∧Below w.heap.size w w':=by
 have hu24:=Try.underlying24;have hu57:=Try.underlying57;have HR0_2:=Qh hr0_2;have HC0_2:=Qh hc0_2;clear hr0_2 hc0_2;have HB:=Qh (Below.refl w.heap.size w);have H:(if a0_0 < 0 then (phasorref08_Check.j0 k true a0_0 a0_1 l0_2) else (if a0_0 > 64 then (phasorref08_Check.j0 k true a0_0 a0_1 l0_2) else (if a0_1 < 0 then (phasorref08_Check.j0 k true a0_0 a0_1 l0_2) else (if a0_1 > 64 then (phasorref08_Check.j0 k true a0_0 a0_1 l0_2) else (phasorref08_Check.j0 k (decide ((l0_2.length:Int) > 4096)) a0_0 a0_1 l0_2)))))=some (r1,r2):=h;clear h;have HC2:=Qh H;clear H;go_enter Try.func43,Try.ntmps43
 go_upto_region 1 with (first | ((with_reducible refine gate_dst (N:=1) rfl ?_);(try (refine gate_guard (by rfl) ?_;dsimp only));refine box_event ?hg (N:=1) ?hd (cs:=#[.int .i64 a0_0,.int .i64 a0_1,.slice A0_2 l0_2.length c0_2]) (t:=24) ?hr ?_;(case hd=>rfl);(case hg=>rfl);(case hr=>first | (go_simp;done) | (go_simp;rfl));intro c' hg w3 hbox hb;have n0_:=Qh (Qr (by repeat (first | (with_reducible first | exact HB.out | apply Qd | apply Qe | apply Qf) | exact HB.out)) hb);have n1_:=Qh (hbox);have n2_:=Qh ((by rw [hg];exact (Qs (by repeat (first | (with_reducible first | exact HB.out | apply Qd | apply Qe | apply Qf) | exact HB.out))):w.heap.size≤c'));have n3_:=Qh ((by rw [hg];exact (Qs (by repeat (first | (with_reducible first | exact HB.out | apply Qd | apply Qe | apply Qf) | exact HB.out))):w.heap.size≤c'));clear HB;have HB:=n0_;have b':=n1_;have bz':=n2_;have k':=n3_;clear n0_ n1_ n2_ n3_;clear hb hbox hg))
 (try simp only [Act.put,List.setIfInBounds_toArray,List.set_cons_zero,List.set_cons_succ])
 go_cut [28] (fun v28 wc=>∃ (kq:Nat) (x28_1:Bool),v28=.bool x28_1∧Aside0 (phasorref08_Check.j0 kq x28_1 a0_0 a0_1 l0_2=some (r1,r2))∧Aside0 (kq≤k)∧Aside0 (wc.heap[c']?=some (.cells #[.int .i64 a0_0,.int .i64 a0_1,(.slice A0_2 l0_2.length c0_2)] 24 (0,0)))∧Aside0 (Below w.heap.size w wc))
 case first =>
  have H:=HC2.out;clear HC2;by_cases c4:a0_0 < 0
  ·rw [if_pos c4] at H
   have c4b0:decide (a0_0 < 0)=true:=decide_eq_true c4;clear c4;(first | rw [c4b0] | (simp only [i64_w,i32_w];rw [c4b0]) | skip)
   have H':=Qh H;clear H;have bf':w3.cell? ⟨c',0,none⟩=some (.int .i64 a0_0):=(Qi b'.out 0).trans rfl;have be':w3.cell? ⟨c',1,none⟩=some (.int .i64 a0_1):=(Qi b'.out 1).trans rfl;have bd':w3.cell? ⟨c',2,none⟩=some (.slice A0_2 l0_2.length c0_2):=(Qi b'.out 2).trans rfl;have aw':=Qj b'.out 0;have av':=Qj b'.out 1;have au':=Qj b'.out 2;go_wp2
   go_meet
   case rel=>exact ⟨_,(true),(by first | rfl | (simp;done) | (simp [*];done)),H',⟨by first | omega | exact Nat.le_refl _⟩,⟨by (with_reducible repeat (first | refine Qa ?_ _ | refine Qb ?_ | refine Qc ?_ _));exact b'.out⟩,⟨by repeat (first | (with_reducible first | exact HB.out | apply Qd | apply Qe | apply Qf | refine Qg ?_ k'.out) | exact HB.out)⟩⟩
  ·rw [if_neg c4] at H
   have c4b0:decide (a0_0 < 0)=false:=decide_eq_false c4;clear c4;(first | rw [c4b0] | (simp only [i64_w,i32_w];rw [c4b0]) | skip)
   by_cases c6:a0_0 > 64
   ·rw [if_pos c6] at H
    have c6b0:decide (64 < a0_0)=true:=decide_eq_true c6;clear c6;have H':=Qh H;clear H;have bc':w3.cell? ⟨c',0,none⟩=some (.int .i64 a0_0):=(Qi b'.out 0).trans rfl;have bb':w3.cell? ⟨c',1,none⟩=some (.int .i64 a0_1):=(Qi b'.out 1).trans rfl;have ba':w3.cell? ⟨c',2,none⟩=some (.slice A0_2 l0_2.length c0_2):=(Qi b'.out 2).trans rfl;have at':=Qj b'.out 0;have as':=Qj b'.out 1;have ar':=Qj b'.out 2;go_wp2
    go_meet
    case rel=>exact ⟨_,(true),(by first | rfl | (simp;done) | (simp [*];done)),H',⟨by first | omega | exact Nat.le_refl _⟩,⟨by (with_reducible repeat (first | refine Qa ?_ _ | refine Qb ?_ | refine Qc ?_ _));exact b'.out⟩,⟨by repeat (first | (with_reducible first | exact HB.out | apply Qd | apply Qe | apply Qf | refine Qg ?_ k'.out) | exact HB.out)⟩⟩
   ·rw [if_neg c6] at H
    have c6b0:decide (64 < a0_0)=false:=decide_eq_false c6;clear c6;by_cases c8:a0_1 < 0
    ·rw [if_pos c8] at H
     have c8b0:decide (a0_1 < 0)=true:=decide_eq_true c8;clear c8;have H':=Qh H;clear H;have az':w3.cell? ⟨c',0,none⟩=some (.int .i64 a0_0):=(Qi b'.out 0).trans rfl;have ay':w3.cell? ⟨c',1,none⟩=some (.int .i64 a0_1):=(Qi b'.out 1).trans rfl;have ax':w3.cell? ⟨c',2,none⟩=some (.slice A0_2 l0_2.length c0_2):=(Qi b'.out 2).trans rfl;have aq':=Qj b'.out 0;have ap':=Qj b'.out 1;have ao':=Qj b'.out 2;go_wp2
     go_meet
     case rel=>exact ⟨_,(true),(by first | rfl | (simp;done) | (simp [*];done)),H',⟨by first | omega | exact Nat.le_refl _⟩,⟨by (with_reducible repeat (first | refine Qa ?_ _ | refine Qb ?_ | refine Qc ?_ _));exact b'.out⟩,⟨by repeat (first | (with_reducible first | exact HB.out | apply Qd | apply Qe | apply Qf | refine Qg ?_ k'.out) | exact HB.out)⟩⟩
    ·rw [if_neg c8] at H
     have c8b0:decide (a0_1 < 0)=false:=decide_eq_false c8;clear c8;by_cases c10:a0_1 > 64
     ·rw [if_pos c10] at H
      have c10b0:decide (64 < a0_1)=true:=decide_eq_true c10;clear c10;have H':=Qh H;clear H;have am':w3.cell? ⟨c',0,none⟩=some (.int .i64 a0_0):=(Qi b'.out 0).trans rfl;have al':w3.cell? ⟨c',1,none⟩=some (.int .i64 a0_1):=(Qi b'.out 1).trans rfl;have ak':w3.cell? ⟨c',2,none⟩=some (.slice A0_2 l0_2.length c0_2):=(Qi b'.out 2).trans rfl;have ag':=Qj b'.out 0;have af':=Qj b'.out 1;have ae':=Qj b'.out 2;go_wp2
      go_meet
      case rel=>exact ⟨_,(true),(by first | rfl | (simp;done) | (simp [*];done)),H',⟨by first | omega | exact Nat.le_refl _⟩,⟨by (with_reducible repeat (first | refine Qa ?_ _ | refine Qb ?_ | refine Qc ?_ _));exact b'.out⟩,⟨by repeat (first | (with_reducible first | exact HB.out | apply Qd | apply Qe | apply Qf | refine Qg ?_ k'.out) | exact HB.out)⟩⟩
     ·rw [if_neg c10] at H
      have c10b0:decide (64 < a0_1)=false:=decide_eq_false c10;clear c10;have H':=Qh H;clear H;have aj':w3.cell? ⟨c',0,none⟩=some (.int .i64 a0_0):=(Qi b'.out 0).trans rfl;have ai':w3.cell? ⟨c',1,none⟩=some (.int .i64 a0_1):=(Qi b'.out 1).trans rfl;have ah':w3.cell? ⟨c',2,none⟩=some (.slice A0_2 l0_2.length c0_2):=(Qi b'.out 2).trans rfl;have ad':=Qj b'.out 0;have ac':=Qj b'.out 1;have ab':=Qj b'.out 2;go_wp2
      go_meet
      case rel=>exact ⟨_,(decide ((l0_2.length:Int) > 4096)),(by first | rfl | (simp;done) | (simp [*];done)),H',⟨by first | omega | exact Nat.le_refl _⟩,⟨by (with_reducible repeat (first | refine Qa ?_ _ | refine Qb ?_ | refine Qc ?_ _));exact b'.out⟩,⟨by repeat (first | (with_reducible first | exact HB.out | apply Qd | apply Qe | apply Qf | refine Qg ?_ k'.out) | exact HB.out)⟩⟩
 case rest =>
  clear HC2;(try clear c1);(try clear p2);(try clear c4);(try clear c4b0);(try clear c6);(try clear c6b0);(try clear c8);(try clear c8b0);(try clear c10);(try clear c10b0);(try clear am');(try clear al');(try clear ak');(try clear aj');(try clear ai');(try clear ah');(try clear bf');(try clear be');(try clear bd');(try clear bc');(try clear bb');(try clear ba');(try clear az');(try clear ay');(try clear ax');(try clear ag');(try clear af');(try clear ae');(try clear ad');(try clear ac');(try clear ab');(try clear aw');(try clear av');(try clear au');(try clear at');(try clear as');(try clear ar');(try clear aq');(try clear ap');(try clear ao');obtain ⟨kq,x28_1,rfl,HA,HJ1,b',HB⟩:=hcut
  cases kq with
  | zero=>exact absurd HA.out (by simp [phasorref08_Check.j0])
  | succ kj1 =>
   have H:=HA.out;clear HA;simp only [phasorref08_Check.j0] at H;by_cases c13:x28_1=true
   ·subst c13
    have H1:(some ((-1),80))=some (r1,r2):=by rw [if_pos rfl] at H;exact H
    clear H;have H:=H1;clear H1;simp only [Option.some.injEq,Prod.mk.injEq] at H;obtain ⟨rfl,rfl⟩:=H;go_wp2
    go_ret2
    exact ⟨by first | rfl | (simp [errW_none,errW_some]<;>rfl) | (simp [*,errW_none,errW_some]<;>rfl),by repeat (first | (with_reducible first | exact HB.out | apply Qd | apply Qe | apply Qf | refine Qg ?_ k'.out) | exact HB.out)⟩
   ·replace c13:=Bool.eq_false_iff.mpr c13
    subst c13;have H1:(phasorref08_Check.l0 kj1 0 a0_0 a0_1 l0_2)=some (r1,r2):=by rw [if_neg (show ¬ (false=true) by decide)] at H;exact H
    clear H;have H:=H1;clear H1;have H':=Qh H;clear H;go_wp2
    go_loopg [4] kj1 (fun kq v4 w'=>∃ (x4_2:Int),v4=.int .i64 x4_2∧Aside0 (phasorref08_Check.l0 kq x4_2 a0_0 a0_1 l0_2=some (r1,r2))∧Aside0 (kq≤kj1)∧Aside0 (w'.heap[c']?=some (.cells #[.int .i64 a0_0,.int .i64 a0_1,(.slice A0_2 l0_2.length c0_2)] 24 (0,0)))∧Aside0 (Below w.heap.size w w'))
    case atStart=>exact ⟨(0),(by first | rfl | (simp;done) | (simp [*];done)),H',⟨Nat.le_refl _⟩,⟨by (with_reducible repeat (first | refine Qa ?_ _ | refine Qb ?_ | refine Qc ?_ _));exact b'.out⟩,⟨by repeat (first | (with_reducible first | exact HB.out | apply Qd | apply Qe | apply Qf | refine Qg ?_ k'.out) | exact HB.out)⟩⟩
    case round =>
     clear H';(try clear c1);(try clear p2);(try clear c4);(try clear c4b0);(try clear c6);(try clear c6b0);(try clear c8);(try clear c8b0);(try clear c10);(try clear c10b0);(try clear c13);(try clear am');(try clear al');(try clear ak');(try clear aj');(try clear ai');(try clear ah');(try clear bf');(try clear be');(try clear bd');(try clear bc');(try clear bb');(try clear ba');(try clear az');(try clear ay');(try clear ax');(try clear ag');(try clear af');(try clear ae');(try clear ad');(try clear ac');(try clear ab');(try clear aw');(try clear av');(try clear au');(try clear at');(try clear as');(try clear ar');(try clear aq');(try clear ap');(try clear ao');(try clear p2);obtain ⟨x4_2,rfl,HA,HK2,b',HB⟩:=hrel
     cases gk with
     | zero=>exact absurd HA.out (by simp [phasorref08_Check.l0])
     | succ k2 =>
      have H:=HA.out;clear HA;simp only [phasorref08_Check.l0] at H;by_cases c14:x4_2 < (l0_2.length:Int)
      ·rw [if_pos c14] at H
       have c14b0:decide (x4_2 < (l0_2.length:Int))=true:=decide_eq_true c14;clear c14;by_cases c15:0≤x4_2
       ·rw [if_pos c15] at H
        have c15b0:decide (0≤x4_2)=true:=decide_eq_true c15;clear c15;replace H:=Option.bind_eq_some_iff.mp H;obtain ⟨an',bg',H⟩:=H;replace H:(if an'=true then (phasorref08_Check.l0 k2 (wrap64 (x4_2 + 1)) a0_0 a0_1 l0_2) else (some (x4_2,80)))=some (r1,r2):=H
        have A16:=Qh bg';clear bg';by_cases c17:an'=true
        ·subst c17
         have H1:(phasorref08_Check.l0 k2 (wrap64 (x4_2 + 1)) a0_0 a0_1 l0_2)=some (r1,r2):=by rw [if_pos rfl] at H;exact H
         clear H;have H:=H1;clear H1;have H':=Qh H;clear H;have by':wr.cell? ⟨c',0,none⟩=some (.int .i64 a0_0):=(Qi b'.out 0).trans rfl;have bx':wr.cell? ⟨c',1,none⟩=some (.int .i64 a0_1):=(Qi b'.out 1).trans rfl;have bw':wr.cell? ⟨c',2,none⟩=some (.slice A0_2 l0_2.length c0_2):=(Qi b'.out 2).trans rfl;have bp':=Qj b'.out 0;have bo':=Qj b'.out 1;have bn':=Qj b'.out 2;try go_wp2
         have n0_:=Qh (Qb b'.out);have n1_:=Qh (Qf HB.out);clear b';clear HB;have b':=n0_;have HB:=n1_;clear n0_ n1_;have v':0≤(x4_2:Int):=of_decide_eq_true (by first | (with_reducible assumption) | assumption);have u':x4_2 < (l0_2.length:Int):=of_decide_eq_true (by first | (with_reducible assumption) | assumption);obtain ⟨d',y',x',aa',j',i',h',g',f',e',r',s'⟩:=at_T57 HR0_2.out x4_2 v' u';have l':=e';have m':=f';have n':=g';have o':=h';have p':=i';have q':=j'
         cases aa'
         replace j':=(HB.out.cell (Qk w _ j')).trans j';replace i':=(HB.out.cell (Qk w _ i')).trans i';replace h':=(HB.out.cell (Qk w _ h')).trans h';replace g':=(HB.out.cell (Qk w _ g')).trans g';replace f':=(HB.out.cell (Qk w _ f')).trans f';replace e':=(HB.out.cell (Qk w _ e')).trans e';have t':=Qh s';have z':=Qh r';clear s' r';replace v':=eq_true v';replace u':=eq_true u';refine start_ (n:=11) (S:=fun w'=>w'.cell? ⟨c',0,none⟩=some (.int .i64 a0_0)∧w'.cell? ⟨c',1,none⟩=some (.int .i64 a0_1)∧w'.cell? ⟨c',2,none⟩=some (.slice (some d') l0_2.length c0_2)∧w'.cell? (d'.add ((x4_2).toNat * 6))=some (.int .i64 ((rd_T57 l0_2 x4_2).f0))∧w'.cell? ⟨(d'.add ((x4_2).toNat * 6)).block,(d'.add ((x4_2).toNat * 6)).off + 1,none⟩=some (.int .i64 ((rd_T57 l0_2 x4_2).f1))∧w'.cell? ⟨(d'.add ((x4_2).toNat * 6)).block,(d'.add ((x4_2).toNat * 6)).off + 2,none⟩=some (.slice y' ((rd_T57 l0_2 x4_2).f2).length x')∧w'.cell? ⟨(d'.add ((x4_2).toNat * 6)).block,(d'.add ((x4_2).toNat * 6)).off + 3,none⟩=some (.int .i64 ((rd_T57 l0_2 x4_2).f3))∧w'.cell? ⟨(d'.add ((x4_2).toNat * 6)).block,(d'.add ((x4_2).toNat * 6)).off + 4,none⟩=some (.int .i64 ((rd_T57 l0_2 x4_2).f4))∧w'.cell? ⟨(d'.add ((x4_2).toNat * 6)).block,(d'.add ((x4_2).toNat * 6)).off + 5,none⟩=some (.int .i64 ((rd_T57 l0_2 x4_2).f5))) (ds:=[]) #[false,false,false,false,false,false,false,false,false,false,false] (by kernel_rfl) rfl rfl ⟨(Qi b'.out 0).trans rfl,(Qi b'.out 1).trans rfl,(Qi b'.out 2).trans rfl,((HB.out.cell (Qk w _ q')).trans q'),((HB.out.cell (Qk w _ p')).trans p'),((HB.out.cell (Qk w _ o')).trans o'),((HB.out.cell (Qk w _ n')).trans n'),((HB.out.cell (Qk w _ m')).trans m'),((HB.out.cell (Qk w _ l')).trans l')⟩ (fun hHeld=>?_);refine with_tabW phasorref08_Check.tab6 phasorref08_Check.bits6 (fun HT_ HW_=>?_)
         generalize wr.drew=w19 at b' HB t' j' i' h' g' f' e' hHeld ⊢
         refine pure_ (i:=0) (N:=some 36) (v:=?_) (a':=?_) #[true,false,false,false,false,false,false,false,false,false,false] rfl rfl (any_of HT_.out (by kernel_rfl)) (fun _ _ _ h=>h) (Or.inl ⟨by rfl,?_⟩) ?_ ?_
         rotate_left
         ·intro w'
          go_simp
          with_reducible rfl
         rotate_left
         ·simp only [Act.put,List.setIfInBounds_toArray,List.set_cons_zero,List.set_cons_succ,i64_w,i32_w]
          rfl
         refine pure_ (i:=2) (N:=some 38) (v:=?_) (a':=?_) #[true,false,true,false,false,false,false,false,false,false,false] rfl rfl (any_of HT_.out (by kernel_rfl)) (fun _ _ _ h=>h) (Or.inl ⟨by rfl,?_⟩) ?_ ?_
         rotate_left
         ·intro w'
          go_simp
          with_reducible rfl
         rotate_left
         ·simp only [Act.put,List.setIfInBounds_toArray,List.set_cons_zero,List.set_cons_succ,i64_w,i32_w]
          rfl
         refine pure_ (i:=5) (N:=some 41) (v:=?_) (a':=?_) #[true,false,true,false,false,true,false,false,false,false,false] rfl rfl (any_of HT_.out (by kernel_rfl)) (fun _ _ _ h=>h) (Or.inl ⟨by rfl,?_⟩) ?_ ?_
         rotate_left
         ·intro w'
          go_simp
          with_reducible rfl
         rotate_left
         ·simp only [Act.put,List.setIfInBounds_toArray,List.set_cons_zero,List.set_cons_succ,i64_w,i32_w]
          rfl
         refine pure_ (i:=7) (N:=some 43) (v:=?_) (a':=?_) #[true,false,true,false,false,true,false,true,false,false,false] rfl rfl (any_of HT_.out (by kernel_rfl)) (fun _ _ _ h=>h) (Or.inl ⟨by rfl,?_⟩) ?_ ?_
         rotate_left
         ·intro w'
          go_simp
          with_reducible rfl
         rotate_left
         ·simp only [Act.put,List.setIfInBounds_toArray,List.set_cons_zero,List.set_cons_succ,i64_w,i32_w]
          rfl
         refine take_ (i:=1) (N:=some 37) (v:=?_) (a':=?_) #[true,true,true,false,false,true,false,true,false,false,false] rfl rfl (take_ofW HT_.out HW_.out (by kernel_rfl)) (fun _ _ _ h=>h) (Or.inl ⟨by rfl,?_⟩) hHeld ?_ ?_
         rotate_left
         ·rintro w' ⟨s0,s1,s2,s3,s4,s5,s6,s7,s8⟩
          go_simp
          with_reducible rfl
         rotate_left
         ·simp only [Act.put,List.setIfInBounds_toArray,List.set_cons_zero,List.set_cons_succ,i64_w,i32_w]
          rfl
         refine pure_ (i:=3) (N:=some 39) (v:=?_) (a':=?_) #[true,true,true,true,false,true,false,true,false,false,false] rfl rfl (any_of HT_.out (by kernel_rfl)) (fun _ _ _ h=>h) (Or.inl ⟨by rfl,?_⟩) ?_ ?_
         rotate_left
         ·intro w'
          go_simp
          with_reducible rfl
         rotate_left
         ·simp only [Act.put,List.setIfInBounds_toArray,List.set_cons_zero,List.set_cons_succ,i64_w,i32_w]
          rfl
         refine take_ (i:=4) (N:=some 40) (v:=?_) (a':=?_) #[true,true,true,true,true,true,false,true,false,false,false] rfl rfl (take_ofW HT_.out HW_.out (by kernel_rfl)) (fun _ _ _ h=>h) (Or.inl ⟨by rfl,?_⟩) hHeld ?_ ?_
         rotate_left
         ·rintro w' ⟨s0,s1,s2,s3,s4,s5,s6,s7,s8⟩
          go_simp
          with_reducible rfl
         rotate_left
         ·simp only [Act.put,List.setIfInBounds_toArray,List.set_cons_zero,List.set_cons_succ,i64_w,i32_w]
          rfl
         refine take_ (i:=6) (N:=some 42) (v:=?_) (a':=?_) #[true,true,true,true,true,true,true,true,false,false,false] rfl rfl (take_ofW HT_.out HW_.out (by kernel_rfl)) (fun _ _ _ h=>h) (Or.inl ⟨by rfl,?_⟩) hHeld ?_ ?_
         rotate_left
         ·rintro w' ⟨s0,s1,s2,s3,s4,s5,s6,s7,s8⟩
          go_simp
          with_reducible rfl
         rotate_left
         ·simp only [Act.put,List.setIfInBounds_toArray,List.set_cons_zero,List.set_cons_succ,i64_w,i32_w]
          rfl
         refine take_ (i:=8) (N:=some 44) (v:=?_) (a':=?_) #[true,true,true,true,true,true,true,true,true,false,false] rfl rfl (take_ofW HT_.out HW_.out (by kernel_rfl)) (fun _ _ _ h=>h) (Or.inl ⟨by rfl,?_⟩) hHeld ?_ ?_
         rotate_left
         ·rintro w' ⟨s0,s1,s2,s3,s4,s5,s6,s7,s8⟩
          go_simp
          with_reducible rfl
         rotate_left
         ·simp only [Act.put,List.setIfInBounds_toArray,List.set_cons_zero,List.set_cons_succ,i64_w,i32_w]
          rfl
         refine one_ (i:=9) (N:=some 45) #[true,true,true,true,true,true,true,true,true,true,false] rfl rfl (one_of HT_.out (by kernel_rfl)) (by decide) (fun K hK=>?_)
         refine goes_ Try.func56 (by kernel_rfl) rfl #[.agg #[.int .i64 ((rd_T57 l0_2 x4_2).f0),.int .i64 ((rd_T57 l0_2 x4_2).f1),.slice y' ((rd_T57 l0_2 x4_2).f2).length x',.int .i64 ((rd_T57 l0_2 x4_2).f3),.int .i64 ((rd_T57 l0_2 x4_2).f4),.int .i64 ((rd_T57 l0_2 x4_2).f5)],.int .i64 a0_0,.int .i64 a0_1] (by rfl) rfl rfl (by (try simp only [List.map_toArray,List.map_cons,List.map_nil]);first | done | rfl | (simp only [List.length_drop,List.length_take];rfl)) ?_
         with_reducible refine (phasorref08_Op.calls k2 ((rd_T57 l0_2 x4_2).f0) ((rd_T57 l0_2 x4_2).f1) _ _ ((rd_T57 l0_2 x4_2).f2) ((rd_T57 l0_2 x4_2).f3) ((rd_T57 l0_2 x4_2).f4) ((rd_T57 l0_2 x4_2).f5) a0_0 a0_1 true _ ?side1 ?side2 A16.out).mono ?_
         (case side1=>repeat (first | exact (Qt t'.out HB.out) | (with_reducible refine Kd.C_alloc ?_ _) | (with_reducible refine Kd.C_drewN ?_ _) | (with_reducible refine Kd.C_drew ?_)))
         (case side2=>exact z'.out)
         rintro e w20 ⟨rfl,hb⟩
         refine ⟨_,rfl,?_⟩
         have n0_:=Qh (Qq (g:=c') (o:=.cells #[.int .i64 a0_0,.int .i64 a0_1,.slice (some d') l0_2.length c0_2] 24 (0,0)) (by (with_reducible repeat (first | refine Qa ?_ _ | refine Qb ?_ | refine Qc ?_ _));exact b'.out) hb);have n1_:=Qh (Qr (by repeat (first | (with_reducible first | exact HB.out | apply Qd | apply Qe | apply Qf | refine Qg ?_ k'.out) | exact HB.out)) hb);clear b';clear HB;have b':=n0_;have HB:=n1_;clear n0_ n1_;(try clear hb)
         (try clear hb2)
         (try clear hk)
         (try clear hi)
         refine hK.out _ _ ⟨(Qi b'.out 0).trans rfl,(Qi b'.out 1).trans rfl,(Qi b'.out 2).trans rfl,((HB.out.cell (Qk w _ q')).trans q'),((HB.out.cell (Qk w _ p')).trans p'),((HB.out.cell (Qk w _ o')).trans o'),((HB.out.cell (Qk w _ n')).trans n'),((HB.out.cell (Qk w _ m')).trans m'),((HB.out.cell (Qk w _ l')).trans l')⟩ (fun hHeld=>?_)
         clear hK K;refine norm_ (a':=?_) ?_ ?_
         rotate_left
         ·show Act.put _ (some 45) _=_
          simp only [Act.put,List.setIfInBounds_toArray,List.set_cons_zero,List.set_cons_succ,i64_w,i32_w]
          rfl
         refine pure_ (i:=10) (N:=some 46) (v:=?_) (a':=?_) #[true,true,true,true,true,true,true,true,true,true,true] rfl rfl (any_of HT_.out (by kernel_rfl)) (fun _ _ _ h=>h) (Or.inl ⟨by rfl,?_⟩) ?_ ?_
         rotate_left
         ·intro w'
          go_simp
          with_reducible rfl
         rotate_left
         ·simp only [Act.put,List.setIfInBounds_toArray,List.set_cons_zero,List.set_cons_succ,i64_w,i32_w]
          rfl
         refine done_ (done_of HT_.out (by kernel_rfl)) ?_
         try go_wp2
         go_roundg k2
         case measure=>have:=HJ1.out;have:=HK2.out;omega
         case rel=>exact ⟨(wrap64 (x4_2 + 1)),(by first | rfl | (simp;done) | (simp [*];done)),H',⟨by have:=HJ1.out;have:=HK2.out;omega⟩,⟨by (with_reducible repeat (first | refine Qa ?_ _ | refine Qb ?_ | refine Qc ?_ _));exact b'.out⟩,⟨by repeat (first | (with_reducible first | exact HB.out | apply Qd | apply Qe | apply Qf | refine Qg ?_ k'.out) | exact HB.out)⟩⟩
        ·replace c17:=Bool.eq_false_iff.mpr c17
         subst c17;have H1:(some (x4_2,80))=some (r1,r2):=by rw [if_neg (show ¬ (false=true) by decide)] at H;exact H
         clear H;have H:=H1;clear H1;simp only [Option.some.injEq,Prod.mk.injEq] at H;obtain ⟨rfl,rfl⟩:=H;have bv':wr.cell? ⟨c',0,none⟩=some (.int .i64 a0_0):=(Qi b'.out 0).trans rfl;have bu':wr.cell? ⟨c',1,none⟩=some (.int .i64 a0_1):=(Qi b'.out 1).trans rfl;have bt':wr.cell? ⟨c',2,none⟩=some (.slice A0_2 l0_2.length c0_2):=(Qi b'.out 2).trans rfl;have bm':=Qj b'.out 0;have bl':=Qj b'.out 1;have bk':=Qj b'.out 2;try go_wp2
         have n0_:=Qh (Qb b'.out);have n1_:=Qh (Qf HB.out);clear b';clear HB;have b':=n0_;have HB:=n1_;clear n0_ n1_;have v':0≤(x4_2:Int):=of_decide_eq_true (by first | (with_reducible assumption) | assumption);have u':x4_2 < (l0_2.length:Int):=of_decide_eq_true (by first | (with_reducible assumption) | assumption);obtain ⟨d',y',x',aa',j',i',h',g',f',e',r',s'⟩:=at_T57 HR0_2.out x4_2 v' u';have l':=e';have m':=f';have n':=g';have o':=h';have p':=i';have q':=j'
         cases aa'
         replace j':=(HB.out.cell (Qk w _ j')).trans j';replace i':=(HB.out.cell (Qk w _ i')).trans i';replace h':=(HB.out.cell (Qk w _ h')).trans h';replace g':=(HB.out.cell (Qk w _ g')).trans g';replace f':=(HB.out.cell (Qk w _ f')).trans f';replace e':=(HB.out.cell (Qk w _ e')).trans e';have t':=Qh s';have z':=Qh r';clear s' r';replace v':=eq_true v';replace u':=eq_true u';refine start_ (n:=11) (S:=fun w'=>w'.cell? ⟨c',0,none⟩=some (.int .i64 a0_0)∧w'.cell? ⟨c',1,none⟩=some (.int .i64 a0_1)∧w'.cell? ⟨c',2,none⟩=some (.slice (some d') l0_2.length c0_2)∧w'.cell? (d'.add ((x4_2).toNat * 6))=some (.int .i64 ((rd_T57 l0_2 x4_2).f0))∧w'.cell? ⟨(d'.add ((x4_2).toNat * 6)).block,(d'.add ((x4_2).toNat * 6)).off + 1,none⟩=some (.int .i64 ((rd_T57 l0_2 x4_2).f1))∧w'.cell? ⟨(d'.add ((x4_2).toNat * 6)).block,(d'.add ((x4_2).toNat * 6)).off + 2,none⟩=some (.slice y' ((rd_T57 l0_2 x4_2).f2).length x')∧w'.cell? ⟨(d'.add ((x4_2).toNat * 6)).block,(d'.add ((x4_2).toNat * 6)).off + 3,none⟩=some (.int .i64 ((rd_T57 l0_2 x4_2).f3))∧w'.cell? ⟨(d'.add ((x4_2).toNat * 6)).block,(d'.add ((x4_2).toNat * 6)).off + 4,none⟩=some (.int .i64 ((rd_T57 l0_2 x4_2).f4))∧w'.cell? ⟨(d'.add ((x4_2).toNat * 6)).block,(d'.add ((x4_2).toNat * 6)).off + 5,none⟩=some (.int .i64 ((rd_T57 l0_2 x4_2).f5))) (ds:=[]) #[false,false,false,false,false,false,false,false,false,false,false] (by kernel_rfl) rfl rfl ⟨(Qi b'.out 0).trans rfl,(Qi b'.out 1).trans rfl,(Qi b'.out 2).trans rfl,((HB.out.cell (Qk w _ q')).trans q'),((HB.out.cell (Qk w _ p')).trans p'),((HB.out.cell (Qk w _ o')).trans o'),((HB.out.cell (Qk w _ n')).trans n'),((HB.out.cell (Qk w _ m')).trans m'),((HB.out.cell (Qk w _ l')).trans l')⟩ (fun hHeld=>?_);refine with_tabW phasorref08_Check.tab6 phasorref08_Check.bits6 (fun HT_ HW_=>?_)
         generalize wr.drew=w22 at b' HB t' j' i' h' g' f' e' hHeld ⊢
         refine pure_ (i:=0) (N:=some 36) (v:=?_) (a':=?_) #[true,false,false,false,false,false,false,false,false,false,false] rfl rfl (any_of HT_.out (by kernel_rfl)) (fun _ _ _ h=>h) (Or.inl ⟨by rfl,?_⟩) ?_ ?_
         rotate_left
         ·intro w'
          go_simp
          with_reducible rfl
         rotate_left
         ·simp only [Act.put,List.setIfInBounds_toArray,List.set_cons_zero,List.set_cons_succ,i64_w,i32_w]
          rfl
         refine pure_ (i:=2) (N:=some 38) (v:=?_) (a':=?_) #[true,false,true,false,false,false,false,false,false,false,false] rfl rfl (any_of HT_.out (by kernel_rfl)) (fun _ _ _ h=>h) (Or.inl ⟨by rfl,?_⟩) ?_ ?_
         rotate_left
         ·intro w'
          go_simp
          with_reducible rfl
         rotate_left
         ·simp only [Act.put,List.setIfInBounds_toArray,List.set_cons_zero,List.set_cons_succ,i64_w,i32_w]
          rfl
         refine pure_ (i:=5) (N:=some 41) (v:=?_) (a':=?_) #[true,false,true,false,false,true,false,false,false,false,false] rfl rfl (any_of HT_.out (by kernel_rfl)) (fun _ _ _ h=>h) (Or.inl ⟨by rfl,?_⟩) ?_ ?_
         rotate_left
         ·intro w'
          go_simp
          with_reducible rfl
         rotate_left
         ·simp only [Act.put,List.setIfInBounds_toArray,List.set_cons_zero,List.set_cons_succ,i64_w,i32_w]
          rfl
         refine pure_ (i:=7) (N:=some 43) (v:=?_) (a':=?_) #[true,false,true,false,false,true,false,true,false,false,false] rfl rfl (any_of HT_.out (by kernel_rfl)) (fun _ _ _ h=>h) (Or.inl ⟨by rfl,?_⟩) ?_ ?_
         rotate_left
         ·intro w'
          go_simp
          with_reducible rfl
         rotate_left
         ·simp only [Act.put,List.setIfInBounds_toArray,List.set_cons_zero,List.set_cons_succ,i64_w,i32_w]
          rfl
         refine take_ (i:=1) (N:=some 37) (v:=?_) (a':=?_) #[true,true,true,false,false,true,false,true,false,false,false] rfl rfl (take_ofW HT_.out HW_.out (by kernel_rfl)) (fun _ _ _ h=>h) (Or.inl ⟨by rfl,?_⟩) hHeld ?_ ?_
         rotate_left
         ·rintro w' ⟨s0,s1,s2,s3,s4,s5,s6,s7,s8⟩
          go_simp
          with_reducible rfl
         rotate_left
         ·simp only [Act.put,List.setIfInBounds_toArray,List.set_cons_zero,List.set_cons_succ,i64_w,i32_w]
          rfl
         refine pure_ (i:=3) (N:=some 39) (v:=?_) (a':=?_) #[true,true,true,true,false,true,false,true,false,false,false] rfl rfl (any_of HT_.out (by kernel_rfl)) (fun _ _ _ h=>h) (Or.inl ⟨by rfl,?_⟩) ?_ ?_
         rotate_left
         ·intro w'
          go_simp
          with_reducible rfl
         rotate_left
         ·simp only [Act.put,List.setIfInBounds_toArray,List.set_cons_zero,List.set_cons_succ,i64_w,i32_w]
          rfl
         refine take_ (i:=4) (N:=some 40) (v:=?_) (a':=?_) #[true,true,true,true,true,true,false,true,false,false,false] rfl rfl (take_ofW HT_.out HW_.out (by kernel_rfl)) (fun _ _ _ h=>h) (Or.inl ⟨by rfl,?_⟩) hHeld ?_ ?_
         rotate_left
         ·rintro w' ⟨s0,s1,s2,s3,s4,s5,s6,s7,s8⟩
          go_simp
          with_reducible rfl
         rotate_left
         ·simp only [Act.put,List.setIfInBounds_toArray,List.set_cons_zero,List.set_cons_succ,i64_w,i32_w]
          rfl
         refine take_ (i:=6) (N:=some 42) (v:=?_) (a':=?_) #[true,true,true,true,true,true,true,true,false,false,false] rfl rfl (take_ofW HT_.out HW_.out (by kernel_rfl)) (fun _ _ _ h=>h) (Or.inl ⟨by rfl,?_⟩) hHeld ?_ ?_
         rotate_left
         ·rintro w' ⟨s0,s1,s2,s3,s4,s5,s6,s7,s8⟩
          go_simp
          with_reducible rfl
         rotate_left
         ·simp only [Act.put,List.setIfInBounds_toArray,List.set_cons_zero,List.set_cons_succ,i64_w,i32_w]
          rfl
         refine take_ (i:=8) (N:=some 44) (v:=?_) (a':=?_) #[true,true,true,true,true,true,true,true,true,false,false] rfl rfl (take_ofW HT_.out HW_.out (by kernel_rfl)) (fun _ _ _ h=>h) (Or.inl ⟨by rfl,?_⟩) hHeld ?_ ?_
         rotate_left
         ·rintro w' ⟨s0,s1,s2,s3,s4,s5,s6,s7,s8⟩
          go_simp
          with_reducible rfl
         rotate_left
         ·simp only [Act.put,List.setIfInBounds_toArray,List.set_cons_zero,List.set_cons_succ,i64_w,i32_w]
          rfl
         refine one_ (i:=9) (N:=some 45) #[true,true,true,true,true,true,true,true,true,true,false] rfl rfl (one_of HT_.out (by kernel_rfl)) (by decide) (fun K hK=>?_)
         refine goes_ Try.func56 (by kernel_rfl) rfl #[.agg #[.int .i64 ((rd_T57 l0_2 x4_2).f0),.int .i64 ((rd_T57 l0_2 x4_2).f1),.slice y' ((rd_T57 l0_2 x4_2).f2).length x',.int .i64 ((rd_T57 l0_2 x4_2).f3),.int .i64 ((rd_T57 l0_2 x4_2).f4),.int .i64 ((rd_T57 l0_2 x4_2).f5)],.int .i64 a0_0,.int .i64 a0_1] (by rfl) rfl rfl (by (try simp only [List.map_toArray,List.map_cons,List.map_nil]);first | done | rfl | (simp only [List.length_drop,List.length_take];rfl)) ?_
         with_reducible refine (phasorref08_Op.calls k2 ((rd_T57 l0_2 x4_2).f0) ((rd_T57 l0_2 x4_2).f1) _ _ ((rd_T57 l0_2 x4_2).f2) ((rd_T57 l0_2 x4_2).f3) ((rd_T57 l0_2 x4_2).f4) ((rd_T57 l0_2 x4_2).f5) a0_0 a0_1 false _ ?side1 ?side2 A16.out).mono ?_
         (case side1=>repeat (first | exact (Qt t'.out HB.out) | (with_reducible refine Kd.C_alloc ?_ _) | (with_reducible refine Kd.C_drewN ?_ _) | (with_reducible refine Kd.C_drew ?_)))
         (case side2=>exact z'.out)
         rintro e w23 ⟨rfl,hb⟩
         refine ⟨_,rfl,?_⟩
         have n0_:=Qh (Qq (g:=c') (o:=.cells #[.int .i64 a0_0,.int .i64 a0_1,.slice (some d') l0_2.length c0_2] 24 (0,0)) (by (with_reducible repeat (first | refine Qa ?_ _ | refine Qb ?_ | refine Qc ?_ _));exact b'.out) hb);have n1_:=Qh (Qr (by repeat (first | (with_reducible first | exact HB.out | apply Qd | apply Qe | apply Qf | refine Qg ?_ k'.out) | exact HB.out)) hb);clear b';clear HB;have b':=n0_;have HB:=n1_;clear n0_ n1_;(try clear hb)
         (try clear hb2)
         (try clear hk)
         (try clear hi)
         refine hK.out _ _ ⟨(Qi b'.out 0).trans rfl,(Qi b'.out 1).trans rfl,(Qi b'.out 2).trans rfl,((HB.out.cell (Qk w _ q')).trans q'),((HB.out.cell (Qk w _ p')).trans p'),((HB.out.cell (Qk w _ o')).trans o'),((HB.out.cell (Qk w _ n')).trans n'),((HB.out.cell (Qk w _ m')).trans m'),((HB.out.cell (Qk w _ l')).trans l')⟩ (fun hHeld=>?_)
         clear hK K;refine norm_ (a':=?_) ?_ ?_
         rotate_left
         ·show Act.put _ (some 45) _=_
          simp only [Act.put,List.setIfInBounds_toArray,List.set_cons_zero,List.set_cons_succ,i64_w,i32_w]
          rfl
         refine pure_ (i:=10) (N:=some 46) (v:=?_) (a':=?_) #[true,true,true,true,true,true,true,true,true,true,true] rfl rfl (any_of HT_.out (by kernel_rfl)) (fun _ _ _ h=>h) (Or.inl ⟨by rfl,?_⟩) ?_ ?_
         rotate_left
         ·intro w'
          go_simp
          with_reducible rfl
         rotate_left
         ·simp only [Act.put,List.setIfInBounds_toArray,List.set_cons_zero,List.set_cons_succ,i64_w,i32_w]
          rfl
         refine done_ (done_of HT_.out (by kernel_rfl)) ?_
         try go_wp2
         go_ret2
         exact ⟨by first | rfl | (simp [errW_none,errW_some]<;>rfl) | (simp [*,errW_none,errW_some]<;>rfl),by repeat (first | (with_reducible first | exact HB.out | apply Qd | apply Qe | apply Qf | refine Qg ?_ k'.out) | exact HB.out)⟩
       ·rw [if_neg c15] at H
        exact absurd H (by simp)
      ·rw [if_neg c14] at H
       have c14b0:decide (x4_2 < (l0_2.length:Int))=false:=decide_eq_false c14;clear c14;simp only [Option.some.injEq,Prod.mk.injEq] at H;obtain ⟨rfl,rfl⟩:=H;have bs':wr.cell? ⟨c',0,none⟩=some (.int .i64 a0_0):=(Qi b'.out 0).trans rfl;have br':wr.cell? ⟨c',1,none⟩=some (.int .i64 a0_1):=(Qi b'.out 1).trans rfl;have bq':wr.cell? ⟨c',2,none⟩=some (.slice A0_2 l0_2.length c0_2):=(Qi b'.out 2).trans rfl;have bj':=Qj b'.out 0;have bi':=Qj b'.out 1;have bh':=Qj b'.out 2;go_wp2
       go_ret2
       exact ⟨by first | rfl | (simp [errW_none,errW_some]<;>rfl) | (simp [*,errW_none,errW_some]<;>rfl),by repeat (first | (with_reducible first | exact HB.out | apply Qd | apply Qe | apply Qf | refine Qg ?_ k'.out) | exact HB.out)⟩
def phasorref08_May.f (k:Nat) (a0_0:Int) (a0_1:Int) (l0_2:List (S57)):Option (Bool):=(phasorref08_Check.f k a0_0 a0_1 l0_2).bind fun bt14102=>(some (bt14102.2 == 0))
set_option maxHeartbeats 8000000 in
set_option maxRecDepth 100000 in
theorem phasorref08_May.calls (k:Nat) (a0_0:Int) (a0_1:Int) (A0_2:Option Addr) (c0_2:Nat) (l0_2:List (S57)) (r:Bool) (w:World) (hr0_2:Kd.C k57 w A0_2 l0_2.length l0_2) (hc0_2:l0_2.length≤c0_2) (h:phasorref08_May.f k a0_0 a0_1 l0_2=some r) :
  Calls Try.prog 28 #[.agg #[.int .i64 a0_0,.int .i64 a0_1,.slice A0_2 l0_2.length c0_2]] w fun e w'=>e=.returned (.bool r)∧Below w.heap.size w w':=by
 have hu24:=Try.underlying24;have HR0_2:=Qh hr0_2;have HC0_2:=Qh hc0_2;clear hr0_2 hc0_2;have HB:=Qh (Below.refl w.heap.size w);have H:((phasorref08_Check.f k a0_0 a0_1 l0_2).bind fun e'=>(some (e'.2 == 0)))=some r:=h;clear h;replace H:=Option.bind_eq_some_iff.mp H;obtain ⟨⟨f',d'⟩,A20,H⟩:=H;replace H:(some (d' == 0))=some r:=H
 have A2:=Qh A20;clear A20;obtain rfl:=Option.some.inj H;go_enter Try.func28,Try.ntmps28
 go_wp2_with (first | ((with_reducible refine gate_dst (N:=1) rfl ?_);refine box_event ?hg (N:=1) ?hd (cs:=#[.int .i64 a0_0,.int .i64 a0_1,.slice A0_2 l0_2.length c0_2]) (t:=24) ?hr ?_;(case hd=>rfl);(case hg=>rfl);(case hr=>first | (go_simp;done) | (go_simp;rfl));intro b' hg w3 hbox hb;have n0_:=Qh (Qr (by repeat (first | (with_reducible first | exact HB.out | apply Qd | apply Qe | apply Qf) | exact HB.out)) hb);have n1_:=Qh (hbox);have n2_:=Qh ((by rw [hg];exact (Qs (by repeat (first | (with_reducible first | exact HB.out | apply Qd | apply Qe | apply Qf) | exact HB.out))):w.heap.size≤b'));have n3_:=Qh ((by rw [hg];exact (Qs (by repeat (first | (with_reducible first | exact HB.out | apply Qd | apply Qe | apply Qf) | exact HB.out))):w.heap.size≤b'));clear HB;have HB:=n0_;have a':=n1_;have g':=n2_;have c':=n3_;clear n0_ n1_ n2_ n3_;clear hb hbox hg;have m':w3.cell? ⟨b',0,none⟩=some (.int .i64 a0_0):=(Qi a'.out 0).trans rfl;have l':w3.cell? ⟨b',1,none⟩=some (.int .i64 a0_1):=(Qi a'.out 1).trans rfl;have k':w3.cell? ⟨b',2,none⟩=some (.slice A0_2 l0_2.length c0_2):=(Qi a'.out 2).trans rfl;have j':=Qj a'.out 0;have i':=Qj a'.out 1;have h':=Qj a'.out 2) | ((with_reducible refine gate_callee (f:=43) rfl ?_);refine goesL_ (some 7) rfl rfl Try.func43 (by kernel_rfl) rfl #[.agg #[.int .i64 a0_0,.int .i64 a0_1,.slice A0_2 l0_2.length c0_2]] rfl (by (try simp only [List.map_toArray,List.map_cons,List.map_nil]);first | done | rfl | (simp only [List.length_drop,List.length_take];rfl)) ?_;(with_reducible refine (phasorref08_Check.calls k a0_0 a0_1 _ _ l0_2 f' d' _ ?side1 ?side2 A2.out).mono ?_);(case side1=>repeat (first | exact (Qt HR0_2.out HB.out) | (with_reducible refine Kd.C_alloc ?_ _) | (with_reducible refine Kd.C_drewN ?_ _) | (with_reducible refine Kd.C_drew ?_)));(case side2=>exact HC0_2.out);rintro e w5 ⟨rfl,hb⟩;refine ⟨_,rfl,?_⟩;have n0_:=Qh (Qq (g:=b') (o:=.cells #[.int .i64 a0_0,.int .i64 a0_1,.slice A0_2 l0_2.length c0_2] 24 (0,0)) (by (with_reducible repeat (first | refine Qa ?_ _ | refine Qb ?_ | refine Qc ?_ _));exact a'.out) hb);have n1_:=Qh (Qr (by repeat (first | (with_reducible first | exact HB.out | apply Qd | apply Qe | apply Qf | refine Qg ?_ c'.out) | exact HB.out)) hb);clear a';clear HB;have a':=n0_;have HB:=n1_;clear n0_ n1_;(try clear hb);(try clear hb2);(try clear hk);(try clear hi)))
 go_ret
 exact ⟨by first | rfl | (simp [errW_none,errW_some]<;>rfl) | (simp [*,errW_none,errW_some]<;>rfl),by repeat (first | (with_reducible first | exact HB.out | apply Qd | apply Qe | apply Qf | refine Qg ?_ c'.out) | exact HB.out)⟩
mutual
def phasorref19_meet.l0:Nat→List Int→List Int→Int→Option (Bool)
 | 0,_,_,_=>none
 | k + 1,x0,x1,x5=>if x5 < (x0.length:Int) then (phasorref19_meet.l1 k x0 x1 x5 0) else (some false)
def phasorref19_meet.l1:Nat→List Int→List Int→Int→Int→Option (Bool)
 | 0,_,_,_,_=>none
 | k + 1,x0,x1,x5,x6=>if x6 < (x1.length:Int) then (if 0≤x5 then (if x5 < (x0.length:Int) then (if 0≤x6 then (if (rd x0 x5)=(rd x1 x6) then (some true) else (phasorref19_meet.l1 k x0 x1 x5 (wrap64 (x6 + 1)))) else (none)) else (none)) else (none)) else (phasorref19_meet.l0 k x0 x1 (wrap64 (x5 + 1)))
end
def phasorref19_meet.f (k:Nat) (l0:List Int) (l1:List Int):Option (Bool):=phasorref19_meet.l0 k l0 l1 0
set_option maxHeartbeats 8000000 in
set_option maxRecDepth 100000 in
theorem phasorref19_meet.calls (k:Nat) (A0:Option Addr) (c0:Nat) (l0:List Int) (A1:Option Addr) (c1:Nat) (l1:List Int) (r:Bool) (w:World) (hr0:Kd.C (Kd.int .i64) w A0 l0.length l0) (hc0:l0.length≤c0) (hr1:Kd.C (Kd.int .i64) w A1 l1.length l1) (hc1:l1.length≤c1) (h:phasorref19_meet.f k l0 l1=some r) :
  Calls Try.prog 44 #[.slice A0 l0.length c0,.slice A1 l1.length c1] w fun e w'=>e=.returned (.bool r)∧Drawn0 w w':=by
 have HR0:=Qh hr0;have HC0:=Qh hc0;clear hr0 hc0;have HR1:=Qh hr1;have HC1:=Qh hc1;clear hr1 hc1;have H:(phasorref19_meet.l0 k l0 l1 0)=some r:=h;clear h;have H':=Qh H;clear H;go_enter Try.func44,Try.ntmps44
 go_wp2
 repeat (go_quiet (fail);try go_wp2)
 go_loopg [5] k (fun kq v5 w'=>∃ (x5_1:Int),v5=.int .i64 x5_1∧Aside0 (phasorref19_meet.l0 kq l0 l1 x5_1=some r)∧Aside0 (kq≤k)∧Drawn0 w w')
 case atStart=>exact ⟨(0),(by first | rfl | (simp;done) | (simp [*];done)),H',⟨Nat.le_refl _⟩,by repeat (first | exact Drawn0.refl _ | apply Drawn0.step)⟩
 case round =>
  clear H';(try clear c1);(try clear p2);obtain ⟨x5_1,rfl,HA,HK1,⟨m1,rfl⟩⟩:=hrel
  cases gk with
  | zero=>exact absurd HA.out (by simp [phasorref19_meet.l0])
  | succ k1 =>
   have H:=HA.out;clear HA;simp only [phasorref19_meet.l0] at H;by_cases c3:x5_1 < (l0.length:Int)
   ·rw [if_pos c3] at H
    have c3b0:decide (x5_1 < (l0.length:Int))=true:=decide_eq_true c3;clear c3;have H':=Qh H;clear H;go_wp2
    repeat (go_quiet (fail);try go_wp2)
    go_loopg [6] k1 (fun kq v6 w'=>∃ (x6_2:Int),v6=.int .i64 x6_2∧Aside0 (phasorref19_meet.l1 kq l0 l1 x5_1 x6_2=some r)∧Aside0 (kq≤k1)∧Drawn0 w w')
    case atStart=>exact ⟨(0),(by first | rfl | (simp;done) | (simp [*];done)),H',⟨Nat.le_refl _⟩,by repeat (first | exact Drawn0.refl _ | apply Drawn0.step)⟩
    case round =>
     clear H';(try clear c1);(try clear p2);(try clear c3);(try clear c3b0);(try clear p2);obtain ⟨x6_2,rfl,HA,HK2,⟨m2,rfl⟩⟩:=hrel
     cases gk with
     | zero=>exact absurd HA.out (by simp [phasorref19_meet.l1])
     | succ k2 =>
      have H:=HA.out;clear HA;simp only [phasorref19_meet.l1] at H;by_cases c4:x6_2 < (l1.length:Int)
      ·rw [if_pos c4] at H
       have c4b0:decide (x6_2 < (l1.length:Int))=true:=decide_eq_true c4;clear c4;by_cases c5:0≤x5_1
       ·rw [if_pos c5] at H
        have c5b0:decide (0≤x5_1)=true:=decide_eq_true c5;clear c5;by_cases c6:x5_1 < (l0.length:Int)
        ·rw [if_pos c6] at H
         have c6b0:decide (x5_1 < (l0.length:Int))=true:=decide_eq_true c6;clear c6;by_cases c7:0≤x6_2
         ·rw [if_pos c7] at H
          have c7b0:decide (0≤x6_2)=true:=decide_eq_true c7;clear c7;by_cases c8:(rd l0 x5_1)=(rd l1 x6_2)
          ·rw [if_pos c8] at H
           have c8b0:((rd l0 x5_1) == (rd l1 x6_2))=true:=beq_iff_eq.mpr c8;have c8b1:((rd l0 x5_1) != (rd l1 x6_2))=false:=bne_eq_false_iff_eq.mpr c8;clear c8;obtain rfl:=Option.some.inj H;have d':0≤(x5_1:Int):=of_decide_eq_true (by first | (with_reducible assumption) | assumption);have b':x5_1 < (l0.length:Int):=of_decide_eq_true (by first | (with_reducible assumption) | assumption);obtain ⟨j',f',h'⟩:=Kd.at_int HR0.out x5_1 d' b'
           cases f'
           replace d':=eq_true d';replace b':=eq_true b';have c':0≤(x6_2:Int):=of_decide_eq_true (by first | (with_reducible assumption) | assumption);have a':x6_2 < (l1.length:Int):=of_decide_eq_true (by first | (with_reducible assumption) | assumption);obtain ⟨i',e',g'⟩:=Kd.at_int HR1.out x6_2 c' a'
           cases e';replace c':=eq_true c';replace a':=eq_true a';go_wp2
           repeat (go_quiet (fail);try go_wp2)
           go_ret
           exact ⟨by first | rfl | (simp;done) | (simp [*];done),by repeat (first | exact Drawn0.refl _ | apply Drawn0.step)⟩
          ·rw [if_neg c8] at H
           have c8b0:((rd l0 x5_1) == (rd l1 x6_2))=false:=beq_eq_false_iff_ne.mpr c8;have c8b1:((rd l0 x5_1) != (rd l1 x6_2))=true:=bne_iff_ne.mpr c8;have H':=Qh H;clear H;have d':0≤(x5_1:Int):=of_decide_eq_true (by first | (with_reducible assumption) | assumption);have b':x5_1 < (l0.length:Int):=of_decide_eq_true (by first | (with_reducible assumption) | assumption);obtain ⟨j',f',h'⟩:=Kd.at_int HR0.out x5_1 d' b'
           cases f'
           replace d':=eq_true d';replace b':=eq_true b';have c':0≤(x6_2:Int):=of_decide_eq_true (by first | (with_reducible assumption) | assumption);have a':x6_2 < (l1.length:Int):=of_decide_eq_true (by first | (with_reducible assumption) | assumption);obtain ⟨i',e',g'⟩:=Kd.at_int HR1.out x6_2 c' a'
           cases e';replace c':=eq_true c';replace a':=eq_true a';go_wp2
           repeat (go_quiet (fail);try go_wp2)
           go_roundg k2
           case measure=>have:=HK1.out;have:=HK2.out;omega
           case rel=>exact ⟨(wrap64 (x6_2 + 1)),(by first | rfl | (simp;done) | (simp [*];done)),H',⟨by have:=HK1.out;have:=HK2.out;omega⟩,by repeat (first | exact Drawn0.refl _ | apply Drawn0.step)⟩
         ·rw [if_neg c7] at H
          exact absurd H (by simp)
        ·rw [if_neg c6] at H
         exact absurd H (by simp)
       ·rw [if_neg c5] at H
        exact absurd H (by simp)
      ·rw [if_neg c4] at H
       have c4b0:decide (x6_2 < (l1.length:Int))=false:=decide_eq_false c4;clear c4;have H':=Qh H;clear H;go_wp2
       repeat (go_quiet (fail);try go_wp2)
       go_roundg k2
       case measure=>have:=HK1.out;have:=HK2.out;omega
       case rel=>exact ⟨(wrap64 (x5_1 + 1)),(by first | rfl | (simp;done) | (simp [*];done)),H',⟨by have:=HK1.out;have:=HK2.out;omega⟩,by repeat (first | exact Drawn0.refl _ | apply Drawn0.step)⟩
   ·rw [if_neg c3] at H
    have c3b0:decide (x5_1 < (l0.length:Int))=false:=decide_eq_false c3;clear c3;obtain rfl:=Option.some.inj H;go_wp2
    repeat (go_quiet (fail);try go_wp2)
    go_ret
    exact ⟨by first | rfl | (simp;done) | (simp [*];done),by repeat (first | exact Drawn0.refl _ | apply Drawn0.step)⟩
def phasorref19_wires.f (a0_0:Int) (a0_1:Int) (l0_2:List Int) (a0_3:Int) (a0_4:Int) (a0_5:Int):Option (List Int):=(some (([]:List Int):List Int)).bind fun y22602=>(if y22602.length + l0_2.length < 17592186044416 then ((some (y22602 ++ l0_2:List Int)).bind fun y22605=>(if a0_0=2 then (if y22605.length < 17592186044416 then ((some (y22605 ++ [wrap64 (100 + a0_3)]:List Int)).bind fun y22608=>(if a0_4 ≥ 0 then (if y22608.length < 17592186044416 then (some (y22608 ++ [wrap64 (100 + a0_4)])) else (none)) else (some y22608))) else (none)) else (if a0_4 ≥ 0 then (if y22605.length < 17592186044416 then (some (y22605 ++ [wrap64 (100 + a0_4)])) else (none)) else (some y22605)))) else (none))
set_option maxHeartbeats 8000000 in
set_option maxRecDepth 100000 in
theorem phasorref19_wires.calls (a0_0:Int) (a0_1:Int) (A0_2:Option Addr) (c0_2:Nat) (l0_2:List Int) (a0_3:Int) (a0_4:Int) (a0_5:Int) (r:List Int) (w:World) (hr0_2:Kd.C (Kd.int .i64) w A0_2 l0_2.length l0_2) (hc0_2:l0_2.length≤c0_2) (h:phasorref19_wires.f a0_0 a0_1 l0_2 a0_3 a0_4 a0_5=some r) :
  Calls Try.prog 45 #[.agg #[.int .i64 a0_0,.int .i64 a0_1,.slice A0_2 l0_2.length c0_2,.int .i64 a0_3,.int .i64 a0_4,.int .i64 a0_5]] w fun e w'=>∃ v0_:Value,e=.returned (v0_)∧Kd.R (Kd.int .i64) 3 w' w.heap.size (fun _=>True) v0_ r∧Below w.heap.size w w':=by
 have hu57:=Try.underlying57;have HR0_2:=Qh hr0_2;have HC0_2:=Qh hc0_2;clear hr0_2 hc0_2;have HB:=Qh (Below.refl w.heap.size w);have H:((some (([]:List Int):List Int)).bind fun h'=>(if h'.length + l0_2.length < 17592186044416 then ((some (h' ++ l0_2:List Int)).bind fun d'=>(if a0_0=2 then (if d'.length < 17592186044416 then ((some (d' ++ [wrap64 (100 + a0_3)]:List Int)).bind fun e'=>(if a0_4 ≥ 0 then (if e'.length < 17592186044416 then (some (e' ++ [wrap64 (100 + a0_4)])) else (none)) else (some e'))) else (none)) else (if a0_4 ≥ 0 then (if d'.length < 17592186044416 then (some (d' ++ [wrap64 (100 + a0_4)])) else (none)) else (some d')))) else (none)))=some r:=h;clear h;obtain ⟨h',p'⟩:∃ y_:List Int,y_=(([]:List Int)):=⟨_,rfl⟩;replace H:(if h'.length + l0_2.length < 17592186044416 then ((some (h' ++ l0_2:List Int)).bind fun d'=>(if a0_0=2 then (if d'.length < 17592186044416 then ((some (d' ++ [wrap64 (100 + a0_3)]:List Int)).bind fun e'=>(if a0_4 ≥ 0 then (if e'.length < 17592186044416 then (some (e' ++ [wrap64 (100 + a0_4)])) else (none)) else (some e'))) else (none)) else (if a0_4 ≥ 0 then (if d'.length < 17592186044416 then (some (d' ++ [wrap64 (100 + a0_4)])) else (none)) else (some d')))) else (none))=some r:=by first | (rw [p'];with_reducible exact H) | (have H2_:=(Option.bind_some _ _).symm.trans H;rw [p'];with_reducible exact H2_) | (have H2_:=(Option.bind_some _ _).symm.trans H;with_reducible exact H2_) | with_reducible exact H | (rw [p'];exact H) | exact H
 have i':=Qh p';clear p';by_cases c2:h'.length + l0_2.length < 17592186044416
 ·rw [if_pos c2] at H
  have u':=Qh c2;clear c2;obtain ⟨d',o'⟩:∃ y_:List Int,y_=(h' ++ l0_2):=⟨_,rfl⟩;replace H:(if a0_0=2 then (if d'.length < 17592186044416 then ((some (d' ++ [wrap64 (100 + a0_3)]:List Int)).bind fun e'=>(if a0_4 ≥ 0 then (if e'.length < 17592186044416 then (some (e' ++ [wrap64 (100 + a0_4)])) else (none)) else (some e'))) else (none)) else (if a0_4 ≥ 0 then (if d'.length < 17592186044416 then (some (d' ++ [wrap64 (100 + a0_4)])) else (none)) else (some d')))=some r:=by first | (rw [o'];with_reducible exact H) | (have H2_:=(Option.bind_some _ _).symm.trans H;rw [o'];with_reducible exact H2_) | (have H2_:=(Option.bind_some _ _).symm.trans H;with_reducible exact H2_) | with_reducible exact H | (rw [o'];exact H) | exact H
  have r':=Qh o';clear o';by_cases c3:a0_0=2
  ·rw [if_pos c3] at H
   have c3b0:(a0_0 == 2)=true:=beq_iff_eq.mpr c3;have c3b1:(a0_0 != 2)=false:=bne_eq_false_iff_eq.mpr c3;clear c3;by_cases c4:d'.length < 17592186044416
   ·rw [if_pos c4] at H
    have ad':=Qh c4;clear c4;obtain ⟨e',n'⟩:∃ y_:List Int,y_=(d' ++ [wrap64 (100 + a0_3)]):=⟨_,rfl⟩;replace H:(if a0_4 ≥ 0 then (if e'.length < 17592186044416 then (some (e' ++ [wrap64 (100 + a0_4)])) else (none)) else (some e'))=some r:=by first | (rw [n'];with_reducible exact H) | (have H2_:=(Option.bind_some _ _).symm.trans H;rw [n'];with_reducible exact H2_) | (have H2_:=(Option.bind_some _ _).symm.trans H;with_reducible exact H2_) | with_reducible exact H | (rw [n'];exact H) | exact H
    have t':=Qh n';clear n';by_cases c5:a0_4 ≥ 0
    ·rw [if_pos c5] at H
     have c5b0:decide (0≤a0_4)=true:=decide_eq_true c5;clear c5;by_cases c6:e'.length < 17592186044416
     ·rw [if_pos c6] at H
      have af':=Qh c6;clear c6;obtain ⟨ac',m'⟩:∃ y_:List Int,y_=(e' ++ [wrap64 (100 + a0_4)]):=⟨_,rfl⟩;replace H:(some ac')=some r:=by first | (rw [m'];with_reducible exact H) | (have H2_:=(Option.bind_some _ _).symm.trans H;rw [m'];with_reducible exact H2_) | (have H2_:=(Option.bind_some _ _).symm.trans H;with_reducible exact H2_) | with_reducible exact H | (rw [m'];exact H) | exact H
      have y':=Qh m';clear m';obtain rfl:=Option.some.inj H;go_enter Try.func45,Try.ntmps45
      go_wp2_with (first | ((with_reducible refine gate_dst (N:=1) rfl ?_);refine box_event ?hg (N:=1) ?hd (cs:=#[.int .i64 a0_0,.int .i64 a0_1,.slice A0_2 l0_2.length c0_2,.int .i64 a0_3,.int .i64 a0_4,.int .i64 a0_5]) (t:=57) ?hr ?_;(case hd=>rfl);(case hg=>rfl);(case hr=>first | (go_simp;done) | (go_simp;rfl));intro b' hg w7 hbox hb;have n0_:=Qh (Qr (by repeat (first | (with_reducible first | exact HB.out | apply Qd | apply Qe | apply Qf) | exact HB.out)) hb);have n1_:=Qh (hbox);have n2_:=Qh ((by rw [hg];exact (Qs (by repeat (first | (with_reducible first | exact HB.out | apply Qd | apply Qe | apply Qf) | exact HB.out))):w.heap.size≤b'));have n3_:=Qh ((by rw [hg];exact (Qs (by repeat (first | (with_reducible first | exact HB.out | apply Qd | apply Qe | apply Qf) | exact HB.out))):w.heap.size≤b'));clear HB;have HB:=n0_;have a':=n1_;have s':=n2_;have c':=n3_;clear n0_ n1_ n2_ n3_;clear hb hbox hg) | ((with_reducible refine gate_dst (N:=4) rfl ?_);refine Kd.R_lit (Kd.int .i64) _ 3 ?hg (N:=4) ?hd (xs:=([]:List Int)) (inner:=[]) (ok:=fun _=>True) (okp:=fun _=>True) ?hr ?hp (fun _ hk=>hk) trivial (Below.refl _ _) (Nat.le_refl _) (by simp) ?_;(case hd=>rfl);(case hg=>rfl);(case hr=>first | (go_simp;done) | (go_simp;rfl));(case hp=>exact (Reps.none _ _));intro j' w8 ho9 hb hg_ hnew_;clear hg_ hnew_;(first | rw [← i'.out] at ho9 | (simp only [Int.reduceToNat] at ho9;rw [← i'.out] at ho9));have n0_:=Qh (Kd.R_lower ho9 (Qs (by repeat (first | (with_reducible first | exact HB.out | apply Qd | apply Qe | apply Qf | refine Qg ?_ c'.out) | exact HB.out))));have n1_:=Qh (Qq (g:=b') (o:=.cells #[.int .i64 a0_0,.int .i64 a0_1,.slice A0_2 l0_2.length c0_2,.int .i64 a0_3,.int .i64 a0_4,.int .i64 a0_5] 57 (0,0)) (by (with_reducible repeat (first | refine Qa ?_ _ | refine Qb ?_ | refine Qc ?_ _));exact a'.out) hb);have n2_:=Qh (Qr (by repeat (first | (with_reducible first | exact HB.out | apply Qd | apply Qe | apply Qf | refine Qg ?_ c'.out) | exact HB.out)) hb);clear a';clear HB;have f':=n0_;have a':=n1_;have HB:=n2_;clear n0_ n1_ n2_;clear hb ho9;have ev':w8.cell? ⟨b',0,none⟩=some (.int .i64 a0_0):=(Qi a'.out 0).trans rfl;have eu':w8.cell? ⟨b',1,none⟩=some (.int .i64 a0_1):=(Qi a'.out 1).trans rfl;have et':w8.cell? ⟨b',2,none⟩=some (.slice A0_2 l0_2.length c0_2):=(Qi a'.out 2).trans rfl;have es':w8.cell? ⟨b',3,none⟩=some (.int .i64 a0_3):=(Qi a'.out 3).trans rfl;have er':w8.cell? ⟨b',4,none⟩=some (.int .i64 a0_4):=(Qi a'.out 4).trans rfl;have eq':w8.cell? ⟨b',5,none⟩=some (.int .i64 a0_5):=(Qi a'.out 5).trans rfl;have cn':=Qj a'.out 0;have cm':=Qj a'.out 1;have cl':=Qj a'.out 2;have ck':=Qj a'.out 3;have cj':=Qj a'.out 4;have ci':=Qj a'.out 5) | ((with_reducible refine gate_builtin (b:=.append) (xs:=#[.tmp 4,.tmp 6]) rfl ?_);at_builtin;refine Kd.R_append_rows (Kd.int .i64) (w0:=w) w.heap.size rfl (.tmp 4) (.tmp 6) 25 3 (.int .i64 0) 8 rfl Try.underlying25 info3 rfl (by decide) (by omega) j' h' l0_2 _ _ _ (fun _=>True) (fun _=>False) rfl rfl ?aO ?aR (fun _ _ h=>h) (fun _ h=>h.elim) ?aF ?aB ?aS ?aL ?_;(case aR=>repeat (first | exact (Qt HR0_2.out HB.out) | (with_reducible refine Kd.C_alloc ?_ _) | (with_reducible refine Kd.C_drewN ?_ _) | (with_reducible refine Kd.C_drew ?_)));(case aB=>exact (by repeat (first | (with_reducible first | exact HB.out | apply Qd | apply Qe | apply Qf | refine Qg ?_ c'.out) | exact HB.out)));(case aF=>exact (fun _ _=>trivial));(case aO=>exact (by (with_reducible repeat (first | apply Qv | apply Qw | apply Qx));exact f'.out));(case aS=>exact (Qs (by repeat (first | (with_reducible first | exact HB.out | apply Qd | apply Qe | apply Qf | refine Qg ?_ c'.out) | exact HB.out))));(case aL=>have:=u'.out;omega);intro k' w11 ho hb hg hat;rw [← r'.out] at ho;have n0_:=Qh (blk_grown (g:=b') (o:=.cells #[.int .i64 a0_0,.int .i64 a0_1,.slice A0_2 l0_2.length c0_2,.int .i64 a0_3,.int .i64 a0_4,.int .i64 a0_5] 57 (0,0)) (by (with_reducible repeat (first | refine Qa ?_ _ | refine Qb ?_ | refine Qc ?_ _));exact a'.out) hg (Kd.R_ne f'.out a'.out (by decide)));have n1_:=Qh (hb);have n2_:=Qh (ho);clear a';clear HB;clear f';have a':=n0_;have HB:=n1_;have g':=n2_;clear n0_ n1_ n2_;clear ho hb hg hat;have ep':w11.cell? ⟨b',0,none⟩=some (.int .i64 a0_0):=(Qi a'.out 0).trans rfl;have eo':w11.cell? ⟨b',1,none⟩=some (.int .i64 a0_1):=(Qi a'.out 1).trans rfl;have en':w11.cell? ⟨b',2,none⟩=some (.slice A0_2 l0_2.length c0_2):=(Qi a'.out 2).trans rfl;have em':w11.cell? ⟨b',3,none⟩=some (.int .i64 a0_3):=(Qi a'.out 3).trans rfl;have el':w11.cell? ⟨b',4,none⟩=some (.int .i64 a0_4):=(Qi a'.out 4).trans rfl;have ek':w11.cell? ⟨b',5,none⟩=some (.int .i64 a0_5):=(Qi a'.out 5).trans rfl;have ch':=Qj a'.out 0;have cg':=Qj a'.out 1;have cf':=Qj a'.out 2;have ce':=Qj a'.out 3;have cd':=Qj a'.out 4;have cc':=Qj a'.out 5) | ((with_reducible refine gate_builtin (b:=.append) (xs:=#[.tmp 11,.tmp 15]) rfl ?_);at_builtin;refine Kd.R_append (Kd.int .i64) (w0:=w) w.heap.size rfl (.tmp 11) (.tmp 15) 25 3 (.int .i64 0) 8 rfl Try.underlying25 info3 rfl (by decide) (by omega) k' d' (wrap64 (100 + a0_3)) [.int .i64 (wrap64 (100 + a0_3))] (fun _=>True) (fun _=>False) rfl rfl ?aP (fun _ hk=>hk.elim) ?aF ?aO ?aB ?aS ?aL ?_;(case aP=>exact rfl);(case aB=>exact (by repeat (first | (with_reducible first | exact HB.out | apply Qd | apply Qe | apply Qf | refine Qg ?_ c'.out) | exact HB.out)));(case aF=>exact (fun _ _=>trivial));(case aO=>exact (by (with_reducible repeat (first | apply Qv | apply Qw | apply Qx));exact g'.out));(case aS=>exact (Qs (by repeat (first | (with_reducible first | exact HB.out | apply Qd | apply Qe | apply Qf | refine Qg ?_ c'.out) | exact HB.out))));(case aL=>have:=ad'.out;omega);intro v' w13 ho hb hg hat;rw [← t'.out] at ho;have n0_:=Qh (blk_grown (g:=b') (o:=.cells #[.int .i64 a0_0,.int .i64 a0_1,.slice A0_2 l0_2.length c0_2,.int .i64 a0_3,.int .i64 a0_4,.int .i64 a0_5] 57 (0,0)) (by (with_reducible repeat (first | refine Qa ?_ _ | refine Qb ?_ | refine Qc ?_ _));exact a'.out) hg (Kd.R_ne g'.out a'.out (by decide)));have n1_:=Qh (hb);have n2_:=Qh (ho);clear a';clear HB;clear g';have a':=n0_;have HB:=n1_;have q':=n2_;clear n0_ n1_ n2_;clear ho hb hg hat;have ej':w13.cell? ⟨b',0,none⟩=some (.int .i64 a0_0):=(Qi a'.out 0).trans rfl;have ei':w13.cell? ⟨b',1,none⟩=some (.int .i64 a0_1):=(Qi a'.out 1).trans rfl;have eh':w13.cell? ⟨b',2,none⟩=some (.slice A0_2 l0_2.length c0_2):=(Qi a'.out 2).trans rfl;have eg':w13.cell? ⟨b',3,none⟩=some (.int .i64 a0_3):=(Qi a'.out 3).trans rfl;have ef':w13.cell? ⟨b',4,none⟩=some (.int .i64 a0_4):=(Qi a'.out 4).trans rfl;have ee':w13.cell? ⟨b',5,none⟩=some (.int .i64 a0_5):=(Qi a'.out 5).trans rfl;have cb':=Qj a'.out 0;have ca':=Qj a'.out 1;have bz':=Qj a'.out 2;have by':=Qj a'.out 3;have bx':=Qj a'.out 4;have bw':=Qj a'.out 5) | ((with_reducible refine gate_builtin (b:=.append) (xs:=#[.tmp 20,.tmp 24]) rfl ?_);at_builtin;refine Kd.R_append (Kd.int .i64) (w0:=w) w.heap.size rfl (.tmp 20) (.tmp 24) 25 3 (.int .i64 0) 8 rfl Try.underlying25 info3 rfl (by decide) (by omega) v' e' (wrap64 (100 + a0_4)) [.int .i64 (wrap64 (100 + a0_4))] (fun _=>True) (fun _=>False) rfl rfl ?aP (fun _ hk=>hk.elim) ?aF ?aO ?aB ?aS ?aL ?_;(case aP=>exact rfl);(case aB=>exact (by repeat (first | (with_reducible first | exact HB.out | apply Qd | apply Qe | apply Qf | refine Qg ?_ c'.out) | exact HB.out)));(case aF=>exact (fun _ _=>trivial));(case aO=>exact (by (with_reducible repeat (first | apply Qv | apply Qw | apply Qx));exact q'.out));(case aS=>exact (Qs (by repeat (first | (with_reducible first | exact HB.out | apply Qd | apply Qe | apply Qf | refine Qg ?_ c'.out) | exact HB.out))));(case aL=>have:=af'.out;omega);intro ex' w15 ho hb hg hat;rw [← y'.out] at ho;have n0_:=Qh (blk_grown (g:=b') (o:=.cells #[.int .i64 a0_0,.int .i64 a0_1,.slice A0_2 l0_2.length c0_2,.int .i64 a0_3,.int .i64 a0_4,.int .i64 a0_5] 57 (0,0)) (by (with_reducible repeat (first | refine Qa ?_ _ | refine Qb ?_ | refine Qc ?_ _));exact a'.out) hg (Kd.R_ne q'.out a'.out (by decide)));have n1_:=Qh (hb);have n2_:=Qh (ho);clear a';clear HB;clear q';have a':=n0_;have HB:=n1_;have aa':=n2_;clear n0_ n1_ n2_;clear ho hb hg hat))
      go_ret
      exact ⟨_,by first | rfl | (simp [errW_none,errW_some]<;>rfl) | (simp [*,errW_none,errW_some]<;>rfl),by (with_reducible repeat (first | apply Qv | apply Qw | apply Qx));exact aa'.out,by repeat (first | (with_reducible first | exact HB.out | apply Qd | apply Qe | apply Qf | refine Qg ?_ c'.out) | exact HB.out)⟩
     ·rw [if_neg c6] at H
      exact absurd H (by simp)
    ·rw [if_neg c5] at H
     have c5b0:decide (0≤a0_4)=false:=decide_eq_false c5;clear c5;obtain rfl:=Option.some.inj H;go_enter Try.func45,Try.ntmps45
     go_wp2_with (first | ((with_reducible refine gate_dst (N:=1) rfl ?_);refine box_event ?hg (N:=1) ?hd (cs:=#[.int .i64 a0_0,.int .i64 a0_1,.slice A0_2 l0_2.length c0_2,.int .i64 a0_3,.int .i64 a0_4,.int .i64 a0_5]) (t:=57) ?hr ?_;(case hd=>rfl);(case hg=>rfl);(case hr=>first | (go_simp;done) | (go_simp;rfl));intro b' hg w16 hbox hb;have n0_:=Qh (Qr (by repeat (first | (with_reducible first | exact HB.out | apply Qd | apply Qe | apply Qf) | exact HB.out)) hb);have n1_:=Qh (hbox);have n2_:=Qh ((by rw [hg];exact (Qs (by repeat (first | (with_reducible first | exact HB.out | apply Qd | apply Qe | apply Qf) | exact HB.out))):w.heap.size≤b'));have n3_:=Qh ((by rw [hg];exact (Qs (by repeat (first | (with_reducible first | exact HB.out | apply Qd | apply Qe | apply Qf) | exact HB.out))):w.heap.size≤b'));clear HB;have HB:=n0_;have a':=n1_;have s':=n2_;have c':=n3_;clear n0_ n1_ n2_ n3_;clear hb hbox hg) | ((with_reducible refine gate_dst (N:=4) rfl ?_);refine Kd.R_lit (Kd.int .i64) _ 3 ?hg (N:=4) ?hd (xs:=([]:List Int)) (inner:=[]) (ok:=fun _=>True) (okp:=fun _=>True) ?hr ?hp (fun _ hk=>hk) trivial (Below.refl _ _) (Nat.le_refl _) (by simp) ?_;(case hd=>rfl);(case hg=>rfl);(case hr=>first | (go_simp;done) | (go_simp;rfl));(case hp=>exact (Reps.none _ _));intro j' w17 ho18 hb hg_ hnew_;clear hg_ hnew_;(first | rw [← i'.out] at ho18 | (simp only [Int.reduceToNat] at ho18;rw [← i'.out] at ho18));have n0_:=Qh (Kd.R_lower ho18 (Qs (by repeat (first | (with_reducible first | exact HB.out | apply Qd | apply Qe | apply Qf | refine Qg ?_ c'.out) | exact HB.out))));have n1_:=Qh (Qq (g:=b') (o:=.cells #[.int .i64 a0_0,.int .i64 a0_1,.slice A0_2 l0_2.length c0_2,.int .i64 a0_3,.int .i64 a0_4,.int .i64 a0_5] 57 (0,0)) (by (with_reducible repeat (first | refine Qa ?_ _ | refine Qb ?_ | refine Qc ?_ _));exact a'.out) hb);have n2_:=Qh (Qr (by repeat (first | (with_reducible first | exact HB.out | apply Qd | apply Qe | apply Qf | refine Qg ?_ c'.out) | exact HB.out)) hb);clear a';clear HB;have f':=n0_;have a':=n1_;have HB:=n2_;clear n0_ n1_ n2_;clear hb ho18;have ed':w17.cell? ⟨b',0,none⟩=some (.int .i64 a0_0):=(Qi a'.out 0).trans rfl;have ec':w17.cell? ⟨b',1,none⟩=some (.int .i64 a0_1):=(Qi a'.out 1).trans rfl;have eb':w17.cell? ⟨b',2,none⟩=some (.slice A0_2 l0_2.length c0_2):=(Qi a'.out 2).trans rfl;have ea':w17.cell? ⟨b',3,none⟩=some (.int .i64 a0_3):=(Qi a'.out 3).trans rfl;have dz':w17.cell? ⟨b',4,none⟩=some (.int .i64 a0_4):=(Qi a'.out 4).trans rfl;have dy':w17.cell? ⟨b',5,none⟩=some (.int .i64 a0_5):=(Qi a'.out 5).trans rfl;have bv':=Qj a'.out 0;have bu':=Qj a'.out 1;have bt':=Qj a'.out 2;have bs':=Qj a'.out 3;have br':=Qj a'.out 4;have bq':=Qj a'.out 5) | ((with_reducible refine gate_builtin (b:=.append) (xs:=#[.tmp 4,.tmp 6]) rfl ?_);at_builtin;refine Kd.R_append_rows (Kd.int .i64) (w0:=w) w.heap.size rfl (.tmp 4) (.tmp 6) 25 3 (.int .i64 0) 8 rfl Try.underlying25 info3 rfl (by decide) (by omega) j' h' l0_2 _ _ _ (fun _=>True) (fun _=>False) rfl rfl ?aO ?aR (fun _ _ h=>h) (fun _ h=>h.elim) ?aF ?aB ?aS ?aL ?_;(case aR=>repeat (first | exact (Qt HR0_2.out HB.out) | (with_reducible refine Kd.C_alloc ?_ _) | (with_reducible refine Kd.C_drewN ?_ _) | (with_reducible refine Kd.C_drew ?_)));(case aB=>exact (by repeat (first | (with_reducible first | exact HB.out | apply Qd | apply Qe | apply Qf | refine Qg ?_ c'.out) | exact HB.out)));(case aF=>exact (fun _ _=>trivial));(case aO=>exact (by (with_reducible repeat (first | apply Qv | apply Qw | apply Qx));exact f'.out));(case aS=>exact (Qs (by repeat (first | (with_reducible first | exact HB.out | apply Qd | apply Qe | apply Qf | refine Qg ?_ c'.out) | exact HB.out))));(case aL=>have:=u'.out;omega);intro k' w20 ho hb hg hat;rw [← r'.out] at ho;have n0_:=Qh (blk_grown (g:=b') (o:=.cells #[.int .i64 a0_0,.int .i64 a0_1,.slice A0_2 l0_2.length c0_2,.int .i64 a0_3,.int .i64 a0_4,.int .i64 a0_5] 57 (0,0)) (by (with_reducible repeat (first | refine Qa ?_ _ | refine Qb ?_ | refine Qc ?_ _));exact a'.out) hg (Kd.R_ne f'.out a'.out (by decide)));have n1_:=Qh (hb);have n2_:=Qh (ho);clear a';clear HB;clear f';have a':=n0_;have HB:=n1_;have g':=n2_;clear n0_ n1_ n2_;clear ho hb hg hat;have dx':w20.cell? ⟨b',0,none⟩=some (.int .i64 a0_0):=(Qi a'.out 0).trans rfl;have dw':w20.cell? ⟨b',1,none⟩=some (.int .i64 a0_1):=(Qi a'.out 1).trans rfl;have dv':w20.cell? ⟨b',2,none⟩=some (.slice A0_2 l0_2.length c0_2):=(Qi a'.out 2).trans rfl;have du':w20.cell? ⟨b',3,none⟩=some (.int .i64 a0_3):=(Qi a'.out 3).trans rfl;have dt':w20.cell? ⟨b',4,none⟩=some (.int .i64 a0_4):=(Qi a'.out 4).trans rfl;have ds':w20.cell? ⟨b',5,none⟩=some (.int .i64 a0_5):=(Qi a'.out 5).trans rfl;have bp':=Qj a'.out 0;have bo':=Qj a'.out 1;have bn':=Qj a'.out 2;have bm':=Qj a'.out 3;have bl':=Qj a'.out 4;have bk':=Qj a'.out 5) | ((with_reducible refine gate_builtin (b:=.append) (xs:=#[.tmp 11,.tmp 15]) rfl ?_);at_builtin;refine Kd.R_append (Kd.int .i64) (w0:=w) w.heap.size rfl (.tmp 11) (.tmp 15) 25 3 (.int .i64 0) 8 rfl Try.underlying25 info3 rfl (by decide) (by omega) k' d' (wrap64 (100 + a0_3)) [.int .i64 (wrap64 (100 + a0_3))] (fun _=>True) (fun _=>False) rfl rfl ?aP (fun _ hk=>hk.elim) ?aF ?aO ?aB ?aS ?aL ?_;(case aP=>exact rfl);(case aB=>exact (by repeat (first | (with_reducible first | exact HB.out | apply Qd | apply Qe | apply Qf | refine Qg ?_ c'.out) | exact HB.out)));(case aF=>exact (fun _ _=>trivial));(case aO=>exact (by (with_reducible repeat (first | apply Qv | apply Qw | apply Qx));exact g'.out));(case aS=>exact (Qs (by repeat (first | (with_reducible first | exact HB.out | apply Qd | apply Qe | apply Qf | refine Qg ?_ c'.out) | exact HB.out))));(case aL=>have:=ad'.out;omega);intro v' w22 ho hb hg hat;rw [← t'.out] at ho;have n0_:=Qh (blk_grown (g:=b') (o:=.cells #[.int .i64 a0_0,.int .i64 a0_1,.slice A0_2 l0_2.length c0_2,.int .i64 a0_3,.int .i64 a0_4,.int .i64 a0_5] 57 (0,0)) (by (with_reducible repeat (first | refine Qa ?_ _ | refine Qb ?_ | refine Qc ?_ _));exact a'.out) hg (Kd.R_ne g'.out a'.out (by decide)));have n1_:=Qh (hb);have n2_:=Qh (ho);clear a';clear HB;clear g';have a':=n0_;have HB:=n1_;have q':=n2_;clear n0_ n1_ n2_;clear ho hb hg hat;have dr':w22.cell? ⟨b',0,none⟩=some (.int .i64 a0_0):=(Qi a'.out 0).trans rfl;have dq':w22.cell? ⟨b',1,none⟩=some (.int .i64 a0_1):=(Qi a'.out 1).trans rfl;have dp':w22.cell? ⟨b',2,none⟩=some (.slice A0_2 l0_2.length c0_2):=(Qi a'.out 2).trans rfl;have do':w22.cell? ⟨b',3,none⟩=some (.int .i64 a0_3):=(Qi a'.out 3).trans rfl;have dn':w22.cell? ⟨b',4,none⟩=some (.int .i64 a0_4):=(Qi a'.out 4).trans rfl;have dm':w22.cell? ⟨b',5,none⟩=some (.int .i64 a0_5):=(Qi a'.out 5).trans rfl;have bj':=Qj a'.out 0;have bi':=Qj a'.out 1;have bh':=Qj a'.out 2;have bg':=Qj a'.out 3;have bf':=Qj a'.out 4;have be':=Qj a'.out 5))
     go_ret
     exact ⟨_,by first | rfl | (simp [errW_none,errW_some]<;>rfl) | (simp [*,errW_none,errW_some]<;>rfl),by (with_reducible repeat (first | apply Qv | apply Qw | apply Qx));exact q'.out,by repeat (first | (with_reducible first | exact HB.out | apply Qd | apply Qe | apply Qf | refine Qg ?_ c'.out) | exact HB.out)⟩
   ·rw [if_neg c4] at H
    exact absurd H (by simp)
  ·rw [if_neg c3] at H
   have c3b0:(a0_0 == 2)=false:=beq_eq_false_iff_ne.mpr c3;have c3b1:(a0_0 != 2)=true:=bne_iff_ne.mpr c3;by_cases c24:a0_4 ≥ 0
   ·rw [if_pos c24] at H
    have c24b0:decide (0≤a0_4)=true:=decide_eq_true c24;clear c24;by_cases c25:d'.length < 17592186044416
    ·rw [if_pos c25] at H
     have ae':=Qh c25;clear c25;obtain ⟨ab',l'⟩:∃ y_:List Int,y_=(d' ++ [wrap64 (100 + a0_4)]):=⟨_,rfl⟩;replace H:(some ab')=some r:=by first | (rw [l'];with_reducible exact H) | (have H2_:=(Option.bind_some _ _).symm.trans H;rw [l'];with_reducible exact H2_) | (have H2_:=(Option.bind_some _ _).symm.trans H;with_reducible exact H2_) | with_reducible exact H | (rw [l'];exact H) | exact H
     have x':=Qh l';clear l';obtain rfl:=Option.some.inj H;go_enter Try.func45,Try.ntmps45
     go_wp2_with (first | ((with_reducible refine gate_dst (N:=1) rfl ?_);refine box_event ?hg (N:=1) ?hd (cs:=#[.int .i64 a0_0,.int .i64 a0_1,.slice A0_2 l0_2.length c0_2,.int .i64 a0_3,.int .i64 a0_4,.int .i64 a0_5]) (t:=57) ?hr ?_;(case hd=>rfl);(case hg=>rfl);(case hr=>first | (go_simp;done) | (go_simp;rfl));intro b' hg w26 hbox hb;have n0_:=Qh (Qr (by repeat (first | (with_reducible first | exact HB.out | apply Qd | apply Qe | apply Qf) | exact HB.out)) hb);have n1_:=Qh (hbox);have n2_:=Qh ((by rw [hg];exact (Qs (by repeat (first | (with_reducible first | exact HB.out | apply Qd | apply Qe | apply Qf) | exact HB.out))):w.heap.size≤b'));have n3_:=Qh ((by rw [hg];exact (Qs (by repeat (first | (with_reducible first | exact HB.out | apply Qd | apply Qe | apply Qf) | exact HB.out))):w.heap.size≤b'));clear HB;have HB:=n0_;have a':=n1_;have s':=n2_;have c':=n3_;clear n0_ n1_ n2_ n3_;clear hb hbox hg) | ((with_reducible refine gate_dst (N:=4) rfl ?_);refine Kd.R_lit (Kd.int .i64) _ 3 ?hg (N:=4) ?hd (xs:=([]:List Int)) (inner:=[]) (ok:=fun _=>True) (okp:=fun _=>True) ?hr ?hp (fun _ hk=>hk) trivial (Below.refl _ _) (Nat.le_refl _) (by simp) ?_;(case hd=>rfl);(case hg=>rfl);(case hr=>first | (go_simp;done) | (go_simp;rfl));(case hp=>exact (Reps.none _ _));intro j' w27 ho28 hb hg_ hnew_;clear hg_ hnew_;(first | rw [← i'.out] at ho28 | (simp only [Int.reduceToNat] at ho28;rw [← i'.out] at ho28));have n0_:=Qh (Kd.R_lower ho28 (Qs (by repeat (first | (with_reducible first | exact HB.out | apply Qd | apply Qe | apply Qf | refine Qg ?_ c'.out) | exact HB.out))));have n1_:=Qh (Qq (g:=b') (o:=.cells #[.int .i64 a0_0,.int .i64 a0_1,.slice A0_2 l0_2.length c0_2,.int .i64 a0_3,.int .i64 a0_4,.int .i64 a0_5] 57 (0,0)) (by (with_reducible repeat (first | refine Qa ?_ _ | refine Qb ?_ | refine Qc ?_ _));exact a'.out) hb);have n2_:=Qh (Qr (by repeat (first | (with_reducible first | exact HB.out | apply Qd | apply Qe | apply Qf | refine Qg ?_ c'.out) | exact HB.out)) hb);clear a';clear HB;have f':=n0_;have a':=n1_;have HB:=n2_;clear n0_ n1_ n2_;clear hb ho28;have dl':w27.cell? ⟨b',0,none⟩=some (.int .i64 a0_0):=(Qi a'.out 0).trans rfl;have dk':w27.cell? ⟨b',1,none⟩=some (.int .i64 a0_1):=(Qi a'.out 1).trans rfl;have dj':w27.cell? ⟨b',2,none⟩=some (.slice A0_2 l0_2.length c0_2):=(Qi a'.out 2).trans rfl;have di':w27.cell? ⟨b',3,none⟩=some (.int .i64 a0_3):=(Qi a'.out 3).trans rfl;have dh':w27.cell? ⟨b',4,none⟩=some (.int .i64 a0_4):=(Qi a'.out 4).trans rfl;have dg':w27.cell? ⟨b',5,none⟩=some (.int .i64 a0_5):=(Qi a'.out 5).trans rfl;have bd':=Qj a'.out 0;have bc':=Qj a'.out 1;have bb':=Qj a'.out 2;have ba':=Qj a'.out 3;have az':=Qj a'.out 4;have ay':=Qj a'.out 5) | ((with_reducible refine gate_builtin (b:=.append) (xs:=#[.tmp 4,.tmp 6]) rfl ?_);at_builtin;refine Kd.R_append_rows (Kd.int .i64) (w0:=w) w.heap.size rfl (.tmp 4) (.tmp 6) 25 3 (.int .i64 0) 8 rfl Try.underlying25 info3 rfl (by decide) (by omega) j' h' l0_2 _ _ _ (fun _=>True) (fun _=>False) rfl rfl ?aO ?aR (fun _ _ h=>h) (fun _ h=>h.elim) ?aF ?aB ?aS ?aL ?_;(case aR=>repeat (first | exact (Qt HR0_2.out HB.out) | (with_reducible refine Kd.C_alloc ?_ _) | (with_reducible refine Kd.C_drewN ?_ _) | (with_reducible refine Kd.C_drew ?_)));(case aB=>exact (by repeat (first | (with_reducible first | exact HB.out | apply Qd | apply Qe | apply Qf | refine Qg ?_ c'.out) | exact HB.out)));(case aF=>exact (fun _ _=>trivial));(case aO=>exact (by (with_reducible repeat (first | apply Qv | apply Qw | apply Qx));exact f'.out));(case aS=>exact (Qs (by repeat (first | (with_reducible first | exact HB.out | apply Qd | apply Qe | apply Qf | refine Qg ?_ c'.out) | exact HB.out))));(case aL=>have:=u'.out;omega);intro k' w30 ho hb hg hat;rw [← r'.out] at ho;have n0_:=Qh (blk_grown (g:=b') (o:=.cells #[.int .i64 a0_0,.int .i64 a0_1,.slice A0_2 l0_2.length c0_2,.int .i64 a0_3,.int .i64 a0_4,.int .i64 a0_5] 57 (0,0)) (by (with_reducible repeat (first | refine Qa ?_ _ | refine Qb ?_ | refine Qc ?_ _));exact a'.out) hg (Kd.R_ne f'.out a'.out (by decide)));have n1_:=Qh (hb);have n2_:=Qh (ho);clear a';clear HB;clear f';have a':=n0_;have HB:=n1_;have g':=n2_;clear n0_ n1_ n2_;clear ho hb hg hat;have df':w30.cell? ⟨b',0,none⟩=some (.int .i64 a0_0):=(Qi a'.out 0).trans rfl;have de':w30.cell? ⟨b',1,none⟩=some (.int .i64 a0_1):=(Qi a'.out 1).trans rfl;have dd':w30.cell? ⟨b',2,none⟩=some (.slice A0_2 l0_2.length c0_2):=(Qi a'.out 2).trans rfl;have dc':w30.cell? ⟨b',3,none⟩=some (.int .i64 a0_3):=(Qi a'.out 3).trans rfl;have db':w30.cell? ⟨b',4,none⟩=some (.int .i64 a0_4):=(Qi a'.out 4).trans rfl;have da':w30.cell? ⟨b',5,none⟩=some (.int .i64 a0_5):=(Qi a'.out 5).trans rfl;have ax':=Qj a'.out 0;have aw':=Qj a'.out 1;have av':=Qj a'.out 2;have au':=Qj a'.out 3;have at':=Qj a'.out 4;have as':=Qj a'.out 5) | ((with_reducible refine gate_builtin (b:=.append) (xs:=#[.tmp 20,.tmp 24]) rfl ?_);at_builtin;refine Kd.R_append (Kd.int .i64) (w0:=w) w.heap.size rfl (.tmp 20) (.tmp 24) 25 3 (.int .i64 0) 8 rfl Try.underlying25 info3 rfl (by decide) (by omega) k' d' (wrap64 (100 + a0_4)) [.int .i64 (wrap64 (100 + a0_4))] (fun _=>True) (fun _=>False) rfl rfl ?aP (fun _ hk=>hk.elim) ?aF ?aO ?aB ?aS ?aL ?_;(case aP=>exact rfl);(case aB=>exact (by repeat (first | (with_reducible first | exact HB.out | apply Qd | apply Qe | apply Qf | refine Qg ?_ c'.out) | exact HB.out)));(case aF=>exact (fun _ _=>trivial));(case aO=>exact (by (with_reducible repeat (first | apply Qv | apply Qw | apply Qx));exact g'.out));(case aS=>exact (Qs (by repeat (first | (with_reducible first | exact HB.out | apply Qd | apply Qe | apply Qf | refine Qg ?_ c'.out) | exact HB.out))));(case aL=>have:=ae'.out;omega);intro ew' w32 ho hb hg hat;rw [← x'.out] at ho;have n0_:=Qh (blk_grown (g:=b') (o:=.cells #[.int .i64 a0_0,.int .i64 a0_1,.slice A0_2 l0_2.length c0_2,.int .i64 a0_3,.int .i64 a0_4,.int .i64 a0_5] 57 (0,0)) (by (with_reducible repeat (first | refine Qa ?_ _ | refine Qb ?_ | refine Qc ?_ _));exact a'.out) hg (Kd.R_ne g'.out a'.out (by decide)));have n1_:=Qh (hb);have n2_:=Qh (ho);clear a';clear HB;clear g';have a':=n0_;have HB:=n1_;have z':=n2_;clear n0_ n1_ n2_;clear ho hb hg hat))
     go_ret
     exact ⟨_,by first | rfl | (simp [errW_none,errW_some]<;>rfl) | (simp [*,errW_none,errW_some]<;>rfl),by (with_reducible repeat (first | apply Qv | apply Qw | apply Qx));exact z'.out,by repeat (first | (with_reducible first | exact HB.out | apply Qd | apply Qe | apply Qf | refine Qg ?_ c'.out) | exact HB.out)⟩
    ·rw [if_neg c25] at H
     exact absurd H (by simp)
   ·rw [if_neg c24] at H
    have c24b0:decide (0≤a0_4)=false:=decide_eq_false c24;clear c24;obtain rfl:=Option.some.inj H;go_enter Try.func45,Try.ntmps45
    go_wp2_with (first | ((with_reducible refine gate_dst (N:=1) rfl ?_);refine box_event ?hg (N:=1) ?hd (cs:=#[.int .i64 a0_0,.int .i64 a0_1,.slice A0_2 l0_2.length c0_2,.int .i64 a0_3,.int .i64 a0_4,.int .i64 a0_5]) (t:=57) ?hr ?_;(case hd=>rfl);(case hg=>rfl);(case hr=>first | (go_simp;done) | (go_simp;rfl));intro b' hg w33 hbox hb;have n0_:=Qh (Qr (by repeat (first | (with_reducible first | exact HB.out | apply Qd | apply Qe | apply Qf) | exact HB.out)) hb);have n1_:=Qh (hbox);have n2_:=Qh ((by rw [hg];exact (Qs (by repeat (first | (with_reducible first | exact HB.out | apply Qd | apply Qe | apply Qf) | exact HB.out))):w.heap.size≤b'));have n3_:=Qh ((by rw [hg];exact (Qs (by repeat (first | (with_reducible first | exact HB.out | apply Qd | apply Qe | apply Qf) | exact HB.out))):w.heap.size≤b'));clear HB;have HB:=n0_;have a':=n1_;have s':=n2_;have c':=n3_;clear n0_ n1_ n2_ n3_;clear hb hbox hg) | ((with_reducible refine gate_dst (N:=4) rfl ?_);refine Kd.R_lit (Kd.int .i64) _ 3 ?hg (N:=4) ?hd (xs:=([]:List Int)) (inner:=[]) (ok:=fun _=>True) (okp:=fun _=>True) ?hr ?hp (fun _ hk=>hk) trivial (Below.refl _ _) (Nat.le_refl _) (by simp) ?_;(case hd=>rfl);(case hg=>rfl);(case hr=>first | (go_simp;done) | (go_simp;rfl));(case hp=>exact (Reps.none _ _));intro j' w34 ho35 hb hg_ hnew_;clear hg_ hnew_;(first | rw [← i'.out] at ho35 | (simp only [Int.reduceToNat] at ho35;rw [← i'.out] at ho35));have n0_:=Qh (Kd.R_lower ho35 (Qs (by repeat (first | (with_reducible first | exact HB.out | apply Qd | apply Qe | apply Qf | refine Qg ?_ c'.out) | exact HB.out))));have n1_:=Qh (Qq (g:=b') (o:=.cells #[.int .i64 a0_0,.int .i64 a0_1,.slice A0_2 l0_2.length c0_2,.int .i64 a0_3,.int .i64 a0_4,.int .i64 a0_5] 57 (0,0)) (by (with_reducible repeat (first | refine Qa ?_ _ | refine Qb ?_ | refine Qc ?_ _));exact a'.out) hb);have n2_:=Qh (Qr (by repeat (first | (with_reducible first | exact HB.out | apply Qd | apply Qe | apply Qf | refine Qg ?_ c'.out) | exact HB.out)) hb);clear a';clear HB;have f':=n0_;have a':=n1_;have HB:=n2_;clear n0_ n1_ n2_;clear hb ho35;have cz':w34.cell? ⟨b',0,none⟩=some (.int .i64 a0_0):=(Qi a'.out 0).trans rfl;have cy':w34.cell? ⟨b',1,none⟩=some (.int .i64 a0_1):=(Qi a'.out 1).trans rfl;have cx':w34.cell? ⟨b',2,none⟩=some (.slice A0_2 l0_2.length c0_2):=(Qi a'.out 2).trans rfl;have cw':w34.cell? ⟨b',3,none⟩=some (.int .i64 a0_3):=(Qi a'.out 3).trans rfl;have cv':w34.cell? ⟨b',4,none⟩=some (.int .i64 a0_4):=(Qi a'.out 4).trans rfl;have cu':w34.cell? ⟨b',5,none⟩=some (.int .i64 a0_5):=(Qi a'.out 5).trans rfl;have ar':=Qj a'.out 0;have aq':=Qj a'.out 1;have ap':=Qj a'.out 2;have ao':=Qj a'.out 3;have an':=Qj a'.out 4;have am':=Qj a'.out 5) | ((with_reducible refine gate_builtin (b:=.append) (xs:=#[.tmp 4,.tmp 6]) rfl ?_);at_builtin;refine Kd.R_append_rows (Kd.int .i64) (w0:=w) w.heap.size rfl (.tmp 4) (.tmp 6) 25 3 (.int .i64 0) 8 rfl Try.underlying25 info3 rfl (by decide) (by omega) j' h' l0_2 _ _ _ (fun _=>True) (fun _=>False) rfl rfl ?aO ?aR (fun _ _ h=>h) (fun _ h=>h.elim) ?aF ?aB ?aS ?aL ?_;(case aR=>repeat (first | exact (Qt HR0_2.out HB.out) | (with_reducible refine Kd.C_alloc ?_ _) | (with_reducible refine Kd.C_drewN ?_ _) | (with_reducible refine Kd.C_drew ?_)));(case aB=>exact (by repeat (first | (with_reducible first | exact HB.out | apply Qd | apply Qe | apply Qf | refine Qg ?_ c'.out) | exact HB.out)));(case aF=>exact (fun _ _=>trivial));(case aO=>exact (by (with_reducible repeat (first | apply Qv | apply Qw | apply Qx));exact f'.out));(case aS=>exact (Qs (by repeat (first | (with_reducible first | exact HB.out | apply Qd | apply Qe | apply Qf | refine Qg ?_ c'.out) | exact HB.out))));(case aL=>have:=u'.out;omega);intro k' w37 ho hb hg hat;rw [← r'.out] at ho;have n0_:=Qh (blk_grown (g:=b') (o:=.cells #[.int .i64 a0_0,.int .i64 a0_1,.slice A0_2 l0_2.length c0_2,.int .i64 a0_3,.int .i64 a0_4,.int .i64 a0_5] 57 (0,0)) (by (with_reducible repeat (first | refine Qa ?_ _ | refine Qb ?_ | refine Qc ?_ _));exact a'.out) hg (Kd.R_ne f'.out a'.out (by decide)));have n1_:=Qh (hb);have n2_:=Qh (ho);clear a';clear HB;clear f';have a':=n0_;have HB:=n1_;have g':=n2_;clear n0_ n1_ n2_;clear ho hb hg hat;have ct':w37.cell? ⟨b',0,none⟩=some (.int .i64 a0_0):=(Qi a'.out 0).trans rfl;have cs':w37.cell? ⟨b',1,none⟩=some (.int .i64 a0_1):=(Qi a'.out 1).trans rfl;have cr':w37.cell? ⟨b',2,none⟩=some (.slice A0_2 l0_2.length c0_2):=(Qi a'.out 2).trans rfl;have cq':w37.cell? ⟨b',3,none⟩=some (.int .i64 a0_3):=(Qi a'.out 3).trans rfl;have cp':w37.cell? ⟨b',4,none⟩=some (.int .i64 a0_4):=(Qi a'.out 4).trans rfl;have co':w37.cell? ⟨b',5,none⟩=some (.int .i64 a0_5):=(Qi a'.out 5).trans rfl;have al':=Qj a'.out 0;have ak':=Qj a'.out 1;have aj':=Qj a'.out 2;have ai':=Qj a'.out 3;have ah':=Qj a'.out 4;have ag':=Qj a'.out 5))
    go_ret
    exact ⟨_,by first | rfl | (simp [errW_none,errW_some]<;>rfl) | (simp [*,errW_none,errW_some]<;>rfl),by (with_reducible repeat (first | apply Qv | apply Qw | apply Qx));exact g'.out,by repeat (first | (with_reducible first | exact HB.out | apply Qd | apply Qe | apply Qf | refine Qg ?_ c'.out) | exact HB.out)⟩
 ·rw [if_neg c2] at H
  exact absurd H (by simp)
end Go.Proofs.Ytpnfhddcnnoclaa.Px
