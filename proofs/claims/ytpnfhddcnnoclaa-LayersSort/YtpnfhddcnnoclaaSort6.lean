import Derived.Test.YtpnfhddcnnoclaaSort5
namespace Go.Proofs.Ytpnfhddcnnoclaa.Px
open Go.RowKit Go.Proofs.YtpnfhddcnnoclaaW.PrintWords Go.Proofs.YtpnfhddcnnoclaaW.PrintLast Go.Proofs.YtpnfhddcnnoclaaW.PrintMore
attribute [local go_sem] max2_int min2_int max_two min_two max_three min_three max_four min_four
set_option linter.unusedVariables false
set_option linter.unusedSimpArgs false
mutual
def phasorref19_Sorted.l0:Nat→List Int→Int→List Int→Int→Int→Int→List (S57)→Option (Int × Int × (List (S57)) × Int)
 | 0,_,_,_,_,_,_,_=>none
 | k + 1,x4,x6,x8,x9,x11602000,x11602001,x11602002=>if x9≤x6 then (phasorref19_Sorted.l1 k x4 x6 x8 x9 0 x11602000 x11602001 x11602002) else ((phasorref19_only.f k x11602000 x11602001 x11602002 x8).bind fun bt11609=>(some (bt11609.1,bt11609.2.1,bt11609.2.2,0)))
def phasorref19_Sorted.l1:Nat→List Int→Int→List Int→Int→Int→Int→Int→List (S57)→Option (Int × Int × (List (S57)) × Int)
 | 0,_,_,_,_,_,_,_,_=>none
 | k + 1,x4,x6,x8,x9,x10,x11602000,x11602001,x11602002=>if x10 < 2 then (phasorref19_Sorted.l2 k x4 x6 x8 x9 x10 0 x11602000 x11602001 x11602002) else (phasorref19_Sorted.l0 k x4 x6 x8 (wrap64 (x9 + 1)) x11602000 x11602001 x11602002)
def phasorref19_Sorted.l2:Nat→List Int→Int→List Int→Int→Int→Int→Int→Int→List (S57)→Option (Int × Int × (List (S57)) × Int)
 | 0,_,_,_,_,_,_,_,_,_=>none
 | k + 1,x4,x6,x8,x9,x10,x11,x11602000,x11602001,x11602002=>if x11 < (x4.length:Int) then (if 0≤x11 then (if (rd x4 x11)=x9 then ((phasorref19_bar.f x11602000 x11602001 x11602002 x11).bind fun t11615=>(if (t11615 == (x10 == 1))=true then (if x8.length < 17592186044416 then (phasorref19_Sorted.l2 k x4 x6 (x8 ++ [x11]) x9 x10 (wrap64 (x11 + 1)) x11602000 x11602001 x11602002) else (none)) else (phasorref19_Sorted.l2 k x4 x6 x8 x9 x10 (wrap64 (x11 + 1)) x11602000 x11602001 x11602002))) else (phasorref19_Sorted.l2 k x4 x6 x8 x9 x10 (wrap64 (x11 + 1)) x11602000 x11602001 x11602002)) else (none)) else (phasorref19_Sorted.l1 k x4 x6 x8 x9 (wrap64 (x10 + 1)) x11602000 x11602001 x11602002)
end
def phasorref19_Sorted.f (k:Nat) (a0_0:Int) (a0_1:Int) (l0_2:List (S57)):Option (Int × Int × (List (S57)) × Int):=(phasorref19_Early.f k a0_0 a0_1 l0_2).bind fun bt11603=>((phasorref19_Depth.f k a0_0 a0_1 l0_2).bind fun bt11607=>(if bt11603.2=0 then (phasorref19_Sorted.l0 k bt11603.1 bt11607.1 ([]:List Int) 0 a0_0 a0_1 l0_2) else (some (0,0,([]:List (S57)),bt11603.2))))
set_option maxHeartbeats 8000000 in
set_option maxRecDepth 100000 in
theorem phasorref19_Sorted.calls (k:Nat) (a0_0:Int) (a0_1:Int) (A0_2:Option Addr) (c0_2:Nat) (l0_2:List (S57)) (r1:Int) (r2:Int) (r3:List (S57)) (r4:Int) (w:World) (hr0_2:Kd.C k57 w A0_2 l0_2.length l0_2) (hc0_2:l0_2.length≤c0_2) (h:phasorref19_Sorted.f k a0_0 a0_1 l0_2=some (r1,r2,r3,r4)) :
  Calls Try.prog 23 #[.agg #[.int .i64 a0_0,.int .i64 a0_1,.slice A0_2 l0_2.length c0_2]] w fun e w'=>∃ v2_:Value,e=.returned (.tuple #[.agg #[.int .i64 r1,.int .i64 r2,v2_],.int .i64 r4])∧Kd.N k57 57 w' w.heap.size (fun k_=>(w.heap.size≤k_)) v2_ r3∧Below w.heap.size w w':=by
 have hu24:=Try.underlying24;have HR0_2:=Qh hr0_2;have HC0_2:=Qh hc0_2;clear hr0_2 hc0_2;have HB:=Qh (Below.refl w.heap.size w);have H:((phasorref19_Early.f k a0_0 a0_1 l0_2).bind fun ad'=>((phasorref19_Depth.f k a0_0 a0_1 l0_2).bind fun ac'=>(if ad'.2=0 then (phasorref19_Sorted.l0 k ad'.1 ac'.1 ([]:List Int) 0 a0_0 a0_1 l0_2) else (some (0,0,([]:List (S57)),ad'.2)))))=some (r1,r2,r3,r4):=h;clear h;replace H:=Option.bind_eq_some_iff.mp H;obtain ⟨⟨g',l'⟩,A20,H⟩:=H;replace H:((phasorref19_Depth.f k a0_0 a0_1 l0_2).bind fun ac'=>(if l'=0 then (phasorref19_Sorted.l0 k g' ac'.1 ([]:List Int) 0 a0_0 a0_1 l0_2) else (some (0,0,([]:List (S57)),l'))))=some (r1,r2,r3,r4):=H
 have A2:=Qh A20;clear A20;replace H:=Option.bind_eq_some_iff.mp H;obtain ⟨⟨j',ao'⟩,A30,H⟩:=H;replace H:(if l'=0 then (phasorref19_Sorted.l0 k g' j' ([]:List Int) 0 a0_0 a0_1 l0_2) else (some (0,0,([]:List (S57)),l')))=some (r1,r2,r3,r4):=H
 have A3:=Qh A30;clear A30;by_cases c4:l'=0
 ·rw [if_pos c4] at H
  have c4b0:(l' == 0)=true:=beq_iff_eq.mpr c4;have c4b1:(l' != 0)=false:=bne_eq_false_iff_eq.mpr c4;clear c4;have H':=Qh H;clear H;go_enter Try.func23,Try.ntmps23
  go_wp2_with (first | ((with_reducible refine gate_dst (N:=1) rfl ?_);refine box_event ?hg (N:=1) ?hd (cs:=#[.int .i64 a0_0,.int .i64 a0_1,.slice A0_2 l0_2.length c0_2]) (t:=24) ?hr ?_;(case hd=>rfl);(case hg=>rfl);(case hr=>first | (go_simp;done) | (go_simp;rfl));intro c' hg w5 hbox hb;have n0_:=Qh (Qr (by repeat (first | (with_reducible first | exact HB.out | apply Qd | apply Qe | apply Qf) | exact HB.out)) hb);have n1_:=Qh (hbox);have n2_:=Qh ((by rw [hg];exact (Qs (by repeat (first | (with_reducible first | exact HB.out | apply Qd | apply Qe | apply Qf) | exact HB.out))):w.heap.size≤c'));have n3_:=Qh ((by rw [hg];exact (Qs (by repeat (first | (with_reducible first | exact HB.out | apply Qd | apply Qe | apply Qf) | exact HB.out))):w.heap.size≤c'));clear HB;have HB:=n0_;have a':=n1_;have as':=n2_;have e':=n3_;clear n0_ n1_ n2_ n3_;clear hb hbox hg) | ((with_reducible refine gate_dst (N:=2) rfl ?_);refine box_event ?hg (N:=2) ?hd (cs:=#[.int .i64 0,.int .i64 0,.slice none 0 0]) (t:=24) ?hr ?_;(case hd=>rfl);(case hg=>rfl);(case hr=>first | (go_simp;done) | (go_simp;rfl));intro d' hg w6 hbox hb;have n0_:=Qh (Qq (g:=c') (o:=.cells #[.int .i64 a0_0,.int .i64 a0_1,.slice A0_2 l0_2.length c0_2] 24 (0,0)) (by (with_reducible repeat (first | refine Qa ?_ _ | refine Qb ?_ | refine Qc ?_ _));exact a'.out) hb);have n1_:=Qh (Qr (by repeat (first | (with_reducible first | exact HB.out | apply Qd | apply Qe | apply Qf | refine Qg ?_ e'.out) | exact HB.out)) hb);have n2_:=Qh (hbox);have n3_:=Qh ((by rw [hg];exact (Qs (by repeat (first | (with_reducible first | exact HB.out | apply Qd | apply Qe | apply Qf | refine Qg ?_ e'.out) | exact HB.out))):w.heap.size≤d'));have n4_:=Qh ((by rw [hg];exact (Qs (by repeat (first | (with_reducible first | exact HB.out | apply Qd | apply Qe | apply Qf | refine Qg ?_ e'.out) | exact HB.out))):w.heap.size≤d'));have n5_:=Qh ((by rw [hg];exact Nat.ne_of_lt (blk_lt (g:=c') (o:=.cells #[.int .i64 a0_0,.int .i64 a0_1,.slice A0_2 l0_2.length c0_2] 24 (0,0)) (by (with_reducible repeat (first | refine Qa ?_ _ | refine Qb ?_ | refine Qc ?_ _));exact a'.out)):c'≠d'));have n6_:=Qh ((by rw [hg];exact Nat.ne_of_gt (blk_lt (g:=c') (o:=.cells #[.int .i64 a0_0,.int .i64 a0_1,.slice A0_2 l0_2.length c0_2] 24 (0,0)) (by (with_reducible repeat (first | refine Qa ?_ _ | refine Qb ?_ | refine Qc ?_ _));exact a'.out)):d'≠c'));clear a';clear HB;have a':=n0_;have HB:=n1_;have b':=n2_;have ar':=n3_;have f':=n4_;have i':=n5_;have h':=n6_;clear n0_ n1_ n2_ n3_ n4_ n5_ n6_;clear hb hbox hg;have cx':=i'.out;have cw':=h'.out;have al':w6.cell? ⟨c',0,none⟩=some (.int .i64 a0_0):=(Qi a'.out 0).trans rfl;have ak':w6.cell? ⟨c',1,none⟩=some (.int .i64 a0_1):=(Qi a'.out 1).trans rfl;have aj':w6.cell? ⟨c',2,none⟩=some (.slice A0_2 l0_2.length c0_2):=(Qi a'.out 2).trans rfl;have ai':=Qj a'.out 0;have ah':=Qj a'.out 1;have ag':=Qj a'.out 2) | ((with_reducible refine gate_callee (f:=7) rfl ?_);refine goesL_ (some 14) rfl rfl Try.func7 (by kernel_rfl) rfl #[.agg #[.int .i64 a0_0,.int .i64 a0_1,.slice A0_2 l0_2.length c0_2]] rfl (by (try simp only [List.map_toArray,List.map_cons,List.map_nil]);first | done | rfl | (simp only [List.length_drop,List.length_take];rfl)) ?_;(with_reducible refine (phasorref19_Early.calls k a0_0 a0_1 _ _ l0_2 g' l' _ ?side1 ?side2 A2.out).mono ?_);(case side1=>repeat (first | exact (Qt HR0_2.out HB.out) | (with_reducible refine Kd.C_alloc ?_ _) | (with_reducible refine Kd.C_drewN ?_ _) | (with_reducible refine Kd.C_drew ?_)));(case side2=>exact HC0_2.out);rintro e w9 ⟨p',rfl,ho0,hb⟩;refine ⟨_,rfl,?_⟩;have n0_:=Qh (Kd.R_lower (Kd.R_newM (M:=fun k_=>(w.heap.size≤k_)) ho0 (Qs (by repeat (first | (with_reducible first | exact HB.out | apply Qd | apply Qe | apply Qf | refine Qg ?_ e'.out | refine Qg ?_ f'.out) | exact HB.out))) (fun k_ h_=>h_)) (Qs (by repeat (first | (with_reducible first | exact HB.out | apply Qd | apply Qe | apply Qf | refine Qg ?_ e'.out | refine Qg ?_ f'.out) | exact HB.out))));have n1_:=Qh (Qq (g:=c') (o:=.cells #[.int .i64 a0_0,.int .i64 a0_1,.slice A0_2 l0_2.length c0_2] 24 (0,0)) (by (with_reducible repeat (first | refine Qa ?_ _ | refine Qb ?_ | refine Qc ?_ _));exact a'.out) hb);have n2_:=Qh (Qq (g:=d') (o:=.cells #[.int .i64 0,.int .i64 0,.slice none 0 0] 24 (0,0)) (by (with_reducible repeat (first | refine Qa ?_ _ | refine Qb ?_ | refine Qc ?_ _));exact b'.out) hb);have n3_:=Qh (Qr (by repeat (first | (with_reducible first | exact HB.out | apply Qd | apply Qe | apply Qf | refine Qg ?_ e'.out | refine Qg ?_ f'.out) | exact HB.out)) hb);clear a';clear b';clear HB;have o':=n0_;have a':=n1_;have b':=n2_;have HB:=n3_;clear n0_ n1_ n2_ n3_;(try clear hb);(try clear hb2);(try clear hk);(try clear hi);(try clear ho0);have ab':w9.cell? ⟨c',0,none⟩=some (.int .i64 a0_0):=(Qi a'.out 0).trans rfl;have aa':w9.cell? ⟨c',1,none⟩=some (.int .i64 a0_1):=(Qi a'.out 1).trans rfl;have z':w9.cell? ⟨c',2,none⟩=some (.slice A0_2 l0_2.length c0_2):=(Qi a'.out 2).trans rfl;have y':=Qj a'.out 0;have x':=Qj a'.out 1;have v':=Qj a'.out 2) | ((with_reducible refine gate_callee (f:=16) rfl ?_);refine goesL_ (some 19) rfl rfl Try.func16 (by kernel_rfl) rfl #[.agg #[.int .i64 a0_0,.int .i64 a0_1,.slice A0_2 l0_2.length c0_2]] rfl (by (try simp only [List.map_toArray,List.map_cons,List.map_nil]);first | done | rfl | (simp only [List.length_drop,List.length_take];rfl)) ?_;(with_reducible refine (phasorref19_Depth.calls k a0_0 a0_1 _ _ l0_2 j' ao' _ ?side1 ?side2 A3.out).mono ?_);(case side1=>repeat (first | exact (Qt HR0_2.out HB.out) | (with_reducible refine Kd.C_alloc ?_ _) | (with_reducible refine Kd.C_drewN ?_ _) | (with_reducible refine Kd.C_drew ?_)));(case side2=>exact HC0_2.out);rintro e w11 ⟨rfl,hb⟩;refine ⟨_,rfl,?_⟩;have n0_:=Qh (Kd.R_below (by (with_reducible repeat (first | apply Qv | apply Qw | apply Qx));exact o'.out) hb);have n1_:=Qh (Qq (g:=c') (o:=.cells #[.int .i64 a0_0,.int .i64 a0_1,.slice A0_2 l0_2.length c0_2] 24 (0,0)) (by (with_reducible repeat (first | refine Qa ?_ _ | refine Qb ?_ | refine Qc ?_ _));exact a'.out) hb);have n2_:=Qh (Qq (g:=d') (o:=.cells #[.int .i64 0,.int .i64 0,.slice none 0 0] 24 (0,0)) (by (with_reducible repeat (first | refine Qa ?_ _ | refine Qb ?_ | refine Qc ?_ _));exact b'.out) hb);have n3_:=Qh (Qr (by repeat (first | (with_reducible first | exact HB.out | apply Qd | apply Qe | apply Qf | refine Qg ?_ e'.out | refine Qg ?_ f'.out) | exact HB.out)) hb);clear o';clear a';clear b';clear HB;have o':=n0_;have a':=n1_;have b':=n2_;have HB:=n3_;clear n0_ n1_ n2_ n3_;(try clear hb);(try clear hb2);(try clear hk);(try clear hi)))
  go_loopg [8,9] k (fun kq v8 v9 w'=>∃ (x8_1:List Int) (x9_1:Int),v9=.int .i64 x9_1∧Aside0 (phasorref19_Sorted.l0 kq g' j' x8_1 x9_1 a0_0 a0_1 l0_2=some (r1,r2,r3,r4))∧Aside0 (kq≤k)∧Aside0 (Kd.R (Kd.int .i64) 3 w' w.heap.size (fun k_=>(w.heap.size≤k_)∧some k_≠(v8:Value).ownBlock) p' g')∧Aside0 (Kd.R (Kd.int .i64) 3 w' w.heap.size (fun k_=>(w.heap.size≤k_)∧some k_≠(p':Value).ownBlock) v8 x8_1)∧Aside0 (w'.heap[c']?=some (.cells #[.int .i64 a0_0,.int .i64 a0_1,(.slice A0_2 l0_2.length c0_2)] 24 (0,0)))∧Aside0 (w'.heap[d']?=some (.cells #[.int .i64 0,.int .i64 0,(.slice none 0 0)] 24 (0,0)))∧Aside0 (Below w.heap.size w w'))
  case atStart=>exact ⟨(([]:List Int)),(0),(by first | rfl | (simp;done) | (simp [*];done)),H',⟨Nat.le_refl _⟩,⟨by (with_reducible repeat (first | apply Qv | apply Qw | apply Qx));exact Kd.R_mono o'.out (fun _ hk=>⟨hk.1,(by simp [Value.ownBlock])⟩)⟩,⟨by first | exact Kd.R_nil _ _ _ _ _ | exact Kd.N_nil _ _ _ _ _ | exact Kd.V_nil _ _ _ _ _ | exact Kd.Q_nil _ _ _ _ _ | exact Kd.S_nil _ _ _ _ _⟩,⟨by (with_reducible repeat (first | refine Qa ?_ _ | refine Qb ?_ | refine Qc ?_ _));exact a'.out⟩,⟨by (with_reducible repeat (first | refine Qa ?_ _ | refine Qb ?_ | refine Qc ?_ _));exact b'.out⟩,⟨by repeat (first | (with_reducible first | exact HB.out | apply Qd | apply Qe | apply Qf | refine Qg ?_ e'.out | refine Qg ?_ f'.out) | exact HB.out)⟩⟩
  case round =>
   clear H';(try clear c1);(try clear c2);(try clear p2);(try clear c4);(try clear c4b0);(try clear c4b1);(try clear c7);(try clear ab');(try clear aa');(try clear z');(try clear al');(try clear ak');(try clear aj');(try clear y');(try clear x');(try clear v');(try clear ai');(try clear ah');(try clear ag');obtain ⟨x8_1,x9_1,rfl,HA,HK1,HO_4,HO_8,a',b',HB⟩:=hrel
   cases gk with
   | zero=>exact absurd HA.out (by simp [phasorref19_Sorted.l0])
   | succ k1 =>
    have H:=HA.out;clear HA;simp only [phasorref19_Sorted.l0] at H;by_cases c12:x9_1≤j'
    ·rw [if_pos c12] at H
     have c12b0:decide (x9_1≤j')=true:=decide_eq_true c12;clear c12;have H':=Qh H;clear H;go_wp2
     go_loopg [8,10] k1 (fun kq v8 v10 w'=>∃ (x8_2:List Int) (x10_2:Int),v10=.int .i64 x10_2∧Aside0 (phasorref19_Sorted.l1 kq g' j' x8_2 x9_1 x10_2 a0_0 a0_1 l0_2=some (r1,r2,r3,r4))∧Aside0 (kq≤k1)∧Aside0 (Kd.R (Kd.int .i64) 3 w' w.heap.size (fun k_=>(w.heap.size≤k_)∧some k_≠(v8:Value).ownBlock) p' g')∧Aside0 (Kd.R (Kd.int .i64) 3 w' w.heap.size (fun k_=>(w.heap.size≤k_)∧some k_≠(p':Value).ownBlock) v8 x8_2)∧Aside0 (w'.heap[c']?=some (.cells #[.int .i64 a0_0,.int .i64 a0_1,(.slice A0_2 l0_2.length c0_2)] 24 (0,0)))∧Aside0 (w'.heap[d']?=some (.cells #[.int .i64 0,.int .i64 0,(.slice none 0 0)] 24 (0,0)))∧Aside0 (Below w.heap.size w w'))
     case atStart=>exact ⟨(x8_1),(0),(by first | rfl | (simp;done) | (simp [*];done)),H',⟨Nat.le_refl _⟩,⟨by (with_reducible repeat (first | apply Qv | apply Qw | apply Qx));exact HO_4.out⟩,⟨by (with_reducible repeat (first | apply Qv | apply Qw | apply Qx));exact HO_8.out⟩,⟨by (with_reducible repeat (first | refine Qa ?_ _ | refine Qb ?_ | refine Qc ?_ _));exact a'.out⟩,⟨by (with_reducible repeat (first | refine Qa ?_ _ | refine Qb ?_ | refine Qc ?_ _));exact b'.out⟩,⟨by repeat (first | (with_reducible first | exact HB.out | apply Qd | apply Qe | apply Qf | refine Qg ?_ e'.out | refine Qg ?_ f'.out) | exact HB.out)⟩⟩
     case round =>
      clear H';(try clear c1);(try clear c2);(try clear p2);(try clear c4);(try clear c4b0);(try clear c4b1);(try clear c7);(try clear c12);(try clear c12b0);(try clear ab');(try clear aa');(try clear z');(try clear al');(try clear ak');(try clear aj');(try clear y');(try clear x');(try clear v');(try clear ai');(try clear ah');(try clear ag');(try clear p2);obtain ⟨x8_2,x10_2,rfl,HA,HK2,HO_4,HO_8,a',b',HB⟩:=hrel
      cases gk with
      | zero=>exact absurd HA.out (by simp [phasorref19_Sorted.l1])
      | succ k2 =>
       have H:=HA.out;clear HA;simp only [phasorref19_Sorted.l1] at H;by_cases c13:x10_2 < 2
       ·rw [if_pos c13] at H
        have c13b0:decide (x10_2 < 2)=true:=decide_eq_true c13;clear c13;have H':=Qh H;clear H;go_wp2
        go_loopg [8,11] k2 (fun kq v8 v11 w'=>∃ (x8_3:List Int) (x11_3:Int),v11=.int .i64 x11_3∧Aside0 (phasorref19_Sorted.l2 kq g' j' x8_3 x9_1 x10_2 x11_3 a0_0 a0_1 l0_2=some (r1,r2,r3,r4))∧Aside0 (kq≤k2)∧Aside0 (Kd.R (Kd.int .i64) 3 w' w.heap.size (fun k_=>(w.heap.size≤k_)∧some k_≠(v8:Value).ownBlock) p' g')∧Aside0 (Kd.R (Kd.int .i64) 3 w' w.heap.size (fun k_=>(w.heap.size≤k_)∧some k_≠(p':Value).ownBlock) v8 x8_3)∧Aside0 (w'.heap[c']?=some (.cells #[.int .i64 a0_0,.int .i64 a0_1,(.slice A0_2 l0_2.length c0_2)] 24 (0,0)))∧Aside0 (w'.heap[d']?=some (.cells #[.int .i64 0,.int .i64 0,(.slice none 0 0)] 24 (0,0)))∧Aside0 (Below w.heap.size w w'))
        case atStart=>exact ⟨(x8_2),(0),(by first | rfl | (simp;done) | (simp [*];done)),H',⟨Nat.le_refl _⟩,⟨by (with_reducible repeat (first | apply Qv | apply Qw | apply Qx));exact HO_4.out⟩,⟨by (with_reducible repeat (first | apply Qv | apply Qw | apply Qx));exact HO_8.out⟩,⟨by (with_reducible repeat (first | refine Qa ?_ _ | refine Qb ?_ | refine Qc ?_ _));exact a'.out⟩,⟨by (with_reducible repeat (first | refine Qa ?_ _ | refine Qb ?_ | refine Qc ?_ _));exact b'.out⟩,⟨by repeat (first | (with_reducible first | exact HB.out | apply Qd | apply Qe | apply Qf | refine Qg ?_ e'.out | refine Qg ?_ f'.out) | exact HB.out)⟩⟩
        case round =>
         clear H';(try clear c1);(try clear c2);(try clear p2);(try clear c4);(try clear c4b0);(try clear c4b1);(try clear c7);(try clear c12);(try clear c12b0);(try clear c13);(try clear c13b0);(try clear ab');(try clear aa');(try clear z');(try clear al');(try clear ak');(try clear aj');(try clear y');(try clear x');(try clear v');(try clear ai');(try clear ah');(try clear ag');(try clear p2);obtain ⟨x8_3,x11_3,rfl,HA,HK3,HO_4,HO_8,a',b',HB⟩:=hrel
         cases gk with
         | zero=>exact absurd HA.out (by simp [phasorref19_Sorted.l2])
         | succ k3 =>
          have H:=HA.out;clear HA;simp only [phasorref19_Sorted.l2] at H;by_cases c14:x11_3 < (g'.length:Int)
          ·rw [if_pos c14] at H
           have c14b0:decide (x11_3 < (g'.length:Int))=true:=decide_eq_true c14;clear c14;by_cases c15:0≤x11_3
           ·rw [if_pos c15] at H
            have c15b0:decide (0≤x11_3)=true:=decide_eq_true c15;clear c15;by_cases c16:(rd g' x11_3)=x9_1
            ·rw [if_pos c16] at H
             have c16b0:((rd g' x11_3) == x9_1)=true:=beq_iff_eq.mpr c16;have c16b1:((rd g' x11_3) != x9_1)=false:=bne_eq_false_iff_eq.mpr c16;clear c16;replace H:=Option.bind_eq_some_iff.mp H;obtain ⟨k',au',H⟩:=H;replace H:(if (k' == (x10_2 == 1))=true then (if x8_3.length < 17592186044416 then (phasorref19_Sorted.l2 k3 g' j' (x8_3 ++ [x11_3]) x9_1 x10_2 (wrap64 (x11_3 + 1)) a0_0 a0_1 l0_2) else (none)) else (phasorref19_Sorted.l2 k3 g' j' x8_3 x9_1 x10_2 (wrap64 (x11_3 + 1)) a0_0 a0_1 l0_2))=some (r1,r2,r3,r4):=H
             have A17:=Qh au';clear au';by_cases c18:(k' == (x10_2 == 1))=true
             ·rw [if_pos c18] at H
              have c18b0:(k' == (x10_2 == 1))=true:=c18;(try (have c18b1:decide (k'=(x10_2 == 1))=true:=by simpa using c18))
              (try (have c18b2:(k' == (x10_2 == 1))=true:=by simpa using c18))
              clear c18;by_cases c19:x8_3.length < 17592186044416
              ·rw [if_pos c19] at H
               have av':=Qh c19;clear c19;obtain ⟨an',r'⟩:∃ y_:List Int,y_=(x8_3 ++ [x11_3]):=⟨_,rfl⟩;replace H:(phasorref19_Sorted.l2 k3 g' j' an' x9_1 x10_2 (wrap64 (x11_3 + 1)) a0_0 a0_1 l0_2)=some (r1,r2,r3,r4):=by first | (rw [r'];with_reducible exact H) | (have H2_:=(Option.bind_some _ _).symm.trans H;rw [r'];with_reducible exact H2_) | (have H2_:=(Option.bind_some _ _).symm.trans H;with_reducible exact H2_) | with_reducible exact H | (rw [r'];exact H) | exact H
               have ap':=Qh r';clear r';have H':=Qh H;clear H;obtain ⟨Ao20,co20,eo20⟩:=Kd.R_slice HO_4.out;subst eo20;have n':0≤(x11_3:Int):=of_decide_eq_true (by first | (with_reducible assumption) | assumption);have m':x11_3 < (g'.length:Int):=of_decide_eq_true (by first | (with_reducible assumption) | assumption);obtain ⟨ae',t',af'⟩:=Kd.at_int (Kd.R_reads' HO_4.out).2.2 x11_3 n' m'
               cases t'
               replace n':=eq_true n';replace m':=eq_true m';have cv':=i'.out;have cr':=h'.out;have cl':wr.cell? ⟨c',0,none⟩=some (.int .i64 a0_0):=(Qi a'.out 0).trans rfl;have ck':wr.cell? ⟨c',1,none⟩=some (.int .i64 a0_1):=(Qi a'.out 1).trans rfl;have cj':wr.cell? ⟨c',2,none⟩=some (.slice A0_2 l0_2.length c0_2):=(Qi a'.out 2).trans rfl;have bq':=Qj a'.out 0;have bp':=Qj a'.out 1;have bo':=Qj a'.out 2;go_wp2_with (first | (go_at_call 30;(with_reducible refine (phasorref19_bar.calls a0_0 a0_1 _ _ l0_2 x11_3 k' _ ?side1 ?side2 A17.out).mono ?_);(case side1=>repeat (first | exact (Qt HR0_2.out HB.out) | (with_reducible refine Kd.C_alloc ?_ _) | (with_reducible refine Kd.C_drewN ?_ _) | (with_reducible refine Kd.C_drew ?_)));(case side2=>exact HC0_2.out);rintro e w23 ⟨rfl,hb⟩;have n0_:=Qh (Kd.R_below (by (with_reducible repeat (first | apply Qv | apply Qw | apply Qx));exact HO_4.out) hb);have n1_:=Qh (Kd.R_below (by (with_reducible repeat (first | apply Qv | apply Qw | apply Qx));exact HO_8.out) hb);have n2_:=Qh (Qq (g:=c') (o:=.cells #[.int .i64 a0_0,.int .i64 a0_1,.slice A0_2 l0_2.length c0_2] 24 (0,0)) (by (with_reducible repeat (first | refine Qa ?_ _ | refine Qb ?_ | refine Qc ?_ _));exact a'.out) hb);have n3_:=Qh (Qq (g:=d') (o:=.cells #[.int .i64 0,.int .i64 0,.slice none 0 0] 24 (0,0)) (by (with_reducible repeat (first | refine Qa ?_ _ | refine Qb ?_ | refine Qc ?_ _));exact b'.out) hb);have n4_:=Qh (Qr (by repeat (first | (with_reducible first | exact HB.out | apply Qd | apply Qe | apply Qf | refine Qg ?_ e'.out | refine Qg ?_ f'.out) | exact HB.out)) hb);clear HO_4;clear HO_8;clear a';clear b';clear HB;have HO_4:=n0_;have HO_8:=n1_;have a':=n2_;have b':=n3_;have HB:=n4_;clear n0_ n1_ n2_ n3_ n4_;(try clear hb);(try clear hb2);(try clear hk);(try clear hi)) | ((with_reducible refine gate_builtin (b:=.append) (xs:=#[.tmp 55,.tmp 57]) rfl ?_);at_builtin;refine Kd.R_append (Kd.int .i64) (w0:=w) w.heap.size rfl (.tmp 55) (.tmp 57) 25 3 (.int .i64 0) 8 rfl Try.underlying25 info3 rfl (by decide) (by omega) u8 x8_3 x11_3 [.int .i64 x11_3] (fun k_=>(w.heap.size≤k_)∧some k_≠(.slice (some ae') g'.length co20:Value).ownBlock) (fun _=>False) rfl rfl ?aP (fun _ hk=>hk.elim) ?aF ?aO ?aB ?aS ?aL ?_;(case aP=>exact rfl);(case aB=>exact (by repeat (first | (with_reducible first | exact HB.out | apply Qd | apply Qe | apply Qf | refine Qg ?_ e'.out | refine Qg ?_ f'.out) | exact HB.out)));(case aF=>exact (fun k_ hk=>⟨(Nat.le_trans (Qs (by repeat (first | (with_reducible first | exact HB.out | apply Qd | apply Qe | apply Qf | refine Qg ?_ e'.out | refine Qg ?_ f'.out) | exact HB.out))) hk),Kd.fresh' (Kd.R_lt (by (with_reducible repeat (first | apply Qv | apply Qw | apply Qx));exact HO_4.out)) k_ hk⟩));(case aO=>exact (by (with_reducible repeat (first | apply Qv | apply Qw | apply Qx));exact HO_8.out));(case aS=>exact (Qs (by repeat (first | (with_reducible first | exact HB.out | apply Qd | apply Qe | apply Qf | refine Qg ?_ e'.out | refine Qg ?_ f'.out) | exact HB.out))));(case aL=>have:=av'.out;omega);intro cm' w24 ho hb hg hat;rw [← ap'.out] at ho;have n0_:=Qh (Kd.R_after (ok:=(fun k_=>(w.heap.size≤k_))) (by (with_reducible repeat (first | apply Qv | apply Qw | apply Qx));exact HO_4.out) hg hat);have n1_:=Qh (blk_grown (g:=c') (o:=.cells #[.int .i64 a0_0,.int .i64 a0_1,.slice A0_2 l0_2.length c0_2] 24 (0,0)) (by (with_reducible repeat (first | refine Qa ?_ _ | refine Qb ?_ | refine Qc ?_ _));exact a'.out) hg (Kd.R_ne HO_8.out a'.out (by decide)));have n2_:=Qh (blk_grown (g:=d') (o:=.cells #[.int .i64 0,.int .i64 0,.slice none 0 0] 24 (0,0)) (by (with_reducible repeat (first | refine Qa ?_ _ | refine Qb ?_ | refine Qc ?_ _));exact b'.out) hg (Kd.R_ne HO_8.out b'.out (by decide)));have n3_:=Qh (hb);have n4_:=Qh (ho);clear HO_4;clear a';clear b';clear HB;clear HO_8;have HO_4:=n0_;have a':=n1_;have b':=n2_;have HB:=n3_;have aq':=n4_;clear n0_ n1_ n2_ n3_ n4_;clear ho hb hg hat))
               go_roundg k3
               case measure=>have:=HK1.out;have:=HK2.out;have:=HK3.out;omega
               case rel=>exact ⟨(an'),(wrap64 (x11_3 + 1)),(by first | rfl | (simp;done) | (simp [*];done)),H',⟨by have:=HK1.out;have:=HK2.out;have:=HK3.out;omega⟩,⟨by (with_reducible repeat (first | apply Qv | apply Qw | apply Qx));exact HO_4.out⟩,⟨by (with_reducible repeat (first | apply Qv | apply Qw | apply Qx));exact aq'.out⟩,⟨by (with_reducible repeat (first | refine Qa ?_ _ | refine Qb ?_ | refine Qc ?_ _));exact a'.out⟩,⟨by (with_reducible repeat (first | refine Qa ?_ _ | refine Qb ?_ | refine Qc ?_ _));exact b'.out⟩,⟨by repeat (first | (with_reducible first | exact HB.out | apply Qd | apply Qe | apply Qf | refine Qg ?_ e'.out | refine Qg ?_ f'.out) | exact HB.out)⟩⟩
              ·rw [if_neg c19] at H
               exact absurd H (by simp)
             ·rw [if_neg c18] at H
              have c18b0:(k' == (x10_2 == 1))=false:=by simpa using c18
              (try (have c18b1:decide (k'=(x10_2 == 1))=false:=by simpa using c18))
              (try (have c18b2:(k' == (x10_2 == 1))=false:=by simpa using c18))
              (try (have c18b3:¬ (k'=(x10_2 == 1)):=by simpa using c18))
              clear c18;have H':=Qh H;clear H;obtain ⟨Ao25,co25,eo25⟩:=Kd.R_slice HO_4.out;subst eo25;have n':0≤(x11_3:Int):=of_decide_eq_true (by first | (with_reducible assumption) | assumption);have m':x11_3 < (g'.length:Int):=of_decide_eq_true (by first | (with_reducible assumption) | assumption);obtain ⟨ae',t',af'⟩:=Kd.at_int (Kd.R_reads' HO_4.out).2.2 x11_3 n' m'
              cases t'
              replace n':=eq_true n';replace m':=eq_true m';have cu':=i'.out;have cq':=h'.out;have ci':wr.cell? ⟨c',0,none⟩=some (.int .i64 a0_0):=(Qi a'.out 0).trans rfl;have ch':wr.cell? ⟨c',1,none⟩=some (.int .i64 a0_1):=(Qi a'.out 1).trans rfl;have cg':wr.cell? ⟨c',2,none⟩=some (.slice A0_2 l0_2.length c0_2):=(Qi a'.out 2).trans rfl;have bn':=Qj a'.out 0;have bm':=Qj a'.out 1;have bl':=Qj a'.out 2;go_wp2_with (first | (go_at_call 30;(with_reducible refine (phasorref19_bar.calls a0_0 a0_1 _ _ l0_2 x11_3 k' _ ?side1 ?side2 A17.out).mono ?_);(case side1=>repeat (first | exact (Qt HR0_2.out HB.out) | (with_reducible refine Kd.C_alloc ?_ _) | (with_reducible refine Kd.C_drewN ?_ _) | (with_reducible refine Kd.C_drew ?_)));(case side2=>exact HC0_2.out);rintro e w28 ⟨rfl,hb⟩;have n0_:=Qh (Kd.R_below (by (with_reducible repeat (first | apply Qv | apply Qw | apply Qx));exact HO_4.out) hb);have n1_:=Qh (Kd.R_below (by (with_reducible repeat (first | apply Qv | apply Qw | apply Qx));exact HO_8.out) hb);have n2_:=Qh (Qq (g:=c') (o:=.cells #[.int .i64 a0_0,.int .i64 a0_1,.slice A0_2 l0_2.length c0_2] 24 (0,0)) (by (with_reducible repeat (first | refine Qa ?_ _ | refine Qb ?_ | refine Qc ?_ _));exact a'.out) hb);have n3_:=Qh (Qq (g:=d') (o:=.cells #[.int .i64 0,.int .i64 0,.slice none 0 0] 24 (0,0)) (by (with_reducible repeat (first | refine Qa ?_ _ | refine Qb ?_ | refine Qc ?_ _));exact b'.out) hb);have n4_:=Qh (Qr (by repeat (first | (with_reducible first | exact HB.out | apply Qd | apply Qe | apply Qf | refine Qg ?_ e'.out | refine Qg ?_ f'.out) | exact HB.out)) hb);clear HO_4;clear HO_8;clear a';clear b';clear HB;have HO_4:=n0_;have HO_8:=n1_;have a':=n2_;have b':=n3_;have HB:=n4_;clear n0_ n1_ n2_ n3_ n4_;(try clear hb);(try clear hb2);(try clear hk);(try clear hi)))
              go_roundg k3
              case measure=>have:=HK1.out;have:=HK2.out;have:=HK3.out;omega
              case rel=>exact ⟨(x8_3),(wrap64 (x11_3 + 1)),(by first | rfl | (simp;done) | (simp [*];done)),H',⟨by have:=HK1.out;have:=HK2.out;have:=HK3.out;omega⟩,⟨by (with_reducible repeat (first | apply Qv | apply Qw | apply Qx));exact HO_4.out⟩,⟨by (with_reducible repeat (first | apply Qv | apply Qw | apply Qx));exact HO_8.out⟩,⟨by (with_reducible repeat (first | refine Qa ?_ _ | refine Qb ?_ | refine Qc ?_ _));exact a'.out⟩,⟨by (with_reducible repeat (first | refine Qa ?_ _ | refine Qb ?_ | refine Qc ?_ _));exact b'.out⟩,⟨by repeat (first | (with_reducible first | exact HB.out | apply Qd | apply Qe | apply Qf | refine Qg ?_ e'.out | refine Qg ?_ f'.out) | exact HB.out)⟩⟩
            ·rw [if_neg c16] at H
             have c16b0:((rd g' x11_3) == x9_1)=false:=beq_eq_false_iff_ne.mpr c16;have c16b1:((rd g' x11_3) != x9_1)=true:=bne_iff_ne.mpr c16;have H':=Qh H;clear H;obtain ⟨Ao29,co29,eo29⟩:=Kd.R_slice HO_4.out;subst eo29;have n':0≤(x11_3:Int):=of_decide_eq_true (by first | (with_reducible assumption) | assumption);have m':x11_3 < (g'.length:Int):=of_decide_eq_true (by first | (with_reducible assumption) | assumption);obtain ⟨ae',t',af'⟩:=Kd.at_int (Kd.R_reads' HO_4.out).2.2 x11_3 n' m'
             cases t'
             replace n':=eq_true n';replace m':=eq_true m';go_wp2
             go_roundg k3
             case measure=>have:=HK1.out;have:=HK2.out;have:=HK3.out;omega
             case rel=>exact ⟨(x8_3),(wrap64 (x11_3 + 1)),(by first | rfl | (simp;done) | (simp [*];done)),H',⟨by have:=HK1.out;have:=HK2.out;have:=HK3.out;omega⟩,⟨by (with_reducible repeat (first | apply Qv | apply Qw | apply Qx));exact HO_4.out⟩,⟨by (with_reducible repeat (first | apply Qv | apply Qw | apply Qx));exact HO_8.out⟩,⟨by (with_reducible repeat (first | refine Qa ?_ _ | refine Qb ?_ | refine Qc ?_ _));exact a'.out⟩,⟨by (with_reducible repeat (first | refine Qa ?_ _ | refine Qb ?_ | refine Qc ?_ _));exact b'.out⟩,⟨by repeat (first | (with_reducible first | exact HB.out | apply Qd | apply Qe | apply Qf | refine Qg ?_ e'.out | refine Qg ?_ f'.out) | exact HB.out)⟩⟩
           ·rw [if_neg c15] at H
            exact absurd H (by simp)
          ·rw [if_neg c14] at H
           have c14b0:decide (x11_3 < (g'.length:Int))=false:=decide_eq_false c14;clear c14;have H':=Qh H;clear H;obtain ⟨Ao30,co30,eo30⟩:=Kd.R_slice HO_4.out;subst eo30;go_wp2
           go_roundg k3
           case measure=>have:=HK1.out;have:=HK2.out;have:=HK3.out;omega
           case rel=>exact ⟨(x8_3),(wrap64 (x10_2 + 1)),(by first | rfl | (simp;done) | (simp [*];done)),H',⟨by have:=HK1.out;have:=HK2.out;have:=HK3.out;omega⟩,⟨by (with_reducible repeat (first | apply Qv | apply Qw | apply Qx));exact HO_4.out⟩,⟨by (with_reducible repeat (first | apply Qv | apply Qw | apply Qx));exact HO_8.out⟩,⟨by (with_reducible repeat (first | refine Qa ?_ _ | refine Qb ?_ | refine Qc ?_ _));exact a'.out⟩,⟨by (with_reducible repeat (first | refine Qa ?_ _ | refine Qb ?_ | refine Qc ?_ _));exact b'.out⟩,⟨by repeat (first | (with_reducible first | exact HB.out | apply Qd | apply Qe | apply Qf | refine Qg ?_ e'.out | refine Qg ?_ f'.out) | exact HB.out)⟩⟩
       ·rw [if_neg c13] at H
        have c13b0:decide (x10_2 < 2)=false:=decide_eq_false c13;clear c13;have H':=Qh H;clear H;go_wp2
        go_roundg k2
        case measure=>have:=HK1.out;have:=HK2.out;omega
        case rel=>exact ⟨(x8_2),(wrap64 (x9_1 + 1)),(by first | rfl | (simp;done) | (simp [*];done)),H',⟨by have:=HK1.out;have:=HK2.out;omega⟩,⟨by (with_reducible repeat (first | apply Qv | apply Qw | apply Qx));exact HO_4.out⟩,⟨by (with_reducible repeat (first | apply Qv | apply Qw | apply Qx));exact HO_8.out⟩,⟨by (with_reducible repeat (first | refine Qa ?_ _ | refine Qb ?_ | refine Qc ?_ _));exact a'.out⟩,⟨by (with_reducible repeat (first | refine Qa ?_ _ | refine Qb ?_ | refine Qc ?_ _));exact b'.out⟩,⟨by repeat (first | (with_reducible first | exact HB.out | apply Qd | apply Qe | apply Qf | refine Qg ?_ e'.out | refine Qg ?_ f'.out) | exact HB.out)⟩⟩
    ·rw [if_neg c12] at H
     have c12b0:decide (x9_1≤j')=false:=decide_eq_false c12;clear c12;replace H:=Option.bind_eq_some_iff.mp H;obtain ⟨⟨q',s',u'⟩,at',H⟩:=H;replace H:(some (q',s',u',0))=some (r1,r2,r3,r4):=H
     have A31:=Qh at';clear at';simp only [Option.some.injEq,Prod.mk.injEq] at H;obtain ⟨rfl,rfl,rfl,rfl⟩:=H;have ct':=i'.out;have cp':=h'.out;have cf':wr.cell? ⟨c',0,none⟩=some (.int .i64 a0_0):=(Qi a'.out 0).trans rfl;have ce':wr.cell? ⟨c',1,none⟩=some (.int .i64 a0_1):=(Qi a'.out 1).trans rfl;have cd':wr.cell? ⟨c',2,none⟩=some (.slice A0_2 l0_2.length c0_2):=(Qi a'.out 2).trans rfl;have bk':=Qj a'.out 0;have bj':=Qj a'.out 1;have bi':=Qj a'.out 2;obtain ⟨Ao34,co34,eo34⟩:=Kd.R_slice HO_8.out;subst eo34;go_wp2_with (first | ((with_reducible refine gate_callee (f:=41) rfl ?_);refine goesL_ (some 61) rfl rfl Try.func41 (by kernel_rfl) rfl #[.agg #[.int .i64 a0_0,.int .i64 a0_1,.slice A0_2 l0_2.length c0_2],.slice Ao34 x8_1.length co34] rfl (by (try simp only [List.map_toArray,List.map_cons,List.map_nil]);first | done | rfl | (simp only [List.length_drop,List.length_take];rfl)) ?_;(with_reducible refine (phasorref19_only.calls k1 a0_0 a0_1 _ _ l0_2 _ _ x8_1 q' s' u' _ ?side1 ?side2 ?side3 ?side4 A31.out).mono ?_);(case side1=>repeat (first | exact (Qt HR0_2.out HB.out) | (with_reducible refine Kd.C_alloc ?_ _) | (with_reducible refine Kd.C_drewN ?_ _) | (with_reducible refine Kd.C_drew ?_)));(case side2=>exact HC0_2.out);(case side3=>repeat (first | exact (Kd.R_reads' HO_8.out).2.2 | (with_reducible refine Kd.C_alloc ?_ _) | (with_reducible refine Kd.C_drewN ?_ _) | (with_reducible refine Kd.C_drew ?_)));(case side4=>exact (Kd.R_reads' HO_8.out).2.1);rintro e w35 ⟨cn',rfl,ho0,hb⟩;refine ⟨_,rfl,?_⟩;have n0_:=Qh (Kd.R_below (by (with_reducible repeat (first | apply Qv | apply Qw | apply Qx));exact HO_4.out) hb);have n1_:=Qh (Kd.R_below (by (with_reducible repeat (first | apply Qv | apply Qw | apply Qx));exact HO_8.out) hb);have n2_:=Qh (Kd.N_lower (Kd.N_mono (ok':=fun k_=>(w.heap.size≤k_)∧some k_≠(p':Value).ownBlock∧some k_≠(.slice Ao34 x8_1.length co34:Value).ownBlock∧k_≠c'∧k_≠d') ho0 (fun k_ hk_=>⟨(Nat.le_trans (Qs (by repeat (first | (with_reducible first | exact HB.out | apply Qd | apply Qe | apply Qf | refine Qg ?_ e'.out | refine Qg ?_ f'.out) | exact HB.out))) hk_),(Kd.fresh' (Kd.R_lt (by (with_reducible repeat (first | apply Qv | apply Qw | apply Qx));exact HO_4.out)) k_ hk_),(Kd.fresh' (Kd.R_lt (by (with_reducible repeat (first | apply Qv | apply Qw | apply Qx));exact HO_8.out)) k_ hk_),(Kd.freshB (g:=c') (o:=.cells #[.int .i64 a0_0,.int .i64 a0_1,.slice A0_2 l0_2.length c0_2] 24 (0,0)) (by (with_reducible repeat (first | refine Qa ?_ _ | refine Qb ?_ | refine Qc ?_ _));exact a'.out) k_ hk_),(Kd.freshB (g:=d') (o:=.cells #[.int .i64 0,.int .i64 0,.slice none 0 0] 24 (0,0)) (by (with_reducible repeat (first | refine Qa ?_ _ | refine Qb ?_ | refine Qc ?_ _));exact b'.out) k_ hk_)⟩)) (Qs (by repeat (first | (with_reducible first | exact HB.out | apply Qd | apply Qe | apply Qf | refine Qg ?_ e'.out | refine Qg ?_ f'.out) | exact HB.out))));have n3_:=Qh (Qq (g:=c') (o:=.cells #[.int .i64 a0_0,.int .i64 a0_1,.slice A0_2 l0_2.length c0_2] 24 (0,0)) (by (with_reducible repeat (first | refine Qa ?_ _ | refine Qb ?_ | refine Qc ?_ _));exact a'.out) hb);have n4_:=Qh (Qq (g:=d') (o:=.cells #[.int .i64 0,.int .i64 0,.slice none 0 0] 24 (0,0)) (by (with_reducible repeat (first | refine Qa ?_ _ | refine Qb ?_ | refine Qc ?_ _));exact b'.out) hb);have n5_:=Qh (Qr (by repeat (first | (with_reducible first | exact HB.out | apply Qd | apply Qe | apply Qf | refine Qg ?_ e'.out | refine Qg ?_ f'.out) | exact HB.out)) hb);clear HO_4;clear HO_8;clear a';clear b';clear HB;have HO_4:=n0_;have HO_8:=n1_;have am':=n2_;have a':=n3_;have b':=n4_;have HB:=n5_;clear n0_ n1_ n2_ n3_ n4_ n5_;(try clear hb);(try clear hb2);(try clear hk);(try clear hi);(try clear ho0);have cc':w35.cell? ⟨d',0,none⟩=some (.int .i64 0):=(Qi b'.out 0).trans rfl;have cb':w35.cell? ⟨d',1,none⟩=some (.int .i64 0):=(Qi b'.out 1).trans rfl;have ca':w35.cell? ⟨d',2,none⟩=some (.slice none 0 0):=(Qi b'.out 2).trans rfl;have bh':=Qj b'.out 0;have bg':=Qj b'.out 1;have bf':=Qj b'.out 2;obtain ⟨Ao37,co37,eo37⟩:=Kd.N_slice am'.out;subst eo37))
     refine bodyPost_ret (results_ct rfl _ _ d' 24 #[.int .i64 q',.int .i64 s',.slice Ao37 u'.length co37] (0,0) _ rfl (by (with_reducible repeat (first | refine Qa ?_ _ | refine Qb ?_ | refine Qc ?_ _));refine blk_put (cs:=#[.int .i64 q',.int .i64 s',.slice none 0 0]) ?_ 2 _ rfl;(with_reducible repeat (first | refine Qa ?_ _ | refine Qb ?_ | refine Qc ?_ _));refine blk_put (cs:=#[.int .i64 q',.int .i64 0,.slice none 0 0]) ?_ 1 _ rfl;(with_reducible repeat (first | refine Qa ?_ _ | refine Qb ?_ | refine Qc ?_ _));refine blk_put (cs:=#[.int .i64 0,.int .i64 0,.slice none 0 0]) ?_ 0 _ rfl;(with_reducible repeat (first | refine Qa ?_ _ | refine Qb ?_ | refine Qc ?_ _));exact b'.out) Try.underlying24 rfl (by kernel_rfl)) rfl ?_
     exact ⟨_,by first | rfl | (simp [errW_none,errW_some]<;>rfl) | (simp [*,errW_none,errW_some]<;>rfl),by (with_reducible repeat (first | apply Kd.N_alloc | apply Kd.N_drewN | apply Kd.N_drew));exact Kd.N_mono (Kd.N_far (p:=⟨d',2,none⟩) (Kd.N_far (p:=⟨d',1,none⟩) (Kd.N_far (p:=⟨d',0,none⟩) (Kd.N_mono am'.out (fun k_ hk=>(⟨hk,hk.2.2.2.2⟩:_∧k_≠d'))) (fun _ hk=>hk.2) (.int .i64 q')) (fun _ hk=>hk.2) (.int .i64 s')) (fun _ hk=>hk.2) (.slice Ao37 u'.length co37)) (fun _ hk=>hk.1.1),by repeat (first | (with_reducible first | exact HB.out | apply Qd | apply Qe | apply Qf | refine Qg ?_ e'.out | refine Qg ?_ f'.out) | exact HB.out)⟩
 ·rw [if_neg c4] at H
  have c4b0:(l' == 0)=false:=beq_eq_false_iff_ne.mpr c4;have c4b1:(l' != 0)=true:=bne_iff_ne.mpr c4;simp only [Option.some.injEq,Prod.mk.injEq] at H;obtain ⟨rfl,rfl,rfl,rfl⟩:=H;go_enter Try.func23,Try.ntmps23
  go_wp2_with (first | ((with_reducible refine gate_dst (N:=1) rfl ?_);refine box_event ?hg (N:=1) ?hd (cs:=#[.int .i64 a0_0,.int .i64 a0_1,.slice A0_2 l0_2.length c0_2]) (t:=24) ?hr ?_;(case hd=>rfl);(case hg=>rfl);(case hr=>first | (go_simp;done) | (go_simp;rfl));intro c' hg w38 hbox hb;have n0_:=Qh (Qr (by repeat (first | (with_reducible first | exact HB.out | apply Qd | apply Qe | apply Qf) | exact HB.out)) hb);have n1_:=Qh (hbox);have n2_:=Qh ((by rw [hg];exact (Qs (by repeat (first | (with_reducible first | exact HB.out | apply Qd | apply Qe | apply Qf) | exact HB.out))):w.heap.size≤c'));have n3_:=Qh ((by rw [hg];exact (Qs (by repeat (first | (with_reducible first | exact HB.out | apply Qd | apply Qe | apply Qf) | exact HB.out))):w.heap.size≤c'));clear HB;have HB:=n0_;have a':=n1_;have as':=n2_;have e':=n3_;clear n0_ n1_ n2_ n3_;clear hb hbox hg) | ((with_reducible refine gate_dst (N:=2) rfl ?_);refine box_event ?hg (N:=2) ?hd (cs:=#[.int .i64 0,.int .i64 0,.slice none 0 0]) (t:=24) ?hr ?_;(case hd=>rfl);(case hg=>rfl);(case hr=>first | (go_simp;done) | (go_simp;rfl));intro d' hg w39 hbox hb;have n0_:=Qh (Qq (g:=c') (o:=.cells #[.int .i64 a0_0,.int .i64 a0_1,.slice A0_2 l0_2.length c0_2] 24 (0,0)) (by (with_reducible repeat (first | refine Qa ?_ _ | refine Qb ?_ | refine Qc ?_ _));exact a'.out) hb);have n1_:=Qh (Qr (by repeat (first | (with_reducible first | exact HB.out | apply Qd | apply Qe | apply Qf | refine Qg ?_ e'.out) | exact HB.out)) hb);have n2_:=Qh (hbox);have n3_:=Qh ((by rw [hg];exact (Qs (by repeat (first | (with_reducible first | exact HB.out | apply Qd | apply Qe | apply Qf | refine Qg ?_ e'.out) | exact HB.out))):w.heap.size≤d'));have n4_:=Qh ((by rw [hg];exact (Qs (by repeat (first | (with_reducible first | exact HB.out | apply Qd | apply Qe | apply Qf | refine Qg ?_ e'.out) | exact HB.out))):w.heap.size≤d'));have n5_:=Qh ((by rw [hg];exact Nat.ne_of_lt (blk_lt (g:=c') (o:=.cells #[.int .i64 a0_0,.int .i64 a0_1,.slice A0_2 l0_2.length c0_2] 24 (0,0)) (by (with_reducible repeat (first | refine Qa ?_ _ | refine Qb ?_ | refine Qc ?_ _));exact a'.out)):c'≠d'));have n6_:=Qh ((by rw [hg];exact Nat.ne_of_gt (blk_lt (g:=c') (o:=.cells #[.int .i64 a0_0,.int .i64 a0_1,.slice A0_2 l0_2.length c0_2] 24 (0,0)) (by (with_reducible repeat (first | refine Qa ?_ _ | refine Qb ?_ | refine Qc ?_ _));exact a'.out)):d'≠c'));clear a';clear HB;have a':=n0_;have HB:=n1_;have b':=n2_;have ar':=n3_;have f':=n4_;have i':=n5_;have h':=n6_;clear n0_ n1_ n2_ n3_ n4_ n5_ n6_;clear hb hbox hg;have cs':=i'.out;have co':=h'.out;have bz':w39.cell? ⟨c',0,none⟩=some (.int .i64 a0_0):=(Qi a'.out 0).trans rfl;have by':w39.cell? ⟨c',1,none⟩=some (.int .i64 a0_1):=(Qi a'.out 1).trans rfl;have bx':w39.cell? ⟨c',2,none⟩=some (.slice A0_2 l0_2.length c0_2):=(Qi a'.out 2).trans rfl;have be':=Qj a'.out 0;have bd':=Qj a'.out 1;have bc':=Qj a'.out 2) | ((with_reducible refine gate_callee (f:=7) rfl ?_);refine goesL_ (some 14) rfl rfl Try.func7 (by kernel_rfl) rfl #[.agg #[.int .i64 a0_0,.int .i64 a0_1,.slice A0_2 l0_2.length c0_2]] rfl (by (try simp only [List.map_toArray,List.map_cons,List.map_nil]);first | done | rfl | (simp only [List.length_drop,List.length_take];rfl)) ?_;(with_reducible refine (phasorref19_Early.calls k a0_0 a0_1 _ _ l0_2 g' l' _ ?side1 ?side2 A2.out).mono ?_);(case side1=>repeat (first | exact (Qt HR0_2.out HB.out) | (with_reducible refine Kd.C_alloc ?_ _) | (with_reducible refine Kd.C_drewN ?_ _) | (with_reducible refine Kd.C_drew ?_)));(case side2=>exact HC0_2.out);rintro e w42 ⟨p',rfl,ho0,hb⟩;refine ⟨_,rfl,?_⟩;have n0_:=Qh (Kd.R_lower (Kd.R_newM (M:=fun k_=>(w.heap.size≤k_)) ho0 (Qs (by repeat (first | (with_reducible first | exact HB.out | apply Qd | apply Qe | apply Qf | refine Qg ?_ e'.out | refine Qg ?_ f'.out) | exact HB.out))) (fun k_ h_=>h_)) (Qs (by repeat (first | (with_reducible first | exact HB.out | apply Qd | apply Qe | apply Qf | refine Qg ?_ e'.out | refine Qg ?_ f'.out) | exact HB.out))));have n1_:=Qh (Qq (g:=c') (o:=.cells #[.int .i64 a0_0,.int .i64 a0_1,.slice A0_2 l0_2.length c0_2] 24 (0,0)) (by (with_reducible repeat (first | refine Qa ?_ _ | refine Qb ?_ | refine Qc ?_ _));exact a'.out) hb);have n2_:=Qh (Qq (g:=d') (o:=.cells #[.int .i64 0,.int .i64 0,.slice none 0 0] 24 (0,0)) (by (with_reducible repeat (first | refine Qa ?_ _ | refine Qb ?_ | refine Qc ?_ _));exact b'.out) hb);have n3_:=Qh (Qr (by repeat (first | (with_reducible first | exact HB.out | apply Qd | apply Qe | apply Qf | refine Qg ?_ e'.out | refine Qg ?_ f'.out) | exact HB.out)) hb);clear a';clear b';clear HB;have o':=n0_;have a':=n1_;have b':=n2_;have HB:=n3_;clear n0_ n1_ n2_ n3_;(try clear hb);(try clear hb2);(try clear hk);(try clear hi);(try clear ho0);have bw':w42.cell? ⟨c',0,none⟩=some (.int .i64 a0_0):=(Qi a'.out 0).trans rfl;have bv':w42.cell? ⟨c',1,none⟩=some (.int .i64 a0_1):=(Qi a'.out 1).trans rfl;have bu':w42.cell? ⟨c',2,none⟩=some (.slice A0_2 l0_2.length c0_2):=(Qi a'.out 2).trans rfl;have bb':=Qj a'.out 0;have ba':=Qj a'.out 1;have az':=Qj a'.out 2) | ((with_reducible refine gate_callee (f:=16) rfl ?_);refine goesL_ (some 19) rfl rfl Try.func16 (by kernel_rfl) rfl #[.agg #[.int .i64 a0_0,.int .i64 a0_1,.slice A0_2 l0_2.length c0_2]] rfl (by (try simp only [List.map_toArray,List.map_cons,List.map_nil]);first | done | rfl | (simp only [List.length_drop,List.length_take];rfl)) ?_;(with_reducible refine (phasorref19_Depth.calls k a0_0 a0_1 _ _ l0_2 j' ao' _ ?side1 ?side2 A3.out).mono ?_);(case side1=>repeat (first | exact (Qt HR0_2.out HB.out) | (with_reducible refine Kd.C_alloc ?_ _) | (with_reducible refine Kd.C_drewN ?_ _) | (with_reducible refine Kd.C_drew ?_)));(case side2=>exact HC0_2.out);rintro e w44 ⟨rfl,hb⟩;refine ⟨_,rfl,?_⟩;have n0_:=Qh (Kd.R_below (by (with_reducible repeat (first | apply Qv | apply Qw | apply Qx));exact o'.out) hb);have n1_:=Qh (Qq (g:=c') (o:=.cells #[.int .i64 a0_0,.int .i64 a0_1,.slice A0_2 l0_2.length c0_2] 24 (0,0)) (by (with_reducible repeat (first | refine Qa ?_ _ | refine Qb ?_ | refine Qc ?_ _));exact a'.out) hb);have n2_:=Qh (Qq (g:=d') (o:=.cells #[.int .i64 0,.int .i64 0,.slice none 0 0] 24 (0,0)) (by (with_reducible repeat (first | refine Qa ?_ _ | refine Qb ?_ | refine Qc ?_ _));exact b'.out) hb);have n3_:=Qh (Qr (by repeat (first | (with_reducible first | exact HB.out | apply Qd | apply Qe | apply Qf | refine Qg ?_ e'.out | refine Qg ?_ f'.out) | exact HB.out)) hb);clear o';clear a';clear b';clear HB;have o':=n0_;have a':=n1_;have b':=n2_;have HB:=n3_;clear n0_ n1_ n2_ n3_;(try clear hb);(try clear hb2);(try clear hk);(try clear hi);have bt':w44.cell? ⟨d',0,none⟩=some (.int .i64 0):=(Qi b'.out 0).trans rfl;have bs':w44.cell? ⟨d',1,none⟩=some (.int .i64 0):=(Qi b'.out 1).trans rfl;have br':w44.cell? ⟨d',2,none⟩=some (.slice none 0 0):=(Qi b'.out 2).trans rfl;have ay':=Qj b'.out 0;have ax':=Qj b'.out 1;have aw':=Qj b'.out 2))
  refine bodyPost_ret (results_ct rfl _ _ d' 24 #[.int .i64 0,.int .i64 0,.slice none 0 0] (0,0) _ rfl (by (with_reducible repeat (first | refine Qa ?_ _ | refine Qb ?_ | refine Qc ?_ _));refine blk_put (cs:=#[.int .i64 0,.int .i64 0,.slice none 0 0]) ?_ 2 _ rfl;(with_reducible repeat (first | refine Qa ?_ _ | refine Qb ?_ | refine Qc ?_ _));refine blk_put (cs:=#[.int .i64 0,.int .i64 0,.slice none 0 0]) ?_ 1 _ rfl;(with_reducible repeat (first | refine Qa ?_ _ | refine Qb ?_ | refine Qc ?_ _));refine blk_put (cs:=#[.int .i64 0,.int .i64 0,.slice none 0 0]) ?_ 0 _ rfl;(with_reducible repeat (first | refine Qa ?_ _ | refine Qb ?_ | refine Qc ?_ _));exact b'.out) Try.underlying24 rfl (by kernel_rfl)) rfl ?_
  exact ⟨_,by first | rfl | (simp [errW_none,errW_some]<;>rfl) | (simp [*,errW_none,errW_some]<;>rfl),by first | exact Kd.S_nil _ _ _ _ _ | exact Kd.N_nil _ _ _ _ _ | exact Kd.V_nil _ _ _ _ _ | exact Kd.Q_nil _ _ _ _ _ | exact Kd.R_nil _ _ _ _ _,by repeat (first | (with_reducible first | exact HB.out | apply Qd | apply Qe | apply Qf | refine Qg ?_ e'.out | refine Qg ?_ f'.out) | exact HB.out)⟩
def layers_Prune.f (k:Nat) (a0_0:Int) (a0_1:Int) (l0_2:List (S57)) (l1:List Int):Option (Int × Int × (List (S57)) × Int):=(layers_Past.f k a0_0 a0_1 l0_2 l1).bind fun bt12103=>(if bt12103.2=0 then ((layers_only.f k a0_0 a0_1 l0_2 bt12103.1).bind fun bt12107=>(some (bt12107.1,bt12107.2.1,bt12107.2.2,0))) else (some (0,0,([]:List (S57)),bt12103.2)))
set_option maxHeartbeats 8000000 in
set_option maxRecDepth 100000 in
theorem layers_Prune.calls (k:Nat) (a0_0:Int) (a0_1:Int) (A0_2:Option Addr) (c0_2:Nat) (l0_2:List (S57)) (A1:Option Addr) (c1:Nat) (l1:List Int) (r1:Int) (r2:Int) (r3:List (S57)) (r4:Int) (w:World) (hr0_2:Kd.C k57 w A0_2 l0_2.length l0_2) (hc0_2:l0_2.length≤c0_2) (hr1:Kd.C (Kd.int .i64) w A1 l1.length l1) (hc1:l1.length≤c1) (h:layers_Prune.f k a0_0 a0_1 l0_2 l1=some (r1,r2,r3,r4)) :
  Calls Try.prog 24 #[.agg #[.int .i64 a0_0,.int .i64 a0_1,.slice A0_2 l0_2.length c0_2],.slice A1 l1.length c1] w fun e w'=>∃ v2_:Value,e=.returned (.tuple #[.agg #[.int .i64 r1,.int .i64 r2,v2_],.int .i64 r4])∧Kd.N k57u 57 w' w.heap.size (fun k_=>(w.heap.size≤k_)) v2_ r3∧Below w.heap.size w w':=by
 have hu24:=Try.underlying24;have HR0_2:=Qh hr0_2;have HC0_2:=Qh hc0_2;clear hr0_2 hc0_2;have HR1:=Qh hr1;have HC1:=Qh hc1;clear hr1 hc1;have HB:=Qh (Below.refl w.heap.size w);have H:((layers_Past.f k a0_0 a0_1 l0_2 l1).bind fun n'=>(if n'.2=0 then ((layers_only.f k a0_0 a0_1 l0_2 n'.1).bind fun g'=>(some (g'.1,g'.2.1,g'.2.2,0))) else (some (0,0,([]:List (S57)),n'.2))))=some (r1,r2,r3,r4):=h;clear h;replace H:=Option.bind_eq_some_iff.mp H;obtain ⟨⟨k',f'⟩,A30,H⟩:=H;replace H:(if f'=0 then ((layers_only.f k a0_0 a0_1 l0_2 k').bind fun g'=>(some (g'.1,g'.2.1,g'.2.2,0))) else (some (0,0,([]:List (S57)),f')))=some (r1,r2,r3,r4):=H
 have A3:=Qh A30;clear A30;by_cases c4:f'=0
 ·rw [if_pos c4] at H
  have c4b0:(f' == 0)=true:=beq_iff_eq.mpr c4;have c4b1:(f' != 0)=false:=bne_eq_false_iff_eq.mpr c4;clear c4;replace H:=Option.bind_eq_some_iff.mp H;obtain ⟨⟨j',l',m'⟩,A50,H⟩:=H;replace H:(some (j',l',m',0))=some (r1,r2,r3,r4):=H
  have A5:=Qh A50;clear A50;simp only [Option.some.injEq,Prod.mk.injEq] at H;obtain ⟨rfl,rfl,rfl,rfl⟩:=H;go_enter Try.func24,Try.ntmps24
  go_wp2_with (first | ((with_reducible refine gate_dst (N:=2) rfl ?_);refine box_event ?hg (N:=2) ?hd (cs:=#[.int .i64 a0_0,.int .i64 a0_1,.slice A0_2 l0_2.length c0_2]) (t:=24) ?hr ?_;(case hd=>rfl);(case hg=>rfl);(case hr=>first | (go_simp;done) | (go_simp;rfl));intro d' hg w6 hbox hb;have n0_:=Qh (Qr HB.out hb);have n1_:=Qh (hbox);have n2_:=Qh ((by rw [hg];exact (Qs HB.out):w.heap.size≤d'));have n3_:=Qh ((by rw [hg];exact (Qs HB.out):w.heap.size≤d'));clear HB;have HB:=n0_;have a':=n1_;have s':=n2_;have p':=n3_;clear n0_ n1_ n2_ n3_;clear hb hbox hg) | ((with_reducible refine gate_dst (N:=4) rfl ?_);refine box_event ?hg (N:=4) ?hd (cs:=#[.int .i64 0,.int .i64 0,.slice none 0 0]) (t:=24) ?hr ?_;(case hd=>rfl);(case hg=>rfl);(case hr=>first | (go_simp;done) | (go_simp;rfl));intro c' hg w7 hbox hb;have n0_:=Qh (Qq a'.out hb);have n1_:=Qh (Qr HB.out hb);have n2_:=Qh (hbox);have n3_:=Qh ((by rw [hg];exact (Qs HB.out):w.heap.size≤c'));have n4_:=Qh ((by rw [hg];exact (Qs HB.out):w.heap.size≤c'));have n5_:=Qh ((by rw [hg];exact Nat.ne_of_lt (blk_lt a'.out):d'≠c'));have n6_:=Qh ((by rw [hg];exact Nat.ne_of_gt (blk_lt a'.out):c'≠d'));clear a';clear HB;have a':=n0_;have HB:=n1_;have b':=n2_;have r':=n3_;have o':=n4_;have i':=n5_;have h':=n6_;clear n0_ n1_ n2_ n3_ n4_ n5_ n6_;clear hb hbox hg;have au':=i'.out;have at':=h'.out;have aq':w7.cell? ⟨d',0,none⟩=some (.int .i64 a0_0):=(Qi a'.out 0).trans rfl;have ap':w7.cell? ⟨d',1,none⟩=some (.int .i64 a0_1):=(Qi a'.out 1).trans rfl;have ao':w7.cell? ⟨d',2,none⟩=some (.slice A0_2 l0_2.length c0_2):=(Qi a'.out 2).trans rfl) | ((with_reducible refine gate_callee (f:=11) rfl ?_);refine goesL_ (some 11) rfl rfl Try.func11 (by kernel_rfl) rfl #[.agg #[.int .i64 a0_0,.int .i64 a0_1,.slice A0_2 l0_2.length c0_2],.slice A1 l1.length c1] rfl (by (try simp only [List.map_toArray,List.map_cons,List.map_nil]);first | done | rfl | (simp only [List.length_drop,List.length_take];rfl)) ?_;(with_reducible refine (layers_Past.calls k a0_0 a0_1 _ _ l0_2 _ _ l1 k' f' _ ?side1 ?side2 ?side3 ?side4 A3.out).mono ?_);(case side1=>exact Qt HR0_2.out HB.out);(case side2=>exact HC0_2.out);(case side3=>exact Qt HR1.out HB.out);(case side4=>exact HC1.out);rintro e w10 ⟨t',rfl,ho0,hb⟩;refine ⟨_,rfl,?_⟩;have n0_:=Qh (Kd.R_lower (Kd.R_newM (M:=fun k_=>(w.heap.size≤k_)) ho0 (Qs HB.out) (fun k_ h_=>h_)) (Qs HB.out));have n1_:=Qh (Qq a'.out hb);have n2_:=Qh (Qq b'.out hb);have n3_:=Qh (Qr HB.out hb);clear a';clear b';clear HB;have e':=n0_;have a':=n1_;have b':=n2_;have HB:=n3_;clear n0_ n1_ n2_ n3_;have am':w10.cell? ⟨d',0,none⟩=some (.int .i64 a0_0):=(Qi a'.out 0).trans rfl;have al':w10.cell? ⟨d',1,none⟩=some (.int .i64 a0_1):=(Qi a'.out 1).trans rfl;have ak':w10.cell? ⟨d',2,none⟩=some (.slice A0_2 l0_2.length c0_2):=(Qi a'.out 2).trans rfl;obtain ⟨Ao12,co12,eo12⟩:=Kd.R_slice e'.out;subst eo12) | ((with_reducible refine gate_callee (f:=40) rfl ?_);refine goesL_ (some 20) rfl rfl Try.func40 (by kernel_rfl) rfl #[.agg #[.int .i64 a0_0,.int .i64 a0_1,.slice A0_2 l0_2.length c0_2],.slice Ao12 k'.length co12] rfl (by (try simp only [List.map_toArray,List.map_cons,List.map_nil]);first | done | rfl | (simp only [List.length_drop,List.length_take];rfl)) ?_;(with_reducible refine (layers_only.calls k a0_0 a0_1 _ _ l0_2 _ _ k' j' l' m' _ ?side1 ?side2 ?side3 ?side4 A5.out).mono ?_);(case side1=>exact Qt HR0_2.out HB.out);(case side2=>exact HC0_2.out);(case side3=>repeat (first | exact (Kd.R_reads' e'.out).2.2 | (with_reducible refine Kd.C_alloc ?_ _) | (with_reducible refine Kd.C_drewN ?_ _) | (with_reducible refine Kd.C_drew ?_)));(case side4=>exact (Kd.R_reads' e'.out).2.1);rintro e w13 ⟨an',rfl,ho0,hb⟩;refine ⟨_,rfl,?_⟩;have n0_:=Qh (Kd.R_below (by exact e'.out) hb);have n1_:=Qh (Kd.N_lower (Kd.N_mono (ok':=fun k_=>(w.heap.size≤k_)∧some k_≠(.slice Ao12 k'.length co12:Value).ownBlock∧k_≠d'∧k_≠c') ho0 (fun k_ hk_=>⟨(Nat.le_trans (Qs HB.out) hk_),(Kd.fresh' (Kd.R_lt (by exact e'.out)) k_ hk_),(Kd.freshB (g:=d') (o:=.cells #[.int .i64 a0_0,.int .i64 a0_1,.slice A0_2 l0_2.length c0_2] 24 (0,0)) a'.out k_ hk_),(Kd.freshB (g:=c') (o:=.cells #[.int .i64 0,.int .i64 0,.slice none 0 0] 24 (0,0)) b'.out k_ hk_)⟩)) (Qs HB.out));have n2_:=Qh (Qq a'.out hb);have n3_:=Qh (Qq b'.out hb);have n4_:=Qh (Qr HB.out hb);clear e';clear a';clear b';clear HB;have e':=n0_;have q':=n1_;have a':=n2_;have b':=n3_;have HB:=n4_;clear n0_ n1_ n2_ n3_ n4_;have aj':w13.cell? ⟨c',0,none⟩=some (.int .i64 0):=(Qi b'.out 0).trans rfl;have ai':w13.cell? ⟨c',1,none⟩=some (.int .i64 0):=(Qi b'.out 1).trans rfl;have ah':w13.cell? ⟨c',2,none⟩=some (.slice none 0 0):=(Qi b'.out 2).trans rfl;have aa':=Qj b'.out 0;have z':=Qj b'.out 1;have y':=Qj b'.out 2;obtain ⟨Ao15,co15,eo15⟩:=Kd.N_slice q'.out;subst eo15))
  refine bodyPost_ret (results_ct rfl _ _ c' 24 #[.int .i64 j',.int .i64 l',.slice Ao15 m'.length co15] (0,0) _ rfl (by refine blk_put (cs:=#[.int .i64 j',.int .i64 l',.slice none 0 0]) ?_ 2 _ rfl;refine blk_put (cs:=#[.int .i64 j',.int .i64 0,.slice none 0 0]) ?_ 1 _ rfl;refine blk_put (cs:=#[.int .i64 0,.int .i64 0,.slice none 0 0]) ?_ 0 _ rfl;exact b'.out) Try.underlying24 rfl (by kernel_rfl)) rfl ?_
  exact ⟨_,rfl,by exact Kd.N_mono (Kd.N_far (p:=⟨c',2,none⟩) (Kd.N_far (p:=⟨c',1,none⟩) (Kd.N_far (p:=⟨c',0,none⟩) (Kd.N_mono q'.out (fun k_ hk=>(⟨hk,hk.2.2.2⟩:_∧k_≠c'))) (fun _ hk=>hk.2) (.int .i64 j')) (fun _ hk=>hk.2) (.int .i64 l')) (fun _ hk=>hk.2) (.slice Ao15 m'.length co15)) (fun _ hk=>hk.1.1),by repeat (first | (with_reducible first | exact HB.out | apply Qd | apply Qe | apply Qf | refine Qg ?_ p'.out | refine Qg ?_ o'.out) | exact HB.out)⟩
 ·rw [if_neg c4] at H
  have c4b0:(f' == 0)=false:=beq_eq_false_iff_ne.mpr c4;have c4b1:(f' != 0)=true:=bne_iff_ne.mpr c4;simp only [Option.some.injEq,Prod.mk.injEq] at H;obtain ⟨rfl,rfl,rfl,rfl⟩:=H;go_enter Try.func24,Try.ntmps24
  go_wp2_with (first | ((with_reducible refine gate_dst (N:=2) rfl ?_);refine box_event ?hg (N:=2) ?hd (cs:=#[.int .i64 a0_0,.int .i64 a0_1,.slice A0_2 l0_2.length c0_2]) (t:=24) ?hr ?_;(case hd=>rfl);(case hg=>rfl);(case hr=>first | (go_simp;done) | (go_simp;rfl));intro d' hg w16 hbox hb;have n0_:=Qh (Qr HB.out hb);have n1_:=Qh (hbox);have n2_:=Qh ((by rw [hg];exact (Qs HB.out):w.heap.size≤d'));have n3_:=Qh ((by rw [hg];exact (Qs HB.out):w.heap.size≤d'));clear HB;have HB:=n0_;have a':=n1_;have s':=n2_;have p':=n3_;clear n0_ n1_ n2_ n3_;clear hb hbox hg) | ((with_reducible refine gate_dst (N:=4) rfl ?_);refine box_event ?hg (N:=4) ?hd (cs:=#[.int .i64 0,.int .i64 0,.slice none 0 0]) (t:=24) ?hr ?_;(case hd=>rfl);(case hg=>rfl);(case hr=>first | (go_simp;done) | (go_simp;rfl));intro c' hg w17 hbox hb;have n0_:=Qh (Qq a'.out hb);have n1_:=Qh (Qr HB.out hb);have n2_:=Qh (hbox);have n3_:=Qh ((by rw [hg];exact (Qs HB.out):w.heap.size≤c'));have n4_:=Qh ((by rw [hg];exact (Qs HB.out):w.heap.size≤c'));have n5_:=Qh ((by rw [hg];exact Nat.ne_of_lt (blk_lt a'.out):d'≠c'));have n6_:=Qh ((by rw [hg];exact Nat.ne_of_gt (blk_lt a'.out):c'≠d'));clear a';clear HB;have a':=n0_;have HB:=n1_;have b':=n2_;have r':=n3_;have o':=n4_;have i':=n5_;have h':=n6_;clear n0_ n1_ n2_ n3_ n4_ n5_ n6_;clear hb hbox hg;have as':=i'.out;have ar':=h'.out;have ag':w17.cell? ⟨d',0,none⟩=some (.int .i64 a0_0):=(Qi a'.out 0).trans rfl;have af':w17.cell? ⟨d',1,none⟩=some (.int .i64 a0_1):=(Qi a'.out 1).trans rfl;have ae':w17.cell? ⟨d',2,none⟩=some (.slice A0_2 l0_2.length c0_2):=(Qi a'.out 2).trans rfl) | ((with_reducible refine gate_callee (f:=11) rfl ?_);refine goesL_ (some 11) rfl rfl Try.func11 (by kernel_rfl) rfl #[.agg #[.int .i64 a0_0,.int .i64 a0_1,.slice A0_2 l0_2.length c0_2],.slice A1 l1.length c1] rfl (by (try simp only [List.map_toArray,List.map_cons,List.map_nil]);first | done | rfl | (simp only [List.length_drop,List.length_take];rfl)) ?_;(with_reducible refine (layers_Past.calls k a0_0 a0_1 _ _ l0_2 _ _ l1 k' f' _ ?side1 ?side2 ?side3 ?side4 A3.out).mono ?_);(case side1=>exact Qt HR0_2.out HB.out);(case side2=>exact HC0_2.out);(case side3=>exact Qt HR1.out HB.out);(case side4=>exact HC1.out);rintro e w20 ⟨t',rfl,ho0,hb⟩;refine ⟨_,rfl,?_⟩;have n0_:=Qh (Kd.R_lower (Kd.R_newM (M:=fun k_=>(w.heap.size≤k_)) ho0 (Qs HB.out) (fun k_ h_=>h_)) (Qs HB.out));have n1_:=Qh (Qq a'.out hb);have n2_:=Qh (Qq b'.out hb);have n3_:=Qh (Qr HB.out hb);clear a';clear b';clear HB;have e':=n0_;have a':=n1_;have b':=n2_;have HB:=n3_;clear n0_ n1_ n2_ n3_;have ad':w20.cell? ⟨c',0,none⟩=some (.int .i64 0):=(Qi b'.out 0).trans rfl;have ac':w20.cell? ⟨c',1,none⟩=some (.int .i64 0):=(Qi b'.out 1).trans rfl;have ab':w20.cell? ⟨c',2,none⟩=some (.slice none 0 0):=(Qi b'.out 2).trans rfl;have x':=Qj b'.out 0;have v':=Qj b'.out 1;have u':=Qj b'.out 2))
  refine bodyPost_ret (results_ct rfl _ _ c' 24 #[.int .i64 0,.int .i64 0,.slice none 0 0] (0,0) _ rfl (by refine blk_put (cs:=#[.int .i64 0,.int .i64 0,.slice none 0 0]) ?_ 2 _ rfl;refine blk_put (cs:=#[.int .i64 0,.int .i64 0,.slice none 0 0]) ?_ 1 _ rfl;refine blk_put (cs:=#[.int .i64 0,.int .i64 0,.slice none 0 0]) ?_ 0 _ rfl;exact b'.out) Try.underlying24 rfl (by kernel_rfl)) rfl ?_
  exact ⟨_,rfl,by first | exact Kd.S_nil _ _ _ _ _ | exact Kd.N_nil _ _ _ _ _ | exact Kd.V_nil _ _ _ _ _ | exact Kd.Q_nil _ _ _ _ _ | exact Kd.R_nil _ _ _ _ _,by repeat (first | (with_reducible first | exact HB.out | apply Qd | apply Qe | apply Qf | refine Qg ?_ p'.out | refine Qg ?_ o'.out) | exact HB.out)⟩
def phasorref19_Prune.f (k:Nat) (a0_0:Int) (a0_1:Int) (l0_2:List (S57)) (l1:List Int):Option (Int × Int × (List (S57)) × Int):=(phasorref19_Past.f k a0_0 a0_1 l0_2 l1).bind fun bt12603=>(if bt12603.2=0 then ((phasorref19_only.f k a0_0 a0_1 l0_2 bt12603.1).bind fun bt12607=>(some (bt12607.1,bt12607.2.1,bt12607.2.2,0))) else (some (0,0,([]:List (S57)),bt12603.2)))
set_option maxHeartbeats 8000000 in
set_option maxRecDepth 100000 in
theorem phasorref19_Prune.calls (k:Nat) (a0_0:Int) (a0_1:Int) (A0_2:Option Addr) (c0_2:Nat) (l0_2:List (S57)) (A1:Option Addr) (c1:Nat) (l1:List Int) (r1:Int) (r2:Int) (r3:List (S57)) (r4:Int) (w:World) (hr0_2:Kd.C k57 w A0_2 l0_2.length l0_2) (hc0_2:l0_2.length≤c0_2) (hr1:Kd.C (Kd.int .i64) w A1 l1.length l1) (hc1:l1.length≤c1) (h:phasorref19_Prune.f k a0_0 a0_1 l0_2 l1=some (r1,r2,r3,r4)) :
  Calls Try.prog 25 #[.agg #[.int .i64 a0_0,.int .i64 a0_1,.slice A0_2 l0_2.length c0_2],.slice A1 l1.length c1] w fun e w'=>∃ v2_:Value,e=.returned (.tuple #[.agg #[.int .i64 r1,.int .i64 r2,v2_],.int .i64 r4])∧Kd.N k57 57 w' w.heap.size (fun k_=>(w.heap.size≤k_)) v2_ r3∧Below w.heap.size w w':=by
 have hu24:=Try.underlying24;have HR0_2:=Qh hr0_2;have HC0_2:=Qh hc0_2;clear hr0_2 hc0_2;have HR1:=Qh hr1;have HC1:=Qh hc1;clear hr1 hc1;have HB:=Qh (Below.refl w.heap.size w);have H:((phasorref19_Past.f k a0_0 a0_1 l0_2 l1).bind fun p'=>(if p'.2=0 then ((phasorref19_only.f k a0_0 a0_1 l0_2 p'.1).bind fun i'=>(some (i'.1,i'.2.1,i'.2.2,0))) else (some (0,0,([]:List (S57)),p'.2))))=some (r1,r2,r3,r4):=h;clear h;replace H:=Option.bind_eq_some_iff.mp H;obtain ⟨⟨m',h'⟩,A30,H⟩:=H;replace H:(if h'=0 then ((phasorref19_only.f k a0_0 a0_1 l0_2 m').bind fun i'=>(some (i'.1,i'.2.1,i'.2.2,0))) else (some (0,0,([]:List (S57)),h')))=some (r1,r2,r3,r4):=H
 have A3:=Qh A30;clear A30;by_cases c4:h'=0
 ·rw [if_pos c4] at H
  have c4b0:(h' == 0)=true:=beq_iff_eq.mpr c4;have c4b1:(h' != 0)=false:=bne_eq_false_iff_eq.mpr c4;clear c4;replace H:=Option.bind_eq_some_iff.mp H;obtain ⟨⟨l',n',o'⟩,A50,H⟩:=H;replace H:(some (l',n',o',0))=some (r1,r2,r3,r4):=H
  have A5:=Qh A50;clear A50;simp only [Option.some.injEq,Prod.mk.injEq] at H;obtain ⟨rfl,rfl,rfl,rfl⟩:=H;go_enter Try.func25,Try.ntmps25
  go_wp2_with (first | ((with_reducible refine gate_dst (N:=2) rfl ?_);refine box_event ?hg (N:=2) ?hd (cs:=#[.int .i64 a0_0,.int .i64 a0_1,.slice A0_2 l0_2.length c0_2]) (t:=24) ?hr ?_;(case hd=>rfl);(case hg=>rfl);(case hr=>first | (go_simp;done) | (go_simp;rfl));intro b' hg w6 hbox hb;have n0_:=Qh (Qr (by repeat (first | (with_reducible first | exact HB.out | apply Qd | apply Qe | apply Qf) | exact HB.out)) hb);have n1_:=Qh (hbox);have n2_:=Qh ((by rw [hg];exact (Qs (by repeat (first | (with_reducible first | exact HB.out | apply Qd | apply Qe | apply Qf) | exact HB.out))):w.heap.size≤b'));have n3_:=Qh ((by rw [hg];exact (Qs (by repeat (first | (with_reducible first | exact HB.out | apply Qd | apply Qe | apply Qf) | exact HB.out))):w.heap.size≤b'));clear HB;have HB:=n0_;have a':=n1_;have s':=n2_;have e':=n3_;clear n0_ n1_ n2_ n3_;clear hb hbox hg) | ((with_reducible refine gate_dst (N:=4) rfl ?_);refine box_event ?hg (N:=4) ?hd (cs:=#[.int .i64 0,.int .i64 0,.slice none 0 0]) (t:=24) ?hr ?_;(case hd=>rfl);(case hg=>rfl);(case hr=>first | (go_simp;done) | (go_simp;rfl));intro c' hg w7 hbox hb;have n0_:=Qh (Qq (g:=b') (o:=.cells #[.int .i64 a0_0,.int .i64 a0_1,.slice A0_2 l0_2.length c0_2] 24 (0,0)) (by (with_reducible repeat (first | refine Qa ?_ _ | refine Qb ?_ | refine Qc ?_ _));exact a'.out) hb);have n1_:=Qh (Qr (by repeat (first | (with_reducible first | exact HB.out | apply Qd | apply Qe | apply Qf | refine Qg ?_ e'.out) | exact HB.out)) hb);have n2_:=Qh (hbox);have n3_:=Qh ((by rw [hg];exact (Qs (by repeat (first | (with_reducible first | exact HB.out | apply Qd | apply Qe | apply Qf | refine Qg ?_ e'.out) | exact HB.out))):w.heap.size≤c'));have n4_:=Qh ((by rw [hg];exact (Qs (by repeat (first | (with_reducible first | exact HB.out | apply Qd | apply Qe | apply Qf | refine Qg ?_ e'.out) | exact HB.out))):w.heap.size≤c'));have n5_:=Qh ((by rw [hg];exact Nat.ne_of_lt (blk_lt (g:=b') (o:=.cells #[.int .i64 a0_0,.int .i64 a0_1,.slice A0_2 l0_2.length c0_2] 24 (0,0)) (by (with_reducible repeat (first | refine Qa ?_ _ | refine Qb ?_ | refine Qc ?_ _));exact a'.out)):b'≠c'));have n6_:=Qh ((by rw [hg];exact Nat.ne_of_gt (blk_lt (g:=b') (o:=.cells #[.int .i64 a0_0,.int .i64 a0_1,.slice A0_2 l0_2.length c0_2] 24 (0,0)) (by (with_reducible repeat (first | refine Qa ?_ _ | refine Qb ?_ | refine Qc ?_ _));exact a'.out)):c'≠b'));clear a';clear HB;have a':=n0_;have HB:=n1_;have d':=n2_;have r':=n3_;have f':=n4_;have k':=n5_;have j':=n6_;clear n0_ n1_ n2_ n3_ n4_ n5_ n6_;clear hb hbox hg;have bd':=k'.out;have bc':=j'.out;have az':w7.cell? ⟨b',0,none⟩=some (.int .i64 a0_0):=(Qi a'.out 0).trans rfl;have ay':w7.cell? ⟨b',1,none⟩=some (.int .i64 a0_1):=(Qi a'.out 1).trans rfl;have ax':w7.cell? ⟨b',2,none⟩=some (.slice A0_2 l0_2.length c0_2):=(Qi a'.out 2).trans rfl;have aw':=Qj a'.out 0;have av':=Qj a'.out 1;have au':=Qj a'.out 2) | ((with_reducible refine gate_callee (f:=12) rfl ?_);refine goesL_ (some 11) rfl rfl Try.func12 (by kernel_rfl) rfl #[.agg #[.int .i64 a0_0,.int .i64 a0_1,.slice A0_2 l0_2.length c0_2],.slice A1 l1.length c1] rfl (by (try simp only [List.map_toArray,List.map_cons,List.map_nil]);first | done | rfl | (simp only [List.length_drop,List.length_take];rfl)) ?_;(with_reducible refine (phasorref19_Past.calls k a0_0 a0_1 _ _ l0_2 _ _ l1 m' h' _ ?side1 ?side2 ?side3 ?side4 A3.out).mono ?_);(case side1=>repeat (first | exact (Qt HR0_2.out HB.out) | (with_reducible refine Kd.C_alloc ?_ _) | (with_reducible refine Kd.C_drewN ?_ _) | (with_reducible refine Kd.C_drew ?_)));(case side2=>exact HC0_2.out);(case side3=>repeat (first | exact (Qt HR1.out HB.out) | (with_reducible refine Kd.C_alloc ?_ _) | (with_reducible refine Kd.C_drewN ?_ _) | (with_reducible refine Kd.C_drew ?_)));(case side4=>exact HC1.out);rintro e w10 ⟨t',rfl,ho0,hb⟩;refine ⟨_,rfl,?_⟩;have n0_:=Qh (Kd.R_lower (Kd.R_newM (M:=fun k_=>(w.heap.size≤k_)) ho0 (Qs (by repeat (first | (with_reducible first | exact HB.out | apply Qd | apply Qe | apply Qf | refine Qg ?_ e'.out | refine Qg ?_ f'.out) | exact HB.out))) (fun k_ h_=>h_)) (Qs (by repeat (first | (with_reducible first | exact HB.out | apply Qd | apply Qe | apply Qf | refine Qg ?_ e'.out | refine Qg ?_ f'.out) | exact HB.out))));have n1_:=Qh (Qq (g:=b') (o:=.cells #[.int .i64 a0_0,.int .i64 a0_1,.slice A0_2 l0_2.length c0_2] 24 (0,0)) (by (with_reducible repeat (first | refine Qa ?_ _ | refine Qb ?_ | refine Qc ?_ _));exact a'.out) hb);have n2_:=Qh (Qq (g:=c') (o:=.cells #[.int .i64 0,.int .i64 0,.slice none 0 0] 24 (0,0)) (by (with_reducible repeat (first | refine Qa ?_ _ | refine Qb ?_ | refine Qc ?_ _));exact d'.out) hb);have n3_:=Qh (Qr (by repeat (first | (with_reducible first | exact HB.out | apply Qd | apply Qe | apply Qf | refine Qg ?_ e'.out | refine Qg ?_ f'.out) | exact HB.out)) hb);clear a';clear d';clear HB;have g':=n0_;have a':=n1_;have d':=n2_;have HB:=n3_;clear n0_ n1_ n2_ n3_;(try clear hb);(try clear hb2);(try clear hk);(try clear hi);(try clear ho0);have as':w10.cell? ⟨b',0,none⟩=some (.int .i64 a0_0):=(Qi a'.out 0).trans rfl;have ar':w10.cell? ⟨b',1,none⟩=some (.int .i64 a0_1):=(Qi a'.out 1).trans rfl;have aq':w10.cell? ⟨b',2,none⟩=some (.slice A0_2 l0_2.length c0_2):=(Qi a'.out 2).trans rfl;have ag':=Qj a'.out 0;have af':=Qj a'.out 1;have ae':=Qj a'.out 2;obtain ⟨Ao12,co12,eo12⟩:=Kd.R_slice g'.out;subst eo12) | ((with_reducible refine gate_callee (f:=41) rfl ?_);refine goesL_ (some 20) rfl rfl Try.func41 (by kernel_rfl) rfl #[.agg #[.int .i64 a0_0,.int .i64 a0_1,.slice A0_2 l0_2.length c0_2],.slice Ao12 m'.length co12] rfl (by (try simp only [List.map_toArray,List.map_cons,List.map_nil]);first | done | rfl | (simp only [List.length_drop,List.length_take];rfl)) ?_;(with_reducible refine (phasorref19_only.calls k a0_0 a0_1 _ _ l0_2 _ _ m' l' n' o' _ ?side1 ?side2 ?side3 ?side4 A5.out).mono ?_);(case side1=>repeat (first | exact (Qt HR0_2.out HB.out) | (with_reducible refine Kd.C_alloc ?_ _) | (with_reducible refine Kd.C_drewN ?_ _) | (with_reducible refine Kd.C_drew ?_)));(case side2=>exact HC0_2.out);(case side3=>repeat (first | exact (Kd.R_reads' g'.out).2.2 | (with_reducible refine Kd.C_alloc ?_ _) | (with_reducible refine Kd.C_drewN ?_ _) | (with_reducible refine Kd.C_drew ?_)));(case side4=>exact (Kd.R_reads' g'.out).2.1);rintro e w13 ⟨at',rfl,ho0,hb⟩;refine ⟨_,rfl,?_⟩;have n0_:=Qh (Kd.R_below (by (with_reducible repeat (first | apply Qv | apply Qw | apply Qx));exact g'.out) hb);have n1_:=Qh (Kd.N_lower (Kd.N_mono (ok':=fun k_=>(w.heap.size≤k_)∧some k_≠(.slice Ao12 m'.length co12:Value).ownBlock∧k_≠b'∧k_≠c') ho0 (fun k_ hk_=>⟨(Nat.le_trans (Qs (by repeat (first | (with_reducible first | exact HB.out | apply Qd | apply Qe | apply Qf | refine Qg ?_ e'.out | refine Qg ?_ f'.out) | exact HB.out))) hk_),(Kd.fresh' (Kd.R_lt (by (with_reducible repeat (first | apply Qv | apply Qw | apply Qx));exact g'.out)) k_ hk_),(Kd.freshB (g:=b') (o:=.cells #[.int .i64 a0_0,.int .i64 a0_1,.slice A0_2 l0_2.length c0_2] 24 (0,0)) (by (with_reducible repeat (first | refine Qa ?_ _ | refine Qb ?_ | refine Qc ?_ _));exact a'.out) k_ hk_),(Kd.freshB (g:=c') (o:=.cells #[.int .i64 0,.int .i64 0,.slice none 0 0] 24 (0,0)) (by (with_reducible repeat (first | refine Qa ?_ _ | refine Qb ?_ | refine Qc ?_ _));exact d'.out) k_ hk_)⟩)) (Qs (by repeat (first | (with_reducible first | exact HB.out | apply Qd | apply Qe | apply Qf | refine Qg ?_ e'.out | refine Qg ?_ f'.out) | exact HB.out))));have n2_:=Qh (Qq (g:=b') (o:=.cells #[.int .i64 a0_0,.int .i64 a0_1,.slice A0_2 l0_2.length c0_2] 24 (0,0)) (by (with_reducible repeat (first | refine Qa ?_ _ | refine Qb ?_ | refine Qc ?_ _));exact a'.out) hb);have n3_:=Qh (Qq (g:=c') (o:=.cells #[.int .i64 0,.int .i64 0,.slice none 0 0] 24 (0,0)) (by (with_reducible repeat (first | refine Qa ?_ _ | refine Qb ?_ | refine Qc ?_ _));exact d'.out) hb);have n4_:=Qh (Qr (by repeat (first | (with_reducible first | exact HB.out | apply Qd | apply Qe | apply Qf | refine Qg ?_ e'.out | refine Qg ?_ f'.out) | exact HB.out)) hb);clear g';clear a';clear d';clear HB;have g':=n0_;have q':=n1_;have a':=n2_;have d':=n3_;have HB:=n4_;clear n0_ n1_ n2_ n3_ n4_;(try clear hb);(try clear hb2);(try clear hk);(try clear hi);(try clear ho0);have ap':w13.cell? ⟨c',0,none⟩=some (.int .i64 0):=(Qi d'.out 0).trans rfl;have ao':w13.cell? ⟨c',1,none⟩=some (.int .i64 0):=(Qi d'.out 1).trans rfl;have an':w13.cell? ⟨c',2,none⟩=some (.slice none 0 0):=(Qi d'.out 2).trans rfl;have ad':=Qj d'.out 0;have ac':=Qj d'.out 1;have ab':=Qj d'.out 2;obtain ⟨Ao15,co15,eo15⟩:=Kd.N_slice q'.out;subst eo15))
  refine bodyPost_ret (results_ct rfl _ _ c' 24 #[.int .i64 l',.int .i64 n',.slice Ao15 o'.length co15] (0,0) _ rfl (by (with_reducible repeat (first | refine Qa ?_ _ | refine Qb ?_ | refine Qc ?_ _));refine blk_put (cs:=#[.int .i64 l',.int .i64 n',.slice none 0 0]) ?_ 2 _ rfl;(with_reducible repeat (first | refine Qa ?_ _ | refine Qb ?_ | refine Qc ?_ _));refine blk_put (cs:=#[.int .i64 l',.int .i64 0,.slice none 0 0]) ?_ 1 _ rfl;(with_reducible repeat (first | refine Qa ?_ _ | refine Qb ?_ | refine Qc ?_ _));refine blk_put (cs:=#[.int .i64 0,.int .i64 0,.slice none 0 0]) ?_ 0 _ rfl;(with_reducible repeat (first | refine Qa ?_ _ | refine Qb ?_ | refine Qc ?_ _));exact d'.out) Try.underlying24 rfl (by kernel_rfl)) rfl ?_
  exact ⟨_,by first | rfl | (simp [errW_none,errW_some]<;>rfl) | (simp [*,errW_none,errW_some]<;>rfl),by (with_reducible repeat (first | apply Kd.N_alloc | apply Kd.N_drewN | apply Kd.N_drew));exact Kd.N_mono (Kd.N_far (p:=⟨c',2,none⟩) (Kd.N_far (p:=⟨c',1,none⟩) (Kd.N_far (p:=⟨c',0,none⟩) (Kd.N_mono q'.out (fun k_ hk=>(⟨hk,hk.2.2.2⟩:_∧k_≠c'))) (fun _ hk=>hk.2) (.int .i64 l')) (fun _ hk=>hk.2) (.int .i64 n')) (fun _ hk=>hk.2) (.slice Ao15 o'.length co15)) (fun _ hk=>hk.1.1),by repeat (first | (with_reducible first | exact HB.out | apply Qd | apply Qe | apply Qf | refine Qg ?_ e'.out | refine Qg ?_ f'.out) | exact HB.out)⟩
 ·rw [if_neg c4] at H
  have c4b0:(h' == 0)=false:=beq_eq_false_iff_ne.mpr c4;have c4b1:(h' != 0)=true:=bne_iff_ne.mpr c4;simp only [Option.some.injEq,Prod.mk.injEq] at H;obtain ⟨rfl,rfl,rfl,rfl⟩:=H;go_enter Try.func25,Try.ntmps25
  go_wp2_with (first | ((with_reducible refine gate_dst (N:=2) rfl ?_);refine box_event ?hg (N:=2) ?hd (cs:=#[.int .i64 a0_0,.int .i64 a0_1,.slice A0_2 l0_2.length c0_2]) (t:=24) ?hr ?_;(case hd=>rfl);(case hg=>rfl);(case hr=>first | (go_simp;done) | (go_simp;rfl));intro b' hg w16 hbox hb;have n0_:=Qh (Qr (by repeat (first | (with_reducible first | exact HB.out | apply Qd | apply Qe | apply Qf) | exact HB.out)) hb);have n1_:=Qh (hbox);have n2_:=Qh ((by rw [hg];exact (Qs (by repeat (first | (with_reducible first | exact HB.out | apply Qd | apply Qe | apply Qf) | exact HB.out))):w.heap.size≤b'));have n3_:=Qh ((by rw [hg];exact (Qs (by repeat (first | (with_reducible first | exact HB.out | apply Qd | apply Qe | apply Qf) | exact HB.out))):w.heap.size≤b'));clear HB;have HB:=n0_;have a':=n1_;have s':=n2_;have e':=n3_;clear n0_ n1_ n2_ n3_;clear hb hbox hg) | ((with_reducible refine gate_dst (N:=4) rfl ?_);refine box_event ?hg (N:=4) ?hd (cs:=#[.int .i64 0,.int .i64 0,.slice none 0 0]) (t:=24) ?hr ?_;(case hd=>rfl);(case hg=>rfl);(case hr=>first | (go_simp;done) | (go_simp;rfl));intro c' hg w17 hbox hb;have n0_:=Qh (Qq (g:=b') (o:=.cells #[.int .i64 a0_0,.int .i64 a0_1,.slice A0_2 l0_2.length c0_2] 24 (0,0)) (by (with_reducible repeat (first | refine Qa ?_ _ | refine Qb ?_ | refine Qc ?_ _));exact a'.out) hb);have n1_:=Qh (Qr (by repeat (first | (with_reducible first | exact HB.out | apply Qd | apply Qe | apply Qf | refine Qg ?_ e'.out) | exact HB.out)) hb);have n2_:=Qh (hbox);have n3_:=Qh ((by rw [hg];exact (Qs (by repeat (first | (with_reducible first | exact HB.out | apply Qd | apply Qe | apply Qf | refine Qg ?_ e'.out) | exact HB.out))):w.heap.size≤c'));have n4_:=Qh ((by rw [hg];exact (Qs (by repeat (first | (with_reducible first | exact HB.out | apply Qd | apply Qe | apply Qf | refine Qg ?_ e'.out) | exact HB.out))):w.heap.size≤c'));have n5_:=Qh ((by rw [hg];exact Nat.ne_of_lt (blk_lt (g:=b') (o:=.cells #[.int .i64 a0_0,.int .i64 a0_1,.slice A0_2 l0_2.length c0_2] 24 (0,0)) (by (with_reducible repeat (first | refine Qa ?_ _ | refine Qb ?_ | refine Qc ?_ _));exact a'.out)):b'≠c'));have n6_:=Qh ((by rw [hg];exact Nat.ne_of_gt (blk_lt (g:=b') (o:=.cells #[.int .i64 a0_0,.int .i64 a0_1,.slice A0_2 l0_2.length c0_2] 24 (0,0)) (by (with_reducible repeat (first | refine Qa ?_ _ | refine Qb ?_ | refine Qc ?_ _));exact a'.out)):c'≠b'));clear a';clear HB;have a':=n0_;have HB:=n1_;have d':=n2_;have r':=n3_;have f':=n4_;have k':=n5_;have j':=n6_;clear n0_ n1_ n2_ n3_ n4_ n5_ n6_;clear hb hbox hg;have bb':=k'.out;have ba':=j'.out;have am':w17.cell? ⟨b',0,none⟩=some (.int .i64 a0_0):=(Qi a'.out 0).trans rfl;have al':w17.cell? ⟨b',1,none⟩=some (.int .i64 a0_1):=(Qi a'.out 1).trans rfl;have ak':w17.cell? ⟨b',2,none⟩=some (.slice A0_2 l0_2.length c0_2):=(Qi a'.out 2).trans rfl;have aa':=Qj a'.out 0;have z':=Qj a'.out 1;have y':=Qj a'.out 2) | ((with_reducible refine gate_callee (f:=12) rfl ?_);refine goesL_ (some 11) rfl rfl Try.func12 (by kernel_rfl) rfl #[.agg #[.int .i64 a0_0,.int .i64 a0_1,.slice A0_2 l0_2.length c0_2],.slice A1 l1.length c1] rfl (by (try simp only [List.map_toArray,List.map_cons,List.map_nil]);first | done | rfl | (simp only [List.length_drop,List.length_take];rfl)) ?_;(with_reducible refine (phasorref19_Past.calls k a0_0 a0_1 _ _ l0_2 _ _ l1 m' h' _ ?side1 ?side2 ?side3 ?side4 A3.out).mono ?_);(case side1=>repeat (first | exact (Qt HR0_2.out HB.out) | (with_reducible refine Kd.C_alloc ?_ _) | (with_reducible refine Kd.C_drewN ?_ _) | (with_reducible refine Kd.C_drew ?_)));(case side2=>exact HC0_2.out);(case side3=>repeat (first | exact (Qt HR1.out HB.out) | (with_reducible refine Kd.C_alloc ?_ _) | (with_reducible refine Kd.C_drewN ?_ _) | (with_reducible refine Kd.C_drew ?_)));(case side4=>exact HC1.out);rintro e w20 ⟨t',rfl,ho0,hb⟩;refine ⟨_,rfl,?_⟩;have n0_:=Qh (Kd.R_lower (Kd.R_newM (M:=fun k_=>(w.heap.size≤k_)) ho0 (Qs (by repeat (first | (with_reducible first | exact HB.out | apply Qd | apply Qe | apply Qf | refine Qg ?_ e'.out | refine Qg ?_ f'.out) | exact HB.out))) (fun k_ h_=>h_)) (Qs (by repeat (first | (with_reducible first | exact HB.out | apply Qd | apply Qe | apply Qf | refine Qg ?_ e'.out | refine Qg ?_ f'.out) | exact HB.out))));have n1_:=Qh (Qq (g:=b') (o:=.cells #[.int .i64 a0_0,.int .i64 a0_1,.slice A0_2 l0_2.length c0_2] 24 (0,0)) (by (with_reducible repeat (first | refine Qa ?_ _ | refine Qb ?_ | refine Qc ?_ _));exact a'.out) hb);have n2_:=Qh (Qq (g:=c') (o:=.cells #[.int .i64 0,.int .i64 0,.slice none 0 0] 24 (0,0)) (by (with_reducible repeat (first | refine Qa ?_ _ | refine Qb ?_ | refine Qc ?_ _));exact d'.out) hb);have n3_:=Qh (Qr (by repeat (first | (with_reducible first | exact HB.out | apply Qd | apply Qe | apply Qf | refine Qg ?_ e'.out | refine Qg ?_ f'.out) | exact HB.out)) hb);clear a';clear d';clear HB;have g':=n0_;have a':=n1_;have d':=n2_;have HB:=n3_;clear n0_ n1_ n2_ n3_;(try clear hb);(try clear hb2);(try clear hk);(try clear hi);(try clear ho0);have aj':w20.cell? ⟨c',0,none⟩=some (.int .i64 0):=(Qi d'.out 0).trans rfl;have ai':w20.cell? ⟨c',1,none⟩=some (.int .i64 0):=(Qi d'.out 1).trans rfl;have ah':w20.cell? ⟨c',2,none⟩=some (.slice none 0 0):=(Qi d'.out 2).trans rfl;have x':=Qj d'.out 0;have v':=Qj d'.out 1;have u':=Qj d'.out 2))
  refine bodyPost_ret (results_ct rfl _ _ c' 24 #[.int .i64 0,.int .i64 0,.slice none 0 0] (0,0) _ rfl (by (with_reducible repeat (first | refine Qa ?_ _ | refine Qb ?_ | refine Qc ?_ _));refine blk_put (cs:=#[.int .i64 0,.int .i64 0,.slice none 0 0]) ?_ 2 _ rfl;(with_reducible repeat (first | refine Qa ?_ _ | refine Qb ?_ | refine Qc ?_ _));refine blk_put (cs:=#[.int .i64 0,.int .i64 0,.slice none 0 0]) ?_ 1 _ rfl;(with_reducible repeat (first | refine Qa ?_ _ | refine Qb ?_ | refine Qc ?_ _));refine blk_put (cs:=#[.int .i64 0,.int .i64 0,.slice none 0 0]) ?_ 0 _ rfl;(with_reducible repeat (first | refine Qa ?_ _ | refine Qb ?_ | refine Qc ?_ _));exact d'.out) Try.underlying24 rfl (by kernel_rfl)) rfl ?_
  exact ⟨_,by first | rfl | (simp [errW_none,errW_some]<;>rfl) | (simp [*,errW_none,errW_some]<;>rfl),by first | exact Kd.S_nil _ _ _ _ _ | exact Kd.N_nil _ _ _ _ _ | exact Kd.V_nil _ _ _ _ _ | exact Kd.Q_nil _ _ _ _ _ | exact Kd.R_nil _ _ _ _ _,by repeat (first | (with_reducible first | exact HB.out | apply Qd | apply Qe | apply Qf | refine Qg ?_ e'.out | refine Qg ?_ f'.out) | exact HB.out)⟩
theorem raw_of_R {α:Type} {d:Kd α} {e base:Nat} {w:World} {v:Value} {n:Nat} {inner:List Value} (ho:w.ownsRow base e d.sz v n inner) (hl:inner.length=n * d.sz) (h1:∀ j,j < n→((inner.drop (j * d.sz)).take d.sz).length=d.sz∧∀ u ∈ (inner.drop (j * d.sz)).take d.sz,u.oneCell'=true) :
  (Kd.raw d.sz).R e w base (fun k=>some k=v.ownBlock) v (Kd.chunks d.sz n inner):=by
 refine ⟨fun k hk=>hk.symm,inner,by rw [Kd.chunks_length];exact ho,by rw [Kd.chunks_length];exact hl,fun j p hj=>?_⟩
 have hjn:j < n:=by have:=(List.getElem?_eq_some_iff.1 hj).1;rwa [Kd.chunks_length] at this
 have hp:=Kd.chunks_get hj
 exact ⟨hp.symm,h1 j hjn⟩
structure MS (b t:Nat) (Am:Option Addr) (cm:Nat) (ms:List (List Int)) (f:Nat→Nat) (rows:List (List Value)) (i:Nat) (W:World):Prop where
 hl:rows.length=ms.length
 hr:(Kd.raw 1).R 25 W b (fun k=>some k=(Value.slice Am ms.length cm).ownBlock) (.slice Am ms.length cm) rows
 he:∀ (j:Nat) (x:List Int) (c:List Value),i≤j→ms[j]?=some x→rows[j]?=some c→∃ u,c=[u]∧(Kd.int .i64).R 3 W b (fun k=>(k < t∧some k≠(Value.slice Am ms.length cm).ownBlock)∧f k=j) u x
theorem MS.of_S {b:Nat} {W:World} {Am:Option Addr} {cm:Nat} {ms:List (List Int)} (h:Kd.S (Kd.slice 3 (Kd.int .i64)) 25 W b (fun _=>True) (.slice Am ms.length cm) ms):∃ f rows,MS b W.heap.size Am cm ms f rows 0 W:=by
 obtain ⟨f,h0,inner,ho,hr⟩:=Kd.S_bound h
 rw [List.length_zipIdx] at ho
 have hl:=hr.1
 rw [List.length_zipIdx] at hl
 have each:∀ (j:Nat) (x:List Int),ms[j]?=some x→∃ u,(inner.drop (j * 1)).take 1=[u]∧(Kd.int .i64).R 3 W b (fun k=>(k < W.heap.size∧some k≠(Value.slice Am ms.length cm).ownBlock)∧f k=j) u x:=by
  intro j x hj
  obtain ⟨u,hu,hR⟩:=hr.2 j (x,j) (Kd.zip_at hj)
  exact ⟨u,hu,Kd.R_mono hR (fun k hk=>⟨⟨hk.1.1.2.2.1,hk.1.2⟩,hk.2⟩)⟩
 refine ⟨f,Kd.chunks 1 ms.length inner,Kd.chunks_length _ _ _,raw_of_R (d:=Kd.slice 3 (Kd.int .i64)) ho hl (fun j hj=>?_),fun j x c _ hx hc=>?_⟩
 ·obtain ⟨u,hu,hR⟩:=each j _ (List.getElem?_eq_getElem hj)
  rw [show (Kd.slice 3 (Kd.int .i64)).sz=1 from rfl,hu]
  refine ⟨rfl,fun v hv=>?_⟩
  rw [List.mem_singleton.1 hv]
  exact (Kd.R_val hR).2
 ·obtain ⟨u,hu,hR⟩:=each j x hx
  exact ⟨u,(Kd.chunks_get hc).trans hu,hR⟩
theorem MS.kept {b t:Nat} {Am:Option Addr} {cm:Nat} {ms:List (List Int)} {f:Nat→Nat} {rows:List (List Value)} {i:Nat} {W W':World} (h:MS b t Am cm ms f rows i W) (hk:Kept W W' (fun k=>(k < t∧some k≠(Value.slice Am ms.length cm).ownBlock)∧f k=i)):MS b t Am cm ms f rows (i + 1) W' :=
 ⟨h.hl,Kd.R_kept h.hr hk (fun k hk hs=>hs.1.2 hk),fun j x c hj hx hc=>by
  obtain ⟨u,hu,hR⟩:=h.he j x c (by omega) hx hc
  exact ⟨u,hu,Kd.R_kept hR hk (fun k hk hs=>by have h1:=hk.2;have h2:=hs.2;omega)⟩⟩
theorem MS.below {b t:Nat} {Am:Option Addr} {cm:Nat} {ms:List (List Int)} {f:Nat→Nat} {rows:List (List Value)} {i:Nat} {W W':World} (h:MS b t Am cm ms f rows i W) (hb:Below W.heap.size W W'):MS b t Am cm ms f rows i W' :=
 ⟨h.hl,Kd.R_below h.hr hb,fun j x c hj hx hc=>by
  obtain ⟨u,hu,hR⟩:=h.he j x c hj hx hc
  exact ⟨u,hu,Kd.R_below hR hb⟩⟩
theorem MS.at_ {b t:Nat} {Am:Option Addr} {cm:Nat} {ms:List (List Int)} {f:Nat→Nat} {rows:List (List Value)} {i:Nat} {W:World} (h:MS b t Am cm ms f rows i W) (hi:i < ms.length) :
  ∃ g u,Am=some ⟨g,0,none⟩∧W.cell? ⟨g,i,none⟩=some u∧(Kd.int .i64).R 3 W b (fun k=>(k < t∧some k≠(Value.slice Am ms.length cm).ownBlock)∧f k=i) u (ms.getD i []):=by
 obtain ⟨g,cap,e,_⟩:=Kd.R_form h.hr (by rw [h.hl];omega)
 injection e with e1 e2 e3
 subst e1
 have hil:i < rows.length:=by rw [h.hl];exact hi
 obtain ⟨c,hcl,hM,hcc,_⟩:=Kd.R_elem h.hr [] (i:Int) (by omega) (by omega)
 have hc:c=rows[i]:=by
  have h2:=hM.1
  rwa [Int.toNat_natCast,List.getD_eq_getElem?_getD,List.getElem?_eq_getElem hil] at h2
 obtain ⟨u,hu,hR⟩:=h.he i ms[i] rows[i] (Nat.le_refl _) (List.getElem?_eq_getElem hi) (List.getElem?_eq_getElem hil)
 refine ⟨g,u,rfl,?_,?_⟩
 ·have:=hcc 0 u (by rw [hc,hu];rfl)
  rw [Int.toNat_natCast,show (Kd.raw 1).sz=1 from rfl,Nat.mul_one,Nat.add_zero] at this
  exact this
 ·rw [List.getD_eq_getElem?_getD,List.getElem?_eq_getElem hi]
  exact hR
theorem rows_at {t:Nat} {W:World} {An:Option Addr} {cn:Nat} {ms:List (List Int)} {i:Nat} (h:Kd.S (Kd.slice 3 (Kd.int .i64)) 25 W t (fun _=>True) (.slice An ms.length cn) ms) (hi:i < ms.length) :
  ∃ ad A2 c2,An=some ad∧W.cell? (ad.add i)=some (.slice A2 (ms.getD i []).length c2)∧(ms.getD i []).length≤c2∧∀ (S:Nat→Prop) W_,Kept W W_ S→(∀ k,S k→k < t)→Kd.C (Kd.int .i64) W_ A2 (ms.getD i []).length (ms.getD i []):=by
 have hF:=Kd.S_F (Kd.S_bound h)
 obtain ⟨ad,c,hA,hcl,hFK,hcc,_⟩:=Kd.F_get hF [] (i:Int) (by omega) (by omega)
 rw [Int.toNat_natCast] at hFK hcc
 obtain ⟨A2,c2,rfl,hle,hF2⟩:=Kd.FK_slice_open hFK
 refine ⟨ad,A2,c2,hA,?_,hle,fun S W_ hk hS=>?_⟩
 ·have:=hcc 0 _ rfl
  rw [show (Kd.slice 3 (Kd.int .i64)).sz=1 from rfl,Nat.mul_one,Nat.add_zero] at this
  exact this
 ·exact hF2 W_ (fun k hk2 hlt=>hk.2 k hlt (fun hs=>by have h1:=hS k hs;have h2:=hk2.2.1;omega))
theorem S_keptN {t:Nat} {W W':World} {v:Value} {ms:List (List Int)} {S:Nat→Prop} (h:Kd.S (Kd.slice 3 (Kd.int .i64)) 25 W t (fun _=>True) v ms) (hk:Kept W W' S) (hS:∀ k,S k→k < t):Kd.S (Kd.slice 3 (Kd.int .i64)) 25 W' t (fun _=>True) v ms :=
 Kd.S_mono (Kd.S_kept (Kd.S_bound h) hk (fun k hk hs=>by have h1:=hS k hs;have h2:=hk.2.1;omega)) (fun _ _=>trivial)
structure WR (b t:Nat) (As:Option Addr) (cs:Nat) (xs:List S57) (rows:List (List Value)) (W:World):Prop where
 hl:rows.length=xs.length
 hr:(Kd.raw 6).R 57 W b (fun k=>some k=(Value.slice As xs.length cs).ownBlock) (.slice As xs.length cs) rows
 he:∀ (j:Nat) (x:S57) (c:List Value),xs[j]?=some x→rows[j]?=some c→∃ v0 v1 A2 c2 v3 v4 v5,c=[v0,v1,.slice A2 x.f2.length c2,v3,v4,v5]∧(0 < x.f2.length→∃ g o cells,A2=some ⟨g,o,none⟩∧b≤g∧g < t∧some g≠(Value.slice As xs.length cs).ownBlock∧W.heap[g]?=some (.cells cells 3 (0,0))∧o + x.f2.length≤cells.size)
theorem WR.of_N {b t:Nat} {W:World} {As:Option Addr} {cs:Nat} {xs:List S57} (h:Kd.N k57u 57 W b (fun k=>b≤k∧k < t) (.slice As xs.length cs) xs):∃ rows,WR b t As cs xs rows W:=by
 obtain ⟨_,rows,hl,hR,hf⟩:=h
 refine ⟨rows,hl,hR,fun j x c hx hc=>?_⟩
 have hK:=hf j x c hx hc
 obtain ⟨A2,c2,rfl,hle,hF⟩:=k57_openF (FK57u hK)
 refine ⟨_,_,A2,c2,_,_,_,rfl,fun hp=>?_⟩
 obtain ⟨ad,c',hA,hcl,_,hcc,hin⟩:=Kd.F_get hF 0 0 (Int.le_refl _) (by omega)
 subst hA
 have hok:=hin (by decide)
 obtain ⟨cells,hcells⟩:=K57u_free (Kd.FK_now hK) _ _ _ rfl hp
 have hall:∀ m:Nat,m < x.f2.length→∃ u,W.cell? (ad.add m)=some u:=fun m hm=>by
  obtain ⟨ad',c3,hA3,hcl3,_,hcc3,_⟩:=Kd.F_get hF 0 (m:Int) (by omega) (by omega)
  injection hA3 with hA3
  subst hA3
  obtain ⟨u,hu⟩:∃ u,c3[0]?=some u:=⟨c3[0]'(by rw [hcl3];decide),List.getElem?_eq_getElem _⟩
  have:=hcc3 0 u hu
  rw [Int.toNat_natCast,show (Kd.int .i64).sz=1 from rfl,Nat.mul_one,Nat.add_zero] at this
  exact ⟨u,this⟩
 obtain ⟨g,o,sp⟩:=ad
 have hsp:sp=none:=by
  obtain ⟨u,hu⟩:=hall 0 hp
  have e:W.cell? ⟨g,o,sp⟩=some u:=hu
  unfold World.cell? at e
  have hc2:W.heap[g]?=some (.cells cells 3 (0,0)):=hcells
  simp only [hc2] at e
  cases sp with
  | none=>rfl
  | some n=>simp at e
 subst hsp
 refine ⟨g,o,cells,rfl,hok.1.1,hok.1.2,hok.2,hcells,?_⟩
 obtain ⟨u,hu⟩:=hall (x.f2.length - 1) (by omega)
 rw [add_at,blk_cell hcells] at hu
 have:=(Array.getElem?_eq_some_iff.1 hu).1
 omega
theorem WR.at_ {b t:Nat} {W:World} {As:Option Addr} {cs:Nat} {xs:List S57} {rows:List (List Value)} (h:WR b t As cs xs rows W) {j:Nat} (hj:j < xs.length) :
  ∃ gs A2 c2,As=some ⟨gs,0,none⟩∧W.cell? ⟨gs,j * 6 + 2,none⟩=some (.slice A2 (xs.getD j z57).f2.length c2)∧(∀ m:Nat,m < (xs.getD j z57).f2.length→∃ g o u,A2=some ⟨g,o,none⟩∧b≤g∧g < t∧some g≠(Value.slice As xs.length cs).ownBlock∧W.cell? ⟨g,o + m,none⟩=some u∧W.frozen? ⟨g,o + m,none⟩=false):=by
 obtain ⟨gs,cap,e,_⟩:=Kd.R_form h.hr (by rw [h.hl];omega)
 injection e with e1 e2 e3
 subst e1
 have hil:j < rows.length:=by rw [h.hl];exact hj
 obtain ⟨c,hcl,hM,hcc,_⟩:=Kd.R_elem h.hr [] (j:Int) (by omega) (by omega)
 have hc:c=rows[j]:=by
  have h2:=hM.1
  rwa [Int.toNat_natCast,List.getD_eq_getElem?_getD,List.getElem?_eq_getElem hil] at h2
 obtain ⟨v0,v1,A2,c2,v3,v4,v5,hu,hw⟩:=h.he j xs[j] rows[j] (List.getElem?_eq_getElem hj) (List.getElem?_eq_getElem hil)
 have ex:xs.getD j z57=xs[j]:=by rw [List.getD_eq_getElem?_getD,List.getElem?_eq_getElem hj];rfl
 rw [ex]
 refine ⟨gs,A2,c2,rfl,?_,fun m hm=>?_⟩
 ·have:=hcc 2 _ (by rw [hc,hu];rfl)
  rw [Int.toNat_natCast] at this
  exact this
 ·obtain ⟨g,o,cells,rfl,h1,h2,h3,h4,h5⟩:=hw (by omega)
  exact ⟨g,o,cells[o + m]'(by omega),rfl,h1,h2,h3,by rw [blk_cell h4];exact Array.getElem?_eq_getElem (by omega),blk_frozen h4 _⟩
theorem WR.put {b t:Nat} {W:World} {As:Option Addr} {cs:Nat} {xs:List S57} {rows:List (List Value)} (h:WR b t As cs xs rows W) {g i:Nat} (hne:some g≠(Value.slice As xs.length cs).ownBlock) (u:Value):WR b t As cs xs rows (W.setCell ⟨g,i,none⟩ u):=by
 refine ⟨h.hl,Kd.R_far (p:=⟨g,i,none⟩) h.hr (fun k hk e=>hne (by rw [← show k=g from e];exact hk)) u,fun j x c hx hc=>?_⟩
 obtain ⟨v0,v1,A2,c2,v3,v4,v5,hu,hw⟩:=h.he j x c hx hc
 refine ⟨v0,v1,A2,c2,v3,v4,v5,hu,fun hp=>?_⟩
 obtain ⟨g2,o,cells,h0,h1,h2,h3,h4,h5⟩:=hw hp
 by_cases e:g2=g
 ·subst e
  exact ⟨g2,o,_,h0,h1,h2,h3,blk_set h4 i u,by rw [Array.size_setIfInBounds];exact h5⟩
 ·exact ⟨g2,o,cells,h0,h1,h2,h3,blk_far h4 e u,h5⟩
theorem WR.below {b t:Nat} {W W':World} {As:Option Addr} {cs:Nat} {xs:List S57} {rows:List (List Value)} (h:WR b t As cs xs rows W) (hb:Below W.heap.size W W'):WR b t As cs xs rows W':=by
 refine ⟨h.hl,Kd.R_below h.hr hb,fun j x c hx hc=>?_⟩
 obtain ⟨v0,v1,A2,c2,v3,v4,v5,hu,hw⟩:=h.he j x c hx hc
 refine ⟨v0,v1,A2,c2,v3,v4,v5,hu,fun hp=>?_⟩
 obtain ⟨g2,o,cells,h0,h1,h2,h3,h4,h5⟩:=hw hp
 exact ⟨g2,o,cells,h0,h1,h2,h3,(hb.block g2 (blk_lt h4)).trans h4,h5⟩
set_option maxHeartbeats 8000000 in
set_option maxRecDepth 100000 in
theorem Sort_calls (k:Nat) (a0 a1:Int) (A:Option Addr) (c:Nat) (l:List S57) (Ar:Option Addr) (cr:Nat) (q:List Int) (w:World) (hC:Kd.C k57 w A l.length l) (hc:l.length≤c) (hR:Kd.C (Kd.int .i64) w Ar q.length q) (hr:q.length≤cr)
  (ms:List (List Int)) (so po:List S57) (e1 e2 e3 s0 s1 p0 p1:Int)
  (f5:phasorref08_Copy.f k a0 a1 l=some (a0,a1,l))
  (f20:layers_Moments.f k a0 a1 l=some (ms,e1)) (f21:phasorref19_Moments.f k a0 a1 l=some (ms,e1)) (t1:∀ r ∈ ms,∃ z,phasorlaw19_told.f k r 0 r 0=some (true,z))
  (f22:layers_Sorted.f k a0 a1 l=some (s0,s1,so,e2)) (f23:phasorref19_Sorted.f k a0 a1 l=some (s0,s1,so,e2))
  (f24:layers_Prune.f k a0 a1 l q=some (p0,p1,po,e3)) (f25:phasorref19_Prune.f k a0 a1 l q=some (p0,p1,po,e3))
  (f18:phasorref08_Same.f k a0 a1 l a0 a1 l=some true) (f18s:phasorref08_Same.f k s0 s1 so s0 s1 so=some true) (f18p:phasorref08_Same.f k p0 p1 po p0 p1 po=some true)
  (lim:so.length≤100000∧po.length≤100000) (lim2:∀ o:S57,(o ∈ so∨o ∈ po)→o.f2.length < 17592186044416) :
  Calls Try.prog 4 #[.agg #[.int .i64 a0,.int .i64 a1,.slice A l.length c],.slice Ar q.length cr] w fun e w'=>e=.returned (.bool true)∧Below w.heap.size w w':=by
 have hu24:=Try.underlying24
 have hu57:=Try.underlying57
 have HB:=Aside0.mk (Below.refl w.heap.size w)
 have HC:=Aside0.mk hC;have HLc:=Aside0.mk hc;have HR:=Aside0.mk hR;have HRc:=Aside0.mk hr
 have F5:=Aside0.mk f5;have F20:=Aside0.mk f20;have F21:=Aside0.mk f21;have T1:=Aside0.mk t1;have F22:=Aside0.mk f22;have F23:=Aside0.mk f23;have F24:=Aside0.mk f24;have F25:=Aside0.mk f25;have F18:=Aside0.mk f18;have F18s:=Aside0.mk f18s;have F18p:=Aside0.mk f18p
 have LIM:=Aside0.mk lim;have LIM2:=Aside0.mk lim2
 clear lim lim2 hC hc hR hr f5 f20 f21 t1 f22 f23 f24 f25 f18 f18s f18p
 go_enter Try.func4,Try.ntmps4
 go_wp2_with (first | ((with_reducible refine gate_dst (N:=2) rfl ?_);refine box_event ?hg (N:=2) ?hd (cs:=#[.int .i64 a0,.int .i64 a1,.slice A l.length c]) (t:=24) ?hr ?_;(case hd=>rfl);(case hg=>rfl);(case hr=>first | (go_simp;done) | (go_simp;rfl));intro gc hg w1 hbox hb;have BC:=Aside0.mk hbox;have HC_:=Aside0.mk (Kd.C_below HC.out hb);clear HC;have HC:=HC_;clear HC_;have HR_:=Aside0.mk (Kd.C_below HR.out hb);clear HR;have HR:=HR_;clear HR_;have HB_:=Aside0.mk (below_step HB.out hb);clear HB;have HB:=HB_;clear HB_ hbox hg hb;have zc0:=(blk_cell BC.out 0).trans (rfl:_=some ((.int .i64 a0):Value));have zc1:=(blk_cell BC.out 1).trans (rfl:_=some ((.int .i64 a1):Value));have zc2:=(blk_cell BC.out 2).trans (rfl:_=some ((.slice A l.length c):Value))) | (go_at_call 5;refine (phasorref08_Copy.calls k a0 a1 A c l a0 a1 l _ HC.out HLc.out F5.out).mono ?_;rintro e w2 ⟨v,rfl,ho,hb⟩;obtain ⟨Ax,cx,rfl,hle,hC⟩:=Kd.S_reads ho;clear zc0 zc1 zc2;have BC_:=Aside0.mk (blk_below BC.out hb);clear BC;have BC:=BC_;clear BC_;have HC_:=Aside0.mk (Kd.C_below HC.out hb);clear HC;have HC:=HC_;clear HC_;have HR_:=Aside0.mk (Kd.C_below HR.out hb);clear HR;have HR:=HR_;clear HR_;have HB_:=Aside0.mk (below_step HB.out hb);clear HB;have HB:=HB_;clear HB_;have HX:=Aside0.mk hC;have HXc:=Aside0.mk hle;clear hC hle ho hb) | (go_at_call 20;generalize hw3:w2.alloc (.cells #[.int .i64 a0,.int .i64 a1,.slice Ax l.length cx] 24)=w3;have hbX:Below w2.heap.size w2 w3:=hw3 ▸ below_alloc (Below.refl _ _) _;have BX:=Aside0.mk (show w3.heap[w2.heap.size]?=some (.cells #[.int .i64 a0,.int .i64 a1,.slice Ax l.length cx] 24 (0,0)) from hw3 ▸ blk_new w2 _);have BC_:=Aside0.mk (blk_below BC.out hbX);clear BC;have BC:=BC_;clear BC_;have HC_:=Aside0.mk (Kd.C_below HC.out hbX);clear HC;have HC:=HC_;clear HC_;have HR_:=Aside0.mk (Kd.C_below HR.out hbX);clear HR;have HR:=HR_;clear HR_;have HB_:=Aside0.mk (below_step HB.out hbX);clear HB;have HB:=HB_;clear HB_;have HX_:=Aside0.mk (Kd.C_below HX.out hbX);clear HX;have HX:=HX_;clear HX_ hbX hw3;refine (layers_Moments.calls k a0 a1 Ax cx l ms e1 _ HX.out HXc.out F20.out).mono ?_;rintro e w4 ⟨vm,rfl,ho,hb⟩;obtain ⟨Am,cm,rfl⟩:=Kd.S_slice ho;obtain ⟨fm,rows,hms⟩:=MS.of_S ho;have HMS:=Aside0.mk hms;have HB3:=Aside0.mk hb;clear ho hb hms;have zc0:=(blk_cell (blk_below BC.out HB3.out) 0).trans (rfl:_=some ((.int .i64 a0):Value));have zc1:=(blk_cell (blk_below BC.out HB3.out) 1).trans (rfl:_=some ((.int .i64 a1):Value));have zc2:=(blk_cell (blk_below BC.out HB3.out) 2).trans (rfl:_=some ((.slice A l.length c):Value));have xc0:=(blk_cell (blk_below BX.out HB3.out) 0).trans (rfl:_=some ((.int .i64 a0):Value));have xc1:=(blk_cell (blk_below BX.out HB3.out) 1).trans (rfl:_=some ((.int .i64 a1):Value));have xc2:=(blk_cell (blk_below BX.out HB3.out) 2).trans (rfl:_=some ((.slice Ax l.length cx):Value))) | (go_at_call 21;refine (phasorref19_Moments.calls k a0 a1 A c l ms e1 _ (Kd.C_below HC.out HB3.out) HLc.out F21.out).mono ?_;rintro e w5 ⟨vn,rfl,ho,hb⟩;obtain ⟨An,cn,rfl⟩:=Kd.S_slice ho;have HNS:=Aside0.mk ho;have HMS_:=Aside0.mk (HMS.out.below hb);clear HMS;have HMS:=HMS_;clear HMS_;clear zc0 zc1 zc2 xc0 xc1 xc2;have HB3_:=Aside0.mk (below_step HB3.out hb);clear HB3;have HB3:=HB3_;clear HB3_;clear ho hb;have zc0:=(blk_cell (blk_below BC.out HB3.out) 0).trans (rfl:_=some ((.int .i64 a0):Value));have zc1:=(blk_cell (blk_below BC.out HB3.out) 1).trans (rfl:_=some ((.int .i64 a1):Value));have zc2:=(blk_cell (blk_below BC.out HB3.out) 2).trans (rfl:_=some ((.slice A l.length c):Value));have xc0:=(blk_cell (blk_below BX.out HB3.out) 0).trans (rfl:_=some ((.int .i64 a0):Value));have xc1:=(blk_cell (blk_below BX.out HB3.out) 1).trans (rfl:_=some ((.int .i64 a1):Value));have xc2:=(blk_cell (blk_below BX.out HB3.out) 2).trans (rfl:_=some ((.slice Ax l.length cx):Value))))
 have L0:=Aside0.mk (Nat.zero_add ms.length)
 go_loopg [10] ms.length (fun kq v10 w'=>∃ i:Nat,v10=.int .i64 (i:Int)∧Aside0 (i + kq=ms.length)∧Aside0 (MS w3.heap.size w4.heap.size Am cm ms fm rows i w')∧Aside0 (Kd.S (Kd.slice 3 (Kd.int .i64)) 25 w' w4.heap.size (fun _=>True) (.slice An ms.length cn) ms)∧Aside0 (Below w3.heap.size w3 w'))
 case atStart=>exact ⟨0,rfl,L0,HMS,HNS,HB3⟩
 case round =>
  clear HMS HNS HB3 L0
  (try clear zc0 zc1 zc2);(try clear xc0 xc1 xc2)
  obtain ⟨i,rfl,HX1,HMS,HNS,HB3⟩:=hrel
  by_cases c1:i < ms.length
  ·have t1:decide ((i:Int) < (ms.length:Int))=true:=decide_eq_true (by omega)
   have t1':decide (i < ms.length)=true:=decide_eq_true c1
   obtain ⟨g1,eg⟩:∃ g1,gk=g1 + 1:=⟨gk - 1,by have:=HX1.out;omega⟩
   subst eg
   obtain ⟨gm,u,hA,hcell,hRm⟩:=HMS.out.at_ c1
   subst hA
   obtain ⟨ad,A2,c2,hAn,hcell2,hle2,hread⟩:=rows_at HNS.out c1
   subst hAn
   obtain ⟨z,hz⟩:=T1.out (ms.getD i []) (by rw [List.getD_eq_getElem?_getD,List.getElem?_eq_getElem c1];exact List.getElem_mem _)
   generalize hrow:ms.getD i []=row at *
   clear hrow
   have HRM:=Aside0.mk hRm
   have HRD:=Aside0.mk hread
   have HZ:=Aside0.mk hz
   have HL2:=Aside0.mk hle2
   have C1:=Aside0.mk c1
   have hw:=h_w1 (x:=(i:Int)) (n:=ms.length) (by omega) (by omega) (by have:=HNS.out;have:=(Kd.S_reads' this).2.2.2.1;omega)
   have qq1:(i < ms.length)=True:=eq_true c1
   have qq2:((i:Int) < (ms.length:Int))=True:=eq_true (by omega)
   have hcell0:wr.cell? ((⟨gm,0,none⟩:Addr).add i)=some u:=by rw [add_plain];exact hcell
   clear hRm hread hz hle2 c1
   go_wp2
   go_still_tail 8,(by kernel_rfl)
   change wpList _ _ _ _ _ wr.drew
   go_wp2_with (first | (go_at_call 8;refine (phasorlaw19_told.calls k (fun k_=>(k_ < w4.heap.size∧some k_≠(Value.slice (some ⟨gm,0,none⟩) ms.length cm).ownBlock)∧fm k_=i) u row 0 A2 c2 row 0 true z w3 _ ?hB ?ho ?hr HL2.out HZ.out).mono ?_;(case hB=>exact below_drew HB3.out);(case ho=>exact Kd.R_drew HRM.out);(case hr=>exact fun W_ hk=>HRD.out _ W_ ⟨hk.1,hk.2⟩ (fun k_ hk_=>hk_.1.1));rintro e w9 ⟨rfl,_,hb,hk⟩;have HMS9:=Aside0.mk ((HMS.out.below (below_drew (Below.refl _ _))).kept hk);have HNS9:=Aside0.mk (S_keptN (Kd.S_drew HNS.out) hk (fun k_ hk_=>hk_.1.1));have HB9:=Aside0.mk hb;clear hb hk))
   go_roundg g1
   case measure=>omega
   case rel=>exact ⟨i + 1,by first | go_num | (rw [hw];go_num),⟨by have:=HX1.out;omega⟩,HMS9,HNS9,HB9⟩
  ·have t1:decide ((i:Int) < (ms.length:Int))=false:=decide_eq_false (by omega)
   have t1':decide (i < ms.length)=false:=decide_eq_false c1
   obtain ⟨w6,ew6⟩:∃ w6,w6=wr:=⟨_,rfl⟩
   subst ew6
   clear c1 HMS HNS HX1
   have Z36:=Aside0.mk HB3.out.size
   have zc0:=(blk_cell (blk_below BC.out HB3.out) 0).trans (rfl:_=some ((.int .i64 a0):Value))
   have zc1:=(blk_cell (blk_below BC.out HB3.out) 1).trans (rfl:_=some ((.int .i64 a1):Value))
   have zc2:=(blk_cell (blk_below BC.out HB3.out) 2).trans (rfl:_=some ((.slice A l.length c):Value))
   have xc0:=(blk_cell (blk_below BX.out HB3.out) 0).trans (rfl:_=some ((.int .i64 a0):Value))
   have xc1:=(blk_cell (blk_below BX.out HB3.out) 1).trans (rfl:_=some ((.int .i64 a1):Value))
   have xc2:=(blk_cell (blk_below BX.out HB3.out) 2).trans (rfl:_=some ((.slice Ax l.length cx):Value))
   go_wp2_with (first | (go_at_call 22;refine (layers_Sorted.calls k a0 a1 Ax cx l s0 s1 so e2 _ (Kd.C_below HX.out HB3.out) HXc.out F22.out).mono ?_;rintro e w7 ⟨vs,rfl,ho,hb⟩;obtain ⟨As,cs,rfl⟩:=Kd.N_slice ho;clear zc0 zc1 zc2 xc0 xc1 xc2;have HSN:=Aside0.mk (Kd.N_mono (Kd.N_bound ho) (fun k_ hk_=>(⟨hk_.1,hk_.2⟩:w6.heap.size≤k_∧k_ < w7.heap.size)));have Zw7:=Aside0.mk hb.size;have HB3_:=Aside0.mk (below_step HB3.out hb);clear HB3;have HB3:=HB3_;clear HB3_;clear ho hb;have zc0:=fun o=>(blk_cell (blk_alloc (blk_below BC.out HB3.out) o) 0).trans (rfl:_=some ((.int .i64 a0):Value));have zc1:=fun o=>(blk_cell (blk_alloc (blk_below BC.out HB3.out) o) 1).trans (rfl:_=some ((.int .i64 a1):Value));have zc2:=fun o=>(blk_cell (blk_alloc (blk_below BC.out HB3.out) o) 2).trans (rfl:_=some ((.slice A l.length c):Value));have xc0:=fun o=>(blk_cell (blk_alloc (blk_below BX.out HB3.out) o) 0).trans (rfl:_=some ((.int .i64 a0):Value));have xc1:=fun o=>(blk_cell (blk_alloc (blk_below BX.out HB3.out) o) 1).trans (rfl:_=some ((.int .i64 a1):Value));have xc2:=fun o=>(blk_cell (blk_alloc (blk_below BX.out HB3.out) o) 2).trans (rfl:_=some ((.slice Ax l.length cx):Value))) | (go_at_call 23;clear zc0 zc1 zc2 xc0 xc1 xc2;generalize hwA:w7.alloc (.cells #[.int .i64 s0,.int .i64 s1,.slice As so.length cs] 24)=w8;have hbX:Below w7.heap.size w7 w8:=hwA ▸ below_alloc (Below.refl _ _) _;have BS:=Aside0.mk (show w8.heap[w7.heap.size]?=some (.cells #[.int .i64 s0,.int .i64 s1,.slice As so.length cs] 24 (0,0)) from hwA ▸ blk_new w7 _);have Zw8:=Aside0.mk (blk_lt BS.out);have HB3_:=Aside0.mk (below_step HB3.out hbX);clear HB3;have HB3:=HB3_;clear HB3_;have HSN_:=Aside0.mk (Kd.N_below HSN.out hbX);clear HSN;have HSN:=HSN_;clear HSN_;clear hwA hbX;refine (phasorref19_Sorted.calls k a0 a1 A c l s0 s1 so e2 _ (Kd.C_below HC.out HB3.out) HLc.out F23.out).mono ?_;rintro e w9 ⟨vt,rfl,ho,hb⟩;obtain ⟨At,ct,rfl,hle,hC⟩:=Kd.N_reads ho;have Zw9:=Aside0.mk hb.size;have HB3_:=Aside0.mk (below_step HB3.out hb);clear HB3;have HB3:=HB3_;clear HB3_;have HSN_:=Aside0.mk (Kd.N_below HSN.out hb);clear HSN;have HSN:=HSN_;clear HSN_;have BS_:=Aside0.mk (blk_below BS.out hb);clear BS;have BS:=BS_;clear BS_;have HT:=Aside0.mk hC;have HTc:=Aside0.mk hle;clear ho hb hC hle;have zc0:=fun o=>(blk_cell (blk_alloc (blk_below BC.out HB3.out) o) 0).trans (rfl:_=some ((.int .i64 a0):Value));have zc1:=fun o=>(blk_cell (blk_alloc (blk_below BC.out HB3.out) o) 1).trans (rfl:_=some ((.int .i64 a1):Value));have zc2:=fun o=>(blk_cell (blk_alloc (blk_below BC.out HB3.out) o) 2).trans (rfl:_=some ((.slice A l.length c):Value));have xc0:=fun o=>(blk_cell (blk_alloc (blk_below BX.out HB3.out) o) 0).trans (rfl:_=some ((.int .i64 a0):Value));have xc1:=fun o=>(blk_cell (blk_alloc (blk_below BX.out HB3.out) o) 1).trans (rfl:_=some ((.int .i64 a1):Value));have xc2:=fun o=>(blk_cell (blk_alloc (blk_below BX.out HB3.out) o) 2).trans (rfl:_=some ((.slice Ax l.length cx):Value));have sc0:=fun o=>(blk_cell (blk_alloc (BS.out) o) 0).trans (rfl:_=some ((.int .i64 s0):Value));have sc1:=fun o=>(blk_cell (blk_alloc (BS.out) o) 1).trans (rfl:_=some ((.int .i64 s1):Value));have sc2:=fun o=>(blk_cell (blk_alloc (BS.out) o) 2).trans (rfl:_=some ((.slice As so.length cs):Value))) | (go_at_call 24;clear zc0 zc1 zc2 xc0 xc1 xc2 sc0 sc1 sc2;generalize hwA:w9.alloc (.cells #[.int .i64 s0,.int .i64 s1,.slice At so.length ct] 24)=w10;have hbX:Below w9.heap.size w9 w10:=hwA ▸ below_alloc (Below.refl _ _) _;have BT:=Aside0.mk (show w10.heap[w9.heap.size]?=some (.cells #[.int .i64 s0,.int .i64 s1,.slice At so.length ct] 24 (0,0)) from hwA ▸ blk_new w9 _);have Zw10:=Aside0.mk (blk_lt BT.out);have HB3_:=Aside0.mk (below_step HB3.out hbX);clear HB3;have HB3:=HB3_;clear HB3_;have HSN_:=Aside0.mk (Kd.N_below HSN.out hbX);clear HSN;have HSN:=HSN_;clear HSN_;have BS_:=Aside0.mk (blk_below BS.out hbX);clear BS;have BS:=BS_;clear BS_;have HT_:=Aside0.mk (Kd.C_below HT.out hbX);clear HT;have HT:=HT_;clear HT_;clear hwA hbX;refine (layers_Prune.calls k a0 a1 Ax cx l Ar cr q p0 p1 po e3 _ (Kd.C_below HX.out HB3.out) HXc.out (Kd.C_below HR.out HB3.out) HRc.out F24.out).mono ?_;rintro e w11 ⟨vp,rfl,ho,hb⟩;obtain ⟨Ap,cp,rfl⟩:=Kd.N_slice ho;have HPN:=Aside0.mk (Kd.N_mono (Kd.N_bound ho) (fun k_ hk_=>(⟨hk_.1,hk_.2⟩:w10.heap.size≤k_∧k_ < w11.heap.size)));have Zw11:=Aside0.mk hb.size;have HB3_:=Aside0.mk (below_step HB3.out hb);clear HB3;have HB3:=HB3_;clear HB3_;have HSN_:=Aside0.mk (Kd.N_below HSN.out hb);clear HSN;have HSN:=HSN_;clear HSN_;have BS_:=Aside0.mk (blk_below BS.out hb);clear BS;have BS:=BS_;clear BS_;have HT_:=Aside0.mk (Kd.C_below HT.out hb);clear HT;have HT:=HT_;clear HT_;have BT_:=Aside0.mk (blk_below BT.out hb);clear BT;have BT:=BT_;clear BT_;clear ho hb;have zc0:=fun o=>(blk_cell (blk_alloc (blk_below BC.out HB3.out) o) 0).trans (rfl:_=some ((.int .i64 a0):Value));have zc1:=fun o=>(blk_cell (blk_alloc (blk_below BC.out HB3.out) o) 1).trans (rfl:_=some ((.int .i64 a1):Value));have zc2:=fun o=>(blk_cell (blk_alloc (blk_below BC.out HB3.out) o) 2).trans (rfl:_=some ((.slice A l.length c):Value));have xc0:=fun o=>(blk_cell (blk_alloc (blk_below BX.out HB3.out) o) 0).trans (rfl:_=some ((.int .i64 a0):Value));have xc1:=fun o=>(blk_cell (blk_alloc (blk_below BX.out HB3.out) o) 1).trans (rfl:_=some ((.int .i64 a1):Value));have xc2:=fun o=>(blk_cell (blk_alloc (blk_below BX.out HB3.out) o) 2).trans (rfl:_=some ((.slice Ax l.length cx):Value));have sc0:=fun o=>(blk_cell (blk_alloc (BS.out) o) 0).trans (rfl:_=some ((.int .i64 s0):Value));have sc1:=fun o=>(blk_cell (blk_alloc (BS.out) o) 1).trans (rfl:_=some ((.int .i64 s1):Value));have sc2:=fun o=>(blk_cell (blk_alloc (BS.out) o) 2).trans (rfl:_=some ((.slice As so.length cs):Value));have tc0:=fun o=>(blk_cell (blk_alloc (BT.out) o) 0).trans (rfl:_=some ((.int .i64 s0):Value));have tc1:=fun o=>(blk_cell (blk_alloc (BT.out) o) 1).trans (rfl:_=some ((.int .i64 s1):Value));have tc2:=fun o=>(blk_cell (blk_alloc (BT.out) o) 2).trans (rfl:_=some ((.slice At so.length ct):Value))) | (go_at_call 25;clear zc0 zc1 zc2 xc0 xc1 xc2 sc0 sc1 sc2 tc0 tc1 tc2;generalize hwA:w11.alloc (.cells #[.int .i64 p0,.int .i64 p1,.slice Ap po.length cp] 24)=w12;have hbX:Below w11.heap.size w11 w12:=hwA ▸ below_alloc (Below.refl _ _) _;have BP:=Aside0.mk (show w12.heap[w11.heap.size]?=some (.cells #[.int .i64 p0,.int .i64 p1,.slice Ap po.length cp] 24 (0,0)) from hwA ▸ blk_new w11 _);have Zw12:=Aside0.mk (blk_lt BP.out);have HB3_:=Aside0.mk (below_step HB3.out hbX);clear HB3;have HB3:=HB3_;clear HB3_;have HSN_:=Aside0.mk (Kd.N_below HSN.out hbX);clear HSN;have HSN:=HSN_;clear HSN_;have BS_:=Aside0.mk (blk_below BS.out hbX);clear BS;have BS:=BS_;clear BS_;have HT_:=Aside0.mk (Kd.C_below HT.out hbX);clear HT;have HT:=HT_;clear HT_;have BT_:=Aside0.mk (blk_below BT.out hbX);clear BT;have BT:=BT_;clear BT_;have HPN_:=Aside0.mk (Kd.N_below HPN.out hbX);clear HPN;have HPN:=HPN_;clear HPN_;clear hwA hbX;refine (phasorref19_Prune.calls k a0 a1 A c l Ar cr q p0 p1 po e3 _ (Kd.C_below HC.out HB3.out) HLc.out (Kd.C_below HR.out HB3.out) HRc.out F25.out).mono ?_;rintro e w13 ⟨vq,rfl,ho,hb⟩;obtain ⟨Aq,cq,rfl,hle,hC⟩:=Kd.N_reads ho;have Zw13:=Aside0.mk hb.size;have HB3_:=Aside0.mk (below_step HB3.out hb);clear HB3;have HB3:=HB3_;clear HB3_;have HSN_:=Aside0.mk (Kd.N_below HSN.out hb);clear HSN;have HSN:=HSN_;clear HSN_;have BS_:=Aside0.mk (blk_below BS.out hb);clear BS;have BS:=BS_;clear BS_;have HT_:=Aside0.mk (Kd.C_below HT.out hb);clear HT;have HT:=HT_;clear HT_;have BT_:=Aside0.mk (blk_below BT.out hb);clear BT;have BT:=BT_;clear BT_;have HPN_:=Aside0.mk (Kd.N_below HPN.out hb);clear HPN;have HPN:=HPN_;clear HPN_;have BP_:=Aside0.mk (blk_below BP.out hb);clear BP;have BP:=BP_;clear BP_;have HQ:=Aside0.mk hC;have HQc:=Aside0.mk hle;clear ho hb hC hle;have zc0:=fun o=>(blk_cell (blk_alloc (blk_below BC.out HB3.out) o) 0).trans (rfl:_=some ((.int .i64 a0):Value));have zc1:=fun o=>(blk_cell (blk_alloc (blk_below BC.out HB3.out) o) 1).trans (rfl:_=some ((.int .i64 a1):Value));have zc2:=fun o=>(blk_cell (blk_alloc (blk_below BC.out HB3.out) o) 2).trans (rfl:_=some ((.slice A l.length c):Value));have xc0:=fun o=>(blk_cell (blk_alloc (blk_below BX.out HB3.out) o) 0).trans (rfl:_=some ((.int .i64 a0):Value));have xc1:=fun o=>(blk_cell (blk_alloc (blk_below BX.out HB3.out) o) 1).trans (rfl:_=some ((.int .i64 a1):Value));have xc2:=fun o=>(blk_cell (blk_alloc (blk_below BX.out HB3.out) o) 2).trans (rfl:_=some ((.slice Ax l.length cx):Value));have sc0:=fun o=>(blk_cell (blk_alloc (BS.out) o) 0).trans (rfl:_=some ((.int .i64 s0):Value));have sc1:=fun o=>(blk_cell (blk_alloc (BS.out) o) 1).trans (rfl:_=some ((.int .i64 s1):Value));have sc2:=fun o=>(blk_cell (blk_alloc (BS.out) o) 2).trans (rfl:_=some ((.slice As so.length cs):Value));have tc0:=fun o=>(blk_cell (blk_alloc (BT.out) o) 0).trans (rfl:_=some ((.int .i64 s0):Value));have tc1:=fun o=>(blk_cell (blk_alloc (BT.out) o) 1).trans (rfl:_=some ((.int .i64 s1):Value));have tc2:=fun o=>(blk_cell (blk_alloc (BT.out) o) 2).trans (rfl:_=some ((.slice At so.length ct):Value));have pc0:=fun o=>(blk_cell (blk_alloc (BP.out) o) 0).trans (rfl:_=some ((.int .i64 p0):Value));have pc1:=fun o=>(blk_cell (blk_alloc (BP.out) o) 1).trans (rfl:_=some ((.int .i64 p1):Value));have pc2:=fun o=>(blk_cell (blk_alloc (BP.out) o) 2).trans (rfl:_=some ((.slice Ap po.length cp):Value))) | (go_at_call 18;clear zc0 zc1 zc2 xc0 xc1 xc2 sc0 sc1 sc2 tc0 tc1 tc2 pc0 pc1 pc2;generalize hwA:w13.alloc (.cells #[.int .i64 p0,.int .i64 p1,.slice Aq po.length cq] 24)=w14;have hbX:Below w13.heap.size w13 w14:=hwA ▸ below_alloc (Below.refl _ _) _;have BQ:=Aside0.mk (show w14.heap[w13.heap.size]?=some (.cells #[.int .i64 p0,.int .i64 p1,.slice Aq po.length cq] 24 (0,0)) from hwA ▸ blk_new w13 _);have Zw14:=Aside0.mk (blk_lt BQ.out);have HB3_:=Aside0.mk (below_step HB3.out hbX);clear HB3;have HB3:=HB3_;clear HB3_;have HSN_:=Aside0.mk (Kd.N_below HSN.out hbX);clear HSN;have HSN:=HSN_;clear HSN_;have BS_:=Aside0.mk (blk_below BS.out hbX);clear BS;have BS:=BS_;clear BS_;have HT_:=Aside0.mk (Kd.C_below HT.out hbX);clear HT;have HT:=HT_;clear HT_;have BT_:=Aside0.mk (blk_below BT.out hbX);clear BT;have BT:=BT_;clear BT_;have HPN_:=Aside0.mk (Kd.N_below HPN.out hbX);clear HPN;have HPN:=HPN_;clear HPN_;have BP_:=Aside0.mk (blk_below BP.out hbX);clear BP;have BP:=BP_;clear BP_;have HQ_:=Aside0.mk (Kd.C_below HQ.out hbX);clear HQ;have HQ:=HQ_;clear HQ_;clear hwA hbX;(with_reducible refine (phasorref08_Same.calls k s0 s1 As cs so s0 s1 At ct so true _ (C57u (Kd.N_reads' HSN.out).2.2) (Kd.N_reads' HSN.out).2.1 HT.out HTc.out F18s.out).mono ?_);rintro e w15 ⟨rfl,hb⟩;have HB3_:=Aside0.mk (below_step HB3.out hb);clear HB3;have HB3:=HB3_;clear HB3_;have HSN_:=Aside0.mk (Kd.N_below HSN.out hb);clear HSN;have HSN:=HSN_;clear HSN_;have BS_:=Aside0.mk (blk_below BS.out hb);clear BS;have BS:=BS_;clear BS_;have HT_:=Aside0.mk (Kd.C_below HT.out hb);clear HT;have HT:=HT_;clear HT_;have BT_:=Aside0.mk (blk_below BT.out hb);clear BT;have BT:=BT_;clear BT_;have HPN_:=Aside0.mk (Kd.N_below HPN.out hb);clear HPN;have HPN:=HPN_;clear HPN_;have BP_:=Aside0.mk (blk_below BP.out hb);clear BP;have BP:=BP_;clear BP_;have HQ_:=Aside0.mk (Kd.C_below HQ.out hb);clear HQ;have HQ:=HQ_;clear HQ_;have BQ_:=Aside0.mk (blk_below BQ.out hb);clear BQ;have BQ:=BQ_;clear BQ_;clear hb;have zc0:=(blk_cell (blk_below BC.out HB3.out) 0).trans (rfl:_=some ((.int .i64 a0):Value));have zc1:=(blk_cell (blk_below BC.out HB3.out) 1).trans (rfl:_=some ((.int .i64 a1):Value));have zc2:=(blk_cell (blk_below BC.out HB3.out) 2).trans (rfl:_=some ((.slice A l.length c):Value));have xc0:=(blk_cell (blk_below BX.out HB3.out) 0).trans (rfl:_=some ((.int .i64 a0):Value));have xc1:=(blk_cell (blk_below BX.out HB3.out) 1).trans (rfl:_=some ((.int .i64 a1):Value));have xc2:=(blk_cell (blk_below BX.out HB3.out) 2).trans (rfl:_=some ((.slice Ax l.length cx):Value));have sc0:=(blk_cell (BS.out) 0).trans (rfl:_=some ((.int .i64 s0):Value));have sc1:=(blk_cell (BS.out) 1).trans (rfl:_=some ((.int .i64 s1):Value));have sc2:=(blk_cell (BS.out) 2).trans (rfl:_=some ((.slice As so.length cs):Value));have tc0:=(blk_cell (BT.out) 0).trans (rfl:_=some ((.int .i64 s0):Value));have tc1:=(blk_cell (BT.out) 1).trans (rfl:_=some ((.int .i64 s1):Value));have tc2:=(blk_cell (BT.out) 2).trans (rfl:_=some ((.slice At so.length ct):Value));have pc0:=(blk_cell (BP.out) 0).trans (rfl:_=some ((.int .i64 p0):Value));have pc1:=(blk_cell (BP.out) 1).trans (rfl:_=some ((.int .i64 p1):Value));have pc2:=(blk_cell (BP.out) 2).trans (rfl:_=some ((.slice Ap po.length cp):Value));have qc0:=(blk_cell (BQ.out) 0).trans (rfl:_=some ((.int .i64 p0):Value));have qc1:=(blk_cell (BQ.out) 1).trans (rfl:_=some ((.int .i64 p1):Value));have qc2:=(blk_cell (BQ.out) 2).trans (rfl:_=some ((.slice Aq po.length cq):Value))) | (go_at_call 18;clear zc0 zc1 zc2 xc0 xc1 xc2 sc0 sc1 sc2 tc0 tc1 tc2 pc0 pc1 pc2 qc0 qc1 qc2;(with_reducible refine (phasorref08_Same.calls k p0 p1 Ap cp po p0 p1 Aq cq po true _ (C57u (Kd.N_reads' HPN.out).2.2) (Kd.N_reads' HPN.out).2.1 HQ.out HQc.out F18p.out).mono ?_);rintro e w16 ⟨rfl,hb⟩;have HB3_:=Aside0.mk (below_step HB3.out hb);clear HB3;have HB3:=HB3_;clear HB3_;have HSN_:=Aside0.mk (Kd.N_below HSN.out hb);clear HSN;have HSN:=HSN_;clear HSN_;have BS_:=Aside0.mk (blk_below BS.out hb);clear BS;have BS:=BS_;clear BS_;have HPN_:=Aside0.mk (Kd.N_below HPN.out hb);clear HPN;have HPN:=HPN_;clear HPN_;have BP_:=Aside0.mk (blk_below BP.out hb);clear BP;have BP:=BP_;clear BP_;clear hb))
   have ZZ:=Aside0.mk (show w3.heap.size≤w6.heap.size∧w6.heap.size≤w7.heap.size∧w7.heap.size < w8.heap.size∧w8.heap.size≤w9.heap.size∧w9.heap.size < w10.heap.size∧w10.heap.size≤w11.heap.size from ⟨Z36.out,Zw7.out,Zw8.out,Zw9.out,Zw10.out,Zw11.out⟩)
   obtain ⟨rows2,hw2⟩:=WR.of_N HSN.out
   have HW:=Aside0.mk hw2
   have L0:=Aside0.mk (Nat.zero_add so.length)
   clear hw2 HSN
   go_loopg [20] so.length (fun kq v20 w'=>∃ i:Nat,v20=.int .i64 (i:Int)∧Aside0 (i + kq=so.length)∧Aside0 (WR w6.heap.size w7.heap.size As cs so rows2 w')∧Aside0 (w'.heap[w7.heap.size]?=some (.cells #[.int .i64 s0,.int .i64 s1,.slice As so.length cs] 24 (0,0)))∧Aside0 (Below w3.heap.size w3 w')∧Aside0 (w'.heap[w11.heap.size]?=some (.cells #[.int .i64 p0,.int .i64 p1,.slice Ap po.length cp] 24 (0,0)))∧Aside0 (Kd.N k57u 57 w' w10.heap.size (fun k_=>w10.heap.size≤k_∧k_ < w11.heap.size) (.slice Ap po.length cp) po))
   case atStart=>exact ⟨0,rfl,L0,HW,BS,HB3,BP,HPN⟩
   case round =>
    clear L0 HW  BS  HB3  BP  HPN
    obtain ⟨i,rfl,HX1,HW,BS,HB3,BP,HPN⟩:=hrel
    have sc2:=(blk_cell BS.out 2).trans (rfl:_=some ((.slice As so.length cs):Value))
    obtain ⟨gk0,egk⟩:∃ g,g=gk:=⟨_,rfl⟩
    subst egk
    by_cases c1:i < so.length
    ·have t1:decide ((i:Int) < (so.length:Int))=true:=decide_eq_true (by omega)
     have t1':decide (i < so.length)=true:=decide_eq_true c1
     obtain ⟨g1,eg⟩:∃ g1,gk0=g1 + 1:=⟨gk0 - 1,by have:=HX1.out;omega⟩
     subst eg
     obtain ⟨gs,A2,c2,hA,hcell,hall⟩:=HW.out.at_ c1
     subst hA
     have hwi:=h_w1 (x:=(i:Int)) (n:=so.length) (by omega) (by omega) (by have:=LIM.out;omega)
     have HWI:=Aside0.mk hwi
     generalize hrow:(so.getD i z57).f2=row at hcell hall
     have ROW:=Aside0.mk hrow
     have C1:=Aside0.mk c1
     have HRL:=Aside0.mk (show row.length < 17592186044416 from hrow ▸ LIM2.out _ (Or.inl (by rw [List.getD_eq_getElem?_getD,List.getElem?_eq_getElem c1];exact List.getElem_mem _)))
     have qq1:(i < so.length)=True:=eq_true c1
     have qq2:((i:Int) < (so.length:Int))=True:=eq_true (by omega)
     clear hall hrow hwi c1 hcell
     go_wp2
     go_loopg [21] row.length (fun kq v21 w'=>∃ m:Nat,v21=.int .i64 (m:Int)∧Aside0 (m + kq=row.length)∧Aside0 (WR w6.heap.size w7.heap.size (some ⟨gs,0,none⟩) cs so rows2 w')∧Aside0 (w'.heap[w7.heap.size]?=some (.cells #[.int .i64 s0,.int .i64 s1,.slice (some ⟨gs,0,none⟩) so.length cs] 24 (0,0)))∧Aside0 (Below w3.heap.size w3 w')∧Aside0 (w'.heap[w11.heap.size]?=some (.cells #[.int .i64 p0,.int .i64 p1,.slice Ap po.length cp] 24 (0,0)))∧Aside0 (Kd.N k57u 57 w' w10.heap.size (fun k_=>w10.heap.size≤k_∧k_ < w11.heap.size) (.slice Ap po.length cp) po))
     case atStart=>exact ⟨0,rfl,⟨Nat.zero_add _⟩,HW,BS,HB3,BP,HPN⟩
     case round =>
      clear sc2 HW  BS  HB3  BP  HPN
      obtain ⟨m,rfl,HX2,HW,BS,HB3,BP,HPN⟩:=hrel
      have sc2:=(blk_cell BS.out 2).trans (rfl:_=some ((.slice (some ⟨gs,0,none⟩) so.length cs):Value))
      obtain ⟨gs',A2,c2,hA,hcell,hall⟩:=HW.out.at_ C1.out
      injection hA with hA
      injection hA with hA _ _
      subst hA
      rw [ROW.out] at hcell hall
      by_cases c2:m < row.length
      ·have t2:decide ((m:Int) < (row.length:Int))=true:=decide_eq_true (by omega)
       have t2':decide (m < row.length)=true:=decide_eq_true c2
       obtain ⟨g2,eg⟩:∃ g2,gk=g2 + 1:=⟨gk - 1,by have:=HX2.out;omega⟩
       subst eg
       obtain ⟨gr,o,u,hA2,hg1,hg2,hg3,hu,hf⟩:=hall m c2
       subst hA2
       have HG:=Aside0.mk (And.intro hg1 (And.intro hg2 hg3))
       have hwm:=h_w1 (x:=(m:Int)) (n:=row.length) (by omega) (by omega) (by have:=HRL.out;omega)
       have HWM:=Aside0.mk hwm
       have qq3:(m < row.length)=True:=eq_true c2
       have qq4:((m:Int) < (row.length:Int))=True:=eq_true (by omega)
       have hne1:gr≠w7.heap.size:=by omega
       clear hall hg1 hg2 hg3 c2 hwm
       go_wp2
       go_roundg g2
       case measure=>omega
       case rel=>exact ⟨m + 1,by first | go_num | (rw [HWM.out];go_num),⟨by have:=HX2.out;omega⟩,⟨HW.out.put HG.out.2.2 _⟩,⟨blk_far (p:=⟨gr,o + m,none⟩) BS.out (by show w7.heap.size≠gr;have:=HG.out.2.1;omega) _⟩,⟨below_set HB3.out (by have:=HG.out.1;have:=ZZ.out;omega)⟩,⟨blk_far (p:=⟨gr,o + m,none⟩) BP.out (by show w11.heap.size≠gr;have:=HG.out.2.1;have:=ZZ.out;omega) _⟩,⟨Kd.N_far (p:=⟨gr,o + m,none⟩) HPN.out (fun k_ hk_=>by show k_≠gr;have:=HG.out.2.1;have:=ZZ.out;have:=hk_.1;omega) _⟩⟩
      ·have t2:decide ((m:Int) < (row.length:Int))=false:=decide_eq_false (by omega)
       have t2':decide (m < row.length)=false:=decide_eq_false c2
       clear hall c2
       go_wp2
       go_roundg g1
       case measure=>omega
       case rel=>exact ⟨i + 1,by first | go_num | (rw [HWI.out];go_num),⟨by have:=HX1.out;omega⟩,HW,BS,HB3,BP,HPN⟩
    ·have t1:decide ((i:Int) < (so.length:Int))=false:=decide_eq_false (by omega)
     have t1':decide (i < so.length)=false:=decide_eq_false c1
     clear c1 HX1 HW
     go_wp2
     clear sc2
     obtain ⟨rows2,hw2⟩:=WR.of_N HPN.out
     have HW:=Aside0.mk hw2
     have L0:=Aside0.mk (Nat.zero_add po.length)
     clear hw2 HPN
     go_loopg [22] po.length (fun kq v22 w'=>∃ i:Nat,v22=.int .i64 (i:Int)∧Aside0 (i + kq=po.length)∧Aside0 (WR w10.heap.size w11.heap.size Ap cp po rows2 w')∧Aside0 (w'.heap[w11.heap.size]?=some (.cells #[.int .i64 p0,.int .i64 p1,.slice Ap po.length cp] 24 (0,0)))∧Aside0 (Below w3.heap.size w3 w'))
     case atStart=>exact ⟨0,rfl,L0,HW,BP,HB3⟩
     case round =>
      clear L0 HW  BP  HB3
      obtain ⟨i,rfl,HX1,HW,BP,HB3⟩:=hrel
      have pc2:=(blk_cell BP.out 2).trans (rfl:_=some ((.slice Ap po.length cp):Value))
      obtain ⟨gk0,egk⟩:∃ g,g=gk:=⟨_,rfl⟩
      subst egk
      by_cases c1:i < po.length
      ·have t1:decide ((i:Int) < (po.length:Int))=true:=decide_eq_true (by omega)
       have t1':decide (i < po.length)=true:=decide_eq_true c1
       obtain ⟨g1,eg⟩:∃ g1,gk0=g1 + 1:=⟨gk0 - 1,by have:=HX1.out;omega⟩
       subst eg
       obtain ⟨gs,A2,c2,hA,hcell,hall⟩:=HW.out.at_ c1
       subst hA
       have hwi:=h_w1 (x:=(i:Int)) (n:=po.length) (by omega) (by omega) (by have:=LIM.out;omega)
       have HWI:=Aside0.mk hwi
       generalize hrow:(po.getD i z57).f2=row at hcell hall
       have ROW:=Aside0.mk hrow
       have C1:=Aside0.mk c1
       have HRL:=Aside0.mk (show row.length < 17592186044416 from hrow ▸ LIM2.out _ (Or.inr (by rw [List.getD_eq_getElem?_getD,List.getElem?_eq_getElem c1];exact List.getElem_mem _)))
       have qq1:(i < po.length)=True:=eq_true c1
       have qq2:((i:Int) < (po.length:Int))=True:=eq_true (by omega)
       clear hall hrow hwi c1 hcell
       go_wp2
       go_loopg [23] row.length (fun kq v23 w'=>∃ m:Nat,v23=.int .i64 (m:Int)∧Aside0 (m + kq=row.length)∧Aside0 (WR w10.heap.size w11.heap.size (some ⟨gs,0,none⟩) cp po rows2 w')∧Aside0 (w'.heap[w11.heap.size]?=some (.cells #[.int .i64 p0,.int .i64 p1,.slice (some ⟨gs,0,none⟩) po.length cp] 24 (0,0)))∧Aside0 (Below w3.heap.size w3 w'))
       case atStart=>exact ⟨0,rfl,⟨Nat.zero_add _⟩,HW,BP,HB3⟩
       case round =>
        clear pc2 HW  BP  HB3
        obtain ⟨m,rfl,HX2,HW,BP,HB3⟩:=hrel
        have pc2:=(blk_cell BP.out 2).trans (rfl:_=some ((.slice (some ⟨gs,0,none⟩) po.length cp):Value))
        obtain ⟨gs',A2,c2,hA,hcell,hall⟩:=HW.out.at_ C1.out
        injection hA with hA
        injection hA with hA _ _
        subst hA
        rw [ROW.out] at hcell hall
        by_cases c2:m < row.length
        ·have t2:decide ((m:Int) < (row.length:Int))=true:=decide_eq_true (by omega)
         have t2':decide (m < row.length)=true:=decide_eq_true c2
         obtain ⟨g2,eg⟩:∃ g2,gk=g2 + 1:=⟨gk - 1,by have:=HX2.out;omega⟩
         subst eg
         obtain ⟨gr,o,u,hA2,hg1,hg2,hg3,hu,hf⟩:=hall m c2
         subst hA2
         have HG:=Aside0.mk (And.intro hg1 (And.intro hg2 hg3))
         have hwm:=h_w1 (x:=(m:Int)) (n:=row.length) (by omega) (by omega) (by have:=HRL.out;omega)
         have HWM:=Aside0.mk hwm
         have qq3:(m < row.length)=True:=eq_true c2
         have qq4:((m:Int) < (row.length:Int))=True:=eq_true (by omega)
         have hne1:gr≠w11.heap.size:=by omega
         clear hall hg1 hg2 hg3 c2 hwm
         go_wp2
         go_roundg g2
         case measure=>omega
         case rel=>exact ⟨m + 1,by first | go_num | (rw [HWM.out];go_num),⟨by have:=HX2.out;omega⟩,⟨HW.out.put HG.out.2.2 _⟩,⟨blk_far (p:=⟨gr,o + m,none⟩) BP.out (by show w11.heap.size≠gr;have:=HG.out.2.1;omega) _⟩,⟨below_set HB3.out (by have:=HG.out.1;have:=ZZ.out;omega)⟩⟩
        ·have t2:decide ((m:Int) < (row.length:Int))=false:=decide_eq_false (by omega)
         have t2':decide (m < row.length)=false:=decide_eq_false c2
         clear hall c2
         go_wp2
         go_roundg g1
         case measure=>omega
         case rel=>exact ⟨i + 1,by first | go_num | (rw [HWI.out];go_num),⟨by have:=HX1.out;omega⟩,HW,BP,HB3⟩
      ·have t1:decide ((i:Int) < (po.length:Int))=false:=decide_eq_false (by omega)
       have t1':decide (i < po.length)=false:=decide_eq_false c1
       clear c1 HX1 HW
       have zc0:=(blk_cell (blk_below BC.out HB3.out) 0).trans (rfl:_=some ((.int .i64 a0):Value))
       have zc1:=(blk_cell (blk_below BC.out HB3.out) 1).trans (rfl:_=some ((.int .i64 a1):Value))
       have zc2:=(blk_cell (blk_below BC.out HB3.out) 2).trans (rfl:_=some ((.slice A l.length c):Value))
       have xc0:=(blk_cell (blk_below BX.out HB3.out) 0).trans (rfl:_=some ((.int .i64 a0):Value))
       have xc1:=(blk_cell (blk_below BX.out HB3.out) 1).trans (rfl:_=some ((.int .i64 a1):Value))
       have xc2:=(blk_cell (blk_below BX.out HB3.out) 2).trans (rfl:_=some ((.slice Ax l.length cx):Value))
       go_wp2_with (first | (go_at_call 18;refine (phasorref08_Same.calls k a0 a1 Ax cx l a0 a1 A c l true _ (Kd.C_below HX.out HB3.out) HXc.out (Kd.C_below HC.out HB3.out) HLc.out F18.out).mono ?_;rintro e w18 ⟨rfl,hb⟩;have HB4:=Aside0.mk (below_step HB3.out hb);clear hb) | (go_at_call 19;refine (heads_calls _).mono ?_;rintro e w19 ⟨rfl,hb⟩;have HB5:=Aside0.mk (below_step HB4.out hb);clear hb))
       go_ret
       exact ⟨rfl,below_step HB.out HB5.out⟩
theorem w1n {i n:Nat} (h:i < n) (hn:n≤9223372036854775807):wrap64 ((i:Int) + 1)=((i + 1:Nat):Int):=by unfold wrap64;omega
theorem law_ints_self (l:List Int) (hl:l.length≤9223372036854775807):∀ (k i:Nat),i≤l.length→l.length - i < k→phasorlaw19_ints.l0 k l l (i:Int)=some true
  | 0,i,_,h=>absurd h (by omega)
  | k + 1,i,hi,h=>by
    rw [phasorlaw19_ints.l0]
    by_cases c:i < l.length
    · rw [if_pos (by omega),if_pos (by omega),if_pos (by omega),if_pos rfl,w1n c hl]
      exact law_ints_self l hl k (i + 1) c (by omega)
    · rw [if_neg (by omega)]
theorem ints_self (l:List Int) (hl:l.length≤9223372036854775807) (k:Nat) (hk:l.length < k):phasorlaw19_ints.f k l l=some true:=by
  unfold phasorlaw19_ints.f
  rw [if_pos rfl]
  exact law_ints_self l hl k 0 (by omega) (by omega)
theorem told_go (b:Bool):∀ (k i:Nat) (l:List Int),l.length≤9223372036854775807→i≤l.length→l.length - i < k→∃ z,phasorlaw19_told.l0 k l b (i:Int)=some (b,z)
  | 0,i,l,_,_,h=>absurd h (by omega)
  | k + 1,i,l,hl,hi,h=>by
    rw [phasorlaw19_told.l0]
    by_cases c:i < l.length
    · rw [if_pos (by omega),if_pos (by omega),w1n c hl]
      exact told_go b k (i + 1) _ (by rw [List.length_set];exact hl) (by rw [List.length_set];exact c) (by rw [List.length_set];omega)
    · rw [if_neg (by omega)]
      exact ⟨_,rfl⟩
theorem told_self (l:List Int) (e:Int) (hl:l.length≤9223372036854775807) (k:Nat) (hk:l.length + 1 < k):∃ z,phasorlaw19_told.f k l e l e=some (true,z):=by
  unfold phasorlaw19_told.f
  rw [ints_self l hl k (by omega)]
  obtain ⟨k,rfl⟩:∃ m,k=m + 1:=⟨k - 1,by omega⟩
  simp only [Option.bind_some,if_true,beq_self_eq_true]
  rw [phasorlaw19_told.j0]
  exact told_go true k 0 l hl (by omega) (by omega)
theorem ints8_self (l:List Int) (hl:l.length≤9223372036854775807):∀ (k i:Nat),i≤l.length→l.length - i < k→phasorref08_ints.l0 k l l (i:Int)=some true
  | 0,i,_,h=>absurd h (by omega)
  | k + 1,i,hi,h=>by
    rw [phasorref08_ints.l0]
    by_cases c:i < l.length
    · rw [if_pos (by omega),if_pos (by omega),if_pos (by omega),if_pos rfl,w1n c hl]
      exact ints8_self l hl k (i + 1) c (by omega)
    · rw [if_neg (by omega)]
theorem rd_T57_mem {l:List S57} {i:Nat} (h:i < l.length):rd_T57 l (i:Int) ∈ l:=by
  unfold rd_T57
  rw [Int.toNat_natCast,List.getD_eq_getElem?_getD,List.getElem?_eq_getElem h]
  exact List.getElem_mem h
theorem rd_T57_at {l:List S57} {i:Nat} (h:i < l.length):rd_T57 l (i:Int)=l[i]:=by
  unfold rd_T57
  rw [Int.toNat_natCast,List.getD_eq_getElem?_getD,List.getElem?_eq_getElem h]
  rfl
def Lim (N:Nat) (l:List S57):Prop:=l.length < 2199023255552∧∀ o ∈ l,o.f2.length < 17592186044416∧o.f2.length < N
theorem same_go (a0 a1 b0 b1:Int) (N:Nat) (l:List S57) (hL:Lim N l):∀ (k i:Nat),i≤l.length→l.length - i + N < k→phasorref08_Same.l0 k (i:Int) a0 a1 l b0 b1 l=some true
  | 0,i,_,h=>absurd h (by omega)
  | k + 1,i,hi,h=>by
    rw [phasorref08_Same.l0]
    by_cases c:i < l.length
    · obtain ⟨h1,h2⟩:=hL.2 _ (rd_T57_mem c)
      have h0:=hL.1
      rw [if_pos (by omega),if_pos (by omega),if_pos (by omega)]
      unfold phasorref08_SameOp.f phasorref08_ints.f
      simp only [if_true]
      rw [show (0:Int)=((0:Nat):Int) from rfl,ints8_self _ (by omega) k 0 (by omega) (by omega)]
      simp only [Option.bind_some,if_true]
      rw [w1n c (by omega)]
      exact same_go a0 a1 b0 b1 N l hL k (i + 1) c (by omega)
    · rw [if_neg (by omega)]
theorem same_self (a0 a1:Int) (N:Nat) (l:List S57) (hL:Lim N l) (k:Nat) (hk:l.length + N + 1 < k):phasorref08_Same.f k a0 a1 l a0 a1 l=some true:=by
  unfold phasorref08_Same.f
  obtain ⟨k,rfl⟩:∃ m,k=m + 1:=⟨k - 1,by omega⟩
  rw [if_pos rfl,if_pos rfl,phasorref08_Same.j0]
  simp only [bne_self_eq_false,Bool.false_eq_true,if_false]
  exact same_go a0 a1 a0 a1 N l hL k 0 (by omega) (by omega)
theorem copy_go (a0 a1 b0 b1:Int) (N:Nat) (l:List S57) (hL:Lim N l):∀ (k i:Nat),i≤l.length→l.length - i < k→phasorref08_Copy.l0 k (i:Int) a0 a1 l b0 b1 (l.take i)=some (b0,b1,l)
  | 0,i,_,h=>absurd h (by omega)
  | k + 1,i,hi,h=>by
    rw [phasorref08_Copy.l0]
    by_cases c:i < l.length
    · obtain ⟨h1,h2⟩:=hL.2 _ (rd_T57_mem c)
      have h0:=hL.1
      rw [if_pos (by omega),if_pos (by omega),if_pos (by simpa using h1),if_pos (by rw [List.length_take];omega),w1n c (by omega)]
      rw [rd_T57_at c,List.nil_append]
      rw [show l.take i ++ [(⟨l[i].f0,l[i].f1,l[i].f2,l[i].f3,l[i].f4,l[i].f5⟩:S57)]=l.take (i + 1) from by rw [List.take_add_one,List.getElem?_eq_getElem c];rfl]
      exact copy_go a0 a1 b0 b1 N l hL k (i + 1) c (by omega)
    · rw [if_neg (by omega),List.take_of_length_le (by omega)]
theorem copy_self (a0 a1:Int) (N:Nat) (l:List S57) (hL:Lim N l) (k:Nat) (hk:l.length < k):phasorref08_Copy.f k a0 a1 l=some (a0,a1,l):=by
  unfold phasorref08_Copy.f
  exact copy_go a0 a1 a0 a1 N l hL k 0 (by omega) (by omega)
def Bad (xs:List Int) (n:Int) (i:Nat):Prop:=rd xs i < 0∨n≤rd xs i∨∃ t:Nat,t < i∧rd xs t=rd xs i
def Uq (xs:List Int) (n:Int) (i:Nat):Prop:=∀ j:Nat,i≤j→j < xs.length→¬ Bad xs n j
theorem Uq.step {xs:List Int} {n:Int} {i:Nat} (h:i < xs.length):Uq xs n i ↔ ¬ Bad xs n i∧Uq xs n (i + 1):=by
  constructor
  · intro hu
    exact ⟨hu i (Nat.le_refl _) h,fun j h1 h2=>hu j (by omega) h2⟩
  · rintro ⟨h1,h2⟩ j h3 h4
    by_cases e:j=i
    · subst e;exact h1
    · exact h2 j (by omega) h4
theorem Uq.last {xs:List Int} {n:Int} {i:Nat} (h:¬ i < xs.length):Uq xs n i:=fun j h1 h2=>absurd h2 (by omega)
theorem rd_take {xs:List Int} {i t:Nat} (h:t < i):rd (xs.take i) (t:Int)=rd xs t:=by
  unfold rd
  simp only [Int.toNat_natCast,List.getD_eq_getElem?_getD,List.getElem?_take,if_pos h]
theorem index_go (xs:List Int) (x:Int) (hl:xs.length≤9223372036854775807):∀ (k i:Nat),i≤xs.length→xs.length - i < k→∃ r,slices_Index_int_int.l0 k xs x (xs.length:Int) (i:Int)=some r∧(0≤r ↔ ∃ t:Nat,i≤t∧t < xs.length∧rd xs t=x)
  | 0,i,_,h=>absurd h (by omega)
  | k + 1,i,hi,h=>by
    rw [slices_Index_int_int.l0]
    by_cases c:i < xs.length
    · rw [if_pos (by omega),if_pos (by omega),if_pos (by omega)]
      by_cases e:x=rd xs i
      · rw [if_pos e]
        exact ⟨_,rfl,iff_of_true (by omega) ⟨i,Nat.le_refl _,c,e.symm⟩⟩
      · rw [if_neg e,w1n c hl]
        obtain ⟨r,h1,h2⟩:=index_go xs x hl k (i + 1) c (by omega)
        refine ⟨r,h1,h2.trans ⟨fun ⟨t,h3,h4,h5⟩=>⟨t,by omega,h4,h5⟩,fun ⟨t,h3,h4,h5⟩=>⟨t,?_,h4,h5⟩⟩⟩
        by_cases e2:t=i
        · subst e2;exact absurd h5.symm e
        · omega
    · rw [if_neg (by omega)]
      exact ⟨_,rfl,iff_of_false (by omega) (fun ⟨t,h1,h2,_⟩=>by omega)⟩
theorem contains_take (xs:List Int) (x:Int) (i:Nat) (hi:i≤xs.length) (hl:xs.length≤9223372036854775807) (k:Nat) (hk:xs.length < k):∃ b,slices_Contains_int_int.f k (xs.take i) x=some b∧(b=true ↔ ∃ t:Nat,t < i∧rd xs t=x):=by
  unfold slices_Contains_int_int.f slices_Index_int_int.f
  have hlt:(xs.take i).length=i:=by rw [List.length_take];omega
  obtain ⟨r,h1,h2⟩:=index_go (xs.take i) x (by omega) k 0 (by omega) (by omega)
  rw [show ((0:Nat):Int)=0 from rfl] at h1
  rw [h1]
  refine ⟨_,rfl,?_⟩
  rw [decide_eq_true_iff]
  refine h2.trans ⟨fun ⟨t,_,h4,h5⟩=>⟨t,by omega,by rw [← rd_take (i:=i) (by omega)];exact h5⟩,fun ⟨t,h3,h5⟩=>⟨t,by omega,by omega,by rw [rd_take h3];exact h5⟩⟩
theorem gcheck_go (xs:List Int) (n:Int) (hl:xs.length≤9223372036854775807):∀ (k i:Nat),i≤xs.length→(xs.length - i) + xs.length + 1 < k→∃ r,gate_Check.l0 k xs n xs (xs.length:Int) (i:Int)=some r∧(r=0 ↔ Uq xs n i)
  | 0,i,_,h=>absurd h (by omega)
  | k + 1,i,hi,h=>by
    rw [gate_Check.l0]
    by_cases c:i < xs.length
    · rw [if_pos (by omega),if_pos (by omega),if_pos (by omega)]
      rw [Uq.step c]
      by_cases c1:rd xs i < 0
      · rw [if_pos c1]
        exact ⟨_,rfl,iff_of_false (by decide) (fun h=>h.1 (.inl c1))⟩
      · rw [if_neg c1]
        by_cases c2:rd xs i ≥ n
        · rw [if_pos c2]
          exact ⟨_,rfl,iff_of_false (by decide) (fun h=>h.1 (.inr (.inl c2)))⟩
        · rw [if_neg c2,if_pos (by omega),Int.toNat_natCast]
          obtain ⟨b,h1,h2⟩:=contains_take xs (rd xs i) i hi hl k (by omega)
          rw [h1,Option.bind_some]
          by_cases cb:b=true
          · rw [if_pos cb]
            exact ⟨_,rfl,iff_of_false (by decide) (fun h=>h.1 (.inr (.inr (h2.1 cb))))⟩
          · rw [if_neg cb,w1n c hl]
            obtain ⟨r,h3,h4⟩:=gcheck_go xs n hl k (i + 1) c (by omega)
            refine ⟨r,h3,h4.trans ⟨fun hu=>⟨?_,hu⟩,fun hu=>hu.2⟩⟩
            rintro (h5 | h5 | h5)
            · exact c1 h5
            · exact c2 h5
            · exact cb (h2.2 h5)
    · rw [if_neg (by omega)]
      exact ⟨_,rfl,iff_of_true rfl (Uq.last c)⟩
theorem rcheck_go (xs:List Int) (n:Int) (hl:xs.length≤9223372036854775807):∀ (d i k:Nat),i + d=xs.length→d * (xs.length + 3) < k→∃ r,phasorref06_Check.l0 k xs n (i:Int)=some r∧(r=0 ↔ Uq xs n i)
  | 0,i,k,hi,h=>by
    obtain ⟨k,rfl⟩:∃ m,k=m + 1:=⟨k - 1,by omega⟩
    rw [phasorref06_Check.l0,if_neg (by omega)]
    exact ⟨_,rfl,iff_of_true rfl (Uq.last (by omega))⟩
  | d + 1,i,k,hi,h=>by
    rw [Nat.succ_mul] at h
    obtain ⟨k,rfl⟩:∃ m,k=m + 2:=⟨k - 2,by omega⟩
    have c:i < xs.length:=by omega
    have hin:∀ (e j k:Nat),j + e=i→e + 1 + d * (xs.length + 3) < k→∃ r,phasorref06_Check.l1 k xs n (i:Int) (j:Int)=some r∧(r=0 ↔ (¬ ∃ t:Nat,j≤t∧t < i∧rd xs t=rd xs i)∧Uq xs n (i + 1)):=by
      intro e
      induction e with
      | zero =>
        intro j k hj hk
        obtain ⟨k,rfl⟩:∃ m,k=m + 1:=⟨k - 1,by omega⟩
        rw [phasorref06_Check.l1,if_neg (by omega),w1n c hl]
        obtain ⟨r,h1,h2⟩:=rcheck_go xs n hl d (i + 1) k (by omega) (by omega)
        exact ⟨r,h1,h2.trans ⟨fun hu=>⟨by rintro ⟨t,h3,h4,_⟩;omega,hu⟩,fun hu=>hu.2⟩⟩
      | succ e ih =>
        intro j k hj hk
        obtain ⟨k,rfl⟩:∃ m,k=m + 1:=⟨k - 1,by omega⟩
        rw [phasorref06_Check.l1,if_pos (by omega),if_pos (by omega),if_pos (by omega),if_pos (by omega),if_pos (by omega)]
        by_cases c1:rd xs i=rd xs j
        · rw [if_pos c1]
          exact ⟨_,rfl,iff_of_false (by decide) (fun h=>h.1 ⟨j,Nat.le_refl _,by omega,c1.symm⟩)⟩
        · rw [if_neg c1,w1n (by omega:j < xs.length) hl]
          obtain ⟨r,h1,h2⟩:=ih (j + 1) k (by omega) (by omega)
          refine ⟨r,h1,h2.trans ⟨fun hu=>⟨?_,hu.2⟩,fun hu=>⟨?_,hu.2⟩⟩⟩
          · rintro ⟨t,h3,h4,h5⟩
            by_cases e2:t=j
            · subst e2;exact c1 h5.symm
            · exact hu.1 ⟨t,by omega,h4,h5⟩
          · rintro ⟨t,h3,h4,h5⟩
            exact hu.1 ⟨t,by omega,h4,h5⟩
    rw [phasorref06_Check.l0,if_pos (by omega),if_pos (by omega),Uq.step c]
    by_cases c1:rd xs i < 0
    · rw [if_pos c1,phasorref06_Check.j1,if_pos rfl]
      exact ⟨_,rfl,iff_of_false (by decide) (fun h=>h.1 (.inl c1))⟩
    · rw [if_neg c1,phasorref06_Check.j1]
      by_cases c2:rd xs i ≥ n
      · rw [if_pos (decide_eq_true c2)]
        exact ⟨_,rfl,iff_of_false (by decide) (fun h=>h.1 (.inr (.inl c2)))⟩
      · rw [if_neg (by simpa using c2)]
        obtain ⟨r,h1,h2⟩:=hin i 0 k (by omega) (by omega)
        refine ⟨r,h1,h2.trans ⟨fun hu=>⟨?_,hu.2⟩,fun hu=>⟨?_,hu.2⟩⟩⟩
        · rintro (h5 | h5 | ⟨t,h5,h6⟩)
          · exact c1 h5
          · exact c2 h5
          · exact hu.1 ⟨t,by omega,h5,h6⟩
        · rintro ⟨t,h3,h4,h5⟩
          exact hu.1 (.inr (.inr ⟨t,h4,h5⟩))
theorem unlike_go (xs:List Int) (n:Int) (hl:xs.length≤9223372036854775807):∀ (d i k:Nat),i + d=xs.length→d * (xs.length + 3) < k→∃ r:Bool,phasorref08_unlike.l0 k xs n (i:Int)=some r∧(r=true ↔ Uq xs n i)
  | 0,i,k,hi,h=>by
    obtain ⟨k,rfl⟩:∃ m,k=m + 1:=⟨k - 1,by omega⟩
    rw [phasorref08_unlike.l0,if_neg (by omega)]
    exact ⟨_,rfl,iff_of_true rfl (Uq.last (by omega))⟩
  | d + 1,i,k,hi,h=>by
    rw [Nat.succ_mul] at h
    obtain ⟨k,rfl⟩:∃ m,k=m + 2:=⟨k - 2,by omega⟩
    have c:i < xs.length:=by omega
    have hin:∀ (e j k:Nat),j + e=i→e + 1 + d * (xs.length + 3) < k→∃ r:Bool,phasorref08_unlike.l1 k xs n (i:Int) (j:Int)=some r∧(r=true ↔ (¬ ∃ t:Nat,j≤t∧t < i∧rd xs t=rd xs i)∧Uq xs n (i + 1)):=by
      intro e
      induction e with
      | zero =>
        intro j k hj hk
        obtain ⟨k,rfl⟩:∃ m,k=m + 1:=⟨k - 1,by omega⟩
        rw [phasorref08_unlike.l1,if_neg (by omega),w1n c hl]
        obtain ⟨r,h1,h2⟩:=unlike_go xs n hl d (i + 1) k (by omega) (by omega)
        exact ⟨r,h1,h2.trans ⟨fun hu=>⟨by rintro ⟨t,h3,h4,_⟩;omega,hu⟩,fun hu=>hu.2⟩⟩
      | succ e ih =>
        intro j k hj hk
        obtain ⟨k,rfl⟩:∃ m,k=m + 1:=⟨k - 1,by omega⟩
        rw [phasorref08_unlike.l1,if_pos (by omega),if_pos (by omega),if_pos (by omega),if_pos (by omega),if_pos (by omega)]
        by_cases c1:rd xs j=rd xs i
        · rw [if_pos c1]
          exact ⟨_,rfl,iff_of_false (by decide) (fun h=>h.1 ⟨j,Nat.le_refl _,by omega,c1⟩)⟩
        · rw [if_neg c1,w1n (by omega:j < xs.length) hl]
          obtain ⟨r,h1,h2⟩:=ih (j + 1) k (by omega) (by omega)
          refine ⟨r,h1,h2.trans ⟨fun hu=>⟨?_,hu.2⟩,fun hu=>⟨?_,hu.2⟩⟩⟩
          · rintro ⟨t,h3,h4,h5⟩
            by_cases e2:t=j
            · subst e2;exact c1 h5
            · exact hu.1 ⟨t,by omega,h4,h5⟩
          · rintro ⟨t,h3,h4,h5⟩
            exact hu.1 ⟨t,by omega,h4,h5⟩
    rw [phasorref08_unlike.l0,if_pos (by omega),if_pos (by omega),Uq.step c]
    by_cases c1:rd xs i < 0
    · rw [if_pos c1,phasorref08_unlike.j1,if_pos rfl]
      exact ⟨_,rfl,iff_of_false (by decide) (fun h=>h.1 (.inl c1))⟩
    · rw [if_neg c1,phasorref08_unlike.j1]
      by_cases c2:rd xs i ≥ n
      · rw [if_pos (decide_eq_true c2)]
        exact ⟨_,rfl,iff_of_false (by decide) (fun h=>h.1 (.inr (.inl c2)))⟩
      · rw [if_neg (by simpa using c2)]
        obtain ⟨r,h1,h2⟩:=hin i 0 k (by omega) (by omega)
        refine ⟨r,h1,h2.trans ⟨fun hu=>⟨?_,hu.2⟩,fun hu=>⟨?_,hu.2⟩⟩⟩
        · rintro (h5 | h5 | ⟨t,h5,h6⟩)
          · exact c1 h5
          · exact c2 h5
          · exact hu.1 ⟨t,by omega,h5,h6⟩
        · rintro ⟨t,h3,h4,h5⟩
          exact hu.1 (.inr (.inr ⟨t,h4,h5⟩))
theorem qubits_go (xs:List Int) (n:Int) (hl:xs.length≤9223372036854775807):∀ (d i k:Nat),i + d=xs.length→d * (xs.length + 3) < k→∃ r:Bool,phasorref07_Qubits.l0 k xs n (i:Int)=some r∧(r=true ↔ Uq xs n i)
  | 0,i,k,hi,h=>by
    obtain ⟨k,rfl⟩:∃ m,k=m + 1:=⟨k - 1,by omega⟩
    rw [phasorref07_Qubits.l0,if_neg (by omega)]
    exact ⟨_,rfl,iff_of_true rfl (Uq.last (by omega))⟩
  | d + 1,i,k,hi,h=>by
    rw [Nat.succ_mul] at h
    obtain ⟨k,rfl⟩:∃ m,k=m + 2:=⟨k - 2,by omega⟩
    have c:i < xs.length:=by omega
    have hin:∀ (e j k:Nat),j + e=i→e + 1 + d * (xs.length + 3) < k→∃ r:Bool,phasorref07_Qubits.l1 k xs n (i:Int) (j:Int)=some r∧(r=true ↔ (¬ ∃ t:Nat,j≤t∧t < i∧rd xs t=rd xs i)∧Uq xs n (i + 1)):=by
      intro e
      induction e with
      | zero =>
        intro j k hj hk
        obtain ⟨k,rfl⟩:∃ m,k=m + 1:=⟨k - 1,by omega⟩
        rw [phasorref07_Qubits.l1,if_neg (by omega),w1n c hl]
        obtain ⟨r,h1,h2⟩:=qubits_go xs n hl d (i + 1) k (by omega) (by omega)
        exact ⟨r,h1,h2.trans ⟨fun hu=>⟨by rintro ⟨t,h3,h4,_⟩;omega,hu⟩,fun hu=>hu.2⟩⟩
      | succ e ih =>
        intro j k hj hk
        obtain ⟨k,rfl⟩:∃ m,k=m + 1:=⟨k - 1,by omega⟩
        rw [phasorref07_Qubits.l1,if_pos (by omega),if_pos (by omega),if_pos (by omega),if_pos (by omega),if_pos (by omega)]
        by_cases c1:rd xs j=rd xs i
        · rw [if_pos c1]
          exact ⟨_,rfl,iff_of_false (by decide) (fun h=>h.1 ⟨j,Nat.le_refl _,by omega,c1⟩)⟩
        · rw [if_neg c1,w1n (by omega:j < xs.length) hl]
          obtain ⟨r,h1,h2⟩:=ih (j + 1) k (by omega) (by omega)
          refine ⟨r,h1,h2.trans ⟨fun hu=>⟨?_,hu.2⟩,fun hu=>⟨?_,hu.2⟩⟩⟩
          · rintro ⟨t,h3,h4,h5⟩
            by_cases e2:t=j
            · subst e2;exact c1 h5
            · exact hu.1 ⟨t,by omega,h4,h5⟩
          · rintro ⟨t,h3,h4,h5⟩
            exact hu.1 ⟨t,by omega,h4,h5⟩
    rw [phasorref07_Qubits.l0,if_pos (by omega),if_pos (by omega),Uq.step c]
    by_cases c1:rd xs i < 0
    · rw [if_pos c1,phasorref07_Qubits.j1,if_pos rfl]
      exact ⟨_,rfl,iff_of_false (by decide) (fun h=>h.1 (.inl c1))⟩
    · rw [if_neg c1,phasorref07_Qubits.j1]
      by_cases c2:rd xs i ≥ n
      · rw [if_pos (decide_eq_true c2)]
        exact ⟨_,rfl,iff_of_false (by decide) (fun h=>h.1 (.inr (.inl c2)))⟩
      · rw [if_neg (by simpa using c2)]
        obtain ⟨r,h1,h2⟩:=hin i 0 k (by omega) (by omega)
        refine ⟨r,h1,h2.trans ⟨fun hu=>⟨?_,hu.2⟩,fun hu=>⟨?_,hu.2⟩⟩⟩
        · rintro (h5 | h5 | ⟨t,h5,h6⟩)
          · exact c1 h5
          · exact c2 h5
          · exact hu.1 ⟨t,by omega,h5,h6⟩
        · rintro ⟨t,h3,h4,h5⟩
          exact hu.1 (.inr (.inr ⟨t,h4,h5⟩))
def arity (g:Int):Int:=if g < 1∨20 < g then 0 else if g≤10 then 1 else if g≤17 then 2 else 3
def GateOk (g:Int) (xs:List Int) (n:Int):Prop:=arity g≠0∧(xs.length:Int)=arity g∧Uq xs n 0
theorem gate_Check_spec (g:Int) (xs:List Int) (n:Int) (hl:xs.length≤9223372036854775807) (k:Nat) (hk:2 * xs.length + 1 < k):∃ r,gate_Check.f k g xs n=some r∧(r=0 ↔ GateOk g xs n):=by
  unfold gate_Check.f GateOk
  have hA:gate_Arity.f g=some (arity g):=rfl
  rw [hA,Option.bind_some]
  by_cases c:arity g=0
  · rw [if_pos c]
    exact ⟨_,rfl,iff_of_false (by decide) (fun h=>h.1 c)⟩
  · rw [if_neg c,Option.bind_some]
    by_cases c2:(xs.length:Int)=arity g
    · rw [if_pos c2]
      obtain ⟨r,h1,h2⟩:=gcheck_go xs n hl k 0 (by omega) (by omega)
      exact ⟨r,h1,h2.trans ⟨fun h=>⟨c,c2,h⟩,fun h=>h.2.2⟩⟩
    · rw [if_neg c2]
      exact ⟨_,rfl,iff_of_false (by decide) (fun h=>c2 h.2.1)⟩
theorem ref06_arity (g:Int):∃ b,phasorref06_Is.f g=some b∧(b=true ↔ arity g≠0)∧(b=true→phasorref06_Arity.f g=some (arity g)):=by
  unfold phasorref06_Arity.f phasorref06_Is.f arity
  by_cases c:g ≥ 1
  · rw [if_pos c]
    refine ⟨_,rfl,?_,?_⟩
    · rw [decide_eq_true_iff];split<;>(try split)<;>(try split)<;>omega
    · intro h
      rw [Option.bind_some,if_pos h]
      have:=of_decide_eq_true h
      repeat' split
      all_goals first | rfl | omega
  · rw [if_neg c]
    refine ⟨_,rfl,iff_of_false (by decide) ?_,fun h=>absurd h (by decide)⟩
    rw [if_pos (by omega)]
    simp
theorem ref06_Check_spec (g:Int) (xs:List Int) (n:Int) (hl:xs.length≤9223372036854775807) (k:Nat) (hk:xs.length * (xs.length + 3) < k):∃ r,phasorref06_Check.f k g xs n=some r∧(r=0 ↔ GateOk g xs n):=by
  unfold phasorref06_Check.f GateOk
  obtain ⟨b,h1,h2,h3⟩:=ref06_arity g
  rw [h1,Option.bind_some]
  by_cases c:b=true
  · rw [if_pos c,h3 c,Option.bind_some]
    by_cases c2:(xs.length:Int)=arity g
    · rw [if_pos c2]
      obtain ⟨r,h4,h5⟩:=rcheck_go xs n hl xs.length 0 k (by omega) (by omega)
      exact ⟨r,h4,h5.trans ⟨fun h=>⟨h2.1 c,c2,h⟩,fun h=>h.2.2⟩⟩
    · rw [if_neg c2]
      exact ⟨_,rfl,iff_of_false (by decide) (fun h=>c2 h.2.1)⟩
  · rw [if_neg c]
    exact ⟨_,rfl,iff_of_false (by decide) (fun h=>c (h2.2 h.1))⟩
def Tail (o:S57) (m:Int):Prop:=(o.f0=2∧o.f2.length=1∧0≤o.f3∧o.f3 < m)∨(o.f0=3∧o.f2.length=1∧o.f3=0)∨(o.f0=4∧o.f3=0)
def MayOp (o:S57) (n m:Int):Prop :=
  (o.f0=1∧GateOk o.f1 o.f2 n∧o.f3=0∧((o.f4=-1∧o.f5=0)∨(0≤o.f4∧o.f4 < m∧(o.f5=0∨o.f5=1)))) ∨
  (o.f0≠1∧o.f1=0∧o.f4=-1∧o.f5=0∧0 < o.f2.length∧Uq o.f2 n 0∧Tail o m)
theorem may_loop_go (xs:List Int) (n:Int) (hl:xs.length≤9223372036854775807) (k:Nat) (hk:xs.length < k):∀ (r i:Nat),i + r=xs.length→∃ b:Bool,may_loop k n xs r (i:Int)=some b∧(b=true ↔ Uq xs n i)
  | 0,i,hi=>⟨true,rfl,iff_of_true rfl (Uq.last (by omega))⟩
  | r + 1,i,hi=>by
    have c:i < xs.length:=by omega
    rw [may_loop,Uq.step c]
    by_cases c1:rd xs i < 0
    · rw [if_pos c1]
      exact ⟨_,rfl,iff_of_false (by decide) (fun h=>h.1 (.inl c1))⟩
    · rw [if_neg c1]
      by_cases c2:rd xs i ≥ n
      · rw [if_pos c2]
        exact ⟨_,rfl,iff_of_false (by decide) (fun h=>h.1 (.inr (.inl c2)))⟩
      · rw [if_neg c2,Int.toNat_natCast]
        obtain ⟨b,h1,h2⟩:=contains_take xs (rd xs i) i (by omega) hl k hk
        rw [h1,Option.bind_some]
        by_cases cb:b=true
        · rw [if_pos cb]
          exact ⟨_,rfl,iff_of_false (by decide) (fun h=>h.1 (.inr (.inr (h2.1 cb))))⟩
        · rw [if_neg cb]
          obtain ⟨b',h3,h4⟩:=may_loop_go xs n hl k hk r (i + 1) (by omega)
          refine ⟨b',h3,h4.trans ⟨fun hu=>⟨?_,hu⟩,fun hu=>hu.2⟩⟩
          rintro (h5 | h5 | h5)
          · exact c1 h5
          · exact c2 h5
          · exact cb (h2.2 h5)
theorem may_tail_iff (o:S57) (m:Int):may_tail o.f0 o.f2 o.f3 m=true ↔ Tail o m:=by
  unfold may_tail Tail
  repeat' split
  all_goals grind
theorem may_spec (o:S57) (n m:Int) (hl:o.f2.length≤9223372036854775807) (k:Nat) (hk:2 * o.f2.length + 2 < k):∃ b:Bool,circuit_may.f k o.f0 o.f1 o.f2 o.f3 o.f4 o.f5 n m=some b∧(b=true ↔ MayOp o n m):=by
  obtain ⟨r,h1,h2⟩:=gate_Check_spec o.f1 o.f2 n hl k (by omega)
  obtain ⟨b,h3,h4⟩:=may_loop_go o.f2 n hl k (by omega) o.f2.length 0 (by omega)
  have ht:=may_tail_iff o m
  unfold circuit_may.f MayOp
  rw [h1,show may_loop k n o.f2 o.f2.length 0=some b from h3]
  simp only [Option.bind_some]
  by_cases c:o.f0=1
  · rw [if_pos c]
    refine ⟨_,rfl,?_⟩
    unfold may_gate
    grind
  · rw [if_neg c]
    have h8:(o.f2.length:Int)=0 ↔ ¬ 0 < o.f2.length:=by omega
    repeat' split
    all_goals exact ⟨_,rfl,by grind⟩
theorem unlike_spec (xs:List Int) (n:Int) (hl:xs.length≤9223372036854775807) (k:Nat) (hk:xs.length * (xs.length + 3) < k):∃ b:Bool,phasorref08_unlike.f k xs n=some b∧(b=true ↔ Uq xs n 0):=unlike_go xs n hl xs.length 0 k (by omega) hk
theorem qubits_spec (xs:List Int) (n:Int) (hl:xs.length≤9223372036854775807) (k:Nat) (hk:xs.length * (xs.length + 3) < k):∃ b:Bool,phasorref07_Qubits.f k xs n=some b∧(b=true ↔ Uq xs n 0):=qubits_go xs n hl xs.length 0 k (by omega) hk
theorem op_spec (o:S57) (n m:Int) (hl:o.f2.length≤9223372036854775807) (k:Nat) (hk:o.f2.length * (o.f2.length + 3) + 1 < k):∃ b:Bool,phasorref08_Op.f k o.f0 o.f1 o.f2 o.f3 o.f4 o.f5 n m=some b∧(b=true ↔ MayOp o n m):=by
  obtain ⟨k,rfl⟩:∃ j,k=j + 1:=⟨k - 1,by omega⟩
  obtain ⟨r,h1,h2⟩:=ref06_Check_spec o.f1 o.f2 n hl k (by omega)
  obtain ⟨u,h3,h4⟩:=unlike_spec o.f2 n hl k (by omega)
  have hlen:(o.f2.length:Int)=1 ↔ o.f2.length=1:=by omega
  have hpos:(o.f2.length:Int) > 0 ↔ 0 < o.f2.length:=by omega
  unfold phasorref08_Op.f MayOp Tail
  by_cases c4:o.f4=-1
  · rw [if_pos c4,phasorref08_Op.j0,h1,h3]
    simp only [Option.bind_some]
    repeat' split
    all_goals exact ⟨_,rfl,by grind⟩
  · rw [if_neg c4,phasorref08_Op.j0,h1,h3]
    simp only [Option.bind_some]
    repeat' split
    all_goals exact ⟨_,rfl,by grind⟩
def May (a0 a1:Int) (l:List S57):Prop:=0≤a0∧a0≤64∧0≤a1∧a1≤64∧l.length≤4096∧∀ o ∈ l,MayOp o a0 a1
def AllFrom (a0 a1:Int) (l:List S57) (i:Nat):Prop:=∀ j:Nat,i≤j→j < l.length→MayOp (rd_T57 l j) a0 a1
theorem AllFrom.step {a0 a1:Int} {l:List S57} {i:Nat} (h:i < l.length):AllFrom a0 a1 l i ↔ MayOp (rd_T57 l i) a0 a1∧AllFrom a0 a1 l (i + 1):=by
  constructor
  · intro hu
    exact ⟨hu i (Nat.le_refl _) h,fun j h1 h2=>hu j (by omega) h2⟩
  · rintro ⟨h1,h2⟩ j h3 h4
    by_cases e:j=i
    · subst e;exact h1
    · exact h2 j (by omega) h4
theorem AllFrom.zero {a0 a1:Int} {l:List S57}:AllFrom a0 a1 l 0 ↔ ∀ o ∈ l,MayOp o a0 a1:=by
  constructor
  · intro h o ho
    obtain ⟨j,hj,rfl⟩:=List.getElem_of_mem ho
    have:=h j (Nat.zero_le _) hj
    rwa [rd_T57_at hj] at this
  · intro h j _ hj
    exact h _ (rd_T57_mem hj)
theorem check_go (a0 a1:Int) (N:Nat) (l:List S57) (hL:Lim N l):∀ (k i:Nat),i≤l.length→(l.length - i) + 2 * N + 3 < k→∃ x e:Int,circuit_Check.l0 k l (l.length:Int) (i:Int) a0 a1 l=some (x,e)∧(e=0∨e=80)∧(e=0 ↔ AllFrom a0 a1 l i)
  | 0,i,_,h=>absurd h (by omega)
  | k + 1,i,hi,h=>by
    rw [circuit_Check.l0]
    by_cases c:i < l.length
    · obtain ⟨h1,h2⟩:=hL.2 _ (rd_T57_mem c)
      have h0:=hL.1
      rw [if_pos (by omega),if_pos (by omega),if_pos (by omega),AllFrom.step c]
      obtain ⟨b,h3,h4⟩:=may_spec (rd_T57 l i) a0 a1 (by omega) k (by omega)
      rw [h3,Option.bind_some]
      by_cases cb:b=true
      · rw [if_pos cb,w1n c (by omega)]
        obtain ⟨x,e,h5,h6,h7⟩:=check_go a0 a1 N l hL k (i + 1) c (by omega)
        exact ⟨x,e,h5,h6,h7.trans ⟨fun h=>⟨h4.1 cb,h⟩,fun h=>h.2⟩⟩
      · rw [if_neg cb]
        exact ⟨_,_,rfl,.inr rfl,iff_of_false (by decide) (fun h=>cb (h4.2 h.1))⟩
    · rw [if_neg (by omega)]
      exact ⟨_,_,rfl,.inl rfl,iff_of_true rfl (fun j h1 h2=>absurd h2 (by omega))⟩
theorem check8_go (a0 a1:Int) (N:Nat) (l:List S57) (hL:Lim N l):∀ (k i:Nat),i≤l.length→(l.length - i) + N * (N + 3) + 2 < k→∃ x e:Int,phasorref08_Check.l0 k (i:Int) a0 a1 l=some (x,e)∧(e=0∨e=80)∧(e=0 ↔ AllFrom a0 a1 l i)
  | 0,i,_,h=>absurd h (by omega)
  | k + 1,i,hi,h=>by
    rw [phasorref08_Check.l0]
    by_cases c:i < l.length
    · obtain ⟨h1,h2⟩:=hL.2 _ (rd_T57_mem c)
      have h0:=hL.1
      rw [if_pos (by omega),if_pos (by omega),AllFrom.step c]
      have hm:(rd_T57 l i).f2.length * ((rd_T57 l i).f2.length + 3)≤N * (N + 3):=Nat.mul_le_mul (by omega) (by omega)
      obtain ⟨b,h3,h4⟩:=op_spec (rd_T57 l i) a0 a1 (by omega) k (by omega)
      rw [h3,Option.bind_some]
      by_cases cb:b=true
      · rw [if_pos cb,w1n c (by omega)]
        obtain ⟨x,e,h5,h6,h7⟩:=check8_go a0 a1 N l hL k (i + 1) c (by omega)
        exact ⟨x,e,h5,h6,h7.trans ⟨fun h=>⟨h4.1 cb,h⟩,fun h=>h.2⟩⟩
      · rw [if_neg cb]
        exact ⟨_,_,rfl,.inr rfl,iff_of_false (by decide) (fun h=>cb (h4.2 h.1))⟩
    · rw [if_neg (by omega)]
      exact ⟨_,_,rfl,.inl rfl,iff_of_true rfl (fun j h1 h2=>absurd h2 (by omega))⟩
theorem checked_spec (a0 a1:Int) (N:Nat) (l:List S57) (hL:Lim N l) (k:Nat) (hk:l.length + 2 * N + 4 < k):∃ e:Int,layers_checked.f k a0 a1 l=some e∧(e=0∨e=80)∧(e=0 ↔ May a0 a1 l):=by
  obtain ⟨k,rfl⟩:∃ j,k=j + 1:=⟨k - 1,by omega⟩
  obtain ⟨x,e,h1,h2,h3⟩:=check_go a0 a1 N l hL k 0 (by omega) (by omega)
  rw [AllFrom.zero] at h3
  have h4:∀ b:Bool,circuit_Check.j0 (k + 1) b a0 a1 l=some (if b=true then (-1,80) else (x,e)):=fun b=>by
    rw [circuit_Check.j0]
    cases b
    · rw [if_neg (by decide),if_neg (by decide)];exact h1
    · rw [if_pos rfl,if_pos rfl]
  unfold layers_checked.f circuit_Check.f May
  simp only [h4]
  have hlen:((l.length:Int) > 4096) ↔ 4096 < l.length:=by omega
  repeat' split
  all_goals simp only [Option.bind_some]
  all_goals repeat' split
  all_goals exact ⟨_,rfl,by grind,by grind⟩
theorem may8_spec (a0 a1:Int) (N:Nat) (l:List S57) (hL:Lim N l) (k:Nat) (hk:l.length + N * (N + 3) + 3 < k):∃ b:Bool,phasorref08_May.f k a0 a1 l=some b∧(b=true ↔ May a0 a1 l):=by
  obtain ⟨k,rfl⟩:∃ j,k=j + 1:=⟨k - 1,by omega⟩
  obtain ⟨x,e,h1,h2,h3⟩:=check8_go a0 a1 N l hL k 0 (by omega) (by omega)
  rw [AllFrom.zero] at h3
  have h4:∀ b:Bool,phasorref08_Check.j0 (k + 1) b a0 a1 l=some (if b=true then (-1,80) else (x,e)):=fun b=>by
    rw [phasorref08_Check.j0]
    cases b
    · rw [if_neg (by decide),if_neg (by decide)];exact h1
    · rw [if_pos rfl,if_pos rfl]
  unfold phasorref08_May.f phasorref08_Check.f May
  simp only [h4]
  have hlen:((l.length:Int) > 4096) ↔ 4096 < l.length:=by omega
  repeat' split
  all_goals simp only [Option.bind_some]
  all_goals repeat' split
  all_goals exact ⟨_,rfl,by grind⟩
theorem checked_yes {a0 a1:Int} {N:Nat} {l:List S57} (hL:Lim N l) (hM:May a0 a1 l) {k:Nat} (hk:l.length + N * (N + 3) + 4 < k):layers_checked.f k a0 a1 l=some 0∧phasorref08_May.f k a0 a1 l=some true:=by
  have hn:2 * N≤N * (N + 3):=by rw [Nat.mul_add];omega
  obtain ⟨e,h1,_,h2⟩:=checked_spec a0 a1 N l hL k (by omega)
  obtain ⟨b,h3,h4⟩:=may8_spec a0 a1 N l hL k (by omega)
  exact ⟨by rw [h1,h2.2 hM],by rw [h3,h4.2 hM]⟩
theorem checked_no {a0 a1:Int} {N:Nat} {l:List S57} (hL:Lim N l) (hM:¬ May a0 a1 l) {k:Nat} (hk:l.length + N * (N + 3) + 4 < k):layers_checked.f k a0 a1 l=some 80∧phasorref08_May.f k a0 a1 l=some false:=by
  have hn:2 * N≤N * (N + 3):=by rw [Nat.mul_add];omega
  obtain ⟨e,h1,h5,h2⟩:=checked_spec a0 a1 N l hL k (by omega)
  obtain ⟨b,h3,h4⟩:=may8_spec a0 a1 N l hL k (by omega)
  refine ⟨?_,?_⟩
  · rcases h5 with rfl | rfl
    · exact absurd (h2.1 rfl) hM
    · exact h1
  · cases b
    · exact h3
    · exact absurd (h4.1 rfl) hM
def wl (o:S57):List Int:=o.f2 ++ ((if o.f0=2 then [wrap64 (64 + o.f3)] else []) ++ (if o.f4 ≥ 0 then [wrap64 (64 + o.f4)] else []))
def wr (o:S57):List Int:=o.f2 ++ ((if o.f0=2 then [wrap64 (100 + o.f3)] else []) ++ (if o.f4 ≥ 0 then [wrap64 (100 + o.f4)] else []))
theorem wires_eq (o:S57) (h:o.f2.length < 17592186044410):layers_wires.f o.f0 o.f1 o.f2 o.f3 o.f4 o.f5=some (wl o):=by
  unfold layers_wires.f slices_Clone_int_int.f wl
  rw [if_pos (by omega),Option.bind_some]
  by_cases c:o.f0=2
  · rw [if_pos c,if_pos (by omega),Option.bind_some]
    by_cases d:o.f4 ≥ 0
    · rw [if_pos d,if_pos (by simp;omega)];simp [c,d]
    · rw [if_neg d];simp [c,d]
  · rw [if_neg c]
    by_cases d:o.f4 ≥ 0
    · rw [if_pos d,if_pos (by omega)];simp [c,d]
    · rw [if_neg d];simp [c,d]
theorem wires19_eq (o:S57) (h:o.f2.length < 17592186044410):phasorref19_wires.f o.f0 o.f1 o.f2 o.f3 o.f4 o.f5=some (wr o):=by
  unfold phasorref19_wires.f wr
  rw [Option.bind_some,if_pos (by simp;omega),Option.bind_some]
  simp only [List.nil_append]
  by_cases c:o.f0=2
  · rw [if_pos c,if_pos (by omega),Option.bind_some]
    by_cases d:o.f4 ≥ 0
    · rw [if_pos d,if_pos (by simp;omega)];simp [c,d]
    · rw [if_neg d];simp [c,d]
  · rw [if_neg c]
    by_cases d:o.f4 ≥ 0
    · rw [if_pos d,if_pos (by omega)];simp [c,d]
    · rw [if_neg d];simp [c,d]
def phi (x:Int):Int:=if x < 64 then x else x + 36
theorem phi_inj {x y:Int} (h:phi x=phi y):x=y:=by unfold phi at h;split at h<;>split at h<;>omega
theorem rd_mem_exists {xs:List Int} {x:Int} (h:x ∈ xs):∃ j:Nat,j < xs.length∧rd xs j=x:=by
  obtain ⟨j,hj,rfl⟩:=List.getElem_of_mem h
  refine ⟨j,hj,?_⟩
  unfold rd
  rw [Int.toNat_natCast,List.getD_eq_getElem?_getD,List.getElem?_eq_getElem hj]
  rfl
theorem rd_mem {xs:List Int} {j:Nat} (h:j < xs.length):rd xs j ∈ xs:=by
  unfold rd
  rw [Int.toNat_natCast,List.getD_eq_getElem?_getD,List.getElem?_eq_getElem h]
  exact List.getElem_mem h
theorem Uq.range {xs:List Int} {n:Int} (h:Uq xs n 0):∀ x ∈ xs,0≤x∧x < n:=by
  intro x hx
  obtain ⟨j,hj,rfl⟩:=rd_mem_exists hx
  have:=h j (Nat.zero_le _) hj
  unfold Bad at this
  by_cases c:rd xs j < 0
  · exact absurd (.inl c) this
  · by_cases d:n≤rd xs j
    · exact absurd (.inr (.inl d)) this
    · omega
theorem may_range {o:S57} {n m:Int} (h:MayOp o n m):(∀ x ∈ o.f2,0≤x∧x < n)∧(o.f0=2→0≤o.f3∧o.f3 < m)∧(o.f4 ≥ 0→o.f4 < m):=by
  unfold MayOp GateOk Tail at h
  rcases h with ⟨h0,⟨_,_,hu⟩,h3,h4⟩ | ⟨h0,_,h4,_,_,hu,h5⟩
  · exact ⟨hu.range,by omega,by omega⟩
  · exact ⟨hu.range,by omega,by omega⟩
theorem wl_range {o:S57} {n m:Int} (h:MayOp o n m) (hn:n≤64) (hm:m≤64):∀ x ∈ wl o,0≤x∧x < 128:=by
  obtain ⟨h1,h2,h3⟩:=may_range h
  intro x hx
  unfold wl at hx
  rw [List.mem_append,List.mem_append] at hx
  rcases hx with hx | hx | hx
  · have:=h1 x hx;omega
  · split at hx
    · rename_i c
      have:=h2 c
      rw [List.mem_singleton] at hx
      unfold wrap64 at hx
      omega
    · cases hx
  · split at hx
    · rename_i c
      have:=h3 c
      rw [List.mem_singleton] at hx
      unfold wrap64 at hx
      omega
    · cases hx
theorem wr_map {o:S57} {n m:Int} (h:MayOp o n m) (hn:n≤64) (hm:m≤64):wr o=(wl o).map phi:=by
  obtain ⟨h1,h2,h3⟩:=may_range h
  unfold wr wl
  rw [List.map_append,List.map_append]
  congr 1
  · refine (List.map_id o.f2).symm.trans (List.map_congr_left ?_)
    intro x hx
    have:=h1 x hx
    unfold phi
    rw [if_pos (by omega)]
    rfl
  · congr 1
    · split
      · rename_i c
        have:=h2 c
        simp only [List.map_cons,List.map_nil,phi]
        congr 1
        unfold wrap64
        split<;>omega
      · rfl
    · split
      · rename_i c
        have:=h3 c
        simp only [List.map_cons,List.map_nil,phi]
        congr 1
        unfold wrap64
        split<;>omega
      · rfl
theorem wr_len (o:S57):(wr o).length≤o.f2.length + 2:=by unfold wr;simp only [List.length_append];split<;>split<;>simp
def Tch (a b:S57):Prop:=∃ x,x ∈ wl a∧x ∈ wl b
theorem meet_go (xs ys:List Int) (hx:xs.length≤9223372036854775807) (hy:ys.length≤9223372036854775807):∀ (d i k:Nat),i + d=xs.length→d * (ys.length + 2) < k→∃ b:Bool,phasorref19_meet.l0 k xs ys (i:Int)=some b∧(b=true ↔ ∃ t:Nat,i≤t∧t < xs.length∧rd xs t ∈ ys)
  | 0,i,k,hi,h=>by
    obtain ⟨k,rfl⟩:∃ m,k=m + 1:=⟨k - 1,by omega⟩
    rw [phasorref19_meet.l0,if_neg (by omega)]
    exact ⟨_,rfl,iff_of_false (by decide) (fun ⟨t,h1,h2,_⟩=>by omega)⟩
  | d + 1,i,k,hi,h=>by
    rw [Nat.succ_mul] at h
    obtain ⟨k,rfl⟩:∃ m,k=m + 1:=⟨k - 1,by omega⟩
    have c:i < xs.length:=by omega
    have hin:∀ (e j k:Nat),j + e=ys.length→e + 1 + d * (ys.length + 2) < k→∃ b:Bool,phasorref19_meet.l1 k xs ys (i:Int) (j:Int)=some b∧(b=true ↔ (∃ u:Nat,j≤u∧u < ys.length∧rd xs i=rd ys u)∨∃ t:Nat,i + 1≤t∧t < xs.length∧rd xs t ∈ ys):=by
      intro e
      induction e with
      | zero =>
        intro j k hj hk
        obtain ⟨k,rfl⟩:∃ m,k=m + 1:=⟨k - 1,by omega⟩
        rw [phasorref19_meet.l1,if_neg (by omega),w1n c hx]
        obtain ⟨r,h1,h2⟩:=meet_go xs ys hx hy d (i + 1) k (by omega) (by omega)
        exact ⟨r,h1,h2.trans ⟨fun hu=>.inr hu,fun hu=>hu.resolve_left (fun ⟨u,h3,h4,_⟩=>by omega)⟩⟩
      | succ e ih =>
        intro j k hj hk
        obtain ⟨k,rfl⟩:∃ m,k=m + 1:=⟨k - 1,by omega⟩
        rw [phasorref19_meet.l1,if_pos (by omega),if_pos (by omega),if_pos (by omega),if_pos (by omega)]
        by_cases c1:rd xs i=rd ys j
        · rw [if_pos c1]
          exact ⟨_,rfl,iff_of_true rfl (.inl ⟨j,Nat.le_refl _,by omega,c1⟩)⟩
        · rw [if_neg c1,w1n (by omega:j < ys.length) hy]
          obtain ⟨r,h1,h2⟩:=ih (j + 1) k (by omega) (by omega)
          refine ⟨r,h1,h2.trans ⟨fun hu=>?_,fun hu=>?_⟩⟩
          · rcases hu with ⟨u,h3,h4,h5⟩ | hu
            · exact .inl ⟨u,by omega,h4,h5⟩
            · exact .inr hu
          · rcases hu with ⟨u,h3,h4,h5⟩ | hu
            · by_cases e2:u=j
              · subst e2;exact absurd h5 c1
              · exact .inl ⟨u,by omega,h4,h5⟩
            · exact .inr hu
    rw [phasorref19_meet.l0,if_pos (by omega)]
    obtain ⟨r,h1,h2⟩:=hin ys.length 0 k (by omega) (by omega)
    refine ⟨r,h1,h2.trans ⟨fun hu=>?_,fun hu=>?_⟩⟩
    · rcases hu with ⟨u,h3,h4,h5⟩ | ⟨t,h3,h4,h5⟩
      · exact ⟨i,Nat.le_refl _,c,by rw [h5];exact rd_mem h4⟩
      · exact ⟨t,by omega,h4,h5⟩
    · obtain ⟨t,h3,h4,h5⟩:=hu
      by_cases e2:t=i
      · subst e2
        obtain ⟨u,h6,h7⟩:=rd_mem_exists h5
        exact .inl ⟨u,Nat.zero_le _,h6,h7.symm⟩
      · exact .inr ⟨t,by omega,h4,h5⟩
theorem meet_spec (xs ys:List Int) (hx:xs.length≤9223372036854775807) (hy:ys.length≤9223372036854775807) (k:Nat) (hk:xs.length * (ys.length + 2) < k):∃ b:Bool,phasorref19_meet.f k xs ys=some b∧(b=true ↔ ∃ x,x ∈ xs∧x ∈ ys):=by
  obtain ⟨b,h1,h2⟩:=meet_go xs ys hx hy xs.length 0 k (by omega) hk
  refine ⟨b,h1,h2.trans ⟨fun ⟨t,_,h3,h4⟩=>⟨_,rd_mem h3,h4⟩,fun ⟨x,h3,h4⟩=>?_⟩⟩
  obtain ⟨t,h5,rfl⟩:=rd_mem_exists h3
  exact ⟨t,Nat.zero_le _,h5,h4⟩
theorem tch_wr {a b:S57} {n m:Int} (ha:MayOp a n m) (hb:MayOp b n m) (hn:n≤64) (hm:m≤64):(∃ x,x ∈ wr a∧x ∈ wr b) ↔ Tch a b:=by
  rw [wr_map ha hn hm,wr_map hb hn hm]
  constructor
  · rintro ⟨x,h1,h2⟩
    obtain ⟨y,h3,rfl⟩:=List.mem_map.1 h1
    obtain ⟨z,h4,h5⟩:=List.mem_map.1 h2
    obtain rfl:=phi_inj h5
    exact ⟨z,h3,h4⟩
  · rintro ⟨x,h1,h2⟩
    exact ⟨phi x,List.mem_map_of_mem h1,List.mem_map_of_mem h2⟩
theorem touch_spec (a0 a1:Int) (N:Nat) (l:List S57) (hL:Lim N l) (hN:N≤17592186044410) (hM:May a0 a1 l) (i j:Nat) (hi:i < l.length) (hj:j < l.length) (k:Nat) (hk:(N + 2) * (N + 4) < k):∃ b:Bool,phasorref19_touch.f k a0 a1 l (i:Int) (j:Int)=some b∧(b=true ↔ Tch (rd_T57 l i) (rd_T57 l j)):=by
  obtain ⟨h1,h2⟩:=hL.2 _ (rd_T57_mem hi)
  obtain ⟨h3,h4⟩:=hL.2 _ (rd_T57_mem hj)
  have l1:=wr_len (rd_T57 l i)
  have l2:=wr_len (rd_T57 l j)
  unfold phasorref19_touch.f
  rw [if_pos (by omega),if_pos (by omega),wires19_eq _ (by omega),Option.bind_some,if_pos (by omega),if_pos (by omega),wires19_eq _ (by omega),Option.bind_some]
  have hm:(wr (rd_T57 l i)).length * ((wr (rd_T57 l j)).length + 2)≤(N + 2) * (N + 4):=Nat.mul_le_mul (by omega) (by omega)
  obtain ⟨b,h5,h6⟩:=meet_spec (wr (rd_T57 l i)) (wr (rd_T57 l j)) (by omega) (by omega) k (by omega)
  rw [h5,Option.bind_some]
  exact ⟨b,rfl,h6.trans (tch_wr (hM.2.2.2.2.2 _ (rd_T57_mem hi)) (hM.2.2.2.2.2 _ (rd_T57_mem hj)) hM.2.1 hM.2.2.2.1)⟩
theorem mx_le (a b:Int):a≤mx a b∧b≤mx a b∧(mx a b=a∨mx a b=b):=by unfold mx;split<;>omega
theorem rd_append_lt {xs ys:List Int} {t:Nat} (h:t < xs.length):rd (xs ++ ys) (t:Int)=rd xs t:=by
  unfold rd
  simp only [Int.toNat_natCast,List.getD_eq_getElem?_getD,List.getElem?_append_left h]
theorem rd_append_self {xs:List Int} {x:Int}:rd (xs ++ [x]) (xs.length:Int)=x:=by
  unfold rd
  simp [List.getD_eq_getElem?_getD]
theorem wire_max_spec (last:List Int):∀ (ws:List Int) (m:Int),(∀ w ∈ ws,0≤w∧w < 128)→∃ M,wire_max last m ws=some M∧m≤M∧(M=m∨∃ w ∈ ws,M=rd last w)∧∀ w ∈ ws,rd last w≤M
  | [],m,_=>⟨m,rfl,Int.le_refl _,.inl rfl,fun w h=>by cases h⟩
  | w :: ws,m,h=>by
    rw [wire_max,if_pos (h w (List.mem_cons_self ..))]
    obtain ⟨M,h1,h2,h3,h4⟩:=wire_max_spec last ws (mx m (rd last w)) (fun x hx=>h x (List.mem_cons_of_mem _ hx))
    have h5:=mx_le m (rd last w)
    refine ⟨M,h1,by omega,?_,fun x hx=>?_⟩
    · rcases h3 with h3 | ⟨x,hx,h3⟩
      · rcases h5.2.2 with h6 | h6
        · exact .inl (h3.trans h6)
        · exact .inr ⟨w,List.mem_cons_self ..,h3.trans h6⟩
      · exact .inr ⟨x,List.mem_cons_of_mem _ hx,h3⟩
    · rcases List.mem_cons.1 hx with rfl | hx
      · omega
      · exact h4 x hx
theorem rd_set {xs:List Int} {i:Nat} {w v:Int} (h0:0≤w) (hi:i < xs.length):rd (xs.set i v) w=if w=i then v else rd xs w:=by
  unfold rd
  rw [List.getD_eq_getElem?_getD,List.getD_eq_getElem?_getD,List.getElem?_set]
  by_cases c:w=i
  · rw [if_pos c,if_pos (by omega),if_pos hi];rfl
  · rw [if_neg c,if_neg (by omega)]
theorem wire_set_spec (m:Int):∀ (ws last:List Int),last.length=128→(∀ w ∈ ws,0≤w∧w < 128)→∃ l',wire_set m last ws=some l'∧l'.length=128∧∀ w,0≤w→w < 128→(w ∈ ws→rd l' w=m)∧(w ∉ ws→rd l' w=rd last w)
  | [],last,hl,_=>⟨last,rfl,hl,fun w _ _=>⟨fun h=>absurd h List.not_mem_nil,fun _=>rfl⟩⟩
  | x :: ws,last,hl,h=>by
    have hx:=h x (List.mem_cons_self ..)
    rw [wire_set,if_pos hx]
    obtain ⟨l',h1,h2,h3⟩:=wire_set_spec m ws (last.set x.toNat m) (by rw [List.length_set];exact hl) (fun y hy=>h y (List.mem_cons_of_mem _ hy))
    refine ⟨l',h1,h2,fun w hw0 hw1=>?_⟩
    obtain ⟨h4,h5⟩:=h3 w hw0 hw1
    have h6:=rd_set (xs:=last) (i:=x.toNat) (v:=m) hw0 (by omega)
    constructor
    · intro hw
      by_cases c:w ∈ ws
      · exact h4 c
      · rcases List.mem_cons.1 hw with rfl | hw
        · rw [h5 c,h6,if_pos (by omega)]
        · exact absurd hw c
    · intro hw
      have c:w ∉ ws:=fun hc=>hw (List.mem_cons_of_mem _ hc)
      have d:w≠x:=fun e=>hw (by rw [e];exact List.mem_cons_self ..)
      rw [h5 c,h6,if_neg (by omega)]
def IsMax (l:List S57) (ms:List Int) (i:Nat) (M:Int):Prop:=0≤M∧(M=0∨∃ t:Nat,t < i∧Tch (rd_T57 l i) (rd_T57 l t)∧M=rd ms t)∧∀ t:Nat,t < i→Tch (rd_T57 l i) (rd_T57 l t)→rd ms t≤M
def EarlyAt (l:List S57) (ms:List Int) (i:Nat):Prop:=∃ M,IsMax l ms i M∧rd ms i=early_m (rd_T57 l i) M
theorem IsMax.congr {l:List S57} {ms ms':List Int} {i:Nat} {M:Int} (h:IsMax l ms i M) (he:∀ t:Nat,t < i→rd ms' t=rd ms t):IsMax l ms' i M:=by
  obtain ⟨h0,h1,h2⟩:=h
  refine ⟨h0,?_,fun t ht hT=>by rw [he t ht];exact h2 t ht hT⟩
  rcases h1 with h1 | ⟨t,ht,hT,h1⟩
  · exact .inl h1
  · exact .inr ⟨t,ht,hT,by rw [he t ht];exact h1⟩
theorem EarlyAt.congr {l:List S57} {ms ms':List Int} {i:Nat} (h:EarlyAt l ms i) (he:∀ t:Nat,t≤i→rd ms' t=rd ms t):EarlyAt l ms' i:=by
  obtain ⟨M,h1,h2⟩:=h
  exact ⟨M,h1.congr (fun t ht=>he t (by omega)),by rw [he i (Nat.le_refl _)];exact h2⟩
theorem IsMax.unique {l:List S57} {ms:List Int} {i:Nat} {M M':Int} (h:IsMax l ms i M) (h':IsMax l ms i M'):M=M':=by
  obtain ⟨a0,a1,a2⟩:=h
  obtain ⟨b0,b1,b2⟩:=h'
  have h1:M≤M':=by
    rcases a1 with a1 | ⟨t,ht,hT,a1⟩
    · omega
    · have:=b2 t ht hT;omega
  have h2:M'≤M:=by
    rcases b1 with b1 | ⟨t,ht,hT,b1⟩
    · omega
    · have:=a2 t ht hT;omega
  omega
def EarlyP (l:List S57) (ms:List Int) (n:Nat):Prop:=ms.length=n∧∀ i:Nat,i < n→EarlyAt l ms i
theorem ext_rd {xs ys:List Int} (h:xs.length=ys.length) (he:∀ i:Nat,i < xs.length→rd xs i=rd ys i):xs=ys:=by
  apply List.ext_getElem h
  intro i h1 h2
  have:=he i h1
  unfold rd at this
  rw [Int.toNat_natCast,List.getD_eq_getElem?_getD,List.getD_eq_getElem?_getD,List.getElem?_eq_getElem h1,List.getElem?_eq_getElem h2] at this
  exact this
theorem EarlyP.unique {l:List S57} {ms ms':List Int} {n:Nat} (h:EarlyP l ms n) (h':EarlyP l ms' n):ms=ms':=by
  have hk:∀ i:Nat,i < n→rd ms i=rd ms' i:=by
    intro i
    induction i using Nat.strongRecOn with
    | ind i ih =>
      intro hi
      obtain ⟨M,h1,h2⟩:=h.2 i hi
      obtain ⟨M',h3,h4⟩:=h'.2 i hi
      have h5:=h3.congr (ms':=ms) (fun t ht=>ih t ht (by omega))
      rw [h2,h4,h1.unique h5]
  exact ext_rd (h.1.trans h'.1.symm) (fun i hi=>hk i (by rw [← h.1];exact hi))
theorem early_m_le {o:S57} {M:Int} (h0:0≤M) (h1:M≤1000000):M≤early_m o M∧early_m o M≤M + 1:=by
  unfold early_m
  split
  · omega
  · unfold wrap64;omega
theorem EarlyP.bound {l:List S57} {ms:List Int} {n:Nat} (h:EarlyP l ms n) (hn:n≤4096):∀ i:Nat,i < n→0≤rd ms i∧rd ms i≤i + 1:=by
  intro i
  induction i using Nat.strongRecOn with
  | ind i ih =>
    intro hi
    obtain ⟨M,⟨a0,a1,a2⟩,h2⟩:=h.2 i hi
    have hM:M≤i:=by
      rcases a1 with a1 | ⟨t,ht,hT,a1⟩
      · omega
      · have:=ih t ht (by omega);omega
    have:=early_m_le (o:=rd_T57 l i) a0 (by omega)
    omega
theorem EarlyP.push {l:List S57} {ms:List Int} {n:Nat} {M:Int} (h:EarlyP l ms n) (hM:IsMax l ms n M):EarlyP l (ms ++ [early_m (rd_T57 l n) M]) (n + 1):=by
  refine ⟨by simp [h.1],fun i hi=>?_⟩
  by_cases c:i < n
  · exact (h.2 i c).congr (fun t ht=>rd_append_lt (by rw [h.1];omega))
  · obtain rfl:i=n:=by omega
    refine ⟨M,hM.congr (fun t ht=>rd_append_lt (by rw [h.1];omega)),?_⟩
    have:=rd_append_self (xs:=ms) (x:=early_m (rd_T57 l i) M)
    rwa [h.1] at this
def LastAt (l:List S57) (ms:List Int) (i:Nat) (last:List Int):Prop:=last.length=128∧∀ w,0≤w→w < 128→0≤rd last w∧(rd last w=0∨∃ t:Nat,t < i∧w ∈ wl (rd_T57 l t)∧rd last w=rd ms t)∧∀ t:Nat,t < i→w ∈ wl (rd_T57 l t)→rd ms t≤rd last w
theorem early_go_spec {a0 a1:Int} {N:Nat} {l:List S57} (hL:Lim N l) (hN:N≤17592186044410) (hM:May a0 a1 l):∀ (d i:Nat) (last out:List Int),i + d=l.length→EarlyP l out i→LastAt l out i last→∃ ms,early_go last out (l.drop i)=some ms∧EarlyP l ms l.length
  | 0,i,last,out,hi,hE,hT=>by
    rw [List.drop_of_length_le (by omega),early_go]
    obtain rfl:i=l.length:=by omega
    exact ⟨out,rfl,hE⟩
  | d + 1,i,last,out,hi,hE,hT=>by
    have c:i < l.length:=by omega
    rw [List.drop_eq_getElem_cons c,← rd_T57_at c,early_go]
    obtain ⟨h1,h2⟩:=hL.2 _ (rd_T57_mem c)
    have hlen:=hM.2.2.2.2.1
    rw [wires_eq _ (by omega),Option.bind_some]
    have hr:=wl_range (hM.2.2.2.2.2 _ (rd_T57_mem c)) hM.2.1 hM.2.2.2.1
    obtain ⟨M,h3,h4,h5,h6⟩:=wire_max_spec last (wl (rd_T57 l i)) 0 hr
    rw [h3,Option.bind_some]
    obtain ⟨last',h7,h8,h9⟩:=wire_set_spec (early_m (rd_T57 l i) M) (wl (rd_T57 l i)) last hT.1 hr
    rw [h7,Option.bind_some,if_pos (by rw [hE.1];omega)]
    have hMx:IsMax l out i M:=by
      refine ⟨h4,?_,?_⟩
      · rcases h5 with h5 | ⟨w,hw,h5⟩
        · exact .inl h5
        · obtain ⟨_,g1,_⟩:=hT.2 w (hr w hw).1 (hr w hw).2
          rcases g1 with g1 | ⟨t,g1,g2,g3⟩
          · exact .inl (h5.trans g1)
          · exact .inr ⟨t,g1,⟨w,hw,g2⟩,h5.trans g3⟩
      · rintro t ht ⟨w,hw,hw2⟩
        obtain ⟨_,_,g2⟩:=hT.2 w (hr w hw).1 (hr w hw).2
        have:=g2 t ht hw2
        have:=h6 w hw
        omega
    have hE':=hE.push hMx
    have hb:=hE'.bound (by omega)
    have hMb:M≤i:=by
      rcases hMx.2.1 with g1 | ⟨t,ht,_,g1⟩
      · omega
      · have:=hE.bound (by omega) t ht;omega
    have hme:=early_m_le (o:=rd_T57 l i) h4 (by omega)
    refine early_go_spec hL hN hM d (i + 1) last' (out ++ [early_m (rd_T57 l i) M]) (by omega) hE' ⟨h8,fun w hw0 hw1=>?_⟩
    obtain ⟨g0,g1,g2⟩:=hT.2 w hw0 hw1
    obtain ⟨k1,k2⟩:=h9 w hw0 hw1
    have hself:rd (out ++ [early_m (rd_T57 l i) M]) i=early_m (rd_T57 l i) M:=by
      have:=rd_append_self (xs:=out) (x:=early_m (rd_T57 l i) M)
      rwa [hE.1] at this
    have hold:∀ t:Nat,t < i→rd (out ++ [early_m (rd_T57 l i) M]) t=rd out t:=fun t ht=>rd_append_lt (by rw [hE.1];exact ht)
    by_cases cw:w ∈ wl (rd_T57 l i)
    · rw [k1 cw]
      refine ⟨by omega,.inr ⟨i,by omega,cw,hself.symm⟩,fun t ht hw=>?_⟩
      by_cases e:t=i
      · subst e;omega
      · rw [hold t (by omega)]
        have:=g2 t (by omega) hw
        have:=h6 w cw
        omega
    · rw [k2 cw]
      refine ⟨g0,?_,fun t ht hw=>?_⟩
      · rcases g1 with g1 | ⟨t,g1,g3,g4⟩
        · exact .inl g1
        · exact .inr ⟨t,by omega,g3,by rw [hold t g1];exact g4⟩
      · by_cases e:t=i
        · subst e;exact absurd hw cw
        · rw [hold t (by omega)]
          exact g2 t (by omega) hw
theorem early_spec {a0 a1:Int} {N:Nat} {l:List S57} (hL:Lim N l) (hN:N≤17592186044410) (hM:May a0 a1 l):∃ ms,layers_early.f a0 a1 l=some ms∧EarlyP l ms l.length:=by
  unfold layers_early.f
  refine early_go_spec hL hN hM l.length 0 (List.replicate 128 0) [] (by omega) ⟨rfl,fun i hi=>absurd hi (by omega)⟩ ⟨by simp,fun w h0 h1=>?_⟩
  have:rd (List.replicate 128 0) w=0:=by
    unfold rd
    rw [List.getD_eq_getElem?_getD,List.getElem?_replicate]
    split<;>rfl
  exact ⟨by omega,.inl this,fun t ht=>absurd ht (by omega)⟩
theorem ref_early_go {a0 a1:Int} {N:Nat} {l:List S57} (hL:Lim N l) (hN:N≤17592186044410) (hM:May a0 a1 l):∀ (d i:Nat) (ms:List Int) (k:Nat),i + d=l.length→EarlyP l ms i→d * (l.length + 2) + (N + 2) * (N + 4) + 1 < k→∃ r,phasorref19_Early.l0 k ms (i:Int) a0 a1 l=some (r,0)∧EarlyP l r l.length
  | 0,i,ms,k,hi,hE,h=>by
    obtain ⟨k,rfl⟩:∃ m,k=m + 1:=⟨k - 1,by omega⟩
    rw [phasorref19_Early.l0,if_neg (by omega)]
    obtain rfl:i=l.length:=by omega
    exact ⟨ms,rfl,hE⟩
  | d + 1,i,ms,k,hi,hE,h=>by
    rw [Nat.succ_mul] at h
    have hlen:=hM.2.2.2.2.1
    obtain ⟨k,rfl⟩:∃ m,k=m + 1:=⟨k - 1,by omega⟩
    have c:i < l.length:=by omega
    have hin:∀ (e j k:Nat) (m:Int),j + e=i→e + 1 + d * (l.length + 2) + (N + 2) * (N + 4) + 1 < k→(0≤m∧(m=0∨∃ t:Nat,t < j∧Tch (rd_T57 l i) (rd_T57 l t)∧m=rd ms t)∧∀ t:Nat,t < j→Tch (rd_T57 l i) (rd_T57 l t)→rd ms t≤m)→∃ r,phasorref19_Early.l1 k ms (i:Int) m (j:Int) a0 a1 l=some (r,0)∧EarlyP l r l.length:=by
      intro e
      induction e with
      | zero =>
        intro j k m hj hk hm
        obtain ⟨k,rfl⟩:∃ m,k=m + 1:=⟨k - 1,by omega⟩
        obtain rfl:j=i:=by omega
        have hp:=EarlyP.push hE (M:=m) hm
        rw [phasorref19_Early.l1,if_neg (by omega)]
        unfold phasorref19_bar.f
        rw [if_pos (by omega),if_pos (by omega),Option.bind_some,w1n c (by omega)]
        unfold early_m at hp
        by_cases c4:(rd_T57 l j).f0=4
        · rw [if_pos (by rw [c4];rfl),if_pos (by rw [hE.1];omega)]
          rw [if_pos c4] at hp
          exact ref_early_go hL hN hM d (j + 1) _ k (by omega) hp (by omega)
        · rw [if_neg (by simpa using c4),if_pos (by rw [hE.1];omega)]
          rw [if_neg c4] at hp
          exact ref_early_go hL hN hM d (j + 1) _ k (by omega) hp (by omega)
      | succ e ih =>
        intro j k m hj hk hm
        obtain ⟨k,rfl⟩:∃ m,k=m + 1:=⟨k - 1,by omega⟩
        rw [phasorref19_Early.l1,if_pos (by omega)]
        obtain ⟨b,h1,h2⟩:=touch_spec a0 a1 N l hL hN hM i j c (by omega) k (by omega)
        rw [h1,Option.bind_some,w1n (by omega:j < l.length) (by omega)]
        obtain ⟨m0,m1,m2⟩:=hm
        by_cases cb:b=true
        · rw [if_pos cb,if_pos (by omega),if_pos (by rw [hE.1];omega)]
          have hmx:=mx_le m (rd ms j)
          refine ih (j + 1) k (mx m (rd ms j)) (by omega) (by omega) ⟨by omega,?_,fun t ht hT=>?_⟩
          · rcases hmx.2.2 with g | g
            · rcases m1 with m1 | ⟨t,g1,g2,g3⟩
              · exact .inl (g.trans m1)
              · exact .inr ⟨t,by omega,g2,g.trans g3⟩
            · exact .inr ⟨j,by omega,h2.1 cb,g⟩
          · by_cases e2:t=j
            · subst e2;omega
            · have:=m2 t (by omega) hT;omega
        · rw [if_neg cb]
          refine ih (j + 1) k m (by omega) (by omega) ⟨m0,?_,fun t ht hT=>?_⟩
          · rcases m1 with m1 | ⟨t,g1,g2,g3⟩
            · exact .inl m1
            · exact .inr ⟨t,by omega,g2,g3⟩
          · by_cases e2:t=j
            · subst e2;exact absurd (h2.2 hT) cb
            · exact m2 t (by omega) hT
    rw [phasorref19_Early.l0,if_pos (by omega)]
    exact hin i 0 k 0 (by omega) (by omega) ⟨by omega,.inl rfl,fun t ht=>absurd ht (by omega)⟩
def Big (N n k:Nat):Prop:=n * (n + 2) + n * (n + 2) + N * (N + 3) + (N + 2) * (N + 4) + 2 * n + 2 * N + 100 < k
theorem Early_yes {a0 a1:Int} {N:Nat} {l:List S57} (hL:Lim N l) (hN:N≤17592186044410) (hM:May a0 a1 l) {k:Nat} (hk:Big N l.length k):∃ ms,layers_Early.f k a0 a1 l=some (ms,0)∧phasorref19_Early.f k a0 a1 l=some (ms,0)∧EarlyP l ms l.length:=by
  unfold Big at hk
  obtain ⟨c1,c2⟩:=checked_yes hL hM (k:=k) (by omega)
  obtain ⟨ms,h1,h2⟩:=early_spec hL hN hM
  obtain ⟨ms',h3,h4⟩:=ref_early_go hL hN hM l.length 0 [] k (by omega) ⟨rfl,fun i hi=>absurd hi (by omega)⟩ (by omega)
  obtain rfl:=h2.unique h4
  unfold layers_Early.f phasorref19_Early.f
  rw [c1,c2,Option.bind_some,Option.bind_some,if_pos rfl,if_pos rfl,h1,Option.bind_some]
  exact ⟨ms,rfl,h3,h2⟩
theorem Early_no {a0 a1:Int} {N:Nat} {l:List S57} (hL:Lim N l) (hM:¬ May a0 a1 l) {k:Nat} (hk:Big N l.length k):layers_Early.f k a0 a1 l=some ([],80)∧phasorref19_Early.f k a0 a1 l=some ([],80):=by
  unfold Big at hk
  obtain ⟨c1,c2⟩:=checked_no hL hM (k:=k) (by omega)
  unfold layers_Early.f phasorref19_Early.f
  rw [c1,c2,Option.bind_some,Option.bind_some]
  exact ⟨rfl,rfl⟩
def IsTop (ms:List Int) (D:Int):Prop:=0≤D∧(D=0∨∃ t:Nat,t < ms.length∧D=rd ms t)∧∀ t:Nat,t < ms.length→rd ms t≤D
theorem IsTop.unique {ms:List Int} {D D':Int} (h:IsTop ms D) (h':IsTop ms D'):D=D':=by
  obtain ⟨a0,a1,a2⟩:=h
  obtain ⟨b0,b1,b2⟩:=h'
  have h1:D≤D':=by
    rcases a1 with a1 | ⟨t,ht,a1⟩
    · omega
    · have:=b2 t ht;omega
  have h2:D'≤D:=by
    rcases b1 with b1 | ⟨t,ht,b1⟩
    · omega
    · have:=a2 t ht;omega
  omega
theorem max_go (ms:List Int) (hl:ms.length≤9223372036854775807):∀ (k i:Nat) (m:Int),i≤ms.length→ms.length - i < k→(0≤m∧(m=0∨∃ t:Nat,t < i∧m=rd ms t)∧∀ t:Nat,t < i→rd ms t≤m)→∃ D,slices_Max_int_int.l0 k ms m (i:Int)=some D∧IsTop ms D
  | 0,i,m,_,h,_=>absurd h (by omega)
  | k + 1,i,m,hi,h,hm=>by
    rw [slices_Max_int_int.l0]
    by_cases c:i < ms.length
    · rw [if_pos (by omega),if_pos (by omega),w1n c hl]
      have hlt:ms.length - (i + 1) < k:=by omega
      obtain ⟨m0,m1,m2⟩:=hm
      have hmx:=mx_le m (rd ms i)
      refine max_go ms hl k (i + 1) _ c hlt ⟨by omega,?_,fun t ht=>?_⟩
      · rcases hmx.2.2 with g | g
        · rcases m1 with m1 | ⟨t,g1,g2⟩
          · exact .inl (g.trans m1)
          · exact .inr ⟨t,by omega,g.trans g2⟩
        · exact .inr ⟨i,by omega,g⟩
      · by_cases e:t=i
        · subst e;omega
        · have:=m2 t (by omega);omega
    · rw [if_neg (by omega)]
      obtain rfl:i=ms.length:=by omega
      exact ⟨m,rfl,hm⟩
theorem rmax_go (ms:List Int) (e0:Int) (hl:ms.length≤9223372036854775807):∀ (k i:Nat) (m:Int),i≤ms.length→ms.length - i < k→(0≤m∧(m=0∨∃ t:Nat,t < i∧m=rd ms t)∧∀ t:Nat,t < i→rd ms t≤m)→∃ D,phasorref19_Depth.l0 k ms e0 m (i:Int)=some (D,e0)∧IsTop ms D
  | 0,i,m,_,h,_=>absurd h (by omega)
  | k + 1,i,m,hi,h,hm=>by
    rw [phasorref19_Depth.l0]
    by_cases c:i < ms.length
    · rw [if_pos (by omega),if_pos (by omega),w1n c hl]
      have hlt:ms.length - (i + 1) < k:=by omega
      obtain ⟨m0,m1,m2⟩:=hm
      have hmx:=mx_le m (rd ms i)
      refine rmax_go ms e0 hl k (i + 1) _ c hlt ⟨by omega,?_,fun t ht=>?_⟩
      · rcases hmx.2.2 with g | g
        · rcases m1 with m1 | ⟨t,g1,g2⟩
          · exact .inl (g.trans m1)
          · exact .inr ⟨t,by omega,g.trans g2⟩
        · exact .inr ⟨i,by omega,g⟩
      · by_cases e:t=i
        · subst e;omega
        · have:=m2 t (by omega);omega
    · rw [if_neg (by omega)]
      obtain rfl:i=ms.length:=by omega
      exact ⟨m,rfl,hm⟩
theorem Depth_yes {a0 a1:Int} {N:Nat} {l:List S57} (hL:Lim N l) (hN:N≤17592186044410) (hM:May a0 a1 l) {k:Nat} (hk:Big N l.length k):∃ ms d,layers_Early.f k a0 a1 l=some (ms,0)∧phasorref19_Early.f k a0 a1 l=some (ms,0)∧EarlyP l ms l.length∧layers_Depth.f k a0 a1 l=some (d,0)∧phasorref19_Depth.f k a0 a1 l=some (d,0)∧IsTop ms d:=by
  obtain ⟨ms,h1,h2,h3⟩:=Early_yes hL hN hM hk
  have hlen:=hM.2.2.2.2.1
  have hml:=h3.1
  have hb:=h3.bound hlen
  have hk':=hk
  unfold Big at hk'
  obtain ⟨D,h4,h5⟩:=rmax_go ms 0 (by omega) k 0 0 (by omega) (by omega) ⟨by omega,.inl rfl,fun t ht=>absurd ht (by omega)⟩
  refine ⟨ms,D,h1,h2,h3,?_,?_,h5⟩
  · unfold layers_Depth.f
    rw [h1,Option.bind_some,if_pos rfl]
    dsimp only
    by_cases c:ms.length=0
    · rw [if_pos (by omega)]
      have:D=0:=by
        rcases h5.2.1 with g | ⟨t,g,_⟩
        · exact g
        · omega
      rw [this]
    · rw [if_neg (by omega)]
      unfold slices_Max_int_int.f
      rw [if_neg (by omega),if_pos (by omega)]
      have h0:=hb 0 (by omega)
      have hz:∀ t:Nat,t < 1→rd ms t≤rd ms ((0:Nat):Int):=fun t ht=>by
        obtain rfl:t=0:=by omega
        exact Int.le_refl _
      obtain ⟨D',h6,h7⟩:=max_go ms (by omega) k 1 (rd ms ((0:Nat):Int)) (by omega) (by omega) ⟨h0.1,.inr ⟨0,by omega,rfl⟩,hz⟩
      rw [show slices_Max_int_int.l0 k ms (rd ms 0) 1=some D' from h6,Option.bind_some,h5.unique h7]
  · unfold phasorref19_Depth.f
    rw [h2,Option.bind_some]
    exact h4
theorem Depth_no {a0 a1:Int} {N:Nat} {l:List S57} (hL:Lim N l) (hM:¬ May a0 a1 l) {k:Nat} (hk:Big N l.length k):layers_Depth.f k a0 a1 l=some (0,80)∧phasorref19_Depth.f k a0 a1 l=some (0,80):=by
  obtain ⟨h1,h2⟩:=Early_no hL hM hk
  unfold Big at hk
  unfold layers_Depth.f phasorref19_Depth.f
  rw [h1,h2,Option.bind_some,Option.bind_some]
  refine ⟨rfl,?_⟩
  obtain ⟨k,rfl⟩:∃ m,k=m + 1:=⟨k - 1,by omega⟩
  rw [phasorref19_Depth.l0]
  rfl
theorem IsTop.bound {l:List S57} {ms:List Int} {D:Int} (h:IsTop ms D) (hE:EarlyP l ms l.length) (hn:l.length≤4096):0≤D∧D≤4096:=by
  obtain ⟨a0,a1,_⟩:=h
  refine ⟨a0,?_⟩
  rcases a1 with a1 | ⟨t,ht,a1⟩
  · omega
  · have h1:=hE.1
    have:=hE.bound hn t (by omega)
    omega
def IsMin (l:List S57) (d:Int) (ms:List Int) (i:Nat) (M:Int):Prop:=M≤d∧(M=d∨∃ t:Nat,i < t∧t < l.length∧Tch (rd_T57 l i) (rd_T57 l t)∧M=late_m (rd_T57 l t) (rd ms t))∧∀ t:Nat,i < t→t < l.length→Tch (rd_T57 l i) (rd_T57 l t)→M≤late_m (rd_T57 l t) (rd ms t)
theorem IsMin.congr {l:List S57} {d:Int} {ms ms':List Int} {i:Nat} {M:Int} (h:IsMin l d ms i M) (he:∀ t:Nat,i < t→t < l.length→rd ms' t=rd ms t):IsMin l d ms' i M:=by
  obtain ⟨h0,h1,h2⟩:=h
  refine ⟨h0,?_,fun t ht hl hT=>by rw [he t ht hl];exact h2 t ht hl hT⟩
  rcases h1 with h1 | ⟨t,ht,hl,hT,h1⟩
  · exact .inl h1
  · exact .inr ⟨t,ht,hl,hT,by rw [he t ht hl];exact h1⟩
theorem IsMin.unique {l:List S57} {d:Int} {ms:List Int} {i:Nat} {M M':Int} (h:IsMin l d ms i M) (h':IsMin l d ms i M'):M=M':=by
  obtain ⟨a0,a1,a2⟩:=h
  obtain ⟨b0,b1,b2⟩:=h'
  have h1:M≤M':=by
    rcases b1 with b1 | ⟨t,ht,hl,hT,b1⟩
    · omega
    · have:=a2 t ht hl hT;omega
  have h2:M'≤M:=by
    rcases a1 with a1 | ⟨t,ht,hl,hT,a1⟩
    · omega
    · have:=b2 t ht hl hT;omega
  omega
def LateP (l:List S57) (d:Int) (ms:List Int) (i:Nat):Prop:=ms.length=l.length∧∀ t:Nat,i≤t→t < l.length→IsMin l d ms t (rd ms t)
theorem late_m_le {o:S57} {M:Int} (h0:-1000000≤M) (h1:M≤1000000):M - 1≤late_m o M∧late_m o M≤M:=by
  unfold late_m
  split
  · omega
  · unfold wrap64;omega
theorem LateP.unique {l:List S57} {d:Int} {ms ms':List Int} (h:LateP l d ms 0) (h':LateP l d ms' 0):ms=ms':=by
  have hk:∀ n i:Nat,l.length - i=n→i < l.length→rd ms i=rd ms' i:=by
    intro n
    induction n using Nat.strongRecOn with
    | ind n ih =>
      intro i hn hi
      have h1:=h.2 i (Nat.zero_le _) hi
      have h2:=(h'.2 i (Nat.zero_le _) hi).congr (ms':=ms) (fun t ht hl=>ih (l.length - t) (by omega) t rfl hl)
      exact h1.unique h2
  exact ext_rd (h.1.trans h'.1.symm) (fun i hi=>hk _ i rfl (by rw [← h.1];exact hi))
theorem LateP.bound {l:List S57} {d:Int} {ms:List Int} {i:Nat} (h:LateP l d ms i) (hn:l.length≤4096) (d0:0≤d) (d1:d≤4096):∀ n t:Nat,l.length - t=n→i≤t→t < l.length→d - n≤rd ms t∧rd ms t≤d:=by
  intro n
  induction n using Nat.strongRecOn with
  | ind n ih =>
    intro t hnt hit ht
    obtain ⟨a0,a1,a2⟩:=h.2 t hit ht
    refine ⟨?_,a0⟩
    rcases a1 with a1 | ⟨u,hu,hul,_,a1⟩
    · omega
    · have h1:=ih (l.length - u) (by omega) u rfl (by omega) hul
      have h2:=late_m_le (o:=rd_T57 l u) (M:=rd ms u) (by omega) (by omega)
      omega
end Go.Proofs.Ytpnfhddcnnoclaa.Px
