import Derived.Test.YtpnfhddcnnoclaaSort1
namespace Go.Proofs.Ytpnfhddcnnoclaa.Px
open Go.RowKit Go.Proofs.YtpnfhddcnnoclaaW.PrintWords Go.Proofs.YtpnfhddcnnoclaaW.PrintLast Go.Proofs.YtpnfhddcnnoclaaW.PrintMore
attribute [local go_sem] max2_int min2_int max_two min_two max_three min_three max_four min_four
set_option linter.unusedVariables false
set_option linter.unusedSimpArgs false
def kU:Kd (List Int) where
 sz:=1
 E:=[3]
 K:=fun w xs cs=>(Kd.slice 3 (Kd.int .i64)).K w xs cs∧∀ A n c,cs=[.slice (some A) n c]→0 < xs.length→∃ cells,w.heap[A.block]?=some (.cells cells 3 (0,0))
 M:=fun w base ok xs cs=>(Kd.slice 3 (Kd.int .i64)).M w base ok xs cs
 K_len:=fun h=>(Kd.slice 3 (Kd.int .i64)).K_len h.1
 K_one:=fun h=>(Kd.slice 3 (Kd.int .i64)).K_one h.1
 K_below:=by
  rintro w w1 x cs hb ⟨h,g⟩
  refine ⟨(Kd.slice 3 (Kd.int .i64)).K_below hb h,fun A n c e hp=>?_⟩
  obtain ⟨cells,hc⟩:=g A n c e hp
  exact ⟨cells,(hb.block A.block (Array.getElem?_eq_some_iff.1 hc).1).trans hc⟩
 K_of_M:=by
  rintro w base ok x cs h
  refine ⟨(Kd.slice 3 (Kd.int .i64)).K_of_M h,fun A n c e hp=>?_⟩
  obtain ⟨v,rfl,hR⟩:=h
  obtain ⟨g,cap,rfl,_,_,cells,hc⟩:=Kd.R_form hR hp
  injection e with e _
  injection e with e _ _
  injection e with e
  subst e
  exact ⟨cells,hc⟩
 M_mono:=fun hok h=>(Kd.slice 3 (Kd.int .i64)).M_mono hok h
 M_bound:=fun h=>(Kd.slice 3 (Kd.int .i64)).M_bound h
 M_move:=fun hm h=>(Kd.slice 3 (Kd.int .i64)).M_move hm h
 M_lower:=fun hb h=>(Kd.slice 3 (Kd.int .i64)).M_lower hb h
def k57u:Kd S57:=Kd.iso (Kd.pair (Kd.int .i64) (Kd.pair (Kd.int .i64) (Kd.pair kU (Kd.pair (Kd.int .i64) (Kd.pair (Kd.int .i64) (Kd.int .i64)))))) (fun x:S57=>(x.f0,x.f1,x.f2,x.f3,x.f4,x.f5))
theorem S57u {w:World} {base:Nat} {ok:Nat→Prop} {v:Value} {xs:List S57} (h:Kd.S k57 57 w base ok v xs):Kd.S k57u 57 w base ok v xs:=h
theorem K57u {w:World} {x:S57} {cs:List Value} (h:k57u.K w x cs):k57.K w x cs:=by
 obtain ⟨c0,c1,rfl,h0,d0,d1,rfl,h1,e0,e1,rfl,h2,h3⟩:=h
 exact ⟨c0,_,rfl,h0,d0,_,rfl,h1,e0,e1,rfl,h2.1,h3⟩
theorem K57u_free {w:World} {x:S57} {v0 v1 v2 v3 v4 v5:Value} (h:k57u.K w x [v0,v1,v2,v3,v4,v5]):∀ A n c,v2=.slice (some A) n c→0 < x.f2.length→∃ cells,w.heap[A.block]?=some (.cells cells 3 (0,0)):=by
 obtain ⟨c0,c1,e,h0,d0,d1,rfl,h1,e0,e1,rfl,h2,h3⟩:=h
 have l0:=(Kd.int .i64).K_len h0
 have l1:=(Kd.int .i64).K_len h1
 have l2:=kU.K_len h2
 obtain ⟨a,rfl⟩:∃ a,c0=[a]:=List.length_eq_one_iff.mp l0
 obtain ⟨b,rfl⟩:∃ a,d0=[a]:=List.length_eq_one_iff.mp l1
 obtain ⟨c,rfl⟩:∃ a,e0=[a]:=List.length_eq_one_iff.mp l2
 simp only [List.cons_append,List.nil_append,List.cons.injEq] at e
 obtain ⟨rfl,rfl,rfl,_⟩:=e
 intro A n c hc hp
 exact h2.2 A n c (by rw [hc]) hp
theorem C57u {w:World} {A:Option Addr} {n:Nat} {xs:List S57} (h:Kd.C k57u w A n xs):Kd.C k57 w A n xs:=ReadsRow.imp_ h (Below.refl _ _) (fun _ _ hp=>K57u hp)
theorem FK57u {W:World} {ok:Nat→Prop} {x:S57} {cs:List Value} (h:Kd.FK k57u W ok x cs):Kd.FK k57 W ok x cs:=Foot.imp h (fun _ hp=>K57u hp)
def layers_only.l0:Nat→List (S57)→List Int→Int→Int→Int→Int→List (S57)→Option (Int × Int × (List (S57)))
 | 0,_,_,_,_,_,_,_=>none
 | k + 1,x6,x11,x12,x13,x20109000,x20109001,x20109002=>if x13 < x12 then (if 0≤x13 then (if x13 < (x11.length:Int) then (if 0≤(rd x11 x13) then (if (rd x11 x13) < (x20109002.length:Int) then (if x6.length < 2199023255552 then (layers_only.l0 k (x6 ++ [(⟨(rd_T57 x20109002 (rd x11 x13)).f0,(rd_T57 x20109002 (rd x11 x13)).f1,(rd_T57 x20109002 (rd x11 x13)).f2,(rd_T57 x20109002 (rd x11 x13)).f3,(rd_T57 x20109002 (rd x11 x13)).f4,(rd_T57 x20109002 (rd x11 x13)).f5⟩:S57)]) x11 x12 (wrap64 (x13 + 1)) x20109000 x20109001 x20109002) else (none)) else (none)) else (none)) else (none)) else (none)) else (some (x20109000,x20109001,x6))
def layers_only.f (k:Nat) (a0_0:Int) (a0_1:Int) (l0_2:List (S57)) (l1:List Int):Option (Int × Int × (List (S57))):=(circuit_Copy.f k a0_0 a0_1 l0_2).bind fun bt20103=>(layers_only.l0 k ([]:List (S57)) l1 (l1.length:Int) 0 bt20103.1 bt20103.2.1 bt20103.2.2)
set_option maxHeartbeats 8000000 in
set_option maxRecDepth 100000 in
theorem layers_only.calls (k:Nat) (a0_0:Int) (a0_1:Int) (A0_2:Option Addr) (c0_2:Nat) (l0_2:List (S57)) (A1:Option Addr) (c1:Nat) (l1:List Int) (r1:Int) (r2:Int) (r3:List (S57)) (w:World) (hr0_2:Kd.C k57 w A0_2 l0_2.length l0_2) (hc0_2:l0_2.length≤c0_2) (hr1:Kd.C (Kd.int .i64) w A1 l1.length l1) (hc1:l1.length≤c1) (h:layers_only.f k a0_0 a0_1 l0_2 l1=some (r1,r2,r3)) :
  Calls Try.prog 40 #[.agg #[.int .i64 a0_0,.int .i64 a0_1,.slice A0_2 l0_2.length c0_2],.slice A1 l1.length c1] w fun e w'=>∃ v2_:Value,e=.returned (.agg #[.int .i64 r1,.int .i64 r2,v2_])∧Kd.N k57u 57 w' w.heap.size (fun k_=>(w.heap.size≤k_)) v2_ r3∧Below w.heap.size w w':=by
 have hu24:=Try.underlying24;have hu57:=Try.underlying57;have HR0_2:=Qh hr0_2;have HC0_2:=Qh hc0_2;clear hr0_2 hc0_2;have HR1:=Qh hr1;have HC1:=Qh hc1;clear hr1 hc1;have HB:=Qh (Below.refl w.heap.size w);have H:((circuit_Copy.f k a0_0 a0_1 l0_2).bind fun af'=>(layers_only.l0 k ([]:List (S57)) l1 (l1.length:Int) 0 af'.1 af'.2.1 af'.2.2))=some (r1,r2,r3):=h;clear h;replace H:=Option.bind_eq_some_iff.mp H;obtain ⟨⟨j',n',a'⟩,A30,H⟩:=H;replace H:(layers_only.l0 k ([]:List (S57)) l1 (l1.length:Int) 0 j' n' a')=some (r1,r2,r3):=H
 have A3:=Qh A30;clear A30;have H':=Qh H;clear H;go_enter Try.func40,Try.ntmps40
 go_wp2_with (first | ((with_reducible refine gate_dst (N:=2) rfl ?_);refine box_event ?hg (N:=2) ?hd (cs:=#[.int .i64 a0_0,.int .i64 a0_1,.slice A0_2 l0_2.length c0_2]) (t:=24) ?hr ?_;(case hd=>rfl);(case hg=>rfl);(case hr=>first | (go_simp;done) | (go_simp;rfl));intro e' hg w4 hbox hb;have n0_:=Qh (Qr (by repeat (first | (with_reducible first | exact HB.out | apply Qd | apply Qe | apply Qf) | exact HB.out)) hb);have n1_:=Qh (hbox);have n2_:=Qh ((by rw [hg];exact (Qs (by repeat (first | (with_reducible first | exact HB.out | apply Qd | apply Qe | apply Qf) | exact HB.out))):w.heap.size≤e'));have n3_:=Qh ((by rw [hg];exact (Qs (by repeat (first | (with_reducible first | exact HB.out | apply Qd | apply Qe | apply Qf) | exact HB.out))):w.heap.size≤e'));clear HB;have HB:=n0_;have d':=n1_;have cm':=n2_;have h':=n3_;clear n0_ n1_ n2_ n3_;clear hb hbox hg) | ((with_reducible refine gate_dst (N:=4) rfl ?_);refine box_event ?hg (N:=4) ?hd (cs:=#[.int .i64 0,.int .i64 0,.slice none 0 0]) (t:=24) ?hr ?_;(case hd=>rfl);(case hg=>rfl);(case hr=>first | (go_simp;done) | (go_simp;rfl));intro c' hg w5 hbox hb;have n0_:=Qh (Qq (g:=e') (o:=.cells #[.int .i64 a0_0,.int .i64 a0_1,.slice A0_2 l0_2.length c0_2] 24 (0,0)) (by (with_reducible repeat (first | refine Qa ?_ _ | refine Qb ?_ | refine Qc ?_ _));exact d'.out) hb);have n1_:=Qh (Qr (by repeat (first | (with_reducible first | exact HB.out | apply Qd | apply Qe | apply Qf | refine Qg ?_ h'.out) | exact HB.out)) hb);have n2_:=Qh (hbox);have n3_:=Qh ((by rw [hg];exact (Qs (by repeat (first | (with_reducible first | exact HB.out | apply Qd | apply Qe | apply Qf | refine Qg ?_ h'.out) | exact HB.out))):w.heap.size≤c'));have n4_:=Qh ((by rw [hg];exact (Qs (by repeat (first | (with_reducible first | exact HB.out | apply Qd | apply Qe | apply Qf | refine Qg ?_ h'.out) | exact HB.out))):w.heap.size≤c'));have n5_:=Qh ((by rw [hg];exact Nat.ne_of_lt (blk_lt (g:=e') (o:=.cells #[.int .i64 a0_0,.int .i64 a0_1,.slice A0_2 l0_2.length c0_2] 24 (0,0)) (by (with_reducible repeat (first | refine Qa ?_ _ | refine Qb ?_ | refine Qc ?_ _));exact d'.out)):e'≠c'));have n6_:=Qh ((by rw [hg];exact Nat.ne_of_gt (blk_lt (g:=e') (o:=.cells #[.int .i64 a0_0,.int .i64 a0_1,.slice A0_2 l0_2.length c0_2] 24 (0,0)) (by (with_reducible repeat (first | refine Qa ?_ _ | refine Qb ?_ | refine Qc ?_ _));exact d'.out)):c'≠e'));clear d';clear HB;have d':=n0_;have HB:=n1_;have g':=n2_;have cl':=n3_;have m':=n4_;have y':=n5_;have x':=n6_;clear n0_ n1_ n2_ n3_ n4_ n5_ n6_;clear hb hbox hg;have de':=y'.out;have dd':=x'.out;have bd':w5.cell? ⟨e',0,none⟩=some (.int .i64 a0_0):=(Qi d'.out 0).trans rfl;have bc':w5.cell? ⟨e',1,none⟩=some (.int .i64 a0_1):=(Qi d'.out 1).trans rfl;have bb':w5.cell? ⟨e',2,none⟩=some (.slice A0_2 l0_2.length c0_2):=(Qi d'.out 2).trans rfl;have ba':=Qj d'.out 0;have az':=Qj d'.out 1;have ay':=Qj d'.out 2) | ((with_reducible refine gate_callee (f:=54) rfl ?_);refine goesL_ (some 10) rfl rfl Try.func54 (by kernel_rfl) rfl #[.agg #[.int .i64 a0_0,.int .i64 a0_1,.slice A0_2 l0_2.length c0_2]] rfl (by (try simp only [List.map_toArray,List.map_cons,List.map_nil]);first | done | rfl | (simp only [List.length_drop,List.length_take];rfl)) ?_;(with_reducible refine (circuit_Copy.calls k a0_0 a0_1 _ _ l0_2 j' n' a' _ ?side1 ?side2 A3.out).mono ?_);(case side1=>repeat (first | exact (Qt HR0_2.out HB.out) | (with_reducible refine Kd.C_alloc ?_ _) | (with_reducible refine Kd.C_drewN ?_ _) | (with_reducible refine Kd.C_drew ?_)));(case side2=>exact HC0_2.out);rintro e w8 ⟨co',rfl,ho0,hb⟩;refine ⟨_,rfl,?_⟩;have n0_:=Qh (Kd.N_lower (Kd.N_mono (ok':=fun k_=>(w.heap.size≤k_)∧k_≠e'∧k_≠c') (Kd.S_N (Kd.S_bound (S57u ho0))) (fun k_ hk_=>⟨(Nat.le_trans (Qs (by repeat (first | (with_reducible first | exact HB.out | apply Qd | apply Qe | apply Qf | refine Qg ?_ h'.out | refine Qg ?_ m'.out) | exact HB.out))) hk_.2.1),(Kd.freshB (g:=e') (o:=.cells #[.int .i64 a0_0,.int .i64 a0_1,.slice A0_2 l0_2.length c0_2] 24 (0,0)) (by (with_reducible repeat (first | refine Qa ?_ _ | refine Qb ?_ | refine Qc ?_ _));exact d'.out) k_ hk_.2.1),(Kd.freshB (g:=c') (o:=.cells #[.int .i64 0,.int .i64 0,.slice none 0 0] 24 (0,0)) (by (with_reducible repeat (first | refine Qa ?_ _ | refine Qb ?_ | refine Qc ?_ _));exact g'.out) k_ hk_.2.1)⟩)) (Qs (by repeat (first | (with_reducible first | exact HB.out | apply Qd | apply Qe | apply Qf | refine Qg ?_ h'.out | refine Qg ?_ m'.out) | exact HB.out))));have n1_:=Qh (Qq (g:=e') (o:=.cells #[.int .i64 a0_0,.int .i64 a0_1,.slice A0_2 l0_2.length c0_2] 24 (0,0)) (by (with_reducible repeat (first | refine Qa ?_ _ | refine Qb ?_ | refine Qc ?_ _));exact d'.out) hb);have n2_:=Qh (Qq (g:=c') (o:=.cells #[.int .i64 0,.int .i64 0,.slice none 0 0] 24 (0,0)) (by (with_reducible repeat (first | refine Qa ?_ _ | refine Qb ?_ | refine Qc ?_ _));exact g'.out) hb);have n3_:=Qh (Qr (by repeat (first | (with_reducible first | exact HB.out | apply Qd | apply Qe | apply Qf | refine Qg ?_ h'.out | refine Qg ?_ m'.out) | exact HB.out)) hb);clear d';clear g';clear HB;have u':=n0_;have d':=n1_;have g':=n2_;have HB:=n3_;clear n0_ n1_ n2_ n3_;(try clear hb);(try clear hb2);(try clear hk);(try clear hi);(try clear ho0)) | ((with_reducible refine gate_dst (N:=5) rfl ?_);refine box_event ?hg (N:=5) ?hd (cs:=#[.int .i64 0,.int .i64 0,.slice none 0 0]) (t:=24) ?hr ?_;(case hd=>rfl);(case hg=>rfl);(case hr=>first | (go_simp;done) | (go_simp;rfl));intro b' hg w9 hbox hb;have n0_:=Qh (Kd.N_below (Kd.N_elderB (by (with_reducible repeat (first | apply Kd.N_alloc | apply Kd.N_drewN | apply Kd.N_drew));exact u'.out) b' (Nat.le_of_eq hg.symm)) hb);have n1_:=Qh (Qq (g:=e') (o:=.cells #[.int .i64 a0_0,.int .i64 a0_1,.slice A0_2 l0_2.length c0_2] 24 (0,0)) (by (with_reducible repeat (first | refine Qa ?_ _ | refine Qb ?_ | refine Qc ?_ _));exact d'.out) hb);have n2_:=Qh (Qq (g:=c') (o:=.cells #[.int .i64 0,.int .i64 0,.slice none 0 0] 24 (0,0)) (by (with_reducible repeat (first | refine Qa ?_ _ | refine Qb ?_ | refine Qc ?_ _));exact g'.out) hb);have n3_:=Qh (Qr (by repeat (first | (with_reducible first | exact HB.out | apply Qd | apply Qe | apply Qf | refine Qg ?_ h'.out | refine Qg ?_ m'.out) | exact HB.out)) hb);have n4_:=Qh (hbox);have n5_:=Qh ((by rw [hg];exact (Qs (by repeat (first | (with_reducible first | exact HB.out | apply Qd | apply Qe | apply Qf | refine Qg ?_ h'.out | refine Qg ?_ m'.out) | exact HB.out))):w.heap.size≤b'));have n6_:=Qh ((by rw [hg];exact (Qs (by repeat (first | (with_reducible first | exact HB.out | apply Qd | apply Qe | apply Qf | refine Qg ?_ h'.out | refine Qg ?_ m'.out) | exact HB.out))):w.heap.size≤b'));have n7_:=Qh ((by rw [hg];exact Nat.ne_of_lt (blk_lt (g:=e') (o:=.cells #[.int .i64 a0_0,.int .i64 a0_1,.slice A0_2 l0_2.length c0_2] 24 (0,0)) (by (with_reducible repeat (first | refine Qa ?_ _ | refine Qb ?_ | refine Qc ?_ _));exact d'.out)):e'≠b'));have n8_:=Qh ((by rw [hg];exact Nat.ne_of_gt (blk_lt (g:=e') (o:=.cells #[.int .i64 a0_0,.int .i64 a0_1,.slice A0_2 l0_2.length c0_2] 24 (0,0)) (by (with_reducible repeat (first | refine Qa ?_ _ | refine Qb ?_ | refine Qc ?_ _));exact d'.out)):b'≠e'));have n9_:=Qh ((by rw [hg];exact Nat.ne_of_lt (blk_lt (g:=c') (o:=.cells #[.int .i64 0,.int .i64 0,.slice none 0 0] 24 (0,0)) (by (with_reducible repeat (first | refine Qa ?_ _ | refine Qb ?_ | refine Qc ?_ _));exact g'.out)):c'≠b'));have n10_:=Qh ((by rw [hg];exact Nat.ne_of_gt (blk_lt (g:=c') (o:=.cells #[.int .i64 0,.int .i64 0,.slice none 0 0] 24 (0,0)) (by (with_reducible repeat (first | refine Qa ?_ _ | refine Qb ?_ | refine Qc ?_ _));exact g'.out)):b'≠c'));clear u';clear d';clear g';clear HB;have u':=n0_;have d':=n1_;have g':=n2_;have HB:=n3_;have f':=n4_;have ck':=n5_;have q':=n6_;have l':=n7_;have p':=n8_;have i':=n9_;have o':=n10_;clear n0_ n1_ n2_ n3_ n4_ n5_ n6_ n7_ n8_ n9_ n10_;clear hb hbox hg;have dc':=p'.out;have cv':=l'.out;have db':=o'.out;have cu':=i'.out;have av':w9.cell? ⟨b',0,none⟩=some (.int .i64 0):=(Qi f'.out 0).trans rfl;have au':w9.cell? ⟨b',1,none⟩=some (.int .i64 0):=(Qi f'.out 1).trans rfl;have at':w9.cell? ⟨b',2,none⟩=some (.slice none 0 0):=(Qi f'.out 2).trans rfl;have as':=Qj f'.out 0;have ar':=Qj f'.out 1;have aq':=Qj f'.out 2;obtain ⟨Ao13,co13,eo13⟩:=Kd.N_slice u'.out;subst eo13))
 go_loopg [6,13] k (fun kq v6 v13 w'=>∃ (x6_1:List (S57)) (x13_1:Int),v13=.int .i64 x13_1∧Aside0 (layers_only.l0 kq x6_1 l1 (l1.length:Int) x13_1 j' n' a'=some (r1,r2,r3))∧Aside0 (kq≤k)∧Aside0 (Kd.N k57u 57 w' w.heap.size (fun k_=>(w.heap.size≤k_)∧some k_≠((.slice Ao13 a'.length co13):Value).ownBlock∧k_≠e'∧k_≠c'∧k_≠b') v6 x6_1)∧Aside0 (Kd.N k57u 57 w' w.heap.size (fun k_=>(w.heap.size≤k_)∧some k_≠(v6:Value).ownBlock∧k_≠e'∧k_≠c'∧k_≠b') (.slice Ao13 a'.length co13) a')∧Aside0 (w'.heap[e']?=some (.cells #[.int .i64 a0_0,.int .i64 a0_1,(.slice A0_2 l0_2.length c0_2)] 24 (0,0)))∧Aside0 (w'.heap[c']?=some (.cells #[.int .i64 0,.int .i64 0,(.slice none 0 0)] 24 (0,0)))∧Aside0 (w'.heap[b']?=some (.cells #[.int .i64 j',.int .i64 n',(.slice Ao13 a'.length co13)] 24 (0,0)))∧Aside0 (Below w.heap.size w w'))
 case atStart=>exact ⟨(([]:List (S57))),(0),(by first | rfl | (simp;done) | (simp [*];done)),H',⟨Nat.le_refl _⟩,⟨by first | exact Kd.S_nil _ _ _ _ _ | exact Kd.N_nil _ _ _ _ _ | exact Kd.V_nil _ _ _ _ _ | exact Kd.Q_nil _ _ _ _ _ | exact Kd.R_nil _ _ _ _ _⟩,⟨by (with_reducible repeat (first | apply Kd.N_alloc | apply Kd.N_drewN | apply Kd.N_drew));exact Kd.N_mono (Kd.N_far (p:=⟨b',2,none⟩) (Kd.N_far (p:=⟨b',1,none⟩) (Kd.N_far (p:=⟨b',0,none⟩) (Kd.N_mono u'.out (fun k_ hk=>(⟨hk,hk.2⟩:_∧k_≠b'))) (fun _ hk=>hk.2) (.int .i64 j')) (fun _ hk=>hk.2) (.int .i64 n')) (fun _ hk=>hk.2) (.slice Ao13 a'.length co13)) (fun _ hk=>⟨hk.1.1.1,⟨(by simp [Value.ownBlock]),⟨hk.1.1.2.1,⟨hk.1.1.2.2,hk.1.2⟩⟩⟩⟩)⟩,⟨by (with_reducible repeat (first | refine Qa ?_ _ | refine Qb ?_ | refine Qc ?_ _));refine blk_far ?_ l'.out _;(with_reducible repeat (first | refine Qa ?_ _ | refine Qb ?_ | refine Qc ?_ _));refine blk_far ?_ l'.out _;(with_reducible repeat (first | refine Qa ?_ _ | refine Qb ?_ | refine Qc ?_ _));refine blk_far ?_ l'.out _;(with_reducible repeat (first | refine Qa ?_ _ | refine Qb ?_ | refine Qc ?_ _));exact d'.out⟩,⟨by (with_reducible repeat (first | refine Qa ?_ _ | refine Qb ?_ | refine Qc ?_ _));refine blk_far ?_ i'.out _;(with_reducible repeat (first | refine Qa ?_ _ | refine Qb ?_ | refine Qc ?_ _));refine blk_far ?_ i'.out _;(with_reducible repeat (first | refine Qa ?_ _ | refine Qb ?_ | refine Qc ?_ _));refine blk_far ?_ i'.out _;(with_reducible repeat (first | refine Qa ?_ _ | refine Qb ?_ | refine Qc ?_ _));exact g'.out⟩,⟨by (with_reducible repeat (first | refine Qa ?_ _ | refine Qb ?_ | refine Qc ?_ _));refine blk_put (cs:=#[.int .i64 j',.int .i64 n',.slice none 0 0]) ?_ 2 _ rfl;(with_reducible repeat (first | refine Qa ?_ _ | refine Qb ?_ | refine Qc ?_ _));refine blk_put (cs:=#[.int .i64 j',.int .i64 0,.slice none 0 0]) ?_ 1 _ rfl;(with_reducible repeat (first | refine Qa ?_ _ | refine Qb ?_ | refine Qc ?_ _));refine blk_put (cs:=#[.int .i64 0,.int .i64 0,.slice none 0 0]) ?_ 0 _ rfl;(with_reducible repeat (first | refine Qa ?_ _ | refine Qb ?_ | refine Qc ?_ _));exact f'.out⟩,⟨by repeat (first | (with_reducible first | exact HB.out | apply Qd | apply Qe | apply Qf | refine Qg ?_ h'.out | refine Qg ?_ m'.out | refine Qg ?_ q'.out) | exact HB.out)⟩⟩
 case round =>
  clear H';(try clear c1);(try clear p2);(try clear c4);(try clear c5);(try clear c6);(try clear c10);(try clear c11);(try clear av');(try clear au');(try clear at');(try clear bd');(try clear bc');(try clear bb');(try clear as');(try clear ar');(try clear aq');(try clear ba');(try clear az');(try clear ay');obtain ⟨x6_1,x13_1,rfl,HA,HK1,HO_6,k',d',g',f',HB⟩:=hrel
  cases gk with
  | zero=>exact absurd HA.out (by simp [layers_only.l0])
  | succ k1 =>
   have H:=HA.out;clear HA;simp only [layers_only.l0] at H;by_cases c14:x13_1 < (l1.length:Int)
   ·rw [if_pos c14] at H
    have c14b0:decide (x13_1 < (l1.length:Int))=true:=decide_eq_true c14;clear c14;by_cases c15:0≤x13_1
    ·rw [if_pos c15] at H
     have c15b0:decide (0≤x13_1)=true:=decide_eq_true c15;clear c15;by_cases c16:x13_1 < (l1.length:Int)
     ·rw [if_pos c16] at H
      have c16b0:decide (x13_1 < (l1.length:Int))=true:=decide_eq_true c16;clear c16;by_cases c17:0≤(rd l1 x13_1)
      ·rw [if_pos c17] at H
       have c17b0:decide (0≤(rd l1 x13_1))=true:=decide_eq_true c17;clear c17;by_cases c18:(rd l1 x13_1) < (a'.length:Int)
       ·rw [if_pos c18] at H
        have c18b0:decide ((rd l1 x13_1) < (a'.length:Int))=true:=decide_eq_true c18;clear c18;by_cases c19:x6_1.length < 2199023255552
        ·rw [if_pos c19] at H
         have bg':=Qh c19;clear c19;obtain ⟨al',s'⟩:∃ y_:List (S57),y_=(x6_1 ++ [(⟨(rd_T57 a' (rd l1 x13_1)).f0,(rd_T57 a' (rd l1 x13_1)).f1,(rd_T57 a' (rd l1 x13_1)).f2,(rd_T57 a' (rd l1 x13_1)).f3,(rd_T57 a' (rd l1 x13_1)).f4,(rd_T57 a' (rd l1 x13_1)).f5⟩:S57)]):=⟨_,rfl⟩;replace H:(layers_only.l0 k1 al' l1 (l1.length:Int) (wrap64 (x13_1 + 1)) j' n' a')=some (r1,r2,r3):=by first | (rw [s'];with_reducible exact H) | (have H2_:=(Option.bind_some _ _).symm.trans H;rw [s'];with_reducible exact H2_) | (have H2_:=(Option.bind_some _ _).symm.trans H;with_reducible exact H2_) | with_reducible exact H | (rw [s'];exact H) | exact H
         have aw':=Qh s';clear s';have H':=Qh H;clear H;have aj':0≤(x13_1:Int):=of_decide_eq_true (by first | (with_reducible assumption) | assumption);have ai':x13_1 < (l1.length:Int):=of_decide_eq_true (by first | (with_reducible assumption) | assumption);obtain ⟨cj',bf',aa'⟩:=Kd.at_int HR1.out x13_1 aj' ai'
         cases bf'
         replace aa':=(HB.out.cell (Qk w _ aa')).trans aa';replace aj':=eq_true aj';replace ai':=eq_true ai';have da':=p'.out;have ct':=l'.out;have cz':=o'.out;have cs':=i'.out;have ch':wr.cell? ⟨b',0,none⟩=some (.int .i64 j'):=(Qi f'.out 0).trans rfl;have cg':wr.cell? ⟨b',1,none⟩=some (.int .i64 n'):=(Qi f'.out 1).trans rfl;have cf':wr.cell? ⟨b',2,none⟩=some (.slice Ao13 a'.length co13):=(Qi f'.out 2).trans rfl;have by':=Qj f'.out 0;have bx':=Qj f'.out 1;have bw':=Qj f'.out 2;have ae':0≤((rd l1 x13_1):Int):=of_decide_eq_true (by first | (with_reducible assumption) | assumption);have ad':(rd l1 x13_1) < (a'.length:Int):=of_decide_eq_true (by first | (with_reducible assumption) | assumption);obtain ⟨t',ap',ao',be',bn',bm',am',bl',bk',bj',ag',ah'⟩:=at_T57 (C57u (Kd.N_reads' k'.out).2.2) (rd l1 x13_1) ae' ad'
         cases be'
         obtain ⟨ci',an',v',ak'⟩:=Kd.N_get k'.out z57 (rd l1 x13_1) ae' (by first | exact ad' | exact of_decide_eq_true (by first | (with_reducible assumption) | assumption) | (have e_:=(Kd.N_reads' k'.out).1;omega));obtain ⟨bi',bh',rfl,z',ab'⟩:=k57_openF (FK57u v');have r':=ak' 2 _ rfl;rw [add_field _ _ 2 (by omega)] at r'
         replace r':=Option.some.inj (r'.symm.trans am');injection r' with hva_ hvn_ hvc_
         rw [hva_] at ab'
         rw [hvc_] at z'
         have ac':=Qh (show Kd.V (Kd.int .i64) 3 _ w.heap.size _ _ ((rd_T57 a' (rd l1 x13_1)).f2) from Kd.V_mk z' ab');rw [hva_,hvc_] at v'
         have HMU_:=Qh v';clear v';clear hva_ hvn_ hvc_ ab' z';clear ak' an';have bo':=Qh ah';have bp':=Qh ag';clear ah' ag';replace ae':=eq_true ae';replace ad':=eq_true ad';go_wp2_with (first | ((with_reducible refine gate_builtin (b:=.append) (xs:=#[.tmp 17,.tmp 23]) rfl ?_);at_builtin;refine Kd.N_append k57u (w0:=w) w.heap.size rfl (.tmp 17) (.tmp 23) 22 57 (.agg #[(.int .i64 0),(.int .i64 0),(.slice none 0 0),(.int .i64 0),(.int .i64 0),(.int .i64 0)]) 64 rfl Try.underlying22 info57 rfl (by decide) (by omega) u6 x6_1 (⟨(rd_T57 a' (rd l1 x13_1)).f0,(rd_T57 a' (rd l1 x13_1)).f1,(rd_T57 a' (rd l1 x13_1)).f2,(rd_T57 a' (rd l1 x13_1)).f3,(rd_T57 a' (rd l1 x13_1)).f4,(rd_T57 a' (rd l1 x13_1)).f5⟩:S57) [.int .i64 ((rd_T57 a' (rd l1 x13_1)).f0),.int .i64 ((rd_T57 a' (rd l1 x13_1)).f1),.slice ap' ((rd_T57 a' (rd l1 x13_1)).f2).length ao',.int .i64 ((rd_T57 a' (rd l1 x13_1)).f3),.int .i64 ((rd_T57 a' (rd l1 x13_1)).f4),.int .i64 ((rd_T57 a' (rd l1 x13_1)).f5)] (fun k_=>(w.heap.size≤k_)∧some k_≠(.slice (some t') a'.length co13:Value).ownBlock∧k_≠e'∧k_≠c'∧k_≠b') (fun k_=>((fun k_=>(w.heap.size≤k_)∧some k_≠(.slice (some t') a'.length co13:Value).ownBlock∧k_≠e'∧k_≠c'∧k_≠b')) k_∧some k_≠(u6:Value).ownBlock) rfl rfl ?aP (fun _ hk=>hk) ?aF ?aO ?aB ?aS ?aL ?_;(case aP=>exact (Kd.FK_mono HMU_.out (fun k_ hk=>⟨⟨hk.1.1,⟨hk.2,⟨hk.1.2.2.1,⟨hk.1.2.2.2.1,hk.1.2.2.2.2⟩⟩⟩⟩,hk.1.2.1⟩)));(case aB=>exact (by repeat (first | (with_reducible first | exact HB.out | apply Qd | apply Qe | apply Qf | refine Qg ?_ h'.out | refine Qg ?_ m'.out | refine Qg ?_ q'.out) | exact HB.out)));(case aF=>exact (fun k_ hk=>⟨(Nat.le_trans (Qs (by repeat (first | (with_reducible first | exact HB.out | apply Qd | apply Qe | apply Qf | refine Qg ?_ h'.out | refine Qg ?_ m'.out | refine Qg ?_ q'.out) | exact HB.out))) hk),Kd.fresh' (Kd.N_lt (by (with_reducible repeat (first | apply Kd.N_alloc | apply Kd.N_drewN | apply Kd.N_drew));exact k'.out)) k_ hk,Kd.freshB (g:=e') (o:=.cells #[.int .i64 a0_0,.int .i64 a0_1,.slice A0_2 l0_2.length c0_2] 24 (0,0)) (by (with_reducible repeat (first | refine Qa ?_ _ | refine Qb ?_ | refine Qc ?_ _));exact d'.out) k_ hk,Kd.freshB (g:=c') (o:=.cells #[.int .i64 0,.int .i64 0,.slice none 0 0] 24 (0,0)) (by (with_reducible repeat (first | refine Qa ?_ _ | refine Qb ?_ | refine Qc ?_ _));exact g'.out) k_ hk,Kd.freshB (g:=b') (o:=.cells #[.int .i64 j',.int .i64 n',.slice (some t') a'.length co13] 24 (0,0)) (by (with_reducible repeat (first | refine Qa ?_ _ | refine Qb ?_ | refine Qc ?_ _));exact f'.out) k_ hk⟩));(case aO=>exact (by (with_reducible repeat (first | apply Kd.N_alloc | apply Kd.N_drewN | apply Kd.N_drew));exact HO_6.out));(case aS=>exact (Qs (by repeat (first | (with_reducible first | exact HB.out | apply Qd | apply Qe | apply Qf | refine Qg ?_ h'.out | refine Qg ?_ m'.out | refine Qg ?_ q'.out) | exact HB.out))));(case aL=>have:=bg'.out;omega);intro cn' w23 ho hb hg hat;rw [← aw'.out] at ho;have n0_:=Qh (Kd.N_afterv (ok:=(fun k_=>(w.heap.size≤k_)∧k_≠e'∧k_≠c'∧k_≠b')) (by (with_reducible repeat (first | apply Kd.N_alloc | apply Kd.N_drewN | apply Kd.N_drew));exact Kd.N_mono k'.out (fun _ hk=>⟨⟨hk.1,⟨hk.2.2.1,⟨hk.2.2.2.1,hk.2.2.2.2⟩⟩⟩,hk.2.1⟩)) hg hat);have n1_:=Qh (blk_grown (g:=e') (o:=.cells #[.int .i64 a0_0,.int .i64 a0_1,.slice A0_2 l0_2.length c0_2] 24 (0,0)) (by (with_reducible repeat (first | refine Qa ?_ _ | refine Qb ?_ | refine Qc ?_ _));exact d'.out) hg (Kd.N_ne HO_6.out d'.out (by decide)));have n2_:=Qh (blk_grown (g:=c') (o:=.cells #[.int .i64 0,.int .i64 0,.slice none 0 0] 24 (0,0)) (by (with_reducible repeat (first | refine Qa ?_ _ | refine Qb ?_ | refine Qc ?_ _));exact g'.out) hg (Kd.N_ne HO_6.out g'.out (by decide)));have n3_:=Qh (blk_grown (g:=b') (o:=.cells #[.int .i64 j',.int .i64 n',.slice (some t') a'.length co13] 24 (0,0)) (by (with_reducible repeat (first | refine Qa ?_ _ | refine Qb ?_ | refine Qc ?_ _));exact f'.out) hg (Kd.N_ne HO_6.out f'.out (by decide)));have n4_:=Qh (Kd.V_afterv (ok:=(fun k_=>(w.heap.size≤k_)∧some k_≠(.slice (some t') a'.length co13:Value).ownBlock∧k_≠e'∧k_≠c'∧k_≠b')) (by (with_reducible repeat (first | apply Kd.V_alloc | apply Kd.V_drewN | apply Kd.V_drew));exact Kd.V_mono ac'.out (fun _ hk=>⟨⟨hk.1.1,⟨hk.2,⟨hk.1.2.2.1,⟨hk.1.2.2.2.1,hk.1.2.2.2.2⟩⟩⟩⟩,hk.1.2.1⟩)) hg hat);have n5_:=Qh (hb);have n6_:=Qh (ho);clear k';clear d';clear g';clear f';clear ac';clear HB;clear HO_6;have k':=n0_;have d':=n1_;have g':=n2_;have f':=n3_;have ac':=n4_;have HB:=n5_;have ax':=n6_;clear n0_ n1_ n2_ n3_ n4_ n5_ n6_;clear ho hb hg hat))
         go_roundg k1
         case measure=>have:=HK1.out;omega
         case rel=>exact ⟨(al'),(wrap64 (x13_1 + 1)),(by first | rfl | (simp;done) | (simp [*];done)),H',⟨by have:=HK1.out;omega⟩,⟨by (with_reducible repeat (first | apply Kd.N_alloc | apply Kd.N_drewN | apply Kd.N_drew));exact ax'.out⟩,⟨by (with_reducible repeat (first | apply Kd.N_alloc | apply Kd.N_drewN | apply Kd.N_drew));exact Kd.N_mono k'.out (fun _ hk=>⟨hk.1.1,⟨hk.2,⟨hk.1.2.1,⟨hk.1.2.2.1,hk.1.2.2.2⟩⟩⟩⟩)⟩,⟨by (with_reducible repeat (first | refine Qa ?_ _ | refine Qb ?_ | refine Qc ?_ _));exact d'.out⟩,⟨by (with_reducible repeat (first | refine Qa ?_ _ | refine Qb ?_ | refine Qc ?_ _));exact g'.out⟩,⟨by (with_reducible repeat (first | refine Qa ?_ _ | refine Qb ?_ | refine Qc ?_ _));exact f'.out⟩,⟨by repeat (first | (with_reducible first | exact HB.out | apply Qd | apply Qe | apply Qf | refine Qg ?_ h'.out | refine Qg ?_ m'.out | refine Qg ?_ q'.out) | exact HB.out)⟩⟩
        ·rw [if_neg c19] at H
         exact absurd H (by simp)
       ·rw [if_neg c18] at H
        exact absurd H (by simp)
      ·rw [if_neg c17] at H
       exact absurd H (by simp)
     ·rw [if_neg c16] at H
      exact absurd H (by simp)
    ·rw [if_neg c15] at H
     exact absurd H (by simp)
   ·rw [if_neg c14] at H
    have c14b0:decide (x13_1 < (l1.length:Int))=false:=decide_eq_false c14;clear c14;simp only [Option.some.injEq,Prod.mk.injEq] at H;obtain ⟨rfl,rfl,rfl⟩:=H;obtain ⟨Ao24,co24,eo24⟩:=Kd.N_slice HO_6.out;subst eo24;have cy':=p'.out;have cr':=l'.out;have cx':=o'.out;have cq':=i'.out;have ce':wr.cell? ⟨b',0,none⟩=some (.int .i64 j'):=(Qi f'.out 0).trans rfl;have cd':wr.cell? ⟨b',1,none⟩=some (.int .i64 n'):=(Qi f'.out 1).trans rfl;have cc':wr.cell? ⟨b',2,none⟩=some (.slice Ao13 a'.length co13):=(Qi f'.out 2).trans rfl;have bv':=Qj f'.out 0;have bu':=Qj f'.out 1;have bt':=Qj f'.out 2;have cw':=x'.out;have cp':=y'.out;have cb':wr.cell? ⟨c',0,none⟩=some (.int .i64 0):=(Qi g'.out 0).trans rfl;have ca':wr.cell? ⟨c',1,none⟩=some (.int .i64 0):=(Qi g'.out 1).trans rfl;have bz':wr.cell? ⟨c',2,none⟩=some (.slice none 0 0):=(Qi g'.out 2).trans rfl;have bs':=Qj g'.out 0;have br':=Qj g'.out 1;have bq':=Qj g'.out 2;go_wp2
    refine bodyPost_ret (results_cell_row rfl _ _ c' 24 #[.int .i64 j',.int .i64 n',.slice Ao24 x6_1.length co24] (0,0) _ rfl (by (with_reducible repeat (first | refine Qa ?_ _ | refine Qb ?_ | refine Qc ?_ _));refine blk_put (cs:=#[.int .i64 j',.int .i64 n',.slice none 0 0]) ?_ 2 _ rfl;(with_reducible repeat (first | refine Qa ?_ _ | refine Qb ?_ | refine Qc ?_ _));refine blk_put (cs:=#[.int .i64 j',.int .i64 0,.slice none 0 0]) ?_ 1 _ rfl;(with_reducible repeat (first | refine Qa ?_ _ | refine Qb ?_ | refine Qc ?_ _));refine blk_put (cs:=#[.int .i64 0,.int .i64 0,.slice none 0 0]) ?_ 0 _ rfl;(with_reducible repeat (first | refine Qa ?_ _ | refine Qb ?_ | refine Qc ?_ _));refine blk_far ?_ i'.out _;(with_reducible repeat (first | refine Qa ?_ _ | refine Qb ?_ | refine Qc ?_ _));exact g'.out) Try.underlying24 rfl (by kernel_rfl)) rfl ?_
    exact ⟨_,by first | rfl | (simp [errW_none,errW_some]<;>rfl) | (simp [*,errW_none,errW_some]<;>rfl),by (with_reducible repeat (first | apply Kd.N_alloc | apply Kd.N_drewN | apply Kd.N_drew));exact Kd.N_mono (Kd.N_far (p:=⟨c',2,none⟩) (Kd.N_far (p:=⟨c',1,none⟩) (Kd.N_far (p:=⟨c',0,none⟩) (Kd.N_far (p:=⟨b',2,none⟩) (Kd.N_mono (Kd.N_mono HO_6.out (fun k_ hk=>(⟨hk,hk.2.2.2.2⟩:_∧k_≠b'))) (fun k_ hk=>(⟨hk,hk.1.2.2.2.1⟩:_∧k_≠c'))) (fun _ hk=>hk.1.2) (.slice Ao24 x6_1.length co24)) (fun _ hk=>hk.2) (.int .i64 j')) (fun _ hk=>hk.2) (.int .i64 n')) (fun _ hk=>hk.2) (.slice Ao24 x6_1.length co24)) (fun _ hk=>hk.1.1.1),by repeat (first | (with_reducible first | exact HB.out | apply Qd | apply Qe | apply Qf | refine Qg ?_ h'.out | refine Qg ?_ m'.out | refine Qg ?_ q'.out) | exact HB.out)⟩
def skey (ops:List S57) (ls:List Int) (i:Int):Int:=if (rd_T57 ops i).f0=4 then wrap64 (wrap64 (2 * rd ls i) + 1) else wrap64 (2 * rd ls i)
structure SInv (w0:World) (bc bl bk bo:Nat) (a0 a1:Int) (A:Option Addr) (c:Nat) (ops:List S57) (Al:Option Addr) (cl:Nat) (ls:List Int) (W:World):Prop where
 hb:Below w0.heap.size w0 W
 hc:W.heap[bc]?=some (.cells #[.int .i64 a0,.int .i64 a1,.slice A ops.length c] 24 (0,0))
 hl:W.heap[bl]?=some (.cells #[.slice Al ls.length cl] 25 (0,0))
 hk:W.heap[bk]?=some (.cells #[.func (.func 37) #[] #[.pointer (some ⟨bc,0,none⟩),.pointer (some ⟨bl,0,none⟩)]] 70 (0,0))
 ho:Kd.C k57 w0 A ops.length ops
 hs:Kd.R (Kd.int .i64) 3 W w0.heap.size (fun k=>k≠bo) (.slice Al ls.length cl) ls
section
variable {w0:World} {bc bl bk bo:Nat} {a0 a1:Int} {A:Option Addr} {c:Nat} {ops:List S57} {Al:Option Addr} {cl:Nat} {ls:List Int}
theorem SInv.drewN {W:World} (h:SInv w0 bc bl bk bo a0 a1 A c ops Al cl ls W) (n:Nat):SInv w0 bc bl bk bo a0 a1 A c ops Al cl ls (W.drewN n) :=
 ⟨pw_below_drewN h.hb n,h.hc,h.hl,h.hk,h.ho,Kd.R_drewN h.hs n⟩
theorem SInv.drew {W:World} (h:SInv w0 bc bl bk bo a0 a1 A c ops Al cl ls W):SInv w0 bc bl bk bo a0 a1 A c ops Al cl ls W.drew :=
 ⟨below_drew h.hb,h.hc,h.hl,h.hk,h.ho,Kd.R_drew h.hs⟩
theorem SInv.grown {W W1:World} (h:SInv w0 bc bl bk bo a0 a1 A c ops Al cl ls W) (hg:W.grownBy W1 (some bo)) (hgo:w0.heap.size≤bo) (n1:bc≠bo) (n2:bl≠bo) (n3:bk≠bo):SInv w0 bc bl bk bo a0 a1 A c ops Al cl ls W1 :=
 ⟨h.hb.grown hg h.hb.size (fun k e=>by cases e;exact hgo),blk_grown h.hc hg (fun e=>n1 (by injection e)),blk_grown h.hl hg (fun e=>n2 (by injection e)),blk_grown h.hk hg (fun e=>n3 (by injection e)),h.ho,Kd.R_grown h.hs hg (fun k hk e=>hk (by injection e))⟩
end
set_option maxHeartbeats 2000000 in
set_option maxRecDepth 100000 in
theorem Sorted1_calls {w0:World} {bc bl bk bo:Nat} {a0 a1:Int} {A:Option Addr} {c:Nat} {ops:List S57} {Al:Option Addr} {cl:Nat} {ls:List Int} (W:World) (x:Int) (h:SInv w0 bc bl bk bo a0 a1 A c ops Al cl ls W) (h0:0≤x) (h1:x < ops.length) (hl:ls.length=ops.length) :
  Calls Try.prog 37 #[.int .i64 x,.pointer (some ⟨bc,0,none⟩),.pointer (some ⟨bl,0,none⟩)] W fun e W'=>e=.returned (.int .i64 (skey ops ls x))∧W'=W:=by
 have hu24:=Try.underlying24
 have hu57:=Try.underlying57
 obtain ⟨ad,A2_,c2_,e_,hx0,hx1,hx2,hx3,hx4,hx5,hl_,hi_⟩:=at_T57 h.ho x h0 h1
 cases e_
 replace hx0:=(h.hb.cell (World.block_lt_of_cell? w0 _ hx0)).trans hx0
 obtain ⟨ad2,e2,g2⟩:=Kd.at_int (Kd.R_reads' h.hs).2.2 x h0 (by omega)
 cases e2
 have hz2:W.cell? ⟨bc,2,none⟩=some (.slice (some ad) ops.length c):=(blk_cell h.hc 2).trans rfl
 have hz0:W.cell? ⟨bl,0,none⟩=some (.slice (some ad2) ls.length cl):=(blk_cell h.hl 0).trans rfl
 have q0:=eq_true h0
 have q1:=eq_true h1
 have q2:(x < (ls.length:Int))=True:=eq_true (by omega)
 clear hx1 hx2 hx3 hx4 hx5 hl_ hi_ h0 h1 hl h
 unfold skey
 generalize (rd_T57 ops x).f0=f0 at *
 by_cases c0:f0=4
 ·have t0:(f0 == 4)=true:=beq_iff_eq.mpr c0
  rw [if_pos c0]
  clear c0
  go_enter Try.func37,Try.ntmps37
  go_wp2
  go_ret
  exact ⟨rfl,rfl⟩
 ·have t0:(f0 == 4)=false:=beq_eq_false_iff_ne.mpr c0
  rw [if_neg c0]
  clear c0
  go_enter Try.func37,Try.ntmps37
  go_wp2
  go_ret
  exact ⟨rfl,rfl⟩
set_option maxHeartbeats 2000000 in
set_option maxRecDepth 100000 in
theorem Sorted2_calls {w0:World} {bc bl bk bo:Nat} {a0 a1:Int} {A:Option Addr} {c:Nat} {ops:List S57} {Al:Option Addr} {cl:Nat} {ls:List Int} (W:World) (x y:Int) (h:SInv w0 bc bl bk bo a0 a1 A c ops Al cl ls W) (hl:ls.length=ops.length) (h0:0≤x) (h1:x < ops.length) (h2:0≤y) (h3:y < ops.length) :
  Calls Try.prog 39 #[.int .i64 x,.int .i64 y,.pointer (some ⟨bk,0,none⟩)] W fun e W'=>e=.returned (.int .i64 (wrap64 (skey ops ls x - skey ops ls y)))∧Drawn0 W W':=by
 have k1:=fun n=>Sorted1_calls (W.drewN n) x (h.drewN n) h0 h1 hl
 have k2:=fun n=>Sorted1_calls (W.drewN n) y (h.drewN n) h2 h3 hl
 have hz0:W.cell? ⟨bk,0,none⟩=some (.func (.func 37) #[] #[.pointer (some ⟨bc,0,none⟩),.pointer (some ⟨bl,0,none⟩)]):=(blk_cell h.hk 0).trans rfl
 have K1:=Aside0.mk k1
 have K2:=Aside0.mk k2
 clear k1 k2 h h0 h1 h2 h3 hl
 go_enter Try.func39,Try.ntmps39
 go_wp2
 go_quiet (first | (go_at_call_of 37 (Value.int IntKind.i64 x);exact Calls.quiet_of_same (K1.out _)) | (go_at_call_of 37 (Value.int IntKind.i64 y);exact Calls.quiet_of_same (K2.out _)))
 go_wp2
 go_ret
 exact ⟨rfl,⟨⟨_,rfl⟩⟩⟩
structure Srt (w0:World) (bc bl bk bo:Nat) (a0 a1:Int) (A:Option Addr) (c:Nat) (ops:List S57) (Al:Option Addr) (cl:Nat) (ls:List Int) (N cap:Nat) (W:World) (xs:List Int):Prop where
 inv:SInv w0 bc bl bk bo a0 a1 A c ops Al cl ls W
 dat:Kd.R (Kd.int .i64) 3 W w0.heap.size (fun k=>k=bo) (.slice (some ⟨bo,0,none⟩) N cap) xs
 val:∀ z,z ∈ xs→0≤z∧z < ops.length
 ne1:bc≠bo
 ne2:bl≠bo
 ne3:bk≠bo
 len:ls.length=ops.length
section
variable {w0:World} {bc bl bk bo:Nat} {a0 a1:Int} {A:Option Addr} {c:Nat} {ops:List S57} {Al:Option Addr} {cl:Nat} {ls:List Int} {N cap:Nat}
theorem Srt.bo_base {W:World} {xs:List Int} (h:Srt w0 bc bl bk bo a0 a1 A c ops Al cl ls N cap W xs):w0.heap.size≤bo:=own_base (Kd.own_of_R (h1:=fun _=>rfl) h.dat) bo rfl
theorem Srt.drewN {W:World} {xs:List Int} (h:Srt w0 bc bl bk bo a0 a1 A c ops Al cl ls N cap W xs) (n:Nat):Srt w0 bc bl bk bo a0 a1 A c ops Al cl ls N cap (W.drewN n) xs :=
 ⟨h.inv.drewN n,Kd.R_drewN h.dat n,h.val,h.ne1,h.ne2,h.ne3,h.len⟩
theorem Srt.drew {W:World} {xs:List Int} (h:Srt w0 bc bl bk bo a0 a1 A c ops Al cl ls N cap W xs):Srt w0 bc bl bk bo a0 a1 A c ops Al cl ls N cap W.drew xs :=
 ⟨h.inv.drew,Kd.R_drew h.dat,h.val,h.ne1,h.ne2,h.ne3,h.len⟩
theorem Srt.set {W:World} {xs:List Int} (h:Srt w0 bc bl bk bo a0 a1 A c ops Al cl ls N cap W xs) (i x:Int) (hx:0≤x∧x < ops.length):Srt w0 bc bl bk bo a0 a1 A c ops Al cl ls N cap (W.setCell ⟨bo,i.toNat,none⟩ (.int .i64 x)) (xs.set i.toNat x) :=
 ⟨h.inv.grown (Kd.R_putg h.dat i x).2 h.bo_base h.ne1 h.ne2 h.ne3,(Kd.R_putg h.dat i x).1,fun z hz=>by
  rcases List.mem_or_eq_of_mem_set hz with hz | rfl
  ·exact h.val z hz
  ·exact hx,h.ne1,h.ne2,h.ne3,h.len⟩
theorem Srt.at_ {W:World} {xs:List Int} (h:Srt w0 bc bl bk bo a0 a1 A c ops Al cl ls N cap W xs) (i:Int) (h0:0≤i) (h1:i < N):W.cell? ⟨bo,i.toNat,none⟩=some (.int .i64 (rd xs i))∧W.frozen? ⟨bo,i.toNat,none⟩=false:=Kd.R_celln 0 h.dat i h0 h1
theorem Srt.length {W:World} {xs:List Int} (h:Srt w0 bc bl bk bo a0 a1 A c ops Al cl ls N cap W xs):xs.length=N:=h_len h.dat
theorem Srt.valid {W:World} {xs:List Int} (h:Srt w0 bc bl bk bo a0 a1 A c ops Al cl ls N cap W xs) (i:Int) (h0:0≤i) (h1:i < N):0≤rd xs i∧rd xs i < ops.length:=by
 have hl:=h.length
 have h2:i.toNat < xs.length:=by omega
 refine h.val _ ?_
 unfold rd
 rw [List.getD_eq_getElem?_getD,List.getElem?_eq_getElem h2]
 exact List.getElem_mem _
end
def slt (ops:List S57) (ls:List Int) (x y:Int):Bool:=decide (wrap64 (skey ops ls x - skey ops ls y) < 0)
def swap2 (xs:List Int) (i j:Int):List Int:=(xs.set i.toNat (rd xs j)).set j.toNat (rd xs i)
def ins_down (lt:Int→Int→Bool) (a:Int):Nat→List Int→Int→List Int
 | 0,xs,_=>xs
 | f + 1,xs,j=>if a < j then (if lt (rd xs j) (rd xs (j - 1))=true then ins_down lt a f (swap2 xs j (j - 1)) (j - 1) else xs) else xs
def ins_sort (lt:Int→Int→Bool) (a:Int):Nat→List Int→Int→List Int
 | 0,xs,_=>xs
 | f + 1,xs,i=>ins_sort lt a f (ins_down lt a (i - a).toNat xs i) (i + 1)
set_option maxHeartbeats 4000000 in
set_option maxRecDepth 100000 in
theorem insertion_calls {w0:World} {bc bl bk bo:Nat} {a0 a1:Int} {A:Option Addr} {c:Nat} {ops:List S57} {Al:Option Addr} {cl:Nat} {ls:List Int} {N cap:Nat} (W:World) (xs:List Int) (a b:Int)
  (h:Srt w0 bc bl bk bo a0 a1 A c ops Al cl ls N cap W xs) (h0:0≤a) (h1:a≤b) (h2:b≤N) (hN:N≤4611686018427387904) :
  Calls Try.prog 58 #[.slice (some ⟨bo,0,none⟩) N cap,.int .i64 a,.int .i64 b,.func (.func 39) #[] #[.pointer (some ⟨bk,0,none⟩)]] W fun e W'=>e=.returned (.tuple #[])∧Srt w0 bc bl bk bo a0 a1 A c ops Al cl ls N cap W' (ins_sort (slt ops ls) a (b - (a + 1)).toNat xs (a + 1)):=by
 have HS:=Aside0.mk h
 have HAB:=Aside0.mk (And.intro h0 (And.intro h1 (And.intro h2 hN)))
 obtain ⟨a1_,ha1⟩:∃ a1_,a + 1=a1_:=⟨_,rfl⟩
 have ea:wrap64 (a + 1)=a1_:=by rw [← ha1];unfold wrap64;omega
 have HA1:=Aside0.mk ha1
 obtain ⟨res,hres⟩:∃ res,ins_sort (slt ops ls) a (b - (a + 1)).toNat xs (a + 1)=res:=⟨_,rfl⟩
 rw [hres]
 rw [ha1] at hres
 have HRES:=Aside0.mk hres
 clear h h0 h1 h2 hN hres ha1
 go_enter Try.func58,Try.ntmps58
 go_wp2
 go_loopg [8] (b - a1_).toNat (fun kq v8 w'=>∃ (ys:List Int) (i:Int),v8=.int .i64 i∧Aside0 (a1_≤i∧kq=(b - i).toNat)∧Aside0 (ins_sort (slt ops ls) a kq ys i=res)∧Aside0 (Srt w0 bc bl bk bo a0 a1 A c ops Al cl ls N cap w' ys))
 case atStart=>exact ⟨xs,a1_,by rw [ea],⟨Int.le_refl _,rfl⟩,HRES,HS⟩
 case round =>
  clear HRES HS ea
  obtain ⟨ys,i,rfl,HX,HRES,HS⟩:=hrel
  obtain ⟨gk0,egk⟩:∃ g,g=gk:=⟨_,rfl⟩
  subst egk
  by_cases c1:i < b
  ·have t1:decide (i < b)=true:=decide_eq_true c1
   obtain ⟨g1,eg⟩:∃ g1,gk0=g1 + 1:=⟨gk0 - 1,by have:=HX.out;omega⟩
   subst eg
   have H:=HRES.out
   unfold ins_sort at H
   obtain ⟨r1,hr1⟩:∃ r1,ins_down (slt ops ls) a (i - a).toNat ys i=r1:=⟨_,rfl⟩
   rw [hr1] at H
   have HRES:=Aside0.mk H
   have HR1:=Aside0.mk hr1
   have C1:=Aside0.mk c1
   have NI:=Aside0.mk (show a≤i by have:=HX.out;have:=HA1.out;omega)
   clear H hr1 c1
   go_wp2
   go_loopg [9] (i - a).toNat (fun kq v9 w'=>∃ (zs:List Int) (j:Int),v9=.int .i64 j∧Aside0 (a≤j∧j≤i∧kq=(j - a).toNat)∧Aside0 (ins_down (slt ops ls) a kq zs j=r1)∧Aside0 (Srt w0 bc bl bk bo a0 a1 A c ops Al cl ls N cap w' zs))
   case atStart=>exact ⟨ys,i,rfl,⟨NI.out,Int.le_refl _,rfl⟩,HR1,HS⟩
   case round =>
    clear HR1 HS
    obtain ⟨zs,j,rfl,HJ,HR1,HS⟩:=hrel
    by_cases c2:a < j
    ·have t2:decide (a < j)=true:=decide_eq_true c2
     obtain ⟨g2,eg2⟩:∃ g2,gk=g2 + 1:=⟨gk - 1,by have:=HJ.out;omega⟩
     subst eg2
     have H:=HR1.out
     unfold ins_down at H
     rw [if_pos c2] at H
     have bj:j < N:=by have:=HJ.out;have:=C1.out;have:=HAB.out;omega
     have b0:0≤j - 1:=by have:=HAB.out;omega
     obtain ⟨j1,hj1⟩:∃ j1,j - 1=j1:=⟨_,rfl⟩
     have ej:wrap64 (j - 1)=j1:=by have:=HAB.out;rw [← hj1];unfold wrap64;omega
     have ej2:IntKind.i64.wrap (j - 1)=j1:=by have:=HAB.out;rw [IntWalk.i64_in _ (by omega)];exact hj1
     rw [hj1] at H b0
     obtain ⟨x1,x1f⟩:=HS.out.at_ j (by omega) bj
     obtain ⟨x2,x2f⟩:=HS.out.at_ j1 b0 (by omega)
     have v1:=HS.out.valid j (by omega) bj
     have v2:=HS.out.valid j1 b0 (by omega)
     have HJ1:=Aside0.mk hj1
     have V1:=Aside0.mk v1
     have V2:=Aside0.mk v2
     have p0:(0≤j)=True:=eq_true (by omega)
     have p1:(j < (N:Int))=True:=eq_true bj
     have p2:(0≤j1)=True:=eq_true b0
     have p3:(j1 < (N:Int))=True:=eq_true (by omega)
     clear hj1 v1 v2 b0 bj c2
     generalize hy1:rd zs j=y1 at *
     generalize hy2:rd zs j1=y2 at *
     have HY1:=Aside0.mk hy1
     have HY2:=Aside0.mk hy2
     clear hy1 hy2
     by_cases c3:slt ops ls y1 y2=true
     ·rw [if_pos c3] at H
      have HR1':=Aside0.mk H
      have t3:decide (wrap64 (skey ops ls y1 - skey ops ls y2) < 0)=true:=c3
      clear H HR1 c3
      go_wp2
      go_quiet ((go_at_call 39;exact Calls.quiet_of ((Sorted2_calls _ y1 y2 (HS.out.inv.drewN _) HS.out.len V1.out.1 V1.out.2 V2.out.1 V2.out.2).mono fun _ _ h=>⟨h.1,h.2.out⟩)))
      have hjne:j.toNat≠j1.toNat:=by have:=of_eq_true p0;have:=of_eq_true p2;have:=HJ1.out;omega
      have hjne2:j1.toNat≠j.toNat:=fun e=>hjne e.symm
      go_wp2
      go_region
      go_wp2
      go_roundg g2
      case measure=>omega
      case rel=>exact ⟨swap2 zs j j1,j1,by first | rfl | rw [ej],⟨by have:=HJ.out;have:=HJ1.out;omega,by have:=HJ.out;have:=HJ1.out;omega,by have:=HJ.out;have:=HJ1.out;omega⟩,HR1',⟨by have h1:=((HS.out.drewN (nq + 1)).set j y2 V2.out).set j1 y1 V1.out;unfold swap2;rw [HY1.out,HY2.out];exact h1⟩⟩
     ·rw [if_neg c3] at H
      have t3:decide (wrap64 (skey ops ls y1 - skey ops ls y2) < 0)=false:=Bool.eq_false_iff.mpr c3
      have HE:=Aside0.mk (show zs=r1 from H)
      have X1:=Aside0.mk (h_w1 (x:=i) (n:=N) (by have:=HAB.out;have:=NI.out;omega) (by have:=C1.out;have:=HAB.out;omega) (by have:=HAB.out;omega))
      clear H HR1 c3
      go_wp2
      go_quiet ((go_at_call 39;exact Calls.quiet_of ((Sorted2_calls _ y1 y2 (HS.out.inv.drewN _) HS.out.len V1.out.1 V1.out.2 V2.out.1 V2.out.2).mono fun _ _ h=>⟨h.1,h.2.out⟩)))
      go_wp2
      go_roundg g1
      case measure=>omega
      case rel=>exact ⟨zs,i + 1,by rw [X1.out],⟨by have:=HX.out;omega,by have:=HX.out;have:=C1.out;omega⟩,⟨by rw [HE.out];exact HRES.out⟩,⟨HS.out.drewN _⟩⟩
    ·have t2:decide (a < j)=false:=decide_eq_false c2
     have H:=HR1.out
     have X1:=Aside0.mk (h_w1 (x:=i) (n:=N) (by have:=HAB.out;have:=NI.out;omega) (by have:=C1.out;have:=HAB.out;omega) (by have:=HAB.out;omega))
     have HE:=Aside0.mk (show zs=r1 by rw [← H,show gk=0 by have:=HJ.out;omega];rfl)
     clear H HR1 c2
     go_wp2
     go_quiet (fail)
     go_wp2
     go_roundg g1
     case measure=>omega
     case rel=>exact ⟨zs,i + 1,by rw [X1.out],⟨by have:=HX.out;omega,by have:=HX.out;have:=C1.out;omega⟩,⟨by rw [HE.out];exact HRES.out⟩,⟨HS.out.drewN _⟩⟩
  ·have t1:decide (i < b)=false:=decide_eq_false c1
   have H:=HRES.out
   obtain rfl:gk0=0:=by have:=HX.out;omega
   obtain rfl:ys=res:=H
   clear HRES c1
   go_wp2
   go_end0
   exact ⟨rfl,HS.out⟩
def srange (a b:Int):Nat→List Int→Int→List Int
 | 0,xs,_=>xs
 | f + 1,xs,i=>srange a b f (swap2 xs (a + i) (b + i)) (i + 1)
set_option maxHeartbeats 4000000 in
set_option maxRecDepth 100000 in
theorem srange_calls {w0:World} {bc bl bk bo:Nat} {a0 a1:Int} {A:Option Addr} {c:Nat} {ops:List S57} {Al:Option Addr} {cl:Nat} {ls:List Int} {N cap:Nat} (W:World) (xs:List Int) (a b n:Int)
  (h:Srt w0 bc bl bk bo a0 a1 A c ops Al cl ls N cap W xs) (h0:0≤a) (h1:0≤n) (hab:a + n≤b) (h2:b + n≤N) (hN:N≤4611686018427387904) :
  Calls Try.prog 69 #[.slice (some ⟨bo,0,none⟩) N cap,.int .i64 a,.int .i64 b,.int .i64 n,.func (.func 39) #[] #[.pointer (some ⟨bk,0,none⟩)]] W fun e W'=>e=.returned (.tuple #[])∧Srt w0 bc bl bk bo a0 a1 A c ops Al cl ls N cap W' (srange a b n.toNat xs 0):=by
 have HS:=Aside0.mk h
 have HAB:=Aside0.mk (And.intro h0 (And.intro h1 (And.intro hab (And.intro h2 hN))))
 obtain ⟨res,hres⟩:∃ res,srange a b n.toNat xs 0=res:=⟨_,rfl⟩
 rw [hres]
 have HRES:=Aside0.mk hres
 clear h h0 h1 h2 hN hres hab
 go_enter Try.func69,Try.ntmps69
 go_wp2
 go_loopg [10] n.toNat (fun kq v10 w'=>∃ (ys:List Int) (i:Int),v10=.int .i64 i∧Aside0 (0≤i∧kq=(n - i).toNat)∧Aside0 (srange a b kq ys i=res)∧Aside0 (Srt w0 bc bl bk bo a0 a1 A c ops Al cl ls N cap w' ys))
 case atStart=>exact ⟨xs,0,rfl,⟨Int.le_refl _,by rw [Int.sub_zero]⟩,HRES,HS⟩
 case round =>
  clear HRES HS
  obtain ⟨ys,i,rfl,HX,HRES,HS⟩:=hrel
  by_cases c1:i < n
  ·have t1:decide (i < n)=true:=decide_eq_true c1
   obtain ⟨g1,eg⟩:∃ g1,gk=g1 + 1:=⟨gk - 1,by have:=HX.out;omega⟩
   subst eg
   have H:=HRES.out
   unfold srange at H
   have x0:=HX.out.1
   have ab:=HAB.out
   obtain ⟨ai,hai⟩:∃ ai,a + i=ai:=⟨_,rfl⟩
   obtain ⟨bi,hbi⟩:∃ bi,b + i=bi:=⟨_,rfl⟩
   rw [hai,hbi] at H
   have wa:IntKind.i64.wrap (a + i)=ai:=by rw [IntWalk.i64_in _ (by omega)];exact hai
   have wb:IntKind.i64.wrap (b + i)=bi:=by rw [IntWalk.i64_in _ (by omega)];exact hbi
   have wi:wrap64 (i + 1)=i + 1:=by unfold wrap64;omega
   have WI:=Aside0.mk wi
   obtain ⟨x1,x1f⟩:=HS.out.at_ ai (by omega) (by omega)
   obtain ⟨x2,x2f⟩:=HS.out.at_ bi (by omega) (by omega)
   have V1:=Aside0.mk (HS.out.valid ai (by omega) (by omega))
   have V2:=Aside0.mk (HS.out.valid bi (by omega) (by omega))
   have NE:=Aside0.mk (show ai.toNat≠bi.toNat by omega)
   have p0:(0≤ai)=True:=eq_true (by omega)
   have p1:(ai < (N:Int))=True:=eq_true (by omega)
   have p2:(0≤bi)=True:=eq_true (by omega)
   have p3:(bi < (N:Int))=True:=eq_true (by omega)
   generalize hy1:rd ys ai=y1 at *
   generalize hy2:rd ys bi=y2 at *
   have HY1:=Aside0.mk hy1
   have HY2:=Aside0.mk hy2
   have HRES':=Aside0.mk H
   have C1:=Aside0.mk c1
   have HAI:=Aside0.mk hai
   clear hy1 hy2 H HRES c1 ab x0 hai hbi wi
   have hjne:ai.toNat≠bi.toNat:=NE.out
   have hjne2:bi.toNat≠ai.toNat:=fun e=>NE.out e.symm
   go_wp2
   go_region
   go_wp2
   go_roundg g1
   case measure=>omega
   case rel=>exact ⟨swap2 ys ai bi,i + 1,by first | rfl | rw [WI.out],⟨by have:=HX.out;omega,by have:=HX.out;have:=C1.out;omega⟩,HRES',⟨by have h1:=((HS.out.drewN 1).set ai y2 V2.out).set bi y1 V1.out;unfold swap2;rw [HY1.out,HY2.out];exact h1⟩⟩
  ·have t1:decide (i < n)=false:=decide_eq_false c1
   have H:=HRES.out
   obtain rfl:gk=0:=by have:=HX.out;omega
   obtain rfl:ys=res:=H
   clear HRES c1
   go_wp2
   go_end0
   exact ⟨rfl,HS.out⟩
def rot (m:Int):Nat→List Int→Int→Int→List Int
 | 0,xs,_,_=>xs
 | f + 1,xs,i,j=>if i=j then srange (m - i) m i.toNat xs 0 else if j < i then rot m f (srange (m - i) m j.toNat xs 0) (i - j) j else rot m f (srange (m - i) (m + j - i) i.toNat xs 0) i (j - i)
set_option maxHeartbeats 4000000 in
set_option maxRecDepth 100000 in
theorem rotate_calls {w0:World} {bc bl bk bo:Nat} {a0 a1:Int} {A:Option Addr} {c:Nat} {ops:List S57} {Al:Option Addr} {cl:Nat} {ls:List Int} {N cap:Nat} (W:World) (xs:List Int) (a m b:Int)
  (h:Srt w0 bc bl bk bo a0 a1 A c ops Al cl ls N cap W xs) (h0:0≤a) (h1:a < m) (hab:m < b) (h2:b≤N) (hN:N≤4611686018427387904) :
  Calls Try.prog 64 #[.slice (some ⟨bo,0,none⟩) N cap,.int .i64 a,.int .i64 m,.int .i64 b,.func (.func 39) #[] #[.pointer (some ⟨bk,0,none⟩)]] W fun e W'=>e=.returned (.tuple #[])∧Srt w0 bc bl bk bo a0 a1 A c ops Al cl ls N cap W' (rot m (b - a).toNat xs (m - a) (b - m)):=by
 have HS:=Aside0.mk h
 have HAB:=Aside0.mk (And.intro h0 (And.intro h1 (And.intro hab (And.intro h2 hN))))
 obtain ⟨res,hres⟩:∃ res,rot m (b - a).toNat xs (m - a) (b - m)=res:=⟨_,rfl⟩
 rw [hres]
 obtain ⟨i0,hi0⟩:∃ i0,m - a=i0:=⟨_,rfl⟩
 obtain ⟨j0,hj0⟩:∃ j0,b - m=j0:=⟨_,rfl⟩
 have ei:wrap64 (m - a)=i0:=by rw [← hi0];unfold wrap64;omega
 have ej:wrap64 (b - m)=j0:=by rw [← hj0];unfold wrap64;omega
 rw [hi0,hj0] at hres
 have HRES:=Aside0.mk hres
 have HI0:=Aside0.mk hi0
 have HJ0:=Aside0.mk hj0
 clear h h0 h1 h2 hN hres hab hi0 hj0
 go_enter Try.func64,Try.ntmps64
 go_wp2
 go_loopg [10,11] (b - a).toNat (fun kq v10 v11 w'=>∃ (ys:List Int) (i j:Int),v10=.int .i64 i∧v11=.int .i64 j∧Aside0 (1≤i∧1≤j∧i + j≤kq∧a≤m - i∧m + j≤b)∧Aside0 (rot m kq ys i j=res)∧Aside0 (Srt w0 bc bl bk bo a0 a1 A c ops Al cl ls N cap w' ys))
 case atStart=>exact ⟨xs,i0,j0,by rw [ei],by rw [ej],⟨by have:=HAB.out;have:=HI0.out;have:=HJ0.out;omega⟩,HRES,HS⟩
 case round =>
  clear HRES HS ei ej
  obtain ⟨ys,i,j,rfl,rfl,HX,HRES,HS⟩:=hrel
  obtain ⟨g1,eg⟩:∃ g1,gk=g1 + 1:=⟨gk - 1,by have:=HX.out;omega⟩
  subst eg
  have H:=HRES.out
  unfold rot at H
  have x0:=HX.out
  have ab:=HAB.out
  have wmi:wrap64 (m - i)=m - i:=by unfold wrap64;omega
  have w1:IntKind.i64.wrap (m - i)=m - i:=IntWalk.i64_in _ (by omega)
  by_cases c1:i=j
  ·have t1:(i != j)=false:=by rw [c1];exact bne_self_eq_false j
   rw [if_pos c1] at H
   have HRES':=Aside0.mk H
   have K:=Aside0.mk (fun W' hs=>srange_calls (w0:=w0) (bc:=bc) (bl:=bl) (bk:=bk) (bo:=bo) (a0:=a0) (a1:=a1) (A:=A) (c:=c) (ops:=ops) (Al:=Al) (cl:=cl) (ls:=ls) (N:=N) (cap:=cap) W' ys (m - i) m i hs (by omega) (by omega) (by omega) (by omega) (by omega))
   clear H HRES c1 x0 ab
   go_wp2_with (first | (go_at_call 69;refine (K.out _ HS.out).mono ?_;rintro e w9 ⟨rfl,hs⟩;have HS9:=Aside0.mk hs;clear hs))
   go_end0
   exact ⟨rfl,by have:=HS9.out;rw [HRES'.out] at this;exact this⟩
  ·have t1:(i != j)=true:=bne_iff_ne.mpr c1
   rw [if_neg c1] at H
   by_cases c2:j < i
   ·rw [if_pos c2] at H
    have t2:decide (j < i)=true:=decide_eq_true c2
    have HRES':=Aside0.mk H
    have wij:wrap64 (i - j)=i - j:=by unfold wrap64;omega
    have WIJ:=Aside0.mk wij
    have K:=Aside0.mk (fun W' hs=>srange_calls (w0:=w0) (bc:=bc) (bl:=bl) (bk:=bk) (bo:=bo) (a0:=a0) (a1:=a1) (A:=A) (c:=c) (ops:=ops) (Al:=Al) (cl:=cl) (ls:=ls) (N:=N) (cap:=cap) W' ys (m - i) m j hs (by omega) (by omega) (by omega) (by omega) (by omega))
    have C2:=Aside0.mk c2
    clear H HRES c1 c2 x0 ab wij
    go_wp2_with (first | (go_at_call 69;refine (K.out _ HS.out).mono ?_;rintro e w9 ⟨rfl,hs⟩;have HS9:=Aside0.mk hs;clear hs))
    go_roundg g1
    case measure=>omega
    case rel=>exact ⟨_,i - j,j,by first | rfl | rw [WIJ.out],rfl,⟨by have:=HX.out;have:=C2.out;omega⟩,HRES',HS9⟩
   ·rw [if_neg c2] at H
    have t2:decide (j < i)=false:=decide_eq_false c2
    have HRES':=Aside0.mk H
    have wij:wrap64 (j - i)=j - i:=by unfold wrap64;omega
    have WIJ:=Aside0.mk wij
    have wmj1:wrap64 (m + j)=m + j:=by unfold wrap64;omega
    have wmj2:wrap64 (m + j - i)=m + j - i:=by unfold wrap64;omega
    have K:=Aside0.mk (fun W' hs=>srange_calls (w0:=w0) (bc:=bc) (bl:=bl) (bk:=bk) (bo:=bo) (a0:=a0) (a1:=a1) (A:=A) (c:=c) (ops:=ops) (Al:=Al) (cl:=cl) (ls:=ls) (N:=N) (cap:=cap) W' ys (m - i) (m + j - i) i hs (by omega) (by omega) (by omega) (by omega) (by omega))
    have C2:=Aside0.mk (And.intro c1 c2)
    clear H HRES c1 c2 x0 ab wij
    go_wp2_with (first | (go_at_call 69;refine (K.out _ HS.out).mono ?_;rintro e w9 ⟨rfl,hs⟩;have HS9:=Aside0.mk hs;clear hs))
    go_roundg g1
    case measure=>omega
    case rel=>exact ⟨_,i,j - i,rfl,by first | rfl | rw [WIJ.out],⟨by have:=HX.out;have:=C2.out;omega⟩,HRES',HS9⟩
def bsr (P:Int→Bool):Nat→Int→Int→Int
 | 0,i,_=>i
 | f + 1,i,j=>if i < j then (if P ((i + j) / 2)=true then bsr P f ((i + j) / 2 + 1) j else bsr P f i ((i + j) / 2)) else i
def shup:Nat→List Int→Int→List Int
 | 0,xs,_=>xs
 | f + 1,xs,k=>shup f (swap2 xs k (k + 1)) (k + 1)
def shdn:Nat→List Int→Int→List Int
 | 0,xs,_=>xs
 | f + 1,xs,k=>shdn f (swap2 xs k (k - 1)) (k - 1)
theorem bsr_in (P:Int→Bool):∀ (f:Nat) (i j:Int),i≤j→i≤bsr P f i j∧bsr P f i j≤j
 | 0,i,j,h=>⟨Int.le_refl _,h⟩
 | f + 1,i,j,h=>by
  unfold bsr
  by_cases c:i < j
  ·rw [if_pos c]
   split
   ·have:=bsr_in P f ((i + j) / 2 + 1) j (by omega);omega
   ·have:=bsr_in P f i ((i + j) / 2) (by omega);omega
  ·rw [if_neg c];omega
theorem mid_w {i j h:Int} (h0:0≤i + j) (h1:i + j≤9223372036854775807) (e:(i + j) / 2=h):wrap64 (IntKind.u64.wrap (i + j) / 2)=h:=by
 rw [IntWalk.u64_in _ (by omega),e];unfold wrap64;omega
set_option maxHeartbeats 4000000 in
set_option maxRecDepth 100000 in
theorem sym1_calls {w0:World} {bc bl bk bo:Nat} {a0 a1:Int} {A:Option Addr} {c:Nat} {ops:List S57} {Al:Option Addr} {cl:Nat} {ls:List Int} {N cap:Nat} (W:World) (xs:List Int) (a m b:Int)
  (h:Srt w0 bc bl bk bo a0 a1 A c ops Al cl ls N cap W xs) (h0:0≤a) (h1:m - a=1) (hab:m < b) (h2:b≤N) (hN:N≤4611686018427387904) :
  Calls Try.prog 59 #[.slice (some ⟨bo,0,none⟩) N cap,.int .i64 a,.int .i64 m,.int .i64 b,.func (.func 39) #[] #[.pointer (some ⟨bk,0,none⟩)]] W fun e W'=>e=.returned (.tuple #[])∧Srt w0 bc bl bk bo a0 a1 A c ops Al cl ls N cap W' (shup (bsr (fun h=>slt ops ls (rd xs h) (rd xs a)) (b - m).toNat m b - 1 - a).toNat xs a):=by
 have HS:=Aside0.mk h
 have HAB:=Aside0.mk (And.intro h0 (And.intro h1 (And.intro hab (And.intro h2 hN))))
 obtain ⟨s,hs⟩:∃ s,bsr (fun h=>slt ops ls (rd xs h) (rd xs a)) (b - m).toNat m b=s:=⟨_,rfl⟩
 rw [hs]
 have hsin:=bsr_in (fun h=>slt ops ls (rd xs h) (rd xs a)) (b - m).toNat m b (by omega)
 rw [hs] at hsin
 have HSI:=Aside0.mk hs
 have HIN:=Aside0.mk hsin
 obtain ⟨res,hres⟩:∃ res,shup (s - 1 - a).toNat xs a=res:=⟨_,rfl⟩
 rw [hres]
 have HRES0:=Aside0.mk hres
 have wma:wrap64 (m - a)=m - a:=by unfold wrap64;omega
 have tma:(m - a == 1)=true:=by rw [h1];rfl
 clear h h0 h1 h2 hN hab hs hsin hres
 go_enter Try.func59,Try.ntmps59
 go_wp2
 go_loopg [10,11] (b - m).toNat (fun kq v10 v11 w'=>∃ (i j:Int),v10=.int .i64 i∧v11=.int .i64 j∧Aside0 (m≤i∧i≤j∧j≤b∧j - i≤kq)∧Aside0 (bsr (fun h=>slt ops ls (rd xs h) (rd xs a)) kq i j=s)∧Aside0 (Srt w0 bc bl bk bo a0 a1 A c ops Al cl ls N cap w' xs))
 case atStart=>exact ⟨m,b,rfl,rfl,⟨by have:=HAB.out;omega⟩,HSI,HS⟩
 case round =>
  clear HSI HS
  obtain ⟨i,j,rfl,rfl,HX,HSI,HS⟩:=hrel
  by_cases c1:i < j
  ·have t1:decide (i < j)=true:=decide_eq_true c1
   obtain ⟨g1,eg⟩:∃ g1,gk=g1 + 1:=⟨gk - 1,by have:=HX.out;omega⟩
   subst eg
   have H:=HSI.out
   unfold bsr at H
   rw [if_pos c1] at H
   have x0:=HX.out
   have ab:=HAB.out
   obtain ⟨hh,ehh⟩:∃ hh,(i + j) / 2=hh:=⟨_,rfl⟩
   rw [ehh] at H
   have wij:wrap64 (i + j)=i + j:=by unfold wrap64;omega
   have whh:=mid_w (by omega) (by omega) ehh
   have HB:=Aside0.mk (show i≤hh∧hh < j by omega)
   obtain ⟨x1,x1f⟩:=HS.out.at_ hh (by omega) (by omega)
   obtain ⟨x2,x2f⟩:=HS.out.at_ a (by omega) (by omega)
   have V1:=Aside0.mk (HS.out.valid hh (by omega) (by omega))
   have V2:=Aside0.mk (HS.out.valid a (by omega) (by omega))
   have p0:(0≤hh)=True:=eq_true (by omega)
   have p1:(hh < (N:Int))=True:=eq_true (by omega)
   have p2:(0≤a)=True:=eq_true (by omega)
   have p3:(a < (N:Int))=True:=eq_true (by omega)
   have WH:=Aside0.mk (show wrap64 (hh + 1)=hh + 1 by unfold wrap64;omega)
   by_cases c3:slt ops ls (rd xs hh) (rd xs a)=true
   ·rw [if_pos c3] at H
    have HSI':=Aside0.mk H
    have t3:decide (wrap64 (skey ops ls (rd xs hh) - skey ops ls (rd xs a)) < 0)=true:=c3
    generalize hy1:rd xs hh=y1 at *
    generalize hy2:rd xs a=y2 at *
    clear H HSI x0 ab ehh c1 c3 hy1 hy2
    go_wp2
    go_quiet ((go_at_call 39;exact Calls.quiet_of ((Sorted2_calls _ y1 y2 (HS.out.inv.drewN _) HS.out.len V1.out.1 V1.out.2 V2.out.1 V2.out.2).mono fun _ _ h=>⟨h.1,h.2.out⟩)))
    go_wp2
    go_roundg g1
    case measure=>omega
    case rel=>exact ⟨hh + 1,j,by first | rfl | rw [WH.out],rfl,⟨by have:=HX.out;have:=HB.out;omega⟩,HSI',⟨HS.out.drewN _⟩⟩
   ·rw [if_neg c3] at H
    have HSI':=Aside0.mk H
    have t3:decide (wrap64 (skey ops ls (rd xs hh) - skey ops ls (rd xs a)) < 0)=false:=Bool.eq_false_iff.mpr c3
    generalize hy1:rd xs hh=y1 at *
    generalize hy2:rd xs a=y2 at *
    clear H HSI x0 ab ehh c1 c3 hy1 hy2
    go_wp2
    go_quiet ((go_at_call 39;exact Calls.quiet_of ((Sorted2_calls _ y1 y2 (HS.out.inv.drewN _) HS.out.len V1.out.1 V1.out.2 V2.out.1 V2.out.2).mono fun _ _ h=>⟨h.1,h.2.out⟩)))
    go_wp2
    go_roundg g1
    case measure=>omega
    case rel=>exact ⟨i,hh,rfl,by first | rfl | rw [whh],⟨by have:=HX.out;have:=HB.out;omega⟩,HSI',⟨HS.out.drewN _⟩⟩
  ·have t1:decide (i < j)=false:=decide_eq_false c1
   have es:i=s:=by
    have H:=HSI.out
    cases gk with
    | zero=>exact H
    | succ g=>unfold bsr at H;rw [if_neg c1] at H;exact H
   subst es
   clear HSI HX c1
   have ab:=HAB.out
   have hin:=HIN.out
   have wi1:wrap64 (i - 1)=i - 1:=by unfold wrap64;omega
   have HRES:=HRES0
   clear ab hin
   go_wp2
   go_loopg [13] (i - 1 - a).toNat (fun kq v13 w'=>∃ (ys:List Int) (k:Int),v13=.int .i64 k∧Aside0 (a≤k∧kq=(i - 1 - k).toNat)∧Aside0 (shup kq ys k=res)∧Aside0 (Srt w0 bc bl bk bo a0 a1 A c ops Al cl ls N cap w' ys))
   case atStart=>exact ⟨xs,a,rfl,⟨Int.le_refl _,rfl⟩,HRES,HS⟩
   case round =>
    clear HRES HRES0 HS
    obtain ⟨ys,k,rfl,HX,HRES,HS⟩:=hrel
    by_cases c1:k < i - 1
    ·have t1:decide (k < i - 1)=true:=decide_eq_true c1
     obtain ⟨g1,eg⟩:∃ g1,gk=g1 + 1:=⟨gk - 1,by have:=HX.out;omega⟩
     subst eg
     have H:=HRES.out
     unfold shup at H
     have x0:=HX.out
     have ab:=HAB.out
     have hin:=HIN.out
     obtain ⟨k1,hk1⟩:∃ k1,k + 1=k1:=⟨_,rfl⟩
     rw [hk1] at H
     have wk:wrap64 (k + 1)=k1:=by rw [← hk1];unfold wrap64;omega
     have wk2:IntKind.i64.wrap (k + 1)=k1:=by rw [IntWalk.i64_in _ (by omega)];exact hk1
     have WK:=Aside0.mk wk
     obtain ⟨x1,x1f⟩:=HS.out.at_ k (by omega) (by omega)
     obtain ⟨x2,x2f⟩:=HS.out.at_ k1 (by omega) (by omega)
     have V1:=Aside0.mk (HS.out.valid k (by omega) (by omega))
     have V2:=Aside0.mk (HS.out.valid k1 (by omega) (by omega))
     have p0:(0≤k)=True:=eq_true (by omega)
     have p1:(k < (N:Int))=True:=eq_true (by omega)
     have p2:(0≤k1)=True:=eq_true (by omega)
     have p3:(k1 < (N:Int))=True:=eq_true (by omega)
     have hjne:k.toNat≠k1.toNat:=by omega
     have hjne2:k1.toNat≠k.toNat:=by omega
     generalize hy1:rd ys k=y1 at *
     generalize hy2:rd ys k1=y2 at *
     have HY1:=Aside0.mk hy1
     have HY2:=Aside0.mk hy2
     have HRES':=Aside0.mk H
     have C1:=Aside0.mk c1
     have HK1:=Aside0.mk hk1
     clear hy1 hy2 H HRES c1 ab x0 hin hk1
     go_wp2
     go_region
     go_wp2
     go_roundg g1
     case measure=>omega
     case rel=>exact ⟨swap2 ys k k1,k1,by first | rfl | rw [WK.out],⟨by have:=HX.out;have:=HK1.out;omega,by have:=HX.out;have:=C1.out;have:=HK1.out;omega⟩,HRES',⟨by have h1:=((HS.out.drewN 1).set k y2 V2.out).set k1 y1 V1.out;unfold swap2;rw [HY1.out,HY2.out];exact h1⟩⟩
    ·have t1:decide (k < i - 1)=false:=decide_eq_false c1
     have H:=HRES.out
     obtain rfl:gk=0:=by have:=HX.out;omega
     obtain rfl:ys=res:=H
     clear HRES c1
     go_wp2
     refine bodyPost_ret (results_none rfl _ _ _) rfl ?_
     exact ⟨rfl,HS.out⟩
set_option maxHeartbeats 4000000 in
set_option maxRecDepth 100000 in
theorem sym2_calls {w0:World} {bc bl bk bo:Nat} {a0 a1:Int} {A:Option Addr} {c:Nat} {ops:List S57} {Al:Option Addr} {cl:Nat} {ls:List Int} {N cap:Nat} (W:World) (xs:List Int) (a m b:Int)
  (h:Srt w0 bc bl bk bo a0 a1 A c ops Al cl ls N cap W xs) (h0:0≤a) (h1:a + 1 < m) (hab:b - m=1) (h2:b≤N) (hN:N≤4611686018427387904) :
  Calls Try.prog 59 #[.slice (some ⟨bo,0,none⟩) N cap,.int .i64 a,.int .i64 m,.int .i64 b,.func (.func 39) #[] #[.pointer (some ⟨bk,0,none⟩)]] W fun e W'=>e=.returned (.tuple #[])∧Srt w0 bc bl bk bo a0 a1 A c ops Al cl ls N cap W' (shdn (m - bsr (fun h=>!slt ops ls (rd xs m) (rd xs h)) (m - a).toNat a m).toNat xs m):=by
 have HS:=Aside0.mk h
 have HAB:=Aside0.mk (And.intro h0 (And.intro h1 (And.intro hab (And.intro h2 hN))))
 obtain ⟨s,hs⟩:∃ s,bsr (fun h=>!slt ops ls (rd xs m) (rd xs h)) (m - a).toNat a m=s:=⟨_,rfl⟩
 rw [hs]
 have hsin:=bsr_in (fun h=>!slt ops ls (rd xs m) (rd xs h)) (m - a).toNat a m (by omega)
 rw [hs] at hsin
 have HSI:=Aside0.mk hs
 have HIN:=Aside0.mk hsin
 obtain ⟨res,hres⟩:∃ res,shdn (m - s).toNat xs m=res:=⟨_,rfl⟩
 rw [hres]
 have HRES0:=Aside0.mk hres
 have wma:wrap64 (m - a)=m - a:=by unfold wrap64;omega
 have tma:(m - a == 1)=false:=beq_eq_false_iff_ne.mpr (by omega)
 have wbm:wrap64 (b - m)=b - m:=by unfold wrap64;omega
 have tbm:(b - m == 1)=true:=by rw [hab];rfl
 clear h h0 h1 h2 hN hab hs hsin hres
 go_enter Try.func59,Try.ntmps59
 go_wp2
 go_loopg [14,15] (m - a).toNat (fun kq v14 v15 w'=>∃ (i j:Int),v14=.int .i64 i∧v15=.int .i64 j∧Aside0 (a≤i∧i≤j∧j≤m∧j - i≤kq)∧Aside0 (bsr (fun h=>!slt ops ls (rd xs m) (rd xs h)) kq i j=s)∧Aside0 (Srt w0 bc bl bk bo a0 a1 A c ops Al cl ls N cap w' xs))
 case atStart=>exact ⟨a,m,rfl,rfl,⟨by have:=HAB.out;omega⟩,HSI,HS⟩
 case round =>
  clear HSI HS
  obtain ⟨i,j,rfl,rfl,HX,HSI,HS⟩:=hrel
  by_cases c1:i < j
  ·have t1:decide (i < j)=true:=decide_eq_true c1
   obtain ⟨g1,eg⟩:∃ g1,gk=g1 + 1:=⟨gk - 1,by have:=HX.out;omega⟩
   subst eg
   have H:=HSI.out
   unfold bsr at H
   rw [if_pos c1] at H
   have x0:=HX.out
   have ab:=HAB.out
   obtain ⟨hh,ehh⟩:∃ hh,(i + j) / 2=hh:=⟨_,rfl⟩
   rw [ehh] at H
   have wij:wrap64 (i + j)=i + j:=by unfold wrap64;omega
   have whh:=mid_w (by omega) (by omega) ehh
   have HB:=Aside0.mk (show i≤hh∧hh < j by omega)
   obtain ⟨x1,x1f⟩:=HS.out.at_ hh (by omega) (by omega)
   obtain ⟨x2,x2f⟩:=HS.out.at_ m (by omega) (by omega)
   have V1:=Aside0.mk (HS.out.valid hh (by omega) (by omega))
   have V2:=Aside0.mk (HS.out.valid m (by omega) (by omega))
   have p0:(0≤hh)=True:=eq_true (by omega)
   have p1:(hh < (N:Int))=True:=eq_true (by omega)
   have p2:(0≤m)=True:=eq_true (by omega)
   have p3:(m < (N:Int))=True:=eq_true (by omega)
   have WH:=Aside0.mk (show wrap64 (hh + 1)=hh + 1 by unfold wrap64;omega)
   by_cases c3:slt ops ls (rd xs m) (rd xs hh)=false
   ·rw [if_pos (by show (!slt ops ls (rd xs m) (rd xs hh))=true;rw [c3];rfl)] at H
    have HSI':=Aside0.mk H
    have t3:decide (wrap64 (skey ops ls (rd xs m) - skey ops ls (rd xs hh)) < 0)=false:=c3
    generalize hy1:rd xs hh=y1 at *
    generalize hy2:rd xs m=y2 at *
    clear H HSI x0 ab ehh c1 c3 hy1 hy2
    go_wp2
    go_quiet ((go_at_call 39;exact Calls.quiet_of ((Sorted2_calls _ y2 y1 (HS.out.inv.drewN _) HS.out.len V2.out.1 V2.out.2 V1.out.1 V1.out.2).mono fun _ _ h=>⟨h.1,h.2.out⟩)))
    go_wp2
    go_roundg g1
    case measure=>omega
    case rel=>exact ⟨hh + 1,j,by first | rfl | rw [WH.out],rfl,⟨by have:=HX.out;have:=HB.out;omega⟩,HSI',⟨HS.out.drewN _⟩⟩
   ·rw [if_neg (by show ¬ (!slt ops ls (rd xs m) (rd xs hh))=true;cases hq:slt ops ls (rd xs m) (rd xs hh);exact absurd hq c3;simp)] at H
    have HSI':=Aside0.mk H
    have t3:decide (wrap64 (skey ops ls (rd xs m) - skey ops ls (rd xs hh)) < 0)=true:=by cases hq:slt ops ls (rd xs m) (rd xs hh);exact absurd hq c3;exact hq
    generalize hy1:rd xs hh=y1 at *
    generalize hy2:rd xs m=y2 at *
    clear H HSI x0 ab ehh c1 c3 hy1 hy2
    go_wp2
    go_quiet ((go_at_call 39;exact Calls.quiet_of ((Sorted2_calls _ y2 y1 (HS.out.inv.drewN _) HS.out.len V2.out.1 V2.out.2 V1.out.1 V1.out.2).mono fun _ _ h=>⟨h.1,h.2.out⟩)))
    go_wp2
    go_roundg g1
    case measure=>omega
    case rel=>exact ⟨i,hh,rfl,by first | rfl | rw [whh],⟨by have:=HX.out;have:=HB.out;omega⟩,HSI',⟨HS.out.drewN _⟩⟩
  ·have t1:decide (i < j)=false:=decide_eq_false c1
   have es:i=s:=by
    have H:=HSI.out
    cases gk with
    | zero=>exact H
    | succ g=>unfold bsr at H;rw [if_neg c1] at H;exact H
   subst es
   clear HSI HX c1
   have ab:=HAB.out
   have hin:=HIN.out
   have HRES:=HRES0
   clear ab hin
   go_wp2
   go_loopg [17] (m - i).toNat (fun kq v17 w'=>∃ (ys:List Int) (k:Int),v17=.int .i64 k∧Aside0 (k≤m∧i≤k∧kq=(k - i).toNat)∧Aside0 (shdn kq ys k=res)∧Aside0 (Srt w0 bc bl bk bo a0 a1 A c ops Al cl ls N cap w' ys))
   case atStart=>exact ⟨xs,m,rfl,⟨Int.le_refl _,HIN.out.2,rfl⟩,HRES,HS⟩
   case round =>
    clear HRES HRES0 HS
    obtain ⟨ys,k,rfl,HX,HRES,HS⟩:=hrel
    by_cases c1:i < k
    ·have t1:decide (i < k)=true:=decide_eq_true c1
     obtain ⟨g1,eg⟩:∃ g1,gk=g1 + 1:=⟨gk - 1,by have:=HX.out;omega⟩
     subst eg
     have H:=HRES.out
     unfold shdn at H
     have x0:=HX.out
     have ab:=HAB.out
     have hin:=HIN.out
     obtain ⟨k1,hk1⟩:∃ k1,k - 1=k1:=⟨_,rfl⟩
     rw [hk1] at H
     have wk:wrap64 (k - 1)=k1:=by rw [← hk1];unfold wrap64;omega
     have wk2:IntKind.i64.wrap (k - 1)=k1:=by rw [IntWalk.i64_in _ (by omega)];exact hk1
     have WK:=Aside0.mk wk
     obtain ⟨x1,x1f⟩:=HS.out.at_ k (by omega) (by omega)
     obtain ⟨x2,x2f⟩:=HS.out.at_ k1 (by omega) (by omega)
     have V1:=Aside0.mk (HS.out.valid k (by omega) (by omega))
     have V2:=Aside0.mk (HS.out.valid k1 (by omega) (by omega))
     have p0:(0≤k)=True:=eq_true (by omega)
     have p1:(k < (N:Int))=True:=eq_true (by omega)
     have p2:(0≤k1)=True:=eq_true (by omega)
     have p3:(k1 < (N:Int))=True:=eq_true (by omega)
     have hjne:k.toNat≠k1.toNat:=by omega
     have hjne2:k1.toNat≠k.toNat:=by omega
     generalize hy1:rd ys k=y1 at *
     generalize hy2:rd ys k1=y2 at *
     have HY1:=Aside0.mk hy1
     have HY2:=Aside0.mk hy2
     have HRES':=Aside0.mk H
     have C1:=Aside0.mk c1
     have HK1:=Aside0.mk hk1
     clear hy1 hy2 H HRES c1 ab x0 hin hk1
     go_wp2
     go_region
     go_wp2
     go_roundg g1
     case measure=>omega
     case rel=>exact ⟨swap2 ys k k1,k1,by first | rfl | rw [WK.out],⟨by have:=HX.out;have:=HK1.out;omega,by have:=HX.out;have:=C1.out;have:=HK1.out;omega,by have:=HX.out;have:=C1.out;have:=HK1.out;omega⟩,HRES',⟨by have h1:=((HS.out.drewN 1).set k y2 V2.out).set k1 y1 V1.out;unfold swap2;rw [HY1.out,HY2.out];exact h1⟩⟩
    ·have t1:decide (i < k)=false:=decide_eq_false c1
     have H:=HRES.out
     obtain rfl:gk=0:=by have:=HX.out;omega
     obtain rfl:ys=res:=H
     clear HRES c1
     go_wp2
     refine bodyPost_ret (results_none rfl _ _ _) rfl ?_
     exact ⟨rfl,HS.out⟩
def symRest (rec:List Int→Int→Int→Int→List Int) (xs:List Int) (a m b mid s e:Int):List Int :=
 if mid < e∧e < b then rec (if a < s∧s < mid then rec (if s < m∧m < e then rot m (e - s).toNat xs (m - s) (e - m) else xs) a s mid else (if s < m∧m < e then rot m (e - s).toNat xs (m - s) (e - m) else xs)) mid e b
 else (if a < s∧s < mid then rec (if s < m∧m < e then rot m (e - s).toNat xs (m - s) (e - m) else xs) a s mid else (if s < m∧m < e then rot m (e - s).toNat xs (m - s) (e - m) else xs))
def symStart (lt:Int→Int→Bool) (xs:List Int) (a m b mid:Int):Int :=
 if mid < m then bsr (fun c=>!lt (rd xs (mid + m - 1 - c)) (rd xs c)) (b - m).toNat (mid + m - b) mid
 else bsr (fun c=>!lt (rd xs (mid + m - 1 - c)) (rd xs c)) (m - a).toNat a m
def sym (lt:Int→Int→Bool):Nat→List Int→Int→Int→Int→List Int
 | 0,xs,_,_,_=>xs
 | f + 1,xs,a,m,b =>
  if m - a=1 then shup (bsr (fun h=>lt (rd xs h) (rd xs a)) (b - m).toNat m b - 1 - a).toNat xs a
  else if b - m=1 then shdn (m - bsr (fun h=>!lt (rd xs m) (rd xs h)) (m - a).toNat a m).toNat xs m
  else symRest (sym lt f) xs a m b ((a + b) / 2) (symStart lt xs a m b ((a + b) / 2)) ((a + b) / 2 + m - symStart lt xs a m b ((a + b) / 2))
set_option maxHeartbeats 8000000 in
set_option maxRecDepth 100000 in
theorem sym3_calls {w0:World} {bc bl bk bo:Nat} {a0 a1:Int} {A:Option Addr} {c:Nat} {ops:List S57} {Al:Option Addr} {cl:Nat} {ls:List Int} {N cap:Nat} (W:World) (xs:List Int) (a m b mid e s:Int) (rec:List Int→Int→Int→Int→List Int)
  (h:Srt w0 bc bl bk bo a0 a1 A c ops Al cl ls N cap W xs) (h0:0≤a) (h1:a + 1 < m) (hab:m + 1 < b) (h2:b≤N) (hN:N≤4611686018427387904) (hmid:(a + b) / 2=mid) (cm:mid < m)
  (hs:bsr (fun c=>!slt ops ls (rd xs (mid + m - 1 - c)) (rd xs c)) (b - m).toNat (mid + m - b) mid=s) (hee:mid + m - s=e)
  (K1:a < s→s < mid→∀ (W':World) (ys:List Int),Srt w0 bc bl bk bo a0 a1 A c ops Al cl ls N cap W' ys→Calls Try.prog 59 #[.slice (some ⟨bo,0,none⟩) N cap,.int .i64 a,.int .i64 s,.int .i64 mid,.func (.func 39) #[] #[.pointer (some ⟨bk,0,none⟩)]] W' fun e W'=>e=.returned (.tuple #[])∧Srt w0 bc bl bk bo a0 a1 A c ops Al cl ls N cap W' (rec ys a s mid))
  (K2:mid < e→e < b→∀ (W':World) (ys:List Int),Srt w0 bc bl bk bo a0 a1 A c ops Al cl ls N cap W' ys→Calls Try.prog 59 #[.slice (some ⟨bo,0,none⟩) N cap,.int .i64 mid,.int .i64 e,.int .i64 b,.func (.func 39) #[] #[.pointer (some ⟨bk,0,none⟩)]] W' fun e_ W'=>e_=.returned (.tuple #[])∧Srt w0 bc bl bk bo a0 a1 A c ops Al cl ls N cap W' (rec ys mid e b)) :
  Calls Try.prog 59 #[.slice (some ⟨bo,0,none⟩) N cap,.int .i64 a,.int .i64 m,.int .i64 b,.func (.func 39) #[] #[.pointer (some ⟨bk,0,none⟩)]] W fun e_ W'=>e_=.returned (.tuple #[])∧Srt w0 bc bl bk bo a0 a1 A c ops Al cl ls N cap W' (symRest rec xs a m b mid s e):=by
 have HS:=Aside0.mk h
 have hsin:=bsr_in (fun c=>!slt ops ls (rd xs (mid + m - 1 - c)) (rd xs c)) (b - m).toNat (mid + m - b) mid (by omega)
 rw [hs] at hsin
 obtain ⟨s0,hs0⟩:∃ s0,(mid + m - b)=s0:=⟨_,rfl⟩
 obtain ⟨r0,hr0⟩:∃ r0,mid=r0:=⟨_,rfl⟩
 obtain ⟨n,hn⟩:∃ n,mid + m=n:=⟨_,rfl⟩
 obtain ⟨p,hp⟩:∃ p,n - 1=p:=⟨_,rfl⟩
 have eP:(fun c=>!slt ops ls (rd xs (mid + m - 1 - c)) (rd xs c))=(fun c=>!slt ops ls (rd xs (p - c)) (rd xs c)):=by rw [hn,hp]
 rw [eP] at hs
 rw [hs0] at hs
 have HAB:=Aside0.mk (show (0≤a∧a + 1 < m∧m + 1 < b∧b≤N∧N≤4611686018427387904∧(a + b) / 2=mid)∧(mid + m=n∧n - 1=p∧n - s=e)∧(a≤s∧s≤m∧m≤e∧e≤b∧s≤mid∧mid≤e)∧(s0≤r0∧s0≤s∧s≤r0)∧(∀ c,s0≤c→c < r0→a≤c∧c < b∧a≤p - c∧p - c < b) by
  refine ⟨⟨h0,h1,hab,h2,hN,hmid⟩,⟨hn,hp,by omega⟩,by omega,by omega,fun c hc1 hc2=>by omega⟩)
 have HSI:=Aside0.mk hs
 have FU:=Aside0.mk (show (r0 - s0).toNat=(b - m).toNat by omega)
 have HK1:=Aside0.mk K1
 have HK2:=Aside0.mk K2
 have wma:wrap64 (m - a)=m - a:=by unfold wrap64;omega
 have tma:(m - a == 1)=false:=beq_eq_false_iff_ne.mpr (by omega)
 have wbm:wrap64 (b - m)=b - m:=by unfold wrap64;omega
 have tbm:(b - m == 1)=false:=beq_eq_false_iff_ne.mpr (by omega)
 have wab:wrap64 (a + b)=a + b:=by unfold wrap64;omega
 have wmid:=mid_w (by omega) (by omega) hmid
 have wn:wrap64 (mid + m)=n:=by rw [← hn];unfold wrap64;omega
 have wp:wrap64 (n - 1)=p:=by rw [← hp];unfold wrap64;omega
 have we:wrap64 (n - s)=e:=by rw [show n - s=e by omega];unfold wrap64;omega
 have tcm:decide (mid < m)=true:=decide_eq_true cm
 have wnb:wrap64 (n - b)=s0:=by rw [← hs0,← hn];unfold wrap64;omega
 obtain rfl:mid=r0:=hr0
 clear h h0 h1 h2 hN hab hs hsin hmid hn hp hee cm K1 K2 eP hs0
 go_enter Try.func59,Try.ntmps59
 go_wp2
 go_loopg [20,21] (mid - s0).toNat (fun kq v20 v21 w'=>∃ (i j:Int),v20=.int .i64 i∧v21=.int .i64 j∧Aside0 (s0≤i∧i≤j∧j≤mid∧j - i≤kq)∧Aside0 (bsr (fun c=>!slt ops ls (rd xs (p - c)) (rd xs c)) kq i j=s)∧Aside0 (Srt w0 bc bl bk bo a0 a1 A c ops Al cl ls N cap w' xs))
 case atStart=>exact ⟨s0,mid,by first | rfl | rw [wnb] | rw [wmid],by first | rfl | rw [wmid],⟨by have:=HAB.out;omega⟩,⟨by first | exact HSI.out | (rw [FU.out];exact HSI.out)⟩,HS⟩
 case round =>
  clear HSI HS FU
  obtain ⟨i,j,rfl,rfl,HX,HSI,HS⟩:=hrel
  by_cases c1:i < j
  ·have t1:decide (i < j)=true:=decide_eq_true c1
   obtain ⟨g1,eg⟩:∃ g1,gk=g1 + 1:=⟨gk - 1,by have:=HX.out;omega⟩
   subst eg
   have H:=HSI.out
   unfold bsr at H
   rw [if_pos c1] at H
   have x0:=HX.out
   obtain ⟨ab,ab1,ab2,ab3,ab4⟩:=HAB.out
   obtain ⟨hh,ehh⟩:∃ hh,(i + j) / 2=hh:=⟨_,rfl⟩
   rw [ehh] at H
   have ab5:=ab4 hh (by omega) (by omega)
   clear ab4
   have wij:wrap64 (i + j)=i + j:=by unfold wrap64;omega
   have whh:=mid_w (by omega) (by omega) ehh
   have HB:=Aside0.mk (show i≤hh∧hh < j by omega)
   obtain ⟨ph,eph⟩:∃ ph,p - hh=ph:=⟨_,rfl⟩
   rw [eph] at H ab5
   have wph:wrap64 (p - hh)=ph:=by rw [← eph];unfold wrap64;omega
   have wph2:IntKind.i64.wrap (p - hh)=ph:=by rw [IntWalk.i64_in _ (by omega)];exact eph
   obtain ⟨x1,x1f⟩:=HS.out.at_ hh (by omega) (by omega)
   obtain ⟨x2,x2f⟩:=HS.out.at_ ph (by omega) (by omega)
   have V1:=Aside0.mk (HS.out.valid hh (by omega) (by omega))
   have V2:=Aside0.mk (HS.out.valid ph (by omega) (by omega))
   have p0:(0≤hh)=True:=eq_true (by omega)
   have p1:(hh < (N:Int))=True:=eq_true (by omega)
   have p2:(0≤ph)=True:=eq_true (by omega)
   have p3:(ph < (N:Int))=True:=eq_true (by omega)
   have WH:=Aside0.mk (show wrap64 (hh + 1)=hh + 1 by unfold wrap64;omega)
   by_cases c3:slt ops ls (rd xs ph) (rd xs hh)=false
   ·rw [if_pos (by show (!slt ops ls (rd xs ph) (rd xs hh))=true;rw [c3];rfl)] at H
    have HSI':=Aside0.mk H
    have t3:decide (wrap64 (skey ops ls (rd xs ph) - skey ops ls (rd xs hh)) < 0)=false:=c3
    generalize hy1:rd xs hh=y1 at *
    generalize hy2:rd xs ph=y2 at *
    clear H HSI x0 ab ab1 ab2 ab3 ab5 ehh c1 c3 hy1 hy2 eph
    go_wp2
    go_quiet ((go_at_call 39;exact Calls.quiet_of ((Sorted2_calls _ y2 y1 (HS.out.inv.drewN _) HS.out.len V2.out.1 V2.out.2 V1.out.1 V1.out.2).mono fun _ _ h=>⟨h.1,h.2.out⟩)))
    go_wp2
    go_roundg g1
    case measure=>omega
    case rel=>exact ⟨hh + 1,j,by first | rfl | rw [WH.out],rfl,⟨by have:=HX.out;have:=HB.out;omega⟩,HSI',⟨HS.out.drewN _⟩⟩
   ·rw [if_neg (by show ¬ (!slt ops ls (rd xs ph) (rd xs hh))=true;cases hq:slt ops ls (rd xs ph) (rd xs hh);exact absurd hq c3;simp)] at H
    have HSI':=Aside0.mk H
    have t3:decide (wrap64 (skey ops ls (rd xs ph) - skey ops ls (rd xs hh)) < 0)=true:=by cases hq:slt ops ls (rd xs ph) (rd xs hh);exact absurd hq c3;exact hq
    generalize hy1:rd xs hh=y1 at *
    generalize hy2:rd xs ph=y2 at *
    clear H HSI x0 ab ab1 ab2 ab3 ab5 ehh c1 c3 hy1 hy2 eph
    go_wp2
    go_quiet ((go_at_call 39;exact Calls.quiet_of ((Sorted2_calls _ y2 y1 (HS.out.inv.drewN _) HS.out.len V2.out.1 V2.out.2 V1.out.1 V1.out.2).mono fun _ _ h=>⟨h.1,h.2.out⟩)))
    go_wp2
    go_roundg g1
    case measure=>omega
    case rel=>exact ⟨i,hh,rfl,by first | rfl | rw [whh],⟨by have:=HX.out;have:=HB.out;omega⟩,HSI',⟨HS.out.drewN _⟩⟩
  ·have t1:decide (i < j)=false:=decide_eq_false c1
   have es:i=s:=by
    have H:=HSI.out
    cases gk with
    | zero=>exact H
    | succ g=>unfold bsr at H;rw [if_neg c1] at H;exact H
   subst es
   clear HSI HX c1
   have b1:(i < m ↔ mid < e)∧(i < mid ↔ m < e):=by have:=HAB.out;omega
   have d1:∃ q:Bool,decide (i < m)=q∧decide (mid < e)=q∧Aside0 (((i < m)=(q=true))∧(mid < e)=(q=true)):=⟨decide (i < m),rfl,by simp only [b1.1],⟨by simp,by simp [b1.1]⟩⟩
   have d2:∃ q:Bool,decide (i < mid)=q∧decide (m < e)=q∧Aside0 (((i < mid)=(q=true))∧(m < e)=(q=true)):=⟨decide (i < mid),rfl,by simp only [b1.2],⟨by simp,by simp [b1.2]⟩⟩
   have d3:∃ q:Bool,decide (a < i)=q∧Aside0 ((a < i)=(q=true)):=⟨decide (a < i),rfl,⟨by simp⟩⟩
   have d4:∃ q:Bool,decide (e < b)=q∧Aside0 ((e < b)=(q=true)):=⟨decide (e < b),rfl,⟨by simp⟩⟩
   clear b1
   obtain ⟨q1,y1,y2,Q1⟩:=d1
   obtain ⟨q2,y3,y4,Q2⟩:=d2
   obtain ⟨q3,y5,Q3⟩:=d3
   obtain ⟨q4,y6,Q4⟩:=d4
   cases q1<;>cases q2<;>cases q3<;>cases q4
   all_goals
    go_wp2_with (first | (go_at_call 64;refine (rotate_calls _ xs i m e HS.out (by have:=HAB.out;omega) (of_eq_true (Q1.out.1.trans (by simp))) (of_eq_true (Q2.out.2.trans (by simp))) (by have:=HAB.out;omega) (by have:=HAB.out;omega)).mono ?_;rintro e_ w9 ⟨rfl,hs9⟩;clear HS;have HS:=Aside0.mk hs9;clear hs9) | (go_at_call 59;(first | (with_reducible refine (HK1.out (of_eq_true (Q3.out.trans (by simp))) (of_eq_true (Q2.out.1.trans (by simp))) _ _ HS.out).mono ?_) | (with_reducible refine (HK2.out (of_eq_true (Q1.out.2.trans (by simp))) (of_eq_true (Q4.out.trans (by simp))) _ _ HS.out).mono ?_));rintro e_ w9 ⟨rfl,hs9⟩;clear HS;have HS:=Aside0.mk hs9;clear hs9))
    go_end0
    exact ⟨rfl,by have H:=HS.out;have q1_:=Q1.out;have q2_:=Q2.out;have q3_:=Q3.out;have q4_:=Q4.out;(try simp only [reduceCtorEq] at q1_);(try simp only [reduceCtorEq] at q2_);(try simp only [reduceCtorEq] at q3_);(try simp only [reduceCtorEq] at q4_);simp only [symRest,q1_,q2_,q3_,q4_,and_self,and_true,true_and,and_false,false_and,if_true,if_false];exact H⟩
set_option maxHeartbeats 8000000 in
set_option maxRecDepth 100000 in
theorem sym4_calls {w0:World} {bc bl bk bo:Nat} {a0 a1:Int} {A:Option Addr} {c:Nat} {ops:List S57} {Al:Option Addr} {cl:Nat} {ls:List Int} {N cap:Nat} (W:World) (xs:List Int) (a m b mid e s:Int) (rec:List Int→Int→Int→Int→List Int)
  (h:Srt w0 bc bl bk bo a0 a1 A c ops Al cl ls N cap W xs) (h0:0≤a) (h1:a + 1 < m) (hab:m + 1 < b) (h2:b≤N) (hN:N≤4611686018427387904) (hmid:(a + b) / 2=mid) (cm:¬ mid < m)
  (hs:bsr (fun c=>!slt ops ls (rd xs (mid + m - 1 - c)) (rd xs c)) (m - a).toNat a m=s) (hee:mid + m - s=e)
  (K1:a < s→s < mid→∀ (W':World) (ys:List Int),Srt w0 bc bl bk bo a0 a1 A c ops Al cl ls N cap W' ys→Calls Try.prog 59 #[.slice (some ⟨bo,0,none⟩) N cap,.int .i64 a,.int .i64 s,.int .i64 mid,.func (.func 39) #[] #[.pointer (some ⟨bk,0,none⟩)]] W' fun e W'=>e=.returned (.tuple #[])∧Srt w0 bc bl bk bo a0 a1 A c ops Al cl ls N cap W' (rec ys a s mid))
  (K2:mid < e→e < b→∀ (W':World) (ys:List Int),Srt w0 bc bl bk bo a0 a1 A c ops Al cl ls N cap W' ys→Calls Try.prog 59 #[.slice (some ⟨bo,0,none⟩) N cap,.int .i64 mid,.int .i64 e,.int .i64 b,.func (.func 39) #[] #[.pointer (some ⟨bk,0,none⟩)]] W' fun e_ W'=>e_=.returned (.tuple #[])∧Srt w0 bc bl bk bo a0 a1 A c ops Al cl ls N cap W' (rec ys mid e b)) :
  Calls Try.prog 59 #[.slice (some ⟨bo,0,none⟩) N cap,.int .i64 a,.int .i64 m,.int .i64 b,.func (.func 39) #[] #[.pointer (some ⟨bk,0,none⟩)]] W fun e_ W'=>e_=.returned (.tuple #[])∧Srt w0 bc bl bk bo a0 a1 A c ops Al cl ls N cap W' (symRest rec xs a m b mid s e):=by
 have HS:=Aside0.mk h
 have hsin:=bsr_in (fun c=>!slt ops ls (rd xs (mid + m - 1 - c)) (rd xs c)) (m - a).toNat a m (by omega)
 rw [hs] at hsin
 obtain ⟨s0,hs0⟩:∃ s0,a=s0:=⟨_,rfl⟩
 obtain ⟨r0,hr0⟩:∃ r0,m=r0:=⟨_,rfl⟩
 obtain ⟨n,hn⟩:∃ n,mid + m=n:=⟨_,rfl⟩
 obtain ⟨p,hp⟩:∃ p,n - 1=p:=⟨_,rfl⟩
 have eP:(fun c=>!slt ops ls (rd xs (mid + m - 1 - c)) (rd xs c))=(fun c=>!slt ops ls (rd xs (p - c)) (rd xs c)):=by rw [hn,hp]
 rw [eP] at hs
 have HAB:=Aside0.mk (show (0≤a∧a + 1 < m∧m + 1 < b∧b≤N∧N≤4611686018427387904∧(a + b) / 2=mid)∧(mid + m=n∧n - 1=p∧n - s=e)∧(a≤s∧s≤m∧m≤e∧e≤b∧s≤mid∧mid≤e)∧(s0≤r0∧s0≤s∧s≤r0)∧(∀ c,s0≤c→c < r0→a≤c∧c < b∧a≤p - c∧p - c < b) by
  refine ⟨⟨h0,h1,hab,h2,hN,hmid⟩,⟨hn,hp,by omega⟩,by omega,by omega,fun c hc1 hc2=>by omega⟩)
 have HSI:=Aside0.mk hs
 have FU:=Aside0.mk (show (r0 - s0).toNat=(m - a).toNat by omega)
 have HK1:=Aside0.mk K1
 have HK2:=Aside0.mk K2
 have wma:wrap64 (m - a)=m - a:=by unfold wrap64;omega
 have tma:(m - a == 1)=false:=beq_eq_false_iff_ne.mpr (by omega)
 have wbm:wrap64 (b - m)=b - m:=by unfold wrap64;omega
 have tbm:(b - m == 1)=false:=beq_eq_false_iff_ne.mpr (by omega)
 have wab:wrap64 (a + b)=a + b:=by unfold wrap64;omega
 have wmid:=mid_w (by omega) (by omega) hmid
 have wn:wrap64 (mid + m)=n:=by rw [← hn];unfold wrap64;omega
 have wp:wrap64 (n - 1)=p:=by rw [← hp];unfold wrap64;omega
 have we:wrap64 (n - s)=e:=by rw [show n - s=e by omega];unfold wrap64;omega
 have tcm:decide (mid < m)=false:=decide_eq_false cm
 obtain rfl:a=s0:=hs0
 obtain rfl:m=r0:=hr0
 clear h h0 h1 h2 hN hab hs hsin hmid hn hp hee cm K1 K2 eP
 go_enter Try.func59,Try.ntmps59
 go_wp2
 go_loopg [20,21] (m - a).toNat (fun kq v20 v21 w'=>∃ (i j:Int),v20=.int .i64 i∧v21=.int .i64 j∧Aside0 (a≤i∧i≤j∧j≤m∧j - i≤kq)∧Aside0 (bsr (fun c=>!slt ops ls (rd xs (p - c)) (rd xs c)) kq i j=s)∧Aside0 (Srt w0 bc bl bk bo a0 a1 A c ops Al cl ls N cap w' xs))
 case atStart=>exact ⟨a,m,by first | rfl | rw [wnb] | rw [wmid],by first | rfl | rw [wmid],⟨by have:=HAB.out;omega⟩,⟨by first | exact HSI.out | (rw [FU.out];exact HSI.out)⟩,HS⟩
 case round =>
  clear HSI HS FU
  obtain ⟨i,j,rfl,rfl,HX,HSI,HS⟩:=hrel
  by_cases c1:i < j
  ·have t1:decide (i < j)=true:=decide_eq_true c1
   obtain ⟨g1,eg⟩:∃ g1,gk=g1 + 1:=⟨gk - 1,by have:=HX.out;omega⟩
   subst eg
   have H:=HSI.out
   unfold bsr at H
   rw [if_pos c1] at H
   have x0:=HX.out
   obtain ⟨ab,ab1,ab2,ab3,ab4⟩:=HAB.out
   obtain ⟨hh,ehh⟩:∃ hh,(i + j) / 2=hh:=⟨_,rfl⟩
   rw [ehh] at H
   have ab5:=ab4 hh (by omega) (by omega)
   clear ab4
   have wij:wrap64 (i + j)=i + j:=by unfold wrap64;omega
   have whh:=mid_w (by omega) (by omega) ehh
   have HB:=Aside0.mk (show i≤hh∧hh < j by omega)
   obtain ⟨ph,eph⟩:∃ ph,p - hh=ph:=⟨_,rfl⟩
   rw [eph] at H ab5
   have wph:wrap64 (p - hh)=ph:=by rw [← eph];unfold wrap64;omega
   have wph2:IntKind.i64.wrap (p - hh)=ph:=by rw [IntWalk.i64_in _ (by omega)];exact eph
   obtain ⟨x1,x1f⟩:=HS.out.at_ hh (by omega) (by omega)
   obtain ⟨x2,x2f⟩:=HS.out.at_ ph (by omega) (by omega)
   have V1:=Aside0.mk (HS.out.valid hh (by omega) (by omega))
   have V2:=Aside0.mk (HS.out.valid ph (by omega) (by omega))
   have p0:(0≤hh)=True:=eq_true (by omega)
   have p1:(hh < (N:Int))=True:=eq_true (by omega)
   have p2:(0≤ph)=True:=eq_true (by omega)
   have p3:(ph < (N:Int))=True:=eq_true (by omega)
   have WH:=Aside0.mk (show wrap64 (hh + 1)=hh + 1 by unfold wrap64;omega)
   by_cases c3:slt ops ls (rd xs ph) (rd xs hh)=false
   ·rw [if_pos (by show (!slt ops ls (rd xs ph) (rd xs hh))=true;rw [c3];rfl)] at H
    have HSI':=Aside0.mk H
    have t3:decide (wrap64 (skey ops ls (rd xs ph) - skey ops ls (rd xs hh)) < 0)=false:=c3
    generalize hy1:rd xs hh=y1 at *
    generalize hy2:rd xs ph=y2 at *
    clear H HSI x0 ab ab1 ab2 ab3 ab5 ehh c1 c3 hy1 hy2 eph
    go_wp2
    go_quiet ((go_at_call 39;exact Calls.quiet_of ((Sorted2_calls _ y2 y1 (HS.out.inv.drewN _) HS.out.len V2.out.1 V2.out.2 V1.out.1 V1.out.2).mono fun _ _ h=>⟨h.1,h.2.out⟩)))
    go_wp2
    go_roundg g1
    case measure=>omega
    case rel=>exact ⟨hh + 1,j,by first | rfl | rw [WH.out],rfl,⟨by have:=HX.out;have:=HB.out;omega⟩,HSI',⟨HS.out.drewN _⟩⟩
   ·rw [if_neg (by show ¬ (!slt ops ls (rd xs ph) (rd xs hh))=true;cases hq:slt ops ls (rd xs ph) (rd xs hh);exact absurd hq c3;simp)] at H
    have HSI':=Aside0.mk H
    have t3:decide (wrap64 (skey ops ls (rd xs ph) - skey ops ls (rd xs hh)) < 0)=true:=by cases hq:slt ops ls (rd xs ph) (rd xs hh);exact absurd hq c3;exact hq
    generalize hy1:rd xs hh=y1 at *
    generalize hy2:rd xs ph=y2 at *
    clear H HSI x0 ab ab1 ab2 ab3 ab5 ehh c1 c3 hy1 hy2 eph
    go_wp2
    go_quiet ((go_at_call 39;exact Calls.quiet_of ((Sorted2_calls _ y2 y1 (HS.out.inv.drewN _) HS.out.len V2.out.1 V2.out.2 V1.out.1 V1.out.2).mono fun _ _ h=>⟨h.1,h.2.out⟩)))
    go_wp2
    go_roundg g1
    case measure=>omega
    case rel=>exact ⟨i,hh,rfl,by first | rfl | rw [whh],⟨by have:=HX.out;have:=HB.out;omega⟩,HSI',⟨HS.out.drewN _⟩⟩
  ·have t1:decide (i < j)=false:=decide_eq_false c1
   have es:i=s:=by
    have H:=HSI.out
    cases gk with
    | zero=>exact H
    | succ g=>unfold bsr at H;rw [if_neg c1] at H;exact H
   subst es
   clear HSI HX c1
   have b1:(i < m ↔ mid < e)∧(i < mid ↔ m < e):=by have:=HAB.out;omega
   have d1:∃ q:Bool,decide (i < m)=q∧decide (mid < e)=q∧Aside0 (((i < m)=(q=true))∧(mid < e)=(q=true)):=⟨decide (i < m),rfl,by simp only [b1.1],⟨by simp,by simp [b1.1]⟩⟩
   have d2:∃ q:Bool,decide (i < mid)=q∧decide (m < e)=q∧Aside0 (((i < mid)=(q=true))∧(m < e)=(q=true)):=⟨decide (i < mid),rfl,by simp only [b1.2],⟨by simp,by simp [b1.2]⟩⟩
   have d3:∃ q:Bool,decide (a < i)=q∧Aside0 ((a < i)=(q=true)):=⟨decide (a < i),rfl,⟨by simp⟩⟩
   have d4:∃ q:Bool,decide (e < b)=q∧Aside0 ((e < b)=(q=true)):=⟨decide (e < b),rfl,⟨by simp⟩⟩
   clear b1
   obtain ⟨q1,y1,y2,Q1⟩:=d1
   obtain ⟨q2,y3,y4,Q2⟩:=d2
   obtain ⟨q3,y5,Q3⟩:=d3
   obtain ⟨q4,y6,Q4⟩:=d4
   cases q1<;>cases q2<;>cases q3<;>cases q4
   all_goals
    go_wp2_with (first | (go_at_call 64;refine (rotate_calls _ xs i m e HS.out (by have:=HAB.out;omega) (of_eq_true (Q1.out.1.trans (by simp))) (of_eq_true (Q2.out.2.trans (by simp))) (by have:=HAB.out;omega) (by have:=HAB.out;omega)).mono ?_;rintro e_ w9 ⟨rfl,hs9⟩;clear HS;have HS:=Aside0.mk hs9;clear hs9) | (go_at_call 59;(first | (with_reducible refine (HK1.out (of_eq_true (Q3.out.trans (by simp))) (of_eq_true (Q2.out.1.trans (by simp))) _ _ HS.out).mono ?_) | (with_reducible refine (HK2.out (of_eq_true (Q1.out.2.trans (by simp))) (of_eq_true (Q4.out.trans (by simp))) _ _ HS.out).mono ?_));rintro e_ w9 ⟨rfl,hs9⟩;clear HS;have HS:=Aside0.mk hs9;clear hs9))
    go_end0
    exact ⟨rfl,by have H:=HS.out;have q1_:=Q1.out;have q2_:=Q2.out;have q3_:=Q3.out;have q4_:=Q4.out;(try simp only [reduceCtorEq] at q1_);(try simp only [reduceCtorEq] at q2_);(try simp only [reduceCtorEq] at q3_);(try simp only [reduceCtorEq] at q4_);simp only [symRest,q1_,q2_,q3_,q4_,and_self,and_true,true_and,and_false,false_and,if_true,if_false];exact H⟩
theorem sym_calls {w0:World} {bc bl bk bo:Nat} {a0 a1:Int} {A:Option Addr} {c:Nat} {ops:List S57} {Al:Option Addr} {cl:Nat} {ls:List Int} {N cap:Nat} (hN:N≤4611686018427387904):∀ (f:Nat) (W:World) (xs:List Int) (a m b:Int),Srt w0 bc bl bk bo a0 a1 A c ops Al cl ls N cap W xs→0≤a→a < m→m < b→b≤N→b - a≤f →
  Calls Try.prog 59 #[.slice (some ⟨bo,0,none⟩) N cap,.int .i64 a,.int .i64 m,.int .i64 b,.func (.func 39) #[] #[.pointer (some ⟨bk,0,none⟩)]] W fun e W'=>e=.returned (.tuple #[])∧Srt w0 bc bl bk bo a0 a1 A c ops Al cl ls N cap W' (sym (slt ops ls) f xs a m b)
 | 0,W,xs,a,m,b,h,h0,h1,h2,h3,h4=>by exfalso;omega
 | f + 1,W,xs,a,m,b,h,h0,h1,h2,h3,h4=>by
  unfold sym
  by_cases c1:m - a=1
  ·rw [if_pos c1]
   exact sym1_calls W xs a m b h h0 c1 h2 h3 hN
  ·rw [if_neg c1]
   by_cases c2:b - m=1
   ·rw [if_pos c2]
    exact sym2_calls W xs a m b h h0 (by omega) c2 h3 hN
   ·rw [if_neg c2]
    obtain ⟨mid,hmid⟩:∃ mid,(a + b) / 2=mid:=⟨_,rfl⟩
    rw [hmid]
    obtain ⟨s,hs⟩:∃ s,symStart (slt ops ls) xs a m b mid=s:=⟨_,rfl⟩
    rw [hs]
    unfold symStart at hs
    by_cases cm:mid < m
    ·rw [if_pos cm] at hs
     exact sym3_calls W xs a m b mid (mid + m - s) s (sym (slt ops ls) f) h h0 (by omega) (by omega) h3 hN hmid cm hs rfl
      (fun q1 q2 W' ys hy=>sym_calls hN f W' ys a s mid hy h0 q1 q2 (by omega) (by omega))
      (fun q1 q2 W' ys hy=>sym_calls hN f W' ys mid (mid + m - s) b hy (by omega) q1 q2 h3 (by omega))
    ·rw [if_neg cm] at hs
     exact sym4_calls W xs a m b mid (mid + m - s) s (sym (slt ops ls) f) h h0 (by omega) (by omega) h3 hN hmid cm hs rfl
      (fun q1 q2 W' ys hy=>sym_calls hN f W' ys a s mid hy h0 q1 q2 (by omega) (by omega))
      (fun q1 q2 W' ys hy=>sym_calls hN f W' ys mid (mid + m - s) b hy (by omega) q1 q2 h3 (by omega))
def blks (lt:Int→Int→Bool) (n:Int):Nat→List Int→Int→List Int × Int
 | 0,xs,a=>(xs,a)
 | f + 1,xs,a=>if a + 20≤n then blks lt n f (ins_sort lt a 19 xs (a + 1)) (a + 20) else (xs,a)
def pass (lt:Int→Int→Bool) (n s:Int):Nat→List Int→Int→List Int × Int
 | 0,xs,a=>(xs,a)
 | f + 1,xs,a=>if a + 2 * s≤n then pass lt n s f (sym lt n.toNat xs a (a + s) (a + 2 * s)) (a + 2 * s) else (xs,a)
def pass1 (lt:Int→Int→Bool) (n s:Int) (xs:List Int):List Int :=
 if (pass lt n s n.toNat xs 0).2 + s < n then sym lt n.toNat (pass lt n s n.toNat xs 0).1 (pass lt n s n.toNat xs 0).2 ((pass lt n s n.toNat xs 0).2 + s) n else (pass lt n s n.toNat xs 0).1
def passes (lt:Int→Int→Bool) (n:Int):Nat→List Int→Int→List Int
 | 0,xs,_=>xs
 | f + 1,xs,s=>if s < n then passes lt n f (pass1 lt n s xs) (2 * s) else xs
def stab (lt:Int→Int→Bool) (xs:List Int):List Int :=
 passes lt xs.length xs.length (ins_sort lt (blks lt xs.length xs.length xs 0).2 ((xs.length:Int) - ((blks lt xs.length xs.length xs 0).2 + 1)).toNat (blks lt xs.length xs.length xs 0).1 ((blks lt xs.length xs.length xs 0).2 + 1)) 20
def stable_m (lt:Int→Int→Bool) (xs:List Int):Option (List Int):=some (stab lt xs)
theorem blks_le (lt:Int→Int→Bool) (n:Int):∀ (f:Nat) (xs:List Int) (a:Int),0≤a→a≤n→0≤(blks lt n f xs a).2∧(blks lt n f xs a).2≤n
 | 0,xs,a,h0,h1=>⟨h0,h1⟩
 | f + 1,xs,a,h0,h1=>by
  unfold blks
  by_cases c:a + 20≤n
  ·rw [if_pos c];exact blks_le lt n f _ _ (by omega) c
  ·rw [if_neg c];exact ⟨h0,h1⟩
theorem pass_le (lt:Int→Int→Bool) (n s:Int) (hs:0≤s):∀ (f:Nat) (xs:List Int) (a:Int),0≤a→a≤n→0≤(pass lt n s f xs a).2∧(pass lt n s f xs a).2≤n
 | 0,xs,a,h0,h1=>⟨h0,h1⟩
 | f + 1,xs,a,h0,h1=>by
  unfold pass
  by_cases c:a + 2 * s≤n
  ·rw [if_pos c];exact pass_le lt n s hs f _ _ (by omega) c
  ·rw [if_neg c];exact ⟨h0,h1⟩
set_option maxHeartbeats 8000000 in
set_option maxRecDepth 100000 in
theorem stable_calls {w0:World} {bc bl bk bo:Nat} {a0 a1:Int} {A:Option Addr} {c:Nat} {ops:List S57} {Al:Option Addr} {cl:Nat} {ls:List Int} {N cap:Nat} (W:World) (xs rs:List Int)
  (h:Srt w0 bc bl bk bo a0 a1 A c ops Al cl ls N cap W xs) (hN:N≤17592186044416) (hr:stable_m (slt ops ls) xs=some rs) :
  Calls Try.prog 53 #[.slice (some ⟨bo,0,none⟩) N cap,.int .i64 N,.func (.func 39) #[] #[.pointer (some ⟨bk,0,none⟩)]] W fun e W'=>e=.returned (.tuple #[])∧Srt w0 bc bl bk bo a0 a1 A c ops Al cl ls N cap W' rs:=by
 obtain rfl:=Option.some.inj hr
 have hlen:=h.length
 have HS:=Aside0.mk h
 obtain ⟨n,hn⟩:∃ n:Int,(N:Int)=n:=⟨_,rfl⟩
 have hnn:N=n.toNat:=by omega
 unfold stab
 rw [hlen,hn,hnn]
 obtain ⟨⟨r1,ra⟩,hr1⟩:∃ r,blks (slt ops ls) n n.toNat xs 0=r:=⟨_,rfl⟩
 have hra:=blks_le (slt ops ls) n n.toNat xs 0 (by omega) (by omega)
 rw [hr1] at hra ⊢
 dsimp only at hra ⊢
 obtain ⟨r2,hr2⟩:∃ r2,ins_sort (slt ops ls) ra (n - (ra + 1)).toNat r1 (ra + 1)=r2:=⟨_,rfl⟩
 rw [hr2]
 obtain ⟨res,hres⟩:∃ res,passes (slt ops ls) n n.toNat r2 20=res:=⟨_,rfl⟩
 rw [hres]
 rw [← hnn]
 have HAB:=Aside0.mk (show (N:Int)=n∧N=n.toNat∧n≤17592186044416∧0≤ra∧ra≤n∧0≤n by omega)
 have HR1:=Aside0.mk hr1
 have HR2:=Aside0.mk hr2
 have HRES:=Aside0.mk hres
 have KI:=fun (W':World) (ys:List Int) (a b:Int) (hs:Srt w0 bc bl bk bo a0 a1 A c ops Al cl ls N cap W' ys) (q0:0≤a) (q1:a≤b) (q2:b≤n)=>insertion_calls W' ys a b hs q0 q1 (by omega) (by omega)
 have KS:=fun (W':World) (ys:List Int) (a m b:Int) (hs:Srt w0 bc bl bk bo a0 a1 A c ops Al cl ls N cap W' ys) (q0:0≤a) (q1:a < m) (q2:m < b) (q3:b≤n)=>sym_calls (by omega) N W' ys a m b hs q0 q1 q2 (by omega) (by omega)
 have HKI:=Aside0.mk KI
 have HKS:=Aside0.mk KS
 clear KI KS h hr hlen hra hr1 hr2 hres hnn hn hN
 go_enter Try.func53,Try.ntmps53
 go_wp2
 go_loopg [7,8] n.toNat (fun kq v7 v8 w'=>∃ (ys:List Int) (a:Int),v7=.int .i64 a∧v8=.int .i64 (a + 20)∧Aside0 (0≤a∧a≤n∧n - a≤kq)∧Aside0 (blks (slt ops ls) n kq ys a=(r1,ra))∧Aside0 (Srt w0 bc bl bk bo a0 a1 A c ops Al cl ls N cap w' ys))
 case atStart=>exact ⟨xs,0,rfl,rfl,⟨by have:=HAB.out;omega⟩,HR1,HS⟩
 case round =>
  clear HS HR1
  obtain ⟨ys,a,rfl,rfl,HX,HR1,HS⟩:=hrel
  by_cases c1:a + 20≤n
  ·have t1:decide (a + 20≤n)=true:=decide_eq_true c1
   obtain ⟨g1,eg⟩:∃ g1,gk=g1 + 1:=⟨gk - 1,by have:=HX.out;omega⟩
   subst eg
   have H:=HR1.out
   unfold blks at H
   rw [if_pos c1] at H
   have HR1':=Aside0.mk H
   have K:=HKI.out
   have C1:=Aside0.mk c1
   have wb:=Aside0.mk (show wrap64 (a + 20 + 20)=a + 20 + 20 by unfold wrap64;have:=HX.out;have:=HAB.out;omega)
   have e19:=Aside0.mk (show (a + 20 - (a + 1)).toNat=19 by omega)
   clear H HR1 c1 K
   go_wp2_with (first | (go_at_call 58;refine (HKI.out _ ys a (a + 20) HS.out HX.out.1 (by omega) C1.out).mono ?_;rintro e w9 ⟨rfl,hs9⟩;rw [e19.out] at hs9;have HS9:=Aside0.mk hs9;clear hs9))
   go_roundg g1
   case measure=>omega
   case rel=>exact ⟨_,a + 20,rfl,by first | rfl | rw [wb.out],⟨by have:=HX.out;have:=C1.out;omega⟩,HR1',HS9⟩
  ·have t1:decide (a + 20≤n)=false:=decide_eq_false c1
   have H:=HR1.out
   have H2:(ys,a)=(r1,ra):=by
    cases gk with
    | zero=>exact H
    | succ g=>unfold blks at H;rw [if_neg c1] at H;exact H
   obtain ⟨rfl,rfl⟩:=Prod.mk.inj H2
   clear H H2 HR1 c1 HX
   go_wp2_with (first | (go_at_call 58;refine (HKI.out _ ys a n HS.out HAB.out.2.2.2.1 HAB.out.2.2.2.2.1 (Int.le_refl _)).mono ?_;rintro e w9 ⟨rfl,hs9⟩;rw [HR2.out] at hs9;have HS9:=Aside0.mk hs9;clear hs9 HS))
   go_loopg [6] n.toNat (fun kq v6 w'=>∃ (ys:List Int) (s:Int),v6=.int .i64 s∧Aside0 (20≤s∧n - s≤kq∧s≤2 * n + 20)∧Aside0 (passes (slt ops ls) n kq ys s=res)∧Aside0 (Srt w0 bc bl bk bo a0 a1 A c ops Al cl ls N cap w' ys))
   case atStart=>exact ⟨r2,20,rfl,⟨by have:=HAB.out;omega⟩,HRES,HS9⟩
   case round =>
    clear HS9 HRES
    obtain ⟨zs,s,rfl,HX,HRES,HS⟩:=hrel
    obtain ⟨gk0,egk⟩:∃ g,g=gk:=⟨_,rfl⟩
    subst egk
    by_cases c1:s < n
    ·have t1:decide (s < n)=true:=decide_eq_true c1
     obtain ⟨g1,eg⟩:∃ g1,gk0=g1 + 1:=⟨gk0 - 1,by have:=HX.out;omega⟩
     subst eg
     have H:=HRES.out
     unfold passes at H
     rw [if_pos c1] at H
     unfold pass1 at H
     obtain ⟨⟨p1,pa⟩,hp1⟩:∃ r,pass (slt ops ls) n s n.toNat zs 0=r:=⟨_,rfl⟩
     have hpa:=pass_le (slt ops ls) n s (by have:=HX.out;omega) n.toNat zs 0 (by omega) (by have:=HAB.out;omega)
     rw [hp1] at H hpa
     dsimp only at H hpa
     obtain ⟨s2,hs2⟩:∃ s2,2 * s=s2:=⟨_,rfl⟩
     have x0:=HX.out
     have ab:=HAB.out
     have w2:wrap64 (2 * s)=s2:=by rw [← hs2];unfold wrap64;omega
     have w3:wrap64 (s * 2)=s2:=by rw [← hs2];unfold wrap64;omega
     have WPA:=Aside0.mk (show wrap64 (pa + s)=pa + s by unfold wrap64;omega)
     have HX2:=Aside0.mk (show 2 * s=s2∧0≤pa∧pa≤n∧s < n by omega)
     have HP1:=Aside0.mk hp1
     have HRES':=Aside0.mk H
     clear H HRES c1 x0 ab hpa hp1 hs2
     go_wp2
     simp only [w2]
     go_loopg [7,8] n.toNat (fun kq v7 v8 w'=>∃ (us:List Int) (d:Int),v7=.int .i64 d∧v8=.int .i64 (d + s2)∧Aside0 (0≤d∧d≤n∧n - d≤kq)∧Aside0 (pass (slt ops ls) n s kq us d=(p1,pa))∧Aside0 (Srt w0 bc bl bk bo a0 a1 A c ops Al cl ls N cap w' us))
     case atStart=>exact ⟨zs,0,rfl,by rw [Int.zero_add],⟨by have:=HAB.out;omega⟩,HP1,HS⟩
     case round =>
      clear HS HP1
      obtain ⟨us,d,rfl,rfl,HY,HP1,HS⟩:=hrel
      have HP2:=HP1.out
      by_cases c2:d + s2≤n
      ·have t2:decide (d + s2≤n)=true:=decide_eq_true c2
       obtain ⟨g2,eg2⟩:∃ g2,gk=g2 + 1:=⟨gk - 1,by have:=HY.out;have:=HX.out;have:=HX2.out;omega⟩
       subst eg2
       unfold pass at HP2
       rw [if_pos (by have:=HX2.out;omega)] at HP2
       have e2:d + 2 * s=d + s2:=by rw [HX2.out.1]
       rw [e2,show n.toNat=N from HAB.out.2.1.symm] at HP2
       have HP1':=Aside0.mk HP2
       have C2:=Aside0.mk c2
       have wds:wrap64 (d + s)=d + s:=by have:=HX.out;have:=HX2.out;have:=HY.out;have:=HAB.out;unfold wrap64;omega
       have WDS:=Aside0.mk (show wrap64 (d + s2 + s2)=d + s2 + s2 by have:=HX.out;have:=HX2.out;have:=HY.out;have:=HAB.out;unfold wrap64;omega)
       clear HP1 HP2 c2 e2
       go_wp2_with (first | (go_at_call 59;refine (HKS.out _ us d (d + s) (d + s2) HS.out HY.out.1 (by have:=HX.out;omega) (by have:=HX2.out;have:=HX.out;omega) C2.out).mono ?_;rintro e w9 ⟨rfl,hs9⟩;have HS9:=Aside0.mk hs9;clear hs9))
       go_roundg g2
       case measure=>omega
       case rel=>exact ⟨_,d + s2,rfl,by first | rfl | rw [WDS.out],⟨by have:=HY.out;have:=C2.out;have:=HX.out;have:=HX2.out;omega⟩,HP1',HS9⟩
      ·have t2:decide (d + s2≤n)=false:=decide_eq_false c2
       have H2:(us,d)=(p1,pa):=by
        cases gk with
        | zero=>exact HP2
        | succ g=>unfold pass at HP2;rw [if_neg (by have:=HX2.out;omega)] at HP2;exact HP2
       obtain ⟨rfl,rfl⟩:=Prod.mk.inj H2
       have wds:wrap64 (d + s)=d + s:=WPA.out
       clear HP1 HP2 c2 H2 HY
       have H:=HRES'.out
       by_cases c3:d + s < n
       ·have t3:decide (d + s < n)=true:=decide_eq_true c3
        rw [if_pos c3,show n.toNat=N from HAB.out.2.1.symm] at H
        have HRES:=Aside0.mk H
        have C3:=Aside0.mk c3
        clear H HRES' c3
        go_wp2_with (first | (go_at_call 59;refine (HKS.out _ us d (d + s) n HS.out HX2.out.2.1 (by have:=HX.out;omega) C3.out (Int.le_refl _)).mono ?_;rintro e w9 ⟨rfl,hs9⟩;have HS9:=Aside0.mk hs9;clear hs9))
        go_roundg g1
        case measure=>omega
        case rel=>exact ⟨_,s2,by first | rfl | rw [w3],⟨by have:=HX.out;have:=HX2.out;omega⟩,⟨by rw [← HX2.out.1];exact HRES.out⟩,HS9⟩
       ·have t3:decide (d + s < n)=false:=decide_eq_false c3
        rw [if_neg c3] at H
        have HRES:=Aside0.mk H
        clear H HRES' c3
        go_wp2
        go_roundg g1
        case measure=>omega
        case rel=>exact ⟨_,s2,by first | rfl | rw [w3],⟨by have:=HX.out;have:=HX2.out;omega⟩,⟨by rw [← HX2.out.1];exact HRES.out⟩,HS⟩
    ·have t1:decide (s < n)=false:=decide_eq_false c1
     have H2:zs=res:=by
      have H:=HRES.out
      cases gk0 with
      | zero=>exact H
      | succ g=>unfold passes at H;rw [if_neg c1] at H;exact H
     subst H2
     clear HRES c1
     go_wp2
     go_end0
     exact ⟨rfl,HS.out⟩
theorem SortStable_calls {w0:World} {bc bl bk bo:Nat} {a0 a1:Int} {A:Option Addr} {c:Nat} {ops:List S57} {Al:Option Addr} {cl:Nat} {ls:List Int} {N cap:Nat} (W:World) (xs rs:List Int)
  (h:Srt w0 bc bl bk bo a0 a1 A c ops Al cl ls N cap W xs) (hN:N≤17592186044416) (hr:stable_m (slt ops ls) xs=some rs) :
  Calls Try.prog 38 #[.slice (some ⟨bo,0,none⟩) N cap,.func (.func 39) #[] #[.pointer (some ⟨bk,0,none⟩)]] W fun e W'=>e=.returned (.tuple #[])∧Srt w0 bc bl bk bo a0 a1 A c ops Al cl ls N cap W' rs:=by
 have HI:=Aside0.mk (stable_calls W xs rs h hN hr)
 clear h hN hr
 go_enter Try.func38,Try.ntmps38
 go_wp2_with (first | (go_at_call 53;refine HI.out.mono ?_;rintro e w2 ⟨rfl,hs⟩;have HS:=Aside0.mk hs;clear hs))
 go_end0
 exact ⟨rfl,HS.out⟩
set_option maxRecDepth 100000 in
theorem insertion_nil (bk:Nat) (W:World) :
  Calls Try.prog 58 #[.slice none 0 0,.int .i64 0,.int .i64 0,.func (.func 39) #[] #[.pointer (some ⟨bk,0,none⟩)]] W fun e W'=>e=.returned (.tuple #[])∧W'=W:=by
 go_enter Try.func58,Try.ntmps58
 go_wp2
 refine wp_loop_rounds 1 ?_
 rw [rounds_succ]
 go_wp2
 go_end0
 exact ⟨rfl,rfl⟩
set_option maxRecDepth 100000 in
theorem stable_nil (bk:Nat) (W:World) :
  Calls Try.prog 53 #[.slice none 0 0,.int .i64 0,.func (.func 39) #[] #[.pointer (some ⟨bk,0,none⟩)]] W fun e W'=>e=.returned (.tuple #[])∧W'=W:=by
 go_enter Try.func53,Try.ntmps53
 go_wp2
 refine wp_loop_rounds 1 ?_
 rw [rounds_succ]
 go_wp2_with (first | (go_at_call 58;refine (insertion_nil bk W).mono ?_;rintro e w2 ⟨rfl,rfl⟩))
 refine wp_loop_rounds 1 ?_
 rw [rounds_succ]
 go_wp2
 go_end0
 exact ⟨rfl,rfl⟩
theorem SortStable_nil (bk:Nat) (W:World) :
  Calls Try.prog 38 #[.slice none 0 0,.func (.func 39) #[] #[.pointer (some ⟨bk,0,none⟩)]] W fun e W'=>e=.returned (.tuple #[])∧W'=W:=by
 go_enter Try.func38,Try.ntmps38
 go_wp2_with (first | (go_at_call 53;refine (stable_nil bk W).mono ?_;rintro e w2 ⟨rfl,rfl⟩))
 go_end0
 exact ⟨rfl,rfl⟩
def iota (n:Nat):List Int:=(List.range n).map Int.ofNat
theorem iota_succ (n:Nat):iota (n + 1)=iota n ++ [(n:Int)]:=by unfold iota;rw [List.range_succ,List.map_append];rfl
theorem iota_length (n:Nat):(iota n).length=n:=by simp [iota]
def layers_Sorted.f (k:Nat) (a0_0:Int) (a0_1:Int) (l0_2:List S57):Option (Int × Int × List S57 × Int) :=
 (layers_Early.f k a0_0 a0_1 l0_2).bind fun b=>if b.2=0 then (if b.1.length=l0_2.length∧b.1.length < 17592186044416 then (stable_m (slt l0_2 b.1) (iota b.1.length)).bind fun ps=>(layers_only.f k a0_0 a0_1 l0_2 ps).bind fun o=>some (o.1,o.2.1,o.2.2,0) else none) else some (0,0,[],b.2)
theorem stable_m_nil (lt:Int→Int→Bool):stable_m lt []=some []:=rfl
theorem iota_val {n:Nat}:∀ z,z ∈ iota n→0≤z∧z < n:=by
 intro z hz
 obtain ⟨m,hm,rfl⟩:=List.mem_map.mp hz
 have:=List.mem_range.mp hm
 exact ⟨Int.natCast_nonneg _,by show (m:Int) < n;omega⟩
set_option maxHeartbeats 8000000 in
set_option maxRecDepth 100000 in
theorem layers_Sorted.calls (k:Nat) (a0_0:Int) (a0_1:Int) (A0_2:Option Addr) (c0_2:Nat) (l0_2:List (S57)) (r1:Int) (r2:Int) (r3:List (S57)) (r4:Int) (w:World) (hr0_2:Kd.C k57 w A0_2 l0_2.length l0_2) (hc0_2:l0_2.length≤c0_2) (h:layers_Sorted.f k a0_0 a0_1 l0_2=some (r1,r2,r3,r4)) :
  Calls Try.prog 22 #[.agg #[.int .i64 a0_0,.int .i64 a0_1,.slice A0_2 l0_2.length c0_2]] w fun e w'=>∃ v2_:Value,e=.returned (.tuple #[.agg #[.int .i64 r1,.int .i64 r2,v2_],.int .i64 r4])∧Kd.N k57u 57 w' w.heap.size (fun k_=>(w.heap.size≤k_)) v2_ r3∧Below w.heap.size w w':=by
 have hu24:=Try.underlying24;have hu57:=Try.underlying57;have HM:=Qh hr0_2.2.1;have HR:=Qh hr0_2;have HC:=Qh hc0_2;have HB:=Qh (Below.refl w.heap.size w);unfold layers_Sorted.f at h
 obtain ⟨⟨es,e0⟩,AE0,H1⟩:=Option.bind_eq_some_iff.mp h;have AE:=Qh AE0;clear hr0_2 hc0_2 h AE0;by_cases c0:e0=0
 ·subst c0
  rw [if_pos rfl] at H1
  by_cases cL:es.length=l0_2.length∧es.length < 17592186044416
  ·rw [if_pos cL] at H1
   obtain ⟨ps,AS0,H2⟩:=Option.bind_eq_some_iff.mp H1;obtain ⟨⟨o1,o2,o3⟩,AO0,H3⟩:=Option.bind_eq_some_iff.mp H2;simp only [Option.some.injEq,Prod.mk.injEq] at H3
   obtain ⟨rfl,rfl,rfl,rfl⟩:=H3;have AS:=Qh AS0;have AO:=Qh AO0;have HL:=Qh cL;clear H1 H2 AS0 AO0 cL;go_enter Try.func22,Try.ntmps22
   go_wp2_with (first | ((with_reducible refine gate_dst (N:=1) rfl ?_);refine box_event ?hg (N:=1) ?hd (cs:=#[.int .i64 a0_0,.int .i64 a0_1,.slice A0_2 l0_2.length c0_2]) (t:=24) ?hr ?_;(case hd=>rfl);(case hg=>rfl);(case hr=>first | (go_simp;done) | (go_simp;rfl));intro gb1 hg w1 BK1 hb;have G1:=Qh (show w.heap.size≤gb1 by rw [hg];exact Nat.le_refl _);have HB1:=Qh (Qr HB.out hb);replace BK1:=Qh BK1;clear HB;have HB:=HB1;clear HB1 hb hg) | ((with_reducible refine gate_dst (N:=2) rfl ?_);refine box_event ?hg (N:=2) ?hd (cs:=#[.int .i64 0,.int .i64 0,.slice none 0 0]) (t:=24) ?hr ?_;(case hd=>rfl);(case hg=>rfl);(case hr=>first | (go_simp;done) | (go_simp;rfl));intro gb2 hg w2 BK2 hb;have G2:=Qh (show w.heap.size≤gb2 by rw [hg];exact HB.out.size);have N12:=Qh (show gb1≠gb2 by rw [hg];exact Nat.ne_of_lt (blk_lt BK1.out));have HB1:=Qh (Qr HB.out hb);have BK1':=Qh (Qq BK1.out hb);replace BK2:=Qh BK2;clear HB BK1;have HB:=HB1;have BK1:=BK1';clear HB1 BK1' hb hg;have hz0:w2.cell? ⟨gb1,0,none⟩=some (.int .i64 a0_0):=(Qi BK1.out 0).trans rfl;have hz1:w2.cell? ⟨gb1,1,none⟩=some (.int .i64 a0_1):=(Qi BK1.out 1).trans rfl;have hz2:w2.cell? ⟨gb1,2,none⟩=some (.slice A0_2 l0_2.length c0_2):=(Qi BK1.out 2).trans rfl) | (go_at_call 6;refine (layers_Early.calls k a0_0 a0_1 A0_2 c0_2 l0_2 es _ _ ?s1 ?s2 AE.out).mono ?_;(case s1=>exact Qt HR.out HB.out);(case s2=>exact HC.out);rintro e w3 ⟨ve,rfl,ho,hb⟩;have HE:=Qh ho;have HB2:=Qh hb;clear hz0 hz1 hz2 hb ho;obtain ⟨Ae,ce,ee⟩:=Kd.R_slice HE.out;subst ee))
   have BK4:=Qh (show (w3.alloc (.cells #[.slice Ae es.length ce] 25)).heap[w3.heap.size]?=some (.cells #[.slice Ae es.length ce] 25 (0,0)) from blk_new w3 _);have L23:=Qh HB2.out.size;go_loopg [6,20] es.length (fun kq v6 v20 w'=>∃ (m:Nat),v20=.int .i64 (m:Int)∧Aside0 (m + kq=es.length)∧Aside0 (m=0→v6=.slice none 0 0)∧Aside0 (Kd.R (Kd.int .i64) 3 w' w2.heap.size (fun k=>w3.heap.size < k) v6 (iota m))∧Aside0 (Kd.R (Kd.int .i64) 3 w' w2.heap.size (fun k=>k < w3.heap.size) (.slice Ae es.length ce) es)∧Aside0 (w'.heap[w3.heap.size]?=some (.cells #[.slice Ae es.length ce] 25 (0,0)))∧Aside0 (Below w2.heap.size w2 w'))
   case atStart=>exact ⟨0,rfl,⟨by omega⟩,⟨fun _=>rfl⟩,⟨Kd.R_nil _ _ _ _ _⟩,⟨⟨fun k hk=>own_lt (Kd.own_of_R (h1:=fun _=>rfl) HE.out) k hk,(Qv HE.out _).2⟩⟩,BK4,⟨Qd HB2.out _⟩⟩
   case round =>
    clear HE BK4 HB2;obtain ⟨m,rfl,HX,HZ0,HP,HE,BK4,HB2⟩:=hrel;by_cases c1:m < es.length
    ·have t1:decide ((m:Int) < (es.length:Int))=true:=decide_eq_true (by omega)
     have t1':decide (m < es.length)=true:=decide_eq_true c1;have hw:=h_w1 (x:=(m:Int)) (n:=es.length) (by omega) (by omega) (by have:=HL.out.2;omega);have C1:=Qh c1;clear c1;go_wp2_with (first | ((with_reducible refine gate_builtin (b:=.append) (xs:=#[.tmp 23,.tmp 25]) rfl ?_);at_builtin;refine Kd.R_append (Kd.int .i64) (w0:=w2) w2.heap.size rfl (.tmp 23) (.tmp 25) 25 3 (.int .i64 0) 8 rfl Try.underlying25 info3 rfl (by decide) (by omega) u6 (iota m) (m:Int) [.int .i64 (m:Int)] (fun k=>w3.heap.size < k) (fun _=>False) rfl rfl ?aP (fun _ hk=>hk.elim) ?aF ?aO ?aB ?aS ?aL ?_;(case aP=>exact rfl);(case aB=>exact HB2.out);(case aF=>exact fun k hk=>Nat.lt_of_lt_of_le (blk_lt BK4.out) hk);(case aO=>exact HP.out);(case aS=>exact HB2.out.size);(case aL=>rw [iota_length];have:=HL.out;have:=HX.out;omega);intro v9 w9 ho hb hg hat;have HP':=Qh ho;have HB':=Qh hb;have HE':=Qh (Kd.R_grown HE.out hg (fun k hk e=>by have h1:=HP.out.1 k e.symm;omega));have BK4':=Qh (blk_grown BK4.out hg (fun e=>by have h1:=HP.out.1 _ e.symm;omega));clear ho hb hg hat HP HB2 HE BK4;have HP:=HP';have HB2:=HB';have HE:=HE';have BK4:=BK4';clear HP' HB' HE' BK4'))
     go_roundg (gk - 1)
     case measure=>have:=HX.out;have:=C1.out;omega
     case rel=>exact ⟨m + 1,by go_num,⟨by have:=HX.out;have:=C1.out;omega⟩,⟨fun e=>absurd e (by omega)⟩,⟨by rw [iota_succ];exact HP.out⟩,HE,BK4,HB2⟩
    ·have t1:decide ((m:Int) < (es.length:Int))=false:=decide_eq_false (by omega)
     have t1':decide (m < es.length)=false:=decide_eq_false c1;obtain rfl:m=es.length:=by have:=HX.out;omega
     clear c1;rcases Nat.eq_zero_or_pos es.length with hz | hp
     ·obtain rfl:es=[]:=List.eq_nil_of_length_eq_zero hz
      have hu:=HZ0.out hz;subst hu;have hps:ps=[]:=by have:=AS.out;rw [show iota ([]:List Int).length=[] from rfl,stable_m_nil] at this;injection this with this;exact this.symm
      subst hps;have L0:=Qh hz;clear hz;go_wp2_with (first | (go_at_call 38;refine (SortStable_nil wr.heap.size _).mono ?_;rintro e w4 ⟨rfl,rfl⟩;have HB4:=Qh (show Below w2.heap.size w2 (wr.alloc (.cells #[.func (.func 37) #[] #[.pointer (some ⟨gb1,0,none⟩),.pointer (some ⟨w3.heap.size,0,none⟩)]] 70)) from Qd HB2.out _);have BK2':=Qh (Qq BK2.out HB4.out);have HZ:=Qq BK1.out HB4.out;have hz0:=(Qi HZ 0).trans rfl;have hz1:=(Qi HZ 1).trans rfl;have hz2:=(Qi HZ 2).trans rfl;have HSC:=Qh (Qt HR.out HB.out);clear HZ) | (go_at_call 40;refine (layers_only.calls k a0_0 a0_1 A0_2 c0_2 l0_2 none 0 [] o1 o2 o3 _ ?s1 ?s2 ?s3 ?s4 AO.out).mono ?_;(case s1=>exact Qt HSC.out HB4.out);(case s2=>exact HC.out);(case s3=>exact Kd.C_nil _ _);(case s4=>exact Nat.le_refl _);rintro e w5 ⟨v5,rfl,ho5,hb5⟩;obtain ⟨A5,c5,ve5⟩:=Kd.N_slice ho5;subst ve5;have HN:=Qh ho5;have HB5:=Qh hb5;have BK5:=Qh (Qq BK2'.out hb5);have y0:w5.cell? ⟨gb2,0,none⟩=some (.int .i64 0):=(Qi BK5.out 0).trans rfl;have y1:w5.cell? ⟨gb2,1,none⟩=some (.int .i64 0):=(Qi BK5.out 1).trans rfl;have y2:w5.cell? ⟨gb2,2,none⟩=some (.slice none 0 0):=(Qi BK5.out 2).trans rfl;have y0f:=Qj BK5.out 0;have y1f:=Qj BK5.out 1;have y2f:=Qj BK5.out 2;clear ho5 hb5))
      refine bodyPost_ret (results_ct rfl _ _ gb2 24 #[.int .i64 o1,.int .i64 o2,.slice A5 o3.length c5] (0,0) _ rfl (blk_put (cs:=#[.int .i64 o1,.int .i64 o2,.slice none 0 0]) (blk_put (cs:=#[.int .i64 o1,.int .i64 0,.slice none 0 0]) (blk_put (cs:=#[.int .i64 0,.int .i64 0,.slice none 0 0]) BK5.out 0 _ rfl) 1 _ rfl) 2 _ rfl) Try.underlying24 rfl (by kernel_rfl)) rfl ?_
      have HBw:=Qr (Qr HB.out HB4.out) HB5.out;have hle:=Nat.le_trans HB.out.size HB4.out.size;have hgb:=blk_lt BK2'.out;exact ⟨_,rfl,Kd.N_lower (Kd.N_mono (Kd.N_far (Kd.N_far (Kd.N_far HN.out (fun k hk e=>absurd e (by show k≠gb2;omega)) _) (fun k hk e=>absurd e (by show k≠gb2;omega)) _) (fun k hk e=>absurd e (by show k≠gb2;omega)) _) (fun k hk=>Nat.le_trans hle hk)) hle,Qg (Qg (Qg HBw G2.out) G2.out) G2.out⟩
     ·obtain ⟨bo,cap,rfl,hbo,hbl,cells,hcl⟩:=Kd.R_form HP.out (by rw [iota_length];exact hp)
      have HO3:=Qh (HP.out.1 bo rfl);have HBO:=Qh hbl;clear hbo hbl cells hcl hp;go_wp2_with (first | (go_at_call 38;refine (SortStable_calls (w0:=w2) (bc:=gb1) (bl:=w3.heap.size) (bk:=wr.heap.size) (bo:=bo) (a0:=a0_0) (a1:=a0_1) (A:=A0_2) (c:=c0_2) (ops:=l0_2) (Al:=Ae) (cl:=ce) (ls:=es) (N:=(iota es.length).length) (cap:=cap) _ (iota es.length) ps ?s1 ?s2 AS.out).mono ?_;(case s1=>exact ⟨⟨Qd HB2.out _,Qc (Qq BK1.out HB2.out) _,Qc BK4.out _,blk_new wr _,Qt HR.out HB.out,Kd.R_mono (Qv HE.out _) (fun k hk e=>by have:=HO3.out;omega)⟩,⟨fun k hk=>by injection hk with hk;exact hk.symm,(Qv HP.out _).2⟩,fun z hz=>by have h1:=iota_val z hz;have h2:=HL.out.1;rw [← h2];exact h1,fun e=>by have h1:=HO3.out;have h2:=L23.out;have h3:=blk_lt BK1.out;omega,fun e=>by have h1:=HO3.out;omega,fun e=>by have h1:=HBO.out;omega,HL.out.1⟩);(case s2=>rw [iota_length];have:=HL.out.2;omega);rintro e w4 ⟨rfl,hs⟩;have BK2':=Qh (Qq BK2.out hs.inv.hb);have HZ:=hs.inv.hc;have hz0:w4.cell? ⟨gb1,0,none⟩=some (.int .i64 a0_0):=(Qi HZ 0).trans rfl;have hz1:w4.cell? ⟨gb1,1,none⟩=some (.int .i64 a0_1):=(Qi HZ 1).trans rfl;have hz2:w4.cell? ⟨gb1,2,none⟩=some (.slice A0_2 l0_2.length c0_2):=(Qi HZ 2).trans rfl;have HSL:=Qh hs.length;have HSD:=Qh (Kd.R_reads' hs.dat);have HSC:=Qh hs.inv.ho;have HB4:=Qh hs.inv.hb;clear hs HZ) | (go_at_call 40;rw [← HSL.out];refine (layers_only.calls k a0_0 a0_1 A0_2 c0_2 l0_2 (some ⟨bo,0,none⟩) cap ps o1 o2 o3 _ ?s1 ?s2 ?s3 ?s4 AO.out).mono ?_;(case s1=>exact Qt HSC.out HB4.out);(case s2=>exact HC.out);(case s3=>exact HSD.out.2.2);(case s4=>rw [HSL.out];exact HSD.out.2.1);rintro e w5 ⟨v5,rfl,ho5,hb5⟩;obtain ⟨A5,c5,ve5⟩:=Kd.N_slice ho5;subst ve5;have HN:=Qh ho5;have HB5:=Qh hb5;have BK5:=Qh (Qq BK2'.out hb5);have y0:w5.cell? ⟨gb2,0,none⟩=some (.int .i64 0):=(Qi BK5.out 0).trans rfl;have y1:w5.cell? ⟨gb2,1,none⟩=some (.int .i64 0):=(Qi BK5.out 1).trans rfl;have y2:w5.cell? ⟨gb2,2,none⟩=some (.slice none 0 0):=(Qi BK5.out 2).trans rfl;have y0f:=Qj BK5.out 0;have y1f:=Qj BK5.out 1;have y2f:=Qj BK5.out 2;clear ho5 hb5))
      refine bodyPost_ret (results_ct rfl _ _ gb2 24 #[.int .i64 o1,.int .i64 o2,.slice A5 o3.length c5] (0,0) _ rfl (blk_put (cs:=#[.int .i64 o1,.int .i64 o2,.slice none 0 0]) (blk_put (cs:=#[.int .i64 o1,.int .i64 0,.slice none 0 0]) (blk_put (cs:=#[.int .i64 0,.int .i64 0,.slice none 0 0]) BK5.out 0 _ rfl) 1 _ rfl) 2 _ rfl) Try.underlying24 rfl (by kernel_rfl)) rfl ?_
      have HBw:=Qr (Qr HB.out HB4.out) HB5.out;have hle:w.heap.size≤w4.heap.size:=Nat.le_trans HB.out.size HB4.out.size;have hgb:gb2 < w4.heap.size:=blk_lt BK2'.out;exact ⟨_,rfl,Kd.N_lower (Kd.N_mono (Kd.N_far (Kd.N_far (Kd.N_far HN.out (fun k hk e=>absurd e (by show k≠gb2;omega)) _) (fun k hk e=>absurd e (by show k≠gb2;omega)) _) (fun k hk e=>absurd e (by show k≠gb2;omega)) _) (fun k hk=>Nat.le_trans hle hk)) hle,Qg (Qg (Qg HBw G2.out) G2.out) G2.out⟩
  ·rw [if_neg cL] at H1
   exact absurd H1 (by simp)
 ·rw [if_neg c0] at H1
  simp only [Option.some.injEq,Prod.mk.injEq] at H1
  obtain ⟨rfl,rfl,rfl,rfl⟩:=H1;have t0:(e0 != 0)=true:=bne_iff_ne.mpr c0;clear c0;go_enter Try.func22,Try.ntmps22
  go_wp2_with (first | ((with_reducible refine gate_dst (N:=1) rfl ?_);refine box_event ?hg (N:=1) ?hd (cs:=#[.int .i64 a0_0,.int .i64 a0_1,.slice A0_2 l0_2.length c0_2]) (t:=24) ?hr ?_;(case hd=>rfl);(case hg=>rfl);(case hr=>first | (go_simp;done) | (go_simp;rfl));intro gb1 hg w1 BK1 hb;have G1:=Qh (show w.heap.size≤gb1 by rw [hg];exact Nat.le_refl _);have HB1:=Qh (Qr HB.out hb);replace BK1:=Qh BK1;clear HB;have HB:=HB1;clear HB1 hb hg) | ((with_reducible refine gate_dst (N:=2) rfl ?_);refine box_event ?hg (N:=2) ?hd (cs:=#[.int .i64 0,.int .i64 0,.slice none 0 0]) (t:=24) ?hr ?_;(case hd=>rfl);(case hg=>rfl);(case hr=>first | (go_simp;done) | (go_simp;rfl));intro gb2 hg w2 BK2 hb;have G2:=Qh (show w.heap.size≤gb2 by rw [hg];exact HB.out.size);have N12:=Qh (show gb1≠gb2 by rw [hg];exact Nat.ne_of_lt (blk_lt BK1.out));have HB1:=Qh (Qr HB.out hb);have BK1':=Qh (Qq BK1.out hb);replace BK2:=Qh BK2;clear HB BK1;have HB:=HB1;have BK1:=BK1';clear HB1 BK1' hb hg;have hz0:w2.cell? ⟨gb1,0,none⟩=some (.int .i64 a0_0):=(Qi BK1.out 0).trans rfl;have hz1:w2.cell? ⟨gb1,1,none⟩=some (.int .i64 a0_1):=(Qi BK1.out 1).trans rfl;have hz2:w2.cell? ⟨gb1,2,none⟩=some (.slice A0_2 l0_2.length c0_2):=(Qi BK1.out 2).trans rfl) | (go_at_call 6;refine (layers_Early.calls k a0_0 a0_1 A0_2 c0_2 l0_2 es _ _ ?s1 ?s2 AE.out).mono ?_;(case s1=>exact Qt HR.out HB.out);(case s2=>exact HC.out);rintro e w3 ⟨ve,rfl,ho,hb⟩;have HE:=Qh (Kd.R_lower ho HB.out.size);have HEok:=Qh (Kd.R_base ho);have HB1:=Qh (Qr HB.out hb);have BK1':=Qh (Qq BK1.out hb);have BK2':=Qh (Qq BK2.out hb);have S12:=Qh (And.intro (blk_lt BK1'.out) (blk_lt BK2'.out));clear HB BK1 BK2 hz0 hz1 hz2 hb ho;have HB:=HB1;have BK1:=BK1';have BK2:=BK2';clear HB1 BK1' BK2';obtain ⟨Ae,ce,ee⟩:=Kd.R_slice HE.out;subst ee;have y0:∀ o,(w3.alloc o).cell? ⟨gb2,0,none⟩=some (.int .i64 0):=fun o=>(Qi (Qc BK2.out o) 0).trans rfl;have y1:∀ o,(w3.alloc o).cell? ⟨gb2,1,none⟩=some (.int .i64 0):=fun o=>(Qi (Qc BK2.out o) 1).trans rfl;have y2:∀ o,(w3.alloc o).cell? ⟨gb2,2,none⟩=some (.slice none 0 0):=fun o=>(Qi (Qc BK2.out o) 2).trans rfl;have y0f:=fun o=>Qj (Qc BK2.out o) 0;have y1f:=fun o=>Qj (Qc BK2.out o) 1;have y2f:=fun o=>Qj (Qc BK2.out o) 2))
  refine bodyPost_ret (results_ct rfl _ _ gb2 24 #[.int .i64 0,.int .i64 0,.slice none 0 0] (0,0) _ rfl (blk_put (cs:=#[.int .i64 0,.int .i64 0,.slice none 0 0]) (blk_put (cs:=#[.int .i64 0,.int .i64 0,.slice none 0 0]) (blk_put (cs:=#[.int .i64 0,.int .i64 0,.slice none 0 0]) (Qc BK2.out _) 0 _ rfl) 1 _ rfl) 2 _ rfl) Try.underlying24 rfl (by kernel_rfl)) rfl ?_
  exact ⟨_,rfl,Kd.N_nil _ _ _ _ _,Qg (Qg (Qg (Qd HB.out _) G2.out) G2.out) G2.out⟩
theorem reg_inv {P:Program} {ops:Array Oper} {Q:Exit→Act→World→Prop} {md:Region.Mode} (I:Array Bool→Act→World→Prop)
  (hstep:∀ l a w,I l a w→∀ (i:Nat) (oi:Oper),ops[i]?=some oi→l.getD i true=false→(∀ e ∈ oi.after,Region.binds md e=true→l.getD e.on false=true)→∀ K:Act→World→Prop,Shut (∀ a' w',I (l.setIfInBounds i true) a' w'→K a' w')→if Region.wanted oi (yielded ops a.tmps)=true then Oper.wp P oi a w K Q else K (a.put oi.dst undef) w)
  (hdone:∀ l a w,I l a w→(∀ (i:Nat) (oi:Oper),ops[i]?=some oi→l.getD i true=true)→Q .normal a w) (hsz:∀ l a w,I l a w→l.size=ops.size)
  (hac:∀ (i:Nat) (oi:Oper),ops[i]?=some oi→∀ e ∈ oi.after,e.on < i) :
  ∀ fuel l a w,I l a w→l.toList.count false≤fuel→wpAnyLast P md ops Q (fun _=>True) [] fuel l a w:=by
 have hno:∀ l:Array Bool,l.size=ops.size→Region.ready md ops l=[]→∀ i oi,ops[i]?=some oi→l.getD i true=true:=by
  intro l hs hr i
  induction i using Nat.strongRecOn with
  | ind i ih =>
   intro oi hoi
   by_cases hl:l.getD i true=true
   ·exact hl
   ·exfalso
    have hm:i ∈ Region.ready md ops l:=mem_ready.2 ⟨by simpa using hl,oi,hoi,fun e he hb=>by
     have hlt:=hac i oi hoi e he
     have hil:i < ops.size:=(Array.getElem?_eq_some_iff.1 hoi).1
     have h1:=ih e.on hlt _ (Array.getElem?_eq_getElem (show e.on < ops.size by omega))
     rw [Array.getD_eq_getD_getElem?,Array.getElem?_eq_getElem (show e.on < l.size by omega)] at h1 ⊢
     exact h1⟩
    rw [hr] at hm
    cases hm
 intro fuel
 induction fuel with
 | zero =>
  intro l a w hI hc
  have hr:Region.ready md ops l=[]:=by
   apply List.eq_nil_iff_forall_not_mem.2
   intro i hi
   obtain ⟨h1,oi,hoi,_⟩:=mem_ready.1 hi
   have hlt:i < l.size:=by rw [hsz l a w hI];exact (Array.getElem?_eq_some_iff.1 hoi).1
   rw [Array.getD_eq_getD_getElem?,Array.getElem?_eq_getElem hlt] at h1
   have h2:false ∈ l.toList:=by
    have h3:=Array.getElem_mem_toList hlt
    rwa [show l[i]=false from h1] at h3
   have:=List.count_pos_iff.2 h2
   omega
  exact wpAnyLast_done hr (hdone l a w hI (hno l (hsz l a w hI) hr)) 0
 | succ n ih =>
  intro l a w hI hc
  by_cases hr:Region.ready md ops l=[]
  ·exact wpAnyLast_done hr (hdone l a w hI (hno l (hsz l a w hI) hr)) _
  ·refine wpAnyLast_ready rfl hr (fun i hi=>?_)
   obtain ⟨h1,oi,hoi,h2⟩:=mem_ready.1 hi
   have hlt:i < l.size:=by rw [hsz l a w hI];exact (Array.getElem?_eq_some_iff.1 hoi).1
   refine wpOp_step hoi (fun K hK=>hstep l a w hI i oi hoi h1 h2 K (fun a' w' hI'=>hK a' w' ⟨fun _ _=>trivial,ih _ a' w' hI' ?_⟩))
   have h4:l.toList[i]'(by simpa using hlt)=false:=by
    rw [Array.getD_eq_getD_getElem?,Array.getElem?_eq_getElem hlt] at h1
    simpa using h1
   rw [Array.toList_setIfInBounds,List.count_set (by simpa using hlt),h4]
   have h5:0 < l.toList.count false:=List.count_pos_iff.2 (by rw [← h4];exact List.getElem_mem _)
   simp only [beq_self_eq_true,if_true,show (true == false)=false from rfl,Bool.false_eq_true,if_false]
   omega
theorem yields_step {P:Program} {ops:Array Oper} {Q:Exit→Act→World→Prop} {oi:Oper} {N:Option Tmp} {a:Act} {w w1:World} {K:Act→World→Prop} {v:Value} (hw:Region.wanted oi (yielded ops a.tmps)=true) (hN:oi.dst=N) (hrun:(execOp a.eval oi).run P w=.ok (.value v) w1) (h:K (a.put N v) w1):if Region.wanted oi (yielded ops a.tmps)=true then Oper.wp P oi a w K Q else K (a.put N undef) w:=by
 rw [if_pos hw]
 subst hN
 unfold Oper.wp
 rw [hrun]
 exact h
def RowI (w:World) (v:Value) (xs:List Int):Prop:=∃ A c,v=.slice A xs.length c∧xs.length≤c∧Kd.C (Kd.int .i64) w A xs.length xs
theorem RowI.below {w w1:World} {v:Value} {xs:List Int} (h:RowI w v xs) (hb:Below w.heap.size w w1):RowI w1 v xs:=by
 obtain ⟨A,c,e,hc,hC⟩:=h
 exact ⟨A,c,e,hc,Kd.C_below hC hb⟩
def Ag (b:Nat) (w W:World):Prop:=w.heap.size≤W.heap.size∧∀ k,b≤k→k < w.heap.size→W.heap[k]?=w.heap[k]?
theorem Ag.refl (b:Nat) (w:World):Ag b w w:=⟨Nat.le_refl _,fun _ _ _=>rfl⟩
theorem Ag.trans {b:Nat} {w W X:World} (h:Ag b w W) (h2:Ag b W X):Ag b w X:=⟨Nat.le_trans h.1 h2.1,fun k hb hk=>(h2.2 k hb (Nat.lt_of_lt_of_le hk h.1)).trans (h.2 k hb hk)⟩
theorem Ag.of_below {b:Nat} {w W:World} (h:Below w.heap.size w W):Ag b w W:=⟨h.size,fun k _ hk=>h.block k hk⟩
theorem Ag.set {b g o:Nat} (w:World) (hg:g < b) (u:Value):Ag b w (w.setCell ⟨g,o,none⟩ u):=⟨Nat.le_of_eq (by simp),fun k hk _=>Below.heap_setCell w _ u k (show k≠g by omega)⟩
def RowL (b:Nat) (w:World) (v:Value) (xs:List Int):Prop:=∀ W,Ag b w W→RowI W v xs
theorem RowL.ag {b:Nat} {w w1:World} {v:Value} {xs:List Int} (h:RowL b w v xs) (hb:Ag b w w1):RowL b w1 v xs:=fun W hW=>h W (hb.trans hW)
theorem RowL.now {b:Nat} {w:World} {v:Value} {xs:List Int} (h:RowL b w v xs):RowI w v xs:=h w (Ag.refl _ _)
theorem RowL.new {b:Nat} {w:World} (xs:List Int) (hb:b≤w.heap.size) (hm:xs.length≤9223372036854775807):RowL b (w.alloc (.cells (xs.map (Value.int .i64)).toArray 3)) (.slice (some ⟨w.heap.size,0,none⟩) xs.length xs.length) xs:=by
 intro W hW
 refine ⟨_,_,rfl,Nat.le_refl _,rfl,hm,fun _=>⟨_,rfl,fun j p hj=>⟨[.int .i64 p],rfl,rfl,fun i u hu=>?_⟩⟩⟩
 have h1:W.heap[w.heap.size]?=some (.cells (xs.map (Value.int .i64)).toArray 3 (0,0)):=(hW.2 w.heap.size hb (by simp)).trans (blk_new w _)
 match i,hu with
 | 0,hu =>
  injection hu with hu
  subst hu
  have h2:=blk_cell h1 (j * 1 + 0)
  show W.cell? (Addr.add ⟨w.heap.size,0,none⟩ (j * 1 + 0))=_
  rw [add_at,Nat.zero_add]
  refine h2.trans ?_
  simp [hj]
 | i + 1,hu=>cases hu
set_option maxHeartbeats 2000000 in
set_option maxRecDepth 100000 in
theorem G_calls (g:Int) (v:Value) (xs:List Int) (w:World) (hv:RowI w v xs) :
  Calls Try.prog 52 #[.int .i64 g,v] w fun e w'=>e=.returned (.agg #[.int .i64 1,.int .i64 g,v,.int .i64 0,.int .i64 (-1),.int .i64 0])∧Below w.heap.size w w':=by
 have hu57:=Try.underlying57
 obtain ⟨A,c,rfl,hc,hC⟩:=hv
 have HB:=Aside0.mk (Below.refl w.heap.size w)
 clear hC hc
 go_enter Try.func52,Try.ntmps52
 go_wp2_with (first | ((with_reducible refine gate_dst (N:=4) rfl ?_);refine box_event ?hg (N:=4) ?hd (cs:=#[.int .i64 0,.int .i64 0,.slice none 0 0,.int .i64 0,.int .i64 0,.int .i64 0]) (t:=57) ?hr ?_;(case hd=>rfl);(case hg=>rfl);(case hr=>first | (go_simp;done) | (go_simp;rfl));intro gb hg w3 hbox hb;have BK:=Aside0.mk hbox;have GW:=Aside0.mk (show w.heap.size≤gb by rw [hg];exact Nat.le_refl _);have HB':=Aside0.mk (below_step HB.out hb);clear HB;have HB:=HB';clear HB' hbox hb hg;have y0:w3.cell? ⟨gb,0,none⟩=some (.int .i64 0):=(blk_cell BK.out 0).trans rfl;have y1:w3.cell? ⟨gb,1,none⟩=some (.int .i64 0):=(blk_cell BK.out 1).trans rfl;have y2:w3.cell? ⟨gb,2,none⟩=some (.slice none 0 0):=(blk_cell BK.out 2).trans rfl;have y3:w3.cell? ⟨gb,3,none⟩=some (.int .i64 0):=(blk_cell BK.out 3).trans rfl;have y4:w3.cell? ⟨gb,4,none⟩=some (.int .i64 0):=(blk_cell BK.out 4).trans rfl;have y5:w3.cell? ⟨gb,5,none⟩=some (.int .i64 0):=(blk_cell BK.out 5).trans rfl;have f0:=blk_frozen BK.out 0;have f1:=blk_frozen BK.out 1;have f2:=blk_frozen BK.out 2;have f3:=blk_frozen BK.out 3;have f4:=blk_frozen BK.out 4;have f5:=blk_frozen BK.out 5))
 refine bodyPost_ret (results_cell_row rfl _ _ gb 57 #[.int .i64 1,.int .i64 g,.slice A xs.length c,.int .i64 0,.int .i64 (-1),.int .i64 0] (0,0) _ rfl (blk_put (cs:=#[.int .i64 1,.int .i64 g,.slice A xs.length c,.int .i64 0,.int .i64 (-1),.int .i64 0]) (blk_put (cs:=#[.int .i64 1,.int .i64 g,.slice A xs.length c,.int .i64 0,.int .i64 0,.int .i64 0]) (blk_put (cs:=#[.int .i64 1,.int .i64 g,.slice A xs.length c,.int .i64 0,.int .i64 0,.int .i64 0]) (blk_put (cs:=#[.int .i64 1,.int .i64 g,.slice none 0 0,.int .i64 0,.int .i64 0,.int .i64 0]) (blk_put (cs:=#[.int .i64 1,.int .i64 0,.slice none 0 0,.int .i64 0,.int .i64 0,.int .i64 0]) (blk_put (cs:=#[.int .i64 0,.int .i64 0,.slice none 0 0,.int .i64 0,.int .i64 0,.int .i64 0]) BK.out 0 _ rfl) 1 _ rfl) 2 _ rfl) 3 _ rfl) 4 _ rfl) 5 _ rfl) hu57 rfl (by kernel_rfl)) rfl ?_
 exact ⟨rfl,below_set (below_set (below_set (below_set (below_set (below_set HB.out GW.out) GW.out) GW.out) GW.out) GW.out) GW.out⟩
def exOps:List S57:=[⟨1,2,[0],0,-1,0⟩,⟨1,11,[0,1],0,-1,0⟩,⟨1,2,[2],0,-1,0⟩,⟨4,0,[1,2],0,-1,0⟩,⟨1,2,[2],0,-1,0⟩]
def OpsL (b:Nat) (w:World) (v:Value):Prop:=∃ A,v=.slice A 5 5∧∀ W,Ag b w W→Kd.C k57 W A 5 exOps
theorem OpsL.ag {b:Nat} {w w1:World} {v:Value} (h:OpsL b w v) (hb:Ag b w w1):OpsL b w1 v:=by
 obtain ⟨A,e,hC⟩:=h
 exact ⟨A,e,fun W hW=>hC W (hb.trans hW)⟩
def gv (k g:Int) (v:Value):Value:=.agg #[.int .i64 k,.int .i64 g,v,.int .i64 0,.int .i64 (-1),.int .i64 0]
def gcells (k g:Int) (v:Value):List Value:=[.int .i64 k,.int .i64 g,v,.int .i64 0,.int .i64 (-1),.int .i64 0]
def ExI (w0:World) (g0 g1:Nat) (ub u3:Value) (l:Array Bool) (a:Act) (w:World):Prop :=
 ∃ v4 v5 v6 v7 v8 v9 v10 v11 v12 v13 v14:Value,a=⟨#[.pointer (some ⟨g0,0,none⟩),.pointer (some ⟨g1,0,none⟩),ub,u3,v4,v5,v6,v7,v8,v9,v10,v11,v12,v13,v14],[]⟩∧l.size=12∧Below w0.heap.size w0 w∧w0.heap.size≤g0∧g0 < g1∧g1 < w.heap.size ∧
  w.heap[g1]?=some (.cells (gcells 4 0 ub).toArray 57 (0,0))∧RowL (g0 + 1) w ub [1,2]∧(l.getD 11 true=false→w.heap[g0]?=some (.cells #[.int .i64 0,.int .i64 0,.slice none 0 0] 24 (0,0))) ∧
  (l.getD 0 false=true→RowL (g0 + 1) w v4 [0])∧(l.getD 1 false=true→(v5=gv 1 2 v4∧RowL (g0 + 1) w v4 [0]∧l.getD 0 false=true))∧(l.getD 2 false=true→RowL (g0 + 1) w v6 [0,1])∧(l.getD 3 false=true→(v7=gv 1 11 v6∧RowL (g0 + 1) w v6 [0,1]∧l.getD 2 false=true))∧(l.getD 4 false=true→RowL (g0 + 1) w v8 [2])∧(l.getD 5 false=true→(v9=gv 1 2 v8∧RowL (g0 + 1) w v8 [2]∧l.getD 4 false=true))∧(l.getD 6 false=true→v10=gv 4 0 ub)∧(l.getD 7 false=true→RowL (g0 + 1) w v11 [2])∧(l.getD 8 false=true→(v12=gv 1 2 v11∧RowL (g0 + 1) w v11 [2]∧l.getD 7 false=true))∧(l.getD 9 false=true→OpsL (g0 + 1) w v13)∧(l.getD 10 false=true→(v14=.agg #[.int .i64 3,.int .i64 0,v13]∧l.getD 9 false=true))∧(l.getD 11 false=true→(w.heap[g0]?=some (.cells #[.int .i64 3,.int .i64 0,v13] 24 (0,0))∧l.getD 9 false=true))
theorem gv_K {b:Nat} {w W:World} {k g:Int} {v:Value} {xs:List Int} (h:RowL b w v xs) (hW:Ag b w W):k57.K W ⟨k,g,xs,0,-1,0⟩ (gcells k g v):=by
 obtain ⟨A,c,rfl,hc,hC⟩:=h W hW
 exact k57_mk W ⟨k,g,xs,0,-1,0⟩ hc hC
theorem OpsL.new {b:Nat} {w:World} {v4 v6 v8 ub v11:Value} (hb:b≤w.heap.size) (h4:RowL b w v4 [0]) (h6:RowL b w v6 [0,1]) (h8:RowL b w v8 [2]) (hu:RowL b w ub [1,2]) (h11:RowL b w v11 [2]) :
  OpsL b (w.alloc (.cells (gcells 1 2 v4 ++ gcells 1 11 v6 ++ gcells 1 2 v8 ++ gcells 4 0 ub ++ gcells 1 2 v11).toArray 57)) (.slice (some ⟨w.heap.size,0,none⟩) 5 5):=by
 refine ⟨_,rfl,fun W hW=>⟨rfl,by omega,fun _=>⟨_,rfl,fun j p hj=>?_⟩⟩⟩
 have h1:W.heap[w.heap.size]?=some (.cells (gcells 1 2 v4 ++ gcells 1 11 v6 ++ gcells 1 2 v8 ++ gcells 4 0 ub ++ gcells 1 2 v11).toArray 57 (0,0)):=(hW.2 w.heap.size hb (by simp)).trans (blk_new w _)
 have hA:Ag b w W:=(Ag.of_below (below_alloc (Below.refl _ _) _)).trans hW
 have hc:∀ (j i:Nat),W.cell? (Addr.add ⟨w.heap.size,0,none⟩ (j * 6 + i))=(gcells 1 2 v4 ++ gcells 1 11 v6 ++ gcells 1 2 v8 ++ gcells 4 0 ub ++ gcells 1 2 v11).toArray[j * 6 + i]?:=fun j i=>by
  rw [add_at,Nat.zero_add]
  exact blk_cell h1 _
 match j,hj with
 | 0,hj =>
  cases hj
  refine ⟨gcells 1 2 v4,rfl,gv_K h4 hA,fun i u hu=>(hc 0 i).trans ?_⟩
  match i,hu with
  | 0,hu=>exact hu
  | 1,hu=>exact hu
  | 2,hu=>exact hu
  | 3,hu=>exact hu
  | 4,hu=>exact hu
  | 5,hu=>exact hu
  | i + 6,hu=>cases hu
 | 1,hj =>
  cases hj
  refine ⟨gcells 1 11 v6,rfl,gv_K h6 hA,fun i u hu=>(hc 1 i).trans ?_⟩
  match i,hu with
  | 0,hu=>exact hu
  | 1,hu=>exact hu
  | 2,hu=>exact hu
  | 3,hu=>exact hu
  | 4,hu=>exact hu
  | 5,hu=>exact hu
  | i + 6,hu=>cases hu
 | 2,hj =>
  cases hj
  refine ⟨gcells 1 2 v8,rfl,gv_K h8 hA,fun i u hu=>(hc 2 i).trans ?_⟩
  match i,hu with
  | 0,hu=>exact hu
  | 1,hu=>exact hu
  | 2,hu=>exact hu
  | 3,hu=>exact hu
  | 4,hu=>exact hu
  | 5,hu=>exact hu
  | i + 6,hu=>cases hu
 | 3,hj =>
  cases hj
  refine ⟨gcells 4 0 ub,rfl,gv_K hu hA,fun i u hu=>(hc 3 i).trans ?_⟩
  match i,hu with
  | 0,hu=>exact hu
  | 1,hu=>exact hu
  | 2,hu=>exact hu
  | 3,hu=>exact hu
  | 4,hu=>exact hu
  | 5,hu=>exact hu
  | i + 6,hu=>cases hu
 | 4,hj =>
  cases hj
  refine ⟨gcells 1 2 v11,rfl,gv_K h11 hA,fun i u hu=>(hc 4 i).trans ?_⟩
  match i,hu with
  | 0,hu=>exact hu
  | 1,hu=>exact hu
  | 2,hu=>exact hu
  | 3,hu=>exact hu
  | 4,hu=>exact hu
  | 5,hu=>exact hu
  | i + 6,hu=>cases hu
 | j + 5,hj=>cases hj
theorem skip_step {P:Program} {ops:Array Oper} {Q:Exit→Act→World→Prop} {oi:Oper} {a:Act} {w w1:World} {K:Act→World→Prop} (hw:Region.wanted oi (yielded ops a.tmps)=true) (hrun:(execOp a.eval oi).run P w=.ok .skip w1) (h:K (a.put oi.dst undef) w1):if Region.wanted oi (yielded ops a.tmps)=true then Oper.wp P oi a w K Q else K (a.put oi.dst undef) w:=by
 rw [if_pos hw]
 unfold Oper.wp
 rw [hrun,Oper.upon_skip]
 exact h
theorem bk36 {l:Array Bool} {i j:Nat} (h:i≠j) (hx:(l.setIfInBounds i true).getD j false=true):l.getD j false=true:=(getD_set_ne false h).symm.trans hx
theorem bk36t {l:Array Bool} {i j:Nat} (h:i≠j) (hx:(l.setIfInBounds i true).getD j true=false):l.getD j true=false:=(getD_set_ne true h).symm.trans hx
theorem no36 {l:Array Bool} {i:Nat} (h:l.getD i true=false) (h2:l.getD i false=true):False:=by
 rw [Array.getD_eq_getD_getElem?] at h h2
 cases hx:l[i]? with
 | none=>rw [hx] at h;cases h
 | some b=>rw [hx] at h h2;exact absurd (h.symm.trans h2) (by decide)
theorem all36 (i:Nat) (oi:Oper) (h:(opsOf Try.f36 2)[i]?=some oi):i < 12:=(Array.getElem?_eq_some_iff.1 h).1
set_option maxHeartbeats 2000000 in
set_option maxRecDepth 100000 in
theorem step36_0 {w:World} {g0 g1:Nat} {ub:Value} {Q:Exit→Act→World→Prop} (hu24:Try.prog.underlying 24=some (.struct #[{ name:= "Qubits",type:=3,offset:=0,embedded:=false,tag:= "",pkgPath:= "",byteOffset:=0 },{ name:= "Bits",type:=3,offset:=1,embedded:=false,tag:= "",pkgPath:= "",byteOffset:=8 },{ name:= "Ops",type:=22,offset:=2,embedded:=false,tag:= "",pkgPath:= "",byteOffset:=16 }])) (l:Array Bool) (a:Act) (W:World) (hI:ExI w g0 g1 ub (gv 4 0 ub) l a W) (oi:Oper) (hoi:(opsOf Try.f36 2)[0]?=some oi) (haf:∀ e ∈ oi.after,Region.binds .any e=true→l.getD e.on false=true) (hl0:l.getD 0 true=false) (K:Act→World→Prop) (hK:Shut (∀ a' w',ExI w g0 g1 ub (gv 4 0 ub) (l.setIfInBounds 0 true) a' w'→K a' w')):if Region.wanted oi (yielded (opsOf Try.f36 2) a.tmps)=true then Oper.wp Try.prog oi a W K Q else K (a.put oi.dst undef) W:=by
 have hu57:=Try.underlying57
 obtain ⟨v4,v5,v6,v7,v8,v9,v10,v11,v12,v13,v14,rfl,hl,hB,h0,h1,h2,h3,h4,hz,F0,F1,F2,F3,F4,F5,F6,F7,F8,F9,F10,F11⟩:=hI
 obtain rfl:=Option.some.inj ((show (opsOf Try.f36 2)[0]?=some ({ dst:=some 4,op:=.buildSlice 25 1 #[(0,.const (.int .i64 0))],type:=25,pos:= "law.go:20",after:=#[],guard:=none }:Oper) from by kernel_rfl).symm.trans hoi)
 have hb:=below_alloc (Below.refl W.heap.size W) (.cells #[.int .i64 0] 3)
 have hA:Ag (g0 + 1) W _:=Ag.of_below hb
 refine yields_step (N:=some 4) (v:=.slice (some ⟨W.heap.size,0,none⟩) 1 1) (w1:=W.alloc (.cells #[.int .i64 0] 3)) rfl rfl (by first | (go_simp;done) | (go_simp;rfl)) (hK.out _ _ ?_)
 exact ⟨_,_,_,_,_,_,_,_,_,_,_,rfl,by simp [hl],below_step hB hb,h0,h1,Nat.lt_of_lt_of_le h2 hb.size,blk_below h3 hb,h4.ag hA,fun h=>blk_below (hz (bk36t (by decide) h)) hb,fun _=>RowL.new (b:=g0 + 1) (w:=W) [0] (by omega) (by decide),fun h=>(no36 hl0 (F1 (bk36 (by decide) h)).2.2).elim,fun h=>(F2 (bk36 (by decide) h)).ag hA,fun h=>⟨(F3 (bk36 (by decide) h)).1,(F3 (bk36 (by decide) h)).2.1.ag hA,getD_set_true (F3 (bk36 (by decide) h)).2.2⟩,fun h=>(F4 (bk36 (by decide) h)).ag hA,fun h=>⟨(F5 (bk36 (by decide) h)).1,(F5 (bk36 (by decide) h)).2.1.ag hA,getD_set_true (F5 (bk36 (by decide) h)).2.2⟩,fun h=>F6 (bk36 (by decide) h),fun h=>(F7 (bk36 (by decide) h)).ag hA,fun h=>⟨(F8 (bk36 (by decide) h)).1,(F8 (bk36 (by decide) h)).2.1.ag hA,getD_set_true (F8 (bk36 (by decide) h)).2.2⟩,fun h=>(F9 (bk36 (by decide) h)).ag hA,fun h=>⟨(F10 (bk36 (by decide) h)).1,getD_set_true (F10 (bk36 (by decide) h)).2⟩,fun h=>⟨blk_below (F11 (bk36 (by decide) h)).1 hb,getD_set_true (F11 (bk36 (by decide) h)).2⟩⟩
set_option maxHeartbeats 2000000 in
set_option maxRecDepth 100000 in
theorem step36_1 {w:World} {g0 g1:Nat} {ub:Value} {Q:Exit→Act→World→Prop} (hu24:Try.prog.underlying 24=some (.struct #[{ name:= "Qubits",type:=3,offset:=0,embedded:=false,tag:= "",pkgPath:= "",byteOffset:=0 },{ name:= "Bits",type:=3,offset:=1,embedded:=false,tag:= "",pkgPath:= "",byteOffset:=8 },{ name:= "Ops",type:=22,offset:=2,embedded:=false,tag:= "",pkgPath:= "",byteOffset:=16 }])) (l:Array Bool) (a:Act) (W:World) (hI:ExI w g0 g1 ub (gv 4 0 ub) l a W) (oi:Oper) (hoi:(opsOf Try.f36 2)[1]?=some oi) (haf:∀ e ∈ oi.after,Region.binds .any e=true→l.getD e.on false=true) (hl0:l.getD 1 true=false) (K:Act→World→Prop) (hK:Shut (∀ a' w',ExI w g0 g1 ub (gv 4 0 ub) (l.setIfInBounds 1 true) a' w'→K a' w')):if Region.wanted oi (yielded (opsOf Try.f36 2) a.tmps)=true then Oper.wp Try.prog oi a W K Q else K (a.put oi.dst undef) W:=by
 have hu57:=Try.underlying57
 obtain ⟨v4,v5,v6,v7,v8,v9,v10,v11,v12,v13,v14,rfl,hl,hB,h0,h1,h2,h3,h4,hz,F0,F1,F2,F3,F4,F5,F6,F7,F8,F9,F10,F11⟩:=hI
 obtain rfl:=Option.some.inj ((show (opsOf Try.f36 2)[1]?=some ({ dst:=some 5,op:=.call { callee:=.value (.func 52),args:=#[.const (.int .i64 2),.tmp 4],argTypes:=#[55,25] },type:=57,pos:= "law.go:20",after:=#[{ on:=0,ground:=.data }],guard:=none }:Oper) from by kernel_rfl).symm.trans hoi)
 refine goes_ Try.func52 (by kernel_rfl) rfl #[.int .i64 2,v4] (by rfl) rfl rfl (by simp [Act.eval]) ?_
 refine (G_calls 2 v4 [0] W (F0 (haf ⟨0,.data⟩ (by simp) rfl)).now).mono ?_
 rintro e W1 ⟨rfl,hb⟩
 have hA:Ag (g0 + 1) W _:=Ag.of_below hb
 exact ⟨_,rfl,hK.out _ _ ⟨_,_,_,_,_,_,_,_,_,_,_,rfl,by simp [hl],below_step hB hb,h0,h1,Nat.lt_of_lt_of_le h2 hb.size,blk_below h3 hb,h4.ag hA,fun h=>blk_below (hz (bk36t (by decide) h)) hb,fun h=>(F0 (bk36 (by decide) h)).ag hA,fun _=>⟨rfl,(F0 (haf ⟨0,.data⟩ (by simp) rfl)).ag hA,getD_set_true (haf ⟨0,.data⟩ (by simp) rfl)⟩,fun h=>(F2 (bk36 (by decide) h)).ag hA,fun h=>⟨(F3 (bk36 (by decide) h)).1,(F3 (bk36 (by decide) h)).2.1.ag hA,getD_set_true (F3 (bk36 (by decide) h)).2.2⟩,fun h=>(F4 (bk36 (by decide) h)).ag hA,fun h=>⟨(F5 (bk36 (by decide) h)).1,(F5 (bk36 (by decide) h)).2.1.ag hA,getD_set_true (F5 (bk36 (by decide) h)).2.2⟩,fun h=>F6 (bk36 (by decide) h),fun h=>(F7 (bk36 (by decide) h)).ag hA,fun h=>⟨(F8 (bk36 (by decide) h)).1,(F8 (bk36 (by decide) h)).2.1.ag hA,getD_set_true (F8 (bk36 (by decide) h)).2.2⟩,fun h=>(F9 (bk36 (by decide) h)).ag hA,fun h=>⟨(F10 (bk36 (by decide) h)).1,getD_set_true (F10 (bk36 (by decide) h)).2⟩,fun h=>⟨blk_below (F11 (bk36 (by decide) h)).1 hb,getD_set_true (F11 (bk36 (by decide) h)).2⟩⟩⟩
set_option maxHeartbeats 2000000 in
set_option maxRecDepth 100000 in
theorem step36_2 {w:World} {g0 g1:Nat} {ub:Value} {Q:Exit→Act→World→Prop} (hu24:Try.prog.underlying 24=some (.struct #[{ name:= "Qubits",type:=3,offset:=0,embedded:=false,tag:= "",pkgPath:= "",byteOffset:=0 },{ name:= "Bits",type:=3,offset:=1,embedded:=false,tag:= "",pkgPath:= "",byteOffset:=8 },{ name:= "Ops",type:=22,offset:=2,embedded:=false,tag:= "",pkgPath:= "",byteOffset:=16 }])) (l:Array Bool) (a:Act) (W:World) (hI:ExI w g0 g1 ub (gv 4 0 ub) l a W) (oi:Oper) (hoi:(opsOf Try.f36 2)[2]?=some oi) (haf:∀ e ∈ oi.after,Region.binds .any e=true→l.getD e.on false=true) (hl0:l.getD 2 true=false) (K:Act→World→Prop) (hK:Shut (∀ a' w',ExI w g0 g1 ub (gv 4 0 ub) (l.setIfInBounds 2 true) a' w'→K a' w')):if Region.wanted oi (yielded (opsOf Try.f36 2) a.tmps)=true then Oper.wp Try.prog oi a W K Q else K (a.put oi.dst undef) W:=by
 have hu57:=Try.underlying57
 obtain ⟨v4,v5,v6,v7,v8,v9,v10,v11,v12,v13,v14,rfl,hl,hB,h0,h1,h2,h3,h4,hz,F0,F1,F2,F3,F4,F5,F6,F7,F8,F9,F10,F11⟩:=hI
 obtain rfl:=Option.some.inj ((show (opsOf Try.f36 2)[2]?=some ({ dst:=some 6,op:=.buildSlice 25 2 #[(0,.const (.int .i64 0)),(1,.const (.int .i64 1))],type:=25,pos:= "law.go:20",after:=#[],guard:=none }:Oper) from by kernel_rfl).symm.trans hoi)
 have hb:=below_alloc (Below.refl W.heap.size W) (.cells #[.int .i64 0,.int .i64 1] 3)
 have hA:Ag (g0 + 1) W _:=Ag.of_below hb
 refine yields_step (N:=some 6) (v:=.slice (some ⟨W.heap.size,0,none⟩) 2 2) (w1:=W.alloc (.cells #[.int .i64 0,.int .i64 1] 3)) rfl rfl (by first | (go_simp;done) | (go_simp;rfl)) (hK.out _ _ ?_)
 exact ⟨_,_,_,_,_,_,_,_,_,_,_,rfl,by simp [hl],below_step hB hb,h0,h1,Nat.lt_of_lt_of_le h2 hb.size,blk_below h3 hb,h4.ag hA,fun h=>blk_below (hz (bk36t (by decide) h)) hb,fun h=>(F0 (bk36 (by decide) h)).ag hA,fun h=>⟨(F1 (bk36 (by decide) h)).1,(F1 (bk36 (by decide) h)).2.1.ag hA,getD_set_true (F1 (bk36 (by decide) h)).2.2⟩,fun _=>RowL.new (b:=g0 + 1) (w:=W) [0,1] (by omega) (by decide),fun h=>(no36 hl0 (F3 (bk36 (by decide) h)).2.2).elim,fun h=>(F4 (bk36 (by decide) h)).ag hA,fun h=>⟨(F5 (bk36 (by decide) h)).1,(F5 (bk36 (by decide) h)).2.1.ag hA,getD_set_true (F5 (bk36 (by decide) h)).2.2⟩,fun h=>F6 (bk36 (by decide) h),fun h=>(F7 (bk36 (by decide) h)).ag hA,fun h=>⟨(F8 (bk36 (by decide) h)).1,(F8 (bk36 (by decide) h)).2.1.ag hA,getD_set_true (F8 (bk36 (by decide) h)).2.2⟩,fun h=>(F9 (bk36 (by decide) h)).ag hA,fun h=>⟨(F10 (bk36 (by decide) h)).1,getD_set_true (F10 (bk36 (by decide) h)).2⟩,fun h=>⟨blk_below (F11 (bk36 (by decide) h)).1 hb,getD_set_true (F11 (bk36 (by decide) h)).2⟩⟩
set_option maxHeartbeats 2000000 in
set_option maxRecDepth 100000 in
theorem step36_3 {w:World} {g0 g1:Nat} {ub:Value} {Q:Exit→Act→World→Prop} (hu24:Try.prog.underlying 24=some (.struct #[{ name:= "Qubits",type:=3,offset:=0,embedded:=false,tag:= "",pkgPath:= "",byteOffset:=0 },{ name:= "Bits",type:=3,offset:=1,embedded:=false,tag:= "",pkgPath:= "",byteOffset:=8 },{ name:= "Ops",type:=22,offset:=2,embedded:=false,tag:= "",pkgPath:= "",byteOffset:=16 }])) (l:Array Bool) (a:Act) (W:World) (hI:ExI w g0 g1 ub (gv 4 0 ub) l a W) (oi:Oper) (hoi:(opsOf Try.f36 2)[3]?=some oi) (haf:∀ e ∈ oi.after,Region.binds .any e=true→l.getD e.on false=true) (hl0:l.getD 3 true=false) (K:Act→World→Prop) (hK:Shut (∀ a' w',ExI w g0 g1 ub (gv 4 0 ub) (l.setIfInBounds 3 true) a' w'→K a' w')):if Region.wanted oi (yielded (opsOf Try.f36 2) a.tmps)=true then Oper.wp Try.prog oi a W K Q else K (a.put oi.dst undef) W:=by
 have hu57:=Try.underlying57
 obtain ⟨v4,v5,v6,v7,v8,v9,v10,v11,v12,v13,v14,rfl,hl,hB,h0,h1,h2,h3,h4,hz,F0,F1,F2,F3,F4,F5,F6,F7,F8,F9,F10,F11⟩:=hI
 obtain rfl:=Option.some.inj ((show (opsOf Try.f36 2)[3]?=some ({ dst:=some 7,op:=.call { callee:=.value (.func 52),args:=#[.const (.int .i64 11),.tmp 6],argTypes:=#[55,25] },type:=57,pos:= "law.go:20",after:=#[{ on:=2,ground:=.data },{ on:=1,ground:=.chain }],guard:=none }:Oper) from by kernel_rfl).symm.trans hoi)
 refine goes_ Try.func52 (by kernel_rfl) rfl #[.int .i64 11,v6] (by rfl) rfl rfl (by simp [Act.eval]) ?_
 refine (G_calls 11 v6 [0,1] W (F2 (haf ⟨2,.data⟩ (by simp) rfl)).now).mono ?_
 rintro e W1 ⟨rfl,hb⟩
 have hA:Ag (g0 + 1) W _:=Ag.of_below hb
 exact ⟨_,rfl,hK.out _ _ ⟨_,_,_,_,_,_,_,_,_,_,_,rfl,by simp [hl],below_step hB hb,h0,h1,Nat.lt_of_lt_of_le h2 hb.size,blk_below h3 hb,h4.ag hA,fun h=>blk_below (hz (bk36t (by decide) h)) hb,fun h=>(F0 (bk36 (by decide) h)).ag hA,fun h=>⟨(F1 (bk36 (by decide) h)).1,(F1 (bk36 (by decide) h)).2.1.ag hA,getD_set_true (F1 (bk36 (by decide) h)).2.2⟩,fun h=>(F2 (bk36 (by decide) h)).ag hA,fun _=>⟨rfl,(F2 (haf ⟨2,.data⟩ (by simp) rfl)).ag hA,getD_set_true (haf ⟨2,.data⟩ (by simp) rfl)⟩,fun h=>(F4 (bk36 (by decide) h)).ag hA,fun h=>⟨(F5 (bk36 (by decide) h)).1,(F5 (bk36 (by decide) h)).2.1.ag hA,getD_set_true (F5 (bk36 (by decide) h)).2.2⟩,fun h=>F6 (bk36 (by decide) h),fun h=>(F7 (bk36 (by decide) h)).ag hA,fun h=>⟨(F8 (bk36 (by decide) h)).1,(F8 (bk36 (by decide) h)).2.1.ag hA,getD_set_true (F8 (bk36 (by decide) h)).2.2⟩,fun h=>(F9 (bk36 (by decide) h)).ag hA,fun h=>⟨(F10 (bk36 (by decide) h)).1,getD_set_true (F10 (bk36 (by decide) h)).2⟩,fun h=>⟨blk_below (F11 (bk36 (by decide) h)).1 hb,getD_set_true (F11 (bk36 (by decide) h)).2⟩⟩⟩
set_option maxHeartbeats 2000000 in
set_option maxRecDepth 100000 in
theorem step36_4 {w:World} {g0 g1:Nat} {ub:Value} {Q:Exit→Act→World→Prop} (hu24:Try.prog.underlying 24=some (.struct #[{ name:= "Qubits",type:=3,offset:=0,embedded:=false,tag:= "",pkgPath:= "",byteOffset:=0 },{ name:= "Bits",type:=3,offset:=1,embedded:=false,tag:= "",pkgPath:= "",byteOffset:=8 },{ name:= "Ops",type:=22,offset:=2,embedded:=false,tag:= "",pkgPath:= "",byteOffset:=16 }])) (l:Array Bool) (a:Act) (W:World) (hI:ExI w g0 g1 ub (gv 4 0 ub) l a W) (oi:Oper) (hoi:(opsOf Try.f36 2)[4]?=some oi) (haf:∀ e ∈ oi.after,Region.binds .any e=true→l.getD e.on false=true) (hl0:l.getD 4 true=false) (K:Act→World→Prop) (hK:Shut (∀ a' w',ExI w g0 g1 ub (gv 4 0 ub) (l.setIfInBounds 4 true) a' w'→K a' w')):if Region.wanted oi (yielded (opsOf Try.f36 2) a.tmps)=true then Oper.wp Try.prog oi a W K Q else K (a.put oi.dst undef) W:=by
 have hu57:=Try.underlying57
 obtain ⟨v4,v5,v6,v7,v8,v9,v10,v11,v12,v13,v14,rfl,hl,hB,h0,h1,h2,h3,h4,hz,F0,F1,F2,F3,F4,F5,F6,F7,F8,F9,F10,F11⟩:=hI
 obtain rfl:=Option.some.inj ((show (opsOf Try.f36 2)[4]?=some ({ dst:=some 8,op:=.buildSlice 25 1 #[(0,.const (.int .i64 2))],type:=25,pos:= "law.go:20",after:=#[],guard:=none }:Oper) from by kernel_rfl).symm.trans hoi)
 have hb:=below_alloc (Below.refl W.heap.size W) (.cells #[.int .i64 2] 3)
 have hA:Ag (g0 + 1) W _:=Ag.of_below hb
 refine yields_step (N:=some 8) (v:=.slice (some ⟨W.heap.size,0,none⟩) 1 1) (w1:=W.alloc (.cells #[.int .i64 2] 3)) rfl rfl (by first | (go_simp;done) | (go_simp;rfl)) (hK.out _ _ ?_)
 exact ⟨_,_,_,_,_,_,_,_,_,_,_,rfl,by simp [hl],below_step hB hb,h0,h1,Nat.lt_of_lt_of_le h2 hb.size,blk_below h3 hb,h4.ag hA,fun h=>blk_below (hz (bk36t (by decide) h)) hb,fun h=>(F0 (bk36 (by decide) h)).ag hA,fun h=>⟨(F1 (bk36 (by decide) h)).1,(F1 (bk36 (by decide) h)).2.1.ag hA,getD_set_true (F1 (bk36 (by decide) h)).2.2⟩,fun h=>(F2 (bk36 (by decide) h)).ag hA,fun h=>⟨(F3 (bk36 (by decide) h)).1,(F3 (bk36 (by decide) h)).2.1.ag hA,getD_set_true (F3 (bk36 (by decide) h)).2.2⟩,fun _=>RowL.new (b:=g0 + 1) (w:=W) [2] (by omega) (by decide),fun h=>(no36 hl0 (F5 (bk36 (by decide) h)).2.2).elim,fun h=>F6 (bk36 (by decide) h),fun h=>(F7 (bk36 (by decide) h)).ag hA,fun h=>⟨(F8 (bk36 (by decide) h)).1,(F8 (bk36 (by decide) h)).2.1.ag hA,getD_set_true (F8 (bk36 (by decide) h)).2.2⟩,fun h=>(F9 (bk36 (by decide) h)).ag hA,fun h=>⟨(F10 (bk36 (by decide) h)).1,getD_set_true (F10 (bk36 (by decide) h)).2⟩,fun h=>⟨blk_below (F11 (bk36 (by decide) h)).1 hb,getD_set_true (F11 (bk36 (by decide) h)).2⟩⟩
set_option maxHeartbeats 2000000 in
set_option maxRecDepth 100000 in
theorem step36_5 {w:World} {g0 g1:Nat} {ub:Value} {Q:Exit→Act→World→Prop} (hu24:Try.prog.underlying 24=some (.struct #[{ name:= "Qubits",type:=3,offset:=0,embedded:=false,tag:= "",pkgPath:= "",byteOffset:=0 },{ name:= "Bits",type:=3,offset:=1,embedded:=false,tag:= "",pkgPath:= "",byteOffset:=8 },{ name:= "Ops",type:=22,offset:=2,embedded:=false,tag:= "",pkgPath:= "",byteOffset:=16 }])) (l:Array Bool) (a:Act) (W:World) (hI:ExI w g0 g1 ub (gv 4 0 ub) l a W) (oi:Oper) (hoi:(opsOf Try.f36 2)[5]?=some oi) (haf:∀ e ∈ oi.after,Region.binds .any e=true→l.getD e.on false=true) (hl0:l.getD 5 true=false) (K:Act→World→Prop) (hK:Shut (∀ a' w',ExI w g0 g1 ub (gv 4 0 ub) (l.setIfInBounds 5 true) a' w'→K a' w')):if Region.wanted oi (yielded (opsOf Try.f36 2) a.tmps)=true then Oper.wp Try.prog oi a W K Q else K (a.put oi.dst undef) W:=by
 have hu57:=Try.underlying57
 obtain ⟨v4,v5,v6,v7,v8,v9,v10,v11,v12,v13,v14,rfl,hl,hB,h0,h1,h2,h3,h4,hz,F0,F1,F2,F3,F4,F5,F6,F7,F8,F9,F10,F11⟩:=hI
 obtain rfl:=Option.some.inj ((show (opsOf Try.f36 2)[5]?=some ({ dst:=some 9,op:=.call { callee:=.value (.func 52),args:=#[.const (.int .i64 2),.tmp 8],argTypes:=#[55,25] },type:=57,pos:= "law.go:20",after:=#[{ on:=4,ground:=.data },{ on:=3,ground:=.chain }],guard:=none }:Oper) from by kernel_rfl).symm.trans hoi)
 refine goes_ Try.func52 (by kernel_rfl) rfl #[.int .i64 2,v8] (by rfl) rfl rfl (by simp [Act.eval]) ?_
 refine (G_calls 2 v8 [2] W (F4 (haf ⟨4,.data⟩ (by simp) rfl)).now).mono ?_
 rintro e W1 ⟨rfl,hb⟩
 have hA:Ag (g0 + 1) W _:=Ag.of_below hb
 exact ⟨_,rfl,hK.out _ _ ⟨_,_,_,_,_,_,_,_,_,_,_,rfl,by simp [hl],below_step hB hb,h0,h1,Nat.lt_of_lt_of_le h2 hb.size,blk_below h3 hb,h4.ag hA,fun h=>blk_below (hz (bk36t (by decide) h)) hb,fun h=>(F0 (bk36 (by decide) h)).ag hA,fun h=>⟨(F1 (bk36 (by decide) h)).1,(F1 (bk36 (by decide) h)).2.1.ag hA,getD_set_true (F1 (bk36 (by decide) h)).2.2⟩,fun h=>(F2 (bk36 (by decide) h)).ag hA,fun h=>⟨(F3 (bk36 (by decide) h)).1,(F3 (bk36 (by decide) h)).2.1.ag hA,getD_set_true (F3 (bk36 (by decide) h)).2.2⟩,fun h=>(F4 (bk36 (by decide) h)).ag hA,fun _=>⟨rfl,(F4 (haf ⟨4,.data⟩ (by simp) rfl)).ag hA,getD_set_true (haf ⟨4,.data⟩ (by simp) rfl)⟩,fun h=>F6 (bk36 (by decide) h),fun h=>(F7 (bk36 (by decide) h)).ag hA,fun h=>⟨(F8 (bk36 (by decide) h)).1,(F8 (bk36 (by decide) h)).2.1.ag hA,getD_set_true (F8 (bk36 (by decide) h)).2.2⟩,fun h=>(F9 (bk36 (by decide) h)).ag hA,fun h=>⟨(F10 (bk36 (by decide) h)).1,getD_set_true (F10 (bk36 (by decide) h)).2⟩,fun h=>⟨blk_below (F11 (bk36 (by decide) h)).1 hb,getD_set_true (F11 (bk36 (by decide) h)).2⟩⟩⟩
set_option maxHeartbeats 2000000 in
set_option maxRecDepth 100000 in
theorem step36_6 {w:World} {g0 g1:Nat} {ub:Value} {Q:Exit→Act→World→Prop} (hu24:Try.prog.underlying 24=some (.struct #[{ name:= "Qubits",type:=3,offset:=0,embedded:=false,tag:= "",pkgPath:= "",byteOffset:=0 },{ name:= "Bits",type:=3,offset:=1,embedded:=false,tag:= "",pkgPath:= "",byteOffset:=8 },{ name:= "Ops",type:=22,offset:=2,embedded:=false,tag:= "",pkgPath:= "",byteOffset:=16 }])) (l:Array Bool) (a:Act) (W:World) (hI:ExI w g0 g1 ub (gv 4 0 ub) l a W) (oi:Oper) (hoi:(opsOf Try.f36 2)[6]?=some oi) (haf:∀ e ∈ oi.after,Region.binds .any e=true→l.getD e.on false=true) (hl0:l.getD 6 true=false) (K:Act→World→Prop) (hK:Shut (∀ a' w',ExI w g0 g1 ub (gv 4 0 ub) (l.setIfInBounds 6 true) a' w'→K a' w')):if Region.wanted oi (yielded (opsOf Try.f36 2) a.tmps)=true then Oper.wp Try.prog oi a W K Q else K (a.put oi.dst undef) W:=by
 have hu57:=Try.underlying57
 obtain ⟨v4,v5,v6,v7,v8,v9,v10,v11,v12,v13,v14,rfl,hl,hB,h0,h1,h2,h3,h4,hz,F0,F1,F2,F3,F4,F5,F6,F7,F8,F9,F10,F11⟩:=hI
 obtain rfl:=Option.some.inj ((show (opsOf Try.f36 2)[6]?=some ({ dst:=some 10,op:=.load 57 (.tmp 1),type:=57,pos:= "law.go:20",after:=#[],guard:=none }:Oper) from by kernel_rfl).symm.trans hoi)
 have y0:W.cell? ⟨g1,0,none⟩=some (.int .i64 4):=(blk_cell h3 0).trans rfl
 have y1:W.cell? ⟨g1,1,none⟩=some (.int .i64 0):=(blk_cell h3 1).trans rfl
 have y2:W.cell? ⟨g1,2,none⟩=some (ub):=(blk_cell h3 2).trans rfl
 have y3:W.cell? ⟨g1,3,none⟩=some (.int .i64 0):=(blk_cell h3 3).trans rfl
 have y4:W.cell? ⟨g1,4,none⟩=some (.int .i64 (-1)):=(blk_cell h3 4).trans rfl
 have y5:W.cell? ⟨g1,5,none⟩=some (.int .i64 0):=(blk_cell h3 5).trans rfl
 have hb:=Below.refl W.heap.size W
 have hA:Ag (g0 + 1) W _:=Ag.of_below hb
 refine yields_step (N:=some 10) (v:=gv 4 0 ub) (w1:=W) rfl rfl (by unfold gv;first | (go_simp;done) | (go_simp;rfl)) (hK.out _ _ ?_)
 exact ⟨_,_,_,_,_,_,_,_,_,_,_,rfl,by simp [hl],below_step hB hb,h0,h1,Nat.lt_of_lt_of_le h2 hb.size,blk_below h3 hb,h4.ag hA,fun h=>blk_below (hz (bk36t (by decide) h)) hb,fun h=>(F0 (bk36 (by decide) h)).ag hA,fun h=>⟨(F1 (bk36 (by decide) h)).1,(F1 (bk36 (by decide) h)).2.1.ag hA,getD_set_true (F1 (bk36 (by decide) h)).2.2⟩,fun h=>(F2 (bk36 (by decide) h)).ag hA,fun h=>⟨(F3 (bk36 (by decide) h)).1,(F3 (bk36 (by decide) h)).2.1.ag hA,getD_set_true (F3 (bk36 (by decide) h)).2.2⟩,fun h=>(F4 (bk36 (by decide) h)).ag hA,fun h=>⟨(F5 (bk36 (by decide) h)).1,(F5 (bk36 (by decide) h)).2.1.ag hA,getD_set_true (F5 (bk36 (by decide) h)).2.2⟩,fun _=>rfl,fun h=>(F7 (bk36 (by decide) h)).ag hA,fun h=>⟨(F8 (bk36 (by decide) h)).1,(F8 (bk36 (by decide) h)).2.1.ag hA,getD_set_true (F8 (bk36 (by decide) h)).2.2⟩,fun h=>(F9 (bk36 (by decide) h)).ag hA,fun h=>⟨(F10 (bk36 (by decide) h)).1,getD_set_true (F10 (bk36 (by decide) h)).2⟩,fun h=>⟨blk_below (F11 (bk36 (by decide) h)).1 hb,getD_set_true (F11 (bk36 (by decide) h)).2⟩⟩
set_option maxHeartbeats 2000000 in
set_option maxRecDepth 100000 in
theorem step36_7 {w:World} {g0 g1:Nat} {ub:Value} {Q:Exit→Act→World→Prop} (hu24:Try.prog.underlying 24=some (.struct #[{ name:= "Qubits",type:=3,offset:=0,embedded:=false,tag:= "",pkgPath:= "",byteOffset:=0 },{ name:= "Bits",type:=3,offset:=1,embedded:=false,tag:= "",pkgPath:= "",byteOffset:=8 },{ name:= "Ops",type:=22,offset:=2,embedded:=false,tag:= "",pkgPath:= "",byteOffset:=16 }])) (l:Array Bool) (a:Act) (W:World) (hI:ExI w g0 g1 ub (gv 4 0 ub) l a W) (oi:Oper) (hoi:(opsOf Try.f36 2)[7]?=some oi) (haf:∀ e ∈ oi.after,Region.binds .any e=true→l.getD e.on false=true) (hl0:l.getD 7 true=false) (K:Act→World→Prop) (hK:Shut (∀ a' w',ExI w g0 g1 ub (gv 4 0 ub) (l.setIfInBounds 7 true) a' w'→K a' w')):if Region.wanted oi (yielded (opsOf Try.f36 2) a.tmps)=true then Oper.wp Try.prog oi a W K Q else K (a.put oi.dst undef) W:=by
 have hu57:=Try.underlying57
 obtain ⟨v4,v5,v6,v7,v8,v9,v10,v11,v12,v13,v14,rfl,hl,hB,h0,h1,h2,h3,h4,hz,F0,F1,F2,F3,F4,F5,F6,F7,F8,F9,F10,F11⟩:=hI
 obtain rfl:=Option.some.inj ((show (opsOf Try.f36 2)[7]?=some ({ dst:=some 11,op:=.buildSlice 25 1 #[(0,.const (.int .i64 2))],type:=25,pos:= "law.go:20",after:=#[],guard:=none }:Oper) from by kernel_rfl).symm.trans hoi)
 have hb:=below_alloc (Below.refl W.heap.size W) (.cells #[.int .i64 2] 3)
 have hA:Ag (g0 + 1) W _:=Ag.of_below hb
 refine yields_step (N:=some 11) (v:=.slice (some ⟨W.heap.size,0,none⟩) 1 1) (w1:=W.alloc (.cells #[.int .i64 2] 3)) rfl rfl (by first | (go_simp;done) | (go_simp;rfl)) (hK.out _ _ ?_)
 exact ⟨_,_,_,_,_,_,_,_,_,_,_,rfl,by simp [hl],below_step hB hb,h0,h1,Nat.lt_of_lt_of_le h2 hb.size,blk_below h3 hb,h4.ag hA,fun h=>blk_below (hz (bk36t (by decide) h)) hb,fun h=>(F0 (bk36 (by decide) h)).ag hA,fun h=>⟨(F1 (bk36 (by decide) h)).1,(F1 (bk36 (by decide) h)).2.1.ag hA,getD_set_true (F1 (bk36 (by decide) h)).2.2⟩,fun h=>(F2 (bk36 (by decide) h)).ag hA,fun h=>⟨(F3 (bk36 (by decide) h)).1,(F3 (bk36 (by decide) h)).2.1.ag hA,getD_set_true (F3 (bk36 (by decide) h)).2.2⟩,fun h=>(F4 (bk36 (by decide) h)).ag hA,fun h=>⟨(F5 (bk36 (by decide) h)).1,(F5 (bk36 (by decide) h)).2.1.ag hA,getD_set_true (F5 (bk36 (by decide) h)).2.2⟩,fun h=>F6 (bk36 (by decide) h),fun _=>RowL.new (b:=g0 + 1) (w:=W) [2] (by omega) (by decide),fun h=>(no36 hl0 (F8 (bk36 (by decide) h)).2.2).elim,fun h=>(F9 (bk36 (by decide) h)).ag hA,fun h=>⟨(F10 (bk36 (by decide) h)).1,getD_set_true (F10 (bk36 (by decide) h)).2⟩,fun h=>⟨blk_below (F11 (bk36 (by decide) h)).1 hb,getD_set_true (F11 (bk36 (by decide) h)).2⟩⟩
set_option maxHeartbeats 2000000 in
set_option maxRecDepth 100000 in
theorem step36_8 {w:World} {g0 g1:Nat} {ub:Value} {Q:Exit→Act→World→Prop} (hu24:Try.prog.underlying 24=some (.struct #[{ name:= "Qubits",type:=3,offset:=0,embedded:=false,tag:= "",pkgPath:= "",byteOffset:=0 },{ name:= "Bits",type:=3,offset:=1,embedded:=false,tag:= "",pkgPath:= "",byteOffset:=8 },{ name:= "Ops",type:=22,offset:=2,embedded:=false,tag:= "",pkgPath:= "",byteOffset:=16 }])) (l:Array Bool) (a:Act) (W:World) (hI:ExI w g0 g1 ub (gv 4 0 ub) l a W) (oi:Oper) (hoi:(opsOf Try.f36 2)[8]?=some oi) (haf:∀ e ∈ oi.after,Region.binds .any e=true→l.getD e.on false=true) (hl0:l.getD 8 true=false) (K:Act→World→Prop) (hK:Shut (∀ a' w',ExI w g0 g1 ub (gv 4 0 ub) (l.setIfInBounds 8 true) a' w'→K a' w')):if Region.wanted oi (yielded (opsOf Try.f36 2) a.tmps)=true then Oper.wp Try.prog oi a W K Q else K (a.put oi.dst undef) W:=by
 have hu57:=Try.underlying57
 obtain ⟨v4,v5,v6,v7,v8,v9,v10,v11,v12,v13,v14,rfl,hl,hB,h0,h1,h2,h3,h4,hz,F0,F1,F2,F3,F4,F5,F6,F7,F8,F9,F10,F11⟩:=hI
 obtain rfl:=Option.some.inj ((show (opsOf Try.f36 2)[8]?=some ({ dst:=some 12,op:=.call { callee:=.value (.func 52),args:=#[.const (.int .i64 2),.tmp 11],argTypes:=#[55,25] },type:=57,pos:= "law.go:20",after:=#[{ on:=7,ground:=.data },{ on:=5,ground:=.chain }],guard:=none }:Oper) from by kernel_rfl).symm.trans hoi)
 refine goes_ Try.func52 (by kernel_rfl) rfl #[.int .i64 2,v11] (by rfl) rfl rfl (by simp [Act.eval]) ?_
 refine (G_calls 2 v11 [2] W (F7 (haf ⟨7,.data⟩ (by simp) rfl)).now).mono ?_
 rintro e W1 ⟨rfl,hb⟩
 have hA:Ag (g0 + 1) W _:=Ag.of_below hb
 exact ⟨_,rfl,hK.out _ _ ⟨_,_,_,_,_,_,_,_,_,_,_,rfl,by simp [hl],below_step hB hb,h0,h1,Nat.lt_of_lt_of_le h2 hb.size,blk_below h3 hb,h4.ag hA,fun h=>blk_below (hz (bk36t (by decide) h)) hb,fun h=>(F0 (bk36 (by decide) h)).ag hA,fun h=>⟨(F1 (bk36 (by decide) h)).1,(F1 (bk36 (by decide) h)).2.1.ag hA,getD_set_true (F1 (bk36 (by decide) h)).2.2⟩,fun h=>(F2 (bk36 (by decide) h)).ag hA,fun h=>⟨(F3 (bk36 (by decide) h)).1,(F3 (bk36 (by decide) h)).2.1.ag hA,getD_set_true (F3 (bk36 (by decide) h)).2.2⟩,fun h=>(F4 (bk36 (by decide) h)).ag hA,fun h=>⟨(F5 (bk36 (by decide) h)).1,(F5 (bk36 (by decide) h)).2.1.ag hA,getD_set_true (F5 (bk36 (by decide) h)).2.2⟩,fun h=>F6 (bk36 (by decide) h),fun h=>(F7 (bk36 (by decide) h)).ag hA,fun _=>⟨rfl,(F7 (haf ⟨7,.data⟩ (by simp) rfl)).ag hA,getD_set_true (haf ⟨7,.data⟩ (by simp) rfl)⟩,fun h=>(F9 (bk36 (by decide) h)).ag hA,fun h=>⟨(F10 (bk36 (by decide) h)).1,getD_set_true (F10 (bk36 (by decide) h)).2⟩,fun h=>⟨blk_below (F11 (bk36 (by decide) h)).1 hb,getD_set_true (F11 (bk36 (by decide) h)).2⟩⟩⟩
set_option maxHeartbeats 2000000 in
set_option maxRecDepth 100000 in
theorem step36_9 {w:World} {g0 g1:Nat} {ub:Value} {Q:Exit→Act→World→Prop} (hu24:Try.prog.underlying 24=some (.struct #[{ name:= "Qubits",type:=3,offset:=0,embedded:=false,tag:= "",pkgPath:= "",byteOffset:=0 },{ name:= "Bits",type:=3,offset:=1,embedded:=false,tag:= "",pkgPath:= "",byteOffset:=8 },{ name:= "Ops",type:=22,offset:=2,embedded:=false,tag:= "",pkgPath:= "",byteOffset:=16 }])) (l:Array Bool) (a:Act) (W:World) (hI:ExI w g0 g1 ub (gv 4 0 ub) l a W) (oi:Oper) (hoi:(opsOf Try.f36 2)[9]?=some oi) (haf:∀ e ∈ oi.after,Region.binds .any e=true→l.getD e.on false=true) (hl0:l.getD 9 true=false) (K:Act→World→Prop) (hK:Shut (∀ a' w',ExI w g0 g1 ub (gv 4 0 ub) (l.setIfInBounds 9 true) a' w'→K a' w')):if Region.wanted oi (yielded (opsOf Try.f36 2) a.tmps)=true then Oper.wp Try.prog oi a W K Q else K (a.put oi.dst undef) W:=by
 have hu57:=Try.underlying57
 obtain ⟨v4,v5,v6,v7,v8,v9,v10,v11,v12,v13,v14,rfl,hl,hB,h0,h1,h2,h3,h4,hz,F0,F1,F2,F3,F4,F5,F6,F7,F8,F9,F10,F11⟩:=hI
 obtain rfl:=Option.some.inj ((show (opsOf Try.f36 2)[9]?=some ({ dst:=some 13,op:=.buildSlice 22 5 #[(0,.tmp 5),(1,.tmp 7),(2,.tmp 9),(3,.tmp 10),(4,.tmp 12)],type:=22,pos:= "law.go:20",after:=#[{ on:=1,ground:=.data },{ on:=3,ground:=.data },{ on:=5,ground:=.data },{ on:=6,ground:=.data },{ on:=8,ground:=.data }],guard:=none }:Oper) from by kernel_rfl).symm.trans hoi)
 obtain ⟨rfl,R0,_⟩:=F1 (haf ⟨1,.data⟩ (by simp) rfl)
 obtain ⟨rfl,R2,_⟩:=F3 (haf ⟨3,.data⟩ (by simp) rfl)
 obtain ⟨rfl,R4,_⟩:=F5 (haf ⟨5,.data⟩ (by simp) rfl)
 obtain ⟨rfl,R7,_⟩:=F8 (haf ⟨8,.data⟩ (by simp) rfl)
 obtain rfl:=F6 (haf ⟨6,.data⟩ (by simp) rfl)
 have hb:=below_alloc (Below.refl W.heap.size W) (.cells (gcells 1 2 v4 ++ gcells 1 11 v6 ++ gcells 1 2 v8 ++ gcells 4 0 ub ++ gcells 1 2 v11).toArray 57)
 have hA:Ag (g0 + 1) W _:=Ag.of_below hb
 refine yields_step (N:=some 13) (v:=.slice (some ⟨W.heap.size,0,none⟩) 5 5) (w1:=W.alloc (.cells (gcells 1 2 v4 ++ gcells 1 11 v6 ++ gcells 1 2 v8 ++ gcells 4 0 ub ++ gcells 1 2 v11).toArray 57)) rfl rfl (by unfold gv;first | (go_simp;done) | (go_simp;rfl)) (hK.out _ _ ?_)
 exact ⟨_,_,_,_,_,_,_,_,_,_,_,rfl,by simp [hl],below_step hB hb,h0,h1,Nat.lt_of_lt_of_le h2 hb.size,blk_below h3 hb,h4.ag hA,fun h=>blk_below (hz (bk36t (by decide) h)) hb,fun h=>(F0 (bk36 (by decide) h)).ag hA,fun h=>⟨(F1 (bk36 (by decide) h)).1,(F1 (bk36 (by decide) h)).2.1.ag hA,getD_set_true (F1 (bk36 (by decide) h)).2.2⟩,fun h=>(F2 (bk36 (by decide) h)).ag hA,fun h=>⟨(F3 (bk36 (by decide) h)).1,(F3 (bk36 (by decide) h)).2.1.ag hA,getD_set_true (F3 (bk36 (by decide) h)).2.2⟩,fun h=>(F4 (bk36 (by decide) h)).ag hA,fun h=>⟨(F5 (bk36 (by decide) h)).1,(F5 (bk36 (by decide) h)).2.1.ag hA,getD_set_true (F5 (bk36 (by decide) h)).2.2⟩,fun h=>F6 (bk36 (by decide) h),fun h=>(F7 (bk36 (by decide) h)).ag hA,fun h=>⟨(F8 (bk36 (by decide) h)).1,(F8 (bk36 (by decide) h)).2.1.ag hA,getD_set_true (F8 (bk36 (by decide) h)).2.2⟩,fun _=>OpsL.new (by omega) R0 R2 R4 h4 R7,fun h=>(no36 hl0 (F10 (bk36 (by decide) h)).2).elim,fun h=>(no36 hl0 (F11 (bk36 (by decide) h)).2).elim⟩
set_option maxHeartbeats 2000000 in
set_option maxRecDepth 100000 in
theorem step36_10 {w:World} {g0 g1:Nat} {ub:Value} {Q:Exit→Act→World→Prop} (hu24:Try.prog.underlying 24=some (.struct #[{ name:= "Qubits",type:=3,offset:=0,embedded:=false,tag:= "",pkgPath:= "",byteOffset:=0 },{ name:= "Bits",type:=3,offset:=1,embedded:=false,tag:= "",pkgPath:= "",byteOffset:=8 },{ name:= "Ops",type:=22,offset:=2,embedded:=false,tag:= "",pkgPath:= "",byteOffset:=16 }])) (l:Array Bool) (a:Act) (W:World) (hI:ExI w g0 g1 ub (gv 4 0 ub) l a W) (oi:Oper) (hoi:(opsOf Try.f36 2)[10]?=some oi) (haf:∀ e ∈ oi.after,Region.binds .any e=true→l.getD e.on false=true) (hl0:l.getD 10 true=false) (K:Act→World→Prop) (hK:Shut (∀ a' w',ExI w g0 g1 ub (gv 4 0 ub) (l.setIfInBounds 10 true) a' w'→K a' w')):if Region.wanted oi (yielded (opsOf Try.f36 2) a.tmps)=true then Oper.wp Try.prog oi a W K Q else K (a.put oi.dst undef) W:=by
 have hu57:=Try.underlying57
 obtain ⟨v4,v5,v6,v7,v8,v9,v10,v11,v12,v13,v14,rfl,hl,hB,h0,h1,h2,h3,h4,hz,F0,F1,F2,F3,F4,F5,F6,F7,F8,F9,F10,F11⟩:=hI
 obtain rfl:=Option.some.inj ((show (opsOf Try.f36 2)[10]?=some ({ dst:=some 14,op:=.build 24 #[(0,.const (.int .i64 3)),(2,.tmp 13)],type:=24,pos:= "law.go:20",after:=#[{ on:=9,ground:=.data }],guard:=none }:Oper) from by kernel_rfl).symm.trans hoi)
 obtain ⟨A,rfl,hC⟩:=F9 (haf ⟨9,.data⟩ (by simp) rfl)
 have hb:=Below.refl W.heap.size W
 have hA:Ag (g0 + 1) W _:=Ag.of_below hb
 refine yields_step (N:=some 14) (v:=.agg #[.int .i64 3,.int .i64 0,.slice A 5 5]) (w1:=W) rfl rfl (by first | (go_simp;done) | (go_simp;rfl)) (hK.out _ _ ?_)
 exact ⟨_,_,_,_,_,_,_,_,_,_,_,rfl,by simp [hl],below_step hB hb,h0,h1,Nat.lt_of_lt_of_le h2 hb.size,blk_below h3 hb,h4.ag hA,fun h=>blk_below (hz (bk36t (by decide) h)) hb,fun h=>(F0 (bk36 (by decide) h)).ag hA,fun h=>⟨(F1 (bk36 (by decide) h)).1,(F1 (bk36 (by decide) h)).2.1.ag hA,getD_set_true (F1 (bk36 (by decide) h)).2.2⟩,fun h=>(F2 (bk36 (by decide) h)).ag hA,fun h=>⟨(F3 (bk36 (by decide) h)).1,(F3 (bk36 (by decide) h)).2.1.ag hA,getD_set_true (F3 (bk36 (by decide) h)).2.2⟩,fun h=>(F4 (bk36 (by decide) h)).ag hA,fun h=>⟨(F5 (bk36 (by decide) h)).1,(F5 (bk36 (by decide) h)).2.1.ag hA,getD_set_true (F5 (bk36 (by decide) h)).2.2⟩,fun h=>F6 (bk36 (by decide) h),fun h=>(F7 (bk36 (by decide) h)).ag hA,fun h=>⟨(F8 (bk36 (by decide) h)).1,(F8 (bk36 (by decide) h)).2.1.ag hA,getD_set_true (F8 (bk36 (by decide) h)).2.2⟩,fun h=>(F9 (bk36 (by decide) h)).ag hA,fun _=>⟨rfl,getD_set_true (haf ⟨9,.data⟩ (by simp) rfl)⟩,fun h=>⟨blk_below (F11 (bk36 (by decide) h)).1 hb,getD_set_true (F11 (bk36 (by decide) h)).2⟩⟩
set_option maxHeartbeats 2000000 in
set_option maxRecDepth 100000 in
theorem step36_11 {w:World} {g0 g1:Nat} {ub:Value} {Q:Exit→Act→World→Prop} (hu24:Try.prog.underlying 24=some (.struct #[{ name:= "Qubits",type:=3,offset:=0,embedded:=false,tag:= "",pkgPath:= "",byteOffset:=0 },{ name:= "Bits",type:=3,offset:=1,embedded:=false,tag:= "",pkgPath:= "",byteOffset:=8 },{ name:= "Ops",type:=22,offset:=2,embedded:=false,tag:= "",pkgPath:= "",byteOffset:=16 }])) (l:Array Bool) (a:Act) (W:World) (hI:ExI w g0 g1 ub (gv 4 0 ub) l a W) (oi:Oper) (hoi:(opsOf Try.f36 2)[11]?=some oi) (haf:∀ e ∈ oi.after,Region.binds .any e=true→l.getD e.on false=true) (hl0:l.getD 11 true=false) (K:Act→World→Prop) (hK:Shut (∀ a' w',ExI w g0 g1 ub (gv 4 0 ub) (l.setIfInBounds 11 true) a' w'→K a' w')):if Region.wanted oi (yielded (opsOf Try.f36 2) a.tmps)=true then Oper.wp Try.prog oi a W K Q else K (a.put oi.dst undef) W:=by
 have hu57:=Try.underlying57
 obtain ⟨v4,v5,v6,v7,v8,v9,v10,v11,v12,v13,v14,rfl,hl,hB,h0,h1,h2,h3,h4,hz,F0,F1,F2,F3,F4,F5,F6,F7,F8,F9,F10,F11⟩:=hI
 obtain rfl:=Option.some.inj ((show (opsOf Try.f36 2)[11]?=some ({ dst:=none,op:=.store 24 (.tmp 0) (.tmp 14),type:=0,pos:= "law.go:20",after:=#[{ on:=10,ground:=.data },{ on:=8,ground:=.chain },{ on:=0,ground:=.phase },{ on:=1,ground:=.phase },{ on:=2,ground:=.phase },{ on:=3,ground:=.phase },{ on:=4,ground:=.phase },{ on:=5,ground:=.phase },{ on:=6,ground:=.phase },{ on:=7,ground:=.phase },{ on:=8,ground:=.phase },{ on:=9,ground:=.phase },{ on:=10,ground:=.phase }],guard:=none }:Oper) from by kernel_rfl).symm.trans hoi)
 have hz:=hz hl0
 obtain ⟨A,rfl,hC⟩:=F9 (haf ⟨9,.phase⟩ (by simp) rfl)
 obtain ⟨rfl,hl9⟩:=F10 (haf ⟨10,.data⟩ (by simp) rfl)
 have y0:W.cell? ⟨g0,0,none⟩=some (.int .i64 0):=(blk_cell hz 0).trans rfl
 have f0:=blk_frozen hz 0
 have y1:W.cell? ⟨g0,1,none⟩=some (.int .i64 0):=(blk_cell hz 1).trans rfl
 have f1:=blk_frozen hz 1
 have y2:W.cell? ⟨g0,2,none⟩=some (.slice none 0 0):=(blk_cell hz 2).trans rfl
 have f2:=blk_frozen hz 2
 have hA:Ag (g0 + 1) W (((W.setCell ⟨g0,0,none⟩ (.int .i64 3)).setCell ⟨g0,1,none⟩ (.int .i64 0)).setCell ⟨g0,2,none⟩ (.slice A 5 5)):=((Ag.set W (Nat.lt_succ_self g0) _).trans (Ag.set _ (Nat.lt_succ_self g0) _)).trans (Ag.set _ (Nat.lt_succ_self g0) _)
 refine skip_step (w1:=(((W.setCell ⟨g0,0,none⟩ (.int .i64 3)).setCell ⟨g0,1,none⟩ (.int .i64 0)).setCell ⟨g0,2,none⟩ (.slice A 5 5))) rfl (by first | (go_simp;done) | (go_simp;rfl)) (hK.out _ _ ?_)
 exact ⟨_,_,_,_,_,_,_,_,_,_,_,rfl,by simp [hl],below_set (below_set (below_set hB h0) h0) h0,h0,h1,Nat.lt_of_lt_of_le h2 hA.1,(hA.2 g1 h1 h2).trans h3,h4.ag hA,fun h=>by simp [hl] at h,fun h=>(F0 (bk36 (by decide) h)).ag hA,fun h=>⟨(F1 (bk36 (by decide) h)).1,(F1 (bk36 (by decide) h)).2.1.ag hA,getD_set_true (F1 (bk36 (by decide) h)).2.2⟩,fun h=>(F2 (bk36 (by decide) h)).ag hA,fun h=>⟨(F3 (bk36 (by decide) h)).1,(F3 (bk36 (by decide) h)).2.1.ag hA,getD_set_true (F3 (bk36 (by decide) h)).2.2⟩,fun h=>(F4 (bk36 (by decide) h)).ag hA,fun h=>⟨(F5 (bk36 (by decide) h)).1,(F5 (bk36 (by decide) h)).2.1.ag hA,getD_set_true (F5 (bk36 (by decide) h)).2.2⟩,fun h=>F6 (bk36 (by decide) h),fun h=>(F7 (bk36 (by decide) h)).ag hA,fun h=>⟨(F8 (bk36 (by decide) h)).1,(F8 (bk36 (by decide) h)).2.1.ag hA,getD_set_true (F8 (bk36 (by decide) h)).2.2⟩,fun h=>(OpsL.ag ⟨A,rfl,hC⟩ hA),fun h=>⟨rfl,getD_set_true hl9⟩,fun _=>⟨blk_put (cs:=#[.int .i64 3,.int .i64 0,.slice none 0 0]) (blk_put (cs:=#[.int .i64 3,.int .i64 0,.slice none 0 0]) (blk_put (cs:=#[.int .i64 0,.int .i64 0,.slice none 0 0]) hz 0 _ rfl) 1 _ rfl) 2 _ rfl,getD_set_true hl9⟩⟩
set_option maxHeartbeats 4000000 in
set_option maxRecDepth 100000 in
theorem Example_calls (w:World):Calls Try.prog 36 #[] w fun e w'=>∃ A,e=.returned (.agg #[.int .i64 3,.int .i64 0,.slice A 5 5])∧Kd.C k57 w' A 5 exOps∧Below w.heap.size w w':=by
 have hu24:=Try.underlying24
 have hu57:=Try.underlying57
 have HB:=Aside0.mk (Below.refl w.heap.size w)
 go_enter Try.func36,Try.ntmps36
 go_wp2_with (first | ((with_reducible refine gate_dst (N:=0) rfl ?_);refine box_event ?hg (N:=0) ?hd (cs:=#[.int .i64 0,.int .i64 0,.slice none 0 0]) (t:=24) ?hr ?_;(case hd=>rfl);(case hg=>rfl);(case hr=>first | (go_simp;done) | (go_simp;rfl));intro g0 hg w1 hbox hb;have BK0:=Aside0.mk hbox;have GW:=Aside0.mk (show w.heap.size≤g0 by rw [hg];exact Nat.le_refl _);have G0:=Aside0.mk (show g0 < w1.heap.size from blk_lt hbox);have HB':=Aside0.mk (below_step HB.out hb);clear HB;have HB:=HB';clear HB' hbox hb hg))
 have HR:=Aside0.mk (show RowL (g0 + 1) (w1.alloc (.cells #[.int .i64 1,.int .i64 2] 3)) (.slice (some ⟨w1.heap.size,0,none⟩) 2 2) [1,2] from RowL.new (b:=g0 + 1) (w:=w1) [1,2] G0.out (by decide))
 have hb:=below_alloc (Below.refl w1.heap.size w1) (.cells #[.int .i64 1,.int .i64 2] 3)
 have HB':=Aside0.mk (below_step HB.out hb)
 have BK0':=Aside0.mk (blk_below BK0.out hb)
 have G0':=Aside0.mk (Nat.lt_of_lt_of_le G0.out hb.size)
 have hs:w1.heap.size + 1=(w1.alloc (.cells #[.int .i64 1,.int .i64 2] 3)).heap.size:=by simp
 rw [hs]
 clear hs HB BK0 hb G0
 generalize (Value.slice (some ⟨w1.heap.size,0,none⟩) 2 2)=ub at HR ⊢
 generalize w1.alloc (.cells #[.int .i64 1,.int .i64 2] 3)=w2 at HR HB' BK0' G0' ⊢
 have hb:=below_alloc (Below.refl w2.heap.size w2) (.cells #[.int .i64 4,.int .i64 0,ub,.int .i64 0,.int .i64 (-1),.int .i64 0] 57)
 have HR':=Aside0.mk (HR.out.ag (Ag.of_below hb))
 have HB:=Aside0.mk (below_step HB'.out hb)
 have BK0:=Aside0.mk (blk_below BK0'.out hb)
 have BK1:=Aside0.mk (blk_new w2 (.cells #[.int .i64 4,.int .i64 0,ub,.int .i64 0,.int .i64 (-1),.int .i64 0] 57))
 have G1:=Aside0.mk (blk_lt BK1.out)
 clear HR HB' BK0' hb
 have G01:=G0'
 clear G0'
 generalize w2.alloc (.cells #[.int .i64 4,.int .i64 0,ub,.int .i64 0,.int .i64 (-1),.int .i64 0] 57)=w3 at HR' HB BK0 BK1 G1 ⊢
 generalize w2.heap.size=g1 at BK1 G1 G01 ⊢
 refine start_ (n:=12) (S:=fun _=>True) (ds:=[]) (Array.replicate 12 false) (by kernel_rfl) rfl rfl trivial (fun _=>?_)
 refine reg_inv (ExI w g0 g1 ub (gv 4 0 ub)) ?_ ?_ ?_ ?_ 12 _ _ _ ?_ (by decide)
 ·intro l a W hI i oi hoi hl haf K hK
  have hi:=all36 i oi hoi
  match i,hi with
  | 0,_=>exact step36_0 hu24 l a W hI oi hoi haf hl K hK
  | 1,_=>exact step36_1 hu24 l a W hI oi hoi haf hl K hK
  | 2,_=>exact step36_2 hu24 l a W hI oi hoi haf hl K hK
  | 3,_=>exact step36_3 hu24 l a W hI oi hoi haf hl K hK
  | 4,_=>exact step36_4 hu24 l a W hI oi hoi haf hl K hK
  | 5,_=>exact step36_5 hu24 l a W hI oi hoi haf hl K hK
  | 6,_=>exact step36_6 hu24 l a W hI oi hoi haf hl K hK
  | 7,_=>exact step36_7 hu24 l a W hI oi hoi haf hl K hK
  | 8,_=>exact step36_8 hu24 l a W hI oi hoi haf hl K hK
  | 9,_=>exact step36_9 hu24 l a W hI oi hoi haf hl K hK
  | 10,_=>exact step36_10 hu24 l a W hI oi hoi haf hl K hK
  | 11,_=>exact step36_11 hu24 l a W hI oi hoi haf hl K hK
 ·rintro l a W ⟨v4,v5,v6,v7,v8,v9,v10,v11,v12,v13,v14,rfl,hl,hB,h0,h1,h2,h3,h4,hz,F0,F1,F2,F3,F4,F5,F6,F7,F8,F9,F10,F11⟩ hd
  have hall:∀ i:Nat,i < 12→l.getD i false=true:=fun i hi=>by
   have h5:=hd i _ (Array.getElem?_eq_getElem (xs:=opsOf Try.f36 2) (Nat.lt_of_lt_of_eq hi (by kernel_rfl:12=(opsOf Try.f36 2).size)))
   rw [Array.getD_eq_getD_getElem?,Array.getElem?_eq_getElem (show i < l.size by omega)] at h5 ⊢
   exact h5
  replace F11:=F11 (hall 11 (by decide))
  obtain ⟨A,rfl,hC⟩:=F9 (hall 9 (by decide))
  replace hC:=hC W (Ag.refl _ _)
  clear F0 F1 F2 F3 F4 F5 F6 F7 F8 F9 F10 hz hall hd h3 h4
  go_wp2
  refine bodyPost_ret (results_cell_row rfl _ _ g0 24 #[.int .i64 3,.int .i64 0,.slice A 5 5] (0,0) _ rfl F11.1 hu24 rfl (by kernel_rfl)) rfl ?_
  exact ⟨A,rfl,hC,hB⟩
 ·rintro l a W ⟨v4,v5,v6,v7,v8,v9,v10,v11,v12,v13,v14,_,hl,_⟩
  exact hl
 ·intro i oi hoi e he
  have hi:i < 12:=(Array.getElem?_eq_some_iff.1 hoi).1
  have hac:(opsOf Try.f36 2).toList.zipIdx.all (fun p=>p.1.after.all (fun e=>decide (e.on < p.2)))=true:=by kernel_rfl
  have h1:=List.all_eq_true.1 hac (oi,i) (List.mem_zipIdx_iff_getElem?.2 (by rw [Array.getElem?_toList];exact hoi))
  exact of_decide_eq_true (Array.all_eq_true_iff_forall_mem.1 h1 e he)
 ·have hn:∀ i:Nat,(Array.replicate 12 false).getD i false=true→False:=fun i h=>by
   rw [Array.getD_eq_getD_getElem?,Array.getElem?_replicate] at h
   split at h<;>simp at h
  refine ⟨undef,undef,undef,undef,undef,undef,undef,undef,undef,undef,undef,rfl,by simp,below_drew HB.out,GW.out,G01.out,G1.out,BK1.out,HR'.out.ag (Ag.of_below (below_drew (Below.refl _ _))),fun _=>BK0.out,?_,?_,?_,?_,?_,?_,?_,?_,?_,?_,?_,?_⟩
  all_goals exact fun h=>(hn _ h).elim
end Go.Proofs.Ytpnfhddcnnoclaa.Px
