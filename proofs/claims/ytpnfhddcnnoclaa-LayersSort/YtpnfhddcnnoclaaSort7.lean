import Derived.Test.YtpnfhddcnnoclaaSort6
namespace Go.Proofs.Ytpnfhddcnnoclaa.Px
open Go.RowKit Go.Proofs.YtpnfhddcnnoclaaW.PrintWords Go.Proofs.YtpnfhddcnnoclaaW.PrintLast Go.Proofs.YtpnfhddcnnoclaaW.PrintMore
attribute [local go_sem] max2_int min2_int max_two min_two max_three min_three max_four min_four
set_option linter.unusedVariables false
set_option linter.unusedSimpArgs false
theorem rd_swap2 {xs:List Int} {i j t:Int} (i0:0≤i) (i1:i < xs.length) (j0:0≤j) (j1:j < xs.length) (t0:0≤t):rd (swap2 xs i j) t=if t=j then rd xs i else if t=i then rd xs j else rd xs t:=by
 unfold swap2
 rw [rd_set t0 (by rw [List.length_set];omega),rd_set t0 (by omega)]
 have e1:(t=(j.toNat:Int)) ↔ t=j:=by omega
 have e2:(t=(i.toNat:Int)) ↔ t=i:=by omega
 simp only [e1,e2]
theorem swap2_len (xs:List Int) (i j:Int):(swap2 xs i j).length=xs.length:=by unfold swap2;rw [List.length_set,List.length_set]
structure Mv (a b:Int) (xs ys:List Int):Prop where
 len:ys.length=xs.length
 out:∀ t:Int,0≤t→t < xs.length→(t < a∨b≤t)→rd ys t=rd xs t
 inn:∀ t:Int,0≤t→t < xs.length→a≤t→t < b→∃ s:Int,a≤s∧s < b∧0≤s∧s < xs.length∧rd ys t=rd xs s
 sur:∀ t:Int,0≤t→t < xs.length→∃ s:Int,0≤s∧s < xs.length∧rd ys s=rd xs t
theorem Mv.refl (a b:Int) (xs:List Int):Mv a b xs xs:=⟨rfl,fun _ _ _ _=>rfl,fun t h0 h1 h2 h3=>⟨t,h2,h3,h0,h1,rfl⟩,fun t h0 h1=>⟨t,h0,h1,rfl⟩⟩
theorem Mv.trans {a b:Int} {xs ys zs:List Int} (h:Mv a b xs ys) (g:Mv a b ys zs):Mv a b xs zs:=by
 refine ⟨g.len.trans h.len,fun t h0 h1 h2=>(g.out t h0 (by rw [h.len];exact h1) h2).trans (h.out t h0 h1 h2),fun t h0 h1 h2 h3=>?_,fun t h0 h1=>?_⟩
 ·obtain ⟨s,s0,s1,s2,s3,e⟩:=g.inn t h0 (by rw [h.len];exact h1) h2 h3
  rw [h.len] at s3
  obtain ⟨r,r0,r1,r2,r3,e2⟩:=h.inn s s2 s3 s0 s1
  exact ⟨r,r0,r1,r2,r3,e.trans e2⟩
 ·obtain ⟨s,s0,s1,e⟩:=h.sur t h0 h1
  obtain ⟨r,r0,r1,e2⟩:=g.sur s s0 (by rw [h.len];exact s1)
  rw [h.len] at r1
  exact ⟨r,r0,r1,e2.trans e⟩
theorem Mv.wide {a b a' b':Int} {xs ys:List Int} (h:Mv a b xs ys) (ha:a'≤a) (hb:b≤b'):Mv a' b' xs ys:=by
 refine ⟨h.len,fun t h0 h1 h2=>h.out t h0 h1 (by omega),fun t h0 h1 h2 h3=>?_,h.sur⟩
 by_cases c:a≤t∧t < b
 ·obtain ⟨s,s0,s1,s2,s3,e⟩:=h.inn t h0 h1 c.1 c.2
  exact ⟨s,by omega,by omega,s2,s3,e⟩
 ·exact ⟨t,h2,h3,h0,h1,h.out t h0 h1 (by omega)⟩
theorem Mv.swap {xs:List Int} {a b i j:Int} (i0:0≤i) (i1:i < xs.length) (j0:0≤j) (j1:j < xs.length) (ai:a≤i) (ib:i < b) (aj:a≤j) (jb:j < b):Mv a b xs (swap2 xs i j):=by
 refine ⟨swap2_len _ _ _,fun t h0 h1 h2=>?_,fun t h0 h1 h2 h3=>?_,fun t h0 h1=>?_⟩
 ·rw [rd_swap2 i0 i1 j0 j1 h0,if_neg (by omega),if_neg (by omega)]
 ·rw [rd_swap2 i0 i1 j0 j1 h0]
  by_cases c:t=j
  ·exact ⟨i,ai,ib,i0,i1,by rw [if_pos c]⟩
  ·by_cases c2:t=i
   ·exact ⟨j,aj,jb,j0,j1,by rw [if_neg c,if_pos c2]⟩
   ·exact ⟨t,h2,h3,h0,h1,by rw [if_neg c,if_neg c2]⟩
 ·by_cases c:t=j
  ·by_cases c2:i=j
   ·exact ⟨t,h0,h1,by rw [rd_swap2 i0 i1 j0 j1 h0,if_pos c,c2,c]⟩
   ·exact ⟨i,i0,i1,by rw [rd_swap2 i0 i1 j0 j1 i0,if_neg c2,if_pos rfl,c]⟩
  ·by_cases c2:t=i
   ·exact ⟨j,j0,j1,by rw [rd_swap2 i0 i1 j0 j1 j0,if_pos rfl,c2]⟩
   ·exact ⟨t,h0,h1,by rw [rd_swap2 i0 i1 j0 j1 h0,if_neg c,if_neg c2]⟩
theorem shup_spec:∀ (f:Nat) (xs:List Int) (k:Int),0≤k→k + f < xs.length→(shup f xs k).length=xs.length∧∀ t,0≤t→rd (shup f xs k) t=if k≤t∧t < k + f then rd xs (t + 1) else if t=k + f then rd xs k else rd xs t
 | 0,xs,k,h0,h1=>by
  refine ⟨rfl,fun t t0=>?_⟩
  rw [if_neg (by omega)]
  by_cases c:t=k + (0:Nat)
  ·rw [if_pos c,show t=k by omega];rfl
  ·rw [if_neg c];rfl
 | f + 1,xs,k,h0,h1=>by
  have hl:=swap2_len xs k (k + 1)
  obtain ⟨g1,g2⟩:=shup_spec f (swap2 xs k (k + 1)) (k + 1) (by omega) (by rw [hl];omega)
  refine ⟨by unfold shup;rw [g1,hl],fun t t0=>?_⟩
  unfold shup
  rw [g2 t t0]
  have r:=fun (t:Int) (t0:0≤t)=>rd_swap2 (xs:=xs) (i:=k) (j:=k + 1) (t:=t) h0 (by omega) (by omega) (by omega) t0
  rw [r (t + 1) (by omega),r (k + 1) (by omega),r t t0]
  rcases Int.lt_trichotomy t k with c | c | c
  ·rw [if_neg (by omega),if_neg (by omega),if_neg (by omega),if_neg (by omega),if_neg (by omega),if_neg (by omega)]
  ·subst c
   rw [if_neg (by omega),if_neg (by omega),if_neg (by omega),if_pos rfl,if_pos (by omega)]
  ·by_cases c2:t < k + 1 + f
   ·rw [if_pos (by omega),if_neg (by omega),if_neg (by omega),if_pos (by omega)]
   ·by_cases c3:t=k + 1 + f
    ·rw [if_neg (by omega),if_pos c3,if_pos rfl,if_neg (by omega),if_pos (by omega)]
    ·rw [if_neg (by omega),if_neg c3,if_neg (by omega),if_neg (by omega),if_neg (by omega),if_neg (by omega)]
theorem shup_mv:∀ (f:Nat) (xs:List Int) (k a b:Int),0≤k→k + f < xs.length→a≤k→k + f < b→Mv a b xs (shup f xs k)
 | 0,xs,k,a,b,_,_,_,_=>Mv.refl _ _ _
 | f + 1,xs,k,a,b,h0,h1,h2,h3=>by
  unfold shup
  exact (Mv.swap h0 (by omega) (by omega) (by omega) h2 (by omega) (by omega) (by omega)).trans (shup_mv f _ (k + 1) a b (by omega) (by rw [swap2_len];omega) (by omega) (by omega))
theorem shdn_spec:∀ (f:Nat) (xs:List Int) (k:Int),0≤k - f→k < xs.length→(shdn f xs k).length=xs.length∧∀ t,0≤t→rd (shdn f xs k) t=if k - f < t∧t≤k then rd xs (t - 1) else if t=k - f then rd xs k else rd xs t
 | 0,xs,k,h0,h1=>by
  refine ⟨rfl,fun t t0=>?_⟩
  rw [if_neg (by omega)]
  by_cases c:t=k - (0:Nat)
  ·rw [if_pos c,show t=k by omega];rfl
  ·rw [if_neg c];rfl
 | f + 1,xs,k,h0,h1=>by
  have hl:=swap2_len xs k (k - 1)
  obtain ⟨g1,g2⟩:=shdn_spec f (swap2 xs k (k - 1)) (k - 1) (by omega) (by rw [hl];omega)
  refine ⟨by unfold shdn;rw [g1,hl],fun t t0=>?_⟩
  unfold shdn
  rw [g2 t t0]
  have r:=fun (t:Int) (t0:0≤t)=>rd_swap2 (xs:=xs) (i:=k) (j:=k - 1) (t:=t) (by omega) (by omega) (by omega) (by omega) t0
  rw [r (k - 1) (by omega),r t t0]
  by_cases c:k - 1 - f < t∧t≤k - 1
  ·rw [if_pos c,r (t - 1) (by omega),if_neg (by omega),if_neg (by omega),if_pos (by omega)]
  ·rw [if_neg c]
   by_cases c2:t=k - 1 - f
   ·rw [if_pos c2,if_pos rfl,if_neg (by omega),if_pos (by omega)]
   ·rw [if_neg c2]
    by_cases c3:t=k
    ·rw [if_neg (by omega),if_pos c3,if_pos (by omega),c3]
    ·rw [if_neg (by omega),if_neg c3,if_neg (by omega),if_neg (by omega)]
theorem shdn_mv:∀ (f:Nat) (xs:List Int) (k a b:Int),0≤k - f→k < xs.length→a≤k - f→k < b→Mv a b xs (shdn f xs k)
 | 0,xs,k,a,b,_,_,_,_=>Mv.refl _ _ _
 | f + 1,xs,k,a,b,h0,h1,h2,h3=>by
  unfold shdn
  exact (Mv.swap (by omega) (by omega) (by omega) (by omega) (by omega) (by omega) (by omega) (by omega)).trans (shdn_mv f _ (k - 1) a b (by omega) (by rw [swap2_len];omega) (by omega) (by omega))
theorem srange_spec (a b:Int):∀ (f:Nat) (xs:List Int) (i:Int),0≤a→0≤i→a + i + f≤b + i→b + i + f≤xs.length→(srange a b f xs i).length=xs.length∧∀ t,0≤t→rd (srange a b f xs i) t=if a + i≤t∧t < a + i + f then rd xs (t - a + b) else if b + i≤t∧t < b + i + f then rd xs (t - b + a) else rd xs t
 | 0,xs,i,h0,hi,h1,h2=>⟨rfl,fun t t0=>by rw [if_neg (by omega),if_neg (by omega)];rfl⟩
 | f + 1,xs,i,h0,hi,h1,h2=>by
  have hl:=swap2_len xs (a + i) (b + i)
  obtain ⟨g1,g2⟩:=srange_spec a b f (swap2 xs (a + i) (b + i)) (i + 1) h0 (by omega) (by omega) (by rw [hl];omega)
  refine ⟨by unfold srange;rw [g1,hl],fun t t0=>?_⟩
  unfold srange
  rw [g2 t t0]
  have r:=fun (t:Int) (t0:0≤t)=>rd_swap2 (xs:=xs) (i:=a + i) (j:=b + i) (t:=t) (by omega) (by omega) (by omega) (by omega) t0
  by_cases c:a + (i + 1)≤t∧t < a + (i + 1) + f
  ·rw [if_pos c,r _ (by omega),if_neg (by omega),if_neg (by omega),if_pos (by omega)]
  ·rw [if_neg c]
   by_cases c2:b + (i + 1)≤t∧t < b + (i + 1) + f
   ·rw [if_pos c2,r _ (by omega),if_neg (by omega),if_neg (by omega),if_neg (by omega),if_pos (by omega)]
   ·rw [if_neg c2,r t t0]
    by_cases c3:t=b + i
    ·rw [if_pos c3,if_neg (by omega),if_pos (by omega),show t - b + a=a + i by omega]
    ·rw [if_neg c3]
     by_cases c4:t=a + i
     ·rw [if_pos c4,if_pos (by omega),show t - a + b=b + i by omega]
     ·rw [if_neg c4,if_neg (by omega),if_neg (by omega)]
theorem srange_mv (a b p q:Int):∀ (f:Nat) (xs:List Int) (i:Int),0≤a→0≤i→a + i + f≤b + i→b + i + f≤xs.length→p≤a + i→b + i + f≤q→Mv p q xs (srange a b f xs i)
 | 0,xs,i,h0,hi,h1,h2,h3,h4=>Mv.refl _ _ _
 | f + 1,xs,i,h0,hi,h1,h2,h3,h4=>by
  unfold srange
  exact (Mv.swap (by omega) (by omega) (by omega) (by omega) (by omega) (by omega) (by omega) (by omega)).trans (srange_mv a b p q f _ (i + 1) h0 (by omega) (by omega) (by rw [swap2_len];omega) (by omega) (by omega))
theorem rot_spec (m:Int):∀ (f:Nat) (xs:List Int) (i j:Int),1≤i→1≤j→i + j≤f→0≤m - i→m + j≤xs.length→(rot m f xs i j).length=xs.length∧∀ t,0≤t→rd (rot m f xs i j) t=if m - i≤t∧t < m - i + j then rd xs (t + i) else if m - i + j≤t∧t < m + j then rd xs (t - j) else rd xs t
 | 0,xs,i,j,h0,h1,h2,_,_=>by exfalso;omega
 | f + 1,xs,i,j,h0,h1,h2,h3,h4=>by
  unfold rot
  by_cases c:i=j
  ·subst c
   rw [if_pos rfl]
   obtain ⟨g1,g2⟩:=srange_spec (m - i) m i.toNat xs 0 h3 (by omega) (by omega) (by omega)
   refine ⟨g1,fun t t0=>?_⟩
   rw [g2 t t0]
   by_cases d:m - i≤t∧t < m - i + i
   ·rw [if_pos (by omega),if_pos d,show t - (m - i) + m=t + i by omega]
   ·rw [if_neg (by omega),if_neg d]
    by_cases d2:m - i + i≤t∧t < m + i
    ·rw [if_pos (by omega),if_pos d2,show t - m + (m - i)=t - i by omega]
    ·rw [if_neg (by omega),if_neg d2]
  ·rw [if_neg c]
   by_cases c2:j < i
   ·rw [if_pos c2]
    obtain ⟨g1,g2⟩:=srange_spec (m - i) m j.toNat xs 0 h3 (by omega) (by omega) (by omega)
    obtain ⟨k1,k2⟩:=rot_spec m f (srange (m - i) m j.toNat xs 0) (i - j) j (by omega) h1 (by omega) (by omega) (by rw [g1];exact h4)
    refine ⟨k1.trans g1,fun t t0=>?_⟩
    rw [k2 t t0]
    by_cases d:m - (i - j)≤t∧t < m - (i - j) + j
    ·rw [if_pos d,g2 _ (by omega)]
     by_cases e:m + 0≤t + (i - j)∧t + (i - j) < m + 0 + (j.toNat:Int)
     ·rw [if_neg (by omega),if_pos e,if_neg (by omega),if_pos (by omega),show t + (i - j) - m + (m - i)=t - j by omega]
     ·exfalso;omega
    ·rw [if_neg d]
     by_cases d2:m - (i - j) + j≤t∧t < m + j
     ·rw [if_pos d2,g2 _ (by omega),if_neg (by omega),if_neg (by omega),if_neg (by omega),if_pos (by omega)]
     ·rw [if_neg d2,g2 t t0]
      by_cases d3:m - i≤t∧t < m - i + j
      ·rw [if_pos (by omega),if_pos d3,show t - (m - i) + m=t + i by omega]
      ·rw [if_neg (by omega),if_neg (by omega),if_neg d3,if_neg (by omega)]
   ·rw [if_neg c2]
    obtain ⟨g1,g2⟩:=srange_spec (m - i) (m + j - i) i.toNat xs 0 h3 (by omega) (by omega) (by omega)
    obtain ⟨k1,k2⟩:=rot_spec m f (srange (m - i) (m + j - i) i.toNat xs 0) i (j - i) h0 (by omega) (by omega) (by omega) (by rw [g1];omega)
    refine ⟨k1.trans g1,fun t t0=>?_⟩
    rw [k2 t t0]
    by_cases d:m - i≤t∧t < m - i + (j - i)
    ·rw [if_pos d,g2 _ (by omega),if_neg (by omega),if_neg (by omega),if_pos (by omega)]
    ·rw [if_neg d]
     by_cases d2:m - i + (j - i)≤t∧t < m + (j - i)
     ·rw [if_pos d2,g2 _ (by omega)]
      by_cases e:m - i + 0≤t - (j - i)∧t - (j - i) < m - i + 0 + (i.toNat:Int)
      ·rw [if_pos e,if_pos (by omega),show t - (j - i) - (m - i) + (m + j - i)=t + i by omega]
      ·exfalso;omega
     ·rw [if_neg d2,g2 t t0]
      by_cases d3:m - i + j≤t∧t < m + j
      ·rw [if_neg (by omega),if_pos (by omega),if_neg (by omega),if_pos d3,show t - (m + j - i) + (m - i)=t - j by omega]
      ·rw [if_neg (by omega),if_neg (by omega),if_neg (by omega),if_neg d3]
theorem rot_mv (m p q:Int):∀ (f:Nat) (xs:List Int) (i j:Int),1≤i→1≤j→0≤m - i→m + j≤xs.length→p≤m - i→m + j≤q→Mv p q xs (rot m f xs i j)
 | 0,xs,i,j,_,_,_,_,_,_=>Mv.refl _ _ _
 | f + 1,xs,i,j,h0,h1,h3,h4,h5,h6=>by
  unfold rot
  by_cases c:i=j
  ·rw [if_pos c]
   exact srange_mv _ _ _ _ _ _ _ h3 (by omega) (by omega) (by omega) (by omega) (by omega)
  ·rw [if_neg c]
   by_cases c2:j < i
   ·rw [if_pos c2]
    have g:=srange_mv (m - i) m p q j.toNat xs 0 h3 (by omega) (by omega) (by omega) (by omega) (by omega)
    exact g.trans (rot_mv m p q f _ _ _ (by omega) h1 (by omega) (by rw [g.len];exact h4) (by omega) h6)
   ·rw [if_neg c2]
    have g:=srange_mv (m - i) (m + j - i) p q i.toNat xs 0 h3 (by omega) (by omega) (by omega) (by omega) (by omega)
    exact g.trans (rot_mv m p q f _ _ _ h0 (by omega) (by omega) (by rw [g.len];omega) h5 (by omega))
def Rl (key:Int→Int) (x y:Int):Prop:=key x < key y∨(key x=key y∧x < y)
theorem Rl.of_le {key:Int→Int} {x y:Int} (h:key x≤key y) (hp:x < y):Rl key x y:=by unfold Rl;omega
theorem Rl.le {key:Int→Int} {x y:Int} (h:Rl key x y):key x≤key y:=by unfold Rl at h;omega
theorem Rl.trans {key:Int→Int} {x y z:Int} (h:Rl key x y) (g:Rl key y z):Rl key x z:=by unfold Rl at *;omega
def Srtd (key:Int→Int) (xs:List Int) (a b:Int):Prop:=∀ i j:Int,a≤i→i < j→j < b→Rl key (rd xs i) (rd xs j)
def Vals (V:Int→Prop) (xs:List Int):Prop:=∀ t:Int,0≤t→t < xs.length→V (rd xs t)
def Lt (lt:Int→Int→Bool) (key:Int→Int) (V:Int→Prop):Prop:=∀ x y,V x→V y→(lt x y=true ↔ key x < key y)
theorem Srtd.key_le {key:Int→Int} {xs:List Int} {a b i j:Int} (h:Srtd key xs a b) (h0:a≤i) (h1:i≤j) (h2:j < b):key (rd xs i)≤key (rd xs j):=by
 rcases Int.lt_or_eq_of_le h1 with c | rfl
 ·exact (h i j h0 c h2).le
 ·exact Int.le_refl _
theorem Vals.mv {V:Int→Prop} {a b:Int} {xs ys:List Int} (h:Vals V xs) (g:Mv a b xs ys):Vals V ys:=by
 intro t h0 h1
 rw [g.len] at h1
 by_cases c:t < a∨b≤t
 ·rw [g.out t h0 h1 c];exact h t h0 h1
 ·obtain ⟨s,_,_,s2,s3,e⟩:=g.inn t h0 h1 (by omega) (by omega)
  rw [e];exact h s s2 s3
theorem bsr_spec (P:Int→Bool):∀ (f:Nat) (i j:Int),i≤j→j - i≤f→i≤bsr P f i j∧bsr P f i j≤j∧(i < bsr P f i j→P (bsr P f i j - 1)=true)∧(bsr P f i j < j→P (bsr P f i j)=false)
 | 0,i,j,h,h1=>⟨Int.le_refl _,h,fun h2=>absurd h2 (by show ¬ i < i;omega),fun h2=>absurd (show i < j from h2) (by omega)⟩
 | f + 1,i,j,h,h1=>by
  unfold bsr
  by_cases c:i < j
  ·rw [if_pos c]
   by_cases d:P ((i + j) / 2)=true
   ·rw [if_pos d]
    obtain ⟨a1,a2,a3,a4⟩:=bsr_spec P f ((i + j) / 2 + 1) j (by omega) (by omega)
    refine ⟨by omega,a2,fun _=>?_,a4⟩
    rcases Int.lt_or_eq_of_le a1 with e | e
    ·exact a3 e
    ·rw [← e,show (i + j) / 2 + 1 - 1=(i + j) / 2 by omega];exact d
   ·rw [if_neg d]
    obtain ⟨a1,a2,a3,a4⟩:=bsr_spec P f i ((i + j) / 2) (by omega) (by omega)
    refine ⟨a1,by omega,a3,fun _=>?_⟩
    rcases Int.lt_or_eq_of_le a2 with e | e
    ·exact a4 e
    ·rw [e];exact Bool.eq_false_iff.mpr d
  ·rw [if_neg c]
   exact ⟨Int.le_refl _,h,fun h2=>absurd h2 (Int.lt_irrefl _),fun h2=>absurd h2 c⟩
section
variable {lt:Int→Int→Bool} {key:Int→Int} {V:Int→Prop}
theorem Lt.no (hL:Lt lt key V) {x y:Int} (hx:V x) (hy:V y) (h:lt x y=false):key y≤key x:=by
 by_cases c:key x < key y
 ·rw [(hL x y hx hy).mpr c] at h;cases h
 ·omega
theorem sym1_spec (hL:Lt lt key V) (xs:List Int) (a m b s:Int) (hV:Vals V xs) (h0:0≤a) (h1:m - a=1) (h2:m < b) (h3:b≤xs.length) (hS:Srtd key xs m b) (hp:∀ j,m≤j→j < b→rd xs a < rd xs j)
  (hs:bsr (fun h=>lt (rd xs h) (rd xs a)) (b - m).toNat m b=s):Mv a b xs (shup (s - 1 - a).toNat xs a)∧Srtd key (shup (s - 1 - a).toNat xs a) a b:=by
 obtain ⟨b1,b2,b3,b4⟩:=bsr_spec (fun h=>lt (rd xs h) (rd xs a)) (b - m).toNat m b (by omega) (by omega)
 rw [hs] at b1 b2 b3 b4
 refine ⟨shup_mv _ _ _ _ _ h0 (by omega) (Int.le_refl _) (by omega),?_⟩
 obtain ⟨_,g⟩:=shup_spec (s - 1 - a).toNat xs a h0 (by omega)
 have va:=hV a h0 (by omega)
 intro i j i0 ij jb
 rw [g i (by omega),g j (by omega)]
 have lo:∀ t,m≤t→t < s→Rl key (rd xs t) (rd xs a):=fun t t0 t1=>by
  have h4:=(hL _ _ (hV (s - 1) (by omega) (by omega)) va).mp (b3 (by omega))
  have h5:=hS.key_le (i:=t) (j:=s - 1) t0 (by omega) (by omega)
  exact .inl (by omega)
 have hi:∀ t,s≤t→t < b→Rl key (rd xs a) (rd xs t):=fun t t0 t1=>by
  have h4:=hL.no (hV s (by omega) (by omega)) va (b4 (by omega))
  have h5:=hS.key_le (i:=s) (j:=t) b1 t0 t1
  exact .of_le (by omega) (hp t (by omega) t1)
 by_cases c1:j < s - 1
 ·rw [if_pos (by omega),if_pos (by omega)]
  exact hS _ _ (by omega) (by omega) (by omega)
 ·by_cases c2:j=s - 1
  ·rw [if_pos (by omega),if_neg (by omega),if_pos (by omega)]
   exact lo _ (by omega) (by omega)
  ·rw [if_neg (show ¬ (a≤j∧_) by omega),if_neg (show ¬ j=_ by omega)]
   by_cases c3:i < s - 1
   ·rw [if_pos (by omega)]
    exact hS _ _ (by omega) (by omega) (by omega)
   ·rw [if_neg (by omega)]
    by_cases c4:i=s - 1
    ·rw [if_pos (by omega)]
     exact hi _ (by omega) jb
    ·rw [if_neg (by omega)]
     exact hS _ _ (by omega) ij jb
theorem sym2_spec (hL:Lt lt key V) (xs:List Int) (a m b s:Int) (hV:Vals V xs) (h0:0≤a) (h1:b - m=1) (h2:a < m) (h3:b≤xs.length) (hS:Srtd key xs a m) (hp:∀ j,a≤j→j < m→rd xs j < rd xs m)
  (hs:bsr (fun h=>!lt (rd xs m) (rd xs h)) (m - a).toNat a m=s):Mv a b xs (shdn (m - s).toNat xs m)∧Srtd key (shdn (m - s).toNat xs m) a b:=by
 obtain ⟨b1,b2,b3,b4⟩:=bsr_spec (fun h=>!lt (rd xs m) (rd xs h)) (m - a).toNat a m (by omega) (by omega)
 rw [hs] at b1 b2 b3 b4
 refine ⟨shdn_mv _ _ _ _ _ (by omega) (by omega) (by omega) (by omega),?_⟩
 obtain ⟨_,g⟩:=shdn_spec (m - s).toNat xs m (by omega) (by omega)
 have vm:=hV m (by omega) (by omega)
 intro i j i0 ij jb
 rw [g i (by omega),g j (by omega)]
 have lo:∀ t,a≤t→t < s→Rl key (rd xs t) (rd xs m):=fun t t0 t1=>by
  have h6:lt (rd xs m) (rd xs (s - 1))=false:=by simpa using b3 (by omega)
  have h4:=hL.no vm (hV (s - 1) (by omega) (by omega)) h6
  have h5:=hS.key_le (i:=t) (j:=s - 1) t0 (by omega) (by omega)
  exact .of_le (by omega) (hp t t0 (by omega))
 have hi:∀ t,s≤t→t < m→Rl key (rd xs m) (rd xs t):=fun t t0 t1=>by
  have h6:lt (rd xs m) (rd xs s)=true:=by simpa using b4 (by omega)
  have h4:=(hL _ _ vm (hV s (by omega) (by omega))).mp h6
  have h5:=hS.key_le (i:=s) (j:=t) b1 t0 t1
  exact .inl (by omega)
 by_cases c1:j < s
 ·rw [if_neg (by omega),if_neg (by omega),if_neg (by omega),if_neg (by omega)]
  exact hS _ _ i0 ij (by omega)
 ·by_cases c2:j=s
  ·rw [if_neg (by omega),if_neg (by omega),if_neg (by omega),if_pos (by omega)]
   exact lo _ (by omega) (by omega)
  ·rw [if_pos (show m - _ < j∧_ by omega)]
   by_cases c3:i < s
   ·rw [if_neg (by omega),if_neg (by omega)]
    exact hS _ _ (by omega) (by omega) (by omega)
   ·by_cases c4:i=s
    ·rw [if_neg (by omega),if_pos (by omega)]
     exact hi _ (by omega) (by omega)
    ·rw [if_pos (by omega)]
     exact hS _ _ (by omega) (by omega) (by omega)
theorem sym_spec (hL:Lt lt key V):∀ (f:Nat) (xs:List Int) (a m b:Int),Vals V xs→0≤a→a < m→m < b→b≤xs.length→b - a≤f→Srtd key xs a m→Srtd key xs m b→(∀ i j,a≤i→i < m→m≤j→j < b→rd xs i < rd xs j)→Mv a b xs (sym lt f xs a m b)∧Srtd key (sym lt f xs a m b) a b
 | 0,xs,a,m,b,_,h0,h1,h2,h3,h4,_,_,_=>by exfalso;omega
 | f + 1,xs,a,m,b,hV,h0,h1,h2,h3,h4,hA,hB,hp=>by
  unfold sym
  by_cases c1:m - a=1
  ·rw [if_pos c1]
   exact sym1_spec hL xs a m b _ hV h0 c1 h2 h3 hB (fun j j0 j1=>hp a j (Int.le_refl _) h1 j0 j1) rfl
  ·rw [if_neg c1]
   by_cases c2:b - m=1
   ·rw [if_pos c2]
    exact sym2_spec hL xs a m b _ hV h0 c2 h1 h3 hA (fun j j0 j1=>hp j m j0 j1 (Int.le_refl _) h2) rfl
   ·rw [if_neg c2]
    obtain ⟨mid,hmid⟩:∃ mid,(a + b) / 2=mid:=⟨_,rfl⟩
    rw [hmid]
    obtain ⟨s,hs⟩:∃ s,symStart lt xs a m b mid=s:=⟨_,rfl⟩
    rw [hs]
    have sp:a≤s∧s≤m∧s≤mid∧mid + m - s≤b∧(a < s→mid + m - s < b→lt (rd xs (mid + m - s)) (rd xs (s - 1))=false)∧(s < m→s < mid→lt (rd xs (mid + m - s - 1)) (rd xs s)=true):=by
     unfold symStart at hs
     by_cases cm:mid < m
     ·rw [if_pos cm] at hs
      obtain ⟨b1,b2,b3,b4⟩:=bsr_spec (fun c=>!lt (rd xs (mid + m - 1 - c)) (rd xs c)) (b - m).toNat (mid + m - b) mid (by omega) (by omega)
      rw [hs] at b1 b2 b3 b4
      refine ⟨by omega,by omega,b2,by omega,fun q1 q2=>?_,fun q1 q2=>?_⟩
      ·have h6:lt (rd xs (mid + m - 1 - (s - 1))) (rd xs (s - 1))=false:=by simpa using b3 (by omega)
       rw [show mid + m - 1 - (s - 1)=mid + m - s by omega] at h6
       exact h6
      ·have h6:lt (rd xs (mid + m - 1 - s)) (rd xs s)=true:=by simpa using b4 (by omega)
       rw [show mid + m - 1 - s=mid + m - s - 1 by omega] at h6
       exact h6
     ·rw [if_neg cm] at hs
      obtain ⟨b1,b2,b3,b4⟩:=bsr_spec (fun c=>!lt (rd xs (mid + m - 1 - c)) (rd xs c)) (m - a).toNat a m (by omega) (by omega)
      rw [hs] at b1 b2 b3 b4
      refine ⟨by omega,by omega,by omega,by omega,fun q1 q2=>?_,fun q1 q2=>?_⟩
      ·have h6:lt (rd xs (mid + m - 1 - (s - 1))) (rd xs (s - 1))=false:=by simpa using b3 (by omega)
       rw [show mid + m - 1 - (s - 1)=mid + m - s by omega] at h6
       exact h6
      ·have h6:lt (rd xs (mid + m - 1 - s)) (rd xs s)=true:=by simpa using b4 (by omega)
       rw [show mid + m - 1 - s=mid + m - s - 1 by omega] at h6
       exact h6
    obtain ⟨s1,s2,s3,s4,s5,s6⟩:=sp
    obtain ⟨e,he⟩:∃ e,mid + m - s=e:=⟨_,rfl⟩
    rw [he] at s4 s5 s6 ⊢
    unfold symRest
    obtain ⟨ys,hys⟩:∃ ys,(if s < m∧m < e then rot m (e - s).toNat xs (m - s) (e - m) else xs)=ys:=⟨_,rfl⟩
    rw [hys]
    have hy:Mv a b xs ys∧∀ t:Int,0≤t→rd ys t=if s≤t∧t < mid then rd xs (t + (m - s)) else if mid≤t∧t < e then rd xs (t - (e - m)) else rd xs t:=by
     rw [← hys]
     by_cases c:s < m∧m < e
     ·rw [if_pos c]
      refine ⟨rot_mv m a b _ xs _ _ (by omega) (by omega) (by omega) (by omega) (by omega) (by omega),fun t t0=>?_⟩
      obtain ⟨_,g⟩:=rot_spec m (e - s).toNat xs (m - s) (e - m) (by omega) (by omega) (by omega) (by omega) (by omega)
      rw [g t t0]
      simp only [show m - (m - s)=s by omega,show s + (e - m)=mid by omega,show m + (e - m)=e by omega]
     ·rw [if_neg c]
      refine ⟨Mv.refl _ _ _,fun t t0=>?_⟩
      by_cases d:s≤t∧t < mid
      ·rw [if_pos d,show t + (m - s)=t by omega]
      ·rw [if_neg d]
       by_cases d2:mid≤t∧t < e
       ·rw [if_pos d2,show t - (e - m)=t by omega]
       ·rw [if_neg d2]
    obtain ⟨my,gy⟩:=hy
    have yV:=hV.mv my
    have ly:=my.len
    clear hys
    have cross:∀ i j:Int,a≤i→i < mid→mid≤j→j < b→Rl key (rd ys i) (rd ys j):=by
     intro i j i0 i1 j0 j1
     rw [gy i (by omega),gy j (by omega),if_neg (show ¬ (s≤j∧j < mid) by omega),if_neg (show ¬ (mid≤i∧i < e) by omega)]
     by_cases d:s≤i
     ·rw [if_pos ⟨d,i1⟩]
      by_cases d2:j < e
      ·rw [if_pos ⟨j0,d2⟩]
       have q1:=(hL _ _ (hV (e - 1) (by omega) (by omega)) (hV s (by omega) (by omega))).mp (s6 (by omega) (by omega))
       have q2:=hB.key_le (i:=i + (m - s)) (j:=e - 1) (by omega) (by omega) (by omega)
       have q3:=hA.key_le (i:=s) (j:=j - (e - m)) (by omega) (by omega) (by omega)
       exact .inl (by omega)
      ·rw [if_neg (by omega)]
       exact hB _ _ (by omega) (by omega) j1
     ·rw [if_neg (by omega)]
      by_cases d2:j < e
      ·rw [if_pos ⟨j0,d2⟩]
       exact hA _ _ i0 (by omega) (by omega)
      ·rw [if_neg (by omega)]
       have q1:=hL.no (hV e (by omega) (by omega)) (hV (s - 1) (by omega) (by omega)) (s5 (by omega) (by omega))
       have q2:=hA.key_le (i:=i) (j:=s - 1) i0 (by omega) (by omega)
       have q3:=hB.key_le (i:=e) (j:=j) (by omega) (by omega) j1
       exact .of_le (by omega) (hp _ _ i0 (by omega) (by omega) j1)
    have S1:Srtd key ys a s:=fun i j i0 ij j1=>by
     rw [gy i (by omega),gy j (by omega),if_neg (by omega),if_neg (by omega),if_neg (by omega),if_neg (by omega)]
     exact hA _ _ i0 ij (by omega)
    have S2:Srtd key ys s mid:=fun i j i0 ij j1=>by
     rw [gy i (by omega),gy j (by omega),if_pos (by omega),if_pos (by omega)]
     exact hB _ _ (by omega) (by omega) (by omega)
    have S3:Srtd key ys mid e:=fun i j i0 ij j1=>by
     rw [gy i (by omega),gy j (by omega),if_neg (by omega),if_pos (by omega),if_neg (by omega),if_pos (by omega)]
     exact hA _ _ (by omega) (by omega) (by omega)
    have S4:Srtd key ys e b:=fun i j i0 ij j1=>by
     rw [gy i (by omega),gy j (by omega),if_neg (by omega),if_neg (by omega),if_neg (by omega),if_neg (by omega)]
     exact hB _ _ (by omega) (by omega) (by omega)
    have P1:∀ i j:Int,a≤i→i < s→s≤j→j < mid→rd ys i < rd ys j:=fun i j i0 i1 j0 j1=>by
     rw [gy i (by omega),gy j (by omega),if_neg (by omega),if_neg (by omega),if_pos (by omega)]
     exact hp _ _ i0 (by omega) (by omega) (by omega)
    have P2:∀ i j:Int,mid≤i→i < e→e≤j→j < b→rd ys i < rd ys j:=fun i j i0 i1 j0 j1=>by
     rw [gy i (by omega),gy j (by omega),if_neg (by omega),if_pos (by omega),if_neg (by omega),if_neg (by omega)]
     exact hp _ _ (by omega) (by omega) (by omega) (by omega)
    obtain ⟨zs,hzs⟩:∃ zs,(if a < s∧s < mid then sym lt f ys a s mid else ys)=zs:=⟨_,rfl⟩
    rw [hzs]
    have hz:Mv a mid ys zs∧Srtd key zs a mid:=by
     rw [← hzs]
     by_cases c:a < s∧s < mid
     ·rw [if_pos c]
      exact sym_spec hL f ys a s mid yV h0 c.1 c.2 (by omega) (by omega) S1 S2 P1
     ·rw [if_neg c]
      refine ⟨Mv.refl _ _ _,?_⟩
      by_cases d:a < s
      ·rw [show mid=s by omega];exact S1
      ·rw [show a=s by omega];exact S2
    obtain ⟨mz,sz⟩:=hz
    clear hzs
    have zV:=yV.mv mz
    have lz:=mz.len
    obtain ⟨us,hus⟩:∃ us,(if mid < e∧e < b then sym lt f zs mid e b else zs)=us:=⟨_,rfl⟩
    rw [hus]
    have keep:∀ t:Int,mid≤t→t < b→rd zs t=rd ys t:=fun t t0 t1=>mz.out t (by omega) (by omega) (.inr t0)
    have S3z:Srtd key zs mid e:=fun i j i0 ij j1=>by rw [keep i i0 (by omega),keep j (by omega) (by omega)];exact S3 i j i0 ij j1
    have S4z:Srtd key zs e b:=fun i j i0 ij j1=>by rw [keep i (by omega) (by omega),keep j (by omega) (by omega)];exact S4 i j i0 ij j1
    have P2z:∀ i j:Int,mid≤i→i < e→e≤j→j < b→rd zs i < rd zs j:=fun i j i0 i1 j0 j1=>by rw [keep i i0 (by omega),keep j (by omega) (by omega)];exact P2 i j i0 i1 j0 j1
    have hu:Mv mid b zs us∧Srtd key us mid b:=by
     rw [← hus]
     by_cases c:mid < e∧e < b
     ·rw [if_pos c]
      exact sym_spec hL f zs mid e b zV (by omega) c.1 c.2 (by omega) (by omega) S3z S4z P2z
     ·rw [if_neg c]
      refine ⟨Mv.refl _ _ _,?_⟩
      by_cases d:mid < e
      ·rw [show b=e by omega];exact S3z
      ·rw [show mid=e by omega];exact S4z
    obtain ⟨mu,su⟩:=hu
    refine ⟨(my.trans (mz.wide (Int.le_refl _) (by omega))).trans (mu.wide (by omega) (Int.le_refl _)),?_⟩
    intro i j i0 ij j1
    by_cases c:j < mid
    ·rw [mu.out i (by omega) (by omega) (by omega),mu.out j (by omega) (by omega) (by omega)]
     exact sz i j i0 ij c
    ·by_cases d:mid≤i
     ·exact su i j d ij j1
     ·rw [mu.out i (by omega) (by omega) (by omega)]
      obtain ⟨i',p1,p2,p3,p4,e1⟩:=mz.inn i (by omega) (by omega) i0 (by omega)
      obtain ⟨j',r1,r2,r3,r4,e2⟩:=mu.inn j (by omega) (by omega) (by omega) j1
      rw [e1,e2,keep j' r1 r2]
      exact cross i' j' p1 p2 r1 r2
end
section
variable {lt:Int→Int→Bool} {key:Int→Int} {V:Int→Prop}
theorem ins_down_spec (hL:Lt lt key V) (a b:Int):∀ (f:Nat) (xs:List Int) (j:Int),Vals V xs→0≤a→a≤j→j < b→b≤xs.length→j - a≤f →
  (∀ p q:Int,a≤p→p < q→q < b→p≠j→q≠j→Rl key (rd xs p) (rd xs q))→(∀ q:Int,j < q→q < b→Rl key (rd xs j) (rd xs q))→(∀ p:Int,a≤p→p < j→rd xs p < rd xs j) →
  Mv a b xs (ins_down lt a f xs j)∧Srtd key (ins_down lt a f xs j) a b
 | 0,xs,j,hV,h0,h1,h2,h3,h4,hA,hB,hP=>by
  refine ⟨Mv.refl _ _ _,fun p q p0 pq q1=>?_⟩
  show Rl key (rd xs p) (rd xs q)
  by_cases c:p=j
  ·subst c;exact hB q pq q1
  ·exact hA p q p0 pq q1 c (by omega)
 | f + 1,xs,j,hV,h0,h1,h2,h3,h4,hA,hB,hP=>by
  unfold ins_down
  by_cases c:a < j
  ·rw [if_pos c]
   have vj:=hV j (by omega) (by omega)
   have vj1:=hV (j - 1) (by omega) (by omega)
   by_cases d:lt (rd xs j) (rd xs (j - 1))=true
   ·rw [if_pos d]
    have kk:=(hL _ _ vj vj1).mp d
    have m:=Mv.swap (xs:=xs) (a:=a) (b:=b) (i:=j) (j:=j - 1) (by omega) (by omega) (by omega) (by omega) (by omega) (by omega) (by omega) (by omega)
    have r:=fun (t:Int) (t0:0≤t)=>rd_swap2 (xs:=xs) (i:=j) (j:=j - 1) (t:=t) (by omega) (by omega) (by omega) (by omega) t0
    have g:=ins_down_spec hL a b f (swap2 xs j (j - 1)) (j - 1) (hV.mv m) h0 (by omega) (by omega) (by rw [m.len];exact h3) (by omega)
     (fun p q p0 pq q1 n1 n2=>by
      rw [r p (by omega),r q (by omega),if_neg n1,if_neg n2]
      by_cases e:p=j
      ·rw [if_pos e,if_neg (by omega)]
       exact hA (j - 1) q (by omega) (by omega) q1 (by omega) (by omega)
      ·rw [if_neg e]
       by_cases e2:q=j
       ·rw [if_pos e2]
        exact hA p (j - 1) p0 (by omega) (by omega) e (by omega)
       ·rw [if_neg e2]
        exact hA p q p0 pq q1 e e2)
     (fun q q0 q1=>by
      rw [r (j - 1) (by omega),r q (by omega),if_pos rfl,if_neg (by omega)]
      by_cases e:q=j
      ·rw [if_pos e];exact .inl kk
      ·rw [if_neg e];exact hB q (by omega) q1)
     (fun p p0 p1=>by
      rw [r (j - 1) (by omega),r p (by omega),if_pos rfl,if_neg (by omega),if_neg (by omega)]
      exact hP p p0 (by omega))
    exact ⟨m.trans g.1,g.2⟩
   ·rw [if_neg d]
    refine ⟨Mv.refl _ _ _,fun p q p0 pq q1=>?_⟩
    have kk:=hL.no vj vj1 (Bool.eq_false_iff.mpr d)
    by_cases c:p=j
    ·subst c;exact hB q pq q1
    ·by_cases c2:q=j
     ·subst c2
      rcases Int.lt_or_eq_of_le (show p≤q - 1 by omega) with e | e
      ·have:=(hA p (q - 1) p0 e (by omega) (by omega) (by omega)).le
       exact .of_le (by omega) (hP p p0 pq)
      ·subst e;exact .of_le kk (hP _ p0 pq)
     ·exact hA p q p0 pq q1 c c2
  ·rw [if_neg c]
   refine ⟨Mv.refl _ _ _,fun p q p0 pq q1=>?_⟩
   by_cases c:p=j
   ·subst c;exact hB q pq q1
   ·exact hA p q p0 pq q1 c (by omega)
theorem ins_down_at (hL:Lt lt key V) (a j:Int) (xs:List Int) (hV:Vals V xs) (h0:0≤a) (h1:a≤j) (h3:j < xs.length) (hS:Srtd key xs a j) (hP:∀ p:Int,a≤p→p < j→rd xs p < rd xs j) :
  Mv a (j + 1) xs (ins_down lt a (j - a).toNat xs j)∧Srtd key (ins_down lt a (j - a).toNat xs j) a (j + 1) :=
 ins_down_spec hL a (j + 1) (j - a).toNat xs j hV h0 h1 (by omega) (by omega) (by omega) (fun p q p0 pq q1 n1 n2=>hS p q p0 pq (by omega)) (fun q q0 q1=>by omega) hP
theorem ins_sort_spec (hL:Lt lt key V) (a:Int):∀ (f:Nat) (xs:List Int) (i:Int),Vals V xs→0≤a→a≤i→i + f≤xs.length→Srtd key xs a i→(∀ p q:Int,a≤p→p < q→i≤q→q < i + f→rd xs p < rd xs q) →
  Mv a (i + f) xs (ins_sort lt a f xs i)∧Srtd key (ins_sort lt a f xs i) a (i + f)
 | 0,xs,i,hV,h0,h1,h2,hS,hP=>⟨Mv.refl _ _ _,fun p q p0 pq q1=>hS p q p0 pq (by omega)⟩
 | f + 1,xs,i,hV,h0,h1,h2,hS,hP=>by
  unfold ins_sort
  obtain ⟨m,g⟩:=ins_down_at hL a i xs hV h0 h1 (by omega) hS (fun p p0 p1=>hP p i p0 p1 (Int.le_refl _) (by omega))
  obtain ⟨m2,g2⟩:=ins_sort_spec hL a f (ins_down lt a (i - a).toNat xs i) (i + 1) (hV.mv m) h0 (by omega) (by rw [m.len];omega) g (fun p q p0 pq q0 q1=>by
   rw [m.out q (by omega) (by omega) (by omega)]
   by_cases c:p < i + 1
   ·obtain ⟨s,s0,s1,s2,s3,e⟩:=m.inn p (by omega) (by omega) p0 c
    rw [e]
    exact hP s q s0 (by omega) (by omega) (by omega)
   ·rw [m.out p (by omega) (by omega) (by omega)]
    exact hP p q p0 pq (by omega) (by omega))
  have e:i + 1 + (f:Int)=i + ((f + 1:Nat):Int):=by omega
  rw [e] at m2 g2
  exact ⟨(m.wide (Int.le_refl _) (by omega)).trans m2,g2⟩
def Bnd (xs:List Int) (n c:Int):Prop:=∀ i j:Int,0≤i→i < c→c≤j→j < n→rd xs i < rd xs j
theorem Bnd.mv {xs ys:List Int} {n c a b:Int} (h:Bnd xs n c) (m:Mv a b xs ys) (hn:n≤xs.length) (h0:0≤a) (hb:b≤n) (hc:c≤a∨b≤c):Bnd ys n c:=by
 intro i j i0 i1 j0 j1
 have wi:∃ i':Int,0≤i'∧i' < c∧rd ys i=rd xs i':=by
  by_cases d:i < a∨b≤i
  ·exact ⟨i,i0,i1,m.out i i0 (by omega) d⟩
  ·obtain ⟨s,s0,s1,s2,s3,e⟩:=m.inn i i0 (by omega) (by omega) (by omega)
   exact ⟨s,s2,by omega,e⟩
 have wj:∃ j':Int,c≤j'∧j' < n∧rd ys j=rd xs j':=by
  by_cases d:j < a∨b≤j
  ·exact ⟨j,j0,j1,m.out j (by omega) (by omega) d⟩
  ·obtain ⟨s,s0,s1,s2,s3,e⟩:=m.inn j (by omega) (by omega) (by omega) (by omega)
   exact ⟨s,by omega,by omega,e⟩
 obtain ⟨i',a1,a2,e1⟩:=wi
 obtain ⟨j',b1,b2,e2⟩:=wj
 rw [e1,e2]
 exact h i' j' a1 a2 b1 b2
theorem Srtd.mv {xs ys:List Int} {n c d a b:Int} (h:Srtd key xs c d) (m:Mv a b xs ys) (hn:n≤xs.length) (h0:0≤c) (hd:d≤n) (hc:d≤a∨b≤c):Srtd key ys c d:=by
 intro i j i0 ij j1
 rw [m.out i (by omega) (by omega) (by omega),m.out j (by omega) (by omega) (by omega)]
 exact h i j i0 ij j1
def From (key:Int→Int) (xs:List Int) (n:Int) (s q:Nat):Prop:=∀ r:Nat,q≤r→(r * s:Nat) < n→Srtd key xs (r * s:Nat) (min ((r * s:Nat) + s) n)∧Bnd xs n (r * s:Nat)
def Upto (key:Int→Int) (xs:List Int) (n:Int) (s q:Nat):Prop:=∀ r:Nat,r < q→Srtd key xs (r * s:Nat) ((r * s:Nat) + s)∧Bnd xs n (r * s:Nat)
theorem iota_rd {n:Nat} {i:Int} (h0:0≤i) (h1:i < n):rd (iota n) i=i:=by
 unfold rd iota
 rw [List.getD_eq_getElem?_getD,List.getElem?_map,List.getElem?_range (by omega)]
 show (i.toNat:Int)=i
 omega
theorem blks_spec (hL:Lt lt key V) (n:Nat):∀ (f:Nat) (xs:List Int) (q:Nat),xs.length=n→Vals V xs→(q * 20:Nat)≤n→n - q * 20≤f→Upto key xs n 20 q→(∀ i j:Int,0≤i→i < j→(q * 20:Nat)≤j→j < n→rd xs i < rd xs j) →
  ∃ p:Nat,(blks lt n f xs (q * 20:Nat)).2=(p * 20:Nat)∧(p * 20:Nat)≤n∧n < p * 20 + 20∧Mv 0 n xs (blks lt n f xs (q * 20:Nat)).1∧Upto key (blks lt n f xs (q * 20:Nat)).1 n 20 p∧(∀ i j:Int,0≤i→i < j→(p * 20:Nat)≤j→j < n→rd (blks lt n f xs (q * 20:Nat)).1 i < rd (blks lt n f xs (q * 20:Nat)).1 j)
 | 0,xs,q,hl,hV,h0,h1,hU,hP=>⟨q,rfl,h0,by omega,Mv.refl _ _ _,hU,hP⟩
 | f + 1,xs,q,hl,hV,h0,h1,hU,hP=>by
  unfold blks
  by_cases c:((q * 20:Nat):Int) + 20≤n
  ·rw [if_pos c]
   have e1:((q * 20:Nat):Int) + 1 + (19:Nat)=((q * 20:Nat):Int) + 20:=by omega
   obtain ⟨m,g⟩:=ins_sort_spec hL (q * 20:Nat) 19 xs ((q * 20:Nat) + 1) hV (by omega) (by omega) (by omega) (fun p r p0 pr r1=>by omega) (fun p r p0 pr r0 r1=>hP p r (by omega) pr (by omega) (by omega))
   rw [e1] at m g
   have e2:((q * 20:Nat):Int) + 20=((q + 1) * 20:Nat):=by omega
   have hP2:∀ i j:Int,0≤i→i < j→((q + 1) * 20:Nat)≤j→j < n→rd (ins_sort lt (q * 20:Nat) 19 xs ((q * 20:Nat) + 1)) i < rd (ins_sort lt (q * 20:Nat) 19 xs ((q * 20:Nat) + 1)) j:=fun i j i0 ij j0 j1=>by
    rw [m.out j (by omega) (by omega) (by omega)]
    by_cases d:i < ((q * 20:Nat):Int)∨((q * 20:Nat):Int) + 20≤i
    ·rw [m.out i i0 (by omega) d]
     exact hP i j i0 ij (by omega) j1
    ·obtain ⟨s,s0,s1,s2,s3,e⟩:=m.inn i i0 (by omega) (by omega) (by omega)
     rw [e]
     exact hP s j s2 (by omega) (by omega) j1
   obtain ⟨p,g1,g2,g3,g4,g5,g6⟩:=blks_spec hL n f _ (q + 1) (m.len.trans hl) (hV.mv m) (by omega) (by omega) (fun r hr=>by
    by_cases d:r < q
    ·obtain ⟨u1,u2⟩:=hU r d
     exact ⟨u1.mv (n:=n) m (by omega) (by omega) (by omega) (by omega),u2.mv m (by omega) (by omega) (by omega) (by omega)⟩
    ·obtain rfl:r=q:=by omega
     exact ⟨g,Bnd.mv (fun i j i0 i1 j0 j1=>hP i j i0 (by omega) (by omega) j1) m (by omega) (by omega) (by omega) (by omega)⟩) hP2
   rw [← e2] at g1 g4 g5 g6
   exact ⟨p,g1,g2,g3,(m.wide (by omega) (by omega)).trans g4,g5,g6⟩
  ·rw [if_neg c]
   exact ⟨q,rfl,h0,by omega,Mv.refl _ _ _,hU,hP⟩
end
section
variable {lt:Int→Int→Bool} {key:Int→Int} {V:Int→Prop}
theorem pass_spec (hL:Lt lt key V) (n s:Nat) (hs:1≤s):∀ (f:Nat) (xs:List Int) (q:Nat),xs.length=n→Vals V xs→q * (2 * s)≤n→n - q * (2 * s)≤f→Upto key xs n (2 * s) q→From key xs n s (2 * q) →
  ∃ p:Nat,(pass lt n s f xs (q * (2 * s):Nat)).2=(p * (2 * s):Nat)∧p * (2 * s)≤n∧n < p * (2 * s) + 2 * s∧Mv 0 n xs (pass lt n s f xs (q * (2 * s):Nat)).1∧Upto key (pass lt n s f xs (q * (2 * s):Nat)).1 n (2 * s) p∧From key (pass lt n s f xs (q * (2 * s):Nat)).1 n s (2 * p)
 | 0,xs,q,hl,hV,h0,h1,hU,hF=>⟨q,rfl,h0,by omega,Mv.refl _ _ _,hU,hF⟩
 | f + 1,xs,q,hl,hV,h0,h1,hU,hF=>by
  unfold pass
  have e2:((q + 1) * (2 * s):Nat)=q * (2 * s) + 2 * s:=by rw [Nat.add_mul,Nat.one_mul]
  have e3:(2 * q) * s=q * (2 * s):=by rw [Nat.mul_comm 2 q,Nat.mul_assoc]
  have e4:(2 * q + 1) * s=q * (2 * s) + s:=by rw [Nat.add_mul,Nat.one_mul,e3]
  by_cases c:((q * (2 * s):Nat):Int) + 2 * (s:Int)≤n
  ·rw [if_pos c]
   obtain ⟨A1,A2⟩:=hF (2 * q) (Nat.le_refl _) (by rw [e3];omega)
   obtain ⟨B1,B2⟩:=hF (2 * q + 1) (by omega) (by rw [e4];omega)
   rw [e3] at A1 A2
   rw [e4] at B1 B2
   rw [show min (((q * (2 * s):Nat):Int) + s) n=((q * (2 * s):Nat):Int) + s by omega] at A1
   rw [show min (((q * (2 * s) + s:Nat):Int) + s) n=((q * (2 * s):Nat):Int) + 2 * (s:Int) by omega,show ((q * (2 * s) + s:Nat):Int)=((q * (2 * s):Nat):Int) + s by omega] at B1
   rw [show ((q * (2 * s) + s:Nat):Int)=((q * (2 * s):Nat):Int) + s by omega] at B2
   obtain ⟨m,g⟩:=sym_spec hL n xs ((q * (2 * s):Nat):Int) (((q * (2 * s):Nat):Int) + s) (((q * (2 * s):Nat):Int) + 2 * (s:Int)) hV (by omega) (by omega) (by omega) (by omega) (by omega) A1 B1 (fun i j i0 i1 j0 j1=>B2 i j (by omega) i1 j0 (by omega))
   rw [show ((n:Int)).toNat=n by omega]
   obtain ⟨p,g1,g2,g3,g4,g5,g6⟩:=pass_spec hL n s hs f _ (q + 1) (m.len.trans hl) (hV.mv m) (by omega) (by omega) (fun r hr=>by
    by_cases d:r < q
    ·obtain ⟨u1,u2⟩:=hU r d
     have:r * (2 * s) + 2 * s≤q * (2 * s):=by
      have:=Nat.mul_le_mul_right (2 * s) (show r + 1≤q from d)
      rw [Nat.add_mul,Nat.one_mul] at this
      exact this
     exact ⟨u1.mv (n:=n) m (by omega) (by omega) (by omega) (by omega),u2.mv m (by omega) (by omega) (by omega) (by omega)⟩
    ·obtain rfl:r=q:=by omega
     exact ⟨g,A2.mv m (by omega) (by omega) (by omega) (by omega)⟩) (fun r hr hn=>by
    obtain ⟨u1,u2⟩:=hF r (by omega) hn
    have:q * (2 * s) + 2 * s≤r * s:=by
     have:=Nat.mul_le_mul_right s (show 2 * (q + 1)≤r from hr)
     rw [show 2 * (q + 1) * s=(q + 1) * (2 * s) by rw [Nat.mul_comm 2,Nat.mul_assoc],e2] at this
     exact this
    exact ⟨u1.mv (n:=n) m (by omega) (by omega) (by omega) (by omega),u2.mv m (by omega) (by omega) (by omega) (by omega)⟩)
   rw [e2,show ((q * (2 * s) + 2 * s:Nat):Int)=((q * (2 * s):Nat):Int) + 2 * (s:Int) by omega] at g1 g4 g5 g6
   exact ⟨p,g1,g2,g3,(m.wide (by omega) (by omega)).trans g4,g5,g6⟩
  ·rw [if_neg c]
   exact ⟨q,rfl,h0,by omega,Mv.refl _ _ _,hU,hF⟩
theorem pass1_spec (hL:Lt lt key V) (n s:Nat) (hs:1≤s) (xs:List Int) (hl:xs.length=n) (hV:Vals V xs) (hF:From key xs n s 0):Mv 0 n xs (pass1 lt n s xs)∧From key (pass1 lt n s xs) n (2 * s) 0:=by
 obtain ⟨p,g1,g2,g3,g4,g5,g6⟩:=pass_spec hL n s hs n xs 0 hl hV (by omega) (by omega) (fun r hr=>absurd hr (by omega)) hF
 rw [show ((0 * (2 * s):Nat):Int)=0 by omega] at g1 g4 g5 g6
 unfold pass1
 rw [show ((n:Int)).toNat=n by omega]
 obtain ⟨⟨ys,pa⟩,hr⟩:∃ r,pass lt n s n xs 0=r:=⟨_,rfl⟩
 rw [hr] at g1 g4 g5 g6 ⊢
 dsimp only at g1 g4 g5 g6 ⊢
 subst g1
 have e3:(2 * p) * s=p * (2 * s):=by rw [Nat.mul_comm 2 p,Nat.mul_assoc]
 have e4:(2 * p + 1) * s=p * (2 * s) + s:=by rw [Nat.add_mul,Nat.one_mul,e3]
 have yV:=hV.mv g4
 have yl:=g4.len.trans hl
 have fin:∀ zs,Mv ((p * (2 * s):Nat):Int) n ys zs→((p * (2 * s):Nat) < n→Srtd key zs ((p * (2 * s):Nat):Int) n∧Bnd zs n ((p * (2 * s):Nat):Int))→From key zs n (2 * s) 0:=by
  intro zs m hz r _ hn
  by_cases d:r < p
  ·obtain ⟨u1,u2⟩:=g5 r d
   have:r * (2 * s) + 2 * s≤p * (2 * s):=by
    have:=Nat.mul_le_mul_right (2 * s) (show r + 1≤p from d)
    rw [Nat.add_mul,Nat.one_mul] at this
    exact this
   rw [show min (((r * (2 * s):Nat):Int) + ((2 * s:Nat):Int)) n=((r * (2 * s):Nat):Int) + ((2 * s:Nat):Int) by omega]
   exact ⟨u1.mv (n:=n) m (by omega) (by omega) (by omega) (by omega),u2.mv m (by omega) (by omega) (by omega) (by omega)⟩
  ·by_cases d2:r=p
   ·subst d2
    rw [show min (((r * (2 * s):Nat):Int) + ((2 * s:Nat):Int)) n=n by omega]
    exact hz (by omega)
   ·exfalso
    have:=Nat.mul_le_mul_right (2 * s) (show p + 1≤r by omega)
    rw [Nat.add_mul,Nat.one_mul] at this
    omega
 by_cases c:((p * (2 * s):Nat):Int) + s < n
 ·rw [if_pos c]
  obtain ⟨A1,A2⟩:=g6 (2 * p) (Nat.le_refl _) (by rw [e3];omega)
  obtain ⟨B1,B2⟩:=g6 (2 * p + 1) (by omega) (by rw [e4];omega)
  rw [e3] at A1 A2
  rw [e4] at B1 B2
  rw [show min (((p * (2 * s):Nat):Int) + s) n=((p * (2 * s):Nat):Int) + s by omega] at A1
  rw [show min (((p * (2 * s) + s:Nat):Int) + s) n=n by omega,show ((p * (2 * s) + s:Nat):Int)=((p * (2 * s):Nat):Int) + s by omega] at B1
  rw [show ((p * (2 * s) + s:Nat):Int)=((p * (2 * s):Nat):Int) + s by omega] at B2
  obtain ⟨m,g⟩:=sym_spec hL n ys ((p * (2 * s):Nat):Int) (((p * (2 * s):Nat):Int) + s) n yV (by omega) (by omega) (by omega) (by omega) (by omega) A1 B1 (fun i j i0 i1 j0 j1=>B2 i j (by omega) i1 j0 (by omega))
  exact ⟨g4.trans (m.wide (by omega) (by omega)),fin _ m (fun _=>⟨g,A2.mv m (by omega) (by omega) (by omega) (by omega)⟩)⟩
 ·rw [if_neg c]
  refine ⟨g4,fin _ (Mv.refl _ _ _) (fun h=>?_)⟩
  obtain ⟨A1,A2⟩:=g6 (2 * p) (Nat.le_refl _) (by rw [e3];omega)
  rw [e3] at A1 A2
  rw [show min (((p * (2 * s):Nat):Int) + s) n=n by omega] at A1
  exact ⟨A1,A2⟩
theorem passes_spec (hL:Lt lt key V) (n:Nat):∀ (f:Nat) (s:Nat) (xs:List Int),1≤s→xs.length=n→Vals V xs→n - s≤f→From key xs n s 0→Mv 0 n xs (passes lt n f xs s)∧Srtd key (passes lt n f xs s) 0 n
 | f,s,xs,hs,hl,hV,hf,hF=>by
  by_cases c:(s:Int) < n
  ·obtain ⟨f,rfl⟩:∃ g,f=g + 1:=⟨f - 1,by omega⟩
   unfold passes
   rw [if_pos c]
   obtain ⟨m,g⟩:=pass1_spec hL n s hs xs hl hV hF
   obtain ⟨m2,g2⟩:=passes_spec hL n f (2 * s) _ (by omega) (m.len.trans hl) (hV.mv m) (by omega) g
   rw [show ((2 * s:Nat):Int)=2 * (s:Int) by omega] at m2 g2
   exact ⟨m.trans m2,g2⟩
  ·have e:passes lt n f xs s=xs:=by
    cases f with
    | zero=>rfl
    | succ f=>unfold passes;rw [if_neg c]
   rw [e]
   refine ⟨Mv.refl _ _ _,fun i j i0 ij j1=>?_⟩
   have h:=(hF 0 (Nat.le_refl _) (by omega)).1
   rw [show ((0 * s:Nat):Int)=0 by omega,show min ((0:Int) + s) n=n by omega] at h
   exact h i j i0 ij j1
theorem stab_spec (hL:Lt lt key V) (n:Nat) (xs:List Int) (hl:xs.length=n) (hV:Vals V xs) (hP:∀ i j:Int,0≤i→i < j→j < n→rd xs i < rd xs j):Mv 0 n xs (stab lt xs)∧Srtd key (stab lt xs) 0 n:=by
 unfold stab
 obtain ⟨p,g1,g2,g3,g4,g5,g6⟩:=blks_spec hL n n xs 0 hl hV (by omega) (by omega) (fun r hr=>absurd hr (by omega)) (fun i j i0 ij j0 j1=>hP i j i0 ij j1)
 rw [show ((0 * 20:Nat):Int)=0 by omega] at g1 g4 g5 g6
 rw [hl]
 obtain ⟨⟨ys,pa⟩,hr⟩:∃ r,blks lt n n xs 0=r:=⟨_,rfl⟩
 rw [hr] at g1 g4 g5 g6 ⊢
 dsimp only at g1 g4 g5 g6 ⊢
 subst g1
 have yl:=g4.len.trans hl
 have yV:=hV.mv g4
 have hi:Mv ((p * 20:Nat):Int) n ys (ins_sort lt ((p * 20:Nat):Int) ((n:Int) - (((p * 20:Nat):Int) + 1)).toNat ys (((p * 20:Nat):Int) + 1))∧((p * 20:Nat) < n→Srtd key (ins_sort lt ((p * 20:Nat):Int) ((n:Int) - (((p * 20:Nat):Int) + 1)).toNat ys (((p * 20:Nat):Int) + 1)) ((p * 20:Nat):Int) n):=by
  by_cases c:(p * 20:Nat) < n
  ·obtain ⟨m,g⟩:=ins_sort_spec hL ((p * 20:Nat):Int) ((n:Int) - (((p * 20:Nat):Int) + 1)).toNat ys (((p * 20:Nat):Int) + 1) yV (by omega) (by omega) (by omega) (fun i j i0 ij j1=>by omega) (fun i j i0 ij j0 j1=>g6 i j (by omega) ij (by omega) (by omega))
   have e:(((p * 20:Nat):Int) + 1) + ((((n:Int) - (((p * 20:Nat):Int) + 1)).toNat:Nat):Int)=n:=by omega
   rw [e] at m g
   exact ⟨m,fun _=>g⟩
  ·rw [show ((n:Int) - (((p * 20:Nat):Int) + 1)).toNat=0 by omega]
   exact ⟨Mv.refl _ _ _,fun h=>absurd h c⟩
 obtain ⟨m,g⟩:=hi
 have hF:From key (ins_sort lt ((p * 20:Nat):Int) ((n:Int) - (((p * 20:Nat):Int) + 1)).toNat ys (((p * 20:Nat):Int) + 1)) n 20 0:=by
  intro r _ hn
  by_cases d:r < p
  ·obtain ⟨u1,u2⟩:=g5 r d
   rw [show min (((r * 20:Nat):Int) + ((20:Nat):Int)) n=((r * 20:Nat):Int) + ((20:Nat):Int) by omega]
   exact ⟨u1.mv (n:=n) m (by omega) (by omega) (by omega) (by omega),u2.mv m (by omega) (by omega) (by omega) (by omega)⟩
  ·obtain rfl:r=p:=by omega
   rw [show min (((r * 20:Nat):Int) + ((20:Nat):Int)) n=n by omega]
   refine ⟨g (by omega),Bnd.mv (fun i j i0 i1 j0 j1=>g6 i j i0 (by omega) j0 j1) m (by omega) (by omega) (by omega) (by omega)⟩
 obtain ⟨m2,g2⟩:=passes_spec hL n n 20 _ (by omega) (m.len.trans yl) (yV.mv m) (by omega) hF
 exact ⟨(g4.trans (m.wide (by omega) (Int.le_refl _))).trans m2,g2⟩
end
theorem sorted_unique {R:Int→Int→Prop} (hR:∀ x y,R x y→¬ R y x):∀ (xs ys:List Int),xs.Pairwise R→ys.Pairwise R→(∀ z,z ∈ xs ↔ z ∈ ys)→xs=ys
 | [],[],_,_,_=>rfl
 | [],y :: ys,_,_,h=>absurd ((h y).mpr List.mem_cons_self) (by simp)
 | x :: xs,[],_,_,h=>absurd ((h x).mp List.mem_cons_self) (by simp)
 | x :: xs,y :: ys,hx,hy,h=>by
  obtain ⟨hx1,hx2⟩:=List.pairwise_cons.mp hx
  obtain ⟨hy1,hy2⟩:=List.pairwise_cons.mp hy
  have e:x=y:=by
   rcases List.mem_cons.mp ((h x).mp List.mem_cons_self) with e | m1
   ·exact e
   ·rcases List.mem_cons.mp ((h y).mpr List.mem_cons_self) with e | m2
    ·exact e.symm
    ·exact absurd (hx1 _ m2) (hR _ _ (hy1 _ m1))
  subst e
  congr 1
  refine sorted_unique hR xs ys hx2 hy2 (fun z=>⟨fun hz=>?_,fun hz=>?_⟩)
  ·rcases List.mem_cons.mp ((h z).mp (List.mem_cons_of_mem _ hz)) with e | m
   ·subst e;exact absurd (hx1 _ hz) (hR _ _ (hx1 _ hz))
   ·exact m
  ·rcases List.mem_cons.mp ((h z).mpr (List.mem_cons_of_mem _ hz)) with e | m
   ·subst e;exact absurd (hy1 _ hz) (hR _ _ (hy1 _ hz))
   ·exact m
theorem Rl.asymm {key:Int→Int} (x y:Int) (h:Rl key x y):¬ Rl key y x:=by unfold Rl at *;omega
theorem rd_nat {xs:List Int} {i:Nat} (h:i < xs.length):rd xs (i:Int)=xs[i]:=by
 unfold rd;rw [Int.toNat_natCast,List.getD_eq_getElem?_getD,List.getElem?_eq_getElem h];rfl
theorem Srtd.pairwise {key:Int→Int} {xs:List Int} (h:Srtd key xs 0 xs.length):xs.Pairwise (Rl key):=by
 rw [List.pairwise_iff_getElem]
 intro i j hi hj ij
 have:=h (i:Int) (j:Int) (by omega) (by omega) (by omega)
 rw [rd_nat hi,rd_nat hj] at this
 exact this
theorem Mv.mem_iota {n:Nat} {ys:List Int} (h:Mv 0 n (iota n) ys) (z:Int):z ∈ ys ↔ 0≤z∧z < n:=by
 have hl:=h.len
 rw [iota_length] at hl
 constructor
 ·intro hz
  obtain ⟨i,hi,e⟩:=List.mem_iff_getElem.mp hz
  obtain ⟨s,s0,s1,s2,s3,e2⟩:=h.inn (i:Int) (by omega) (by rw [iota_length];omega) (by omega) (by omega)
  rw [rd_nat hi,e,iota_rd s2 s1] at e2
  omega
 ·intro hz
  obtain ⟨s,s0,s1,e⟩:=h.sur z hz.1 (by rw [iota_length];omega)
  rw [iota_rd hz.1 hz.2] at e
  rw [iota_length] at s1
  obtain ⟨i,rfl⟩:∃ i:Nat,(i:Int)=s:=⟨s.toNat,by omega⟩
  rw [rd_nat (by omega)] at e
  exact e ▸ List.getElem_mem _
theorem reverse_go (xs:List Int) (hl:xs.length≤4611686018427387904):∀ (k i:Nat) (ys:List Int),ys.length=xs.length→2 * i≤xs.length + 1→xs.length - i < k→(∀ t:Nat,t < xs.length→rd ys t=if t < i∨xs.length≤t + i then rd xs ((xs.length - 1 - t:Nat):Int) else rd xs t)→slices_Reverse_int_int.l0 k ys (i:Int) ((xs.length:Int) - 1 - i)=some xs.reverse
  | 0,i,ys,_,_,h,_=>absurd h (by omega)
  | k + 1,i,ys,hy,hi,h,hm=>by
    rw [slices_Reverse_int_int.l0]
    by_cases c:(i:Int) < (xs.length:Int) - 1 - i
    · have hj:(xs.length:Int) - 1 - i=((xs.length - 1 - i:Nat):Int):=by omega
      rw [if_pos c,if_pos (by omega),if_pos (by omega),if_pos (by omega),if_pos (by omega),w1n (by omega:i < xs.length) (by omega)]
      rw [show wrap64 ((xs.length:Int) - 1 - i - 1)=(xs.length:Int) - 1 - ((i + 1:Nat):Int) from by unfold wrap64;omega]
      rw [hj,Int.toNat_natCast,Int.toNat_natCast]
      refine reverse_go xs hl k (i + 1) _ (by rw [List.length_set,List.length_set];exact hy) (by omega) (by omega) (fun t ht=>?_)
      rw [rd_set (by omega) (by rw [List.length_set];omega),rd_set (by omega) (by omega)]
      have h1:=hm t ht
      have h2:=hm i (by omega)
      have h3:=hm (xs.length - 1 - i) (by omega)
      rw [if_neg (by omega)] at h2
      rw [if_neg (by omega)] at h3
      by_cases e1:t=xs.length - 1 - i
      · rw [if_pos (by omega),if_pos (by omega),h2]
        congr 1
        omega
      · rw [if_neg (by omega)]
        by_cases e2:t=i
        · rw [if_pos (by omega),if_pos (by omega),h3]
          congr 1
          omega
        · rw [if_neg (by omega),h1]
          by_cases e3:t < i∨xs.length≤t + i
          · rw [if_pos e3,if_pos (by omega)]
          · rw [if_neg e3,if_neg (by omega)]
    · rw [if_neg c]
      congr 1
      refine ext_rd (by rw [List.length_reverse];exact hy) (fun t ht=>?_)
      have hr:rd xs.reverse (t:Int)=rd xs ((xs.length - 1 - t:Nat):Int):=by
        unfold rd
        rw [Int.toNat_natCast,Int.toNat_natCast,List.getD_eq_getElem?_getD,List.getD_eq_getElem?_getD,List.getElem?_reverse (by omega)]
      rw [hr,hm t (by omega)]
      by_cases e3:t < i∨xs.length≤t + i
      · rw [if_pos e3]
      · rw [if_neg e3]
        congr 1
        omega
theorem reverse_spec (xs:List Int) (hl:xs.length≤4611686018427387904) (k:Nat) (hk:xs.length < k):slices_Reverse_int_int.f k xs=some xs.reverse:=by
  unfold slices_Reverse_int_int.f
  have h1:wrap64 ((xs.length:Int) - 1)=(xs.length:Int) - 1 - ((0:Nat):Int):=by unfold wrap64;omega
  rw [h1]
  exact reverse_go xs hl k 0 xs rfl (by omega) (by omega) (fun t ht=>by rw [if_neg (by omega)])
theorem pigeon:∀ (n:Nat) (xs:List Int),xs.Nodup→(∀ x ∈ xs,0≤x∧x < n)→xs.length≤n
  | 0,xs,_,h=>by
    cases xs with
    | nil=>exact Nat.le_refl _
    | cons x xs=>have:=h x (List.mem_cons_self ..);omega
  | n + 1,xs,hd,h=>by
    have h1:=pigeon n (xs.erase (n:Int)) (hd.erase _) (fun x hx=>by
      have h2:=(hd.mem_erase_iff).1 hx
      have h3:=h x h2.2
      have:=h2.1
      omega)
    have h2:=List.length_erase (a:=(n:Int)) (l:=xs)
    split at h2<;>omega
theorem Uq.nodup {xs:List Int} {n:Int} (h:Uq xs n 0):xs.Nodup:=by
  rw [List.nodup_iff_pairwise_ne,List.pairwise_iff_getElem]
  intro i j hi hj hij e
  refine h j (Nat.zero_le _) hj (.inr (.inr ⟨i,hij,?_⟩))
  unfold rd
  rw [Int.toNat_natCast,Int.toNat_natCast,List.getD_eq_getElem?_getD,List.getD_eq_getElem?_getD,List.getElem?_eq_getElem hi,List.getElem?_eq_getElem hj,e]
theorem Uq.len {xs:List Int} {n:Int} (h:Uq xs n 0) (hn:n≤64):xs.length≤64:=pigeon 64 xs h.nodup (fun x hx=>by have:=h.range x hx;omega)
theorem may_len {o:S57} {n m:Int} (h:MayOp o n m) (hn:n≤64):o.f2.length≤64:=by
  rcases h with ⟨_,⟨_,_,hu⟩,_⟩ | ⟨_,_,_,_,_,hu,_⟩
  · exact hu.len hn
  · exact hu.len hn
theorem rdB_set {xs:List Bool} {i:Nat} {w:Int} {v:Bool} (h0:0≤w) (hi:i < xs.length):rdOf false (xs.set i v) w=if w=i then v else rdOf false xs w:=by
  unfold rdOf
  rw [List.getD_eq_getElem?_getD,List.getD_eq_getElem?_getD,List.getElem?_set]
  by_cases c:w=i
  · rw [if_pos c,if_pos (by omega),if_pos hi];rfl
  · rw [if_neg c,if_neg (by omega)]
def Marks (m:List Bool) (S:Int→Prop):Prop:=m.length=128∧∀ w,0≤w→w < 128→(rdOf false m w=true ↔ S w)
theorem Marks.set {m:List Bool} {S:Int→Prop} {x:Int} (h:Marks m S) (h0:0≤x) (h1:x < 128):Marks (m.set x.toNat true) (fun w=>S w∨w=x):=by
  refine ⟨by rw [List.length_set];exact h.1,fun w w0 w1=>?_⟩
  rw [rdB_set w0 (by rw [h.1];omega)]
  by_cases c:w=x
  · rw [if_pos (by omega)]
    exact iff_of_true rfl (.inr c)
  · rw [if_neg (by omega),h.2 w w0 w1]
    exact ⟨.inl,fun g=>g.resolve_right c⟩
theorem Marks.congr {m:List Bool} {S T:Int→Prop} (h:Marks m S) (he:∀ w,0≤w→w < 128→(S w ↔ T w)):Marks m T:=⟨h.1,fun w w0 w1=>(h.2 w w0 w1).trans (he w w0 w1)⟩
theorem mark_all_spec:∀ (ws:List Int) (m:List Bool) (S:Int→Prop),Marks m S→(∀ w ∈ ws,0≤w∧w < 128)→∃ m',mark_all m ws=some m'∧Marks m' (fun w=>S w∨w ∈ ws)
  | [],m,S,h,_=>⟨m,rfl,h.congr (fun w _ _=>⟨.inl,fun g=>g.resolve_right List.not_mem_nil⟩)⟩
  | x :: ws,m,S,h,hr=>by
    have hx:=hr x (List.mem_cons_self ..)
    rw [mark_all,if_pos hx]
    obtain ⟨m',h1,h2⟩:=mark_all_spec ws _ _ (h.set hx.1 hx.2) (fun w hw=>hr w (List.mem_cons_of_mem _ hw))
    exact ⟨m',h1,h2.congr (fun w _ _=>by rw [List.mem_cons,or_assoc])⟩
theorem wire_at_spec (m:List Bool) (S:Int→Prop) (h:Marks m S):∀ (ws:List Int) (i:Int),0≤i→(∀ w ∈ ws,0≤w∧w < 128)→∃ j,wire_at m i ws=some j∧(0≤j ↔ ∃ w ∈ ws,S w)
  | [],i,_,_=>⟨-1,rfl,iff_of_false (by decide) (fun ⟨w,hw,_⟩=>by cases hw)⟩
  | x :: ws,i,hi,hr=>by
    have hx:=hr x (List.mem_cons_self ..)
    rw [wire_at,if_pos hx]
    by_cases c:rdOf false m x=true
    · rw [if_pos c]
      exact ⟨i,rfl,iff_of_true hi ⟨x,List.mem_cons_self ..,(h.2 x hx.1 hx.2).1 c⟩⟩
    · rw [if_neg c]
      obtain ⟨j,h1,h2⟩:=wire_at_spec m S h ws (i + 1) (by omega) (fun w hw=>hr w (List.mem_cons_of_mem _ hw))
      refine ⟨j,h1,h2.trans ⟨fun ⟨w,hw,hs⟩=>⟨w,List.mem_cons_of_mem _ hw,hs⟩,fun ⟨w,hw,hs⟩=>?_⟩⟩
      rcases List.mem_cons.1 hw with rfl | hw
      · exact absurd ((h.2 w hx.1 hx.2).2 hs) c
      · exact ⟨w,hw,hs⟩
theorem cone_init_go (n:Int) (hn:n≤64) (qs:List Int):∀ (d i:Nat) (m:List Bool),i + d=qs.length→Marks m (fun w=>∃ t:Nat,t < i∧rd qs t=w)→(Uq qs n i→∃ m',cone_init n m (qs.drop i)=some (some m')∧Marks m' (fun w=>w ∈ qs))∧(¬ Uq qs n i→cone_init n m (qs.drop i)=some none)
  | 0,i,m,hi,h=>by
    rw [List.drop_of_length_le (by omega),cone_init]
    refine ⟨fun _=>⟨m,rfl,h.congr (fun w _ _=>⟨fun ⟨t,h1,h2⟩=>h2 ▸ rd_mem (by omega),fun hw=>?_⟩)⟩,fun hu=>absurd (Uq.last (by omega)) hu⟩
    obtain ⟨t,h1,h2⟩:=rd_mem_exists hw
    exact ⟨t,by omega,h2⟩
  | d + 1,i,m,hi,h=>by
    have c:i < qs.length:=by omega
    have e:qs[i]=rd qs i:=by unfold rd;rw [Int.toNat_natCast,List.getD_eq_getElem?_getD,List.getElem?_eq_getElem c];rfl
    rw [List.drop_eq_getElem_cons c,e,cone_init,Uq.step c]
    by_cases c1:rd qs i < 0∨n≤rd qs i
    · rw [if_pos c1]
      have hb:Bad qs n i:=by
        rcases c1 with g | g
        · exact .inl g
        · exact .inr (.inl g)
      exact ⟨fun hu=>absurd hb hu.1,fun _=>rfl⟩
    · rw [if_neg c1,if_pos (by omega)]
      have h0:0≤rd qs i:=by omega
      have h1:rd qs i < 128:=by omega
      by_cases c2:rdOf false m (rd qs i)=true
      · rw [if_pos c2]
        exact ⟨fun hu=>absurd (.inr (.inr ((h.2 _ h0 h1).1 c2))) hu.1,fun _=>rfl⟩
      · rw [if_neg c2]
        have hnb:¬ Bad qs n i:=by
          rintro (g | g | g)
          · exact c1 (.inl g)
          · exact c1 (.inr g)
          · exact c2 ((h.2 _ h0 h1).2 g)
        obtain ⟨k1,k2⟩:=cone_init_go n hn qs d (i + 1) (m.set (rd qs i).toNat true) (by omega) ((h.set h0 h1).congr (fun w _ _=>⟨fun g=>by
          rcases g with ⟨t,g1,g2⟩ | g
          · exact ⟨t,by omega,g2⟩
          · exact ⟨i,by omega,g.symm⟩,fun ⟨t,g1,g2⟩=>by
          by_cases e2:t=i
          · subst e2;exact .inr g2.symm
          · exact .inl ⟨t,by omega,g2⟩⟩))
        exact ⟨fun hu=>k1 hu.2,fun hu=>k2 (fun g=>hu ⟨hnb,g⟩)⟩
def ci (l:List S57) (back:Bool) (x:Nat):Nat:=if back=true then l.length - 1 - x else x
theorem ci_lt {l:List S57} {back:Bool} {x:Nat} (h:x < l.length):ci l back x < l.length:=by unfold ci;split<;>omega
theorem ci_eq {l:List S57} {back:Bool} {x:Nat} (h:x < l.length):cone_i l back (x:Int)=(ci l back x:Int):=by unfold cone_i ci;split<;>omega
inductive Sel (l:List S57) (qs:List Int) (back:Bool):Nat→Prop where
  | first (x:Nat) (w:Int) (h4:(rd_T57 l (ci l back x)).f0≠4) (hw:w ∈ wl (rd_T57 l (ci l back x))) (hq:w ∈ qs):Sel l qs back x
  | next (x y:Nat) (w:Int) (h4:(rd_T57 l (ci l back x)).f0≠4) (hw:w ∈ wl (rd_T57 l (ci l back x))) (hy:y < x) (hs:Sel l qs back y) (hv:w ∈ wl (rd_T57 l (ci l back y))):Sel l qs back x
def MSet (l:List S57) (qs:List Int) (back:Bool) (x:Nat) (w:Int):Prop:=w ∈ qs∨∃ y,y < x∧Sel l qs back y∧w ∈ wl (rd_T57 l (ci l back y))
theorem Sel.iff {l:List S57} {qs:List Int} {back:Bool} {x:Nat}:Sel l qs back x ↔ (rd_T57 l (ci l back x)).f0≠4∧∃ w ∈ wl (rd_T57 l (ci l back x)),MSet l qs back x w:=by
  constructor
  · intro h
    rcases h with ⟨_,w,h4,hw,hq⟩ | ⟨_,y,w,h4,hw,hy,hs,hv⟩
    · exact ⟨h4,w,hw,.inl hq⟩
    · exact ⟨h4,w,hw,.inr ⟨y,hy,hs,hv⟩⟩
  · rintro ⟨h4,w,hw,hq | ⟨y,hy,hs,hv⟩⟩
    · exact .first x w h4 hw hq
    · exact .next x y w h4 hw hy hs hv
theorem MSet.succ {l:List S57} {qs:List Int} {back:Bool} {x:Nat} {w:Int}:MSet l qs back (x + 1) w ↔ MSet l qs back x w∨(Sel l qs back x∧w ∈ wl (rd_T57 l (ci l back x))):=by
  constructor
  · rintro (h | ⟨y,hy,hs,hv⟩)
    · exact .inl (.inl h)
    · by_cases e:y=x
      · subst e;exact .inr ⟨hs,hv⟩
      · exact .inl (.inr ⟨y,by omega,hs,hv⟩)
  · rintro ((h | ⟨y,hy,hs,hv⟩) | ⟨hs,hv⟩)
    · exact .inl h
    · exact .inr ⟨y,by omega,hs,hv⟩
    · exact .inr ⟨x,by omega,hs,hv⟩
open Classical in
noncomputable def taken (l:List S57) (qs:List Int) (back:Bool) (x:Nat):List Nat:=(List.range x).filter (fun y=>decide (Sel l qs back y))
theorem taken_len {l:List S57} {qs:List Int} {back:Bool} {x:Nat}:(taken l qs back x).length≤x:=by
  unfold taken
  have:=List.length_filter_le (fun y=>@decide (Sel l qs back y) (Classical.propDecidable _)) (List.range x)
  rwa [List.length_range] at this
theorem taken_succ_yes {l:List S57} {qs:List Int} {back:Bool} {x:Nat} (h:Sel l qs back x):taken l qs back (x + 1)=taken l qs back x ++ [x]:=by
  unfold taken
  rw [List.range_succ,List.filter_append]
  simp [h]
theorem taken_succ_no {l:List S57} {qs:List Int} {back:Bool} {x:Nat} (h:¬ Sel l qs back x):taken l qs back (x + 1)=taken l qs back x:=by
  unfold taken
  rw [List.range_succ,List.filter_append]
  simp [h]
theorem cone_go_spec {a0 a1:Int} {l:List S57} (hM:May a0 a1 l) (qs:List Int) (back:Bool):∀ (r x:Nat) (m:List Bool),x + r=l.length→Marks m (MSet l qs back x)→cone_go l back r (x:Int) m ((taken l qs back x).map (fun y=>(ci l back y:Int)))=some ((taken l qs back l.length).map (fun y=>(ci l back y:Int)))
  | 0,x,m,hx,h=>by
    obtain rfl:x=l.length:=by omega
    rw [cone_go]
  | r + 1,x,m,hx,h=>by
    have c:x < l.length:=by omega
    have hlen:=hM.2.2.2.2.1
    have hci:=ci_lt (back:=back) c
    have hmay:=hM.2.2.2.2.2 _ (rd_T57_mem hci)
    have hf2:=may_len hmay hM.2.1
    have hr:=wl_range hmay hM.2.1 hM.2.2.2.1
    have htl:=taken_len (l:=l) (qs:=qs) (back:=back) (x:=x)
    rw [cone_go,ci_eq c,wires_eq _ (by omega),Option.bind_some]
    rw [show (x:Int) + 1=((x + 1:Nat):Int) from rfl]
    by_cases c4:(rd_T57 l (ci l back x)).f0=4
    · rw [if_pos c4]
      have hns:¬ Sel l qs back x:=fun g=>(Sel.iff.1 g).1 c4
      have:=cone_go_spec hM qs back r (x + 1) m (by omega) (h.congr (fun w _ _=>⟨fun g=>MSet.succ.2 (.inl g),fun g=>(MSet.succ.1 g).resolve_right (fun k=>hns k.1)⟩))
      rwa [taken_succ_no hns] at this
    · rw [if_neg c4]
      obtain ⟨j,h1,h2⟩:=wire_at_spec m _ h (wl (rd_T57 l (ci l back x))) 0 (by omega) hr
      rw [h1,Option.bind_some]
      by_cases cj:0≤j
      · have hs:Sel l qs back x:=Sel.iff.2 ⟨c4,h2.1 cj⟩
        rw [if_pos cj]
        obtain ⟨m',h3,h4⟩:=mark_all_spec (wl (rd_T57 l (ci l back x))) m _ h hr
        rw [h3,Option.bind_some,if_pos (by rw [List.length_map];omega)]
        have:=cone_go_spec hM qs back r (x + 1) m' (by omega) (h4.congr (fun w _ _=>⟨fun g=>MSet.succ.2 (g.imp id (fun k=>⟨hs,k⟩)),fun g=>(MSet.succ.1 g).imp id (fun k=>k.2)⟩))
        rw [taken_succ_yes hs,List.map_append] at this
        exact this
      · have hns:¬ Sel l qs back x:=fun g=>cj (h2.2 (Sel.iff.1 g).2)
        rw [if_neg cj]
        have:=cone_go_spec hM qs back r (x + 1) m (by omega) (h.congr (fun w _ _=>⟨fun g=>MSet.succ.2 (.inl g),fun g=>(MSet.succ.1 g).resolve_right (fun k=>hns k.1)⟩))
        rwa [taken_succ_no hns] at this
def inList (ins:List Bool) (n:Nat):List Int:=((List.range n).filter (fun t:Nat=>rdOf false ins (t:Int))).map (fun t:Nat=>(t:Int))
theorem inList_succ (ins:List Bool) (n:Nat):inList ins (n + 1)=if rdOf false ins (n:Int)=true then inList ins n ++ [(n:Int)] else inList ins n:=by
  unfold inList
  rw [List.range_succ,List.filter_append,List.map_append]
  by_cases c:rdOf false ins (n:Int)=true
  · simp [c]
  · simp [c]
theorem inList_len (ins:List Bool) (n:Nat):(inList ins n).length≤n:=by
  unfold inList
  rw [List.length_map]
  have:=List.length_filter_le (fun t=>rdOf false ins ((t:Nat):Int)) (List.range n)
  rwa [List.length_range] at this
theorem collect_go (ins:List Bool) (hn:ins.length≤100000):∀ (r t k:Nat),t + r=ins.length→r < k→phasorref19_cone.l1 k ins (inList ins t) (t:Int)=some (inList ins ins.length,0)
  | 0,t,k,ht,hk=>by
    obtain ⟨k,rfl⟩:∃ m,k=m + 1:=⟨k - 1,by omega⟩
    obtain rfl:t=ins.length:=by omega
    rw [phasorref19_cone.l1,if_neg (by omega)]
  | r + 1,t,k,ht,hk=>by
    obtain ⟨k,rfl⟩:∃ m,k=m + 1:=⟨k - 1,by omega⟩
    have c:t < ins.length:=by omega
    have hl:=inList_len ins t
    rw [phasorref19_cone.l1,if_pos (by omega),if_pos (by omega),w1n c (by omega)]
    have h1:=collect_go ins hn r (t + 1) k (by omega) (by omega)
    rw [inList_succ] at h1
    by_cases cb:rdOf false ins (t:Int)=true
    · rw [if_pos cb] at h1
      rw [if_pos cb,if_pos (by omega)]
      exact h1
    · rw [if_neg cb] at h1
      rw [if_neg cb]
      exact h1
theorem ref_cone_go {a0 a1:Int} {l:List S57} (hM:May a0 a1 l) (qs:List Int) (back:Bool):∀ (r x k:Nat) (mt:List Int) (ins:List Bool),x + r=l.length→(∀ y,y ∈ mt ↔ ∃ w,MSet l qs back x w∧y=phi w)→mt.length≤64 + x * 66→ins.length=l.length→(∀ t:Nat,t < l.length→(rdOf false ins (t:Int)=true ↔ ∃ y,y < x∧Sel l qs back y∧ci l back y=t))→2 * r + l.length + (64 + l.length * 66) * 70 + 3 < k →
    ∃ ins',phasorref19_cone.l0 k back mt ins (x:Int) a0 a1 l=some (inList ins' l.length,0)∧∀ t:Nat,t < l.length→(rdOf false ins' (t:Int)=true ↔ ∃ y,y < l.length∧Sel l qs back y∧ci l back y=t)
  | 0,x,k,mt,ins,hx,hm,hml,hil,hi,hk=>by
    obtain ⟨k,rfl⟩:∃ m,k=m + 1:=⟨k - 1,by omega⟩
    obtain rfl:x=l.length:=by omega
    have hlen:=hM.2.2.2.2.1
    rw [phasorref19_cone.l0,if_neg (by omega)]
    have h1:=collect_go ins (by omega) ins.length 0 k (by omega) (by omega)
    refine ⟨ins,?_,hi⟩
    rw [← hil]
    exact h1
  | r + 1,x,k,mt,ins,hx,hm,hml,hil,hi,hk=>by
    obtain ⟨k,rfl⟩:∃ m,k=m + 2:=⟨k - 2,by omega⟩
    have c:x < l.length:=by omega
    have hlen:=hM.2.2.2.2.1
    have hci:=ci_lt (back:=back) c
    have hmay:=hM.2.2.2.2.2 _ (rd_T57_mem hci)
    have hf2:=may_len hmay hM.2.1
    have hwl:=wr_len (rd_T57 l (ci l back x))
    have hj:phasorref19_cone.l0 (k + 2) back mt ins (x:Int) a0 a1 l=phasorref19_cone.j1 (k + 1) back mt ins (x:Int) (ci l back x:Int) a0 a1 l:=by
      rw [phasorref19_cone.l0,if_pos (by omega)]
      unfold ci
      cases back
      · rw [if_neg (by decide),if_neg (by decide)]
      · rw [if_pos rfl,if_pos rfl]
        congr 1
        unfold wrap64
        omega
    rw [hj,phasorref19_cone.j1,if_pos (by omega),if_pos (by omega),wires19_eq _ (by omega),Option.bind_some]
    unfold phasorref19_bar.f
    rw [if_pos (by omega),if_pos (by omega),Option.bind_some,w1n c (by omega)]
    have hns:¬ Sel l qs back x→∃ ins',phasorref19_cone.l0 k back mt ins ((x + 1:Nat):Int) a0 a1 l=some (inList ins' l.length,0)∧∀ t:Nat,t < l.length→(rdOf false ins' (t:Int)=true ↔ ∃ y,y < l.length∧Sel l qs back y∧ci l back y=t):=fun hno=>by
      refine ref_cone_go hM qs back r (x + 1) k mt ins (by omega) (fun y=>(hm y).trans ⟨fun ⟨w,h1,h2⟩=>⟨w,MSet.succ.2 (.inl h1),h2⟩,fun ⟨w,h1,h2⟩=>⟨w,(MSet.succ.1 h1).resolve_right (fun g=>hno g.1),h2⟩⟩) (by omega) hil (fun t ht=>(hi t ht).trans ⟨fun ⟨y,h1,h2,h3⟩=>⟨y,by omega,h2,h3⟩,fun ⟨y,h1,h2,h3⟩=>⟨y,?_,h2,h3⟩⟩) (by omega)
      by_cases e:y=x
      · subst e;exact absurd h2 hno
      · omega
    by_cases c4:(rd_T57 l (ci l back x)).f0=4
    · rw [if_pos (by rw [c4];rfl)]
      exact hns (fun g=>(Sel.iff.1 g).1 c4)
    · rw [if_neg (by simpa using c4)]
      have hmm:mt.length * ((wr (rd_T57 l (ci l back x))).length + 2)≤(64 + l.length * 66) * 70:=Nat.mul_le_mul (by omega) (by omega)
      obtain ⟨b,h1,h2⟩:=meet_spec mt (wr (rd_T57 l (ci l back x))) (by omega) (by omega) k (by omega)
      rw [h1,Option.bind_some]
      have h3:b=true ↔ ∃ w ∈ wl (rd_T57 l (ci l back x)),MSet l qs back x w:=by
        rw [h2,wr_map hmay hM.2.1 hM.2.2.2.1]
        constructor
        · rintro ⟨y,g1,g2⟩
          obtain ⟨w,g3,rfl⟩:=(hm y).1 g1
          obtain ⟨v,g4,g5⟩:=List.mem_map.1 g2
          obtain rfl:=phi_inj g5
          exact ⟨v,g4,g3⟩
        · rintro ⟨w,g1,g2⟩
          exact ⟨phi w,(hm _).2 ⟨w,g2,rfl⟩,List.mem_map_of_mem g1⟩
      by_cases cb:b=true
      · have hs:Sel l qs back x:=Sel.iff.2 ⟨c4,h3.1 cb⟩
        rw [if_pos cb,if_pos (by omega),if_pos (by omega),Int.toNat_natCast]
        refine ref_cone_go hM qs back r (x + 1) k (mt ++ wr (rd_T57 l (ci l back x))) (ins.set (ci l back x) true) (by omega) (fun y=>?_) (by rw [List.length_append];omega) (by rw [List.length_set];exact hil) (fun t ht=>?_) (by omega)
        · rw [List.mem_append,hm y,wr_map hmay hM.2.1 hM.2.2.2.1,List.mem_map]
          constructor
          · rintro (⟨w,g1,g2⟩ | ⟨w,g1,g2⟩)
            · exact ⟨w,MSet.succ.2 (.inl g1),g2⟩
            · exact ⟨w,MSet.succ.2 (.inr ⟨hs,g1⟩),g2.symm⟩
          · rintro ⟨w,g1,g2⟩
            rcases MSet.succ.1 g1 with g | ⟨_,g⟩
            · exact .inl ⟨w,g,g2⟩
            · exact .inr ⟨w,g,g2.symm⟩
        · rw [rdB_set (by omega) (by rw [hil];exact hci)]
          by_cases e:t=ci l back x
          · rw [if_pos (by omega)]
            exact iff_of_true rfl ⟨x,by omega,hs,e.symm⟩
          · rw [if_neg (by omega),hi t ht]
            constructor
            · rintro ⟨y,g1,g2,g3⟩
              exact ⟨y,by omega,g2,g3⟩
            · rintro ⟨y,g1,g2,g3⟩
              by_cases e2:y=x
              · subst e2;exact absurd g3.symm e
              · exact ⟨y,by omega,g2,g3⟩
      · rw [if_neg cb]
        exact hns (fun g=>cb (h3.2 (Sel.iff.1 g).2))
theorem range_reverse (n:Nat):(List.range n).reverse=(List.range n).map (fun t=>n - 1 - t):=by
  apply List.ext_getElem
  · simp
  · intro i h1 h2
    simp only [List.length_reverse,List.length_range] at h1
    simp [List.getElem_reverse]
open Classical in
theorem taken_list {l:List S57} {qs:List Int} {back:Bool} {ins:List Bool} (h:∀ t:Nat,t < l.length→(rdOf false ins (t:Int)=true ↔ ∃ y,y < l.length∧Sel l qs back y∧ci l back y=t)) :
    (if back=true then ((taken l qs back l.length).map (fun y=>(ci l back y:Int))).reverse else (taken l qs back l.length).map (fun y=>(ci l back y:Int)))=inList ins l.length:=by
  cases back
  · rw [if_neg (by decide)]
    unfold taken inList
    have h1:(List.range l.length).filter (fun y=>@decide (Sel l qs false y) (Classical.propDecidable _))=(List.range l.length).filter (fun t=>rdOf false ins ((t:Nat):Int)):=by
      apply List.filter_congr
      intro t ht
      have ht:=List.mem_range.1 ht
      rw [Bool.eq_iff_iff,decide_eq_true_iff,h t ht]
      constructor
      · intro g;exact ⟨t,ht,g,rfl⟩
      · rintro ⟨y,_,g,rfl⟩;exact g
    rw [h1]
    rfl
  · rw [if_pos rfl]
    unfold taken inList
    rw [← List.map_reverse,← List.filter_reverse,range_reverse,List.filter_map,List.map_map]
    have h1:(List.range l.length).filter ((fun y=>@decide (Sel l qs true y) (Classical.propDecidable _)) ∘ (fun t=>l.length - 1 - t))=(List.range l.length).filter (fun t=>rdOf false ins ((t:Nat):Int)):=by
      apply List.filter_congr
      intro t ht
      have ht:=List.mem_range.1 ht
      rw [Bool.eq_iff_iff,Function.comp,decide_eq_true_iff,h t ht]
      constructor
      · intro g;exact ⟨l.length - 1 - t,by omega,g,by unfold ci;rw [if_pos rfl];omega⟩
      · rintro ⟨y,hy,g,e⟩
        unfold ci at e
        rw [if_pos rfl] at e
        obtain rfl:y=l.length - 1 - t:=by omega
        exact g
    rw [h1]
    apply List.map_congr_left
    intro t ht
    have ht:=List.mem_range.1 (List.mem_filter.1 ht).1
    show ((ci l true (l.length - 1 - t):Nat):Int)=t
    unfold ci
    rw [if_pos rfl]
    omega
theorem cone_start_marks:Marks (List.replicate 128 false) (fun _=>False):=by
  refine ⟨by simp,fun w h0 h1=>?_⟩
  unfold rdOf
  rw [List.getD_eq_getElem?_getD,List.getElem?_replicate]
  split<;>simp
theorem inList_mem (ins:List Bool):∀ (n:Nat) (z:Int),z ∈ inList ins n→0≤z∧z < n
  | 0,z,h=>by simp [inList] at h
  | n + 1,z,h=>by
    rw [inList_succ] at h
    split at h
    · rcases List.mem_append.mp h with h | h
      · have:=inList_mem ins n z h;omega
      · have:=List.mem_singleton.mp h;omega
    · have:=inList_mem ins n z h;omega
def BigQ (n m k:Nat):Prop:=m * (m + 3) + 2 * n + n + (64 + n * 66) * 70 + 100 < k
theorem Cone_yes {a0 a1:Int} {N:Nat} {l:List S57} (hL:Lim N l) (hM:May a0 a1 l) (qs:List Int) (hq:qs.length < 17592186044416) (back:Bool) {k:Nat} (hk:Big N l.length k) (hk2:BigQ l.length qs.length k):∃ r e,layers_cone.f k a0 a1 l qs back=some (r,e)∧phasorref19_cone.f k a0 a1 l qs back=some (r,e)∧r.length≤4096∧(∀ z ∈ r,0≤z∧z < l.length):=by
  unfold Big at hk
  unfold BigQ at hk2
  have hlen:=hM.2.2.2.2.1
  obtain ⟨c1,c2⟩:=checked_yes hL hM (k:=k) (by omega)
  obtain ⟨b,q1,q2⟩:=qubits_spec qs a0 (by omega) k (by omega)
  obtain ⟨i1,i2⟩:=cone_init_go a0 hM.2.1 qs qs.length 0 (List.replicate 128 false) (by omega) (cone_start_marks.congr (fun w _ _=>⟨False.elim,fun ⟨t,ht,_⟩=>absurd ht (by omega)⟩))
  rw [List.drop_zero] at i1 i2
  unfold layers_cone.f phasorref19_cone.f
  rw [c1,c2,Option.bind_some,Option.bind_some,if_pos rfl,if_pos rfl,q1,Option.bind_some]
  by_cases hu:Uq qs a0 0
  · have h64:=hu.len hM.2.1
    obtain ⟨m,h1,h2⟩:=i1 hu
    rw [h1,Option.bind_some,if_pos (q2.2 hu),Option.bind_some,List.nil_append]
    rw [if_pos (by simp only [List.length_nil];omega),if_pos (by omega),if_pos (by omega)]
    have h3:=cone_go_spec hM qs back l.length 0 m (by omega) (h2.congr (fun w _ _=>⟨fun g=>.inl g,fun g=>g.elim id (fun ⟨y,hy,_⟩=>absurd hy (by omega))⟩))
    obtain ⟨ins,h4,h5⟩:=ref_cone_go hM qs back l.length 0 k qs (List.replicate ((l.length:Int)).toNat false) (by omega) (fun y=>⟨fun g=>⟨y,.inl g,by unfold phi;have:=hu.range y g;have:=hM.2.1;rw [if_pos (by omega)]⟩,fun ⟨w,g1,g2⟩=>by
      rcases g1 with g1 | ⟨z,hz,_⟩
      · have:=hu.range w g1
        have:=hM.2.1
        unfold phi at g2
        rw [if_pos (by omega)] at g2
        rw [g2];exact g1
      · omega⟩) (by omega) (by simp) (fun t ht=>by
        have hf:rdOf false (List.replicate ((l.length:Int)).toNat false) (t:Int)=false:=by
          unfold rdOf
          rw [List.getD_eq_getElem?_getD,List.getElem?_replicate]
          split<;>rfl
        rw [hf]
        exact iff_of_false (by decide) (fun ⟨y,hy,_⟩=>absurd hy (by omega))) (by omega)
    have h6:=taken_list h5
    have htl:=taken_len (l:=l) (qs:=qs) (back:=back) (x:=l.length)
    refine ⟨inList ins l.length,0,?_,h4,by have:=inList_len ins l.length;omega,inList_mem ins l.length⟩
    unfold cone_rest
    dsimp only
    have h3':cone_go l back l.length 0 m []=some ((taken l qs back l.length).map (fun y=>(ci l back y:Int))):=h3
    rw [h3',Option.bind_some]
    by_cases cb:back=true
    · rw [if_pos cb] at h6
      rw [if_pos cb,reverse_spec _ (by rw [List.length_map];omega) k (by rw [List.length_map];omega),Option.bind_some,h6]
    · rw [if_neg cb] at h6
      rw [if_neg cb,h6]
  · rw [i2 hu,Option.bind_some,if_neg (fun g=>hu (q2.1 g))]
    exact ⟨[],190,rfl,rfl,by decide,fun z hz=>absurd hz (by simp)⟩
theorem Cone_no {a0 a1:Int} {N:Nat} {l:List S57} (hL:Lim N l) (hM:¬ May a0 a1 l) (qs:List Int) (back:Bool) {k:Nat} (hk:Big N l.length k):layers_cone.f k a0 a1 l qs back=some ([],80)∧phasorref19_cone.f k a0 a1 l qs back=some ([],80):=by
  unfold Big at hk
  obtain ⟨c1,c2⟩:=checked_no hL hM (k:=k) (by omega)
  unfold layers_cone.f phasorref19_cone.f
  rw [c1,c2,Option.bind_some,Option.bind_some]
  exact ⟨rfl,rfl⟩
def pickOps (l:List S57) (ps:List Int):List S57:=ps.map (fun i=>rd_T57 l i)
theorem pickOps_take {l:List S57} {ps:List Int} {i:Nat} (h:i < ps.length):pickOps l (ps.take (i + 1))=pickOps l (ps.take i) ++ [rd_T57 l (rd ps i)]:=by
  unfold pickOps
  rw [List.take_add_one,List.getElem?_eq_getElem h,List.map_append]
  have e:rd ps i=ps[i]:=by unfold rd;rw [Int.toNat_natCast,List.getD_eq_getElem?_getD,List.getElem?_eq_getElem h];rfl
  rw [e]
  rfl
theorem only_go (l:List S57) (ps:List Int) (b0 b1:Int) (hp:ps.length≤100000) (hv:∀ j:Nat,j < ps.length→0≤rd ps j∧rd ps j < l.length):∀ (k i:Nat),i≤ps.length→ps.length - i < k→layers_only.l0 k (pickOps l (ps.take i)) ps (ps.length:Int) (i:Int) b0 b1 l=some (b0,b1,pickOps l ps)
  | 0,i,_,h=>absurd h (by omega)
  | k + 1,i,hi,h=>by
    rw [layers_only.l0]
    by_cases c:i < ps.length
    · have h1:=hv i c
      have hl:(pickOps l (ps.take i)).length < 2199023255552:=by unfold pickOps;rw [List.length_map,List.length_take];omega
      rw [if_pos (by omega),if_pos (by omega),if_pos (by omega),if_pos h1.1,if_pos h1.2,if_pos hl,w1n c (by omega)]
      have:=only_go l ps b0 b1 hp hv k (i + 1) c (by omega)
      rw [pickOps_take c] at this
      exact this
    · rw [if_neg (by omega),List.take_of_length_le (by omega)]
theorem ccopy_go (b0 b1:Int) (N:Nat) (l:List S57) (hL:Lim N l):∀ (k i:Nat),i≤l.length→l.length - i < k→circuit_Copy.l0 k l (l.length:Int) (i:Int) b0 b1 (l.take i)=some (b0,b1,l)
  | 0,i,_,h=>absurd h (by omega)
  | k + 1,i,hi,h=>by
    rw [circuit_Copy.l0]
    by_cases c:i < l.length
    · obtain ⟨h1,h2⟩:=hL.2 _ (rd_T57_mem c)
      have h0:=hL.1
      rw [if_pos (by omega),if_pos (by omega),if_pos (by omega)]
      unfold slices_Clone_int_int.f
      rw [if_pos (by omega),Option.bind_some,if_pos (by rw [List.length_take];omega),w1n c (by omega),rd_T57_at c]
      rw [show l.take i ++ [(⟨l[i].f0,l[i].f1,l[i].f2,l[i].f3,l[i].f4,l[i].f5⟩:S57)]=l.take (i + 1) from by rw [List.take_add_one,List.getElem?_eq_getElem c];rfl]
      exact ccopy_go b0 b1 N l hL k (i + 1) c (by omega)
    · rw [if_neg (by omega),List.take_of_length_le (by omega)]
theorem only_spec (a0 a1:Int) (N:Nat) (l:List S57) (hL:Lim N l) (ps:List Int) (hp:ps.length≤100000) (hv:∀ j:Nat,j < ps.length→0≤rd ps j∧rd ps j < l.length) (k:Nat) (hk:l.length + ps.length < k):layers_only.f k a0 a1 l ps=some (a0,a1,pickOps l ps):=by
  unfold layers_only.f circuit_Copy.f
  have h1:=ccopy_go a0 a1 N l hL k 0 (by omega) (by omega)
  rw [show circuit_Copy.l0 k l (l.length:Int) 0 a0 a1 []=some (a0,a1,l) from h1,Option.bind_some]
  exact only_go l ps a0 a1 hp hv k 0 (by omega) (by omega)
theorem ronly_go (l:List S57) (ps:List Int) (b0 b1 c0 c1:Int) (m:List S57) (hp:ps.length≤100000) (hv:∀ j:Nat,j < ps.length→0≤rd ps j∧rd ps j < l.length):∀ (k i:Nat),i≤ps.length→ps.length - i < k→phasorref19_only.l0 k ps (i:Int) b0 b1 l c0 c1 (pickOps l (ps.take i))=some (c0,c1,pickOps l ps)
  | 0,i,_,h=>absurd h (by omega)
  | k + 1,i,hi,h=>by
    rw [phasorref19_only.l0]
    by_cases c:i < ps.length
    · have h1:=hv i c
      have hl:(pickOps l (ps.take i)).length < 2199023255552:=by unfold pickOps;rw [List.length_map,List.length_take];omega
      rw [if_pos (by omega),if_pos (by omega),if_pos h1.1,if_pos h1.2,if_pos hl,w1n c (by omega)]
      have:=ronly_go l ps b0 b1 c0 c1 m hp hv k (i + 1) c (by omega)
      rw [pickOps_take c] at this
      exact this
    · rw [if_neg (by omega),List.take_of_length_le (by omega)]
theorem ronly_spec (a0 a1:Int) (N:Nat) (l:List S57) (hL:Lim N l) (ps:List Int) (hp:ps.length≤100000) (hv:∀ j:Nat,j < ps.length→0≤rd ps j∧rd ps j < l.length) (k:Nat) (hk:l.length + ps.length < k):phasorref19_only.f k a0 a1 l ps=some (a0,a1,pickOps l ps):=by
  unfold phasorref19_only.f
  rw [copy_self a0 a1 N l hL k (by omega),Option.bind_some]
  exact ronly_go l ps a0 a1 a0 a1 [] hp hv k 0 (by omega) (by omega)
def kp (l:List S57) (ms:List Int) (z:Int):Int:=2 * rd ms z + if (rd_T57 l z).f0=4 then 1 else 0
theorem skey_eq {l:List S57} {ms:List Int} {z:Int} (h0:0≤rd ms z) (h1:rd ms z≤100000):skey l ms z=kp l ms z:=by
 unfold skey kp wrap64
 split<;>omega
theorem slt_lt {l:List S57} {ms:List Int} (h:∀ z:Int,0≤z→z < l.length→0≤rd ms z∧rd ms z≤100000):Lt (slt l ms) (kp l ms) (fun z=>0≤z∧z < l.length):=by
 intro x y hx hy
 obtain ⟨a,b⟩:=h x hx.1 hx.2
 obtain ⟨c,d⟩:=h y hy.1 hy.2
 unfold slt
 rw [skey_eq a b,skey_eq c d,decide_eq_true_iff]
 have e1:0≤kp l ms x∧kp l ms x≤200001:=by unfold kp;split<;>omega
 have e2:0≤kp l ms y∧kp l ms y≤200001:=by unfold kp;split<;>omega
 unfold wrap64
 omega
theorem prog_sorted {l:List S57} {ms:List Int} (h:∀ z:Int,0≤z→z < l.length→0≤rd ms z∧rd ms z≤100000):∃ ps,stable_m (slt l ms) (iota l.length)=some ps∧ps.Pairwise (Rl (kp l ms))∧∀ z:Int,z ∈ ps ↔ 0≤z∧z < l.length:=by
 obtain ⟨m,g⟩:=stab_spec (slt_lt h) l.length (iota l.length) (iota_length _) (fun t t0 t1=>by rw [iota_length] at t1;rw [iota_rd t0 t1];exact ⟨t0,t1⟩) (fun i j i0 ij j1=>by rw [iota_rd i0 (by omega),iota_rd (by omega) j1];exact ij)
 refine ⟨_,rfl,?_,m.mem_iota⟩
 have hl:=m.len
 rw [iota_length] at hl
 exact Srtd.pairwise (by rw [hl];exact g)
def Cur (key:Int→Int) (n:Nat) (K i:Int) (xs:List Int):Prop:=xs.Pairwise (Rl key)∧∀ z,z ∈ xs ↔ (0≤z∧z < n∧(key z < K∨(key z=K∧z < i)))
theorem Cur.take {key:Int→Int} {n:Nat} {K i:Int} {xs:List Int} (h:Cur key n K i xs) (h0:0≤i) (h1:i < n) (hk:key i=K):Cur key n K (i + 1) (xs ++ [i]):=by
 refine ⟨List.pairwise_append.mpr ⟨h.1,List.pairwise_singleton _ _,fun a ha b hb=>?_⟩,fun z=>?_⟩
 ·rw [List.mem_singleton.mp hb]
  have:=(h.2 a).mp ha
  unfold Rl
  omega
 ·rw [List.mem_append,List.mem_singleton,h.2 z]
  constructor
  ·rintro (h2 | rfl)
   ·omega
   ·omega
  ·intro h2
   by_cases c:z=i
   ·exact .inr c
   ·exact .inl (by omega)
theorem Cur.skip {key:Int→Int} {n:Nat} {K i:Int} {xs:List Int} (h:Cur key n K i xs) (hk:key i≠K):Cur key n K (i + 1) xs:=by
 refine ⟨h.1,fun z=>?_⟩
 rw [h.2 z]
 constructor
 ·intro h2;omega
 ·intro h2
  refine ⟨h2.1,h2.2.1,?_⟩
  rcases h2.2.2 with h3 | h3
  ·exact .inl h3
  ·by_cases c:z=i
   ·subst c;exact absurd h3.1 hk
   ·exact .inr (by omega)
theorem Cur.next {key:Int→Int} {n:Nat} {K:Int} {xs:List Int} (h:Cur key n K n xs):Cur key n (K + 1) 0 xs:=⟨h.1,fun z=>by rw [h.2 z];omega⟩
theorem Cur.len {key:Int→Int} {n:Nat} {K i:Int} {xs:List Int} (h:Cur key n K i xs):xs.length≤n:=by
 refine pigeon n xs ?_ (fun x hx=>⟨((h.2 x).mp hx).1,((h.2 x).mp hx).2.1⟩)
 exact h.1.imp (fun {a b} hab e=>by subst e;exact Rl.asymm _ _ hab hab)
section
variable {a0 a1:Int} {l:List S57} {ms:List Int} {D:Int}
theorem rs_l2 (hml:ms.length=l.length) (hn:l.length≤4096) (m last:Int) (hm:0≤m) (hm2:m≤5000) (hlast:last=0∨last=1) (kk:Nat):∀ (d i:Nat) (xs:List Int),i + d=l.length→Cur (kp l ms) l.length (2 * m + last) i xs→∃ ys,Cur (kp l ms) l.length (2 * m + last) l.length ys∧phasorref19_Sorted.l2 (kk + d + 1) ms D xs m last (i:Int) a0 a1 l=phasorref19_Sorted.l1 kk ms D ys m (last + 1) a0 a1 l
 | 0,i,xs,hi,hc=>by
  refine ⟨xs,by rw [show (l.length:Int)=(i:Int) by omega];exact hc,?_⟩
  rw [phasorref19_Sorted.l2,if_neg (by omega),show wrap64 (last + 1)=last + 1 by unfold wrap64;omega]
 | d + 1,i,xs,hi,hc=>by
  have hx:=hc.len
  have hi1:i < l.length:=by omega
  rw [show kk + (d + 1) + 1=(kk + d + 1) + 1 by omega,phasorref19_Sorted.l2,if_pos (by omega),if_pos (by omega)]
  have hw:wrap64 ((i:Int) + 1)=((i + 1:Nat):Int):=w1n hi1 (by omega)
  have kpe:kp l ms (i:Int)=2 * rd ms i + if (rd_T57 l (i:Int)).f0=4 then 1 else 0:=rfl
  by_cases c:rd ms (i:Int)=m
  ·rw [if_pos c]
   unfold phasorref19_bar.f
   rw [if_pos (by omega),if_pos (by omega),Option.bind_some]
   have hb:((((rd_T57 l (i:Int)).f0 == 4) == (last == 1))=true) ↔ kp l ms (i:Int)=2 * m + last:=by
    rw [kpe,c]
    by_cases c4:(rd_T57 l (i:Int)).f0=4
    ·rw [if_pos c4,c4]
     rcases hlast with rfl | rfl<;>simp<;>omega
    ·rw [if_neg c4,show ((rd_T57 l (i:Int)).f0 == 4)=false from beq_eq_false_iff_ne.mpr c4]
     rcases hlast with rfl | rfl<;>simp<;>omega
   by_cases c2:kp l ms (i:Int)=2 * m + last
   ·rw [if_pos (hb.mpr c2),if_pos (by omega),hw]
    exact rs_l2 hml hn m last hm hm2 hlast kk d (i + 1) _ (by omega) (hc.take (by omega) (by omega) c2)
   ·rw [if_neg (fun g=>c2 (hb.mp g)),hw]
    exact rs_l2 hml hn m last hm hm2 hlast kk d (i + 1) _ (by omega) (hc.skip c2)
  ·rw [if_neg c,hw]
   exact rs_l2 hml hn m last hm hm2 hlast kk d (i + 1) _ (by omega) (hc.skip (by rw [kpe];split<;>omega))
theorem rs_l1 (hml:ms.length=l.length) (hn:l.length≤4096) (m:Int) (hm:0≤m) (hm2:m≤5000) (kk:Nat) (xs:List Int) (hc:Cur (kp l ms) l.length (2 * m) 0 xs):∃ ys,Cur (kp l ms) l.length (2 * (m + 1)) 0 ys∧phasorref19_Sorted.l1 (kk + 2 * l.length + 5) ms D xs m 0 a0 a1 l=phasorref19_Sorted.l0 kk ms D ys (m + 1) a0 a1 l:=by
 obtain ⟨ys,h1,e1⟩:=rs_l2 (a0:=a0) (a1:=a1) (D:=D) hml hn m 0 hm hm2 (.inl rfl) (kk + l.length + 3) l.length 0 xs (by omega) (by rw [Int.add_zero];exact hc)
 obtain ⟨zs,h2,e2⟩:=rs_l2 (a0:=a0) (a1:=a1) (D:=D) hml hn m 1 hm hm2 (.inr rfl) (kk + 1) l.length 0 ys (by omega) (by have:=h1.next;rw [Int.add_zero] at this;exact this)
 refine ⟨zs,by have:=h2.next;rw [show 2 * m + 1 + 1=2 * (m + 1) by omega] at this;exact this,?_⟩
 rw [show kk + 2 * l.length + 5=(kk + l.length + 3 + l.length + 1) + 1 by omega,phasorref19_Sorted.l1,if_pos (by omega)]
 rw [show phasorref19_Sorted.l2 (kk + l.length + 3 + l.length + 1) ms D xs m 0 0 a0 a1 l=_ from e1]
 rw [show kk + l.length + 3=(kk + 1 + l.length + 1) + 1 by omega,phasorref19_Sorted.l1,if_pos (by omega)]
 rw [show (0:Int) + 1=1 from rfl,show phasorref19_Sorted.l2 (kk + 1 + l.length + 1) ms D ys m 1 0 a0 a1 l=_ from e2]
 rw [phasorref19_Sorted.l1,if_neg (by omega),show wrap64 (m + 1)=m + 1 by unfold wrap64;omega]
theorem rs_l0 (hml:ms.length=l.length) (hn:l.length≤4096) (hD:0≤D) (hD2:D≤4096) (kk:Nat):∀ (r:Nat) (m:Int) (xs:List Int),0≤m→m + r=D + 1→Cur (kp l ms) l.length (2 * m) 0 xs→∃ ys,Cur (kp l ms) l.length (2 * (D + 1)) 0 ys∧phasorref19_Sorted.l0 (kk + r * (2 * l.length + 6) + 1) ms D xs m a0 a1 l=(phasorref19_only.f kk a0 a1 l ys).bind fun b=>some (b.1,b.2.1,b.2.2,0)
 | 0,m,xs,h0,hr,hc=>by
  refine ⟨xs,by rw [show D + 1=m by omega];exact hc,?_⟩
  rw [phasorref19_Sorted.l0,if_neg (by omega),Nat.zero_mul,Nat.add_zero]
 | r + 1,m,xs,h0,hr,hc=>by
  obtain ⟨ys,h1,e1⟩:=rs_l1 (a0:=a0) (a1:=a1) (D:=D) hml hn m h0 (by omega) (kk + r * (2 * l.length + 6) + 1) xs hc
  obtain ⟨zs,h2,e2⟩:=rs_l0 hml hn hD hD2 kk r (m + 1) ys (by omega) (by omega) h1
  refine ⟨zs,h2,?_⟩
  rw [show kk + (r + 1) * (2 * l.length + 6) + 1=(kk + r * (2 * l.length + 6) + 1 + 2 * l.length + 5) + 1 by rw [Nat.add_mul];omega,phasorref19_Sorted.l0,if_pos (by omega),e1,e2]
theorem ref_sorted (hml:ms.length=l.length) (hn:l.length≤4096) (hD:0≤D) (hD2:D≤4096) (hb:∀ z:Int,0≤z→z < l.length→0≤rd ms z∧rd ms z≤D) (kk:Nat) (ps:List Int) (hp:ps.Pairwise (Rl (kp l ms))) (hp2:∀ z:Int,z ∈ ps ↔ 0≤z∧z < l.length) :
  phasorref19_Sorted.l0 (kk + (D + 1).toNat * (2 * l.length + 6) + 1) ms D [] 0 a0 a1 l=(phasorref19_only.f kk a0 a1 l ps).bind fun b=>some (b.1,b.2.1,b.2.2,0):=by
 obtain ⟨ys,h1,e1⟩:=rs_l0 (a0:=a0) (a1:=a1) hml hn hD hD2 kk (D + 1).toNat 0 [] (Int.le_refl _) (by omega) ⟨List.Pairwise.nil,fun z=>by
  refine iff_of_false (by simp) (fun ⟨z0,z1,h⟩=>?_)
  have:=hb z z0 z1
  unfold kp at h
  split at h<;>omega⟩
 rw [e1]
 have e:ys=ps:=sorted_unique (fun x y=>Rl.asymm x y) ys ps h1.1 hp (fun z=>by
  rw [h1.2 z,hp2 z]
  refine ⟨fun h=>⟨h.1,h.2.1⟩,fun h=>⟨h.1,h.2,.inl ?_⟩⟩
  have:=hb z h.1 h.2
  unfold kp
  split<;>omega)
 rw [e]
end
def rowOf (l:List S57) (ms:List Int) (n:Nat) (m:Int):List Int:=(iota n).filter (fun z=>decide (rd ms z=m∧(rd_T57 l z).f0≠4))
theorem rowOf_succ (l:List S57) (ms:List Int) (n:Nat) (m:Int):rowOf l ms (n + 1) m=if rd ms (n:Int)=m∧(rd_T57 l (n:Int)).f0≠4 then rowOf l ms n m ++ [(n:Int)] else rowOf l ms n m:=by
 unfold rowOf
 rw [iota_succ,List.filter_append]
 by_cases c:rd ms (n:Int)=m∧(rd_T57 l (n:Int)).f0≠4
 ·rw [if_pos c];simp [c]
 ·rw [if_neg c];simp [c]
theorem rowOf_len (l:List S57) (ms:List Int) (n:Nat) (m:Int):(rowOf l ms n m).length≤n:=by
 unfold rowOf
 have:=List.length_filter_le (fun z=>decide (rd ms z=m∧(rd_T57 l z).f0≠4)) (iota n)
 rwa [iota_length] at this
def momOf (l:List S57) (ms:List Int) (n D:Nat):List (List Int):=(List.range D).map (fun r:Nat=>rowOf l ms n ((r:Int) + 1))
theorem momOf_len (l:List S57) (ms:List Int) (n D:Nat):(momOf l ms n D).length=D:=by simp [momOf]
theorem momOf_at {l:List S57} {ms:List Int} {n D r:Nat} (h:r < D):rd_L1 (momOf l ms n D) (r:Int)=rowOf l ms n ((r:Int) + 1):=by
 unfold rd_L1
 rw [Int.toNat_natCast,List.getD_eq_getElem?_getD,List.getElem?_eq_getElem (by rw [momOf_len];exact h)]
 simp [momOf]
theorem momOf_zero (l:List S57) (ms:List Int) (D:Nat):List.replicate D []=momOf l ms 0 D:=by
 apply List.ext_getElem
 ·simp [momOf]
 ·intro i h1 h2
  simp [momOf,rowOf,iota]
theorem momOf_bar {l:List S57} {ms:List Int} {n D:Nat} (h:(rd_T57 l (n:Int)).f0=4):momOf l ms (n + 1) D=momOf l ms n D:=by
 unfold momOf
 apply List.map_congr_left
 intro r _
 rw [rowOf_succ,if_neg (fun g=>g.2 h)]
theorem momOf_put {l:List S57} {ms:List Int} {n D r:Nat} (h:(rd_T57 l (n:Int)).f0≠4) (hr:rd ms (n:Int)=(r:Int) + 1) (hD:r < D):(momOf l ms n D).set r (rowOf l ms n ((r:Int) + 1) ++ [(n:Int)])=momOf l ms (n + 1) D:=by
 apply List.ext_getElem
 ·rw [List.length_set,momOf_len,momOf_len]
 ·intro i h1 h2
  rw [List.getElem_set]
  by_cases c:r=i
  ·subst c
   rw [if_pos rfl]
   simp only [momOf,List.getElem_map,List.getElem_range]
   rw [rowOf_succ,if_pos ⟨hr,h⟩]
  ·rw [if_neg c]
   simp only [momOf,List.getElem_map,List.getElem_range]
   rw [rowOf_succ,if_neg (fun g=>c (by have:=g.1;omega))]
theorem momOf_next (l:List S57) (ms:List Int) (n D:Nat):momOf l ms n (D + 1)=momOf l ms n D ++ [rowOf l ms n ((D:Int) + 1)]:=by
 unfold momOf
 rw [List.range_succ,List.map_append]
 rfl
section
variable {a0 a1:Int} {l:List S57} {ms:List Int} {D:Nat}
theorem pm_go (hml:ms.length=l.length) (hn:l.length≤4096) (hD:D≤4096) (hb:∀ i:Nat,i < l.length→(rd_T57 l (i:Int)).f0≠4→1≤rd ms i∧rd ms i≤D):∀ (d i k:Nat),i + d=l.length→d < k→layers_Moments.l0 k (momOf l ms i D) ms (l.length:Int) (i:Int) a0 a1 l=some (momOf l ms l.length D,0)
 | 0,i,k,hi,hk=>by
  obtain ⟨k,rfl⟩:∃ m,k=m + 1:=⟨k - 1,by omega⟩
  rw [layers_Moments.l0,if_neg (by omega),show i=l.length by omega]
 | d + 1,i,k,hi,hk=>by
  obtain ⟨k,rfl⟩:∃ m,k=m + 1:=⟨k - 1,by omega⟩
  have hw:wrap64 ((i:Int) + 1)=((i + 1:Nat):Int):=w1n (show i < l.length by omega) (by omega)
  rw [layers_Moments.l0,if_pos (by omega),if_pos (by omega),if_pos (by omega),if_pos (by omega),hw]
  by_cases c:(rd_T57 l (i:Int)).f0=4
  ·rw [if_pos c]
   have:=pm_go hml hn hD hb d (i + 1) k (by omega) (by omega)
   rw [momOf_bar c] at this
   exact this
  ·rw [if_neg c]
   obtain ⟨b1,b2⟩:=hb i (by omega) c
   obtain ⟨r,hr⟩:∃ r:Nat,rd ms (i:Int)=(r:Int) + 1:=⟨(rd ms (i:Int) - 1).toNat,by omega⟩
   have hwr:wrap64 (rd ms (i:Int) - 1)=(r:Int):=by rw [hr];unfold wrap64;omega
   have hlen:=rowOf_len l ms i ((r:Int) + 1)
   rw [hwr,if_pos (by omega),if_pos (by rw [momOf_len];omega),momOf_at (by omega),if_pos (by omega),Int.toNat_natCast,momOf_put c hr (by omega)]
   exact pm_go hml hn hD hb d (i + 1) k (by omega) (by omega)
theorem rm_l1 (hml:ms.length=l.length) (hn:l.length≤4096) (m:Int) (hm:0≤m) (hm2:m≤5000) (xs:List (List Int)) (hx:xs.length≤5000) (kk:Nat):∀ (d i:Nat),i + d=l.length→phasorref19_Moments.l1 (kk + d + 1) ms (D:Int) xs m (rowOf l ms i m) (i:Int) a0 a1 l=phasorref19_Moments.l0 kk ms (D:Int) (xs ++ [rowOf l ms l.length m]) (m + 1) a0 a1 l
 | 0,i,hi=>by
  rw [phasorref19_Moments.l1,if_neg (by omega),if_pos (by omega),show wrap64 (m + 1)=m + 1 by unfold wrap64;omega,show i=l.length by omega]
 | d + 1,i,hi=>by
  have hi1:i < l.length:=by omega
  have hw:wrap64 ((i:Int) + 1)=((i + 1:Nat):Int):=w1n hi1 (by omega)
  have hlen:=rowOf_len l ms i m
  rw [show kk + (d + 1) + 1=(kk + d + 1) + 1 by omega,phasorref19_Moments.l1,if_pos (by omega),if_pos (by omega),hw]
  have rc:=rm_l1 hml hn m hm hm2 xs hx kk d (i + 1) (by omega)
  rw [rowOf_succ] at rc
  by_cases c:rd ms (i:Int)=m
  ·rw [if_pos c]
   unfold phasorref19_bar.f
   rw [if_pos (by omega),if_pos (by omega),Option.bind_some]
   by_cases c4:(rd_T57 l (i:Int)).f0=4
   ·rw [if_pos (by rw [c4];rfl)]
    rw [if_neg (fun g=>g.2 c4)] at rc
    exact rc
   ·rw [if_neg (by rw [beq_iff_eq];exact c4),if_pos (by omega)]
    rw [if_pos ⟨c,c4⟩] at rc
    exact rc
  ·rw [if_neg c]
   rw [if_neg (fun g=>c g.1)] at rc
   exact rc
theorem rm_l0 (hml:ms.length=l.length) (hn:l.length≤4096) (hD:D≤4096) (kk:Nat):∀ (r j:Nat),j + r=D→phasorref19_Moments.l0 (kk + r * (l.length + 2) + 1) ms (D:Int) (momOf l ms l.length j) ((j:Int) + 1) a0 a1 l=some (momOf l ms l.length D,0)
 | 0,j,hj=>by
  rw [phasorref19_Moments.l0,if_neg (by omega),show j=D by omega]
 | r + 1,j,hj=>by
  rw [show kk + (r + 1) * (l.length + 2) + 1=(kk + r * (l.length + 2) + 1 + l.length + 1) + 1 by rw [Nat.add_mul];omega,phasorref19_Moments.l0,if_pos (by omega)]
  have h1:=rm_l1 (a0:=a0) (a1:=a1) (D:=D) hml hn ((j:Int) + 1) (by omega) (by omega) (momOf l ms l.length j) (by rw [momOf_len];omega) (kk + r * (l.length + 2) + 1) l.length 0 (by omega)
  rw [show rowOf l ms 0 ((j:Int) + 1)=[] from rfl] at h1
  rw [show phasorref19_Moments.l1 (kk + r * (l.length + 2) + 1 + l.length + 1) ms (D:Int) (momOf l ms l.length j) ((j:Int) + 1) [] 0 a0 a1 l=_ from h1,← momOf_next]
  have:=rm_l0 hml hn hD kk r (j + 1) (by omega)
  rw [show ((j + 1:Nat):Int)=(j:Int) + 1 by omega] at this
  exact this
end
theorem early_one {l:List S57} {ms:List Int} (h:EarlyP l ms l.length) (hn:l.length≤4096) (i:Nat) (hi:i < l.length) (hb:(rd_T57 l (i:Int)).f0≠4):1≤rd ms i:=by
 obtain ⟨M,h1,h2⟩:=h.2 i hi
 have h0:=h1.1
 have hu:=h.bound hn i hi
 have hM:M≤100000:=by
  rcases h1.2.1 with e | ⟨t,ht,_,e⟩
  ·omega
  ·have:=h.bound hn t (by omega);omega
 rw [h2]
 unfold early_m wrap64
 rw [if_neg hb]
 omega
theorem pickOps_lim {N:Nat} {l:List S57} {ps:List Int} (hL:Lim N l) (hp:ps.length≤100000) (hv:∀ z ∈ ps,0≤z∧z < l.length):Lim N (pickOps l ps):=by
 refine ⟨by unfold pickOps;rw [List.length_map];omega,fun o ho=>?_⟩
 obtain ⟨z,hz,rfl⟩:=List.mem_map.1 ho
 obtain ⟨z0,z1⟩:=hv z hz
 obtain ⟨i,rfl⟩:∃ i:Nat,(i:Int)=z:=⟨z.toNat,by omega⟩
 exact hL.2 _ (rd_T57_mem (by omega))
theorem Sort_law (a0 a1:Int) (N:Nat) (l:List S57) (qs:List Int) (hL:Lim N l) (hN:N≤17592186044410) (hq:qs.length < 17592186044416) (hN2:∀ o ∈ l,o.f2.length < 17592186044416):∃ (k:Nat) (ms:List (List Int)) (so po:List S57) (e1 e2 e3 s0 s1 p0 p1:Int),
  phasorref08_Copy.f k a0 a1 l=some (a0,a1,l) ∧
  layers_Moments.f k a0 a1 l=some (ms,e1)∧phasorref19_Moments.f k a0 a1 l=some (ms,e1)∧(∀ r ∈ ms,∃ z,phasorlaw19_told.f k r 0 r 0=some (true,z)) ∧
  layers_Sorted.f k a0 a1 l=some (s0,s1,so,e2)∧phasorref19_Sorted.f k a0 a1 l=some (s0,s1,so,e2) ∧
  layers_Prune.f k a0 a1 l qs=some (p0,p1,po,e3)∧phasorref19_Prune.f k a0 a1 l qs=some (p0,p1,po,e3) ∧
  phasorref08_Same.f k a0 a1 l a0 a1 l=some true∧phasorref08_Same.f k s0 s1 so s0 s1 so=some true∧phasorref08_Same.f k p0 p1 po p0 p1 po=some true ∧
  (so.length≤100000∧po.length≤100000)∧(Lim N so∧Lim N po):=by
 obtain ⟨k,hk⟩:∃ k,k=(l.length * (l.length + 2) + l.length * (l.length + 2) + N * (N + 3) + (N + 2) * (N + 4) + 2 * l.length + 2 * N + 100) + (qs.length * (qs.length + 3) + 2 * l.length + l.length + (64 + l.length * 66) * 70 + 100) + (5000 * (2 * l.length + 6) + 5000 * (l.length + 2) + 2 * l.length + 20000) + qs.length + N + l.length + 200000:=⟨_,rfl⟩
 have hB:Big N l.length k:=by unfold Big;omega
 have hB2:BigQ l.length qs.length k:=by unfold BigQ;omega
 have hB3:5000 * (2 * l.length + 6) + 5000 * (l.length + 2) + 2 * l.length + N + 150000 < k:=by omega
 clear hk
 have hl0:=hL.1
 have h0:=copy_self a0 a1 N l hL k (by omega)
 have h17:=same_self a0 a1 N l hL k (by omega)
 have hnil:Lim N ([]:List S57):=⟨by decide,fun o ho=>absurd ho (by simp)⟩
 by_cases hM:May a0 a1 l
 ·have hlen:=hM.2.2.2.2.1
  obtain ⟨es,d,h1,h2,hE,h3,h4,hT⟩:=Depth_yes hL hN hM hB
  obtain ⟨es',h1',hE'⟩:=early_spec hL hN hM
  obtain rfl:=hE.unique hE'
  have hel:=hE.1
  obtain ⟨d0,d1⟩:=hT.bound hE hlen
  obtain ⟨D,rfl⟩:∃ D:Nat,(D:Int)=d:=⟨d.toNat,by omega⟩
  have hmb:∀ z:Int,0≤z→z < l.length→0≤rd es z∧rd es z≤D:=fun z z0 z1=>by
   obtain ⟨i,rfl⟩:∃ i:Nat,(i:Int)=z:=⟨z.toNat,by omega⟩
   exact ⟨(hE.bound hlen i (by omega)).1,hT.2.2 i (by omega)⟩
  have hmom:layers_Moments.f k a0 a1 l=some (momOf l es l.length D,0):=by
   unfold layers_Moments.f
   rw [h3,Option.bind_some,if_pos rfl,if_pos (by omega),if_pos (by omega),h1',Option.bind_some]
   dsimp only
   rw [Int.toNat_natCast,momOf_zero l es D,hel]
   exact pm_go hel hlen (by omega) (fun i hi hb=>⟨early_one hE hlen i hi hb,(hmb i (by omega) (by omega)).2⟩) l.length 0 k (by omega) (by omega)
  have hrmom:phasorref19_Moments.f k a0 a1 l=some (momOf l es l.length D,0):=by
   unfold phasorref19_Moments.f
   rw [h2,Option.bind_some,h4,Option.bind_some,if_pos rfl]
   have hDm:D * (l.length + 2)≤5000 * (l.length + 2):=Nat.mul_le_mul_right _ (by omega)
   have:=rm_l0 (a0:=a0) (a1:=a1) hel hlen (show D≤4096 by omega) (k - D * (l.length + 2) - 1) D 0 (by omega)
   rw [show k - D * (l.length + 2) - 1 + D * (l.length + 2) + 1=k by omega] at this
   exact this
  obtain ⟨ps,g1,g2,g3⟩:=prog_sorted (l:=l) (ms:=es) (fun z z0 z1=>⟨(hmb z z0 z1).1,by have:=(hmb z z0 z1).2;omega⟩)
  have hpl:ps.length≤4096:=Nat.le_trans (pigeon l.length ps (g2.imp (fun {a b} hab e=>by subst e;exact Rl.asymm _ _ hab hab)) (fun x hx=>(g3 x).mp hx)) hlen
  have hpv:∀ j:Nat,j < ps.length→0≤rd ps j∧rd ps j < l.length:=fun j hj=>(g3 _).mp (rd_mem hj)
  have hso:layers_Sorted.f k a0 a1 l=some (a0,a1,pickOps l ps,0):=by
   unfold layers_Sorted.f
   rw [h1,Option.bind_some,if_pos rfl,if_pos ⟨hel,by rw [hel];omega⟩]
   dsimp only
   rw [hel,g1,Option.bind_some,only_spec a0 a1 N l hL ps (by omega) hpv k (by omega)]
   rfl
  have hrso:phasorref19_Sorted.f k a0 a1 l=some (a0,a1,pickOps l ps,0):=by
   unfold phasorref19_Sorted.f
   rw [h2,Option.bind_some,h4,Option.bind_some,if_pos rfl]
   have hDm:((D:Int) + 1).toNat * (2 * l.length + 6)≤5000 * (2 * l.length + 6):=Nat.mul_le_mul_right _ (by omega)
   have:=ref_sorted (a0:=a0) (a1:=a1) hel hlen (show (0:Int)≤D by omega) (show (D:Int)≤4096 by omega) hmb (k - ((D:Int) + 1).toNat * (2 * l.length + 6) - 1) ps g2 g3
   rw [show k - ((D:Int) + 1).toNat * (2 * l.length + 6) - 1 + ((D:Int) + 1).toNat * (2 * l.length + 6) + 1=k by omega] at this
   dsimp only
   rw [this,ronly_spec a0 a1 N l hL ps (by omega) hpv _ (by omega)]
   rfl
  have hLs:=pickOps_lim hL (show ps.length≤100000 by omega) (fun z hz=>(g3 z).mp hz)
  obtain ⟨cs,e3,h8,h9,h10,h11⟩:=Cone_yes hL hM qs hq true hB hB2
  have hcv:∀ j:Nat,j < cs.length→0≤rd cs j∧rd cs j < l.length:=fun j hj=>h11 _ (rd_mem hj)
  have hLc:=pickOps_lim hL (show cs.length≤100000 by omega) h11
  have hpr:∃ p0 p1 po,layers_Prune.f k a0 a1 l qs=some (p0,p1,po,e3)∧phasorref19_Prune.f k a0 a1 l qs=some (p0,p1,po,e3)∧po.length≤4096∧Lim N po:=by
   unfold layers_Prune.f phasorref19_Prune.f layers_Past.f phasorref19_Past.f
   rw [h8,h9]
   by_cases c:e3=0
   ·subst c
    refine ⟨a0,a1,pickOps l cs,?_,?_,by unfold pickOps;rw [List.length_map];exact h10,hLc⟩
    ·simp only [Option.bind_some,if_true,only_spec a0 a1 N l hL cs (by omega) hcv k (by omega)]
    ·simp only [Option.bind_some,if_true,ronly_spec a0 a1 N l hL cs (by omega) hcv k (by omega)]
   ·refine ⟨0,0,[],?_,?_,by decide,hnil⟩
    ·simp only [Option.bind_some,if_neg c]
    ·simp only [Option.bind_some,if_neg c]
  obtain ⟨p0,p1,po,hp1,hp2,hp3,hp4⟩:=hpr
  have hsl:(pickOps l ps).length=ps.length:=by unfold pickOps;rw [List.length_map]
  refine ⟨k,_,_,po,0,0,e3,a0,a1,p0,p1,h0,hmom,hrmom,fun r hr=>?_,hso,hrso,hp1,hp2,h17,same_self a0 a1 N _ hLs k (by omega),same_self p0 p1 N _ hp4 k (by omega),⟨by omega,by omega⟩,hLs,hp4⟩
  obtain ⟨j,_,rfl⟩:=List.mem_map.1 hr
  have:=rowOf_len l es l.length ((j:Int) + 1)
  exact told_self _ 0 (by omega) k (by omega)
 ·obtain ⟨h1,h2⟩:=Early_no hL hM hB
  obtain ⟨h3,h4⟩:=Depth_no hL hM hB
  obtain ⟨h8,h9⟩:=Cone_no hL hM qs true hB
  refine ⟨k,[],[],[],80,80,80,0,0,0,0,h0,?_,?_,fun r hr=>absurd hr (by simp),?_,?_,?_,?_,h17,same_self 0 0 N _ hnil k (by simp only [List.length_nil];omega),same_self 0 0 N _ hnil k (by simp only [List.length_nil];omega),by decide,hnil,hnil⟩
  ·unfold layers_Moments.f;rw [h3];rfl
  ·unfold phasorref19_Moments.f;rw [h2,Option.bind_some,h4];rfl
  ·unfold layers_Sorted.f;rw [h1];rfl
  ·unfold phasorref19_Sorted.f;rw [h2,Option.bind_some,h4];rfl
  ·unfold layers_Prune.f layers_Past.f;rw [h8];rfl
  ·unfold phasorref19_Prune.f phasorref19_Past.f;rw [h9];rfl
end Go.Proofs.Ytpnfhddcnnoclaa.Px
