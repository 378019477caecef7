import Derived.Test.YtfhlgbgclkahnaaM3
section
set_option linter.unusedVariables false
set_option linter.unusedSimpArgs false
set_option maxRecDepth 100000
namespace Fd
open Go Fw Go.Proofs

abbrev G4:Ar:= .ty (.pair i64 (.pair i64 (.pair i64 (.pair i64 .unit))))
abbrev R4:=Int×Int×Int×Int×Unit
def RF (q:Int):R4:=(q,Pl.lpf q,Pl.K q,Pl.Mod q,())
def Pl.okr (f:R4):Prop:=isQ f.1∧f=RF f.1
theorem okr_RF {q:Int} (h:isQ q):Pl.okr (RF q):=⟨h,rfl⟩

def C29:Con:=⟨[G4,I],[I],fun(x:R4×Int×Unit)=>Pl.okr x.1,fun(x:R4×Int×Unit)=>(x.2.1%x.1.1,()),none⟩
def C31:Con:=⟨[G4,I,I],[I],fun(x:R4×Int×Int×Unit)=>Pl.okr x.1∧Pl.inQ x.1.1 x.2.1∧Pl.inQ x.1.1 x.2.2.1,fun(x:R4×Int×Int×Unit)=>(Pl.add x.1.1 x.2.1 x.2.2.1,()),none⟩
def C33:Con:=⟨[G4,I,I],[I],fun(x:R4×Int×Int×Unit)=>Pl.okr x.1∧Pl.inQ x.1.1 x.2.1∧Pl.inQ x.1.1 x.2.2.1,fun(x:R4×Int×Int×Unit)=>(Pl.sub x.1.1 x.2.1 x.2.2.1,()),none⟩
def C35:Con:=⟨[G4,I,I],[I],fun(x:R4×Int×Int×Unit)=>Pl.okr x.1∧Pl.inQ x.1.1 x.2.1∧Pl.inQ x.1.1 x.2.2.1,fun(x:R4×Int×Int×Unit)=>(Pl.mul x.1.1 x.2.1 x.2.2.1,()),none⟩
def C96:Con:=⟨[G4,I],[I],fun(x:R4×Int×Unit)=>Pl.okr x.1∧Pl.inQ x.1.1 x.2.1,fun(x:R4×Int×Unit)=>(Pl.neg x.1.1 x.2.1,()),none⟩
def C40:Con:=⟨[G4,I,I],[I],fun(x:R4×Int×Int×Unit)=>Pl.okr x.1∧Pl.inQ x.1.1 x.2.1∧0≤x.2.2.1∧x.2.2.1≤4611686018427387904,fun(x:R4×Int×Int×Unit)=>(Pl.pow x.1.1 x.2.1 x.2.2.1,()),none⟩
def C99:Con:=⟨[G4,I],[I],fun(x:R4×Int×Unit)=>Pl.okr x.1∧Pl.inQ x.1.1 x.2.1,fun(x:R4×Int×Unit)=>(Pl.inv x.1.1 x.2.1,()),none⟩
def C124:Con:=C147
def C141:Con:=C165
def Pl.okTm (p a b:Int):Prop:= ∃q,isQ q∧p=Pl.lpf q∧Pl.inQ q a∧Pl.inQ q b
def C98:Con:=⟨[I,I,I],[I],fun(x:Int×Int×Int×Unit)=>Pl.okTm x.2.2.1 x.1 x.2.1,fun(x:Int×Int×Int×Unit)=>(Pl.tms x.2.2.1 x.1 x.2.1,()),none⟩
def Pl.okRs (p m a:Int):Prop:=(2≤p∧p≤65536)∧(0≤a∧a≤4611686018427387904)∧ ∃d:Nat,1≤d∧d≤16∧p^d≤m∧m<2*p^d∧p^d≤65536
def C97:Con:=⟨[I,I,I],[I],fun(x:Int×Int×Int×Unit)=>Pl.okRs x.2.2.1 x.2.1 x.1,fun(x:Int×Int×Int×Unit)=>(Pl.rst x.2.2.1 x.2.1 x.1,()),none⟩
def Pl.okQ (q:Int):Bool:=decide (2≤q)&&(decide (q≤65536)&&decide (1≤Pl.K q))
theorem okQ_iff {q:Int}:Pl.okQ q=true↔isQ q:=by unfold Pl.okQ isQ;simp
def Pl.newR (q:Int):R4:=bif Pl.okQ q then RF q else(0,0,0,0,())
def C79:Con:=⟨[I],[G4,B],fun(x:Int×Unit)=>True,fun(x:Int×Unit)=>(Pl.newR x.1,Pl.okQ x.1,()),none⟩
def Hf2:Hints:=⟨[],[(1,[2])],[],[],[]⟩
def H31:Hints:=⟨[],[(1,[3])],[(0,⟨[3],[(1,si),(2,si),(7,si),(8,si)]⟩)],[],[]⟩
def H96:Hints:=⟨[],[(1,[2])],[(0,⟨[2],[(1,si),(5,si),(6,si)]⟩)],[],[]⟩
def H40:Hints:=⟨[],[(1,[3])],[(0,⟨[3],[(1,si),(2,si),(7,si)]⟩)],[],[]⟩
def H98:Hints:=⟨[32],[(12,[1000009])],[(0,⟨[2,7,8],[(10,si),(9,so)]⟩),(2,⟨[2,7,8,10],[(11,si),(9,so)]⟩)],[],[]⟩
def H97:Hints:=⟨[14,78],[(11,[1000007])],[(0,⟨[2,8],[(7,so)]⟩),(2,⟨[2,8,9,10],[(11,si),(7,so)]⟩),(4,⟨[2,8],[(7,so)]⟩)],[],[]⟩
abbrev s4:Sh:= .box [I,I,I,I]
def H79:Hints:=lo [(0,⟨[0],[(4,si),(2,s4)]⟩),(2,⟨[0,4],[(5,si),(6,si),(2,s4)]⟩),(4,⟨[0,4,5],[(7,si),(2,s4)]⟩),(6,⟨[0,4,5,7],[(8,sb),(9,si),(10,si),(2,s4)]⟩),(8,⟨[0,4,5,7,9,10],[(8,sb),(11,si),(2,s4)]⟩)]
def T33:Ctx:=TT [(31,C31),(96,C96)]
def T35:Ctx:=TT [(98,C98),(97,C97)]
def T98:Ctx:=TT [(124,C124),(141,C141)]
def T40:Ctx:=TT [(35,C35)]
def T99:Ctx:=TT [(40,C40)]
def T79:Ctx:=TT [(97,C97)]
end Fd
end
section
set_option linter.unusedVariables false
set_option linter.unusedSimpArgs false
set_option linter.unusedSectionVars false
set_option maxRecDepth 100000
namespace Fd
open Go Fw Go.Proofs
open Fm (V Eqv ev e0 Xp)

theorem dig_step {p:Int} (hp:2≤p) (p6:p≤65536) {W:V} {i:Nat} {n u e:Int} (hn:n=Fm.num p i W) (hu:u=p^i) (hi:p^i≤65536) (he:e=W i%p):
  IntKind.wrap .i64 (n+IntKind.wrap .i64 (e*u))=Fm.num p (i+1) W∧IntKind.wrap .i64 (u*p)=p^(i+1):=by
 have hpow0:0<p^i:=Int.pow_pos (by omega)
 have hE0:=Int.emod_nonneg (W i) (show p≠0 by omega)
 have hE1:=Int.emod_lt_of_pos (W i) (show 0<p by omega)
 have hm:0≤e*u∧e*u≤65536*65536:=⟨Int.mul_nonneg (by omega) (by omega),Int.mul_le_mul (by omega) (by omega) (by omega) (by omega)⟩
 have hup:0≤u*p∧u*p≤65536*65536:=⟨Int.mul_nonneg (by omega) (by omega),Int.mul_le_mul (by omega) (by omega) (by omega) (by omega)⟩
 obtain⟨r0,r1⟩:=Fm.num_range (p:=p) (by omega) (n:=i) (v:=W)
 refine⟨?_, ?_⟩
 ·rw[wrap_i64 (x:=e*u) (by omega) (by omega),wrap_i64 (by omega) (by omega),num_snoc,hn,hu,he,Int.mul_comm (p^i)]
 ·rw[wrap_i64 (by omega) (by omega),hu];exact(Int.pow_succ p i).symm
theorem dig_end {p:Int} (hp:2≤p) {W:V} {a b:Int} (a0:0≤a) (b0:0≤b) {i K:Nat} (ha:a<p^K) (hb:b<p^K) (hai:a/p^i=0) (hbi:b/p^i=0) (hW: ∀j,Fm.dg p a j=0→Fm.dg p b j=0→p∣W j):Fm.num p i W=Fm.num p K W:=by
 have zt: ∀(z:Int),0≤z→ ∀m j:Nat,z<p^m→m≤j→Fm.dg p z j=0:=by
  intro z z0 m j hz hmj
  simp only[Fm.dg]
  rw[Int.ediv_eq_zero_of_lt z0 (Int.lt_of_lt_of_le hz (pow_mono hp hmj))]
  simp
 have lt_of: ∀z:Int,0≤z→z/p^i=0→z<p^i:=by
  intro z z0 hz
  rcases ilt z (p^i)with h|h
  ·exact h
  ·have:=(Int.le_ediv_iff_mul_le (Int.pow_pos (show 0<p by omega)) (a:=1) (b:=z) (c:=p^i)).2 (by omega)
   omega
 have tail: ∀m:Nat,a<p^m→b<p^m→ ∀j,m≤j→p∣W j:=fun m ha hb j hj=>hW j (zt a a0 m j ha hj) (zt b b0 m j hb hj)
 rcases Nat.le_total i K with hle|hle
 ·have:=num_tail (tail i (lt_of a a0 hai) (lt_of b b0 hbi)) (K-i)
  rw[←this];congr 1;omega
 ·have:=num_tail (tail K ha hb) (i-K)
  rw[←this];congr 1;omega
theorem dig_le {p z q:Int} {i:Nat} (hp:2≤p) (z0:0≤z) (z1:z<q) (hq:q≤65536) (h:z/p^i>0):p^i≤65536:=by
 rcases ilt z (p^i)with h'|h'
 ·rw[Int.ediv_eq_zero_of_lt z0 h']at h;omega
 ·omega
theorem dig_div {p x z:Int} {i:Nat} (hp:2≤p) (hx:x=z/p^i):x/p=z/p^(i+1):=by
 have:0<p^i:=Int.pow_pos (by omega)
 rw[hx,Int.pow_succ,Int.ediv_mul,if_neg (by omega),Int.add_zero]
theorem div_lt {x p:Int} (hp:2≤p) (hx:0<x):x/p<x:=Int.ediv_lt_of_lt_mul (by omega) (by
 have:x*2≤x*p:=Int.mul_le_mul_of_nonneg_left hp (by omega)
 omega)
theorem okr_open {q p k m:Int} (h:Pl.okr (q,p,k,m,())):isQ q∧p=Pl.lpf q∧k=Pl.K q∧m=Pl.Mod q:=by
 obtain⟨h1,h2⟩:=h
 simp only[RF]at h2
 injection h2 with _ h2
 injection h2 with h3 h2
 injection h2 with h4 h2
 injection h2 with h5 _
 exact⟨h1,h3,h4,h5⟩
theorem vc29: ∀x,C29.pre x→VC (TT []) Hf2 Try.f29 C29 x:=by
 rintro⟨⟨(q:Int),(p:Int),(k:Int),(m:Int),⟨⟩⟩,(a:Int),⟨⟩⟩ (hr:Pl.okr _)
 obtain⟨hq,_,_,_⟩:=okr_open hr
 show q≠(0:Int)∧q≠(0:Int)∧((IntKind.i64.wrap (a.tmod q+q)).tmod q,())=C29.post ((q,p,k,m,()),a,())
 have q2:=hq.1
 have q6:=hq.2.1
 have h1:=Int.tmod_lt_of_pos a (show 0<q by omega)
 have h2:=Int.lt_tmod_of_pos a (show 0<q by omega)
 rw[wrap_i64 (by omega) (by omega),tmod_pos (by omega)]
 refine⟨by omega,by omega, ?_⟩
 show _=(a%q,())
 congr 1
 rw[Int.add_emod_right]
 rcases ilt a 0 with h|h
 ·have h3:=Int.emod_add_mul_ediv a q
  have h4:=Int.tmod_add_mul_tdiv a q
  rw[←h3]at h4 
  have:a.tmod q=a%q+q*(a/q-a.tdiv q):=by
   have h5:=Int.tmod_add_mul_tdiv a q
   have h6:=Int.emod_add_mul_ediv a q
   grind
  rw[this,Int.add_mul_emod_self_left,Int.emod_emod_of_dvd _ (Int.dvd_refl q)]
 ·rw[tmod_pos h,Int.emod_emod_of_dvd _ (Int.dvd_refl q)]
theorem vc31: ∀x,C31.pre x→VC (TT []) H31 Try.f31 C31 x:=by
 rintro⟨⟨(q:Int),(p:Int),(k:Int),(m:Int),⟨⟩⟩,(a:Int),(b:Int),⟨⟩⟩ ⟨(hr:Pl.okr _),(⟨a0,a1⟩:Pl.inQ q a),(⟨b0,b1⟩:Pl.inQ q b)⟩
 obtain⟨hq,hP,_,_⟩:=okr_open hr
 show∃(n:Nat),itl (fun(G:Int×Int×Int×Int×PUnit→Prop) (x:Int×Int×Int×Int×PUnit)=>Br (decide (x.fst>(0:Int))) (p≠(0:Int)∧p≠(0:Int)∧p≠(0:Int)∧p≠(0:Int)∧p≠(0:Int)∧G (IntKind.i64.wrap (Int.tdiv x.fst p),IntKind.i64.wrap (Int.tdiv x.snd.fst p),IntKind.i64.wrap (x.snd.snd.fst+IntKind.i64.wrap ((IntKind.i64.wrap (Int.tmod x.fst p+Int.tmod x.snd.fst p)).tmod p*x.snd.snd.snd.fst)),IntKind.i64.wrap (x.snd.snd.snd.fst*p),())) (Br (decide (x.snd.fst>(0:Int))) (p≠(0:Int)∧p≠(0:Int)∧p≠(0:Int)∧p≠(0:Int)∧p≠(0:Int)∧G (IntKind.i64.wrap (Int.tdiv x.fst p),IntKind.i64.wrap (Int.tdiv x.snd.fst p),IntKind.i64.wrap (x.snd.snd.fst+IntKind.i64.wrap ((IntKind.i64.wrap (Int.tmod x.fst p+Int.tmod x.snd.fst p)).tmod p*x.snd.snd.snd.fst)),IntKind.i64.wrap (x.snd.snd.snd.fst*p),())) ((x.snd.snd.fst,())=C31.post ((q,p,k,m,()),a,b,())))) n (a,b,(0:Int),(1:Int),())
 have hp:=hq.prime.1
 have hp6:=hq.p6
 have hq6:=hq.2.1
 have hqp:=hq.pow
 rw[←hP]at hp hp6 hqp
 let W:V:=Fm.add (Fm.dg p a) (Fm.dg p b)
 have fin: ∀i:Nat,a/p^i=0→b/p^i=0→Fm.num p i W=Pl.add q a b:=fun i h1 h2=>by
  have e:Pl.add q a b=Fm.num p (Pl.K q).toNat (Fm.add (Fm.dg p a) (Fm.dg p b)):=by rw[hP];rfl
  rw[e]
  exact dig_end hp a0 b0 (hqp▸a1) (hqp▸b1) h1 h2 fun j h3 h4=>by show p∣Fm.dg p a j+Fm.dg p b j;rw[h3,h4];exact Int.dvd_zero p
 refine itl_rule (fun s=> ∃i:Nat,s.1=a/p^i∧s.2.1=b/p^i∧s.2.2.1=Fm.num p i W∧s.2.2.2.1=p^i) (fun s=>(s.1+s.2.1).toNat) ⟨0,by simp,by simp,rfl,by simp⟩ ?_
 rintro⟨x,y,n,u,⟨⟩⟩ G ⟨i,hx,hy,hn,hu⟩ hG
 simp only at hx hy hn hu hG⊢
 have hpow0:0<p^i:=Int.pow_pos (by omega)
 have hx0:0≤x:=by rw[hx];exact Int.ediv_nonneg a0 (by omega)
 have hy0:0≤y:=by rw[hy];exact Int.ediv_nonneg b0 (by omega)
 have hxa:x≤a:=by rw[hx];exact Int.ediv_le_self _ a0
 have hyb:y≤b:=by rw[hy];exact Int.ediv_le_self _ b0
 have hdx:x/p≤x:=Int.ediv_le_self _ hx0
 have hdy:y/p≤y:=Int.ediv_le_self _ hy0
 have hdx0:0≤x/p:=Int.ediv_nonneg hx0 (by omega)
 have hdy0:0≤y/p:=Int.ediv_nonneg hy0 (by omega)
 have mx:=Int.emod_nonneg x (show p≠0 by omega)
 have my:=Int.emod_nonneg y (show p≠0 by omega)
 have lx:=Int.emod_lt_of_pos x (show 0<p by omega)
 have ly:=Int.emod_lt_of_pos y (show 0<p by omega)
 have he:(x%p+y%p)%p=W i%p:=by rw[hx,hy];rfl
 rw[tmod_pos hx0,tmod_pos hy0,tdiv_pos hx0,tdiv_pos hy0,wrap_i64 (x:=x%p+y%p) (by omega) (by omega),tmod_pos (by omega)]
 refine Br_of (fun h=> ?_) (fun h=>Br_of (fun h2=> ?_) (fun h2=> ?_))
 ·have h:x>0:=of_decide_eq_true h
  obtain⟨e1,e2⟩:=dig_step hp hp6 hn hu (dig_le hp a0 a1 hq6 (by rw[←hx];exact h)) he
  have:=div_lt hp h
  rw[e1,e2,wrap_i64 (x:=x/p) (by omega) (by omega),wrap_i64 (x:=y/p) (by omega) (by omega)]
  exact⟨by omega,by omega,by omega,by omega,by omega,hG _ ⟨i+1,dig_div hp hx,dig_div hp hy,rfl,rfl⟩ (by simp only;omega)⟩
 ·have h2:y>0:=of_decide_eq_true h2
  obtain⟨e1,e2⟩:=dig_step hp hp6 hn hu (dig_le hp b0 b1 hq6 (by rw[←hy];exact h2)) he
  have:=div_lt hp h2
  rw[e1,e2,wrap_i64 (x:=x/p) (by omega) (by omega),wrap_i64 (x:=y/p) (by omega) (by omega)]
  exact⟨by omega,by omega,by omega,by omega,by omega,hG _ ⟨i+1,dig_div hp hx,dig_div hp hy,rfl,rfl⟩ (by simp only;omega)⟩
 ·have h: ¬x>0:=of_decide_eq_false h
  have h2: ¬y>0:=of_decide_eq_false h2
  show(n,())=(Pl.add q a b,())
  rw[hn,fin i (by omega) (by omega)]
theorem vc96: ∀x,C96.pre x→VC (TT []) H96 Try.f96 C96 x:=by
 rintro⟨⟨(q:Int),(p:Int),(k:Int),(m:Int),⟨⟩⟩,(a:Int),⟨⟩⟩ ⟨(hr:Pl.okr _),(⟨a0,a1⟩:Pl.inQ q a)⟩
 obtain⟨hq,hP,_,_⟩:=okr_open hr
 show∃(n:Nat),itl (fun(G:Int×Int×Int×PUnit→Prop) (x:Int×Int×Int×PUnit)=>Br (decide (x.fst>(0:Int))) (p≠(0:Int)∧p≠(0:Int)∧p≠(0:Int)∧G (IntKind.i64.wrap (Int.tdiv x.fst p),IntKind.i64.wrap (x.snd.fst+IntKind.i64.wrap ((IntKind.i64.wrap (p-Int.tmod x.fst p)).tmod p*x.snd.snd.fst)),IntKind.i64.wrap (x.snd.snd.fst*p),())) ((x.snd.fst,())=C96.post ((q,p,k,m,()),a,()))) n (a,(0:Int),(1:Int),())
 have hp:=hq.prime.1
 have hp6:=hq.p6
 have hq6:=hq.2.1
 have hqp:=hq.pow
 rw[←hP]at hp hp6 hqp
 let W:V:=Fm.smul (-1) (Fm.dg p a)
 have fin: ∀i:Nat,a/p^i=0→Fm.num p i W=Pl.neg q a:=fun i h1=>by
  have e:Pl.neg q a=Fm.num p (Pl.K q).toNat (Fm.smul (-1) (Fm.dg p a)):=by rw[hP];rfl
  rw[e]
  exact dig_end hp a0 a0 (hqp▸a1) (hqp▸a1) h1 h1 fun j h3 _=>by show p∣ -1*Fm.dg p a j;rw[h3];exact Int.dvd_zero p
 refine itl_rule (fun s=> ∃i:Nat,s.1=a/p^i∧s.2.1=Fm.num p i W∧s.2.2.1=p^i) (fun s=>s.1.toNat) ⟨0,by simp,rfl,by simp⟩ ?_
 rintro⟨x,n,u,⟨⟩⟩ G ⟨i,hx,hn,hu⟩ hG
 simp only at hx hn hu hG⊢
 have hpow0:0<p^i:=Int.pow_pos (by omega)
 have hx0:0≤x:=by rw[hx];exact Int.ediv_nonneg a0 (by omega)
 have hxa:x≤a:=by rw[hx];exact Int.ediv_le_self _ a0
 have hdx0:0≤x/p:=Int.ediv_nonneg hx0 (by omega)
 have hdx:x/p≤x:=Int.ediv_le_self _ hx0
 have mx:=Int.emod_nonneg x (show p≠0 by omega)
 have lx:=Int.emod_lt_of_pos x (show 0<p by omega)
 have he:(p-x%p)%p=W i%p:=by
  rw[hx]
  show(p-a/p^i%p)%p=(-1*(a/p^i%p))%p
  rw[show p-a/p^i%p= -1*(a/p^i%p)+p by omega,Int.add_emod_right]
 rw[tmod_pos hx0,tdiv_pos hx0,wrap_i64 (x:=p-x%p) (by omega) (by omega),tmod_pos (by omega)]
 refine Br_of (fun h=> ?_) (fun h=> ?_)
 ·have h:x>0:=of_decide_eq_true h
  obtain⟨e1,e2⟩:=dig_step hp hp6 hn hu (dig_le hp a0 a1 hq6 (by rw[←hx];exact h)) he
  have:=div_lt hp h
  rw[e1,e2,wrap_i64 (x:=x/p) (by omega) (by omega)]
  exact⟨by omega,by omega,by omega,hG _ ⟨i+1,dig_div hp hx,rfl,rfl⟩ (by simp only;omega)⟩
 ·have h: ¬x>0:=of_decide_eq_false h
  show(n,())=(Pl.neg q a,())
  rw[hn,fin i (by omega)]
section
variable {q : Int} (hq : isQ q)
include hq
theorem add_inQ (a b:Int):Pl.inQ q (Pl.add q a b):=(in_iff hq _).1 (Fm.Fld.add_in (fld_ok hq) a b)
theorem sub_inQ (a b:Int):Pl.inQ q (Pl.sub q a b):=(in_iff hq _).1 (Fm.Fld.sub_in (fld_ok hq) a b)
theorem neg_inQ (a:Int):Pl.inQ q (Pl.neg q a):=(in_iff hq _).1 (Fm.Fld.neg_in (fld_ok hq) a)
theorem mul_inQ (a b:Int):Pl.inQ q (Pl.mul q a b):=(in_iff hq _).1 (Fm.Fld.mul_in (fld_ok hq) a b)
theorem pow_inQ (a n:Int):Pl.inQ q (Pl.pow q a n):=(in_iff hq _).1 (Fm.Fld.pow_in (fld_ok hq) a _)
theorem inv_inQ (a:Int):Pl.inQ q (Pl.inv q a):=pow_inQ hq a _
theorem emod_inQ (a:Int):Pl.inQ q (a%q):=⟨Int.emod_nonneg _ (by have:=hq.1;omega),Int.emod_lt_of_pos _ (by have:=hq.1;omega)⟩
theorem zero_inQ:Pl.inQ q 0:=⟨by omega,by have:=hq.1;omega⟩
theorem one_inQ:Pl.inQ q 1:=⟨by omega,by have:=hq.1;omega⟩
theorem gen_inQ:Pl.inQ q (Pl.gen q):=⟨by have:=(gen_spec hq).1;omega,(gen_spec hq).2.1⟩
theorem sub_neg (a b:Int):Pl.sub q a b=Pl.add q a (Pl.neg q b):=Fm.Fld.sub_eq (fld_ok hq) a b
end
theorem vc33: ∀x,C33.pre x→VC T33 Hf3 Try.f33 C33 x:=by
 rintro⟨⟨(q:Int),(p:Int),(k:Int),(m:Int),⟨⟩⟩,(a:Int),(b:Int),⟨⟩⟩ ⟨(hr:Pl.okr _),(ha:Pl.inQ q a),(hb:Pl.inQ q b)⟩
 obtain⟨hq,_,_,_⟩:=okr_open hr
 show(Pl.okr (q,p,k,m,())∧Pl.inQ q b)∧
   (Pl.okr (q,p,k,m,())∧Pl.inQ q a∧Pl.inQ q (Pl.neg q b))∧
    (Pl.add q a (Pl.neg q b),())=C33.post ((q,p,k,m,()),a,b,())
 refine⟨⟨hr,hb⟩,⟨hr,ha,neg_inQ hq b⟩, ?_⟩
 show _=(Pl.sub q a b,())
 rw[sub_neg hq]
theorem vc98: ∀x,C98.pre x→VC T98 H98 Try.f98 C98 x:=by
 rintro⟨(a:Int),(b:Int),(p:Int),⟨⟩⟩ ⟨q,hq,(hP:p=_),(⟨a0,a1⟩:Pl.inQ q a),(⟨b0,b1⟩:Pl.inQ q b)⟩
 show Pl.okN a p∧Pl.okN b p∧Br ((↑(Pl.digs p a).length:Int)==(0:Int)) (((0:Int),())=C98.post (a,b,p,())) (Br ((↑(Pl.digs p b).length:Int)==(0:Int)) (((0:Int),())=C98.post (a,b,p,())) ((0:Int)≤IntKind.i64.wrap (IntKind.i64.wrap ((↑(Pl.digs p a).length:Int)+(↑(Pl.digs p b).length:Int))-(1:Int))∧IntKind.i64.wrap (IntKind.i64.wrap ((↑(Pl.digs p a).length:Int)+(↑(Pl.digs p b).length:Int))-(1:Int))=IntKind.i64.wrap (IntKind.i64.wrap ((↑(Pl.digs p a).length:Int)+(↑(Pl.digs p b).length:Int))-(1:Int))∧IntKind.i64.wrap (IntKind.i64.wrap ((↑(Pl.digs p a).length:Int)+(↑(Pl.digs p b).length:Int))-(1:Int))*(8:Int)≤(140737488355328:Int)∧ ∃(n:Nat),itl (fun(G:Int×List Int×PUnit→Prop) (x:Int×List Int×PUnit)=>Br (decide (x.fst<(↑(Pl.digs p a).length:Int))) (∃(n:Nat),itl (fun(G_1:Int×List Int×PUnit→Prop) (x_1:Int×List Int×PUnit)=>Br (decide (x_1.fst<(↑(Pl.digs p b).length:Int))) ((0:Int)≤IntKind.i64.wrap (x.fst+x_1.fst)∧IntKind.i64.wrap (x.fst+x_1.fst)<(↑(List.length x_1.snd.fst):Int)∧(0:Int)≤IntKind.i64.wrap (x.fst+x_1.fst)∧IntKind.i64.wrap (x.fst+x_1.fst)<(↑(List.length x_1.snd.fst):Int)∧(0:Int)≤x.fst∧x.fst<(↑(Pl.digs p a).length:Int)∧(0:Int)≤x_1.fst∧x_1.fst<(↑(Pl.digs p b).length:Int)∧p≠(0:Int)∧(0:Int)≤IntKind.i64.wrap (x.fst+x_1.fst)∧IntKind.i64.wrap (x.fst+x_1.fst)<(↑(List.length x_1.snd.fst):Int)∧(0:Int)≤IntKind.i64.wrap (x.fst+x_1.fst)∧IntKind.i64.wrap (x.fst+x_1.fst)<(↑(List.length x_1.snd.fst):Int)∧G_1 (IntKind.i64.wrap (x_1.fst+(1:Int)),List.set x_1.snd.fst (IntKind.i64.wrap (x.fst+x_1.fst)).toNat ((IntKind.i64.wrap (rd i64 x_1.snd.fst (IntKind.i64.wrap (x.fst+x_1.fst))+IntKind.i64.wrap (rd i64 (Pl.digs p a) x.fst*rd i64 (Pl.digs p b) x_1.fst))).tmod p),())) (G (IntKind.i64.wrap (x.fst+(1:Int)),x_1.snd))) n ((0:Int),x.snd)) (Pl.okL p x.snd.1∧(Pl.num p x.snd.1,())=C98.post (a,b,p,()))) n ((0:Int),List.replicate (IntKind.i64.wrap (IntKind.i64.wrap ((↑(Pl.digs p a).length:Int)+(↑(Pl.digs p b).length:Int))-(1:Int))).toNat (0:Int),())))
 have hp2:=hq.prime.1
 have hp6:=hq.p6
 have hq6:=hq.2.1
 have hk17:=hq.K64
 have la:=digs_lt hq a0 a1
 have lb:=digs_lt hq b0 b1
 have hpk:=hq.pow
 rw[←hP]at hp2 hp6 la lb hpk
 have hax: ∀c∈Fm.digs p 64 a,0≤c∧c<p:=Fm.digs_in hp2 64 a
 have hbx: ∀c∈Fm.digs p 64 b,0≤c∧c<p:=Fm.digs_in hp2 64 b
 refine⟨⟨a0,by omega,hp2,hp6⟩,⟨b0,by omega,hp2,hp6⟩, ?_⟩
 have ed: ∀z,Pl.digs p z=Fm.digs p 64 z:=fun _=>rfl
 rw[ed,ed]
 have tms0: ∀ {x y:Int},(Fm.digs p 64 x=[]∨Fm.digs p 64 y=[])→Pl.tms p x y=0:=by
  intro x y h
  unfold Pl.tms
  refine(Fm.num_eq_zero (by omega)).2 fun i hi=> ?_
  have:cv (Fm.digs p 64 x) (Fm.digs p 64 y)=Fm.zero:=by
   unfold cv
   rcases h with h|h<;>rw[h]
   ·rfl
   ·rw[show ev [] 100 [] e0=Fm.zero from rfl,Fm.ev_zero]
  rw[this]
  exact Int.dvd_zero p
 refine Br_of (fun h=> ?_) (fun h=>Br_of (fun h2=> ?_) (fun h2=> ?_))
 ·have h:=eq_of_beq h
  show((0:Int),())=(Pl.tms p a b,())
  rw[tms0 (.inl (List.eq_nil_of_length_eq_zero (by omega)))]
 ·have h2:=eq_of_beq h2
  show((0:Int),())=(Pl.tms p a b,())
  rw[tms0 (.inr (List.eq_nil_of_length_eq_zero (by omega)))]
 have xa:0<(Fm.digs p 64 a).length:=by
  rcases Nat.eq_zero_or_pos (Fm.digs p 64 a).length with e|e
  ·rw[e]at h;cases h
  ·exact e
 have xb:0<(Fm.digs p 64 b).length:=by
  rcases Nat.eq_zero_or_pos (Fm.digs p 64 b).length with e|e
  ·rw[e]at h2;cases h2
  ·exact e
 have hpost:C98.post (a,b,p,())=(Fm.num p ((Fm.digs p 64 a).length+(Fm.digs p 64 b).length-1) (cv (Fm.digs p 64 a) (Fm.digs p 64 b)),()):=rfl
 rw[hpost]
 generalize Fm.digs p 64 a=x at*
 generalize Fm.digs p 64 b=y at*
 have elen:IntKind.wrap .i64 (IntKind.wrap .i64 ((x.length:Int)+(y.length:Int))-1)=((x.length+y.length-1:Nat):Int):=by
  rw[wrap_i64 (x:=(x.length:Int)+(y.length:Int)) (by omega) (by omega),wrap_i64 (by omega) (by omega)];omega
 rw[elen,Int.toNat_natCast]
 refine⟨by omega,rfl,by omega, ?_⟩
 have mulb: ∀ {u v:Int},0≤u∧u<p→0≤v∧v<p→0≤u*v∧u*v≤4294967296:=fun hu hv=>mul_small hp6 hu.1 hu.2 hv.1 hv.2
 refine itl_rule (fun s=> ∃i:Nat,s.1=(i:Int)∧i≤x.length∧s.2.1.length=x.length+y.length-1∧(∀c∈s.2.1,0≤c∧c<p)∧Eqv p 100 (ev [] 100 s.2.1 e0) (ev [] 100 (x.take i) (ev [] 100 y e0))) (fun s=>((x.length:Int)-s.1).toNat)
  ⟨0,rfl,Nat.zero_le _,by simp,by intro c hc;have:=(List.mem_replicate.1 hc).2;subst this;omega,by simp only;rw[Fm.ev_replicate];exact Eqv.refl _⟩ ?_
 rintro⟨i0,out,⟨⟩⟩ G ⟨i,e1,hi,hlen,hin,heq⟩ hG
 simp only at e1 hlen hin heq hG⊢
 subst e1
 refine Br_of (fun h=> ?_) (fun h=> ?_)
 ·have h:(i:Int)<x.length:=of_decide_eq_true h
  refine itl_rule (fun s=> ∃j:Nat,s.1=(j:Int)∧j≤y.length∧s.2.1.length=x.length+y.length-1∧(∀c∈s.2.1,0≤c∧c<p)∧Eqv p 100 (ev [] 100 s.2.1 e0) (Fm.add (ev [] 100 (x.take i) (ev [] 100 y e0)) (Fm.smul (x.getD i 0) (Xp [] 100 i (ev [] 100 (y.take j) e0))))) (fun s=>((y.length:Int)-s.1).toNat)
   ⟨0,rfl,Nat.zero_le _,hlen,hin,by simp only;rw[conv_row0];exact heq⟩ ?_
  rintro⟨j0,out2,⟨⟩⟩ G1 ⟨j,e1,hj,hlen2,hin2,heq2⟩ hG1
  simp only at e1 hlen2 hin2 heq2 hG1⊢
  subst e1
  refine Br_of (fun h2=> ?_) (fun h2=> ?_)
  ·have h2:(j:Int)<y.length:=of_decide_eq_true h2
   have ew:IntKind.wrap .i64 ((i:Int)+j)=((i+j:Nat):Int):=by rw[wrap_i64 (by omega) (by omega)];omega
   have hlt:i+j<out2.length:=by omega
   have hg:=hin2 _ (getD_mem hlt)
   obtain⟨m0,m1⟩:=mulb (hax _ (getD_mem (l:=x) (i:=i) (by omega))) (hbx _ (getD_mem (l:=y) (i:=j) (by omega)))
   rw[ew,rd_getD,rd_getD,rd_getD,Int.toNat_natCast,Int.toNat_natCast,Int.toNat_natCast,wrap_i64 (x:=x.getD i 0*y.getD j 0) (by omega) (by omega),wrap_i64 (x:=out2.getD (i+j) 0+x.getD i 0*y.getD j 0) (by omega) (by omega),tmod_pos (by omega),wrap_i64 (x:=(j:Int)+1) (by omega) (by omega)]
   have hfin:=hG1 (((j:Int)+1),out2.set (i+j) ((out2.getD (i+j) 0+x.getD i 0*y.getD j 0)%p),()) ⟨j+1,rfl,by omega,by simp only;rw[List.length_set];exact hlen2,
    set_mem hin2 ⟨Int.emod_nonneg _ (by omega),Int.emod_lt_of_pos _ (by omega)⟩,conv_step (by omega) (by omega) hlt heq2⟩ (by simp only;omega)
   refine⟨by omega,by omega,by omega,by omega,by omega,by omega,by omega,by omega,by omega,by omega,by omega,by omega,by omega, ?_⟩
   first|exact hfin|exact⟨by omega,by omega,hfin⟩
  ·have h2: ¬(j:Int)<y.length:=of_decide_eq_false h2
   have:j=y.length:=by omega
   subst this
   rw[conv_row (by omega)]at heq2
   rw[wrap_i64 (by omega) (by omega)]
   exact hG _ ⟨i+1,rfl,by omega,hlen2,hin2,heq2⟩ (by simp only;omega)
 ·have h: ¬(i:Int)<x.length:=of_decide_eq_false h
  have:i=x.length:=by omega
  subst this
  rw[List.take_length]at heq
  have hlb:p^out.length≤4611686018427387904:=by
   have h1:p^out.length≤p^((Pl.K q).toNat+(Pl.K q).toNat):=pow_mono hp2 (by omega)
   rw[Int.pow_add, ←hpk]at h1
   have h2:q*q≤65536*65536:=Int.mul_le_mul hq6 hq6 (by have:=hq.1;omega) (by omega)
   omega
  refine⟨⟨⟨hp2,hp6⟩,hin,hlb,by omega⟩, ?_⟩
  show(numL p out,())=_
  congr 1
  rw[numL_eq (v:=cv x y) (fun i hi=> ?_) hin,hlen]
  have h1:=heq i (by omega)
  rw[ev_low (fun t ht=>by rw[List.getD_eq_getElem?_getD,List.getElem?_eq_none (by omega)];rfl) (by omega)]at h1
  exact h1
theorem snd29:Sound Try.prog 29 C29:=fn_sound (T:=TT []) (fn:=Try.f29) (tok0 trivial) Try.func29 (by kernel_rfl) Hf2 vc29 (by kernel_rfl)
theorem snd31:Sound Try.prog 31 C31:=fn_sound (T:=TT []) (fn:=Try.f31) (tok0 trivial) Try.func31 (by kernel_rfl) H31 vc31 (by kernel_rfl)
theorem snd96:Sound Try.prog 96 C96:=fn_sound (T:=TT []) (fn:=Try.f96) (tok0 trivial) Try.func96 (by kernel_rfl) H96 vc96 (by kernel_rfl)
theorem snd33:Sound Try.prog 33 C33:=fn_sound (T:=T33) (fn:=Try.f33) (tok0 ⟨snd31,snd96,trivial⟩) Try.func33 (by kernel_rfl) Hf3 vc33 (by kernel_rfl)
end Fd
end
section
set_option linter.unusedVariables false
set_option linter.unusedSimpArgs false
set_option maxRecDepth 100000
namespace Fd
open Go Fw Go.Proofs
open Fm (V Eqv ev e0 Xp)

theorem ev_drop {md:List Int} {d:Nat} {x:List Int} (hx:0<x.length) (h0:x.getD (x.length-1) 0=0) (v:V):ev md d (x.take (x.length-1)) v=ev md d x v:=by
 have h1:=Fm.ev_take (md:=md) (d:=d) x (i:=x.length-1) (by omega) v
 rw[show x.length-1+1=x.length by omega,List.take_length,h0,Fm.zero_smul,Fm.add_zero]at h1
 exact h1.symm
theorem vc97: ∀x,C97.pre x→VC T98 H97 Try.f97 C97 x:=by
 rintro⟨(a:Int),(m:Int),(p:Int),⟨⟩⟩ ⟨⟨(p2:2≤p),(p6:p≤65536)⟩,⟨(a0:0≤a),(a1:a≤4611686018427387904)⟩,d,d1,d16,(m0:p^d≤m),(m1:m<2*p^d),(pd:p^d≤65536)⟩
 show Pl.okN a p∧Pl.okN m p∧ ∃(n:Nat),itl (fun(G:List Int×PUnit→Prop) (x:List Int×PUnit)=>Br (decide ((↑(List.length x.fst):Int)≥(↑(Pl.digs p m).length:Int))) ((0:Int)≤IntKind.i64.wrap ((↑(List.length x.fst):Int)-(1:Int))∧IntKind.i64.wrap ((↑(List.length x.fst):Int)-(1:Int))<(↑(List.length x.fst):Int)∧(0:Int)≤IntKind.i64.wrap ((↑(List.length x.fst):Int)-(1:Int))∧IntKind.i64.wrap ((↑(List.length x.fst):Int)-(1:Int))<(↑(List.length x.fst):Int)∧ ∃(n:Nat),itl (fun(G_1:Int×List Int×PUnit→Prop) (x_1:Int×List Int×PUnit)=>Br (decide (x_1.fst<(↑(Pl.digs p m).length:Int))) ((0:Int)≤IntKind.i64.wrap (IntKind.i64.wrap ((↑(List.length x.fst):Int)-(↑(Pl.digs p m).length:Int))+x_1.fst)∧IntKind.i64.wrap (IntKind.i64.wrap ((↑(List.length x.fst):Int)-(↑(Pl.digs p m).length:Int))+x_1.fst)<(↑(List.length x_1.snd.fst):Int)∧(0:Int)≤IntKind.i64.wrap (IntKind.i64.wrap ((↑(List.length x.fst):Int)-(↑(Pl.digs p m).length:Int))+x_1.fst)∧IntKind.i64.wrap (IntKind.i64.wrap ((↑(List.length x.fst):Int)-(↑(Pl.digs p m).length:Int))+x_1.fst)<(↑(List.length x_1.snd.fst):Int)∧(0:Int)≤x_1.fst∧x_1.fst<(↑(Pl.digs p m).length:Int)∧p≠(0:Int)∧(0:Int)≤IntKind.i64.wrap (IntKind.i64.wrap ((↑(List.length x.fst):Int)-(↑(Pl.digs p m).length:Int))+x_1.fst)∧IntKind.i64.wrap (IntKind.i64.wrap ((↑(List.length x.fst):Int)-(↑(Pl.digs p m).length:Int))+x_1.fst)<(↑(List.length x_1.snd.fst):Int)∧(0:Int)≤IntKind.i64.wrap (IntKind.i64.wrap ((↑(List.length x.fst):Int)-(↑(Pl.digs p m).length:Int))+x_1.fst)∧IntKind.i64.wrap (IntKind.i64.wrap ((↑(List.length x.fst):Int)-(↑(Pl.digs p m).length:Int))+x_1.fst)<(↑(List.length x_1.snd.fst):Int)∧G_1 (IntKind.i64.wrap (x_1.fst+(1:Int)),List.set x_1.snd.fst (IntKind.i64.wrap (IntKind.i64.wrap ((↑(List.length x.fst):Int)-(↑(Pl.digs p m).length:Int))+x_1.fst)).toNat ((IntKind.i64.wrap (rd i64 x_1.snd.fst (IntKind.i64.wrap (IntKind.i64.wrap ((↑(List.length x.fst):Int)-(↑(Pl.digs p m).length:Int))+x_1.fst))+IntKind.i64.wrap (IntKind.i64.wrap (p-rd i64 x.fst (IntKind.i64.wrap ((↑(List.length x.fst):Int)-(1:Int))))*rd i64 (Pl.digs p m) x_1.fst))).tmod p),())) (∃(n:Nat),itl (fun(G_2:List Int×PUnit→Prop) (x:List Int×PUnit)=>Br (decide ((↑(List.length x.fst):Int)>(0:Int))) ((0:Int)≤IntKind.i64.wrap ((↑(List.length x.fst):Int)-(1:Int))∧IntKind.i64.wrap ((↑(List.length x.fst):Int)-(1:Int))<(↑(List.length x.fst):Int)∧(0:Int)≤IntKind.i64.wrap ((↑(List.length x.fst):Int)-(1:Int))∧IntKind.i64.wrap ((↑(List.length x.fst):Int)-(1:Int))<(↑(List.length x.fst):Int)∧Br (rd i64 x.fst (IntKind.i64.wrap ((↑(List.length x.fst):Int)-(1:Int)))==(0:Int)) ((0:Int)≤IntKind.i64.wrap ((↑(List.length x.fst):Int)-(1:Int))∧IntKind.i64.wrap ((↑(List.length x.fst):Int)-(1:Int))≤(↑(List.length x.fst):Int)∧G_2 (List.take (IntKind.i64.wrap ((↑(List.length x.fst):Int)-(1:Int))).toNat x.fst,())) (G x)) (G x)) n x_1.snd)) n ((0:Int),x)) (Pl.okL p x.1∧(Pl.num p x.1,())=C97.post (a,m,p,()))) n (Pl.digs p a,())
 have ed: ∀z,Pl.digs p z=Fm.digs p 64 z:=fun _=>rfl
 rw[ed,ed]
 have hpd0:0<p^d:=Int.pow_pos (by omega)
 obtain⟨ml,mt⟩:=Fm.digs_monic p2 (f:=64) (by omega) m0 m1
 have hmin: ∀c∈Fm.digs p 64 m,0≤c∧c<p:=Fm.digs_in p2 64 m
 have hain: ∀c∈Fm.digs p 64 a,0≤c∧c<p:=Fm.digs_in p2 64 a
 have hal:(Fm.digs p 64 a).length≤64:=by
  refine Fm.digs_len_le p2 64 64 a a0 ?_
  have h1:(2:Int)^64≤p^64:=by
   obtain⟨k,rfl⟩: ∃k:Nat,p=k:=⟨p.toNat,by omega⟩
   have:2^64≤k^64:=Nat.pow_le_pow_left (by omega) 64
   exact_mod_cast this
  have h2:(4611686018427387904:Int)<2^64:=by decide
  omega
 have hpost:C97.post (a,m,p,())=(Fm.num p ((Fm.digs p 64 m).length-1) (ev (Fm.digs p 64 m) ((Fm.digs p 64 m).length-1) (Fm.digs p 64 a) e0),()):=rfl
 rw[hpost,ml,Nat.add_sub_cancel]
 have hmd:ev (Fm.digs p 64 m) d (Fm.digs p 64 m) e0=Fm.zero:=Fm.ev_md d1 ml mt
 refine⟨⟨a0,a1,p2,p6⟩,⟨by omega,by omega,p2,p6⟩, ?_⟩
 generalize Fm.digs p 64 m=y at*
 generalize Fm.digs p 64 a=x0 at*
 refine itl_rule (fun s=>s.1.length≤64∧(∀c∈s.1,0≤c∧c<p)∧Eqv p d (ev y d s.1 e0) (ev y d x0 e0)) (fun s=>s.1.length) ⟨hal,hain,Eqv.refl _⟩ ?_
 rintro⟨x,⟨⟩⟩ G ⟨hxl,hxin,hxe⟩ hG
 simp only at hxl hxin hxe hG⊢
 refine Br_of (fun h=> ?_) (fun h=> ?_)
 ·have h:(x.length:Int)≥(d+1:Nat):=of_decide_eq_true h
  have hlast:x.length-1<x.length:=by omega
  have ewl:IntKind.wrap .i64 ((x.length:Int)-1)=((x.length-1:Nat):Int):=by rw[wrap_i64 (by omega) (by omega)];omega
  rw[ewl,rd_getD,Int.toNat_natCast]
  have hc:=hxin _ (getD_mem hlast)
  refine⟨by omega,by omega,by omega,by omega, ?_⟩
  generalize hcv:x.getD (x.length-1) 0=c at hc⊢
  refine itl_rule (fun s=> ∃j:Nat,s.1=(j:Int)∧j≤d+1∧s.2.1.length=x.length∧(∀c∈s.2.1,0≤c∧c<p)∧(j≤d→s.2.1.getD (x.length-1) 0=c)∧(j=d+1→s.2.1.getD (x.length-1) 0=0)∧
    Eqv p d (ev y d s.2.1 e0) (Fm.add (ev y d x e0) (Fm.smul (p-c) (Xp y d (x.length-(d+1)) (ev y d (y.take j) e0))))) (fun s=>((d:Int)+1-s.1).toNat)
   ⟨0,rfl,by omega,rfl,hxin,fun _=>hcv,fun h=>by omega, ?_⟩ ?_
  ·simp only
   rw[List.take_zero,ev,Fm.Xp_zero,Fm.smul_zero,Fm.add_zero];exact Eqv.refl _
  ·rintro⟨j0,l2,⟨⟩⟩ G1 ⟨j,e1,hj,hl2,hin2,hc2,hc3,heq2⟩ hG1
   simp only at e1 hl2 hin2 hc2 hc3 heq2 hG1⊢
   subst e1
   refine Br_of (fun hjm=> ?_) (fun hjm=> ?_)
   ·have hjm:(j:Int)<(d+1:Nat):=of_decide_eq_true hjm
    have ew:IntKind.wrap .i64 (IntKind.wrap .i64 ((x.length:Int)-(d+1:Nat))+j)=((x.length-(d+1)+j:Nat):Int):=by
     rw[wrap_i64 (x:=(x.length:Int)-(d+1:Nat)) (by omega) (by omega),wrap_i64 (by omega) (by omega)];omega
    have hlt:x.length-(d+1)+j<l2.length:=by omega
    have hg:=hin2 _ (getD_mem hlt)
    have hmj:=hmin _ (getD_mem (l:=y) (i:=j) (by omega))
    have hmul:0≤(p-c)*y.getD j 0∧(p-c)*y.getD j 0≤65536*65536:=⟨Int.mul_nonneg (by omega) (by omega),Int.mul_le_mul (by omega) (by omega) (by omega) (by omega)⟩
    rw[ew,rd_getD,rd_getD,Int.toNat_natCast,Int.toNat_natCast,wrap_i64 (x:=p-c) (by omega) (by omega),wrap_i64 (x:=(p-c)*y.getD j 0) (by omega) (by omega),wrap_i64 (x:=l2.getD (x.length-(d+1)+j) 0+(p-c)*y.getD j 0) (by omega) (by omega),
     tmod_pos (by omega),wrap_i64 (x:=(j:Int)+1) (by omega) (by omega)]
    refine⟨by omega,by omega,by omega,by omega,by omega,by omega,by omega,by omega,by omega,by omega,by omega,hG1 _ ⟨j+1,rfl,by omega,by simp only;rw[List.length_set];exact hl2,
     set_mem hin2 ⟨Int.emod_nonneg _ (by omega),Int.emod_lt_of_pos _ (by omega)⟩,fun hle=> ?_,fun he=> ?_,lin_step (by omega) hlt heq2 (emod_dvd _ _)⟩ (by simp only;omega)⟩
    ·simp only
     rw[set_getD _ _ _ _ hlt,if_neg (by omega)];exact hc2 (by omega)
    ·have hjd:j=d:=by omega
     subst hjd
     simp only
     rw[set_getD _ _ _ _ hlt,if_pos (by omega),show x.length-(j+1)+j=x.length-1 by omega,hc2 (Nat.le_refl _),mt,Int.mul_one,show c+(p-c)=p by omega,Int.emod_self]
   ·have hjm: ¬(j:Int)<(d+1:Nat):=of_decide_eq_false hjm
    have hjd:j=d+1:=by omega
    subst hjd
    rw[←ml,List.take_length,hmd,Fm.Xp_zero,Fm.smul_zero,Fm.add_zero]at heq2
    have hz:=hc3 rfl
    refine itl_rule (fun s=>s.1.length≤x.length∧(∀c∈s.1,0≤c∧c<p)∧Eqv p d (ev y d s.1 e0) (ev y d x0 e0)∧(s.1.length=x.length→s.1.getD (x.length-1) 0=0)) (fun s=>s.1.length) ⟨by simp only;omega,hin2,heq2.trans hxe,fun _=>hz⟩ ?_
    rintro⟨z,⟨⟩⟩ G2 ⟨hzl,hzin,hze,hzz⟩ hG2
    simp only at hzl hzin hze hzz hG2⊢
    have out:(z.length=x.length→False)→G (z,()):=fun hne=>by
     have hne':z.length≠x.length:=hne
     exact hG _ ⟨by simp only;omega,hzin,hze⟩ (by simp only;omega)
    refine Br_of (fun h3=> ?_) (fun h3=> ?_)
    ·have h3:(z.length:Int)>0:=of_decide_eq_true h3
     have ewz:IntKind.wrap .i64 ((z.length:Int)-1)=((z.length-1:Nat):Int):=by rw[wrap_i64 (by omega) (by omega)];omega
     rw[ewz,rd_getD,Int.toNat_natCast]
     refine⟨by omega,by omega,by omega,by omega,Br_of (fun h4=> ?_) (fun h4=> ?_)⟩
     ·have h4:=eq_of_beq h4
      refine⟨by omega,by omega,hG2 _ ⟨by simp;omega,fun c hc=>hzin c (List.mem_of_mem_take hc), ?_,fun he=>by
       have he:min (z.length-1) z.length=x.length:=by simpa using he
       exfalso;omega⟩ (by simp;omega)⟩
      simp only
      rw[ev_drop (by omega) h4]
      exact hze
     ·refine out fun he=> ?_
      rw[he,hzz he]at h4
      cases h4
    ·have h3: ¬(z.length:Int)>0:=of_decide_eq_false h3
     exact out fun he=>by omega
 ·have h: ¬(x.length:Int)≥(d+1:Nat):=of_decide_eq_false h
  have hxd:x.length≤d:=by omega
  have hpl:p^x.length≤p^d:=pow_mono p2 hxd
  refine⟨⟨⟨p2,p6⟩,hxin,by omega,hxl⟩, ?_⟩
  show(numL p x,())=_
  congr 1
  rw[←Fm.num_congr hxe,Fm.ev_e0 hxd,numL_eq (v:=fun j=>x.getD j 0) (fun i hi=>Fm.dvd_self_sub _) hxin]
  have:=num_tail (p:=p) (n:=x.length) (v:=fun j=>x.getD j 0) (fun j hj=>by
   rw[List.getD_eq_getElem?_getD,List.getElem?_eq_none hj];exact Int.dvd_zero p) (d-x.length)
  rw[show x.length+(d-x.length)=d by omega]at this
  exact this.symm
theorem vc124: ∀x,C124.pre x→VC (TT []) H147 Try.f124 C124 x:=by
 rintro⟨(n:Int),(p:Int),⟨⟩⟩ ⟨(n0:0≤n),(n1:n≤4611686018427387904),(p2:2≤p),(p6:p≤65536)⟩
 show∃(n_1:Nat),itl (fun(G:Int×List Int×PUnit→Prop) (x:Int×List Int×PUnit)=>Br (decide (x.fst>(0:Int))) (p≠(0:Int)∧((↑(List.length x.snd.fst):Int)+(↑[Int.tmod x.fst p].length:Int))*(8:Int)≤(140737488355328:Int)∧p≠(0:Int)∧G (IntKind.i64.wrap (Int.tdiv x.fst p),List.append x.snd.fst [Int.tmod x.fst p],())) (x.snd=C124.post (n,p,()))) n_1 (n,[],())
 refine itl_rule (fun s=> ∃f:Nat,Fm.digs p 64 n=s.2.1++Fm.digs p f s.1∧0≤s.1∧s.1≤4611686018427387904∧s.1<p^f∧s.2.1.length+f=64) (fun s=>s.1.toNat) ⟨64,rfl,n0,n1, ?_,rfl⟩ ?_
 ·have h1:(2:Int)^64≤p^64:=by
   obtain⟨k,rfl⟩: ∃k:Nat,p=k:=⟨p.toNat,by omega⟩
   have:2^64≤k^64:=Nat.pow_le_pow_left (by omega) 64
   exact_mod_cast this
  have h2:(4611686018427387904:Int)<2^64:=by decide
  exact Int.lt_of_le_of_lt n1 (Int.lt_of_lt_of_le h2 h1)
 ·rintro⟨m,out,⟨⟩⟩ G ⟨f,e,m0,m1,mf,hlen⟩ hG
  simp only at e m0 m1 mf hlen hG⊢
  refine Br_of (fun h=> ?_) (fun h=> ?_)
  ·have h:m>0:=of_decide_eq_true h
   obtain⟨f',rfl⟩: ∃f',f=f'+1:=by
    cases f with
    |zero=>simp at mf;omega
    |succ f=>exact⟨f,rfl⟩
   have hd0:0≤m/p:=Int.ediv_nonneg m0 (by omega)
   have hdlt:m/p<m:=Int.ediv_lt_of_lt_mul (by omega) (by
    have:m*2≤m*p:=Int.mul_le_mul_of_nonneg_left p2 m0
    omega)
   rw[tdiv_pos m0,tmod_pos m0,wrap_i64 (by omega) (by omega)]
   refine⟨by omega, ?_,by omega,hG _ ⟨f', ?_,hd0,by simp only;omega, ?_, ?_⟩ (by simp only;omega)⟩
   ·simp only[List.length_singleton]
    have:(out.length:Int)≤64:=by omega
    omega
   ·show _=List.append out [m%p]++_
    rw[e,Fm.digs,decide_eq_true h,cond_true]
    simp
   ·exact Int.ediv_lt_of_lt_mul (by omega) (by rw[←Int.pow_succ];exact mf)
   ·show(out++[m%p]).length+f'=64
    simp
    omega
  ·have h: ¬m>0:=of_decide_eq_false h
   have:m=0:=by omega
   subst this
   have hz:Fm.digs p f 0=[]:=by cases f<;>simp[Fm.digs]
   rw[hz,List.append_nil]at e
   show(out,())=(Pl.digs p n,())
   unfold Pl.digs
   rw[e]
theorem vc141: ∀x,C141.pre x→VC (TT []) H165 Try.f141 C141 x:=by
 rintro⟨(l:List Int),(p:Int),⟨⟩⟩ ⟨⟨(p2:2≤p),(p6:p≤65536)⟩,(hl: ∀c∈l,0≤c∧c<p),(hb:p^l.length≤4611686018427387904),(h64:l.length≤64)⟩
 show∃(n:Nat),itl (fun(G:Int×Int×PUnit→Prop) (x:Int×Int×PUnit)=>Br (decide (x.snd.fst≥(0:Int))) ((0:Int)≤x.snd.fst∧x.snd.fst<(↑l.length:Int)∧G (IntKind.i64.wrap (IntKind.i64.wrap (x.fst*p)+rd i64 l x.snd.fst),IntKind.i64.wrap (x.snd.fst-(1:Int)),())) ((x.fst,())=C141.post (l,p,()))) n ((0:Int),IntKind.i64.wrap ((↑l.length:Int)-(1:Int)),())
 rw[wrap_i64 (by omega) (by omega)]
 refine itl_rule (fun s=> ∃i:Nat,s.2.1=(i:Int)-1∧i≤l.length∧s.1=numL p (l.drop i)) (fun s=>(s.2.1+1).toNat) ⟨l.length,rfl,Nat.le_refl _,by simp[numL]⟩ ?_
 rintro⟨n,j,⟨⟩⟩ G ⟨i,e1,hi,e2⟩ hG
 simp only at e1 e2 hG⊢
 subst e1 e2
 refine Br_of (fun h=> ?_) (fun h=> ?_)
 ·have h:(i:Int)-1≥0:=of_decide_eq_true h
  obtain⟨k,rfl⟩: ∃k,i=k+1:=⟨i-1,by omega⟩
  have e:(((k+1:Nat):Int)-1)=k:=by omega
  rw[e]at hG⊢
  rw[rd_getD,Int.toNat_natCast]
  have hk:k<l.length:=by omega
  obtain⟨r1,r2⟩:=numL_range p2 (l:=l.drop k) fun c hc=>hl c (List.mem_of_mem_drop hc)
  rw[numL_drop hk]at r1 r2
  have hg:=hl _ (getD_mem hk)
  obtain⟨s1,s2⟩:=numL_range p2 (l:=l.drop (k+1)) fun c hc=>hl c (List.mem_of_mem_drop hc)
  have hpow:p^(l.drop k).length≤p^l.length:=pow_mono p2 (by simp)
  have hm:=Int.mul_nonneg s1 (show 0≤p by omega)
  rw[wrap_i64 (x:=numL p (l.drop (k+1))*p) (by omega) (by omega),wrap_i64 (by omega) (by omega),wrap_i64 (by omega) (by omega)]
  exact⟨by omega,by omega,hG _ ⟨k,rfl,by omega,(numL_drop hk).symm⟩ (by simp only;omega)⟩
 ·have h: ¬((i:Int)-1≥0):=of_decide_eq_false h
  have:i=0:=by omega
  subst this
  rfl
theorem snd124:Sound Try.prog 124 C124:=fn_sound (T:=TT []) (fn:=Try.f124) (tok0 trivial) Try.func124 (by kernel_rfl) H147 vc124 (by kernel_rfl)
theorem snd141:Sound Try.prog 141 C141:=fn_sound (T:=TT []) (fn:=Try.f141) (tok0 trivial) Try.func141 (by kernel_rfl) H165 vc141 (by kernel_rfl)
theorem snd98:Sound Try.prog 98 C98:=fn_sound (T:=T98) (fn:=Try.f98) (tok0 ⟨snd124,snd141,trivial⟩) Try.func98 (by kernel_rfl) H98 vc98 (by kernel_rfl)
theorem snd97:Sound Try.prog 97 C97:=fn_sound (T:=T98) (fn:=Try.f97) (tok0 ⟨snd124,snd141,trivial⟩) Try.func97 (by kernel_rfl) H97 vc97 (by kernel_rfl)
theorem tms_le {q a b:Int} (hq:isQ q) (ha:Pl.inQ q a) (hb:Pl.inQ q b):0≤Pl.tms (Pl.lpf q) a b∧Pl.tms (Pl.lpf q) a b≤4294967296:=by
 have hp2:=hq.prime.1
 obtain⟨h1,h2⟩:=Fm.num_range (p:=Pl.lpf q) (by omega) (n:=(Fm.digs (Pl.lpf q) 64 a).length+(Fm.digs (Pl.lpf q) 64 b).length-1) (v:=cv (Fm.digs (Pl.lpf q) 64 a) (Fm.digs (Pl.lpf q) 64 b))
 refine⟨h1, ?_⟩
 have la:=digs_lt hq ha.1 ha.2
 have lb:=digs_lt hq hb.1 hb.2
 have h3:Pl.lpf q^((Fm.digs (Pl.lpf q) 64 a).length+(Fm.digs (Pl.lpf q) 64 b).length-1)≤Pl.lpf q^((Pl.K q).toNat+(Pl.K q).toNat):=pow_mono hp2 (by omega)
 rw[Int.pow_add, ←hq.pow]at h3
 have h4:q*q≤65536*65536:=Int.mul_le_mul hq.2.1 hq.2.1 (by have:=hq.1;omega) (by omega)
 have h5:Pl.tms (Pl.lpf q) a b<Pl.lpf q^((Fm.digs (Pl.lpf q) 64 a).length+(Fm.digs (Pl.lpf q) 64 b).length-1):=h2
 omega
theorem vc35: ∀x,C35.pre x→VC T35 Hf3 Try.f35 C35 x:=by
 rintro⟨⟨(q:Int),(p:Int),(k:Int),(m:Int),⟨⟩⟩,(a:Int),(b:Int),⟨⟩⟩ ⟨(hr:Pl.okr _),(ha:Pl.inQ q a),(hb:Pl.inQ q b)⟩
 obtain⟨hq,hP,hK,hM⟩:=okr_open hr
 show Br (k==(1:Int)) (p≠(0:Int)∧((IntKind.i64.wrap (a*b)).tmod p,())=C35.post ((q,p,k,m,()),a,b,()))
   (Pl.okTm p a b∧Pl.okRs p m (Pl.tms p a b)∧(Pl.rst p m (Pl.tms p a b),())=C35.post ((q,p,k,m,()),a,b,()))
 have hp2:=hq.prime.1
 have hp6:=hq.p6
 refine Br_of (fun h=> ?_) (fun h=> ?_)
 ·have h:=eq_of_beq h
  rw[hK]at h
  have e:=lpf_K1 hq h
  obtain⟨m0,m1⟩:=mul_small hq.2.1 ha.1 ha.2 hb.1 hb.2
  rw[wrap_i64 (by omega) (by omega),tmod_pos m0]
  refine⟨by omega, ?_⟩
  show _=((fld q).mul a b,())
  rw[mul1 hq h,hP,e]
 ·have hK1:Pl.K q≠1:=fun e=>by rw[hK,e]at h;cases h
  obtain⟨t0,t1⟩:=tms_le hq ha hb
  obtain⟨s1,s2,_⟩:=Mod_spec hq
  subst hP hM
  refine⟨⟨q,hq,rfl,ha,hb⟩,⟨⟨hp2,hp6⟩,⟨t0,by omega⟩,(Pl.K q).toNat,by have:=hq.2.2;omega,by have:=hq.K64;omega,by rw[←hq.pow];exact s1,by rw[←hq.pow];exact s2,by rw[←hq.pow];exact hq.2.1⟩, ?_⟩
  show(Fm.rst _ _ _,())=((fld q).mul a b,())
  rw[mul_rst hq ha.1 ha.2 hb.1 hb.2]
theorem snd35:Sound Try.prog 35 C35:=fn_sound (T:=T35) (fn:=Try.f35) (tok0 ⟨snd98,snd97,trivial⟩) Try.func35 (by kernel_rfl) Hf3 vc35 (by kernel_rfl)
theorem vc40: ∀x,C40.pre x→VC T40 H40 Try.f40 C40 x:=by
 rintro⟨⟨(q:Int),(p:Int),(k:Int),(m:Int),⟨⟩⟩,(a:Int),(n:Int),⟨⟩⟩ ⟨(h0:Pl.okr _),(⟨a0,a1⟩:Pl.inQ q a),(n0:0≤n),(n1:n≤4611686018427387904)⟩
 obtain⟨hq,_,_,_⟩:=okr_open h0
 show∃(n_1:Nat),itl (fun(G:Int×Int×Int×PUnit→Prop) (x:Int×Int×Int×PUnit)=>Br (decide (x.snd.fst>(0:Int))) ((2:Int)≠(0:Int)∧Br (Int.tmod x.snd.fst (2:Int)==(1:Int)) ((Pl.okr (q,p,k,m,())∧Pl.inQ q x.snd.snd.fst∧Pl.inQ q x.fst)∧(Pl.okr (q,p,k,m,())∧Pl.inQ q x.fst∧Pl.inQ q x.fst)∧(2:Int)≠(0:Int)∧G (Pl.mul q x.fst x.fst,IntKind.i64.wrap (Int.tdiv x.snd.fst (2:Int)),Pl.mul q x.snd.snd.fst x.fst,())) ((Pl.okr (q,p,k,m,())∧Pl.inQ q x.fst∧Pl.inQ q x.fst)∧(2:Int)≠(0:Int)∧G (Pl.mul q x.fst x.fst,IntKind.i64.wrap (Int.tdiv x.snd.fst (2:Int)),x.snd.snd))) (x.snd.snd=C40.post ((q,p,k,m,()),a,n,()))) n_1 (a,n,(1:Int),())
 have ok:=fld_ok hq
 have hin: ∀x,Pl.inQ q x↔(fld q).In x:=fun x=>(in_iff hq x).symm
 refine itl_rule (fun s=>Pl.inQ q s.1∧0≤s.2.1∧s.2.1≤4611686018427387904∧Pl.inQ q s.2.2.1∧(fld q).mul s.2.2.1 ((fld q).pow s.1 s.2.1.toNat)=(fld q).pow a n.toNat) (fun s=>s.2.1.toNat)
  ⟨⟨a0,a1⟩,n0,n1,(hin 1).2 (Fm.Fld.in1 ok),Fm.Fld.one_mul ok (Fm.Fld.pow_in ok _ _)⟩ ?_
 rintro⟨x,m,out,⟨⟩⟩ G ⟨hx,m0,m1,ho,e⟩ hG
 simp only at hx m0 m1 ho e hG⊢
 refine Br_of (fun h=> ?_) (fun h=> ?_)
 ·have h:m>0:=of_decide_eq_true h
  rw[tmod_pos m0,tdiv_pos m0,wrap_i64 (by omega) (by omega)]
  have hx2:Pl.inQ q (Pl.mul q x x):=(hin _).2 (Fm.Fld.mul_in ok _ _)
  have hxo:Pl.inQ q (Pl.mul q out x):=(hin _).2 (Fm.Fld.mul_in ok _ _)
  have sq: ∀j,(fld q).pow ((fld q).mul x x) j=(fld q).pow x (j+j):=fun j=>by rw[Fm.Fld.mul_pow ok, ←Fm.Fld.pow_add ok]
  refine⟨by omega,Br_of (fun h2=> ?_) (fun h2=> ?_)⟩
  ·have h2:m%2=1:=eq_of_beq h2
   refine⟨⟨h0,ho,hx⟩,⟨h0,hx,hx⟩,by omega,hG _ ⟨hx2,by simp only;omega,by simp only;omega,hxo, ?_⟩ (by simp only;omega)⟩
   show(fld q).mul ((fld q).mul out x) ((fld q).pow ((fld q).mul x x) (m/2).toNat)=_
   rw[sq, ←e,Fm.Fld.mul_assoc ok]
   conv=>rhs;rw[show m.toNat=((m/2).toNat+(m/2).toNat)+1 by omega]
   rw[Fm.Fld.pow,Fm.Fld.mul_comm ok x]
  ·have h2:m%2≠1:=fun h3=>by rw[h3]at h2;cases h2
   refine⟨⟨h0,hx,hx⟩,by omega,hG _ ⟨hx2,by simp only;omega,by simp only;omega,ho, ?_⟩ (by simp only;omega)⟩
   show(fld q).mul out ((fld q).pow ((fld q).mul x x) (m/2).toNat)=_
   rw[sq, ←e,show m.toNat=(m/2).toNat+(m/2).toNat by omega]
 ·have h: ¬m>0:=of_decide_eq_false h
  have hm:m.toNat=0:=by omega
  rw[hm,Fm.Fld.pow,Fm.Fld.mul_one ok ((hin _).1 ho)]at e
  show(out,())=(Pl.pow q a n,())
  unfold Pl.pow
  rw[e]
theorem snd40:Sound Try.prog 40 C40:=fn_sound (T:=T40) (fn:=Try.f40) (tok0 ⟨snd35,trivial⟩) Try.func40 (by kernel_rfl) H40 vc40 (by kernel_rfl)
theorem vc99: ∀x,C99.pre x→VC T99 Hf2 Try.f99 C99 x:=by
 rintro⟨⟨(q:Int),(p:Int),(k:Int),(m:Int),⟨⟩⟩,(a:Int),⟨⟩⟩ ⟨(h0:Pl.okr _),(ha:Pl.inQ q a)⟩
 obtain⟨hq,_,_,_⟩:=okr_open h0
 show(Pl.okr (q,p,k,m,())∧
    Pl.inQ q a∧
     (0:Int)≤IntKind.i64.wrap (q-(2:Int))∧IntKind.i64.wrap (q-(2:Int))≤(4611686018427387904:Int))∧
   (Pl.pow q a (IntKind.i64.wrap (q-(2:Int))),())=C99.post ((q,p,k,m,()),a,())
 have q2:=hq.1
 have q6:=hq.2.1
 rw[wrap_i64 (by omega) (by omega)]
 exact⟨⟨h0,ha,by omega,by omega⟩,rfl⟩
theorem snd99:Sound Try.prog 99 C99:=fn_sound (T:=T99) (fn:=Try.f99) (tok0 ⟨snd40,trivial⟩) Try.func99 (by kernel_rfl) Hf2 vc99 (by kernel_rfl)
end Fd
end
section
set_option linter.unusedVariables false
set_option linter.unusedSimpArgs false
set_option maxRecDepth 100000
namespace Fd
open Go Fw Go.Proofs
open Fm (V Eqv ev e0 Xp)

theorem lpfL_min {q:Int}: ∀(f:Nat) (p:Int),(∀d,2≤d→d<p→ ¬d∣q)→ ∀d,2≤d→d<Pl.lpfL f q p→ ¬d∣q
 |0,p,h,d,d2,dl=>h d d2 dl
 |f+1,p,h,d,d2,dl=>by
  rw[Pl.lpfL]at dl
  by_cases hm:q%p=0
  ·rw[decide_eq_true hm,cond_true]at dl
   exact h d d2 dl
  ·rw[decide_eq_false hm,cond_false]at dl
   refine lpfL_min f (p+1) (fun e e2 el he=> ?_) d d2 dl
   by_cases hep:e=p
   ·subst hep;exact hm (Int.emod_eq_zero_of_dvd he)
   ·exact h e e2 (by omega) he
theorem lpf_min {q d:Int} (d2:2≤d) (h:d<Pl.lpf q): ¬d∣q:=lpfL_min 65537 2 (fun d _ _=>by omega) d d2 h
theorem newR_no {q:Int} (h: ¬isQ q):Pl.newR q=(0,0,0,0,())∧Pl.okQ q=false:=by
 have:Pl.okQ q=false:=by
  cases hb:Pl.okQ q with
  |false=>rfl
  |true=>exact absurd (okQ_iff.1 hb) h
 unfold Pl.newR
 rw[this]
 exact⟨rfl,rfl⟩
theorem newR_yes {q:Int} (h:isQ q):Pl.newR q=RF q∧Pl.okQ q=true:=by
 have:=okQ_iff.2 h
 unfold Pl.newR
 rw[this]
 exact⟨rfl,rfl⟩
theorem vc79: ∀x,C79.pre x→VC T79 H79 Try.f79 C79 x:=by
 rintro⟨(n:Int),⟨⟩⟩ _
 show Br (decide (n<(2:Int))) ((((0:Int),(0:Int),(0:Int),(0:Int),()),false,())=C79.post (n,())) (Br (decide (n>(65536:Int))) ((((0:Int),(0:Int),(0:Int),(0:Int),()),false,())=C79.post (n,())) (∃(n_1:Nat),itl (fun(G:Int×(Int×Int×Int×Int×PUnit)×PUnit→Prop) (x:Int×(Int×Int×Int×Int×PUnit)×PUnit)=>x.fst≠(0:Int)∧Br (n.tmod x.fst !=(0:Int)) (G (IntKind.i64.wrap (x.fst+(1:Int)),x.snd)) (∃(n_2:Nat),itl (fun(G:Int×Int×(Int×Int×Int×Int×PUnit)×PUnit→Prop) (x_1:Int×Int×(Int×Int×Int×Int×PUnit)×PUnit)=>Br (decide (x_1.snd.fst>(1:Int))) (x.fst≠(0:Int)∧Br (Int.tmod x_1.snd.fst x.fst !=(0:Int)) ((((0:Int),(0:Int),(0:Int),(0:Int),()),false,())=C79.post (n,())) (x.fst≠(0:Int)∧G (IntKind.i64.wrap (x_1.fst+(1:Int)),IntKind.i64.wrap (Int.tdiv x_1.snd.fst x.fst),x_1.snd.snd))) (Br (x_1.fst==(1:Int)) (((n,x.fst,(1:Int),x.fst,()),true,())=C79.post (n,())) (∃(n_3:Nat),itl (fun(G:Int×(Int×Int×Int×Int×PUnit)×PUnit→Prop) (x_2:Int×(Int×Int×Int×Int×PUnit)×PUnit)=> ∃(n_4:Nat),itl (fun(G_1:Bool×Int×Int×(Int×Int×Int×Int×PUnit)×PUnit→Prop) (x_3:Bool×Int×Int×(Int×Int×Int×Int×PUnit)×PUnit)=>Br (decide (IntKind.i64.wrap ((2:Int)*x_3.snd.snd.fst)≤x_1.fst)) (Br x_3.fst (∃(n:Nat),itl (fun(G:Bool×Int×(Int×Int×Int×Int×PUnit)×PUnit→Prop) (x_4:Bool×Int×(Int×Int×Int×Int×PUnit)×PUnit)=>Br (decide (x_4.snd.fst<IntKind.i64.wrap ((2:Int)*x_3.snd.fst))) (Br x_4.fst (Pl.okRs x.fst x_4.snd.fst x_2.fst∧G (Pl.rst x.fst x_4.snd.fst x_2.fst !=(0:Int),IntKind.i64.wrap (x_4.snd.fst+(1:Int)),x_4.snd.snd)) (G_1 (x_4.fst,IntKind.i64.wrap (x_3.snd.fst*x.fst),IntKind.i64.wrap (x_3.snd.snd.fst+(1:Int)),x_4.snd.snd))) (G_1 (x_4.fst,IntKind.i64.wrap (x_3.snd.fst*x.fst),IntKind.i64.wrap (x_3.snd.snd.fst+(1:Int)),x_4.snd.snd))) n (x_3.fst,x_3.snd.fst,x_3.snd.snd.snd)) (Br x_3.fst (((n,x.fst,x_1.fst,x_2.fst,()),true,())=C79.post (n,())) (G (IntKind.i64.wrap (x_2.fst+(1:Int)),x_3.snd.snd.snd)))) (Br x_3.fst (((n,x.fst,x_1.fst,x_2.fst,()),true,())=C79.post (n,())) (G (IntKind.i64.wrap (x_2.fst+(1:Int)),x_3.snd.snd.snd)))) n_4 (true,x.fst,(1:Int),x_2.snd)) n_3 (n,x_1.snd.snd)))) n_2 ((0:Int),n,x.snd))) n_1 ((2:Int),((0:Int),(0:Int),(0:Int),(0:Int),()),())))
 have no: ¬isQ n→(((0:Int),(0:Int),(0:Int),(0:Int),()),false,())=C79.post (n,()):=fun h=>by
  show _=(Pl.newR n,Pl.okQ n,())
  rw[(newR_no h).1,(newR_no h).2]
 have yes: ∀p k m:Int,isQ n→p=Pl.lpf n→k=Pl.K n→m=Pl.Mod n→((n,p,k,m,()),true,())=C79.post (n,()):=fun p k m h h1 h2 h3=>by
  show _=(Pl.newR n,Pl.okQ n,())
  rw[(newR_yes h).1,(newR_yes h).2,h1,h2,h3];rfl
 refine Br_of (fun h=>no fun hq=> ?_) (fun h=>Br_of (fun h2=>no fun hq=> ?_) (fun h2=> ?_))
 ·have:=of_decide_eq_true h;have:=hq.1;omega
 ·have:=of_decide_eq_true h2;have:=hq.2.1;omega
 have n2:2≤n:=by have:=of_decide_eq_false h;omega
 have n6:n≤65536:=by have:=of_decide_eq_false h2;omega
 obtain⟨p2,pn,pd,pp⟩:=lpf_spec n2 n6
 refine itl_rule (fun s=>2≤s.1∧s.1≤Pl.lpf n) (fun s=>(Pl.lpf n-s.1).toNat) ⟨by simp only;omega,by simp only;omega⟩ ?_
 rintro⟨p,bx⟩ G ⟨hp1,hp2⟩ hG
 simp only at hp1 hp2 hG⊢
 rw[tmod_pos (by omega)]
 refine⟨by omega,Br_of (fun hm=> ?_) (fun hm=> ?_)⟩
 ·have hm:n%p≠0:=by simpa using hm
  have hne:p≠Pl.lpf n:=fun e=>hm (by rw[e];exact Int.emod_eq_zero_of_dvd pd)
  rw[wrap_i64 (by omega) (by omega)]
  exact hG _ ⟨by simp only;omega,by simp only;omega⟩ (by simp only;omega)
 have hm:n%p=0:=by simpa using hm
 have hpe:p=Pl.lpf n:=by
  rcases ilt p (Pl.lpf n)with h'|h'
  ·exact absurd (Int.dvd_of_emod_eq_zero hm) (lpf_min hp1 h')
  ·omega
 subst hpe
 clear hG hp1 hp2 G
 generalize hP:Pl.lpf n=p at*
 have hKdef:Pl.K n=Pl.kL 64 n p 0:=by unfold Pl.K;rw[hP]
 refine itl_rule (fun s=> ∃f:Nat,Pl.K n=Pl.kL f s.2.1 p s.1∧1≤s.2.1∧s.2.1≤n∧s.2.1<2^f∧0≤s.1∧s.1+(f:Int)=64) (fun s=>s.2.1.toNat) ⟨64,hKdef,by simp only;omega,by simp only;omega,two64 n6,by simp only;omega,by simp only;omega⟩ ?_
 rintro⟨k,m,bx⟩ G ⟨f,eK,m1,mn,mf,k0,kf⟩ hG
 simp only at eK m1 mn mf k0 kf hG⊢
 refine Br_of (fun h=> ?_) (fun h=> ?_)
 ·have h:m>1:=of_decide_eq_true h
  obtain⟨f',rfl⟩: ∃f',f=f'+1:=by
   cases f with
   |zero=>simp at mf;omega
   |succ f=>exact⟨f,rfl⟩
  rw[Pl.kL,decide_eq_true h,cond_true]at eK
  rw[tmod_pos (by omega)]
  refine⟨by omega,Br_of (fun hm2=>no fun hq=> ?_) (fun hm2=> ?_)⟩
  ·have hm2:m%p≠0:=by simpa using hm2
   rw[decide_eq_false hm2,cond_false]at eK
   have:=hq.2.2
   omega
  ·have hm2:m%p=0:=by simpa using hm2
   rw[decide_eq_true hm2,cond_true]at eK
   obtain⟨c,rfl⟩:=Int.dvd_of_emod_eq_zero hm2
   rw[Int.mul_ediv_cancel_left _ (by omega)]at eK
   have hc1:1≤c:=by
    rcases ilt c 1 with h3|h3
    ·have:p*c≤p*0:=Int.mul_le_mul_of_nonneg_left (by omega) (by omega)
     omega
    ·exact h3
   have hc2:2*c≤p*c:=Int.mul_le_mul_of_nonneg_right p2 (by omega)
   rw[tdiv_pos (by omega),Int.mul_ediv_cancel_left _ (by omega),wrap_i64 (by omega) (by omega),wrap_i64 (by omega) (by omega)]
   refine⟨by omega,hG _ ⟨f',eK,hc1,by simp only;omega, ?_,by simp only;omega,by simp only;omega⟩ (by simp only;omega)⟩
   simp only
   rw[Int.pow_succ]at mf
   omega
 have h: ¬m>1:=of_decide_eq_false h
 have hKk:Pl.K n=k:=by
  rw[eK]
  cases f with
  |zero=>rfl
  |succ f=>rw[Pl.kL,decide_eq_false h,cond_false]
 have hq:isQ n:=by
  refine⟨n2,n6, ?_⟩
  rcases K_spec n2 n6 with⟨a,_⟩|⟨a,_⟩
  ·omega
  ·exact a
 have hk1:=hq.2.2
 have hk17:=hq.K64
 clear hG eK kf mf m1 mn G
 obtain⟨M1,M2,M3⟩:=Mod_spec hq
 have hpow:=hq.pow
 rw[hP,hKk]at M3 hpow
 refine Br_of (fun hk=> ?_) (fun hk=> ?_)
 ·have hk:k=1:=eq_of_beq hk
  refine yes p 1 p hq rfl (by omega) ?_
  unfold Pl.Mod
  rw[decide_eq_true (by omega),cond_true,hP]
 have hk:k≠1:=fun e=>by rw[e]at hk;cases hk
 obtain⟨hirr,hless,_⟩:=M3 (by omega)
 obtain⟨kN,rfl⟩: ∃kN:Nat,k=kN:=⟨k.toNat,by omega⟩
 simp only[Int.toNat_natCast]at hirr hless hpow
 refine itl_rule (fun s=>n≤s.1∧s.1≤Pl.Mod n) (fun s=>(Pl.Mod n-s.1).toNat) ⟨by simp only;omega,by simp only;omega⟩ ?_
 rintro⟨m,bx⟩ G ⟨hm1,hm2⟩ hG
 simp only at hm1 hm2 hG⊢
 have done: ∀(b:Bool) (bx':Int×Int×Int×Int×PUnit),(b=true↔Fm.Irr p kN m)→Br b (((n,p,(kN:Int),m,()),true,())=C79.post (n,())) (G (IntKind.wrap .i64 (m+1),bx',())):=by
  intro b bx' hb
  refine Br_of (fun h=> ?_) (fun h=> ?_)
  ·refine yes p kN m hq rfl hKk.symm ?_
   rcases ilt m (Pl.Mod n)with h'|h'
   ·exact absurd (hb.1 h) (hless m hm1 h')
   ·omega
  ·have hne:m≠Pl.Mod n:=fun e=>by rw[←e]at hirr;rw[hb.2 hirr]at h;cases h
   rw[wrap_i64 (by omega) (by omega)]
   exact hG _ ⟨by simp only;omega,by simp only;omega⟩ (by simp only;omega)
 refine itl_rule (fun s=> ∃d:Nat,s.2.2.1=(d:Int)∧1≤d∧2*d≤kN+2∧s.2.1=p^d∧(s.1=true↔ ∀d',1≤d'→d'<d→ ∀x,p^d'≤x→x<2*p^d'→Fm.rst p x m≠0)) (fun s=>((kN:Int)+2-s.2.2.1).toNat)
  ⟨1,rfl,Nat.le_refl _,by omega,by simp only;rw[Int.pow_succ,Int.pow_zero,Int.one_mul],⟨fun _ d' h1 h2=>by omega,fun _=>rfl⟩⟩ ?_
 rintro⟨ok,fr,d0,bx2,⟨⟩⟩ G1 ⟨d,e1,hd1,hd2,e2,hok⟩ hG1
 simp only at e1 e2 hok hG1⊢
 subst e1 e2
 rw[wrap_i64 (x:=2*(d:Int)) (by omega) (by omega)]
 have fin:(ok=false∨ ¬2*d≤kN)→(ok=true↔Fm.Irr p kN m):=by
  intro hcase
  constructor
  ·intro h d' h1 h2 x x1 x2
   rcases hcase with h'|h'
   ·rw[h]at h';cases h'
   ·exact hok.1 h d' h1 (by omega) x x1 x2
  ·intro h
   exact hok.2 fun d' h1 h2=>h d' h1 (by omega)
 refine Br_of (fun hdk=> ?_) (fun hdk=>done ok _ (fin (.inr (by have:=of_decide_eq_false hdk;omega))))
 have hdk:2*(d:Int)≤kN:=of_decide_eq_true hdk
 refine Br_of (fun hk=> ?_) (fun hk=>by
  have:=done ok bx2 (fin (.inl hk))
  rw[hk]at this⊢
  exact this)
 have hpd:p^(d+1)≤n:=by rw[hpow];exact pow_mono p2 (by omega)
 have hpd0:p^d≤n:=by rw[hpow];exact pow_mono p2 (by omega)
 have hpdp:0<p^d:=Int.pow_pos (by omega)
 have hpd1:0<p^(d+1):=Int.pow_pos (by omega)
 have hpds:p^d*p=p^(d+1):=(Int.pow_succ p d).symm
 rw[wrap_i64 (x:=2*p^d) (by omega) (by omega),hpds,wrap_i64 (x:=p^(d+1)) (by omega) (by omega),wrap_i64 (x:=(d:Int)+1) (by omega) (by omega)]
 have next: ∀(b:Bool) (bx':Int×Int×Int×Int×PUnit),(b=true↔ ∀x,p^d≤x→x<2*p^d→Fm.rst p x m≠0)→G1 (b,p^(d+1),(d:Int)+1,bx',()):=by
  intro b bx' hb
  refine hG1 _ ⟨d+1,rfl,by omega,by omega,rfl, ?_⟩ (by simp only;omega)
  simp only
  rw[hb]
  constructor
  ·intro h d' h1 h2
   by_cases e:d'=d
   ·subst e;exact h
   ·exact hok.1 hk d' h1 (by omega)
  ·intro h
   exact h d hd1 (by omega)
 refine itl_rule (fun s=>p^d≤s.2.1∧s.2.1≤2*p^d∧(s.1=true↔ ∀x,p^d≤x→x<s.2.1→Fm.rst p x m≠0)) (fun s=>(2*p^d-s.2.1).toNat) ⟨by simp only;omega,by simp only;omega,⟨fun _ x h1 h2=>by simp only at h2;omega,fun _=>hk⟩⟩ ?_
 rintro⟨ok2,x,bx3,⟨⟩⟩ G2 ⟨hx1,hx2,hok2⟩ hG2
 simp only at hx1 hx2 hok2 hG2⊢
 refine Br_of (fun hx=> ?_) (fun hx=> ?_)
 ·have hx:x<2*p^d:=of_decide_eq_true hx
  refine Br_of (fun hk2=> ?_) (fun hk2=> ?_)
  ·rw[wrap_i64 (x:=x+1) (by omega) (by omega)]
   refine⟨⟨⟨p2,by omega⟩,⟨by omega,by omega⟩,d,hd1,by omega,hx1,hx,by omega⟩,hG2 _ ⟨by simp only;omega,by simp only;omega, ?_⟩ (by simp only;omega)⟩
   simp only
   constructor
   ·intro h y y1 y2
    by_cases e:y=x
    ·subst e
     have:Pl.rst p y m≠0:=by simpa using h
     exact this
    ·exact hok2.1 hk2 y y1 (by omega)
   ·intro h
    have:Pl.rst p x m≠0:=h x hx1 (by omega)
    simpa using this
  ·refine next ok2 bx3 ⟨fun h=>absurd h (by rw[hk2];decide),fun h=>hok2.2 fun y y1 y2=>h y y1 (by omega)⟩
 ·have hx: ¬x<2*p^d:=of_decide_eq_false hx
  have e:x=2*p^d:=by omega
  subst e
  exact next ok2 bx3 hok2
theorem snd79:Sound Try.prog 79 C79:=fn_sound (T:=T79) (fn:=Try.f79) (tok0 ⟨snd97,trivial⟩) Try.func79 (by kernel_rfl) H79 vc79 (by kernel_rfl)
end Fd
end
section
set_option linter.unusedVariables false
set_option linter.unusedSimpArgs false
set_option maxRecDepth 100000
namespace Fd
open Go Fw Go.Proofs

def neClo:D:= .clo 150 []
def genClo (v:D) (g:Int) (f:List D):D:= .clo 146 [.rptr [v], .rptr [n64 g], .rptr [.rptr f]]
def outClo (f:List D):D:= .clo 140 [.rptr [.rptr f]]
def Pl.tells:D→Int→Bool
 | .clo 150 _,c=>decide (c≠0)
 | .clo 146 [.rptr [v], .rptr [.int .i64 g], .rptr [.rptr (_:: .int .i64 q::_)]],r=>decide (Pl.pow (Pl.qA v) g ((q-1)/r)=1)
 | .clo 140 [.rptr [.rptr (_:: .int .i64 q::_)]],a=>decide (a<0)||decide (a≥q)
 |_,_=>false
def Pl.okG (v:D) (g:Int) (f:List D) (r:Int):Prop:= ∃q c0 cs,f=c0:: .int .i64 q::cs∧c0.nr∧D.nrs cs∧Pl.okM v∧Pl.qA v=q∧Pl.inQ q g∧1≤r
def Pl.okO (f:List D):Prop:= ∃q c0 cs,f=c0:: .int .i64 q::cs∧c0.nr∧D.nrs cs
def Pl.tellsOK (v:D) (r:Int):Prop:=v=neClo∨(∃w g f,v=genClo w g f∧Pl.okG w g f r)∨(∃f,v=outClo f∧Pl.okO f)
def Vtell:Con:=⟨[.raw,I],[B],fun(x:D×Int×Unit)=>Pl.tellsOK x.1 x.2.1,fun(x:D×Int×Unit)=>(Pl.tells x.1 x.2.1,()),none⟩
def C150:Con:=⟨[I],[B],fun(x:Int×Unit)=>True,fun(x:Int×Unit)=>(decide (x.1≠0),()),none⟩
def C146:Con:=⟨[I, .raw, .raw, .raw],[B],fun(x:Int×D×D×D×Unit)=> ∃w g f,x.2.1= .rptr [w]∧x.2.2.1= .rptr [n64 g]∧x.2.2.2.1= .rptr [.rptr f]∧Pl.okG w g f x.1,fun(x:Int×D×D×D×Unit)=>(Pl.tells (.clo 146 [x.2.1,x.2.2.1,x.2.2.2.1]) x.1,()),none⟩
def C140:Con:=⟨[I, .raw],[B],fun(x:Int×D×Unit)=> ∃f,x.2.1= .rptr [.rptr f]∧Pl.okO f,fun(x:Int×D×Unit)=>(Pl.tells (.clo 140 [x.2.1]) x.1,()),none⟩
def Pl.index (p:Int→Bool):List Int→Int→Int
 |[],_=> -1
 |x::l,i=>bif p x then i else Pl.index p l (i+1)
def Pl.okTl (l:List Int) (v:D):Prop:=l.length≤1000000000∧v.nr∧(v=neClo∨(∃w g f,v=genClo w g f∧ ∀r∈l,Pl.okG w g f r)∨(∃f,v=outClo f∧Pl.okO f))
def C164:Con:=⟨[L, .raw],[I],fun(x:List Int×D×Unit)=>Pl.okTl x.1 x.2.1,fun(x:List Int×D×Unit)=>(Pl.index (Pl.tells x.2.1) x.1 0,()),none⟩
def C139:Con:=⟨[L, .raw],[B],fun(x:List Int×D×Unit)=>Pl.okTl x.1 x.2.1,fun(x:List Int×D×Unit)=>(x.1.any (Pl.tells x.2.1),()),none⟩
def H164:Hints:=lo [(0,⟨[0,1,7],[(8,si)]⟩)]
def T164:Ctx:=TC [] Vtell
def T139:Ctx:=TT [(164,C164)]
def T146:Ctx:=TT [(100,C100)]

def Pl.okFi (f v:D):Prop:= ∃q c0 cs,isQ q∧f= .rptr (c0:: .int .i64 q::cs)∧c0.nr∧D.nrs cs∧Pl.okM v∧Pl.qA v=q
def C120:Con:=⟨[.raw, .raw],[I],fun(x:D×D×Unit)=>Pl.okFi x.1 x.2.1,fun(x:D×D×Unit)=>(Pl.gen (Pl.qF x.1),()),none⟩
def H120:Hints:=⟨[],[(1,[2,3])],[(0,⟨[2,3,5],[(6, .box [I])]⟩)],[],[]⟩
def T120:Ctx:=TT [(117,C117),(139,C139)]
def Pl.okLe (p k q:Int):Prop:=isQ q∧p=Pl.lpf q∧k=Pl.K q∧k≠1
def C121:Con:=⟨[I,I,I],[L],fun(x:Int×Int×Int×Unit)=>Pl.okLe x.1 x.2.1 x.2.2.1,fun(x:Int×Int×Int×Unit)=>(Pl.md x.2.2.1,()),none⟩
def H121:Hints:=lo [(0,⟨[0,1],[(7,si)]⟩),(2,⟨[0,1,7,8],[(9,si)]⟩)]
def T121:Ctx:=TT [(147,C147),(148,C148),(149,C149),(139,C139)]

def Pl.okNx (p:Int) (md:List Int) (q a g:Int):Prop:=isQ q∧Pl.K q≠1∧p=Pl.lpf q∧md=Pl.md q∧Pl.inQ q a∧Pl.inQ q g
def nextF:List AV→Hp→Option (Prop×AV×Hp)
 |[.d (.ref 1 1), .d (.ref 3 1), .d (.ref 5 1)],h=>(match h 1,h 3,h 5 with
  |some (.abox 3 [some [.int .i64 a]]),some (.abox 127 [some [.int .i64 p, .slc false (.int .i64) md, .int .i64 q]]),some (.abox 3 [some [.int .i64 g]])=>
   some (Pl.okNx p md q a g, .d (.int .i64 a),upd h 1 (some (.abox 3 [some [.int .i64 (Pl.mul q a g)]])))
  |_,_,_=>none)
 |_,_=>none
theorem nextF_some {avs:List AV} {h h':Hp} {p:Prop} {v:AV} (e:nextF avs h=some (p,v,h')): ∃(a p0:Int) (md:List Int) (q g:Int),avs=[.d (.ref 1 1), .d (.ref 3 1), .d (.ref 5 1)]∧h 1=some (.abox 3 [some [.int .i64 a]])∧h 3=some (.abox 127 [some [.int .i64 p0, .slc false i64 md, .int .i64 q]])∧h 5=some (.abox 3 [some [.int .i64 g]])∧
  p=Pl.okNx p0 md q a g∧v= .d (.int .i64 a)∧h'=upd h 1 (some (.abox 3 [some [.int .i64 (Pl.mul q a g)]])):=by
 unfold nextF at e
 split at e
 ·split at e
  ·rename_i a p0 md q g h1 h3 h5
   injection e with e
   injection e with e1 e2
   injection e2 with e2 e3
   exact⟨a,p0,md,q,g,rfl,h1,h3,h5,e1.symm,e2.symm,e3.symm⟩
  ·cases e
 ·cases e
def pt151:PT where
 base:=4000000
 mods:=[1]
 fn:=nextF
 ok:=by
  intro avs h p v h' e
  obtain⟨a,p0,md,q,g,_,h1,_,_,_,rfl,rfl⟩:=nextF_some e
  refine⟨fun id=> ?_,fun id hid=> ?_,rfl,fun id hid=> ?_,fun K hK=> ?_⟩
  ·rw[upd_eq]
   by_cases e:id=1
   ·subst e;rw[if_pos rfl,h1];simp
   ·rw[if_neg e]
  ·rw[upd_eq,if_neg (by simpa using hid)]
  ·have:id=1:=by simpa using hid
   subst this;rw[h1];simp
  ·obtain⟨o,ho,ha⟩:=hK
   rw[upd_eq]at ho
   by_cases e:K=1
   ·subst e;exact⟨_,h1,rfl⟩
   ·rw[if_neg e]at ho;exact⟨o,ho,ha⟩
def T151:Ctx:=⟨tt,[(152,C152)],[],none,[],4000000,[1],[],0,[],[],[],[],[]⟩
abbrev R0:Ar:= .ty (.ref 0)
def T122:Ctx:=⟨tt,[],[],none,[(151,pt151)],100,[0,1,3,5,7],[],0,[(2,3),(3,5),(6,1),(15,7),(13,0),(32,0)],
 [(0, .aren 3 i64 []),(1, .abox 3 []),(3, .abox 127 []),(5, .abox 3 []),(7, .abox 148 [])],[],[(148,[I,L,I,R0,R0])],[]⟩
def H122:Hints:=⟨[2,3,6,13,15,24],[],[(0,⟨[5,7,19],[(20,si),(0,s0),(1, .ab 3 [I]),(3, .ab 127 [I,L,I]),(5, .ab 3 [I]),(7, .ab 148 [I,L,I,R0,R0])]⟩)],[],[(11,([5],[0,7]))]⟩
def Pl.okNT (s:D) (g:Int):Prop:= ∃q,isQ q∧Pl.K q≠1∧s=slowD q∧g=Pl.gen q
def C122:Con:=⟨[.raw,I],[.raw],fun(x:D×Int×Unit)=>Pl.okNT x.1 x.2.1,fun(x:D×Int×Unit)=>(.rptr (tabsC (Pl.qS x.1)),()),none⟩

def nilP:D:= .val (.pointer none)
def newF (q:Int):D:=bif Pl.okQ q then fieldD q else nilP
def C78:Con:=⟨[I],[.raw,I],fun(x:Int×Unit)=>True,fun(x:Int×Unit)=>(newF x.1,bif Pl.okQ x.1 then 0 else 20,()),none⟩
def H78:Hints:=lo [(0,⟨[0],[(5, .box [.raw,I,I,I, .raw,I]),(6,si)]⟩)]
def T78:Ctx:=TT [(117,C117),(120,C120),(121,C121),(122,C122)]
end Fd
end
section
set_option linter.unusedVariables false
set_option linter.unusedSimpArgs false
set_option maxRecDepth 100000
namespace Fd
open Go Fw Go.Proofs
open Fm (V Eqv ev e0 Xp)

theorem vc150: ∀x,C150.pre x→VC (TT []) H0 Try.f150 C150 x:=by
 rintro⟨(c:Int),⟨⟩⟩ _
 show(c !=(0:Int),())=C150.post (c,())
 show _=(decide (c≠0),())
 congr 1
 by_cases h:c=0
 ·subst h;rfl
 ·rw[decide_eq_true h];simpa using h
theorem snd150:Sound Try.prog 150 C150:=fn_sound (T:=TT []) (fn:=Try.f150) (tok0 trivial) Try.func150 (by kernel_rfl) H0 vc150 (by kernel_rfl)
theorem vc146: ∀x,C146.pre x→VC T146 H0 Try.f146 C146 x:=by
 rintro⟨(r:Int),d1,d2,d3,⟨⟩⟩ ⟨w,g,f,(rfl:d1=_),(rfl:d2=_),(rfl:d3=_),q,c0,cs,rfl,_,_,hM,hqa,hg,(r1:1≤r)⟩
 obtain⟨hq,t,d,rfl⟩:=okM_q hM
 show r≠(0:Int)∧(Pl.okM (D.iface t d)∧Pl.inQ (Pl.qA (D.iface t d)) g∧(0:Int)≤IntKind.i64.wrap ((IntKind.i64.wrap (q-(1:Int))).tdiv r)∧IntKind.i64.wrap ((IntKind.i64.wrap (q-(1:Int))).tdiv r)≤(4611686018427387904:Int))∧(Pl.pow (Pl.qA (D.iface t d)) g (IntKind.i64.wrap ((IntKind.i64.wrap (q-(1:Int))).tdiv r))==(1:Int),())=C146.post (r,D.rptr [D.iface t d],D.rptr [n64 g],D.rptr [D.rptr (c0::D.int IntKind.i64 q::cs)],())
 rw[hqa]at hq⊢
 have q2:=hq.1
 have q6:=hq.2.1
 rw[wrap_i64 (x:=q-1) (by omega) (by omega),tdiv_pos (by omega)]
 have h0:0≤(q-1)/r:=Int.ediv_nonneg (by omega) (by omega)
 have h1:(q-1)/r≤q-1:=Int.ediv_le_self _ (by omega)
 rw[wrap_i64 (by omega) (by omega)]
 refine⟨by omega,⟨hM,hg,h0,by omega⟩, ?_⟩
 show _=(decide (Pl.pow (Pl.qA (.iface t d)) g ((q-1)/r)=1),())
 rw[hqa]
 congr 1
theorem okG_nr {v:D} {g:Int} {f:List D} {r:Int} (h:Pl.okG v g f r):v.nr∧D.nrs f:=by
 obtain⟨q,c0,cs,rfl,h1,h2,h3,_⟩:=h
 exact⟨okM_nr h3,h1,trivial,h2⟩
theorem nrc146:NRC C146:=by
 refine⟨?_,fun x hx=>⟨trivial,trivial⟩⟩
 rintro⟨(r:Int),d1,d2,d3,⟨⟩⟩ ⟨w,g,f,(rfl:d1=_),(rfl:d2=_),(rfl:d3=_),h⟩
 obtain⟨h1,h2⟩:=okG_nr h
 exact⟨trivial,⟨h1,trivial⟩,⟨trivial,trivial⟩,⟨h2,trivial⟩,trivial⟩
theorem snd146:Sound Try.prog 146 C146:=fn_sound (T:=T146) (fn:=Try.f146) (tok0 ⟨snd100,trivial⟩) Try.func146 (by kernel_rfl) H0 vc146 (by kernel_rfl) (hC:=nrc146)
theorem vc140: ∀x,C140.pre x→VC (TT []) H0 Try.f140 C140 x:=by
 rintro⟨(a:Int),d1,⟨⟩⟩ ⟨f,(rfl:d1=_),q,c0,cs,rfl,_,_⟩
 show Br (decide (a<(0:Int))) ((true,())=C140.post (a,D.rptr [D.rptr (c0::D.int IntKind.i64 q::cs)],()))
   ((decide (a≥q),())=C140.post (a,D.rptr [D.rptr (c0::D.int IntKind.i64 q::cs)],()))
 refine Br_of (fun h=> ?_) (fun h=> ?_)
 ·show(true,())=(decide (a<0)||decide (a≥q),())
  rw[h];rfl
 ·show(decide (a≥q),())=(decide (a<0)||decide (a≥q),())
  rw[h];rfl
theorem nrc140:NRC C140:=by
 refine⟨?_,fun x hx=>⟨trivial,trivial⟩⟩
 rintro⟨(r:Int),d1,⟨⟩⟩ ⟨f,(rfl:d1=_),q,c0,cs,rfl,h1,h2⟩
 exact⟨trivial,⟨⟨h1,trivial,h2⟩,trivial⟩,trivial⟩
theorem snd140:Sound Try.prog 140 C140:=fn_sound (T:=TT []) (fn:=Try.f140) (tok0 trivial) Try.func140 (by kernel_rfl) H0 vc140 (by kernel_rfl) (hC:=nrc140)
theorem sndVtell:SoundCv Try.prog Vtell:=cv_of fun x hx=>by
 obtain⟨v,(a:Int),⟨⟩⟩:=x
 rcases hx with hv|⟨w,g,f,hv,h⟩|⟨f,hv,h⟩
 ·have hv:v=neClo:=hv
  subst hv
  exact⟨150,[],[n64 a],C150,(a,()),snd150, .inl ⟨rfl,rfl⟩,trivial,rfl,rfl⟩
 ·have hv:v=genClo w g f:=hv
  subst hv
  exact⟨146,[.rptr [w], .rptr [n64 g], .rptr [.rptr f]],[n64 a],C146,(a, .rptr [w], .rptr [n64 g], .rptr [.rptr f],()),snd146, .inl ⟨rfl,rfl⟩,⟨w,g,f,rfl,rfl,rfl,h⟩,rfl,rfl⟩
 ·have hv:v=outClo f:=hv
  subst hv
  exact⟨140,[.rptr [.rptr f]],[n64 a],C140,(a, .rptr [.rptr f],()),snd140, .inl ⟨rfl,rfl⟩,⟨f,rfl,h⟩,rfl,rfl⟩
theorem okTl_clo {l:List Int} {v:D} (h:Pl.okTl l v): ∃f cs,v= .clo f cs:=by
 obtain⟨_,_,rfl|⟨w,g,f,rfl,_⟩|⟨f,rfl,_⟩⟩:=h
 ·exact⟨_,_,rfl⟩
 ·exact⟨_,_,rfl⟩
 ·exact⟨_,_,rfl⟩
theorem okTl_ok {l:List Int} {v:D} (h:Pl.okTl l v): ∀r∈l,Pl.tellsOK v r:=by
 intro r hr
 obtain⟨_,_,h|⟨w,g,f,h,h2⟩|⟨f,h,h2⟩⟩:=h
 ·exact .inl h
 ·exact .inr (.inl ⟨w,g,f,h,h2 r hr⟩)
 ·exact .inr (.inr ⟨f,h,h2⟩)
theorem index_shift (p:Int→Bool): ∀(l:List Int) (i:Int),Pl.index p l i= -1∧l.any p=false∨ ∃j:Nat,j<l.length∧Pl.index p l i=i+j∧p (l.getD j 0)=true∧(∀k,k<j→p (l.getD k 0)=false)∧l.any p=true
 |[],i=> .inl ⟨rfl,rfl⟩
 |x::l,i=>by
  rw[Pl.index,List.any_cons]
  cases hp:p x with
  |true=>exact .inr ⟨0,by simp,by simp,by simpa using hp,fun k hk=>by omega,by simp⟩
  |false=>
   rcases index_shift p l (i+1)with⟨h1,h2⟩|⟨j,h1,h2,h3,h4,h5⟩
   ·exact .inl ⟨h1,by rw[h2];rfl⟩
   ·refine .inr ⟨j+1,by simp;omega,by rw[cond_false,h2];omega,by simpa using h3,fun k hk=> ?_,by rw[h5];rfl⟩
    cases k with
    |zero=>simpa using hp
    |succ k=>simpa using h4 k (by omega)
theorem vc164: ∀x,C164.pre x→VC T164 H164 Try.f164 C164 x:=by
 rintro⟨(l:List Int),v,⟨⟩⟩ (h0:Pl.okTl l v)
 obtain⟨f,cs,rfl⟩:=okTl_clo h0
 have hok:=okTl_ok h0
 have hl:=h0.1
 show∃(n:Nat),itl (fun(G:Int×PUnit→Prop) (x:Int×PUnit)=>Br (decide (x.fst<(↑l.length:Int))) ((0:Int)≤x.fst∧x.fst<(↑l.length:Int)∧Pl.tellsOK (D.clo f cs) (rd i64 l x.fst)∧Br (Pl.tells (D.clo f cs) (rd i64 l x.fst)) (x=C164.post (l,D.clo f cs,())) (G (IntKind.i64.wrap (x.fst+(1:Int)),()))) (((-1:Int),())=C164.post (l,D.clo f cs,()))) n ((0:Int),())
 have hpost:C164.post (l,D.clo f cs,())=(Pl.index (Pl.tells (.clo f cs)) l 0,()):=rfl
 rw[hpost]
 rcases index_shift (Pl.tells (.clo f cs)) l 0 with⟨h1,h2⟩|⟨j,h1,h2,h3,h4,_⟩
 ·rw[h1]
  refine itl_rule (fun s=> ∃i:Nat,s.1=(i:Int)∧i≤l.length) (fun s=>((l.length:Int)-s.1).toNat) ⟨0,rfl,Nat.zero_le _⟩ ?_
  rintro⟨i0,⟨⟩⟩ G ⟨i,e,hi⟩ hG
  simp only at e hG⊢
  subst e
  refine Br_of (fun h=> ?_) (fun h=>trivial)
  have h:(i:Int)<l.length:=of_decide_eq_true h
  rw[rd_getD,Int.toNat_natCast]
  refine⟨by omega,h,hok _ (getD_mem (by omega)),Br_of (fun h5=> ?_) (fun h5=> ?_)⟩
  ·have:=List.any_eq_false.1 h2 _ (getD_mem (l:=l) (i:=i) (by omega))
   exact absurd h5 this
  ·rw[wrap_i64 (by omega) (by omega)]
   exact hG _ ⟨i+1,rfl,by omega⟩ (by simp only;omega)
 ·rw[h2]
  refine itl_rule (fun s=> ∃i:Nat,s.1=(i:Int)∧i≤j) (fun s=>((l.length:Int)-s.1).toNat) ⟨0,rfl,Nat.zero_le _⟩ ?_
  rintro⟨i0,⟨⟩⟩ G ⟨i,e,hi⟩ hG
  simp only at e hG⊢
  subst e
  refine Br_of (fun h=> ?_) (fun h=>by have:=of_decide_eq_false h;omega)
  have h:(i:Int)<l.length:=of_decide_eq_true h
  rw[rd_getD,Int.toNat_natCast]
  refine⟨by omega,h,hok _ (getD_mem (by omega)),Br_of (fun h5=> ?_) (fun h5=> ?_)⟩
  ·have:i=j:=by
    rcases Nat.lt_or_ge i j with h'|h'
    ·rw[h4 i h']at h5;cases h5
    ·omega
   subst this
   show((i:Int),())=(0+(i:Int),())
   rw[Int.zero_add]
  ·have:i≠j:=fun e=>by subst e;rw[h3]at h5;cases h5
   rw[wrap_i64 (by omega) (by omega)]
   exact hG _ ⟨i+1,rfl,by omega⟩ (by simp only;omega)
theorem nrc164:NRC C164:=⟨fun x hx=>⟨rfl,hx.2.1,trivial⟩,fun x hx=>⟨trivial,trivial⟩⟩
theorem nrc139:NRC C139:=⟨fun x hx=>⟨rfl,hx.2.1,trivial⟩,fun x hx=>⟨trivial,trivial⟩⟩
theorem snd164:Sound Try.prog 164 C164:=fn_sound (T:=T164) (fn:=Try.f164) (tokg (T:=T164) trivial trivial trivial noInv (fun C h=>by injection h with h;subst h;exact sndVtell)) Try.func164 (by kernel_rfl) H164 vc164 (by kernel_rfl) (hC:=nrc164)
theorem vc139: ∀x,C139.pre x→VC T139 H0 Try.f139 C139 x:=by
 rintro⟨(l:List Int),v,⟨⟩⟩ (h0:Pl.okTl l v)
 obtain⟨f,cs,rfl⟩:=okTl_clo h0
 show Pl.okTl l (D.clo f cs)∧
   (decide (Pl.index (Pl.tells (D.clo f cs)) l (0:Int)≥(0:Int)),())=C139.post (l,D.clo f cs,())
 refine⟨h0, ?_⟩
 show _=(l.any (Pl.tells (.clo f cs)),())
 congr 1
 rcases index_shift (Pl.tells (.clo f cs)) l 0 with⟨h1,h2⟩|⟨j,h1,h2,h3,h4,h5⟩
 ·rw[h1,h2];rfl
 ·rw[h2,h5];exact decide_eq_true (by omega)
theorem snd139:Sound Try.prog 139 C139:=fn_sound (T:=T139) (fn:=Try.f139) (tok0 ⟨snd164,trivial⟩) Try.func139 (by kernel_rfl) H0 vc139 (by kernel_rfl) (hC:=nrc139)

theorem rising_len: ∀(l:List Int) (a b:Int),l.Pairwise (· < ·)→(∀x∈l,a≤x∧x<b)→a≤b→(l.length:Int)≤b-a
 |[],a,b,_,_,h=>by simp;omega
 |x::l,a,b,hs,hx,h=>by
  have h1:=hx x (by simp)
  have hp:=List.pairwise_cons.1 hs
  have:=rising_len l (x+1) b hp.2 (fun y hy=>⟨by have:=hp.1 y hy;omega,(hx y (by simp[hy])).2⟩) (by omega)
  simp only[List.length_cons]
  omega
theorem primes_len {n:Int} (h1:1≤n) (hn:n≤65536):((Pl.primes n).length:Int)≤65536:=by
 obtain⟨ps,hs⟩:=primes_spec h1 (by omega)
 have:=rising_len _ 0 (n+1) hs (fun x hx=>by
  obtain⟨a,b⟩:=(ps x).1 hx
  have:=Int.le_of_dvd (by omega) b
  have:=a.1
  omega) (by omega)
 have h2:=rising_len (Pl.primes n) 2 (n+2) hs (fun x hx=>by
  obtain⟨a,b⟩:=(ps x).1 hx
  have:=Int.le_of_dvd (by omega) b
  have:=a.1
  omega) (by omega)
 omega
theorem vc120: ∀x,C120.pre x→VC T120 H120 Try.f120 C120 x:=by
 rintro⟨f,v,⟨⟩⟩ ⟨q,c0,cs,hq,(rfl:f=_),n1,n2,(hM:Pl.okM v),(hqa:Pl.qA v=q)⟩
 obtain⟨_,t,d,rfl⟩:=okM_q hM
 show((1:Int)≤IntKind.i64.wrap (q-(1:Int))∧IntKind.i64.wrap (q-(1:Int))≤(2147483647:Int))∧ ∃(n:Nat),itl (fun(G:(Int×PUnit)×PUnit→Prop) (x:(Int×PUnit)×PUnit)=>Pl.okTl (Pl.primes (IntKind.i64.wrap (q-(1:Int)))) (D.clo (146:Nat) [D.rptr [D.iface t d],D.rptr [D.int IntKind.i64 x.fst.fst],D.rptr [D.rptr (c0::D.int IntKind.i64 q::cs)]])∧Br (!(Pl.primes (IntKind.i64.wrap (q-(1:Int)))).any (Pl.tells (D.clo (146:Nat) [D.rptr [D.iface t d],D.rptr [D.int IntKind.i64 x.fst.fst],D.rptr [D.rptr (c0::D.int IntKind.i64 q::cs)]]))) (x.fst=C120.post (D.rptr (c0::D.int IntKind.i64 q::cs),D.iface t d,())) (G ((IntKind.i64.wrap (x.fst.fst+(1:Int)),()),()))) n (((1:Int),()),())
 have q2:=hq.1
 have q6:=hq.2.1
 rw[wrap_i64 (x:=q-1) (by omega) (by omega)]
 refine⟨⟨by omega,by omega⟩, ?_⟩
 obtain⟨g1,g2,g3,g4,_⟩:=gen_spec hq
 obtain⟨ps,_⟩:=primes_spec (n:=q-1) (by omega) (by omega)
 refine itl_rule (fun s=>1≤s.1.1∧s.1.1≤Pl.gen q) (fun s=>(Pl.gen q-s.1.1).toNat) ⟨by simp only;omega,by simp only;omega⟩ ?_
 rintro⟨⟨g,⟨⟩⟩,⟨⟩⟩ G ⟨hg1,hg2⟩ hG
 simp only at hg1 hg2 hG⊢
 have hlen:(Pl.primes (q-1)).length≤1000000000:=by
  have:=primes_len (n:=q-1) (by omega) (by omega)
  omega
 have hany:(Pl.primes (q-1)).any (Pl.tells (.clo 146 [.rptr [.iface t d], .rptr [.int .i64 g], .rptr [.rptr (c0:: .int .i64 q::cs)]]))= !Pl.genT q g:=by
  unfold Pl.genT
  rw[List.not_all_eq_any_not]
  congr 1
  funext r
  show decide (Pl.pow (Pl.qA (.iface t d)) g ((q-1)/r)=1)=_
  rw[hqa,Bool.not_not]
  rfl
 rw[hany,Bool.not_not]
 refine⟨⟨hlen,⟨⟨okM_nr hM,trivial⟩,⟨trivial,trivial⟩,⟨⟨n1,trivial,n2⟩,trivial⟩,trivial⟩, .inr (.inl ⟨.iface t d,g,c0:: .int .i64 q::cs,rfl,fun r hr=>⟨q,c0,cs,rfl,n1,n2,hM,hqa,⟨by omega,by omega⟩, ?_⟩⟩)⟩,Br_of (fun h=> ?_) (fun h=> ?_)⟩
 ·have:=((ps r).1 hr).1.1;omega
 ·show(g,())=(Pl.gen q,())
  have:g=Pl.gen q:=by
   rcases ilt g (Pl.gen q)with h'|h'
   ·rw[g4 g hg1 h']at h;cases h
   ·omega
  rw[this]
 ·have hne:g≠Pl.gen q:=fun e=>by rw[e,g3]at h;cases h
  rw[wrap_i64 (by omega) (by omega)]
  exact hG _ ⟨by simp only;omega,by simp only;omega⟩ (by simp only;omega)
theorem nrc120:NRC C120:=by
 refine⟨?_,fun x hx=>⟨trivial,trivial⟩⟩
 rintro⟨f,v,⟨⟩⟩ ⟨q,c0,cs,hq,(rfl:f=_),n1,n2,(hM:Pl.okM v),_⟩
 exact⟨⟨n1,trivial,n2⟩,okM_nr hM,trivial⟩
theorem snd120:Sound Try.prog 120 C120:=fn_sound (T:=T120) (fn:=Try.f120) (tok0 ⟨snd117,snd139,trivial⟩) Try.func120 (by kernel_rfl) H120 vc120 (by kernel_rfl) (hC:=nrc120)
theorem deg_ex {p:Int} (hp:2≤p) {n:Int} (h1:1≤n): ∃e:Nat,p^e≤n∧n<p^(e+1):=by
 have key: ∀k:Nat,n<p^k→ ∃e:Nat,p^e≤n∧n<p^(e+1):=by
  intro k
  induction k with
  |zero=>intro h;simp at h;omega
  |succ k ih=>
   intro h
   rcases ilt n (p^k)with h'|h'
   ·exact ih h'
   ·exact⟨k,h',h⟩
 refine key n.toNat ?_
 have h2:n.toNat<2^n.toNat:=Nat.lt_two_pow_self
 have h3:(2:Int)^n.toNat≤p^n.toNat:=by
  obtain⟨k,rfl⟩: ∃k:Nat,p=k:=⟨p.toNat,by omega⟩
  have:2^n.toNat≤k^n.toNat:=Nat.pow_le_pow_left (by omega) _
  exact_mod_cast this
 have h4:(n.toNat:Int)<(2:Int)^n.toNat:=by exact_mod_cast h2
 omega
theorem digs_top {p:Int} (hp:2≤p) {e:Nat} {n:Int} (he:e<63) (h1:p^e≤n) (h2:n<p^(e+1)):(Fm.digs p 64 n).length=e+1∧(Fm.digs p 64 n).getD e 0=n/p^e:=by
 have hpos:0<p^e:=Int.pow_pos (by omega)
 have hlt:n<p^64:=Int.lt_of_lt_of_le h2 (pow_mono hp (by omega))
 refine⟨Nat.le_antisymm (Fm.digs_len_le hp 64 (e+1) n (by omega) h2) (Fm.digs_len_ge hp 64 e n (by omega) h1), ?_⟩
 rw[Fm.digs_getD hp 64 n (by omega) hlt]
 simp only[Fm.dg]
 refine Int.emod_eq_of_lt (Int.ediv_nonneg (by omega) (by omega)) (Int.ediv_lt_of_lt_mul hpos ?_)
 rw[Int.mul_comm, ←Int.pow_succ];exact h2
theorem vc121: ∀x,C121.pre x→VC T121 H121 Try.f121 C121 x:=by
 rintro⟨(p:Int),(k:Int),(q:Int),⟨⟩⟩ ⟨(hq:isQ q),(hP:p=Pl.lpf q),(hK:k=Pl.K q),(k1:k≠1)⟩
 show∃(n:Nat),itl (fun(G:Int×PUnit→Prop) (x:Int×PUnit)=>Pl.okN x.fst p∧ ∃(n:Nat),itl (fun(G_1:Int×PUnit→Prop) (x_1:Int×PUnit)=>(2:Int)≠(0:Int)∧(((2:Int)≤p∧p≤(65536:Int))∧(0:Int)≤IntKind.i64.wrap (IntKind.i64.wrap (k.tdiv (2:Int))+(1:Int))∧p^(IntKind.i64.wrap (IntKind.i64.wrap (k.tdiv (2:Int))+(1:Int))).toNat≤(4611686018427387904:Int))∧Br (decide (x_1.fst<p^(IntKind.i64.wrap (IntKind.i64.wrap (k.tdiv (2:Int))+(1:Int))).toNat)) (Pl.okN x_1.fst p∧(0:Int)≤IntKind.i64.wrap ((↑(Pl.digs p x_1.fst).length:Int)-(1:Int))∧IntKind.i64.wrap ((↑(Pl.digs p x_1.fst).length:Int)-(1:Int))<(↑(Pl.digs p x_1.fst).length:Int)∧Br (rd i64 (Pl.digs p x_1.fst) (IntKind.i64.wrap ((↑(Pl.digs p x_1.fst).length:Int)-(1:Int))) !=(1:Int)) (G_1 (IntKind.i64.wrap (x_1.fst+(1:Int)),())) ((((2:Int)≤p∧p≤(65536:Int))∧(∀(c:Int),c∈Pl.digs p x.fst→(0:Int)≤c∧c<p)∧(Pl.digs p x.fst).length≤(1000:Nat)∧Pl.monic p (Pl.digs p x_1.fst))∧Pl.okTl (Pl.red p (Pl.digs p x_1.fst) (Pl.digs p x.fst)) (D.clo (150:Nat) [])∧Br (!(Pl.red p (Pl.digs p x_1.fst) (Pl.digs p x.fst)).any (Pl.tells (D.clo (150:Nat) []))) (G (IntKind.i64.wrap (x.fst+(1:Int)),())) (G_1 (IntKind.i64.wrap (x_1.fst+(1:Int)),())))) ((Pl.digs p x.fst,())=C121.post (p,k,q,()))) n (p,())) n (q,())
 have q2:=hq.1
 have q6:=hq.2.1
 have hk1:=hq.2.2
 have hk17:=hq.K64
 have hp2:=hq.prime.1
 have hp6:=hq.p6
 obtain⟨M1,M2,M3⟩:=Mod_spec hq
 obtain⟨hirr,hless,_⟩:=M3 (by omega)
 have hpow:=hq.pow
 rw[←hP]at hp2 hp6 hirr hless hpow
 rw[←hK]at hk1 hk17 hirr hless hpow
 obtain⟨kN,rfl⟩: ∃kN:Nat,k=kN:=⟨k.toNat,by omega⟩
 simp only[Int.toNat_natCast]at hirr hless hpow hk17
 have ek:IntKind.wrap .i64 (IntKind.wrap .i64 ((kN:Int).tdiv 2)+1)=((kN/2+1:Nat):Int):=by
  rw[tdiv_pos (by omega),wrap_i64 (x:=(kN:Int)/2) (by omega) (by omega),wrap_i64 (by omega) (by omega)];omega
 have hph:p^(kN/2+1)≤q:=by rw[hpow];exact pow_mono hp2 (by omega)
 have hph0:p^1≤p^(kN/2+1):=pow_mono hp2 (by omega)
 rw[Int.pow_succ,Int.pow_zero,Int.one_mul]at hph0
 rw[ek,Int.toNat_natCast]
 refine itl_rule (fun s=>q≤s.1∧s.1≤Pl.Mod q) (fun s=>(Pl.Mod q-s.1).toNat) ⟨by simp only;omega,by simp only;omega⟩ ?_
 rintro⟨n,⟨⟩⟩ G ⟨n1,n2⟩ hG
 simp only at n1 n2 hG⊢
 have hnlt:n<p^(kN+1):=by
  have:2*p^kN≤p*p^kN:=Int.mul_le_mul_of_nonneg_right hp2 (by omega)
  rw[Int.pow_succ,Int.mul_comm];omega
 obtain⟨nl,_⟩:=digs_top hp2 (e:=kN) (by omega) (by omega) hnlt
 have hnin: ∀c∈Fm.digs p 64 n,0≤c∧c<p:=Fm.digs_in hp2 64 n
 refine⟨⟨by omega,by omega,hp2,hp6⟩, ?_⟩
 have ed: ∀z,Pl.digs p z=Fm.digs p 64 z:=fun _=>rfl
 rw[ed n]
 refine itl_rule (fun s=>p≤s.1∧s.1≤p^(kN/2+1)∧ ∀(e:Nat) x,1≤e→p^e≤x→x<2*p^e→x<s.1→Fm.rst p x n≠0) (fun s=>(p^(kN/2+1)-s.1).toNat) ⟨by simp only;omega,by simp only;omega,fun e x e1 x1 x2 x3=> ?_⟩ ?_
 ·simp only at x3
  have:p^1≤p^e:=pow_mono hp2 e1
  rw[Int.pow_succ,Int.pow_zero,Int.one_mul]at this
  omega
 rintro⟨d,⟨⟩⟩ G1 ⟨hd1,hd2,hall⟩ hG1
 simp only at hd1 hd2 hall hG1⊢
 refine⟨by omega,⟨⟨hp2,hp6⟩,by omega,by omega⟩,Br_of (fun h=> ?_) (fun h=> ?_)⟩
 ·have h:d<p^(kN/2+1):=of_decide_eq_true h
  obtain⟨e,e1,e2⟩:=deg_ex hp2 (n:=d) (by omega)
  have he1:1≤e:=by
   rcases Nat.eq_zero_or_pos e with h'|h'
   ·subst h';rw[Nat.zero_add,Int.pow_succ,Int.pow_zero,Int.one_mul]at e2;omega
   ·exact h'
  have hek:e≤kN/2:=by
   rcases Nat.lt_or_ge (kN/2) e with h'|h'
   ·have:p^(kN/2+1)≤p^e:=pow_mono hp2 h'
    omega
   ·exact h'
  obtain⟨dl,dt⟩:=digs_top hp2 (e:=e) (by omega) e1 e2
  have hpos:0<p^e:=Int.pow_pos (by omega)
  have ewl:IntKind.wrap .i64 ((Pl.digs p d).length-1)=(e:Int):=by
   rw[ed,dl,wrap_i64 (by omega) (by omega)];omega
  rw[ewl,ed d,rd_getD,Int.toNat_natCast,dl,dt,wrap_i64 (x:=d+1) (by omega) (by omega)]
  have next:(∀x,x=d→p^e≤x→x<2*p^e→Fm.rst p x n≠0)→G1 (d+1,()):=by
   intro hnew
   refine hG1 _ ⟨by simp only;omega,by simp only;omega,fun e' x e1' x1 x2 x3=> ?_⟩ (by simp only;omega)
   simp only at x3
   by_cases hx:x=d
   ·subst hx
    have hee:e'=e:=by
     rcases Nat.lt_trichotomy e' e with h'|h'|h'
     ·have h8:p^(e'+1)≤p^e:=pow_mono hp2 h'
      rw[Int.pow_succ]at h8
      have h9:2*p^e'≤p^e'*p:=by rw[Int.mul_comm];exact Int.mul_le_mul_of_nonneg_left hp2 (by have:0<p^e':=Int.pow_pos (by omega);omega)
      omega
     ·exact h'
     ·have h8:p^(e+1)≤p^e':=pow_mono hp2 h'
      omega
    subst hee
    exact hnew x rfl x1 x2
   ·exact hall e' x e1' x1 x2 (by omega)
  refine⟨⟨by omega,by omega,hp2,hp6⟩,by omega,by omega,Br_of (fun htop=> ?_) (fun htop=> ?_)⟩
  ·have htop:d/p^e≠1:=by simpa using htop
   refine next fun x hx x1 x2=> ?_
   subst hx
   exfalso
   refine htop (Int.le_antisymm (Int.lt_add_one_iff.1 (Int.ediv_lt_of_lt_mul hpos (by omega))) ((Int.le_ediv_iff_mul_le hpos).2 (by omega)))
  ·have htop:d/p^e=1:=by simpa using htop
   have hd2':d<2*p^e:=by
    have:=Int.lt_ediv_add_one_mul_self d hpos
    rw[htop]at this
    omega
   have hmonic:Pl.monic p (Fm.digs p 64 d):=⟨Fm.digs_in hp2 64 d,by omega,by omega,by rw[dl,Nat.add_sub_cancel,dt];exact htop⟩
   have hred:Pl.red p (Fm.digs p 64 d) (Fm.digs p 64 n)=lstV e fun i=>ev (Fm.digs p 64 d) e (Fm.digs p 64 n) e0 i%p:=by
    unfold Pl.red
    rw[dl,nl,Nat.add_sub_cancel,Nat.min_eq_left (by omega)]
   have hrst:Fm.rst p d n=Fm.num p e (ev (Fm.digs p 64 d) e (Fm.digs p 64 n) e0):=by unfold Fm.rst;rw[dl,Nat.add_sub_cancel]
   have hany:(Pl.red p (Fm.digs p 64 d) (Fm.digs p 64 n)).any (Pl.tells (.clo 150 []))=true↔Fm.rst p d n≠0:=by
    rw[hrst,Ne,Fm.num_eq_zero (by omega),hred,List.any_eq_true]
    constructor
    ·rintro⟨c,hc,h0⟩ hz
     obtain⟨i,hi,rfl⟩:=List.getElem_of_mem hc
     rw[lstV_length]at hi
     have h5:(lstV e fun i=>ev (Fm.digs p 64 d) e (Fm.digs p 64 n) e0 i%p).getD i 0=ev (Fm.digs p 64 d) e (Fm.digs p 64 n) e0 i%p:=by rw[lstV_getD,if_pos hi]
     rw[List.getD_eq_getElem?_getD,List.getElem?_eq_getElem (by rw[lstV_length];exact hi)]at h5
     simp only[Option.getD]at h5
     rw[h5,Int.emod_eq_zero_of_dvd (hz i hi)]at h0
     exact absurd h0 (by decide)
    ·intro hne
     apply Classical.byContradiction
     intro hno
     refine hne fun i hi=>Int.dvd_of_emod_eq_zero ?_
     apply Classical.byContradiction
     intro hz
     have h5:(lstV e fun i=>ev (Fm.digs p 64 d) e (Fm.digs p 64 n) e0 i%p).getD i 0=ev (Fm.digs p 64 d) e (Fm.digs p 64 n) e0 i%p:=by rw[lstV_getD,if_pos hi]
     refine hno ⟨_,getD_mem (l:=lstV e fun i=>ev (Fm.digs p 64 d) e (Fm.digs p 64 n) e0 i%p) (i:=i) (by rw[lstV_length];exact hi), ?_⟩
     rw[h5]
     exact decide_eq_true hz
   refine⟨⟨⟨hp2,hp6⟩,hnin,by omega,hmonic⟩,⟨by rw[hred,lstV_length];omega,trivial, .inl rfl⟩,Br_of (fun h6=> ?_) (fun h6=> ?_)⟩
   ·have hz:Fm.rst p d n=0:=by
     apply Classical.byContradiction
     intro hne
     rw[hany.2 hne]at h6
     cases h6
    have hne:n≠Pl.Mod q:=fun e'=>by
     rw[←e']at hirr
     exact hirr e he1 (by omega) d e1 hd2' hz
    rw[wrap_i64 (by omega) (by omega)]
    exact hG _ ⟨by simp only;omega,by simp only;omega⟩ (by simp only;omega)
   ·refine next fun x hx _ _=> ?_
    subst hx
    refine hany.1 ?_
    cases hb:(Pl.red p (Fm.digs p 64 x) (Fm.digs p 64 n)).any (Pl.tells (.clo 150 []))with
    |true=>rfl
    |false=>rw[hb]at h6;cases h6
 ·have h: ¬d<p^(kN/2+1):=of_decide_eq_false h
  have hn:n=Pl.Mod q:=by
   rcases ilt n (Pl.Mod q)with h'|h'
   ·refine absurd (fun e e1 e2 x x1 x2=>hall e x e1 x1 x2 ?_) (hless n n1 h')
    have h8:p^(e+1)≤p^(kN/2+1):=pow_mono hp2 (by omega)
    rw[Int.pow_succ]at h8
    have h9:2*p^e≤p^e*p:=by rw[Int.mul_comm];exact Int.mul_le_mul_of_nonneg_left hp2 (by have:0<p^e:=Int.pow_pos (by omega);omega)
    omega
   ·omega
  show(Fm.digs p 64 n,())=(Pl.md q,())
  unfold Pl.md
  rw[hn,hP]
theorem snd121:Sound Try.prog 121 C121:=fn_sound (T:=T121) (fn:=Try.f121) (tok0 ⟨snd147,snd148,snd149,snd139,trivial⟩) Try.func121 (by kernel_rfl) H121 vc121 (by kernel_rfl)
end Fd
end
section
set_option linter.unusedVariables false
set_option linter.unusedSimpArgs false
set_option maxRecDepth 100000
namespace Fd
open Go Fw Go.Proofs
open Fm (V Eqv ev e0 Xp)

theorem vc151: ∀(h:Hp) (a p q g:Int) (md:List Int),Pl.okNx p md q a g→VCP T151 H0 Try.f151 pt151 [.d (.ref 1 1), .d (.ref 3 1), .d (.ref 5 1)] (upd (upd (upd h 1 (some (.abox 3 [some [.int .i64 a]]))) 3 (some (.abox 127 [some [.int .i64 p, .slc false i64 md, .int .i64 q]]))) 5 (some (.abox 3 [some [.int .i64 g]]))) (.d (.int .i64 a))
  (upd (upd (upd (upd h 1 (some (.abox 3 [some [.int .i64 a]]))) 3 (some (.abox 127 [some [.int .i64 p, .slc false i64 md, .int .i64 q]]))) 5 (some (.abox 3 [some [.int .i64 g]]))) 1 (some (.abox 3 [some [.int .i64 (Pl.mul q a g)]]))):=by
 rintro h a p q g md ⟨hq,hK,hp,hmd,ha,hg⟩
 refine cast (α:=Pl.okS (D.agg [D.int IntKind.i64 p,D.slc false i64 md,D.int IntKind.i64 q]) a g∧a=a∧mset [some [D.int IntKind.i64 a]] (1:Nat) [D.int IntKind.i64 (Pl.mul (Pl.qS (D.agg [D.int IntKind.i64 p,D.slc false i64 md,D.int IntKind.i64 q])) a g)]=[some [D.int IntKind.i64 (Pl.mul q a g)]]∧True) (by kernel_rfl) ?_
 subst hp hmd
 exact⟨⟨q,hq,hK,rfl,ha,hg⟩,rfl,rfl,trivial⟩
theorem snd151:SoundPT Try.prog 151 pt151:=pt_sound (T:=T151) (fn:=Try.f151) (tok0 (T:=T151) ⟨snd152,trivial⟩) Try.func151 (by kernel_rfl) H0 (fun avs h p v h' hf hp=>by
 obtain⟨a,p0,md,q,g,rfl,h1,h3,h5,rfl,rfl,rfl⟩:=nextF_some hf
 have e:h=upd (upd (upd h 1 (some (.abox 3 [some [.int .i64 a]]))) 3 (some (.abox 127 [some [.int .i64 p0, .slc false i64 md, .int .i64 q]]))) 5 (some (.abox 3 [some [.int .i64 g]])):=by
  funext id
  rw[upd_eq,upd_eq,upd_eq]
  by_cases e5:id=5
  ·rw[if_pos e5,e5,h5]
  ·rw[if_neg e5]
   by_cases e3:id=3
   ·rw[if_pos e3,e3,h3]
   ·rw[if_neg e3]
    by_cases e1:id=1
    ·rw[if_pos e1,e1,h1]
    ·rw[if_neg e1]
 have hv:=vc151 h a p0 q g md hp
 rw[←e]at hv
 exact hv) (by kernel_rfl)

structure Rows2 (ms : List (Option (List Int))) (je jl : Nat) (pw lg : List Int) : Prop where
 jl1:jl=1
 l0:ms[0]? =some (some lg)
 je0:(je=0∧pw=[])∨(2≤je∧ms[je-1]? =some (some pw))
theorem Rows2.mal_e {ms:List (Option (List Int))} {je jl:Nat} {pw lg:List Int} (h:Rows2 ms je jl pw lg):mal ms je∧mrow ms je=pw:=by
 rcases h.je0 with⟨rfl,rfl⟩|⟨h1,h2⟩
 ·exact⟨trivial,rfl⟩
 ·obtain⟨j,rfl⟩: ∃j,je=j+1:=⟨je-1,by omega⟩
  rw[Nat.add_sub_cancel]at h2
  refine⟨⟨pw,h2⟩, ?_⟩
  show(ms.getD j none).getD []=pw
  rw[List.getD_eq_getElem?_getD,h2];rfl
theorem Rows2.mal_l {ms:List (Option (List Int))} {je jl:Nat} {pw lg:List Int} (h:Rows2 ms je jl pw lg):mal ms jl∧mrow ms jl=lg:=by
 obtain⟨rfl,h2,_⟩:=h
 refine⟨⟨lg,h2⟩, ?_⟩
 show(ms.getD 0 none).getD []=lg
 rw[List.getD_eq_getElem?_getD,h2];rfl
theorem Rows2.step {ms:List (Option (List Int))} {je jl:Nat} {pw lg:List Int} (h:Rows2 ms je jl pw lg) (r:List Int):Rows2 (mnew (mkill ms je) r) (ms.length+1) jl r lg:=by
 have hlen:(mkill ms je).length=ms.length:=by
  cases je with
  |zero=>rfl
  |succ j=>show(ms.set j none).length=_;rw[List.length_set]
 have hpos:0<ms.length:=(List.getElem?_eq_some_iff.1 h.l0).1
 refine⟨h.jl1, ?_, .inr ⟨by omega, ?_⟩⟩
 ·show(mkill ms je++[some r])[0]? =_
  rw[List.getElem?_append_left (by rw[hlen];exact hpos)]
  rcases h.je0 with⟨rfl,_⟩|⟨h1,_⟩
  ·exact h.l0
  ·obtain⟨j,rfl⟩: ∃j,je=j+1:=⟨je-1,by omega⟩
   show(ms.set j none)[0]? =_
   rw[List.getElem?_set,if_neg (by omega)]
   exact h.l0
 ·show(mkill ms je++[some r])[ms.length+1-1]? =_
  rw[List.getElem?_append_right (by rw[hlen];omega),hlen]
  simp
theorem Rows2.set {ms:List (Option (List Int))} {je jl:Nat} {pw lg:List Int} (h:Rows2 ms je jl pw lg) (r:List Int):Rows2 (mset ms jl r) je jl pw r:=by
 obtain⟨rfl,h2,h3⟩:=h
 have hpos:0<ms.length:=(List.getElem?_eq_some_iff.1 h2).1
 refine⟨rfl, ?_, ?_⟩
 ·show(ms.set 0 (some r))[0]? =_
  rw[List.getElem?_set,if_pos rfl,if_pos hpos]
 ·rcases h3 with h3|⟨h4,h5⟩
  ·exact .inl h3
  ·refine .inr ⟨h4, ?_⟩
   show(ms.set 0 (some r))[je-1]? =_
   rw[List.getElem?_set,if_neg (by omega)]
   exact h5
def pwAt (q:Int) (n:Nat):List Int:=(List.range n).map fun n=>(fld q).pow (Pl.gen q) n
theorem vc122: ∀x,C122.pre x→VC T122 H122 Try.f122 C122 x:=by
 rintro⟨sd,(g:Int),⟨⟩⟩ ⟨q,hq,hK,(rfl:sd=_),(hg:g=Pl.gen q)⟩
 refine cast (α:=((0:Int)≤q∧q=q∧q*(8:Int)≤(140737488355328:Int)∧[D.int IntKind.i64 (1:Int)]=[constD (Value.int IntKind.i64 (1:Int))]∧[D.int IntKind.i64 (Pl.lpf q),D.slc false i64 (Pl.md q),D.int IntKind.i64 q]=[n64 (Pl.lpf q),D.slc false i64 (Pl.md q),n64 q]∧[D.int IntKind.i64 g]=[D.int IntKind.i64 g]∧[D.int IntKind.i64 (Pl.lpf q),D.slc false i64 (Pl.md q),D.int IntKind.i64 q,D.ref (0:Nat) (0:Nat),D.ref (0:Nat) (([]:List Int).length+(1:Nat))]=[D.int IntKind.i64 (Pl.lpf q),D.slc false i64 (Pl.md q),D.int IntKind.i64 q,D.ref (0:Nat) (0:Nat),D.ref (0:Nat) (([]:List Int).length+(1:Nat))]∧ ∃(n:Nat),itl (fun(G:Int×List (Option (List Int))×(Int×PUnit)×(Int×List Int×Int×PUnit)×(Int×PUnit)×(Int×List Int×Int×Nat×Nat×PUnit)×PUnit→Prop) (x:Int×List (Option (List Int))×(Int×PUnit)×(Int×List Int×Int×PUnit)×(Int×PUnit)×(Int×List Int×Int×Nat×Nat×PUnit)×PUnit)=>Br (decide (x.1<IntKind.i64.wrap (q-(1:Int)))) (Pl.okNx x.2.2.2.1.1 x.2.2.2.1.2.1 x.2.2.2.1.2.2.1 x.2.2.1.1 x.2.2.2.2.1.1∧mal x.2.1 x.2.2.2.2.2.1.2.2.2.1∧((↑(mrow x.2.1 x.2.2.2.2.2.1.2.2.2.1).length:Int)+(↑[x.2.2.1.1].length:Int))*(8:Int)≤(140737488355328:Int)∧mal (mnew (mkill x.2.1 x.2.2.2.2.2.1.2.2.2.1) (mrow x.2.1 x.2.2.2.2.2.1.2.2.2.1++[x.2.2.1.1])) x.2.2.2.2.2.1.2.2.2.2.1∧(0:Int)≤x.2.2.1.1∧x.2.2.1.1<(↑(mrow (mnew (mkill x.2.1 x.2.2.2.2.2.1.2.2.2.1) (mrow x.2.1 x.2.2.2.2.2.1.2.2.2.1++[x.2.2.1.1])) x.2.2.2.2.2.1.2.2.2.2.1).length:Int)∧mal (mnew (mkill x.2.1 x.2.2.2.2.2.1.2.2.2.1) (mrow x.2.1 x.2.2.2.2.2.1.2.2.2.1++[x.2.2.1.1])) x.2.2.2.2.2.1.2.2.2.2.1∧(0:Int)≤x.2.2.1.1∧x.2.2.1.1<(↑(mrow (mnew (mkill x.2.1 x.2.2.2.2.2.1.2.2.2.1) (mrow x.2.1 x.2.2.2.2.2.1.2.2.2.1++[x.2.2.1.1])) x.2.2.2.2.2.1.2.2.2.2.1).length:Int)∧[D.int IntKind.i64 (Pl.mul x.2.2.2.1.2.2.1 x.2.2.1.1 x.2.2.2.2.1.1)]=[D.int IntKind.i64 (Pl.mul x.2.2.2.1.2.2.1 x.2.2.1.1 x.2.2.2.2.1.1)]∧[D.int IntKind.i64 x.2.2.2.1.1,D.slc false i64 x.2.2.2.1.2.1,D.int IntKind.i64 x.2.2.2.1.2.2.1]=[D.int IntKind.i64 x.2.2.2.1.1,D.slc false i64 x.2.2.2.1.2.1,D.int IntKind.i64 x.2.2.2.1.2.2.1]∧[D.int IntKind.i64 x.2.2.2.2.1.1]=[D.int IntKind.i64 x.2.2.2.2.1.1]∧[D.int IntKind.i64 x.2.2.2.2.2.1.1,D.slc false i64 x.2.2.2.2.2.1.2.1,D.int IntKind.i64 x.2.2.2.2.2.1.2.2.1,D.ref (0:Nat) (List.length x.2.1+(1:Nat)),D.ref (0:Nat) x.2.2.2.2.2.1.2.2.2.2.1]=[D.int IntKind.i64 x.2.2.2.2.2.1.1,D.slc false i64 x.2.2.2.2.2.1.2.1,D.int IntKind.i64 x.2.2.2.2.2.1.2.2.1,D.ref (0:Nat) (List.length x.2.1+(1:Nat)),D.ref (0:Nat) x.2.2.2.2.2.1.2.2.2.2.1]∧G (IntKind.i64.wrap (x.1+(1:Int)),Nat.casesOn x.2.2.2.2.2.1.2.2.2.2.1 (mnew (mkill x.2.1 x.2.2.2.2.2.1.2.2.2.1) (mrow x.2.1 x.2.2.2.2.2.1.2.2.2.1++[x.2.2.1.1])) fun(n:Nat)=>(mnew (mkill x.2.1 x.2.2.2.2.2.1.2.2.2.1) (mrow x.2.1 x.2.2.2.2.2.1.2.2.2.1++[x.2.2.1.1])).set n (some ((mrow (mnew (mkill x.2.1 x.2.2.2.2.2.1.2.2.2.1) (mrow x.2.1 x.2.2.2.2.2.1.2.2.2.1++[x.2.2.1.1])) x.2.2.2.2.2.1.2.2.2.2.1).set (Int.toNat x.2.2.1.1) x.1)),(Pl.mul x.2.2.2.1.2.2.1 x.2.2.1.1 x.2.2.2.2.1.1,()),x.2.2.2.1,x.2.2.2.2.1,(x.2.2.2.2.2.1.1,x.2.2.2.2.2.1.2.1,x.2.2.2.2.2.1.2.2.1,List.length x.2.1+(1:Nat),x.2.2.2.2.2.1.2.2.2.2),())) (mal x.2.1 x.2.2.2.2.2.1.2.2.2.1∧mal x.2.1 x.2.2.2.2.2.1.2.2.2.2.1∧(D.rptr [D.int IntKind.i64 x.2.2.2.2.2.1.1,D.slc false i64 x.2.2.2.2.2.1.2.1,D.int IntKind.i64 x.2.2.2.2.2.1.2.2.1,D.slc false i64 (mrow x.2.1 x.2.2.2.2.2.1.2.2.2.1),D.slc false i64 (mrow x.2.1 x.2.2.2.2.2.1.2.2.2.2.1)],())=C122.post (slowD q,g,()))) n ((0:Int),[some (List.replicate q.toNat (0:Int))],((1:Int),()),(Pl.lpf q,Pl.md q,q,()),(g,()),(Pl.lpf q,Pl.md q,q,(0:Nat),([]:List Int).length+(1:Nat),()),()))∧((0:Int)≤q∧q=q∧q*(8:Int)≤(140737488355328:Int)∧[D.int IntKind.i64 (1:Int)]=[constD (Value.int IntKind.i64 (1:Int))]∧[D.int IntKind.i64 (Pl.lpf q),D.slc false i64 (Pl.md q),D.int IntKind.i64 q]=[n64 (Pl.lpf q),D.slc false i64 (Pl.md q),n64 q]∧[D.int IntKind.i64 g]=[D.int IntKind.i64 g]∧[D.int IntKind.i64 (Pl.lpf q),D.slc false i64 (Pl.md q),D.int IntKind.i64 q,D.ref (0:Nat) (0:Nat),D.ref (0:Nat) (([]:List Int).length+(1:Nat))]=[D.int IntKind.i64 (Pl.lpf q),D.slc false i64 (Pl.md q),D.int IntKind.i64 q,D.ref (0:Nat) (0:Nat),D.ref (0:Nat) (([]:List Int).length+(1:Nat))]∧ ∃(n:Nat),itl (fun(G:Int×List (Option (List Int))×(Int×PUnit)×(Int×List Int×Int×PUnit)×(Int×PUnit)×(Int×List Int×Int×Nat×Nat×PUnit)×PUnit→Prop) (x:Int×List (Option (List Int))×(Int×PUnit)×(Int×List Int×Int×PUnit)×(Int×PUnit)×(Int×List Int×Int×Nat×Nat×PUnit)×PUnit)=>Br (decide (x.1<IntKind.i64.wrap (q-(1:Int)))) (Pl.okNx x.2.2.2.1.1 x.2.2.2.1.2.1 x.2.2.2.1.2.2.1 x.2.2.1.1 x.2.2.2.2.1.1∧mal x.2.1 x.2.2.2.2.2.1.2.2.2.1∧((↑(mrow x.2.1 x.2.2.2.2.2.1.2.2.2.1).length:Int)+(↑[x.2.2.1.1].length:Int))*(8:Int)≤(140737488355328:Int)∧mal (mnew (mkill x.2.1 x.2.2.2.2.2.1.2.2.2.1) (mrow x.2.1 x.2.2.2.2.2.1.2.2.2.1++[x.2.2.1.1])) x.2.2.2.2.2.1.2.2.2.2.1∧(0:Int)≤x.2.2.1.1∧x.2.2.1.1<(↑(mrow (mnew (mkill x.2.1 x.2.2.2.2.2.1.2.2.2.1) (mrow x.2.1 x.2.2.2.2.2.1.2.2.2.1++[x.2.2.1.1])) x.2.2.2.2.2.1.2.2.2.2.1).length:Int)∧mal (mnew (mkill x.2.1 x.2.2.2.2.2.1.2.2.2.1) (mrow x.2.1 x.2.2.2.2.2.1.2.2.2.1++[x.2.2.1.1])) x.2.2.2.2.2.1.2.2.2.2.1∧(0:Int)≤x.2.2.1.1∧x.2.2.1.1<(↑(mrow (mnew (mkill x.2.1 x.2.2.2.2.2.1.2.2.2.1) (mrow x.2.1 x.2.2.2.2.2.1.2.2.2.1++[x.2.2.1.1])) x.2.2.2.2.2.1.2.2.2.2.1).length:Int)∧[D.int IntKind.i64 (Pl.mul x.2.2.2.1.2.2.1 x.2.2.1.1 x.2.2.2.2.1.1)]=[D.int IntKind.i64 (Pl.mul x.2.2.2.1.2.2.1 x.2.2.1.1 x.2.2.2.2.1.1)]∧[D.int IntKind.i64 x.2.2.2.1.1,D.slc false i64 x.2.2.2.1.2.1,D.int IntKind.i64 x.2.2.2.1.2.2.1]=[D.int IntKind.i64 x.2.2.2.1.1,D.slc false i64 x.2.2.2.1.2.1,D.int IntKind.i64 x.2.2.2.1.2.2.1]∧[D.int IntKind.i64 x.2.2.2.2.1.1]=[D.int IntKind.i64 x.2.2.2.2.1.1]∧[D.int IntKind.i64 x.2.2.2.2.2.1.1,D.slc false i64 x.2.2.2.2.2.1.2.1,D.int IntKind.i64 x.2.2.2.2.2.1.2.2.1,D.ref (0:Nat) (List.length x.2.1+(1:Nat)),D.ref (0:Nat) x.2.2.2.2.2.1.2.2.2.2.1]=[D.int IntKind.i64 x.2.2.2.2.2.1.1,D.slc false i64 x.2.2.2.2.2.1.2.1,D.int IntKind.i64 x.2.2.2.2.2.1.2.2.1,D.ref (0:Nat) (List.length x.2.1+(1:Nat)),D.ref (0:Nat) x.2.2.2.2.2.1.2.2.2.2.1]∧G (IntKind.i64.wrap (x.1+(1:Int)),Nat.casesOn x.2.2.2.2.2.1.2.2.2.2.1 (mnew (mkill x.2.1 x.2.2.2.2.2.1.2.2.2.1) (mrow x.2.1 x.2.2.2.2.2.1.2.2.2.1++[x.2.2.1.1])) fun(n:Nat)=>(mnew (mkill x.2.1 x.2.2.2.2.2.1.2.2.2.1) (mrow x.2.1 x.2.2.2.2.2.1.2.2.2.1++[x.2.2.1.1])).set n (some ((mrow (mnew (mkill x.2.1 x.2.2.2.2.2.1.2.2.2.1) (mrow x.2.1 x.2.2.2.2.2.1.2.2.2.1++[x.2.2.1.1])) x.2.2.2.2.2.1.2.2.2.2.1).set (Int.toNat x.2.2.1.1) x.1)),(Pl.mul x.2.2.2.1.2.2.1 x.2.2.1.1 x.2.2.2.2.1.1,()),x.2.2.2.1,x.2.2.2.2.1,(x.2.2.2.2.2.1.1,x.2.2.2.2.2.1.2.1,x.2.2.2.2.2.1.2.2.1,List.length x.2.1+(1:Nat),x.2.2.2.2.2.1.2.2.2.2),())) (mal x.2.1 x.2.2.2.2.2.1.2.2.2.1∧mal x.2.1 x.2.2.2.2.2.1.2.2.2.2.1∧(D.rptr [D.int IntKind.i64 x.2.2.2.2.2.1.1,D.slc false i64 x.2.2.2.2.2.1.2.1,D.int IntKind.i64 x.2.2.2.2.2.1.2.2.1,D.slc false i64 (mrow x.2.1 x.2.2.2.2.2.1.2.2.2.1),D.slc false i64 (mrow x.2.1 x.2.2.2.2.2.1.2.2.2.2.1)],())=C122.post (slowD q,g,()))) n ((0:Int),[some (List.replicate q.toNat (0:Int))],((1:Int),()),(Pl.lpf q,Pl.md q,q,()),(g,()),(Pl.lpf q,Pl.md q,q,(0:Nat),([]:List Int).length+(1:Nat),()),()))∧((0:Int)≤q∧q=q∧q*(8:Int)≤(140737488355328:Int)∧[D.int IntKind.i64 (1:Int)]=[constD (Value.int IntKind.i64 (1:Int))]∧[D.int IntKind.i64 (Pl.lpf q),D.slc false i64 (Pl.md q),D.int IntKind.i64 q]=[n64 (Pl.lpf q),D.slc false i64 (Pl.md q),n64 q]∧[D.int IntKind.i64 g]=[D.int IntKind.i64 g]∧[D.int IntKind.i64 (Pl.lpf q),D.slc false i64 (Pl.md q),D.int IntKind.i64 q,D.ref (0:Nat) (0:Nat),D.ref (0:Nat) (([]:List Int).length+(1:Nat))]=[D.int IntKind.i64 (Pl.lpf q),D.slc false i64 (Pl.md q),D.int IntKind.i64 q,D.ref (0:Nat) (0:Nat),D.ref (0:Nat) (([]:List Int).length+(1:Nat))]∧ ∃(n:Nat),itl (fun(G:Int×List (Option (List Int))×(Int×PUnit)×(Int×List Int×Int×PUnit)×(Int×PUnit)×(Int×List Int×Int×Nat×Nat×PUnit)×PUnit→Prop) (x:Int×List (Option (List Int))×(Int×PUnit)×(Int×List Int×Int×PUnit)×(Int×PUnit)×(Int×List Int×Int×Nat×Nat×PUnit)×PUnit)=>Br (decide (x.1<IntKind.i64.wrap (q-(1:Int)))) (Pl.okNx x.2.2.2.1.1 x.2.2.2.1.2.1 x.2.2.2.1.2.2.1 x.2.2.1.1 x.2.2.2.2.1.1∧mal x.2.1 x.2.2.2.2.2.1.2.2.2.1∧((↑(mrow x.2.1 x.2.2.2.2.2.1.2.2.2.1).length:Int)+(↑[x.2.2.1.1].length:Int))*(8:Int)≤(140737488355328:Int)∧mal (mnew (mkill x.2.1 x.2.2.2.2.2.1.2.2.2.1) (mrow x.2.1 x.2.2.2.2.2.1.2.2.2.1++[x.2.2.1.1])) x.2.2.2.2.2.1.2.2.2.2.1∧(0:Int)≤x.2.2.1.1∧x.2.2.1.1<(↑(mrow (mnew (mkill x.2.1 x.2.2.2.2.2.1.2.2.2.1) (mrow x.2.1 x.2.2.2.2.2.1.2.2.2.1++[x.2.2.1.1])) x.2.2.2.2.2.1.2.2.2.2.1).length:Int)∧mal (mnew (mkill x.2.1 x.2.2.2.2.2.1.2.2.2.1) (mrow x.2.1 x.2.2.2.2.2.1.2.2.2.1++[x.2.2.1.1])) x.2.2.2.2.2.1.2.2.2.2.1∧(0:Int)≤x.2.2.1.1∧x.2.2.1.1<(↑(mrow (mnew (mkill x.2.1 x.2.2.2.2.2.1.2.2.2.1) (mrow x.2.1 x.2.2.2.2.2.1.2.2.2.1++[x.2.2.1.1])) x.2.2.2.2.2.1.2.2.2.2.1).length:Int)∧[D.int IntKind.i64 (Pl.mul x.2.2.2.1.2.2.1 x.2.2.1.1 x.2.2.2.2.1.1)]=[D.int IntKind.i64 (Pl.mul x.2.2.2.1.2.2.1 x.2.2.1.1 x.2.2.2.2.1.1)]∧[D.int IntKind.i64 x.2.2.2.1.1,D.slc false i64 x.2.2.2.1.2.1,D.int IntKind.i64 x.2.2.2.1.2.2.1]=[D.int IntKind.i64 x.2.2.2.1.1,D.slc false i64 x.2.2.2.1.2.1,D.int IntKind.i64 x.2.2.2.1.2.2.1]∧[D.int IntKind.i64 x.2.2.2.2.1.1]=[D.int IntKind.i64 x.2.2.2.2.1.1]∧[D.int IntKind.i64 x.2.2.2.2.2.1.1,D.slc false i64 x.2.2.2.2.2.1.2.1,D.int IntKind.i64 x.2.2.2.2.2.1.2.2.1,D.ref (0:Nat) (List.length x.2.1+(1:Nat)),D.ref (0:Nat) x.2.2.2.2.2.1.2.2.2.2.1]=[D.int IntKind.i64 x.2.2.2.2.2.1.1,D.slc false i64 x.2.2.2.2.2.1.2.1,D.int IntKind.i64 x.2.2.2.2.2.1.2.2.1,D.ref (0:Nat) (List.length x.2.1+(1:Nat)),D.ref (0:Nat) x.2.2.2.2.2.1.2.2.2.2.1]∧G (IntKind.i64.wrap (x.1+(1:Int)),Nat.casesOn x.2.2.2.2.2.1.2.2.2.2.1 (mnew (mkill x.2.1 x.2.2.2.2.2.1.2.2.2.1) (mrow x.2.1 x.2.2.2.2.2.1.2.2.2.1++[x.2.2.1.1])) fun(n:Nat)=>(mnew (mkill x.2.1 x.2.2.2.2.2.1.2.2.2.1) (mrow x.2.1 x.2.2.2.2.2.1.2.2.2.1++[x.2.2.1.1])).set n (some ((mrow (mnew (mkill x.2.1 x.2.2.2.2.2.1.2.2.2.1) (mrow x.2.1 x.2.2.2.2.2.1.2.2.2.1++[x.2.2.1.1])) x.2.2.2.2.2.1.2.2.2.2.1).set (Int.toNat x.2.2.1.1) x.1)),(Pl.mul x.2.2.2.1.2.2.1 x.2.2.1.1 x.2.2.2.2.1.1,()),x.2.2.2.1,x.2.2.2.2.1,(x.2.2.2.2.2.1.1,x.2.2.2.2.2.1.2.1,x.2.2.2.2.2.1.2.2.1,List.length x.2.1+(1:Nat),x.2.2.2.2.2.1.2.2.2.2),())) (mal x.2.1 x.2.2.2.2.2.1.2.2.2.1∧mal x.2.1 x.2.2.2.2.2.1.2.2.2.2.1∧(D.rptr [D.int IntKind.i64 x.2.2.2.2.2.1.1,D.slc false i64 x.2.2.2.2.2.1.2.1,D.int IntKind.i64 x.2.2.2.2.2.1.2.2.1,D.slc false i64 (mrow x.2.1 x.2.2.2.2.2.1.2.2.2.1),D.slc false i64 (mrow x.2.1 x.2.2.2.2.2.1.2.2.2.2.1)],())=C122.post (slowD q,g,()))) n ((0:Int),[some (List.replicate q.toNat (0:Int))],((1:Int),()),(Pl.lpf q,Pl.md q,q,()),(g,()),(Pl.lpf q,Pl.md q,q,(0:Nat),([]:List Int).length+(1:Nat),()),()))∧(0:Int)≤q∧q=q∧q*(8:Int)≤(140737488355328:Int)∧[D.int IntKind.i64 (1:Int)]=[constD (Value.int IntKind.i64 (1:Int))]∧[D.int IntKind.i64 (Pl.lpf q),D.slc false i64 (Pl.md q),D.int IntKind.i64 q]=[n64 (Pl.lpf q),D.slc false i64 (Pl.md q),n64 q]∧[D.int IntKind.i64 g]=[D.int IntKind.i64 g]∧[D.int IntKind.i64 (Pl.lpf q),D.slc false i64 (Pl.md q),D.int IntKind.i64 q,D.ref (0:Nat) (0:Nat),D.ref (0:Nat) (([]:List Int).length+(1:Nat))]=[D.int IntKind.i64 (Pl.lpf q),D.slc false i64 (Pl.md q),D.int IntKind.i64 q,D.ref (0:Nat) (0:Nat),D.ref (0:Nat) (([]:List Int).length+(1:Nat))]∧ ∃(n:Nat),itl (fun(G:Int×List (Option (List Int))×(Int×PUnit)×(Int×List Int×Int×PUnit)×(Int×PUnit)×(Int×List Int×Int×Nat×Nat×PUnit)×PUnit→Prop) (x:Int×List (Option (List Int))×(Int×PUnit)×(Int×List Int×Int×PUnit)×(Int×PUnit)×(Int×List Int×Int×Nat×Nat×PUnit)×PUnit)=>Br (decide (x.1<IntKind.i64.wrap (q-(1:Int)))) (Pl.okNx x.2.2.2.1.1 x.2.2.2.1.2.1 x.2.2.2.1.2.2.1 x.2.2.1.1 x.2.2.2.2.1.1∧mal x.2.1 x.2.2.2.2.2.1.2.2.2.1∧((↑(mrow x.2.1 x.2.2.2.2.2.1.2.2.2.1).length:Int)+(↑[x.2.2.1.1].length:Int))*(8:Int)≤(140737488355328:Int)∧mal (mnew (mkill x.2.1 x.2.2.2.2.2.1.2.2.2.1) (mrow x.2.1 x.2.2.2.2.2.1.2.2.2.1++[x.2.2.1.1])) x.2.2.2.2.2.1.2.2.2.2.1∧(0:Int)≤x.2.2.1.1∧x.2.2.1.1<(↑(mrow (mnew (mkill x.2.1 x.2.2.2.2.2.1.2.2.2.1) (mrow x.2.1 x.2.2.2.2.2.1.2.2.2.1++[x.2.2.1.1])) x.2.2.2.2.2.1.2.2.2.2.1).length:Int)∧mal (mnew (mkill x.2.1 x.2.2.2.2.2.1.2.2.2.1) (mrow x.2.1 x.2.2.2.2.2.1.2.2.2.1++[x.2.2.1.1])) x.2.2.2.2.2.1.2.2.2.2.1∧(0:Int)≤x.2.2.1.1∧x.2.2.1.1<(↑(mrow (mnew (mkill x.2.1 x.2.2.2.2.2.1.2.2.2.1) (mrow x.2.1 x.2.2.2.2.2.1.2.2.2.1++[x.2.2.1.1])) x.2.2.2.2.2.1.2.2.2.2.1).length:Int)∧[D.int IntKind.i64 (Pl.mul x.2.2.2.1.2.2.1 x.2.2.1.1 x.2.2.2.2.1.1)]=[D.int IntKind.i64 (Pl.mul x.2.2.2.1.2.2.1 x.2.2.1.1 x.2.2.2.2.1.1)]∧[D.int IntKind.i64 x.2.2.2.1.1,D.slc false i64 x.2.2.2.1.2.1,D.int IntKind.i64 x.2.2.2.1.2.2.1]=[D.int IntKind.i64 x.2.2.2.1.1,D.slc false i64 x.2.2.2.1.2.1,D.int IntKind.i64 x.2.2.2.1.2.2.1]∧[D.int IntKind.i64 x.2.2.2.2.1.1]=[D.int IntKind.i64 x.2.2.2.2.1.1]∧[D.int IntKind.i64 x.2.2.2.2.2.1.1,D.slc false i64 x.2.2.2.2.2.1.2.1,D.int IntKind.i64 x.2.2.2.2.2.1.2.2.1,D.ref (0:Nat) (List.length x.2.1+(1:Nat)),D.ref (0:Nat) x.2.2.2.2.2.1.2.2.2.2.1]=[D.int IntKind.i64 x.2.2.2.2.2.1.1,D.slc false i64 x.2.2.2.2.2.1.2.1,D.int IntKind.i64 x.2.2.2.2.2.1.2.2.1,D.ref (0:Nat) (List.length x.2.1+(1:Nat)),D.ref (0:Nat) x.2.2.2.2.2.1.2.2.2.2.1]∧G (IntKind.i64.wrap (x.1+(1:Int)),Nat.casesOn x.2.2.2.2.2.1.2.2.2.2.1 (mnew (mkill x.2.1 x.2.2.2.2.2.1.2.2.2.1) (mrow x.2.1 x.2.2.2.2.2.1.2.2.2.1++[x.2.2.1.1])) fun(n:Nat)=>(mnew (mkill x.2.1 x.2.2.2.2.2.1.2.2.2.1) (mrow x.2.1 x.2.2.2.2.2.1.2.2.2.1++[x.2.2.1.1])).set n (some ((mrow (mnew (mkill x.2.1 x.2.2.2.2.2.1.2.2.2.1) (mrow x.2.1 x.2.2.2.2.2.1.2.2.2.1++[x.2.2.1.1])) x.2.2.2.2.2.1.2.2.2.2.1).set (Int.toNat x.2.2.1.1) x.1)),(Pl.mul x.2.2.2.1.2.2.1 x.2.2.1.1 x.2.2.2.2.1.1,()),x.2.2.2.1,x.2.2.2.2.1,(x.2.2.2.2.2.1.1,x.2.2.2.2.2.1.2.1,x.2.2.2.2.2.1.2.2.1,List.length x.2.1+(1:Nat),x.2.2.2.2.2.1.2.2.2.2),())) (mal x.2.1 x.2.2.2.2.2.1.2.2.2.1∧mal x.2.1 x.2.2.2.2.2.1.2.2.2.2.1∧(D.rptr [D.int IntKind.i64 x.2.2.2.2.2.1.1,D.slc false i64 x.2.2.2.2.2.1.2.1,D.int IntKind.i64 x.2.2.2.2.2.1.2.2.1,D.slc false i64 (mrow x.2.1 x.2.2.2.2.2.1.2.2.2.1),D.slc false i64 (mrow x.2.1 x.2.2.2.2.2.1.2.2.2.2.1)],())=C122.post (slowD q,g,()))) n ((0:Int),[some (List.replicate q.toNat (0:Int))],((1:Int),()),(Pl.lpf q,Pl.md q,q,()),(g,()),(Pl.lpf q,Pl.md q,q,(0:Nat),([]:List Int).length+(1:Nat),()),())) (by kernel_rfl) ?_
 have q2:=hq.1
 have q6:=hq.2.1
 rw[wrap_i64 (x:=q-1) (by omega) (by omega)]
 have hloop:True:=trivial
 refine⟨⟨by omega,rfl,by omega,rfl,rfl,rfl,rfl, ?_⟩,⟨by omega,rfl,by omega,rfl,rfl,rfl,rfl, ?_⟩,⟨by omega,rfl,by omega,rfl,rfl,rfl,rfl, ?_⟩,⟨by omega,rfl,by omega,rfl,rfl,rfl,rfl, ?_⟩⟩
 all_goals
  refine itl_rule (fun s=> ∃(i:Nat) (ms:List (Option (List Int))) (je jl:Nat),s=((i:Int),ms,((fld q).pow (Pl.gen q) i,()),(Pl.lpf q,Pl.md q,q,()),(g,()),(Pl.lpf q,Pl.md q,q,je,jl,()),())∧i≤q.toNat-1∧Rows2 ms je jl (pwAt q i) (Pl.lgAt q i)) (fun s=>(q-s.1).toNat)
   ⟨0,[some (List.replicate q.toNat 0)],0,1,rfl,Nat.zero_le _,rfl,rfl, .inl ⟨rfl,rfl⟩⟩ ?_
  rintro x G ⟨i,ms,je,jl,rfl,hi,hR⟩ hG
  obtain rfl:jl=1:=hR.jl1
  obtain⟨m1,m2⟩:=hR.mal_e
  obtain⟨l1,l2⟩:=hR.mal_l
  have hgi:=gen_in hq i
  have hgn:Pl.inQ q g:=by rw[hg];exact gen_inQ hq
  simp only
  rw[m2,l2]
  refine Br_of (fun h=> ?_) (fun h=> ?_)
  ·have h:(i:Int)<q-1:=of_decide_eq_true h
   have hR2:=hR.step (pwAt q i++[(fld q).pow (Pl.gen q) i])
   obtain⟨n1,n2⟩:=hR2.mal_l
   have hll:=(lgAt_spec hq i (by omega)).1
   rw[n2]
   refine⟨⟨hq,hK,rfl,rfl,hgi,hgn⟩,m1, ?_,n1,hgi.1, ?_,n1,hgi.1, ?_,trivial,trivial,trivial,trivial,hG _ ⟨i+1,mset (mnew (mkill ms je) (pwAt q i++[(fld q).pow (Pl.gen q) i])) 1 ((Pl.lgAt q i).set ((fld q).pow (Pl.gen q) i).toNat i),ms.length+1,1, ?_,by omega, ?_⟩ (by simp only;rw[wrap_i64 (x:=(i:Int)+1) (by omega) (by omega)];omega)⟩
   ·simp only[List.length_singleton]
    have:(pwAt q i).length=i:=by simp[pwAt]
    omega
   ·rw[hll];omega
   ·rw[hll];omega
   ·rw[wrap_i64 (by omega) (by omega)]
    subst hg
    rfl
   ·have e1:pwAt q i++[(fld q).pow (Pl.gen q) i]=pwAt q (i+1):=by simp[pwAt,List.range_succ]
    rw[e1]at hR2⊢
    exact hR2.set _
  ·have h: ¬(i:Int)<q-1:=of_decide_eq_false h
   have:i=q.toNat-1:=by omega
   subst this
   exact⟨m1,l1,rfl⟩
theorem nrc122:NRC C122:=by
 refine⟨?_,fun x hx=>⟨nr_tabs _,trivial⟩⟩
 rintro⟨s,g,⟨⟩⟩ ⟨q,hq,hK,(rfl:s=_),_⟩
 exact⟨nr_slow q,trivial,trivial⟩
theorem snd122:Sound Try.prog 122 C122:=fn_sound (T:=T122) (fn:=Try.f122) (tokg (T:=T122) trivial ⟨snd151,trivial⟩ trivial noInv noCv) Try.func122 (by kernel_rfl) H122 vc122 (by kernel_rfl) (hC:=nrc122)

end Fd
end
section
set_option linter.unusedVariables false
set_option linter.unusedSimpArgs false
set_option maxRecDepth 100000
namespace Fd
open Go Fw Go.Proofs

theorem digs_self {q:Int} (h:2≤q):Fm.digs q 64 q=[0,1]:=by
 show Fm.digs q (61+1+1+1) q=_
 rw[Fm.digs,decide_eq_true (show q>0 by omega),cond_true,Int.emod_self,Int.ediv_self (by omega),Fm.digs,decide_eq_true (show(1:Int)>0 by omega),cond_true,Int.emod_eq_of_lt (by omega) (by omega),Int.ediv_eq_zero_of_lt (by omega) (by omega),Fm.digs,decide_eq_false (show¬(0:Int)>0 by omega),cond_false]
theorem md_one {q:Int} (hq:isQ q) (hK:Pl.K q=1):Pl.md q=[0,1]:=by
 have hl:=lpf_K1 hq hK
 have hM:Pl.Mod q=q:=by
  unfold Pl.Mod
  rw[hK,decide_eq_true rfl,cond_true,hl]
 unfold Pl.md
 rw[hM,hl]
 exact digs_self hq.1
theorem fieldD_1 {q:Int} (hq:isQ q) (hK:Pl.K q=1):fieldD q= .rptr [.iface 123 (.agg [n64 (Pl.lpf q)]),n64 q,n64 (Pl.lpf q),n64 (Pl.K q), .slc true i64 [0,1],n64 (Pl.gen q)]:=by
 unfold fieldD fieldC arD Pl.tyA Pl.datA Pl.k1
 rw[decide_eq_true hK,md_one hq hK,cond_true,cond_true]
theorem fieldD_2 {q:Int} (hK:Pl.K q≠1):fieldD q= .rptr [.iface 128 (.rptr (tabsC q)),n64 q,n64 (Pl.lpf q),n64 (Pl.K q), .slc false i64 (Pl.md q),n64 (Pl.gen q)]:=by
 unfold fieldD fieldC arD Pl.tyA Pl.datA Pl.k1
 rw[decide_eq_false hK,cond_false,cond_false]
theorem qF_eq (c:D) (q:Int) (cs:List D):Pl.qF (.rptr (c:: .int .i64 q::cs))=q:=rfl
theorem qS_eq (a b:D) (q:Int):Pl.qS (.agg [a,b, .int .i64 q])=q:=rfl
theorem rd_one (x:Int):rd i64 [x] 0=x:=rfl
theorem newF_no {q:Int} (h: ¬isQ q):(nilP,(20:Int),())=C78.post (q,()):=by
 have:Pl.okQ q=false:=by
  cases hb:Pl.okQ q with
  |false=>rfl
  |true=>exact absurd (okQ_iff.1 hb) h
 show _=(newF q,bif Pl.okQ q then 0 else 20,())
 unfold newF
 rw[this]
 rfl
theorem newF_yes {q:Int} (h:isQ q):C78.post (q,())=(fieldD q,(0:Int),()):=by
 have:=okQ_iff.2 h
 show(newF q,bif Pl.okQ q then 0 else 20,())=_
 unfold newF
 rw[this]
 rfl
theorem vc78: ∀x,C78.pre x→VC T78 H78 Try.f78 C78 x:=by
 rintro⟨(q:Int),⟨⟩⟩-
 refine cast (α:=Br (decide (q<(2:Int))) ((constD (Value.pointer none),(20:Int),())=C78.post (q,())) (Br (decide (q>(65536:Int))) ((constD (Value.pointer none),(20:Int),())=C78.post (q,())) (((1:Int)≤q∧q≤(2147483647:Int))∧Br (decide ((↑(Pl.primes q).length:Int)>(1:Int))) ((constD (Value.pointer none),(20:Int),())=C78.post (q,())) ((0:Int)≤(0:Int)∧(0:Int)<(↑(Pl.primes q).length:Int)∧ ∃(n:Nat),itl (fun(G:(D×Int×Int×Int×D×Int×PUnit)×Int×PUnit→Prop) (x:(D×Int×Int×Int×D×Int×PUnit)×Int×PUnit)=>Br (decide (x.2.1>(1:Int))) (x.1.2.2.1≠(0:Int)∧G ((Ar.raw.enc x.1.1,x.1.2.1,x.1.2.2.1,IntKind.i64.wrap (x.1.2.2.2.1+(1:Int)),Ar.raw.enc x.1.2.2.2.2.1,x.1.2.2.2.2.2),IntKind.i64.wrap (Int.tdiv x.2.1 x.1.2.2.1),())) (Br (x.1.2.2.2.1==(1:Int)) (Pl.okFi (D.rptr [D.iface (123:Nat) (D.agg [D.int IntKind.i64 x.1.2.2.1]),D.int IntKind.i64 x.1.2.1,D.int IntKind.i64 x.1.2.2.1,D.int IntKind.i64 x.1.2.2.2.1,D.slc true (tyE T78 (3:Nat)) [(0:Int),(1:Int)],D.int IntKind.i64 x.1.2.2.2.2.2.1]) (D.iface (123:Nat) (D.agg [D.int IntKind.i64 x.1.2.2.1]))∧(D.rptr [D.iface (123:Nat) (D.agg [D.int IntKind.i64 x.1.2.2.1]),D.int IntKind.i64 x.1.2.1,D.int IntKind.i64 x.1.2.2.1,D.int IntKind.i64 x.1.2.2.2.1,D.slc true (tyE T78 (3:Nat)) [(0:Int),(1:Int)],D.int IntKind.i64 (Pl.gen (Pl.qF (D.rptr [D.iface (123:Nat) (D.agg [D.int IntKind.i64 x.1.2.2.1]),D.int IntKind.i64 x.1.2.1,D.int IntKind.i64 x.1.2.2.1,D.int IntKind.i64 x.1.2.2.2.1,D.slc true (tyE T78 (3:Nat)) [(0:Int),(1:Int)],D.int IntKind.i64 x.1.2.2.2.2.2.1])))],(0:Int),())=C78.post (q,())) (Pl.okLe x.1.2.2.1 x.1.2.2.2.1 q∧Pl.okFi (D.rptr [Ar.raw.enc x.1.1,D.int IntKind.i64 x.1.2.1,D.int IntKind.i64 x.1.2.2.1,D.int IntKind.i64 x.1.2.2.2.1,D.slc false i64 (Pl.md q),D.int IntKind.i64 x.1.2.2.2.2.2.1]) (D.iface (127:Nat) (D.agg [D.int IntKind.i64 x.1.2.2.1,D.slc false i64 (Pl.md q),D.int IntKind.i64 q]))∧Pl.okNT (D.agg [D.int IntKind.i64 x.1.2.2.1,D.slc false i64 (Pl.md q),D.int IntKind.i64 q]) (Pl.gen (Pl.qF (D.rptr [Ar.raw.enc x.1.1,D.int IntKind.i64 x.1.2.1,D.int IntKind.i64 x.1.2.2.1,D.int IntKind.i64 x.1.2.2.2.1,D.slc false i64 (Pl.md q),D.int IntKind.i64 x.1.2.2.2.2.2.1])))∧(D.rptr [D.iface (128:Nat) (D.rptr (tabsC (Pl.qS (D.agg [D.int IntKind.i64 x.1.2.2.1,D.slc false i64 (Pl.md q),D.int IntKind.i64 q])))),D.int IntKind.i64 x.1.2.1,D.int IntKind.i64 x.1.2.2.1,D.int IntKind.i64 x.1.2.2.2.1,D.slc false i64 (Pl.md q),D.int IntKind.i64 (Pl.gen (Pl.qF (D.rptr [Ar.raw.enc x.1.1,D.int IntKind.i64 x.1.2.1,D.int IntKind.i64 x.1.2.2.1,D.int IntKind.i64 x.1.2.2.2.1,D.slc false i64 (Pl.md q),D.int IntKind.i64 x.1.2.2.2.2.2.1])))],(0:Int),())=C78.post (q,())))) n ((D.val Value.nilIface,q,rd i64 (Pl.primes q) (0:Int),(0:Int),D.val (Value.slice none (0:Nat) (0:Nat)),(0:Int),()),q,()))))) (by kernel_rfl) ?_
 refine Br_of (fun h=>newF_no fun hq=> ?_) (fun h=>Br_of (fun h6=>newF_no fun hq=> ?_) (fun h6=> ?_))
 ·have:=hq.1;have:=of_decide_eq_true h;omega
 ·have:=hq.2.1;have:=of_decide_eq_true h6;omega
 have h: ¬q<2:=of_decide_eq_false h
 have h6: ¬q>65536:=of_decide_eq_false h6
 have hP:=primes_spec (n:=q) (by omega) (by omega)
 obtain⟨l1,l2,l3,l4⟩:=lpf_spec (q:=q) (by omega) (by omega)
 have hin:Pl.lpf q∈Pl.primes q:=(hP.1 _).2 ⟨l4,l3⟩
 refine⟨⟨by omega,by omega⟩,Br_of (fun h1=>newF_no fun hq=> ?_) (fun h1=> ?_)⟩
 ·have h1:=of_decide_eq_true h1
  have hall: ∀r∈Pl.primes q,r=Pl.lpf q:=fun r hr=>by
   obtain⟨r1,r2⟩:=(hP.1 r).1 hr
   rw[hq.pow]at r2
   exact l4.eq_of_dvd r1.1 (r1.dvd_pow r2)
  cases hp:Pl.primes q with
  |nil=>rw[hp]at h1;simp at h1
  |cons a l=>
   cases l with
   |nil=>rw[hp]at h1;simp at h1
   |cons b l=>
    have e1:=hall a (by rw[hp];simp)
    have e2:=hall b (by rw[hp];simp)
    have:=hP.2
    rw[hp]at this
    have:=(List.pairwise_cons.1 this).1 b (by simp)
    omega
 have h1: ¬((Pl.primes q).length:Int)>1:=of_decide_eq_false h1
 have hone:Pl.primes q=[Pl.lpf q]:=by
  cases hp:Pl.primes q with
  |nil=>rw[hp]at hin;simp at hin
  |cons a l=>
   cases l with
   |nil=>rw[hp]at hin;simp at hin;rw[hin]
   |cons b l=>rw[hp]at h1;simp at h1;omega
 rw[hone]
 refine⟨by omega,by simp, ?_⟩
 rw[rd_one]
 refine itl_rule (fun s=> ∃(k:Nat) (n:Int),s=((D.val Value.nilIface,q,Pl.lpf q,(k:Int),D.val (Value.slice none 0 0),(0:Int),()),n,())∧1≤n∧n*Pl.lpf q^k=q) (fun s=>s.2.1.toNat)
  ⟨0,q,rfl,by omega,by simp⟩ ?_
 rintro x G ⟨k,n,rfl,hn,hk⟩ hG
 simp only
 have hpk:0<Pl.lpf q^k:=Int.pow_pos (by omega)
 have hk64:k<64:=by
  apply Classical.byContradiction
  intro hge
  have h2:Pl.lpf q^64≤Pl.lpf q^k:=pow_mono l1 (by omega)
  have h3:=pow64 (p:=Pl.lpf q) (n:=q) l1 (by omega)
  have h4:=Int.mul_le_mul_of_nonneg_right hn (Int.le_of_lt hpk)
  rw[Int.one_mul]at h4
  omega
 refine Br_of (fun h2=> ?_) (fun h2=> ?_)
 ·have h2:n>1:=of_decide_eq_true h2
  have hnq:n≤q:=by
   have:=Int.mul_le_mul_of_nonneg_left (show 1≤Pl.lpf q^k by omega) (show 0≤n by omega)
   omega
  have hd:Pl.lpf q∣n:=by
   obtain⟨m1,m2,m3,m4⟩:=lpf_spec (q:=n) (by omega) (by omega)
   have:Pl.lpf n∈Pl.primes q:=(hP.1 _).2 ⟨m4,Int.dvd_trans m3 ⟨_,hk.symm⟩⟩
   rw[hone]at this
   have e:Pl.lpf n=Pl.lpf q:=by simpa using this
   rw[←e];exact m3
  obtain⟨m,rfl⟩:=hd
  have hm1:1≤m:=by
   apply Classical.byContradiction
   intro hlt
   have:=Int.mul_nonpos_of_nonneg_of_nonpos (show 0≤Pl.lpf q by omega) (show m≤0 by omega)
   omega
  have hdiv:Int.tdiv (Pl.lpf q*m) (Pl.lpf q)=m:=Int.mul_tdiv_cancel_left _ (by omega)
  have hmle:2*m≤Pl.lpf q*m:=Int.mul_le_mul_of_nonneg_right l1 (by omega)
  refine⟨by omega, ?_⟩
  rw[hdiv,wrap_i64 (by omega) (by omega),wrap_i64 (by omega) (by omega)]
  refine hG _ ⟨k+1,m,rfl,hm1, ?_⟩ ?_
  ·rw[←hk,Int.pow_succ];grind
  ·simp only;omega
 ·have h2: ¬n>1:=of_decide_eq_false h2
  obtain rfl:n=1:=by omega
  rw[Int.one_mul]at hk
  have hk1:1≤k:=by
   cases k with
   |zero=>simp at hk;omega
   |succ k=>omega
  have hpn:((Pl.lpf q).toNat:Int)=Pl.lpf q:=by omega
  obtain⟨hq, -,hKq⟩:=isQ_of (p:=(Pl.lpf q).toNat) (k:=k) l4.nat hk1 (by
   have:(((Pl.lpf q).toNat^k:Nat):Int)=q:=by rw[Int.natCast_pow,hpn];exact hk
   omega)
  have e:(((Pl.lpf q).toNat^k:Nat):Int)=q:=by rw[Int.natCast_pow,hpn];exact hk
  rw[e]at hq hKq
  rw[newF_yes hq, ←hKq]
  refine Br_of (fun h3=> ?_) (fun h3=> ?_)
  ·have h3:Pl.K q=1:=by simpa using h3
   have hl:=lpf_K1 hq h3
   rw[qF_eq,fieldD_1 hq h3]
   exact⟨⟨q,_,_,hq,rfl,⟨trivial,trivial⟩,⟨trivial,trivial,rfl,trivial,trivial⟩,⟨q,hq, .inr (.inl ⟨h3,by rw[hl];rfl⟩)⟩,by rw[hl];rfl⟩,rfl⟩
  ·have h3:Pl.K q≠1:=by simpa using h3
   rw[qF_eq,qS_eq,fieldD_2 h3]
   exact⟨⟨hq,rfl,rfl,h3⟩,⟨q,_,_,hq,rfl,trivial,⟨trivial,trivial,rfl,trivial,trivial⟩,⟨q,hq, .inr (.inr (.inl ⟨h3,rfl⟩))⟩,rfl⟩,⟨q,hq,h3,rfl,rfl⟩,rfl⟩
theorem newF_nr (q:Int):(newF q).nr:=by
 unfold newF
 cases h:Pl.okQ q with
 |false=>exact trivial
 |true=>exact nr_field (okQ_iff.1 h)
theorem nrc78:NRC C78:=⟨fun x hx=>⟨trivial,trivial⟩,fun x hx=>⟨newF_nr _,trivial,trivial⟩⟩
theorem snd78:Sound Try.prog 78 C78:=fn_sound (T:=T78) (fn:=Try.f78) (tokg (T:=T78) ⟨snd117,snd120,snd121,snd122,trivial⟩ trivial trivial noInv noCv) Try.func78 (by kernel_rfl) H78 vc78 (by kernel_rfl) (hC:=nrc78)
end Fd
end
section
set_option linter.unusedVariables false
set_option linter.unusedSimpArgs false
set_option maxRecDepth 100000
namespace Fd
open Go Fw Go.Proofs

abbrev XS:=List (Option (List Int))
abbrev OS:=List (Option (List Nat))
def Pl.swp (l:List Nat) (i k:Int):List Nat:=(l.set i.toNat (l.getD k.toNat 0)).set k.toNat (l.getD i.toNat 0)
def Pl.ri (os:OS) (r:Nat) (i:Int):Nat:=(mrow os r).getD i.toNat 0
def Pl.preS (os:OS) (r:Nat) (i k:Int):Prop:=mal os r∧(0≤i∧i<(mrow os r).length)∧0≤k∧k<(mrow os r).length
def Pl.swO (os:OS) (r:Nat) (i k:Int):OS:=mset os r (Pl.swp (mrow os r) i k)
def swapF:List AV→MS→Option (Prop×List D×MS)
 |[.bptr 1 1 0, .d (.int .i64 i), .d (.int .i64 k)],s=>some (Pl.preS s.os s.r1 i k,[], { s with os:=Pl.swO s.os s.r1 i k })
 |[.bptr 1 1 2, .d (.int .i64 i), .d (.int .i64 k)],s=>some (Pl.preS s.os s.r2 i k,[], { s with os:=Pl.swO s.os s.r2 i k })
 |_,_=>none
def Pl.inAll (q:Int) (l:List Int):Prop:=(∀x∈l,Pl.inQ q x)∧l.length≤1000000000
def Pl.scl (q c:Int) (l:List Int):List Int:=l.map (Pl.mul q c)
def Pl.preL (v:D) (xs:XS) (os:OS) (r:Nat) (i c:Int):Prop:=
 (mal os r∧0≤i∧i<(mrow os r).length)∧mal xs (Pl.ri os r i)∧Pl.okA v∧Pl.inQ (Pl.qA v) c∧Pl.inAll (Pl.qA v) (mrow xs (Pl.ri os r i))
def Pl.scX (q:Int) (xs:XS) (os:OS) (r:Nat) (i c:Int):XS:=mset xs (Pl.ri os r i) (Pl.scl q c (mrow xs (Pl.ri os r i)))
def scaleF:List AV→MS→Option (Prop×List D×MS)
 |[.bptr 1 1 0, .d (.int .i64 i), .d (.int .i64 c)],s=>some (Pl.preL (.iface s.t1 s.d1) s.xs s.os s.r1 i c,[], { s with xs:=Pl.scX (Pl.qA (.iface s.t1 s.d1)) s.xs s.os s.r1 i c })
 |[.bptr 1 1 2, .d (.int .i64 i), .d (.int .i64 c)],s=>some (Pl.preL (.iface s.t2 s.d2) s.xs s.os s.r2 i c,[], { s with xs:=Pl.scX (Pl.qA (.iface s.t2 s.d2)) s.xs s.os s.r2 i c })
 |_,_=>none
def Pl.tkl (q c:Int) (x y:List Int):List Int:=List.zipWith (fun a b=>Pl.sub q a (Pl.mul q c b)) x y
def Pl.preT (v:D) (xs:XS) (os:OS) (r:Nat) (i k c:Int):Prop:=
 (mal os r∧(0≤i∧i<(mrow os r).length)∧0≤k∧k<(mrow os r).length)∧(mal xs (Pl.ri os r i)∧mal xs (Pl.ri os r k)∧0<Pl.ri os r i∧Pl.ri os r i≠Pl.ri os r k)∧Pl.okA v∧Pl.inQ (Pl.qA v) c∧
  Pl.inAll (Pl.qA v) (mrow xs (Pl.ri os r i))∧Pl.inAll (Pl.qA v) (mrow xs (Pl.ri os r k))∧(mrow xs (Pl.ri os r k)).length=(mrow xs (Pl.ri os r i)).length
def Pl.tkX (q:Int) (xs:XS) (os:OS) (r:Nat) (i k c:Int):XS:=mset xs (Pl.ri os r i) (Pl.tkl q c (mrow xs (Pl.ri os r i)) (mrow xs (Pl.ri os r k)))
def takeF:List AV→MS→Option (Prop×List D×MS)
 |[.bptr 1 1 0, .d (.int .i64 i), .d (.int .i64 k), .d (.int .i64 c)],s=>some (Pl.preT (.iface s.t1 s.d1) s.xs s.os s.r1 i k c,[], { s with xs:=Pl.tkX (Pl.qA (.iface s.t1 s.d1)) s.xs s.os s.r1 i k c })
 |[.bptr 1 1 2, .d (.int .i64 i), .d (.int .i64 k), .d (.int .i64 c)],s=>some (Pl.preT (.iface s.t2 s.d2) s.xs s.os s.r2 i k c,[], { s with xs:=Pl.tkX (Pl.qA (.iface s.t2 s.d2)) s.xs s.os s.r2 i k c })
 |_,_=>none
def pt161:PT:=pt2 12000000 swapF
def pt162:PT:=pt0 12000000 scaleF
def pt163:PT:=pt0 12000000 takeF
def T161:Ctx:=⟨tt,[],[],none,[],12000000,[2],[],0,[],[],[],[],[]⟩
def T162:Ctx:=⟨tt,[],VV,none,[],12000000,[0],[],0,[],[],[],[],[]⟩
def H162:Hints:=lo [(0,⟨[0,1,2,14,15],[(16,si),(0,s0)]⟩)]
def H163:Hints:=lo [(0,⟨[0,1,3,16,17],[(18,si),(0,s0)]⟩)]

def swap2F:List AV→MS→Option (Prop×List D×MS)
 |[.d r, .d (.int .i64 i), .d (.int .i64 k)],s=>(match r with
  | .ref 1 1=>some (Pl.preS s.os s.r1 i k∧Pl.preS (Pl.swO s.os s.r1 i k) s.r2 i k,[], { s with os:=Pl.swO (Pl.swO s.os s.r1 i k) s.r2 i k })
  |_=>none)
 |_,_=>none
def scale2F:List AV→MS→Option (Prop×List D×MS)
 |[.d r, .d (.int .i64 i), .d (.int .i64 c)],s=>(match r with
  | .ref 1 1=>some (Pl.preL (.iface s.t1 s.d1) s.xs s.os s.r1 i c∧Pl.preL (.iface s.t2 s.d2) (Pl.scX (Pl.qA (.iface s.t1 s.d1)) s.xs s.os s.r1 i c) s.os s.r2 i c,[],
   { s with xs:=Pl.scX (Pl.qA (.iface s.t2 s.d2)) (Pl.scX (Pl.qA (.iface s.t1 s.d1)) s.xs s.os s.r1 i c) s.os s.r2 i c })
  |_=>none)
 |_,_=>none
def take2F:List AV→MS→Option (Prop×List D×MS)
 |[.d r, .d (.int .i64 i), .d (.int .i64 k), .d (.int .i64 c)],s=>(match r with
  | .ref 1 1=>some (Pl.preT (.iface s.t1 s.d1) s.xs s.os s.r1 i k c∧Pl.preT (.iface s.t2 s.d2) (Pl.tkX (Pl.qA (.iface s.t1 s.d1)) s.xs s.os s.r1 i k c) s.os s.r2 i k c,[],
   { s with xs:=Pl.tkX (Pl.qA (.iface s.t2 s.d2)) (Pl.tkX (Pl.qA (.iface s.t1 s.d1)) s.xs s.os s.r1 i k c) s.os s.r2 i k c })
  |_=>none)
 |_,_=>none
def pt136:PT:=pt2 8000000 swap2F
def pt137:PT:=pt0 8000000 scale2F
def pt138:PT:=pt0 8000000 take2F
def Tp (base:Nat) (pts:List (Nat×PT)) (mods:List Nat):Ctx:=⟨tt,[],VV,none,pts,base,mods,[],0,[],[],[],[],[]⟩
def T136:Ctx:=Tp 8000000 [(161,pt161)] [2]
def T137:Ctx:=Tp 8000000 [(162,pt162)] [0]
def T138:Ctx:=Tp 8000000 [(163,pt163)] [0]
def Hp1 (l:List Nat):Hints:=⟨[],[],[],l,[]⟩

end Fd
end
section
set_option linter.unusedVariables false
set_option linter.unusedSimpArgs false
set_option maxRecDepth 100000
namespace Fd
open Go Fw Go.Proofs

theorem mset_at {α:Type} {ms:List (Option (List α))} {j:Nat} {xs:List α} (hm:mal ms j) (h0:0<j):mal (mset ms j xs) j∧mrow (mset ms j xs) j=xs:=by
 cases j with
 |zero=>omega
 |succ j=>
  obtain⟨ys,hy⟩:=hm
  have hl:j<ms.length:=(List.getElem?_eq_some_iff.1 hy).1
  refine⟨⟨xs, ?_⟩, ?_⟩
  ·show(ms.set j (some xs))[j]? =_
   rw[List.getElem?_set,if_pos rfl,if_pos hl]
  ·show((ms.set j (some xs)).getD j none).getD []=xs
   rw[List.getD_eq_getElem?_getD,List.getElem?_set,if_pos rfl,if_pos hl];rfl
theorem mset_twice {α:Type} (ms:List (Option (List α))) (j:Nat) (xs ys:List α):mset (mset ms j xs) j ys=mset ms j ys:=by
 cases j with
 |zero=>rfl
 |succ j=>show(ms.set j (some xs)).set j (some ys)=ms.set j (some ys);rw[List.set_set]
theorem mrow_pos {α:Type} {ms:List (Option (List α))} {j:Nat} {i:Int} (h0:0≤i) (h:i<((mrow ms j).length:Int)):0<j:=by
 cases j with
 |zero=>have:(mrow ms 0).length=0:=rfl;omega
 |succ j=>omega

def Pl.upto (f:Int→Int) (j:Nat) (l:List Int):List Int:=(l.take j).map f++l.drop j
theorem upto_len (f:Int→Int) (j:Nat) (l:List Int):(Pl.upto f j l).length=l.length:=by
 unfold Pl.upto;rw[List.length_append,List.length_map,List.length_take,List.length_drop];omega
theorem upto_get (f:Int→Int) {j:Nat} {l:List Int} (h:j<l.length):(Pl.upto f j l).getD j 0=l.getD j 0:=by
 unfold Pl.upto
 rw[List.getD_eq_getElem?_getD,List.getElem?_append_right (by simp;omega),List.getElem?_drop,List.getD_eq_getElem?_getD]
 congr 2
 simp
 omega
theorem upto_set (f:Int→Int) {j:Nat} {l:List Int} (h:j<l.length):(Pl.upto f j l).set j (f (l.getD j 0))=Pl.upto f (j+1) l:=by
 refine List.ext_getElem? fun i=> ?_
 rw[List.getElem?_set,upto_len]
 unfold Pl.upto
 rw[List.getElem?_append,List.getElem?_append]
 simp only[List.length_map,List.length_take,List.getElem?_map,List.getElem?_take,List.getElem?_drop]
 have e1:min j l.length=j:=by omega
 have e2:min (j+1) l.length=j+1:=by omega
 rw[e1,e2]
 by_cases e:j=i
 ·subst e
  rw[if_pos rfl,if_pos h,if_pos (by omega),if_pos (by omega),List.getElem?_eq_getElem h,List.getD_eq_getElem?_getD,List.getElem?_eq_getElem h]
  rfl
 ·rw[if_neg e]
  by_cases e3:i<j
  ·have e4:i<j+1:=by omega
   simp only[if_pos e3,if_pos e4]
  ·rw[if_neg e3,if_neg (by omega)]
   congr 1
   omega
theorem upto_0 (f:Int→Int) (l:List Int):Pl.upto f 0 l=l:=by unfold Pl.upto;simp
theorem upto_all (f:Int→Int) (l:List Int):Pl.upto f l.length l=l.map f:=by unfold Pl.upto;simp
theorem mset_self {α:Type} {ms:List (Option (List α))} {j:Nat} (h:mal ms j):mset ms j (mrow ms j)=ms:=by
 cases j with
 |zero=>rfl
 |succ j=>
  obtain⟨ys,hy⟩:=h
  show ms.set j (some ((ms.getD j none).getD []))=ms
  rw[List.getD_eq_getElem?_getD,hy]
  refine List.ext_getElem? fun i=> ?_
  rw[List.getElem?_set]
  split
  ·rename_i e;subst e;rw[if_pos (List.getElem?_eq_some_iff.1 hy).1,hy];rfl
  ·rfl

theorem okA_M {v:D} (h:Pl.okA v):Pl.okM v:=by
 obtain⟨q,hq,rfl⟩:=h
 exact⟨q,hq, .inl rfl⟩
theorem vc161a: ∀(xs:XS) (os:OS) (t1:Nat) (d1:D) (l1:List D) (r1 t2:Nat) (d2:D) (l2:List D) (r2:Nat) (h:Hp) (i k:Int),Pl.preS os r1 i k→
  VCP T161 H0 Try.f161 pt161 [.bptr 1 1 0, .d (.int .i64 i), .d (.int .i64 k)] ((MS.mk xs os t1 d1 l1 r1 t2 d2 l2 r2).put h) (.tup []) (put2 ((MS.mk xs os t1 d1 l1 r1 t2 d2 l2 r2).put h) (MS.mk xs (Pl.swO os r1 i k) t1 d1 l1 r1 t2 d2 l2 r2)):=by
 rintro xs os t1 d1 l1 r1 t2 d2 l2 r2 h i k ⟨hm,⟨i0,i1⟩,k0,k1⟩
 refine cast (α:=mal os r1∧(0:Int)≤k∧k<(↑(mrow os r1).length:Int)∧mal os r1∧(0:Int)≤k∧k<(↑(mrow os r1).length:Int)∧mal os r1∧(0:Int)≤i∧i<(↑(mrow os r1).length:Int)∧mal os r1∧(0:Int)≤i∧i<(↑(mrow os r1).length:Int)∧mal os r1∧(0:Int)≤i∧i<(↑(mrow os r1).length:Int)∧mal os r1∧(0:Int)≤i∧i<(↑(mrow os r1).length:Int)∧mal (mset os r1 ((mrow os r1).set i.toNat (rd (Ty.ref (0:Nat)) (mrow os r1) k))) r1∧(0:Int)≤k∧k<(↑(mrow (mset os r1 ((mrow os r1).set i.toNat (rd (Ty.ref (0:Nat)) (mrow os r1) k))) r1).length:Int)∧mal (mset os r1 ((mrow os r1).set i.toNat (rd (Ty.ref (0:Nat)) (mrow os r1) k))) r1∧(0:Int)≤k∧k<(↑(mrow (mset os r1 ((mrow os r1).set i.toNat (rd (Ty.ref (0:Nat)) (mrow os r1) k))) r1).length:Int)∧True∧mset (mset os r1 ((mrow os r1).set i.toNat (rd (Ty.ref (0:Nat)) (mrow os r1) k))) r1 ((mrow (mset os r1 ((mrow os r1).set i.toNat (rd (Ty.ref (0:Nat)) (mrow os r1) k))) r1).set k.toNat (rd (Ty.ref (0:Nat)) (mrow os r1) i))=Pl.swO os r1 i k∧True) (by kernel_rfl) ?_
 have hp:=mrow_pos i0 i1
 have hs:=fun ys=>mset_at (xs:=ys) hm hp
 refine⟨hm,k0,k1,hm,k0,k1,hm,i0,i1,hm,i0,i1,hm,i0,i1,hm,i0,i1,(hs _).1,k0, ?_,(hs _).1,k0, ?_,trivial, ?_,trivial⟩
 ·rw[(hs _).2,List.length_set];exact k1
 ·rw[(hs _).2,List.length_set];exact k1
 ·rw[mset_twice,(hs _).2];rfl
theorem vc161b: ∀(xs:XS) (os:OS) (t1:Nat) (d1:D) (l1:List D) (r1 t2:Nat) (d2:D) (l2:List D) (r2:Nat) (h:Hp) (i k:Int),Pl.preS os r2 i k→
  VCP T161 H0 Try.f161 pt161 [.bptr 1 1 2, .d (.int .i64 i), .d (.int .i64 k)] ((MS.mk xs os t1 d1 l1 r1 t2 d2 l2 r2).put h) (.tup []) (put2 ((MS.mk xs os t1 d1 l1 r1 t2 d2 l2 r2).put h) (MS.mk xs (Pl.swO os r2 i k) t1 d1 l1 r1 t2 d2 l2 r2)):=by
 rintro xs os t1 d1 l1 r1 t2 d2 l2 r2 h i k ⟨hm,⟨i0,i1⟩,k0,k1⟩
 refine cast (α:=mal os r2∧(0:Int)≤k∧k<(↑(mrow os r2).length:Int)∧mal os r2∧(0:Int)≤k∧k<(↑(mrow os r2).length:Int)∧mal os r2∧(0:Int)≤i∧i<(↑(mrow os r2).length:Int)∧mal os r2∧(0:Int)≤i∧i<(↑(mrow os r2).length:Int)∧mal os r2∧(0:Int)≤i∧i<(↑(mrow os r2).length:Int)∧mal os r2∧(0:Int)≤i∧i<(↑(mrow os r2).length:Int)∧mal (mset os r2 ((mrow os r2).set i.toNat (rd (Ty.ref (0:Nat)) (mrow os r2) k))) r2∧(0:Int)≤k∧k<(↑(mrow (mset os r2 ((mrow os r2).set i.toNat (rd (Ty.ref (0:Nat)) (mrow os r2) k))) r2).length:Int)∧mal (mset os r2 ((mrow os r2).set i.toNat (rd (Ty.ref (0:Nat)) (mrow os r2) k))) r2∧(0:Int)≤k∧k<(↑(mrow (mset os r2 ((mrow os r2).set i.toNat (rd (Ty.ref (0:Nat)) (mrow os r2) k))) r2).length:Int)∧True∧mset (mset os r2 ((mrow os r2).set i.toNat (rd (Ty.ref (0:Nat)) (mrow os r2) k))) r2 ((mrow (mset os r2 ((mrow os r2).set i.toNat (rd (Ty.ref (0:Nat)) (mrow os r2) k))) r2).set k.toNat (rd (Ty.ref (0:Nat)) (mrow os r2) i))=Pl.swO os r2 i k∧True) (by kernel_rfl) ?_
 have hp:=mrow_pos i0 i1
 have hs:=fun ys=>mset_at (xs:=ys) hm hp
 refine⟨hm,k0,k1,hm,k0,k1,hm,i0,i1,hm,i0,i1,hm,i0,i1,hm,i0,i1,(hs _).1,k0, ?_,(hs _).1,k0, ?_,trivial, ?_,trivial⟩
 ·rw[(hs _).2,List.length_set];exact k1
 ·rw[(hs _).2,List.length_set];exact k1
 ·rw[mset_twice,(hs _).2];rfl
theorem vc162a: ∀(xs:XS) (os:OS) (t1:Nat) (d1:D) (l1:List D) (r1 t2:Nat) (d2:D) (l2:List D) (r2:Nat) (h:Hp) (i c:Int),Pl.preL (.iface t1 d1) xs os r1 i c→
  VCP T162 H162 Try.f162 pt162 [.bptr 1 1 0, .d (.int .i64 i), .d (.int .i64 c)] ((MS.mk xs os t1 d1 l1 r1 t2 d2 l2 r2).put h) (.tup []) (put0 ((MS.mk xs os t1 d1 l1 r1 t2 d2 l2 r2).put h) (MS.mk (Pl.scX (Pl.qA (.iface t1 d1)) xs os r1 i c) os t1 d1 l1 r1 t2 d2 l2 r2)):=by
 rintro xs os t1 d1 l1 r1 t2 d2 l2 r2 h i c ⟨⟨hm,i0,i1⟩,hx,ha,hc,hq,hl⟩
 refine cast (α:=mal os r1∧(0:Int)≤i∧i<(↑(mrow os r1).length:Int)∧mal os r1∧(0:Int)≤i∧i<(↑(mrow os r1).length:Int)∧mal xs (rd (Ty.ref (0:Nat)) (mrow os r1) i)∧ ∃(n:Nat),itl (fun(G:Int×List (Option (List Int))×PUnit→Prop) (x:Int×List (Option (List Int))×PUnit)=>Br (decide (x.1<(↑(mrow xs (rd (Ty.ref (0:Nat)) (mrow os r1) i)).length:Int))) (mal x.2.1 (rd (Ty.ref (0:Nat)) (mrow os r1) i)∧(0:Int)≤x.1∧x.1<(↑(mrow x.2.1 (rd (Ty.ref (0:Nat)) (mrow os r1) i)).length:Int)∧mal x.2.1 (rd (Ty.ref (0:Nat)) (mrow os r1) i)∧(0:Int)≤x.1∧x.1<(↑(mrow x.2.1 (rd (Ty.ref (0:Nat)) (mrow os r1) i)).length:Int)∧mal os r1∧(0:Int)≤i∧i<(↑(mrow os r1).length:Int)∧mal os r1∧(0:Int)≤i∧i<(↑(mrow os r1).length:Int)∧(Pl.okM (D.iface t1 d1)∧Pl.inQ (Pl.qA (D.iface t1 d1)) c∧Pl.inQ (Pl.qA (D.iface t1 d1)) (rd i64 (mrow x.2.1 (rd (Ty.ref (0:Nat)) (mrow os r1) i)) x.1))∧mal x.2.1 (rd (Ty.ref (0:Nat)) (mrow os r1) i)∧(0:Int)≤x.1∧x.1<(↑(mrow x.2.1 (rd (Ty.ref (0:Nat)) (mrow os r1) i)).length:Int)∧mal x.2.1 (rd (Ty.ref (0:Nat)) (mrow os r1) i)∧(0:Int)≤x.1∧x.1<(↑(mrow x.2.1 (rd (Ty.ref (0:Nat)) (mrow os r1) i)).length:Int)∧G (IntKind.i64.wrap (x.1+(1:Int)),mset x.2.1 (rd (Ty.ref (0:Nat)) (mrow os r1) i) ((mrow x.2.1 (rd (Ty.ref (0:Nat)) (mrow os r1) i)).set (Int.toNat x.1) (Pl.mul (Pl.qA (D.iface t1 d1)) c (rd i64 (mrow x.2.1 (rd (Ty.ref (0:Nat)) (mrow os r1) i)) x.1))),())) (True∧x.2.1=Pl.scX (Pl.qA (D.iface t1 d1)) xs os r1 i c∧True)) n ((0:Int),xs,())) (by kernel_rfl) ?_
 have er:rd (Ty.ref (0:Nat)) (mrow os r1) i=Pl.ri os r1 i:=rfl
 rw[er]
 unfold Pl.scX
 have haM:=okA_M ha
 generalize Pl.ri os r1 i=r at*
 generalize hrow:mrow xs r=row at*
 generalize hv:D.iface t1 d1=v at*
 let f:=Pl.mul (Pl.qA v) c
 refine⟨hm,i0,i1,hm,i0,i1,hx,itl_rule (fun s=> ∃j:Nat,s.1=(j:Int)∧j≤row.length∧s.2.1=mset xs r (Pl.upto f j row)) (fun s=>(row.length-s.1.toNat)) ⟨0,rfl,Nat.zero_le _, ?_⟩ ?_⟩
 ·rw[upto_0, ←hrow];exact(mset_self hx).symm
 ·rintro⟨j',ys,⟨⟩⟩ G ⟨j,rfl,hj,e⟩ hG
  simp only at e
  subst e
  refine Br_of (fun hlt=> ?_) (fun hlt=> ?_)
  ·have hlt:j<row.length:=by have:=of_decide_eq_true hlt;omega
   have hr0:0<r:=by
    cases r with
    |zero=>have:(mrow xs 0).length=0:=rfl;rw[hrow]at this;omega
    |succ r=>omega
   obtain⟨s1,s2⟩:=mset_at (xs:=Pl.upto f j row) hx hr0
   have g:rd i64 (Pl.upto f j row) (j:Int)=row.getD j 0:=upto_get f hlt
   have hin:Pl.inQ (Pl.qA v) (row.getD j 0):=hq _ (by rw[List.getD_eq_getElem?_getD,List.getElem?_eq_getElem hlt];exact List.getElem_mem hlt)
   simp only
   rw[s2,upto_len,g,wrap_i64 (by omega) (by omega),mset_twice]
   refine⟨s1,by omega,by omega,s1,by omega,by omega,hm,i0,i1,hm,i0,i1,⟨haM,hc,hin⟩,s1,by omega,by omega,s1,by omega,by omega,hG _ ⟨j+1,by simp,hlt, ?_⟩ (by simp;omega)⟩
   rw[←upto_set f hlt];rfl
  ·have hge:j=row.length:=by have:=of_decide_eq_false hlt;omega
   subst hge
   rw[upto_all]
   exact⟨trivial,rfl,trivial⟩
theorem vc162b: ∀(xs:XS) (os:OS) (t1:Nat) (d1:D) (l1:List D) (r1 t2:Nat) (d2:D) (l2:List D) (r2:Nat) (h:Hp) (i c:Int),Pl.preL (.iface t2 d2) xs os r2 i c→
  VCP T162 H162 Try.f162 pt162 [.bptr 1 1 2, .d (.int .i64 i), .d (.int .i64 c)] ((MS.mk xs os t1 d1 l1 r1 t2 d2 l2 r2).put h) (.tup []) (put0 ((MS.mk xs os t1 d1 l1 r1 t2 d2 l2 r2).put h) (MS.mk (Pl.scX (Pl.qA (.iface t2 d2)) xs os r2 i c) os t1 d1 l1 r1 t2 d2 l2 r2)):=by
 rintro xs os t1 d1 l1 r1 t2 d2 l2 r2 h i c ⟨⟨hm,i0,i1⟩,hx,ha,hc,hq,hl⟩
 refine cast (α:=mal os r2∧(0:Int)≤i∧i<(↑(mrow os r2).length:Int)∧mal os r2∧(0:Int)≤i∧i<(↑(mrow os r2).length:Int)∧mal xs (rd (Ty.ref (0:Nat)) (mrow os r2) i)∧ ∃(n:Nat),itl (fun(G:Int×List (Option (List Int))×PUnit→Prop) (x:Int×List (Option (List Int))×PUnit)=>Br (decide (x.1<(↑(mrow xs (rd (Ty.ref (0:Nat)) (mrow os r2) i)).length:Int))) (mal x.2.1 (rd (Ty.ref (0:Nat)) (mrow os r2) i)∧(0:Int)≤x.1∧x.1<(↑(mrow x.2.1 (rd (Ty.ref (0:Nat)) (mrow os r2) i)).length:Int)∧mal x.2.1 (rd (Ty.ref (0:Nat)) (mrow os r2) i)∧(0:Int)≤x.1∧x.1<(↑(mrow x.2.1 (rd (Ty.ref (0:Nat)) (mrow os r2) i)).length:Int)∧mal os r2∧(0:Int)≤i∧i<(↑(mrow os r2).length:Int)∧mal os r2∧(0:Int)≤i∧i<(↑(mrow os r2).length:Int)∧(Pl.okM (D.iface t2 d2)∧Pl.inQ (Pl.qA (D.iface t2 d2)) c∧Pl.inQ (Pl.qA (D.iface t2 d2)) (rd i64 (mrow x.2.1 (rd (Ty.ref (0:Nat)) (mrow os r2) i)) x.1))∧mal x.2.1 (rd (Ty.ref (0:Nat)) (mrow os r2) i)∧(0:Int)≤x.1∧x.1<(↑(mrow x.2.1 (rd (Ty.ref (0:Nat)) (mrow os r2) i)).length:Int)∧mal x.2.1 (rd (Ty.ref (0:Nat)) (mrow os r2) i)∧(0:Int)≤x.1∧x.1<(↑(mrow x.2.1 (rd (Ty.ref (0:Nat)) (mrow os r2) i)).length:Int)∧G (IntKind.i64.wrap (x.1+(1:Int)),mset x.2.1 (rd (Ty.ref (0:Nat)) (mrow os r2) i) ((mrow x.2.1 (rd (Ty.ref (0:Nat)) (mrow os r2) i)).set (Int.toNat x.1) (Pl.mul (Pl.qA (D.iface t2 d2)) c (rd i64 (mrow x.2.1 (rd (Ty.ref (0:Nat)) (mrow os r2) i)) x.1))),())) (True∧x.2.1=Pl.scX (Pl.qA (D.iface t2 d2)) xs os r2 i c∧True)) n ((0:Int),xs,())) (by kernel_rfl) ?_
 have er:rd (Ty.ref (0:Nat)) (mrow os r2) i=Pl.ri os r2 i:=rfl
 rw[er]
 unfold Pl.scX
 have haM:=okA_M ha
 generalize Pl.ri os r2 i=r at*
 generalize hrow:mrow xs r=row at*
 generalize hv:D.iface t2 d2=v at*
 let f:=Pl.mul (Pl.qA v) c
 refine⟨hm,i0,i1,hm,i0,i1,hx,itl_rule (fun s=> ∃j:Nat,s.1=(j:Int)∧j≤row.length∧s.2.1=mset xs r (Pl.upto f j row)) (fun s=>(row.length-s.1.toNat)) ⟨0,rfl,Nat.zero_le _, ?_⟩ ?_⟩
 ·rw[upto_0, ←hrow];exact(mset_self hx).symm
 ·rintro⟨j',ys,⟨⟩⟩ G ⟨j,rfl,hj,e⟩ hG
  simp only at e
  subst e
  refine Br_of (fun hlt=> ?_) (fun hlt=> ?_)
  ·have hlt:j<row.length:=by have:=of_decide_eq_true hlt;omega
   have hr0:0<r:=by
    cases r with
    |zero=>have:(mrow xs 0).length=0:=rfl;rw[hrow]at this;omega
    |succ r=>omega
   obtain⟨s1,s2⟩:=mset_at (xs:=Pl.upto f j row) hx hr0
   have g:rd i64 (Pl.upto f j row) (j:Int)=row.getD j 0:=upto_get f hlt
   have hin:Pl.inQ (Pl.qA v) (row.getD j 0):=hq _ (by rw[List.getD_eq_getElem?_getD,List.getElem?_eq_getElem hlt];exact List.getElem_mem hlt)
   simp only
   rw[s2,upto_len,g,wrap_i64 (by omega) (by omega),mset_twice]
   refine⟨s1,by omega,by omega,s1,by omega,by omega,hm,i0,i1,hm,i0,i1,⟨haM,hc,hin⟩,s1,by omega,by omega,s1,by omega,by omega,hG _ ⟨j+1,by simp,hlt, ?_⟩ (by simp;omega)⟩
   rw[←upto_set f hlt];rfl
  ·have hge:j=row.length:=by have:=of_decide_eq_false hlt;omega
   subst hge
   rw[upto_all]
   exact⟨trivial,rfl,trivial⟩
theorem snd161:SoundPT Try.prog 161 pt161:=pt_sound (T:=T161) (fn:=Try.f161) (tokg (T:=T161) trivial trivial trivial noInv noCv) Try.func161 (by kernel_rfl) H0 (fun avs h p v h' hf hp=>by
 obtain⟨s,l,s',e,rfl,rfl,e2⟩:=pt2_elim hf
 rw[e2]
 obtain⟨xs,os,t1,d1,l1,r1,t2,d2,l2,r2⟩:=s
 unfold swapF at e
 split at e
 ·rename_i i k
  injection e with e
  injection e with e1 e3
  injection e3 with e3 e4
  subst e1 e3 e4
  exact vc161a xs os t1 d1 l1 r1 t2 d2 l2 r2 h i k hp
 ·rename_i i k
  injection e with e
  injection e with e1 e3
  injection e3 with e3 e4
  subst e1 e3 e4
  exact vc161b xs os t1 d1 l1 r1 t2 d2 l2 r2 h i k hp
 ·cases e) (by kernel_rfl)
theorem snd162:SoundPT Try.prog 162 pt162:=pt_sound (T:=T162) (fn:=Try.f162) (tokg (T:=T162) trivial trivial trivial invsV noCv) Try.func162 (by kernel_rfl) H162 (fun avs h p v h' hf hp=>by
 obtain⟨s,l,s',e,rfl,rfl,e2⟩:=pt0_elim hf
 rw[e2]
 obtain⟨xs,os,t1,d1,l1,r1,t2,d2,l2,r2⟩:=s
 unfold scaleF at e
 split at e
 ·rename_i i c
  injection e with e
  injection e with e1 e3
  injection e3 with e3 e4
  subst e1 e3 e4
  exact vc162a xs os t1 d1 l1 r1 t2 d2 l2 r2 h i c hp
 ·rename_i i c
  injection e with e
  injection e with e1 e3
  injection e3 with e3 e4
  subst e1 e3 e4
  exact vc162b xs os t1 d1 l1 r1 t2 d2 l2 r2 h i c hp
 ·cases e) (by kernel_rfl)
end Fd
end
section
set_option linter.unusedVariables false
set_option linter.unusedSimpArgs false
set_option maxRecDepth 100000
namespace Fd
open Go Fw Go.Proofs

theorem mset_other {α:Type} {ms:List (Option (List α))} {j k:Nat} {xs:List α} (h:j≠k):(mal (mset ms j xs) k↔mal ms k)∧mrow (mset ms j xs) k=mrow ms k:=by
 cases j with
 |zero=>exact⟨Iff.rfl,rfl⟩
 |succ j=>
  cases k with
  |zero=>exact⟨Iff.rfl,rfl⟩
  |succ k=>
   have e:(ms.set j (some xs))[k]? =ms[k]? :=by rw[List.getElem?_set,if_neg (by omega)]
   refine⟨?_, ?_⟩
   ·show(∃x,(ms.set j (some xs))[k]? =_)↔ ∃x,ms[k]? =_
    rw[e]
   ·show((ms.set j (some xs)).getD k none).getD []=(ms.getD k none).getD []
    rw[List.getD_eq_getElem?_getD,List.getD_eq_getElem?_getD,e]
def Pl.upI (g:Nat→Int) (j:Nat) (l:List Int):List Int:=(List.range j).map g++l.drop j
theorem upI_len (g:Nat→Int) {j:Nat} {l:List Int} (h:j≤l.length):(Pl.upI g j l).length=l.length:=by
 unfold Pl.upI;rw[List.length_append,List.length_map,List.length_range,List.length_drop];omega
theorem upI_get (g:Nat→Int) {j:Nat} {l:List Int} (h:j<l.length):(Pl.upI g j l).getD j 0=l.getD j 0:=by
 unfold Pl.upI
 rw[List.getD_eq_getElem?_getD,List.getElem?_append_right (by simp),List.getElem?_drop,List.getD_eq_getElem?_getD]
 simp
theorem upI_set (g:Nat→Int) {j:Nat} {l:List Int} (h:j<l.length):(Pl.upI g j l).set j (g j)=Pl.upI g (j+1) l:=by
 refine List.ext_getElem? fun i=> ?_
 rw[List.getElem?_set,upI_len g (by omega)]
 unfold Pl.upI
 rw[List.getElem?_append,List.getElem?_append]
 simp only[List.length_map,List.length_range,List.getElem?_map,List.getElem?_drop]
 by_cases e:j=i
 ·subst e
  rw[if_pos rfl,if_pos h,if_pos (by omega),List.getElem?_range (by omega)]
  rfl
 ·rw[if_neg e]
  by_cases e3:i<j
  ·rw[if_pos e3,if_pos (by omega),List.getElem?_range (by omega),List.getElem?_range (by omega)]
  ·rw[if_neg e3,if_neg (by omega)]
   congr 1
   omega
theorem upI_0 (g:Nat→Int) (l:List Int):Pl.upI g 0 l=l:=by unfold Pl.upI;simp
theorem upI_tkl {q c:Int} {x y:List Int} (h:y.length=x.length):Pl.upI (fun j=>Pl.sub q (x.getD j 0) (Pl.mul q c (y.getD j 0))) x.length x=Pl.tkl q c x y:=by
 unfold Pl.upI Pl.tkl
 rw[List.drop_length,List.append_nil]
 refine List.ext_getElem? fun i=> ?_
 rw[List.getElem?_map,List.getElem?_zipWith]
 by_cases hi:i<x.length
 ·rw[List.getElem?_range hi,List.getElem?_eq_getElem hi,List.getElem?_eq_getElem (show i<y.length by omega)]
  simp only[Option.map_some,List.getD_eq_getElem?_getD,List.getElem?_eq_getElem hi,List.getElem?_eq_getElem (show i<y.length by omega),Option.getD_some]
 ·rw[List.getElem?_eq_none (by simp;omega),List.getElem?_eq_none (show x.length≤i by omega)]
  rfl
theorem okA_q {v:D} (h:Pl.okA v):isQ (Pl.qA v):=by
 obtain⟨q,hq,rfl⟩:=h
 rw[qA_ar hq];exact hq
theorem getD_inQ {q:Int} {l:List Int} (h: ∀x∈l,Pl.inQ q x) {j:Nat} (hj:j<l.length):Pl.inQ q (l.getD j 0):=h _ (by rw[List.getD_eq_getElem?_getD,List.getElem?_eq_getElem hj];exact List.getElem_mem hj)
theorem vc163a: ∀(xs:XS) (os:OS) (t1:Nat) (d1:D) (l1:List D) (r1 t2:Nat) (d2:D) (l2:List D) (r2:Nat) (h:Hp) (i k c:Int),Pl.preT (.iface t1 d1) xs os r1 i k c→
  VCP T162 H163 Try.f163 pt163 [.bptr 1 1 0, .d (.int .i64 i), .d (.int .i64 k), .d (.int .i64 c)] ((MS.mk xs os t1 d1 l1 r1 t2 d2 l2 r2).put h) (.tup []) (put0 ((MS.mk xs os t1 d1 l1 r1 t2 d2 l2 r2).put h) (MS.mk (Pl.tkX (Pl.qA (.iface t1 d1)) xs os r1 i k c) os t1 d1 l1 r1 t2 d2 l2 r2)):=by
 rintro xs os t1 d1 l1 r1 t2 d2 l2 r2 h i k c ⟨⟨hm,⟨i0,i1⟩,k0,k1⟩,⟨hx,hy,hr0,hne⟩,ha,hc,⟨hqx,hlx⟩,⟨hqy,hly⟩,hlen⟩
 refine cast (α:=mal os r1∧(0:Int)≤k∧k<(↑(mrow os r1).length:Int)∧mal os r1∧(0:Int)≤k∧k<(↑(mrow os r1).length:Int)∧mal xs (rd (Ty.ref (0:Nat)) (mrow os r1) k)∧ ∃(n:Nat),itl (fun(G:Int×List (Option (List Int))×PUnit→Prop) (x:Int×List (Option (List Int))×PUnit)=>Br (decide (x.1<(↑(mrow xs (rd (Ty.ref (0:Nat)) (mrow os r1) k)).length:Int))) (mal x.2.1 (rd (Ty.ref (0:Nat)) (mrow os r1) k)∧(0:Int)≤x.1∧x.1<(↑(mrow x.2.1 (rd (Ty.ref (0:Nat)) (mrow os r1) k)).length:Int)∧mal x.2.1 (rd (Ty.ref (0:Nat)) (mrow os r1) k)∧(0:Int)≤x.1∧x.1<(↑(mrow x.2.1 (rd (Ty.ref (0:Nat)) (mrow os r1) k)).length:Int)∧mal os r1∧(0:Int)≤i∧i<(↑(mrow os r1).length:Int)∧mal os r1∧(0:Int)≤i∧i<(↑(mrow os r1).length:Int)∧mal os r1∧(0:Int)≤i∧i<(↑(mrow os r1).length:Int)∧mal os r1∧(0:Int)≤i∧i<(↑(mrow os r1).length:Int)∧mal x.2.1 (rd (Ty.ref (0:Nat)) (mrow os r1) i)∧(0:Int)≤x.1∧x.1<(↑(mrow x.2.1 (rd (Ty.ref (0:Nat)) (mrow os r1) i)).length:Int)∧mal x.2.1 (rd (Ty.ref (0:Nat)) (mrow os r1) i)∧(0:Int)≤x.1∧x.1<(↑(mrow x.2.1 (rd (Ty.ref (0:Nat)) (mrow os r1) i)).length:Int)∧(Pl.okM (D.iface t1 d1)∧Pl.inQ (Pl.qA (D.iface t1 d1)) c∧Pl.inQ (Pl.qA (D.iface t1 d1)) (rd i64 (mrow x.2.1 (rd (Ty.ref (0:Nat)) (mrow os r1) k)) x.1))∧(Pl.okA (D.iface t1 d1)∧Pl.inQ (Pl.qA (D.iface t1 d1)) (rd i64 (mrow x.2.1 (rd (Ty.ref (0:Nat)) (mrow os r1) i)) x.1)∧Pl.inQ (Pl.qA (D.iface t1 d1)) (Pl.mul (Pl.qA (D.iface t1 d1)) c (rd i64 (mrow x.2.1 (rd (Ty.ref (0:Nat)) (mrow os r1) k)) x.1)))∧mal x.2.1 (rd (Ty.ref (0:Nat)) (mrow os r1) i)∧(0:Int)≤x.1∧x.1<(↑(mrow x.2.1 (rd (Ty.ref (0:Nat)) (mrow os r1) i)).length:Int)∧mal x.2.1 (rd (Ty.ref (0:Nat)) (mrow os r1) i)∧(0:Int)≤x.1∧x.1<(↑(mrow x.2.1 (rd (Ty.ref (0:Nat)) (mrow os r1) i)).length:Int)∧G (IntKind.i64.wrap (x.1+(1:Int)),mset x.2.1 (rd (Ty.ref (0:Nat)) (mrow os r1) i) ((mrow x.2.1 (rd (Ty.ref (0:Nat)) (mrow os r1) i)).set (Int.toNat x.1) (Pl.sub (Pl.qA (D.iface t1 d1)) (rd i64 (mrow x.2.1 (rd (Ty.ref (0:Nat)) (mrow os r1) i)) x.1) (Pl.mul (Pl.qA (D.iface t1 d1)) c (rd i64 (mrow x.2.1 (rd (Ty.ref (0:Nat)) (mrow os r1) k)) x.1)))),())) (True∧x.2.1=Pl.tkX (Pl.qA (D.iface t1 d1)) xs os r1 i k c∧True)) n ((0:Int),xs,())) (by kernel_rfl) ?_
 have er:rd (Ty.ref (0:Nat)) (mrow os r1) i=Pl.ri os r1 i:=rfl
 have ek:rd (Ty.ref (0:Nat)) (mrow os r1) k=Pl.ri os r1 k:=rfl
 rw[er,ek]
 unfold Pl.tkX
 have haM:=okA_M ha
 have hQ:=okA_q ha
 generalize Pl.ri os r1 i=r at*
 generalize Pl.ri os r1 k=r' at*
 generalize hrow:mrow xs r=row at*
 generalize hrow':mrow xs r'=row' at*
 generalize hv:D.iface t1 d1=v at*
 let g:Nat→Int:=fun j=>Pl.sub (Pl.qA v) (row.getD j 0) (Pl.mul (Pl.qA v) c (row'.getD j 0))
 refine⟨hm,k0,k1,hm,k0,k1,hy,itl_rule (fun s=> ∃j:Nat,s.1=(j:Int)∧j≤row.length∧s.2.1=mset xs r (Pl.upI g j row)) (fun s=>(row.length-s.1.toNat)) ⟨0,rfl,Nat.zero_le _, ?_⟩ ?_⟩
 ·rw[upI_0, ←hrow];exact(mset_self hx).symm
 ·rintro⟨j',ys,⟨⟩⟩ G ⟨j,rfl,hj,e⟩ hG
  simp only at e
  subst e
  refine Br_of (fun hlt=> ?_) (fun hlt=> ?_)
  ·have hlt:j<row.length:=by have:=of_decide_eq_true hlt;omega
   obtain⟨s1,s2⟩:=mset_at (xs:=Pl.upI g j row) hx hr0
   obtain⟨o1,o2⟩:=mset_other (ms:=xs) (xs:=Pl.upI g j row) hne
   rw[hrow']at o2
   have o1:=o1.2 hy
   have g1:rd i64 (Pl.upI g j row) (j:Int)=row.getD j 0:=upI_get g hlt
   have g2:rd i64 row' (j:Int)=row'.getD j 0:=rfl
   have hin:=getD_inQ hqx hlt
   have hin':=getD_inQ hqy (show j<row'.length by omega)
   have hll:=upI_len g hj
   simp only
   rw[s2,o2,hll,g1,g2,wrap_i64 (by omega) (by omega),mset_twice]
   refine⟨o1,by omega,by omega,o1,by omega,by omega,hm,i0,i1,hm,i0,i1,hm,i0,i1,hm,i0,i1,s1,by omega,by omega,s1,by omega,by omega,⟨haM,hc,hin'⟩,⟨ha,hin,mul_inQ hQ _ _⟩,s1,by omega,by omega,s1,by omega,by omega,hG _ ⟨j+1,by simp,hlt, ?_⟩ (by simp;omega)⟩
   rw[←upI_set g hlt];rfl
  ·have hge:j=row.length:=by have:=of_decide_eq_false hlt;omega
   subst hge
   rw[upI_tkl hlen]
   exact⟨trivial,rfl,trivial⟩
theorem vc163b: ∀(xs:XS) (os:OS) (t1:Nat) (d1:D) (l1:List D) (r1 t2:Nat) (d2:D) (l2:List D) (r2:Nat) (h:Hp) (i k c:Int),Pl.preT (.iface t2 d2) xs os r2 i k c→
  VCP T162 H163 Try.f163 pt163 [.bptr 1 1 2, .d (.int .i64 i), .d (.int .i64 k), .d (.int .i64 c)] ((MS.mk xs os t1 d1 l1 r1 t2 d2 l2 r2).put h) (.tup []) (put0 ((MS.mk xs os t1 d1 l1 r1 t2 d2 l2 r2).put h) (MS.mk (Pl.tkX (Pl.qA (.iface t2 d2)) xs os r2 i k c) os t1 d1 l1 r1 t2 d2 l2 r2)):=by
 rintro xs os t1 d1 l1 r1 t2 d2 l2 r2 h i k c ⟨⟨hm,⟨i0,i1⟩,k0,k1⟩,⟨hx,hy,hr0,hne⟩,ha,hc,⟨hqx,hlx⟩,⟨hqy,hly⟩,hlen⟩
 refine cast (α:=mal os r2∧(0:Int)≤k∧k<(↑(mrow os r2).length:Int)∧mal os r2∧(0:Int)≤k∧k<(↑(mrow os r2).length:Int)∧mal xs (rd (Ty.ref (0:Nat)) (mrow os r2) k)∧ ∃(n:Nat),itl (fun(G:Int×List (Option (List Int))×PUnit→Prop) (x:Int×List (Option (List Int))×PUnit)=>Br (decide (x.1<(↑(mrow xs (rd (Ty.ref (0:Nat)) (mrow os r2) k)).length:Int))) (mal x.2.1 (rd (Ty.ref (0:Nat)) (mrow os r2) k)∧(0:Int)≤x.1∧x.1<(↑(mrow x.2.1 (rd (Ty.ref (0:Nat)) (mrow os r2) k)).length:Int)∧mal x.2.1 (rd (Ty.ref (0:Nat)) (mrow os r2) k)∧(0:Int)≤x.1∧x.1<(↑(mrow x.2.1 (rd (Ty.ref (0:Nat)) (mrow os r2) k)).length:Int)∧mal os r2∧(0:Int)≤i∧i<(↑(mrow os r2).length:Int)∧mal os r2∧(0:Int)≤i∧i<(↑(mrow os r2).length:Int)∧mal os r2∧(0:Int)≤i∧i<(↑(mrow os r2).length:Int)∧mal os r2∧(0:Int)≤i∧i<(↑(mrow os r2).length:Int)∧mal x.2.1 (rd (Ty.ref (0:Nat)) (mrow os r2) i)∧(0:Int)≤x.1∧x.1<(↑(mrow x.2.1 (rd (Ty.ref (0:Nat)) (mrow os r2) i)).length:Int)∧mal x.2.1 (rd (Ty.ref (0:Nat)) (mrow os r2) i)∧(0:Int)≤x.1∧x.1<(↑(mrow x.2.1 (rd (Ty.ref (0:Nat)) (mrow os r2) i)).length:Int)∧(Pl.okM (D.iface t2 d2)∧Pl.inQ (Pl.qA (D.iface t2 d2)) c∧Pl.inQ (Pl.qA (D.iface t2 d2)) (rd i64 (mrow x.2.1 (rd (Ty.ref (0:Nat)) (mrow os r2) k)) x.1))∧(Pl.okA (D.iface t2 d2)∧Pl.inQ (Pl.qA (D.iface t2 d2)) (rd i64 (mrow x.2.1 (rd (Ty.ref (0:Nat)) (mrow os r2) i)) x.1)∧Pl.inQ (Pl.qA (D.iface t2 d2)) (Pl.mul (Pl.qA (D.iface t2 d2)) c (rd i64 (mrow x.2.1 (rd (Ty.ref (0:Nat)) (mrow os r2) k)) x.1)))∧mal x.2.1 (rd (Ty.ref (0:Nat)) (mrow os r2) i)∧(0:Int)≤x.1∧x.1<(↑(mrow x.2.1 (rd (Ty.ref (0:Nat)) (mrow os r2) i)).length:Int)∧mal x.2.1 (rd (Ty.ref (0:Nat)) (mrow os r2) i)∧(0:Int)≤x.1∧x.1<(↑(mrow x.2.1 (rd (Ty.ref (0:Nat)) (mrow os r2) i)).length:Int)∧G (IntKind.i64.wrap (x.1+(1:Int)),mset x.2.1 (rd (Ty.ref (0:Nat)) (mrow os r2) i) ((mrow x.2.1 (rd (Ty.ref (0:Nat)) (mrow os r2) i)).set (Int.toNat x.1) (Pl.sub (Pl.qA (D.iface t2 d2)) (rd i64 (mrow x.2.1 (rd (Ty.ref (0:Nat)) (mrow os r2) i)) x.1) (Pl.mul (Pl.qA (D.iface t2 d2)) c (rd i64 (mrow x.2.1 (rd (Ty.ref (0:Nat)) (mrow os r2) k)) x.1)))),())) (True∧x.2.1=Pl.tkX (Pl.qA (D.iface t2 d2)) xs os r2 i k c∧True)) n ((0:Int),xs,())) (by kernel_rfl) ?_
 have er:rd (Ty.ref (0:Nat)) (mrow os r2) i=Pl.ri os r2 i:=rfl
 have ek:rd (Ty.ref (0:Nat)) (mrow os r2) k=Pl.ri os r2 k:=rfl
 rw[er,ek]
 unfold Pl.tkX
 have haM:=okA_M ha
 have hQ:=okA_q ha
 generalize Pl.ri os r2 i=r at*
 generalize Pl.ri os r2 k=r' at*
 generalize hrow:mrow xs r=row at*
 generalize hrow':mrow xs r'=row' at*
 generalize hv:D.iface t2 d2=v at*
 let g:Nat→Int:=fun j=>Pl.sub (Pl.qA v) (row.getD j 0) (Pl.mul (Pl.qA v) c (row'.getD j 0))
 refine⟨hm,k0,k1,hm,k0,k1,hy,itl_rule (fun s=> ∃j:Nat,s.1=(j:Int)∧j≤row.length∧s.2.1=mset xs r (Pl.upI g j row)) (fun s=>(row.length-s.1.toNat)) ⟨0,rfl,Nat.zero_le _, ?_⟩ ?_⟩
 ·rw[upI_0, ←hrow];exact(mset_self hx).symm
 ·rintro⟨j',ys,⟨⟩⟩ G ⟨j,rfl,hj,e⟩ hG
  simp only at e
  subst e
  refine Br_of (fun hlt=> ?_) (fun hlt=> ?_)
  ·have hlt:j<row.length:=by have:=of_decide_eq_true hlt;omega
   obtain⟨s1,s2⟩:=mset_at (xs:=Pl.upI g j row) hx hr0
   obtain⟨o1,o2⟩:=mset_other (ms:=xs) (xs:=Pl.upI g j row) hne
   rw[hrow']at o2
   have o1:=o1.2 hy
   have g1:rd i64 (Pl.upI g j row) (j:Int)=row.getD j 0:=upI_get g hlt
   have g2:rd i64 row' (j:Int)=row'.getD j 0:=rfl
   have hin:=getD_inQ hqx hlt
   have hin':=getD_inQ hqy (show j<row'.length by omega)
   have hll:=upI_len g hj
   simp only
   rw[s2,o2,hll,g1,g2,wrap_i64 (by omega) (by omega),mset_twice]
   refine⟨o1,by omega,by omega,o1,by omega,by omega,hm,i0,i1,hm,i0,i1,hm,i0,i1,hm,i0,i1,s1,by omega,by omega,s1,by omega,by omega,⟨haM,hc,hin'⟩,⟨ha,hin,mul_inQ hQ _ _⟩,s1,by omega,by omega,s1,by omega,by omega,hG _ ⟨j+1,by simp,hlt, ?_⟩ (by simp;omega)⟩
   rw[←upI_set g hlt];rfl
  ·have hge:j=row.length:=by have:=of_decide_eq_false hlt;omega
   subst hge
   rw[upI_tkl hlen]
   exact⟨trivial,rfl,trivial⟩
theorem snd163:SoundPT Try.prog 163 pt163:=pt_sound (T:=T162) (fn:=Try.f163) (tokg (T:=T162) trivial trivial trivial invsV noCv) Try.func163 (by kernel_rfl) H163 (fun avs h p v h' hf hp=>by
 obtain⟨s,l,s',e,rfl,rfl,e2⟩:=pt0_elim hf
 rw[e2]
 obtain⟨xs,os,t1,d1,l1,r1,t2,d2,l2,r2⟩:=s
 unfold takeF at e
 split at e
 ·rename_i i k c
  injection e with e
  injection e with e1 e3
  injection e3 with e3 e4
  subst e1 e3 e4
  exact vc163a xs os t1 d1 l1 r1 t2 d2 l2 r2 h i k c hp
 ·rename_i i k c
  injection e with e
  injection e with e1 e3
  injection e3 with e3 e4
  subst e1 e3 e4
  exact vc163b xs os t1 d1 l1 r1 t2 d2 l2 r2 h i k c hp
 ·cases e) (by kernel_rfl)
theorem vc136: ∀(xs:XS) (os:OS) (t1:Nat) (d1:D) (l1:List D) (r1 t2:Nat) (d2:D) (l2:List D) (r2:Nat) (h:Hp) (i k:Int),(Pl.preS os r1 i k∧Pl.preS (Pl.swO os r1 i k) r2 i k)→
  VCP T136 (Hp1 [161]) Try.f136 pt136 [.d (.ref 1 1), .d (.int .i64 i), .d (.int .i64 k)] ((MS.mk xs os t1 d1 l1 r1 t2 d2 l2 r2).put h) (.tup []) (put2 ((MS.mk xs os t1 d1 l1 r1 t2 d2 l2 r2).put h) (MS.mk xs (Pl.swO (Pl.swO os r1 i k) r2 i k) t1 d1 l1 r1 t2 d2 l2 r2)):=by
 rintro xs os t1 d1 l1 r1 t2 d2 l2 r2 h i k hp
 refine cast (α:=Pl.preS os r1 i k∧Pl.preS (Pl.swO os r1 i k) r2 i k∧True∧Pl.swO (Pl.swO os r1 i k) r2 i k=Pl.swO (Pl.swO os r1 i k) r2 i k∧True) (by kernel_rfl) ?_
 exact⟨hp.1,hp.2,trivial,rfl,trivial⟩
theorem snd136:SoundPT Try.prog 136 pt136:=pt_sound (T:=T136) (fn:=Try.f136) (tokg (T:=T136) trivial ⟨snd161,trivial⟩ trivial invsV noCv) Try.func136 (by kernel_rfl) (Hp1 [161]) (fun avs h p v h' hf hp=>by
 obtain⟨s,l,s',e,rfl,rfl,e2⟩:=pt2_elim hf
 rw[e2]
 obtain⟨xs,os,t1,d1,l1,r1,t2,d2,l2,r2⟩:=s
 unfold swap2F at e
 split at e
 ·rename_i r i k
  split at e
  ·have e:=Option.some.inj e
   obtain⟨e1,e3⟩:=Prod.mk.inj e
   obtain⟨e3,e4⟩:=Prod.mk.inj e3
   subst e1 e3 e4
   exact vc136 xs os t1 d1 l1 r1 t2 d2 l2 r2 h i k hp
  ·cases e
 ·cases e) (by kernel_rfl)
theorem vc137: ∀(xs:XS) (os:OS) (t1:Nat) (d1:D) (l1:List D) (r1 t2:Nat) (d2:D) (l2:List D) (r2:Nat) (h:Hp) (i c:Int),(Pl.preL (.iface t1 d1) xs os r1 i c∧Pl.preL (.iface t2 d2) (Pl.scX (Pl.qA (.iface t1 d1)) xs os r1 i c) os r2 i c)→
  VCP T137 (Hp1 [162]) Try.f137 pt137 [.d (.ref 1 1), .d (.int .i64 i), .d (.int .i64 c)] ((MS.mk xs os t1 d1 l1 r1 t2 d2 l2 r2).put h) (.tup []) (put0 ((MS.mk xs os t1 d1 l1 r1 t2 d2 l2 r2).put h) (MS.mk (Pl.scX (Pl.qA (.iface t2 d2)) (Pl.scX (Pl.qA (.iface t1 d1)) xs os r1 i c) os r2 i c) os t1 d1 l1 r1 t2 d2 l2 r2)):=by
 rintro xs os t1 d1 l1 r1 t2 d2 l2 r2 h i c hp
 refine cast (α:=Pl.preL (D.iface t1 d1) xs os r1 i c∧Pl.preL (D.iface t2 d2) (Pl.scX (Pl.qA (D.iface t1 d1)) xs os r1 i c) os r2 i c∧True∧Pl.scX (Pl.qA (D.iface t2 d2)) (Pl.scX (Pl.qA (D.iface t1 d1)) xs os r1 i c) os r2 i c=Pl.scX (Pl.qA (D.iface t2 d2)) (Pl.scX (Pl.qA (D.iface t1 d1)) xs os r1 i c) os r2 i c∧True) (by kernel_rfl) ?_
 exact⟨hp.1,hp.2,trivial,rfl,trivial⟩
theorem snd137:SoundPT Try.prog 137 pt137:=pt_sound (T:=T137) (fn:=Try.f137) (tokg (T:=T137) trivial ⟨snd162,trivial⟩ trivial invsV noCv) Try.func137 (by kernel_rfl) (Hp1 [162]) (fun avs h p v h' hf hp=>by
 obtain⟨s,l,s',e,rfl,rfl,e2⟩:=pt0_elim hf
 rw[e2]
 obtain⟨xs,os,t1,d1,l1,r1,t2,d2,l2,r2⟩:=s
 unfold scale2F at e
 split at e
 ·rename_i r i c
  split at e
  ·have e:=Option.some.inj e
   obtain⟨e1,e3⟩:=Prod.mk.inj e
   obtain⟨e3,e4⟩:=Prod.mk.inj e3
   subst e1 e3 e4
   exact vc137 xs os t1 d1 l1 r1 t2 d2 l2 r2 h i c hp
  ·cases e
 ·cases e) (by kernel_rfl)
theorem vc138: ∀(xs:XS) (os:OS) (t1:Nat) (d1:D) (l1:List D) (r1 t2:Nat) (d2:D) (l2:List D) (r2:Nat) (h:Hp) (i k c:Int),(Pl.preT (.iface t1 d1) xs os r1 i k c∧Pl.preT (.iface t2 d2) (Pl.tkX (Pl.qA (.iface t1 d1)) xs os r1 i k c) os r2 i k c)→
  VCP T138 (Hp1 [163]) Try.f138 pt138 [.d (.ref 1 1), .d (.int .i64 i), .d (.int .i64 k), .d (.int .i64 c)] ((MS.mk xs os t1 d1 l1 r1 t2 d2 l2 r2).put h) (.tup []) (put0 ((MS.mk xs os t1 d1 l1 r1 t2 d2 l2 r2).put h) (MS.mk (Pl.tkX (Pl.qA (.iface t2 d2)) (Pl.tkX (Pl.qA (.iface t1 d1)) xs os r1 i k c) os r2 i k c) os t1 d1 l1 r1 t2 d2 l2 r2)):=by
 rintro xs os t1 d1 l1 r1 t2 d2 l2 r2 h i k c hp
 refine cast (α:=Pl.preT (D.iface t1 d1) xs os r1 i k c∧Pl.preT (D.iface t2 d2) (Pl.tkX (Pl.qA (D.iface t1 d1)) xs os r1 i k c) os r2 i k c∧True∧Pl.tkX (Pl.qA (D.iface t2 d2)) (Pl.tkX (Pl.qA (D.iface t1 d1)) xs os r1 i k c) os r2 i k c=Pl.tkX (Pl.qA (D.iface t2 d2)) (Pl.tkX (Pl.qA (D.iface t1 d1)) xs os r1 i k c) os r2 i k c∧True) (by kernel_rfl) ?_
 exact⟨hp.1,hp.2,trivial,rfl,trivial⟩
theorem snd138:SoundPT Try.prog 138 pt138:=pt_sound (T:=T138) (fn:=Try.f138) (tokg (T:=T138) trivial ⟨snd163,trivial⟩ trivial invsV noCv) Try.func138 (by kernel_rfl) (Hp1 [163]) (fun avs h p v h' hf hp=>by
 obtain⟨s,l,s',e,rfl,rfl,e2⟩:=pt0_elim hf
 rw[e2]
 obtain⟨xs,os,t1,d1,l1,r1,t2,d2,l2,r2⟩:=s
 unfold take2F at e
 split at e
 ·rename_i r i k c
  split at e
  ·have e:=Option.some.inj e
   obtain⟨e1,e3⟩:=Prod.mk.inj e
   obtain⟨e3,e4⟩:=Prod.mk.inj e3
   subst e1 e3 e4
   exact vc138 xs os t1 d1 l1 r1 t2 d2 l2 r2 h i k c hp
  ·cases e
 ·cases e) (by kernel_rfl)
end Fd
end
section
set_option linter.unusedVariables false
set_option linter.unusedSimpArgs false
set_option maxRecDepth 100000
namespace Fd
open Go Fw Go.Proofs

abbrev XO:=XS×OS
def Pl.len (os:OS) (r:Nat):Nat:=(mrow os r).length
def Pl.ent (xs:XS) (os:OS) (r:Nat) (i col:Int):Int:=(mrow xs (Pl.ri os r i)).getD col.toNat 0
def Pl.kf (xs:XS) (os:OS) (r:Nat) (col:Int):Nat→Int→Int
 |0,k=>k
 |f+1,k=>bif decide (k<(Pl.len os r:Int))&&decide (Pl.ent xs os r k col=0)then Pl.kf xs os r col f (k+1)else k
def Pl.elim1 (q:Int) (r1 r2:Nat) (os:OS) (at_ col i:Int) (xs:XS):XS:=
 bif decide (i≠at_)&&decide (Pl.ent xs os r1 i col≠0)then Pl.tkX q (Pl.tkX q xs os r1 i at_ (Pl.ent xs os r1 i col)) os r2 i at_ (Pl.ent xs os r1 i col)else xs
def Pl.elim (q:Int) (r1 r2:Nat) (os:OS) (at_ col:Int):Nat→XS→XS
 |0,xs=>xs
 |m+1,xs=>Pl.elim1 q r1 r2 os at_ col (m:Int) (Pl.elim q r1 r2 os at_ col m xs)
def Pl.colO (r1 r2:Nat) (os:OS) (at_ k:Int):OS:=Pl.swO (Pl.swO os r1 at_ k) r2 at_ k
def Pl.colX (q:Int) (r1 r2:Nat) (xs:XS) (os:OS) (at_ col:Int):XS:=
 Pl.scX q (Pl.scX q xs os r1 at_ (Pl.inv q (Pl.ent xs os r1 at_ col))) os r2 at_ (Pl.inv q (Pl.ent xs os r1 at_ col))
def Pl.colK (r1:Nat) (xo:XO) (at_ col:Int):Int:=Pl.kf xo.1 xo.2 r1 col (Pl.len xo.2 r1+1) at_
def Pl.col (q:Int) (r1 r2:Nat) (xo:XO) (cs:List Int) (col:Int):XO×List Int:=
 bif decide (Pl.colK r1 xo cs.length col=(Pl.len xo.2 r1:Int))then(xo,cs)else
  ((Pl.elim q r1 r2 (Pl.colO r1 r2 xo.2 cs.length (Pl.colK r1 xo cs.length col)) cs.length col (Pl.len xo.2 r1) (Pl.colX q r1 r2 xo.1 (Pl.colO r1 r2 xo.2 cs.length (Pl.colK r1 xo cs.length col)) cs.length col),
   Pl.colO r1 r2 xo.2 cs.length (Pl.colK r1 xo cs.length col)),cs++[col])
def Pl.cols (q:Int) (r1 r2:Nat) (xo:XO):Nat→XO×List Int
 |0=>(xo,[])
 |j+1=>Pl.col q r1 r2 (Pl.cols q r1 r2 xo j).1 (Pl.cols q r1 r2 xo j).2 (j:Int)
def Pl.ech (q:Int) (r1 r2:Nat) (xo:XO):XO×List Int:=bif decide (Pl.len xo.2 r1=0)then(xo,[])else Pl.cols q r1 r2 xo (mrow xo.1 (Pl.ri xo.2 r1 0)).length

def Pl.good (q:Int) (xs:XS) (w:Nat) (l:List Nat):Prop:= ∀r∈l,mal xs r∧0<r∧(mrow xs r).length=w∧ ∀x∈mrow xs r,Pl.inQ q x
structure Pl.Rec (q : Int) (r1 r2 n w : Nat) (xs : XS) (os : OS) : Prop where
 m1:mal os r1
 m2:mal os r2
 ne:r1≠r2
 p1:0<r1
 p2:0<r2
 l1:(mrow os r1).length=n
 l2:(mrow os r2).length=n
 nd:(mrow os r1++mrow os r2).Nodup
 g1:Pl.good q xs w (mrow os r1)
 g2:Pl.good q xs n (mrow os r2)
 nn:n≤1000000000
 ww:w≤1000000000
def Pl.preE (t1 t2:Nat) (d1 d2:D) (r1 r2:Nat) (xs:XS) (os:OS):Prop:=Pl.okA (.iface t1 d1)∧ .iface t2 d2=D.iface t1 d1∧mal os r1∧(Pl.len os r1=0∨ ∃n w,0<n∧Pl.Rec (Pl.qA (.iface t1 d1)) r1 r2 n w xs os)
def Pl.cst (l:List Int):List (Option (List Int)):=bif decide (l.length=0)then []else List.replicate (l.length-1) none++[some l]
def echH (s:MS) (h:Hp) (cs:List (Option (List Int))):Hp:=upd (put02 h s) 4 (some (.aren 3 i64 cs))
def echF:List AV→MS→List (Option (List Int))→Option (Prop×List Int×MS)
 |[.d r],s,cs=>(match r with
  | .ref 1 1=>some (Pl.preE s.t1 s.t2 s.d1 s.d2 s.r1 s.r2 s.xs s.os∧cs=[],(Pl.ech (Pl.qA (.iface s.t1 s.d1)) s.r1 s.r2 (s.xs,s.os)).2,
    { s with xs:=(Pl.ech (Pl.qA (.iface s.t1 s.d1)) s.r1 s.r2 (s.xs,s.os)).1.1,os:=(Pl.ech (Pl.qA (.iface s.t1 s.d1)) s.r1 s.r2 (s.xs,s.os)).1.2 })
  |_=>none)
 |_,_,_=>none
def ech91 (avs:List AV) (h:Hp):Option (Prop×AV×Hp):=match getM h with
 |some s=>(match h 4 with
  |some (.aren 3 (.int .i64) cs)=>(match echF avs s cs with
   |some (p,l,s')=>some (p, .d (.ref 4 l.length),echH s' h (Pl.cst l))
   |none=>none)
  |_=>none)
 |none=>none
theorem echH_eq (s:MS) (h:Hp) (cs:List (Option (List Int))) (id:Nat):echH s h cs id=if id=4 then some (.aren 3 i64 cs)else if id=2 then some (.aren 30 (.ref 0) s.os)else if id=0 then some (.aren 3 i64 s.xs)else h id:=by
 unfold echH put02
 rw[upd_eq,upd_eq,upd_eq]
theorem ech91_some {avs:List AV} {h h':Hp} {p:Prop} {v:AV} (e:ech91 avs h=some (p,v,h')): ∃s cs l s',getM h=some s∧h 4=some (.aren 3 i64 cs)∧echF avs s cs=some (p,l,s')∧v= .d (.ref 4 l.length)∧h'=echH s' h (Pl.cst l):=by
 unfold ech91 at e
 split at e
 ·rename_i s hs
  split at e
  ·rename_i cs h4
   split at e
   ·rename_i p' l s' hf
    have e:=Option.some.inj e
    obtain⟨e1,e3⟩:=Prod.mk.inj e
    obtain⟨e3,e4⟩:=Prod.mk.inj e3
    subst e1
    exact⟨s,cs,l,s',hs,h4,hf,e3.symm,e4.symm⟩
   ·cases e
  ·cases e
 ·cases e
def pt91:PT where
 base:=4000000
 mods:=[0,2,4]
 fn:=ech91
 ok:=by
  intro avs h p v h' e
  obtain⟨s,cs,l,s',hs,h4,hf,rfl,rfl⟩:=ech91_some e
  obtain⟨e0,e1,e2⟩:=getM_some hs
  refine⟨fun id=> ?_,fun id hid=> ?_,rfl,fun id hid=> ?_,fun K hK=> ?_⟩
  ·rw[echH_eq]
   by_cases c4:id=4
   ·subst c4;rw[if_pos rfl,h4];simp
   ·rw[if_neg c4]
    by_cases c2:id=2
    ·subst c2;rw[if_pos rfl,e2];simp
    ·rw[if_neg c2]
     by_cases c0:id=0
     ·subst c0;rw[if_pos rfl,e0];simp
     ·rw[if_neg c0]
  ·simp only[List.mem_cons,List.not_mem_nil,or_false,not_or]at hid
   rw[echH_eq,if_neg hid.2.2,if_neg hid.2.1,if_neg hid.1]
  ·simp only[List.mem_cons,List.not_mem_nil,or_false]at hid
   rcases hid with rfl|rfl|rfl
   ·simp[e0]
   ·simp[e2]
   ·simp[h4]
  ·obtain⟨o,ho,ha⟩:=hK
   rw[echH_eq]at ho
   by_cases c4:K=4
   ·subst c4;exact⟨_,h4,rfl⟩
   ·rw[if_neg c4]at ho
    by_cases c2:K=2
    ·subst c2;exact⟨_,e2,rfl⟩
    ·rw[if_neg c2]at ho
     by_cases c0:K=0
     ·subst c0;exact⟨_,e0,rfl⟩
     ·rw[if_neg c0]at ho;exact⟨o,ho,ha⟩
abbrev sO:Sh:= .ar 30 (.ref 0)
def T91:Ctx:=⟨tt,[],VV,none,[(136,pt136),(137,pt137),(138,pt138)],4000000,[0,2,4],[],0,[(105,4)],[],[],[],[]⟩
def H91:Hints:=⟨[],[],[(0,⟨[0,4,20],[(3, .ty (.ref 4)),(21,si),(0,s0),(2,sO),(4,s0)]⟩),(2,⟨[0,3,4,5,6,20,21],[(7,si),(0,s0),(2,sO),(4,s0)]⟩),(4,⟨[0,3,4,5,6,20,21,73],[(74,si),(0,s0),(2,sO),(4,s0)]⟩)],[136,137,138],[]⟩

end Fd
end
section
set_option linter.unusedVariables false
set_option linter.unusedSimpArgs false
set_option linter.unusedSectionVars false
set_option maxRecDepth 100000
namespace Fd
open Go Fw Go.Proofs

theorem swp_perm {l:List Nat} {i k:Int} (i0:0≤i) (i1:i<l.length) (k0:0≤k) (k1:k<l.length):List.Perm (Pl.swp l i k) l:=by
 unfold Pl.swp
 have hi:i.toNat<l.length:=by omega
 have hk:k.toNat<l.length:=by omega
 rw[List.getD_eq_getElem?_getD,List.getD_eq_getElem?_getD,List.getElem?_eq_getElem hi,List.getElem?_eq_getElem hk]
 exact List.set_set_perm hi hk
theorem ri_mem {os:OS} {r:Nat} {i:Int} (i0:0≤i) (i1:i<(mrow os r).length):Pl.ri os r i∈mrow os r:=by
 unfold Pl.ri
 have hi:i.toNat<(mrow os r).length:=by omega
 rw[List.getD_eq_getElem?_getD,List.getElem?_eq_getElem hi]
 exact List.getElem_mem hi
theorem ri_inj {os:OS} {r:Nat} {i k:Int} (nd:(mrow os r).Nodup) (i0:0≤i) (i1:i<(mrow os r).length) (k0:0≤k) (k1:k<(mrow os r).length) (h:i≠k):Pl.ri os r i≠Pl.ri os r k:=by
 unfold Pl.ri
 have hi:i.toNat<(mrow os r).length:=by omega
 have hk:k.toNat<(mrow os r).length:=by omega
 rw[List.getD_eq_getElem?_getD,List.getElem?_eq_getElem hi,List.getD_eq_getElem?_getD,List.getElem?_eq_getElem hk]
 intro e
 have hp:=List.pairwise_iff_getElem.1 nd
 rcases Nat.lt_or_ge i.toNat k.toNat with hlt|hge
 ·exact hp _ _ hi hk hlt e
 ·exact hp _ _ hk hi (by omega) e.symm
theorem good_mset {q:Int} {xs:XS} {w r:Nat} {l:List Nat} {row:List Int} (hg:Pl.good q xs w l) (hm:mal xs r) (h0:0<r) (hw:r∈l→row.length=w) (hq: ∀x∈row,Pl.inQ q x):Pl.good q (mset xs r row) w l:=by
 intro r' hr'
 obtain⟨a1,a2,a3,a4⟩:=hg r' hr'
 by_cases e:r=r'
 ·subst e
  obtain⟨b1,b2⟩:=mset_at (xs:=row) hm h0
  exact⟨b1,h0,by rw[b2];exact hw hr',by rw[b2];exact hq⟩
 ·obtain⟨b1,b2⟩:=mset_other (ms:=xs) (xs:=row) e
  exact⟨b1.2 a1,a2,by rw[b2];exact a3,by rw[b2];exact a4⟩
theorem good_sub {q:Int} {xs:XS} {w:Nat} {l l':List Nat} (hg:Pl.good q xs w l) (h: ∀r∈l',r∈l):Pl.good q xs w l':=fun r hr=>hg r (h r hr)
section
variable {q : Int} {r1 r2 n w : Nat} {xs : XS} {os : OS}
theorem swO_at {r:Nat} {i k:Int} (hm:mal os r) (h0:0<r):mal (Pl.swO os r i k) r∧mrow (Pl.swO os r i k) r=Pl.swp (mrow os r) i k:=mset_at hm h0
theorem swO_other {r r':Nat} {i k:Int} (h:r≠r'):(mal (Pl.swO os r i k) r'↔mal os r')∧mrow (Pl.swO os r i k) r'=mrow os r':=mset_other h
theorem Rec_sw (h:Pl.Rec q r1 r2 n w xs os) {i k:Int} (i0:0≤i) (i1:i<n) (k0:0≤k) (k1:k<n):
  (Pl.preS os r1 i k∧Pl.preS (Pl.swO os r1 i k) r2 i k)∧Pl.Rec q r1 r2 n w xs (Pl.colO r1 r2 os i k):=by
 obtain⟨m1,m2,ne,p1,p2,e1,e2,nd,g1,g2,nn,ww⟩:=h
 obtain⟨a1,a2⟩:=swO_at (i:=i) (k:=k) m1 p1
 obtain⟨b1,b2⟩:=swO_other (os:=os) (i:=i) (k:=k) ne
 have c1:=b1.2 m2
 obtain⟨d1,d2⟩:=swO_at (i:=i) (k:=k) c1 p2
 obtain⟨f1,f2⟩:=swO_other (os:=Pl.swO os r1 i k) (i:=i) (k:=k) ne.symm
 have P1:=swp_perm (l:=mrow os r1) i0 (by omega) k0 (by omega)
 have P2:=swp_perm (l:=mrow os r2) i0 (by omega) k0 (by omega)
 have E1:mrow (Pl.colO r1 r2 os i k) r1=Pl.swp (mrow os r1) i k:=by show mrow (Pl.swO (Pl.swO os r1 i k) r2 i k) r1=_;rw[f2,a2]
 have E2:mrow (Pl.colO r1 r2 os i k) r2=Pl.swp (mrow os r2) i k:=by show mrow (Pl.swO (Pl.swO os r1 i k) r2 i k) r2=_;rw[d2,b2]
 refine⟨⟨⟨m1,⟨i0,by omega⟩,k0,by omega⟩,c1,⟨i0,by rw[b2];omega⟩,k0,by rw[b2];omega⟩,⟨f1.2 a1,d1,ne,p1,p2,by rw[E1,P1.length_eq,e1],by rw[E2,P2.length_eq,e2], ?_, ?_, ?_,nn,ww⟩⟩
 ·rw[E1,E2];exact(List.Perm.nodup_iff (P1.append P2)).2 nd
 ·rw[E1];exact good_sub g1 fun r hr=>P1.mem_iff.1 hr
 ·rw[E2];exact good_sub g2 fun r hr=>P2.mem_iff.1 hr
theorem Rec.nd1 (h:Pl.Rec q r1 r2 n w xs os):(mrow os r1).Nodup:=(List.nodup_append.1 h.nd).1
theorem Rec.nd2 (h:Pl.Rec q r1 r2 n w xs os):(mrow os r2).Nodup:=(List.nodup_append.1 h.nd).2.1
theorem Rec.dis (h:Pl.Rec q r1 r2 n w xs os) {a b:Nat} (ha:a∈mrow os r1) (hb:b∈mrow os r2):a≠b:=(List.nodup_append.1 h.nd).2.2 a ha b hb
theorem scl_in (hq:isQ q) {c:Int} {l:List Int}: ∀x∈Pl.scl q c l,Pl.inQ q x:=by
 intro x hx
 unfold Pl.scl at hx
 obtain⟨y,_,rfl⟩:=List.mem_map.1 hx
 exact mul_inQ hq _ _
theorem tkl_in (hq:isQ q) {c:Int} {x y:List Int}: ∀z∈Pl.tkl q c x y,Pl.inQ q z:=by
 intro z hz
 unfold Pl.tkl at hz
 obtain⟨i,hi,rfl⟩:=List.mem_iff_getElem.1 hz
 rw[List.getElem_zipWith]
 exact sub_inQ hq _ _
theorem Rec_sc (hq:isQ q) {v:D} (hv:Pl.okA v) (hqv:Pl.qA v=q) (h:Pl.Rec q r1 r2 n w xs os) {i c:Int} (i0:0≤i) (i1:i<n) (hc:Pl.inQ q c):
  (Pl.preL v xs os r1 i c∧Pl.preL v (Pl.scX q xs os r1 i c) os r2 i c)∧Pl.Rec q r1 r2 n w (Pl.scX q (Pl.scX q xs os r1 i c) os r2 i c) os:=by
 have M1:=ri_mem (os:=os) (r:=r1) i0 (by rw[h.l1];exact i1)
 have M2:=ri_mem (os:=os) (r:=r2) i0 (by rw[h.l2];exact i1)
 obtain⟨a1,a2,a3,a4⟩:=h.g1 _ M1
 have G1:Pl.good q (Pl.scX q xs os r1 i c) w (mrow os r1):=good_mset h.g1 a1 a2 (fun _=>by unfold Pl.scl;rw[List.length_map,a3]) (scl_in hq)
 have G2:Pl.good q (Pl.scX q xs os r1 i c) n (mrow os r2):=good_mset h.g2 a1 a2 (fun hm=>absurd rfl (Rec.dis h M1 hm)) (scl_in hq)
 obtain⟨b1,b2,b3,b4⟩:=G2 _ M2
 have G3:Pl.good q (Pl.scX q (Pl.scX q xs os r1 i c) os r2 i c) w (mrow os r1):=good_mset G1 b1 b2 (fun hm=>absurd rfl (Rec.dis h hm M2)) (scl_in hq)
 have G4:Pl.good q (Pl.scX q (Pl.scX q xs os r1 i c) os r2 i c) n (mrow os r2):=good_mset G2 b1 b2 (fun _=>by unfold Pl.scl;rw[List.length_map,b3]) (scl_in hq)
 have hn:=h.nn
 have hw:=h.ww
 rw[←hqv]at hc
 have V: ∀ {l:List Int},(∀x∈l,Pl.inQ q x)→ ∀x∈l,Pl.inQ (Pl.qA v) x:=fun hl x hx=>by rw[hqv];exact hl x hx
 exact⟨⟨⟨⟨h.m1,i0,by rw[h.l1];exact i1⟩,a1,hv,hc,V a4,by omega⟩,⟨h.m2,i0,by rw[h.l2];exact i1⟩,b1,hv,hc,V b4,by omega⟩,⟨h.m1,h.m2,h.ne,h.p1,h.p2,h.l1,h.l2,h.nd,G3,G4,h.nn,h.ww⟩⟩
theorem tkl_len {c:Int} {x y:List Int} (h:y.length=x.length):(Pl.tkl q c x y).length=x.length:=by
 unfold Pl.tkl;rw[List.length_zipWith];omega
theorem Rec_tk (hq:isQ q) {v:D} (hv:Pl.okA v) (hqv:Pl.qA v=q) (h:Pl.Rec q r1 r2 n w xs os) {i k c:Int} (i0:0≤i) (i1:i<n) (k0:0≤k) (k1:k<n) (hik:i≠k) (hc:Pl.inQ q c):
  (Pl.preT v xs os r1 i k c∧Pl.preT v (Pl.tkX q xs os r1 i k c) os r2 i k c)∧Pl.Rec q r1 r2 n w (Pl.tkX q (Pl.tkX q xs os r1 i k c) os r2 i k c) os:=by
 have M1:=ri_mem (os:=os) (r:=r1) i0 (by rw[h.l1];exact i1)
 have M2:=ri_mem (os:=os) (r:=r2) i0 (by rw[h.l2];exact i1)
 have N1:=ri_mem (os:=os) (r:=r1) k0 (by rw[h.l1];exact k1)
 have N2:=ri_mem (os:=os) (r:=r2) k0 (by rw[h.l2];exact k1)
 have D1:=ri_inj (Rec.nd1 h) i0 (by rw[h.l1];exact i1) k0 (by rw[h.l1];exact k1) hik
 have D2:=ri_inj (Rec.nd2 h) i0 (by rw[h.l2];exact i1) k0 (by rw[h.l2];exact k1) hik
 obtain⟨a1,a2,a3,a4⟩:=h.g1 _ M1
 obtain⟨c1,c2,c3,c4⟩:=h.g1 _ N1
 have G1:Pl.good q (Pl.tkX q xs os r1 i k c) w (mrow os r1):=good_mset h.g1 a1 a2 (fun _=>by rw[tkl_len (by omega),a3]) (tkl_in hq)
 have G2:Pl.good q (Pl.tkX q xs os r1 i k c) n (mrow os r2):=good_mset h.g2 a1 a2 (fun hm=>absurd rfl (Rec.dis h M1 hm)) (tkl_in hq)
 obtain⟨b1,b2,b3,b4⟩:=G2 _ M2
 obtain⟨d1,d2,d3,d4⟩:=G2 _ N2
 have G3:Pl.good q (Pl.tkX q (Pl.tkX q xs os r1 i k c) os r2 i k c) w (mrow os r1):=good_mset G1 b1 b2 (fun hm=>absurd rfl (Rec.dis h hm M2)) (tkl_in hq)
 have G4:Pl.good q (Pl.tkX q (Pl.tkX q xs os r1 i k c) os r2 i k c) n (mrow os r2):=good_mset G2 b1 b2 (fun _=>by rw[tkl_len (by omega),b3]) (tkl_in hq)
 have hn:=h.nn
 have hw:=h.ww
 rw[←hqv]at hc
 have V: ∀ {l:List Int},(∀x∈l,Pl.inQ q x)→ ∀x∈l,Pl.inQ (Pl.qA v) x:=fun hl x hx=>by rw[hqv];exact hl x hx
 exact⟨⟨⟨⟨h.m1,⟨i0,by rw[h.l1];exact i1⟩,k0,by rw[h.l1];exact k1⟩,⟨a1,c1,a2,D1⟩,hv,hc,⟨V a4,by omega⟩,⟨V c4,by omega⟩,by omega⟩,
  ⟨h.m2,⟨i0,by rw[h.l2];exact i1⟩,k0,by rw[h.l2];exact k1⟩,⟨b1,d1,b2,D2⟩,hv,hc,⟨V b4,by omega⟩,⟨V d4,by omega⟩,by omega⟩,⟨h.m1,h.m2,h.ne,h.p1,h.p2,h.l1,h.l2,h.nd,G3,G4,h.nn,h.ww⟩⟩
theorem Rec_ent (h:Pl.Rec q r1 r2 n w xs os) {i col:Int} (i0:0≤i) (i1:i<n) (c0:0≤col) (c1:col<w):mal xs (Pl.ri os r1 i)∧(mrow xs (Pl.ri os r1 i)).length=w∧Pl.inQ q (Pl.ent xs os r1 i col):=by
 obtain⟨a1,a2,a3,a4⟩:=h.g1 _ (ri_mem (os:=os) (r:=r1) i0 (by rw[h.l1];exact i1))
 exact⟨a1,a3,getD_inQ a4 (by omega)⟩
end
theorem cst_len (l:List Int):(Pl.cst l).length=l.length:=by
 unfold Pl.cst
 by_cases h:l.length=0
 ·rw[decide_eq_true h,cond_true,h];rfl
 ·rw[decide_eq_false h,cond_false,List.length_append,List.length_replicate,List.length_singleton];omega
theorem cst_row (l:List Int):mal (Pl.cst l) l.length∧mrow (Pl.cst l) l.length=l:=by
 unfold Pl.cst
 by_cases h:l.length=0
 ·rw[decide_eq_true h,cond_true,h]
  exact⟨trivial,(List.length_eq_zero_iff.1 h).symm⟩
 ·rw[decide_eq_false h,cond_false]
  obtain⟨m,hm⟩: ∃m,l.length=m+1:=⟨l.length-1,by omega⟩
  rw[hm,Nat.add_sub_cancel]
  have e:(List.replicate m none++[some l])[m]? =some (some l):=by rw[List.getElem?_append_right (by simp)];simp
  exact⟨⟨l,e⟩,by show((List.replicate m none++[some l]).getD m none).getD []=l;rw[List.getD_eq_getElem?_getD,e];rfl⟩
theorem cst_snoc (l:List Int) (c:Int):mnew (mkill (Pl.cst l) l.length) (l++[c])=Pl.cst (l++[c]):=by
 unfold mnew
 have e:mkill (Pl.cst l) l.length=List.replicate l.length none:=by
  unfold Pl.cst
  by_cases h:l.length=0
  ·rw[decide_eq_true h,cond_true,h];rfl
  ·rw[decide_eq_false h,cond_false]
   obtain⟨m,hm⟩: ∃m,l.length=m+1:=⟨l.length-1,by omega⟩
   rw[hm,Nat.add_sub_cancel]
   show(List.replicate m none++[some l]).set m none=_
   rw[List.set_append_right _ _ (by simp),List.length_replicate,Nat.sub_self,List.set_cons_zero,List.replicate_succ']
 rw[e]
 unfold Pl.cst
 rw[decide_eq_false (by simp),cond_false]
 simp
theorem swp_at {os:OS} {r:Nat} {i k:Int} (hm:mal os r) (h0:0<r) (i0:0≤i) (i1:i<(mrow os r).length) (k0:0≤k) (k1:k<(mrow os r).length):Pl.ri (Pl.swO os r i k) r i=Pl.ri os r k:=by
 unfold Pl.ri
 rw[(swO_at hm h0).2]
 unfold Pl.swp
 have hi:i.toNat<(mrow os r).length:=by omega
 have hk:k.toNat<(mrow os r).length:=by omega
 rw[List.getD_eq_getElem?_getD,List.getElem?_set,List.length_set]
 by_cases e:k.toNat=i.toNat
 ·rw[if_pos e,e,if_pos hi];rfl
 ·rw[if_neg e,List.getElem?_set,if_pos rfl,if_pos hi];rfl
theorem ent_sw {q:Int} {r1 r2 n w:Nat} {xs:XS} {os:OS} (h:Pl.Rec q r1 r2 n w xs os) {i k:Int} (i0:0≤i) (i1:i<n) (k0:0≤k) (k1:k<n) (col:Int):Pl.ent xs (Pl.colO r1 r2 os i k) r1 i col=Pl.ent xs os r1 k col:=by
 unfold Pl.ent
 have e:Pl.ri (Pl.colO r1 r2 os i k) r1 i=Pl.ri os r1 k:=by
  have:=swp_at (k:=k) h.m1 h.p1 i0 (by rw[h.l1];exact i1) k0 (by rw[h.l1];exact k1)
  rw[←this]
  unfold Pl.ri Pl.colO
  rw[(swO_other h.ne.symm).2]
 rw[e]
end Fd
end
section
set_option linter.unusedVariables false
set_option linter.unusedSimpArgs false
set_option maxRecDepth 100000
namespace Fd
open Go Fw Go.Proofs

theorem kf_stop {xs:XS} {os:OS} {r:Nat} {col:Int} {f:Nat} {k:Int} (hf:0<f) (h: ¬(k<(Pl.len os r:Int)∧Pl.ent xs os r k col=0)):Pl.kf xs os r col f k=k:=by
 obtain⟨f,rfl⟩: ∃g,f=g+1:=⟨f-1,by omega⟩
 rw[Pl.kf]
 cases hb:(decide (k<(Pl.len os r:Int))&&decide (Pl.ent xs os r k col=0))with
 |false=>rfl
 |true=>simp at hb;exact absurd hb h
theorem kf_go {xs:XS} {os:OS} {r:Nat} {col:Int} {f:Nat} {k:Int} (hf:0<f) (h1:k<(Pl.len os r:Int)) (h2:Pl.ent xs os r k col=0):Pl.kf xs os r col f k=Pl.kf xs os r col (f-1) (k+1):=by
 obtain⟨f,rfl⟩: ∃g,f=g+1:=⟨f-1,by omega⟩
 rw[Pl.kf,decide_eq_true h1,decide_eq_true h2];rfl
theorem elim_no {q:Int} {r1 r2:Nat} {os:OS} {at_ col i:Int} {xs:XS} (h:i=at_∨Pl.ent xs os r1 i col=0):Pl.elim1 q r1 r2 os at_ col i xs=xs:=by
 unfold Pl.elim1
 rcases h with h|h
 ·rw[decide_eq_false (not_not_intro h)];rfl
 ·rw[decide_eq_false (not_not_intro h),Bool.and_false];rfl
theorem elim_yes {q:Int} {r1 r2:Nat} {os:OS} {at_ col i:Int} {xs:XS} (h1:i≠at_) (h2:Pl.ent xs os r1 i col≠0):Pl.elim1 q r1 r2 os at_ col i xs=Pl.tkX q (Pl.tkX q xs os r1 i at_ (Pl.ent xs os r1 i col)) os r2 i at_ (Pl.ent xs os r1 i col):=by
 unfold Pl.elim1
 rw[decide_eq_true h1,decide_eq_true h2];rfl
theorem col_no {q:Int} {r1 r2:Nat} {xo:XO} {cs:List Int} {col:Int} (h:Pl.colK r1 xo cs.length col=(Pl.len xo.2 r1:Int)):Pl.col q r1 r2 xo cs col=(xo,cs):=by
 unfold Pl.col
 rw[decide_eq_true h];rfl
theorem col_yes {q:Int} {r1 r2:Nat} {xs:XS} {os:OS} {cs:List Int} {col k:Int} {n:Nat} (hk:Pl.colK r1 (xs,os) cs.length col=k) (hn:Pl.len os r1=n) (h:k≠n):Pl.col q r1 r2 (xs,os) cs col=
  ((Pl.elim q r1 r2 (Pl.colO r1 r2 os cs.length k) cs.length col n (Pl.colX q r1 r2 xs (Pl.colO r1 r2 os cs.length k) cs.length col),Pl.colO r1 r2 os cs.length k),cs++[col]):=by
 unfold Pl.col
 subst hn hk
 rw[decide_eq_false h];rfl
theorem rd_ri (os:OS) (r:Nat) (i:Int):rd (Ty.ref (0:Nat)) (mrow os r) i=Pl.ri os r i:=rfl
theorem rd_ent (xs:XS) (os:OS) (r:Nat) (i col:Int):rd i64 (mrow xs (Pl.ri os r i)) col=Pl.ent xs os r i col:=rfl
theorem vc91: ∀(xs:XS) (os:OS) (t1:Nat) (d1:D) (l1:List D) (r1 t2:Nat) (d2:D) (l2:List D) (r2:Nat) (h:Hp) (n:Nat) (cs':List (Option (List Int))) (xs':XS) (os':OS) (l:List Int),Pl.preE t1 t2 d1 d2 r1 r2 xs os→
  Pl.ech (Pl.qA (.iface t1 d1)) r1 r2 (xs,os)=((xs',os'),l)→n=l.length→cs'=Pl.cst l→
  VCP T91 H91 Try.f91 pt91 [.d (.ref 1 1)] (upd ((MS.mk xs os t1 d1 l1 r1 t2 d2 l2 r2).put h) 4 (some (.aren 3 i64 []))) (.d (.ref 4 n)) (echH (MS.mk xs' os' t1 d1 l1 r1 t2 d2 l2 r2) (upd ((MS.mk xs os t1 d1 l1 r1 t2 d2 l2 r2).put h) 4 (some (.aren 3 i64 []))) cs'):=by
 rintro xs os t1 d1 l1 r1 t2 d2 l2 r2 h n cs' xs' os' l ⟨hA,e2,hm,h0⟩ hE hn hcs
 refine cast (α:=mal os r1∧Br ((↑(mrow os r1).length:Int)==(0:Int)) ((0:Nat)=n∧xs=xs'∧os=os'∧[]=cs'∧True) (mal os r1∧(0:Int)≤(0:Int)∧(0:Int)<(↑(mrow os r1).length:Int)∧mal os r1∧(0:Int)≤(0:Int)∧(0:Int)<(↑(mrow os r1).length:Int)∧mal xs (rd (Ty.ref (0:Nat)) (mrow os r1) (0:Int))∧ ∃(n_1:Nat),itl (fun(G:Nat×Int×List (Option (List Int))×List (Option (List Nat))×List (Option (List Int))×PUnit→Prop) (x:Nat×Int×List (Option (List Int))×List (Option (List Nat))×List (Option (List Int))×PUnit)=>Br (decide (x.2.1<(↑(mrow xs (rd (Ty.ref (0:Nat)) (mrow os r1) (0:Int))).length:Int))) (mal x.2.2.2.2.1 x.1∧ ∃(n:Nat),itl (fun(G_1:Int×List (Option (List Int))×List (Option (List Nat))×List (Option (List Int))×PUnit→Prop) (x_1:Int×List (Option (List Int))×List (Option (List Nat))×List (Option (List Int))×PUnit)=>mal x_1.2.2.1 r1∧Br (decide (x_1.1<(↑(mrow x_1.2.2.1 r1).length:Int))) (mal x_1.2.2.1 r1∧(0:Int)≤x_1.1∧x_1.1<(↑(mrow x_1.2.2.1 r1).length:Int)∧mal x_1.2.2.1 r1∧(0:Int)≤x_1.1∧x_1.1<(↑(mrow x_1.2.2.1 r1).length:Int)∧mal x_1.2.1 (rd (Ty.ref (0:Nat)) (mrow x_1.2.2.1 r1) x_1.1)∧(0:Int)≤x.2.1∧x.2.1<(↑(mrow x_1.2.1 (rd (Ty.ref (0:Nat)) (mrow x_1.2.2.1 r1) x_1.1)).length:Int)∧mal x_1.2.1 (rd (Ty.ref (0:Nat)) (mrow x_1.2.2.1 r1) x_1.1)∧(0:Int)≤x.2.1∧x.2.1<(↑(mrow x_1.2.1 (rd (Ty.ref (0:Nat)) (mrow x_1.2.2.1 r1) x_1.1)).length:Int)∧Br (rd i64 (mrow x_1.2.1 (rd (Ty.ref (0:Nat)) (mrow x_1.2.2.1 r1) x_1.1)) x.2.1==(0:Int)) (G_1 (IntKind.i64.wrap (x_1.1+(1:Int)),x_1.2)) (mal x_1.2.2.1 r1∧Br (x_1.1==(↑(mrow x_1.2.2.1 r1).length:Int)) (G (x.1,IntKind.i64.wrap (x.2.1+(1:Int)),x_1.2)) ((Pl.preS x_1.2.2.1 r1 (↑(mrow x.2.2.2.2.1 x.1).length:Int) x_1.1∧Pl.preS (Pl.swO x_1.2.2.1 r1 (↑(mrow x.2.2.2.2.1 x.1).length:Int) x_1.1) r2 (↑(mrow x.2.2.2.2.1 x.1).length:Int) x_1.1)∧mal (Pl.swO (Pl.swO x_1.2.2.1 r1 (↑(mrow x.2.2.2.2.1 x.1).length:Int) x_1.1) r2 (↑(mrow x.2.2.2.2.1 x.1).length:Int) x_1.1) r1∧(0:Int)≤(↑(mrow x.2.2.2.2.1 x.1).length:Int)∧(↑(mrow x.2.2.2.2.1 x.1).length:Int)<(↑(mrow (Pl.swO (Pl.swO x_1.2.2.1 r1 (↑(mrow x.2.2.2.2.1 x.1).length:Int) x_1.1) r2 (↑(mrow x.2.2.2.2.1 x.1).length:Int) x_1.1) r1).length:Int)∧mal (Pl.swO (Pl.swO x_1.2.2.1 r1 (↑(mrow x.2.2.2.2.1 x.1).length:Int) x_1.1) r2 (↑(mrow x.2.2.2.2.1 x.1).length:Int) x_1.1) r1∧(0:Int)≤(↑(mrow x.2.2.2.2.1 x.1).length:Int)∧(↑(mrow x.2.2.2.2.1 x.1).length:Int)<(↑(mrow (Pl.swO (Pl.swO x_1.2.2.1 r1 (↑(mrow x.2.2.2.2.1 x.1).length:Int) x_1.1) r2 (↑(mrow x.2.2.2.2.1 x.1).length:Int) x_1.1) r1).length:Int)∧mal x_1.2.1 (rd (Ty.ref (0:Nat)) (mrow (Pl.swO (Pl.swO x_1.2.2.1 r1 (↑(mrow x.2.2.2.2.1 x.1).length:Int) x_1.1) r2 (↑(mrow x.2.2.2.2.1 x.1).length:Int) x_1.1) r1) (↑(mrow x.2.2.2.2.1 x.1).length:Int))∧(0:Int)≤x.2.1∧x.2.1<(↑(mrow x_1.2.1 (rd (Ty.ref (0:Nat)) (mrow (Pl.swO (Pl.swO x_1.2.2.1 r1 (↑(mrow x.2.2.2.2.1 x.1).length:Int) x_1.1) r2 (↑(mrow x.2.2.2.2.1 x.1).length:Int) x_1.1) r1) (↑(mrow x.2.2.2.2.1 x.1).length:Int))).length:Int)∧mal x_1.2.1 (rd (Ty.ref (0:Nat)) (mrow (Pl.swO (Pl.swO x_1.2.2.1 r1 (↑(mrow x.2.2.2.2.1 x.1).length:Int) x_1.1) r2 (↑(mrow x.2.2.2.2.1 x.1).length:Int) x_1.1) r1) (↑(mrow x.2.2.2.2.1 x.1).length:Int))∧(0:Int)≤x.2.1∧x.2.1<(↑(mrow x_1.2.1 (rd (Ty.ref (0:Nat)) (mrow (Pl.swO (Pl.swO x_1.2.2.1 r1 (↑(mrow x.2.2.2.2.1 x.1).length:Int) x_1.1) r2 (↑(mrow x.2.2.2.2.1 x.1).length:Int) x_1.1) r1) (↑(mrow x.2.2.2.2.1 x.1).length:Int))).length:Int)∧(Pl.okA (D.iface t1 d1)∧Pl.inQ (Pl.qA (D.iface t1 d1)) (rd i64 (mrow x_1.2.1 (rd (Ty.ref (0:Nat)) (mrow (Pl.swO (Pl.swO x_1.2.2.1 r1 (↑(mrow x.2.2.2.2.1 x.1).length:Int) x_1.1) r2 (↑(mrow x.2.2.2.2.1 x.1).length:Int) x_1.1) r1) (↑(mrow x.2.2.2.2.1 x.1).length:Int))) x.2.1)∧rd i64 (mrow x_1.2.1 (rd (Ty.ref (0:Nat)) (mrow (Pl.swO (Pl.swO x_1.2.2.1 r1 (↑(mrow x.2.2.2.2.1 x.1).length:Int) x_1.1) r2 (↑(mrow x.2.2.2.2.1 x.1).length:Int) x_1.1) r1) (↑(mrow x.2.2.2.2.1 x.1).length:Int))) x.2.1≠(0:Int))∧(Pl.preL (D.iface t1 d1) x_1.2.1 (Pl.swO (Pl.swO x_1.2.2.1 r1 (↑(mrow x.2.2.2.2.1 x.1).length:Int) x_1.1) r2 (↑(mrow x.2.2.2.2.1 x.1).length:Int) x_1.1) r1 (↑(mrow x.2.2.2.2.1 x.1).length:Int) (Pl.inv (Pl.qA (D.iface t1 d1)) (rd i64 (mrow x_1.2.1 (rd (Ty.ref (0:Nat)) (mrow (Pl.swO (Pl.swO x_1.2.2.1 r1 (↑(mrow x.2.2.2.2.1 x.1).length:Int) x_1.1) r2 (↑(mrow x.2.2.2.2.1 x.1).length:Int) x_1.1) r1) (↑(mrow x.2.2.2.2.1 x.1).length:Int))) x.2.1))∧Pl.preL (D.iface t2 d2) (Pl.scX (Pl.qA (D.iface t1 d1)) x_1.2.1 (Pl.swO (Pl.swO x_1.2.2.1 r1 (↑(mrow x.2.2.2.2.1 x.1).length:Int) x_1.1) r2 (↑(mrow x.2.2.2.2.1 x.1).length:Int) x_1.1) r1 (↑(mrow x.2.2.2.2.1 x.1).length:Int) (Pl.inv (Pl.qA (D.iface t1 d1)) (rd i64 (mrow x_1.2.1 (rd (Ty.ref (0:Nat)) (mrow (Pl.swO (Pl.swO x_1.2.2.1 r1 (↑(mrow x.2.2.2.2.1 x.1).length:Int) x_1.1) r2 (↑(mrow x.2.2.2.2.1 x.1).length:Int) x_1.1) r1) (↑(mrow x.2.2.2.2.1 x.1).length:Int))) x.2.1))) (Pl.swO (Pl.swO x_1.2.2.1 r1 (↑(mrow x.2.2.2.2.1 x.1).length:Int) x_1.1) r2 (↑(mrow x.2.2.2.2.1 x.1).length:Int) x_1.1) r2 (↑(mrow x.2.2.2.2.1 x.1).length:Int) (Pl.inv (Pl.qA (D.iface t1 d1)) (rd i64 (mrow x_1.2.1 (rd (Ty.ref (0:Nat)) (mrow (Pl.swO (Pl.swO x_1.2.2.1 r1 (↑(mrow x.2.2.2.2.1 x.1).length:Int) x_1.1) r2 (↑(mrow x.2.2.2.2.1 x.1).length:Int) x_1.1) r1) (↑(mrow x.2.2.2.2.1 x.1).length:Int))) x.2.1)))∧mal (Pl.swO (Pl.swO x_1.2.2.1 r1 (↑(mrow x.2.2.2.2.1 x.1).length:Int) x_1.1) r2 (↑(mrow x.2.2.2.2.1 x.1).length:Int) x_1.1) r1∧ ∃(n:Nat),itl (fun(G_2:Int×List (Option (List Int))×List (Option (List Nat))×List (Option (List Int))×PUnit→Prop) (x_2:Int×List (Option (List Int))×List (Option (List Nat))×List (Option (List Int))×PUnit)=>Br (decide (x_2.1<(↑(mrow (Pl.swO (Pl.swO x_1.2.2.1 r1 (↑(mrow x.2.2.2.2.1 x.1).length:Int) x_1.1) r2 (↑(mrow x.2.2.2.2.1 x.1).length:Int) x_1.1) r1).length:Int))) (Br (x_2.1 !=(↑(mrow x.2.2.2.2.1 x.1).length:Int)) (mal x_2.2.2.1 r1∧(0:Int)≤x_2.1∧x_2.1<(↑(mrow x_2.2.2.1 r1).length:Int)∧mal x_2.2.2.1 r1∧(0:Int)≤x_2.1∧x_2.1<(↑(mrow x_2.2.2.1 r1).length:Int)∧mal x_2.2.1 (rd (Ty.ref (0:Nat)) (mrow x_2.2.2.1 r1) x_2.1)∧(0:Int)≤x.2.1∧x.2.1<(↑(mrow x_2.2.1 (rd (Ty.ref (0:Nat)) (mrow x_2.2.2.1 r1) x_2.1)).length:Int)∧mal x_2.2.1 (rd (Ty.ref (0:Nat)) (mrow x_2.2.2.1 r1) x_2.1)∧(0:Int)≤x.2.1∧x.2.1<(↑(mrow x_2.2.1 (rd (Ty.ref (0:Nat)) (mrow x_2.2.2.1 r1) x_2.1)).length:Int)∧Br (rd i64 (mrow x_2.2.1 (rd (Ty.ref (0:Nat)) (mrow x_2.2.2.1 r1) x_2.1)) x.2.1 !=(0:Int)) (mal x_2.2.2.1 r1∧(0:Int)≤x_2.1∧x_2.1<(↑(mrow x_2.2.2.1 r1).length:Int)∧mal x_2.2.2.1 r1∧(0:Int)≤x_2.1∧x_2.1<(↑(mrow x_2.2.2.1 r1).length:Int)∧mal x_2.2.1 (rd (Ty.ref (0:Nat)) (mrow x_2.2.2.1 r1) x_2.1)∧(0:Int)≤x.2.1∧x.2.1<(↑(mrow x_2.2.1 (rd (Ty.ref (0:Nat)) (mrow x_2.2.2.1 r1) x_2.1)).length:Int)∧mal x_2.2.1 (rd (Ty.ref (0:Nat)) (mrow x_2.2.2.1 r1) x_2.1)∧(0:Int)≤x.2.1∧x.2.1<(↑(mrow x_2.2.1 (rd (Ty.ref (0:Nat)) (mrow x_2.2.2.1 r1) x_2.1)).length:Int)∧(Pl.preT (D.iface t1 d1) x_2.2.1 x_2.2.2.1 r1 x_2.1 (↑(mrow x.2.2.2.2.1 x.1).length:Int) (rd i64 (mrow x_2.2.1 (rd (Ty.ref (0:Nat)) (mrow x_2.2.2.1 r1) x_2.1)) x.2.1)∧Pl.preT (D.iface t2 d2) (Pl.tkX (Pl.qA (D.iface t1 d1)) x_2.2.1 x_2.2.2.1 r1 x_2.1 (↑(mrow x.2.2.2.2.1 x.1).length:Int) (rd i64 (mrow x_2.2.1 (rd (Ty.ref (0:Nat)) (mrow x_2.2.2.1 r1) x_2.1)) x.2.1)) x_2.2.2.1 r2 x_2.1 (↑(mrow x.2.2.2.2.1 x.1).length:Int) (rd i64 (mrow x_2.2.1 (rd (Ty.ref (0:Nat)) (mrow x_2.2.2.1 r1) x_2.1)) x.2.1))∧G_2 (IntKind.i64.wrap (x_2.1+(1:Int)),mset (Pl.tkX (Pl.qA (D.iface t1 d1)) x_2.2.1 x_2.2.2.1 r1 x_2.1 (↑(mrow x.2.2.2.2.1 x.1).length:Int) (rd i64 (mrow x_2.2.1 (rd (Ty.ref (0:Nat)) (mrow x_2.2.2.1 r1) x_2.1)) x.2.1)) (Pl.ri x_2.2.2.1 r2 x_2.1) (Pl.tkl (Pl.qA (D.iface t2 d2)) (rd i64 (mrow x_2.2.1 (rd (Ty.ref (0:Nat)) (mrow x_2.2.2.1 r1) x_2.1)) x.2.1) (mrow (Pl.tkX (Pl.qA (D.iface t1 d1)) x_2.2.1 x_2.2.2.1 r1 x_2.1 (↑(mrow x.2.2.2.2.1 x.1).length:Int) (rd i64 (mrow x_2.2.1 (rd (Ty.ref (0:Nat)) (mrow x_2.2.2.1 r1) x_2.1)) x.2.1)) (Pl.ri x_2.2.2.1 r2 x_2.1)) (mrow (Pl.tkX (Pl.qA (D.iface t1 d1)) x_2.2.1 x_2.2.2.1 r1 x_2.1 (↑(mrow x.2.2.2.2.1 x.1).length:Int) (rd i64 (mrow x_2.2.1 (rd (Ty.ref (0:Nat)) (mrow x_2.2.2.1 r1) x_2.1)) x.2.1)) (Pl.ri x_2.2.2.1 r2 (↑(mrow x.2.2.2.2.1 x.1).length:Int)))),x_2.2.2)) (G_2 (IntKind.i64.wrap (x_2.1+(1:Int)),x_2.2))) (G_2 (IntKind.i64.wrap (x_2.1+(1:Int)),x_2.2))) (mal x_2.2.2.2.1 x.1∧((↑(mrow x_2.2.2.2.1 x.1).length:Int)+(↑[x.2.1].length:Int))*(↑(nat_lit 8):Int)≤(140737488355328:Int)∧G (List.length x_2.2.2.2.1+(1:Nat),IntKind.i64.wrap (x.2.1+(1:Int)),x_2.2.1,x_2.2.2.1,mnew (mkill x_2.2.2.2.1 x.1) (mrow x_2.2.2.2.1 x.1++[x.2.1]),()))) n ((0:Int),mset (Pl.scX (Pl.qA (D.iface t1 d1)) x_1.2.1 (Pl.swO (Pl.swO x_1.2.2.1 r1 (↑(mrow x.2.2.2.2.1 x.1).length:Int) x_1.1) r2 (↑(mrow x.2.2.2.2.1 x.1).length:Int) x_1.1) r1 (↑(mrow x.2.2.2.2.1 x.1).length:Int) (Pl.inv (Pl.qA (D.iface t1 d1)) (rd i64 (mrow x_1.2.1 (rd (Ty.ref (0:Nat)) (mrow (Pl.swO (Pl.swO x_1.2.2.1 r1 (↑(mrow x.2.2.2.2.1 x.1).length:Int) x_1.1) r2 (↑(mrow x.2.2.2.2.1 x.1).length:Int) x_1.1) r1) (↑(mrow x.2.2.2.2.1 x.1).length:Int))) x.2.1))) (Pl.ri (Pl.swO (Pl.swO x_1.2.2.1 r1 (↑(mrow x.2.2.2.2.1 x.1).length:Int) x_1.1) r2 (↑(mrow x.2.2.2.2.1 x.1).length:Int) x_1.1) r2 (↑(mrow x.2.2.2.2.1 x.1).length:Int)) (Pl.scl (Pl.qA (D.iface t2 d2)) (Pl.inv (Pl.qA (D.iface t1 d1)) (rd i64 (mrow x_1.2.1 (rd (Ty.ref (0:Nat)) (mrow (Pl.swO (Pl.swO x_1.2.2.1 r1 (↑(mrow x.2.2.2.2.1 x.1).length:Int) x_1.1) r2 (↑(mrow x.2.2.2.2.1 x.1).length:Int) x_1.1) r1) (↑(mrow x.2.2.2.2.1 x.1).length:Int))) x.2.1)) (mrow (Pl.scX (Pl.qA (D.iface t1 d1)) x_1.2.1 (Pl.swO (Pl.swO x_1.2.2.1 r1 (↑(mrow x.2.2.2.2.1 x.1).length:Int) x_1.1) r2 (↑(mrow x.2.2.2.2.1 x.1).length:Int) x_1.1) r1 (↑(mrow x.2.2.2.2.1 x.1).length:Int) (Pl.inv (Pl.qA (D.iface t1 d1)) (rd i64 (mrow x_1.2.1 (rd (Ty.ref (0:Nat)) (mrow (Pl.swO (Pl.swO x_1.2.2.1 r1 (↑(mrow x.2.2.2.2.1 x.1).length:Int) x_1.1) r2 (↑(mrow x.2.2.2.2.1 x.1).length:Int) x_1.1) r1) (↑(mrow x.2.2.2.2.1 x.1).length:Int))) x.2.1))) (Pl.ri (Pl.swO (Pl.swO x_1.2.2.1 r1 (↑(mrow x.2.2.2.2.1 x.1).length:Int) x_1.1) r2 (↑(mrow x.2.2.2.2.1 x.1).length:Int) x_1.1) r2 (↑(mrow x.2.2.2.2.1 x.1).length:Int)))),mset (Pl.swO x_1.2.2.1 r1 (↑(mrow x.2.2.2.2.1 x.1).length:Int) x_1.1) r2 (Pl.swp (mrow (Pl.swO x_1.2.2.1 r1 (↑(mrow x.2.2.2.2.1 x.1).length:Int) x_1.1) r2) (↑(mrow x.2.2.2.2.1 x.1).length:Int) x_1.1),x_1.2.2.2)))) (mal x_1.2.2.1 r1∧Br (x_1.1==(↑(mrow x_1.2.2.1 r1).length:Int)) (G (x.1,IntKind.i64.wrap (x.2.1+(1:Int)),x_1.2)) ((Pl.preS x_1.2.2.1 r1 (↑(mrow x.2.2.2.2.1 x.1).length:Int) x_1.1∧Pl.preS (Pl.swO x_1.2.2.1 r1 (↑(mrow x.2.2.2.2.1 x.1).length:Int) x_1.1) r2 (↑(mrow x.2.2.2.2.1 x.1).length:Int) x_1.1)∧mal (Pl.swO (Pl.swO x_1.2.2.1 r1 (↑(mrow x.2.2.2.2.1 x.1).length:Int) x_1.1) r2 (↑(mrow x.2.2.2.2.1 x.1).length:Int) x_1.1) r1∧(0:Int)≤(↑(mrow x.2.2.2.2.1 x.1).length:Int)∧(↑(mrow x.2.2.2.2.1 x.1).length:Int)<(↑(mrow (Pl.swO (Pl.swO x_1.2.2.1 r1 (↑(mrow x.2.2.2.2.1 x.1).length:Int) x_1.1) r2 (↑(mrow x.2.2.2.2.1 x.1).length:Int) x_1.1) r1).length:Int)∧mal (Pl.swO (Pl.swO x_1.2.2.1 r1 (↑(mrow x.2.2.2.2.1 x.1).length:Int) x_1.1) r2 (↑(mrow x.2.2.2.2.1 x.1).length:Int) x_1.1) r1∧(0:Int)≤(↑(mrow x.2.2.2.2.1 x.1).length:Int)∧(↑(mrow x.2.2.2.2.1 x.1).length:Int)<(↑(mrow (Pl.swO (Pl.swO x_1.2.2.1 r1 (↑(mrow x.2.2.2.2.1 x.1).length:Int) x_1.1) r2 (↑(mrow x.2.2.2.2.1 x.1).length:Int) x_1.1) r1).length:Int)∧mal x_1.2.1 (rd (Ty.ref (0:Nat)) (mrow (Pl.swO (Pl.swO x_1.2.2.1 r1 (↑(mrow x.2.2.2.2.1 x.1).length:Int) x_1.1) r2 (↑(mrow x.2.2.2.2.1 x.1).length:Int) x_1.1) r1) (↑(mrow x.2.2.2.2.1 x.1).length:Int))∧(0:Int)≤x.2.1∧x.2.1<(↑(mrow x_1.2.1 (rd (Ty.ref (0:Nat)) (mrow (Pl.swO (Pl.swO x_1.2.2.1 r1 (↑(mrow x.2.2.2.2.1 x.1).length:Int) x_1.1) r2 (↑(mrow x.2.2.2.2.1 x.1).length:Int) x_1.1) r1) (↑(mrow x.2.2.2.2.1 x.1).length:Int))).length:Int)∧mal x_1.2.1 (rd (Ty.ref (0:Nat)) (mrow (Pl.swO (Pl.swO x_1.2.2.1 r1 (↑(mrow x.2.2.2.2.1 x.1).length:Int) x_1.1) r2 (↑(mrow x.2.2.2.2.1 x.1).length:Int) x_1.1) r1) (↑(mrow x.2.2.2.2.1 x.1).length:Int))∧(0:Int)≤x.2.1∧x.2.1<(↑(mrow x_1.2.1 (rd (Ty.ref (0:Nat)) (mrow (Pl.swO (Pl.swO x_1.2.2.1 r1 (↑(mrow x.2.2.2.2.1 x.1).length:Int) x_1.1) r2 (↑(mrow x.2.2.2.2.1 x.1).length:Int) x_1.1) r1) (↑(mrow x.2.2.2.2.1 x.1).length:Int))).length:Int)∧(Pl.okA (D.iface t1 d1)∧Pl.inQ (Pl.qA (D.iface t1 d1)) (rd i64 (mrow x_1.2.1 (rd (Ty.ref (0:Nat)) (mrow (Pl.swO (Pl.swO x_1.2.2.1 r1 (↑(mrow x.2.2.2.2.1 x.1).length:Int) x_1.1) r2 (↑(mrow x.2.2.2.2.1 x.1).length:Int) x_1.1) r1) (↑(mrow x.2.2.2.2.1 x.1).length:Int))) x.2.1)∧rd i64 (mrow x_1.2.1 (rd (Ty.ref (0:Nat)) (mrow (Pl.swO (Pl.swO x_1.2.2.1 r1 (↑(mrow x.2.2.2.2.1 x.1).length:Int) x_1.1) r2 (↑(mrow x.2.2.2.2.1 x.1).length:Int) x_1.1) r1) (↑(mrow x.2.2.2.2.1 x.1).length:Int))) x.2.1≠(0:Int))∧(Pl.preL (D.iface t1 d1) x_1.2.1 (Pl.swO (Pl.swO x_1.2.2.1 r1 (↑(mrow x.2.2.2.2.1 x.1).length:Int) x_1.1) r2 (↑(mrow x.2.2.2.2.1 x.1).length:Int) x_1.1) r1 (↑(mrow x.2.2.2.2.1 x.1).length:Int) (Pl.inv (Pl.qA (D.iface t1 d1)) (rd i64 (mrow x_1.2.1 (rd (Ty.ref (0:Nat)) (mrow (Pl.swO (Pl.swO x_1.2.2.1 r1 (↑(mrow x.2.2.2.2.1 x.1).length:Int) x_1.1) r2 (↑(mrow x.2.2.2.2.1 x.1).length:Int) x_1.1) r1) (↑(mrow x.2.2.2.2.1 x.1).length:Int))) x.2.1))∧Pl.preL (D.iface t2 d2) (Pl.scX (Pl.qA (D.iface t1 d1)) x_1.2.1 (Pl.swO (Pl.swO x_1.2.2.1 r1 (↑(mrow x.2.2.2.2.1 x.1).length:Int) x_1.1) r2 (↑(mrow x.2.2.2.2.1 x.1).length:Int) x_1.1) r1 (↑(mrow x.2.2.2.2.1 x.1).length:Int) (Pl.inv (Pl.qA (D.iface t1 d1)) (rd i64 (mrow x_1.2.1 (rd (Ty.ref (0:Nat)) (mrow (Pl.swO (Pl.swO x_1.2.2.1 r1 (↑(mrow x.2.2.2.2.1 x.1).length:Int) x_1.1) r2 (↑(mrow x.2.2.2.2.1 x.1).length:Int) x_1.1) r1) (↑(mrow x.2.2.2.2.1 x.1).length:Int))) x.2.1))) (Pl.swO (Pl.swO x_1.2.2.1 r1 (↑(mrow x.2.2.2.2.1 x.1).length:Int) x_1.1) r2 (↑(mrow x.2.2.2.2.1 x.1).length:Int) x_1.1) r2 (↑(mrow x.2.2.2.2.1 x.1).length:Int) (Pl.inv (Pl.qA (D.iface t1 d1)) (rd i64 (mrow x_1.2.1 (rd (Ty.ref (0:Nat)) (mrow (Pl.swO (Pl.swO x_1.2.2.1 r1 (↑(mrow x.2.2.2.2.1 x.1).length:Int) x_1.1) r2 (↑(mrow x.2.2.2.2.1 x.1).length:Int) x_1.1) r1) (↑(mrow x.2.2.2.2.1 x.1).length:Int))) x.2.1)))∧mal (Pl.swO (Pl.swO x_1.2.2.1 r1 (↑(mrow x.2.2.2.2.1 x.1).length:Int) x_1.1) r2 (↑(mrow x.2.2.2.2.1 x.1).length:Int) x_1.1) r1∧ ∃(n:Nat),itl (fun(G_2:Int×List (Option (List Int))×List (Option (List Nat))×List (Option (List Int))×PUnit→Prop) (x_2:Int×List (Option (List Int))×List (Option (List Nat))×List (Option (List Int))×PUnit)=>Br (decide (x_2.1<(↑(mrow (Pl.swO (Pl.swO x_1.2.2.1 r1 (↑(mrow x.2.2.2.2.1 x.1).length:Int) x_1.1) r2 (↑(mrow x.2.2.2.2.1 x.1).length:Int) x_1.1) r1).length:Int))) (Br (x_2.1 !=(↑(mrow x.2.2.2.2.1 x.1).length:Int)) (mal x_2.2.2.1 r1∧(0:Int)≤x_2.1∧x_2.1<(↑(mrow x_2.2.2.1 r1).length:Int)∧mal x_2.2.2.1 r1∧(0:Int)≤x_2.1∧x_2.1<(↑(mrow x_2.2.2.1 r1).length:Int)∧mal x_2.2.1 (rd (Ty.ref (0:Nat)) (mrow x_2.2.2.1 r1) x_2.1)∧(0:Int)≤x.2.1∧x.2.1<(↑(mrow x_2.2.1 (rd (Ty.ref (0:Nat)) (mrow x_2.2.2.1 r1) x_2.1)).length:Int)∧mal x_2.2.1 (rd (Ty.ref (0:Nat)) (mrow x_2.2.2.1 r1) x_2.1)∧(0:Int)≤x.2.1∧x.2.1<(↑(mrow x_2.2.1 (rd (Ty.ref (0:Nat)) (mrow x_2.2.2.1 r1) x_2.1)).length:Int)∧Br (rd i64 (mrow x_2.2.1 (rd (Ty.ref (0:Nat)) (mrow x_2.2.2.1 r1) x_2.1)) x.2.1 !=(0:Int)) (mal x_2.2.2.1 r1∧(0:Int)≤x_2.1∧x_2.1<(↑(mrow x_2.2.2.1 r1).length:Int)∧mal x_2.2.2.1 r1∧(0:Int)≤x_2.1∧x_2.1<(↑(mrow x_2.2.2.1 r1).length:Int)∧mal x_2.2.1 (rd (Ty.ref (0:Nat)) (mrow x_2.2.2.1 r1) x_2.1)∧(0:Int)≤x.2.1∧x.2.1<(↑(mrow x_2.2.1 (rd (Ty.ref (0:Nat)) (mrow x_2.2.2.1 r1) x_2.1)).length:Int)∧mal x_2.2.1 (rd (Ty.ref (0:Nat)) (mrow x_2.2.2.1 r1) x_2.1)∧(0:Int)≤x.2.1∧x.2.1<(↑(mrow x_2.2.1 (rd (Ty.ref (0:Nat)) (mrow x_2.2.2.1 r1) x_2.1)).length:Int)∧(Pl.preT (D.iface t1 d1) x_2.2.1 x_2.2.2.1 r1 x_2.1 (↑(mrow x.2.2.2.2.1 x.1).length:Int) (rd i64 (mrow x_2.2.1 (rd (Ty.ref (0:Nat)) (mrow x_2.2.2.1 r1) x_2.1)) x.2.1)∧Pl.preT (D.iface t2 d2) (Pl.tkX (Pl.qA (D.iface t1 d1)) x_2.2.1 x_2.2.2.1 r1 x_2.1 (↑(mrow x.2.2.2.2.1 x.1).length:Int) (rd i64 (mrow x_2.2.1 (rd (Ty.ref (0:Nat)) (mrow x_2.2.2.1 r1) x_2.1)) x.2.1)) x_2.2.2.1 r2 x_2.1 (↑(mrow x.2.2.2.2.1 x.1).length:Int) (rd i64 (mrow x_2.2.1 (rd (Ty.ref (0:Nat)) (mrow x_2.2.2.1 r1) x_2.1)) x.2.1))∧G_2 (IntKind.i64.wrap (x_2.1+(1:Int)),mset (Pl.tkX (Pl.qA (D.iface t1 d1)) x_2.2.1 x_2.2.2.1 r1 x_2.1 (↑(mrow x.2.2.2.2.1 x.1).length:Int) (rd i64 (mrow x_2.2.1 (rd (Ty.ref (0:Nat)) (mrow x_2.2.2.1 r1) x_2.1)) x.2.1)) (Pl.ri x_2.2.2.1 r2 x_2.1) (Pl.tkl (Pl.qA (D.iface t2 d2)) (rd i64 (mrow x_2.2.1 (rd (Ty.ref (0:Nat)) (mrow x_2.2.2.1 r1) x_2.1)) x.2.1) (mrow (Pl.tkX (Pl.qA (D.iface t1 d1)) x_2.2.1 x_2.2.2.1 r1 x_2.1 (↑(mrow x.2.2.2.2.1 x.1).length:Int) (rd i64 (mrow x_2.2.1 (rd (Ty.ref (0:Nat)) (mrow x_2.2.2.1 r1) x_2.1)) x.2.1)) (Pl.ri x_2.2.2.1 r2 x_2.1)) (mrow (Pl.tkX (Pl.qA (D.iface t1 d1)) x_2.2.1 x_2.2.2.1 r1 x_2.1 (↑(mrow x.2.2.2.2.1 x.1).length:Int) (rd i64 (mrow x_2.2.1 (rd (Ty.ref (0:Nat)) (mrow x_2.2.2.1 r1) x_2.1)) x.2.1)) (Pl.ri x_2.2.2.1 r2 (↑(mrow x.2.2.2.2.1 x.1).length:Int)))),x_2.2.2)) (G_2 (IntKind.i64.wrap (x_2.1+(1:Int)),x_2.2))) (G_2 (IntKind.i64.wrap (x_2.1+(1:Int)),x_2.2))) (mal x_2.2.2.2.1 x.1∧((↑(mrow x_2.2.2.2.1 x.1).length:Int)+(↑[x.2.1].length:Int))*(8:Int)≤(140737488355328:Int)∧G (List.length x_2.2.2.2.1+(1:Nat),IntKind.i64.wrap (x.2.1+(1:Int)),x_2.2.1,x_2.2.2.1,mnew (mkill x_2.2.2.2.1 x.1) (mrow x_2.2.2.2.1 x.1++[x.2.1]),()))) n ((0:Int),mset (Pl.scX (Pl.qA (D.iface t1 d1)) x_1.2.1 (Pl.swO (Pl.swO x_1.2.2.1 r1 (↑(mrow x.2.2.2.2.1 x.1).length:Int) x_1.1) r2 (↑(mrow x.2.2.2.2.1 x.1).length:Int) x_1.1) r1 (↑(mrow x.2.2.2.2.1 x.1).length:Int) (Pl.inv (Pl.qA (D.iface t1 d1)) (rd i64 (mrow x_1.2.1 (rd (Ty.ref (0:Nat)) (mrow (Pl.swO (Pl.swO x_1.2.2.1 r1 (↑(mrow x.2.2.2.2.1 x.1).length:Int) x_1.1) r2 (↑(mrow x.2.2.2.2.1 x.1).length:Int) x_1.1) r1) (↑(mrow x.2.2.2.2.1 x.1).length:Int))) x.2.1))) (Pl.ri (Pl.swO (Pl.swO x_1.2.2.1 r1 (↑(mrow x.2.2.2.2.1 x.1).length:Int) x_1.1) r2 (↑(mrow x.2.2.2.2.1 x.1).length:Int) x_1.1) r2 (↑(mrow x.2.2.2.2.1 x.1).length:Int)) (Pl.scl (Pl.qA (D.iface t2 d2)) (Pl.inv (Pl.qA (D.iface t1 d1)) (rd i64 (mrow x_1.2.1 (rd (Ty.ref (0:Nat)) (mrow (Pl.swO (Pl.swO x_1.2.2.1 r1 (↑(mrow x.2.2.2.2.1 x.1).length:Int) x_1.1) r2 (↑(mrow x.2.2.2.2.1 x.1).length:Int) x_1.1) r1) (↑(mrow x.2.2.2.2.1 x.1).length:Int))) x.2.1)) (mrow (Pl.scX (Pl.qA (D.iface t1 d1)) x_1.2.1 (Pl.swO (Pl.swO x_1.2.2.1 r1 (↑(mrow x.2.2.2.2.1 x.1).length:Int) x_1.1) r2 (↑(mrow x.2.2.2.2.1 x.1).length:Int) x_1.1) r1 (↑(mrow x.2.2.2.2.1 x.1).length:Int) (Pl.inv (Pl.qA (D.iface t1 d1)) (rd i64 (mrow x_1.2.1 (rd (Ty.ref (0:Nat)) (mrow (Pl.swO (Pl.swO x_1.2.2.1 r1 (↑(mrow x.2.2.2.2.1 x.1).length:Int) x_1.1) r2 (↑(mrow x.2.2.2.2.1 x.1).length:Int) x_1.1) r1) (↑(mrow x.2.2.2.2.1 x.1).length:Int))) x.2.1))) (Pl.ri (Pl.swO (Pl.swO x_1.2.2.1 r1 (↑(mrow x.2.2.2.2.1 x.1).length:Int) x_1.1) r2 (↑(mrow x.2.2.2.2.1 x.1).length:Int) x_1.1) r2 (↑(mrow x.2.2.2.2.1 x.1).length:Int)))),mset (Pl.swO x_1.2.2.1 r1 (↑(mrow x.2.2.2.2.1 x.1).length:Int) x_1.1) r2 (Pl.swp (mrow (Pl.swO x_1.2.2.1 r1 (↑(mrow x.2.2.2.2.1 x.1).length:Int) x_1.1) r2) (↑(mrow x.2.2.2.2.1 x.1).length:Int) x_1.1),x_1.2.2.2)))) n ((↑(mrow x.2.2.2.2.1 x.1).length:Int),x.2.2)) (x.1=n∧x.2.2.1=xs'∧x.2.2.2.1=os'∧x.2.2.2.2.1=cs'∧True)) n_1 ((0:Nat),(0:Int),xs,os,[],()))) (by kernel_rfl) ?_
 rw[e2]
 have hq:=okA_q hA
 generalize hv:D.iface t1 d1=v at*
 obtain⟨q,hqv⟩: ∃q,Pl.qA v=q:=⟨_,rfl⟩
 rw[hqv]at hE h0 hq⊢
 refine⟨hm,Br_of (fun hz=> ?_) (fun hz=> ?_)⟩
 ·have hz:Pl.len os r1=0:=by have:=eq_of_beq hz;unfold Pl.len;omega
  unfold Pl.ech at hE
  rw[decide_eq_true hz,cond_true]at hE
  obtain⟨hE1,rfl⟩:=Prod.mk.inj hE
  obtain⟨rfl,rfl⟩:=Prod.mk.inj hE1
  subst hn hcs
  exact⟨rfl,rfl,rfl,rfl,trivial⟩
 ·have hz:Pl.len os r1≠0:=fun e=>by unfold Pl.len at e;rw[e]at hz;cases hz
  rcases h0 with h0|⟨N,w,hN,R⟩
  ·exact absurd h0 hz
  unfold Pl.ech at hE
  rw[decide_eq_false hz,cond_false]at hE
  have hl1:=R.l1
  have hri:=ri_mem (os:=os) (r:=r1) (i:=0) (by omega) (by omega)
  obtain⟨a1,a2,a3,a4⟩:=R.g1 _ hri
  rw[a3]at hE
  rw[rd_ri,a3]
  refine⟨hm,by omega,by omega,hm,by omega,by omega,a1,itl_rule (fun s=> ∃(j:Nat) (xs0:XS) (os0:OS) (cl:List Int),j≤w∧Pl.cols q r1 r2 (xs,os) j=((xs0,os0),cl)∧s=(cl.length,(j:Int),xs0,os0,Pl.cst cl,())∧Pl.Rec q r1 r2 N w xs0 os0∧cl.length≤N) (fun s=>w-s.2.1.toNat)
   ⟨0,xs,os,[],Nat.zero_le _,rfl,rfl,R,Nat.zero_le _⟩ ?_⟩
  rintro x G ⟨j,xs0,os0,cl,hj,hS,rfl,R0,hcl⟩ hG
  obtain⟨k1,k2⟩:=cst_row cl
  simp only
  rw[k2]
  have hNN:=R.nn
  have hww:=R.ww
  refine Br_of (fun hlt=> ?_) (fun hge=> ?_)
  ·have hlt:j<w:=by have:=of_decide_eq_true hlt;omega
   refine⟨k1,itl_rule (fun s=> ∃k:Int,s=(k,xs0,os0,Pl.cst cl,())∧(cl.length:Int)≤k∧k≤N∧ ∃f:Nat,(N:Int)+1≤f+k∧Pl.kf xs0 os0 r1 j f k=Pl.colK r1 (xs0,os0) cl.length j) (fun s=>((N:Int)-s.1).toNat)
    ⟨_,rfl,Int.le_refl _,by omega,N+1,by omega,by unfold Pl.colK Pl.len;rw[R0.l1]⟩ ?_⟩
   rintro x1 G1 ⟨k,rfl,ka,kN,f,hf,hk⟩ hG1
   simp only
   rw[R0.l1]
   have hlen:Pl.len os0 r1=N:=R0.l1
   refine⟨R0.m1,Br_of (fun hk1=> ?_) (fun hk1=> ?_)⟩
   ·have hk1:k<N:=of_decide_eq_true hk1
    obtain⟨b1,b2,b3⟩:=Rec_ent R0 (i:=k) (col:=j) (by omega) hk1 (by omega) (by omega)
    rw[rd_ri,b2,rd_ent]
    refine⟨R0.m1,by omega,hk1,R0.m1,by omega,hk1,b1,by omega,by omega,b1,by omega,by omega,Br_of (fun hz1=> ?_) (fun hz1=> ?_)⟩
    ·have hz1:=eq_of_beq hz1
     rw[wrap_i64 (by omega) (by omega)]
     exact hG1 _ ⟨k+1,rfl,by omega,by omega,f-1,by omega,by rw[←hk,kf_go (by omega) (by rw[hlen];exact hk1) hz1]⟩ (by simp only;omega)
    ·have hz1:Pl.ent xs0 os0 r1 k j≠0:=fun e=>by rw[e]at hz1;cases hz1
     have hK:Pl.colK r1 (xs0,os0) cl.length j=k:=by rw[←hk];exact kf_stop (by omega) (fun hh=>hz1 hh.2)
     refine⟨R0.m1,Br_of (fun hkN=>absurd (eq_of_beq hkN) (by omega)) (fun _=> ?_)⟩
     obtain⟨⟨P1,P2⟩,R1⟩:=Rec_sw R0 (i:=cl.length) (k:=k) (by omega) (by omega) (by omega) hk1
     have hent:=ent_sw R0 (i:=cl.length) (k:=k) (by omega) (by omega) (by omega) hk1 j
     have hos:Pl.swO (Pl.swO os0 r1 cl.length k) r2 cl.length k=Pl.colO r1 r2 os0 cl.length k:=rfl
     have hcol:=col_yes (q:=q) (r2:=r2) hK hlen (by omega)
     unfold Pl.colX at hcol
     rw[hos]
     rw[show mset (Pl.swO os0 r1 cl.length k) r2 (Pl.swp (mrow (Pl.swO os0 r1 cl.length k) r2) cl.length k)=Pl.colO r1 r2 os0 cl.length k from rfl]
     generalize Pl.colO r1 r2 os0 cl.length k=os1 at*
     obtain⟨c1,c2,c3⟩:=Rec_ent R1 (i:=cl.length) (col:=j) (by omega) (by omega) (by omega) (by omega)
     rw[rd_ri,R1.l1,c2,rd_ent]
     have hne:Pl.ent xs0 os1 r1 cl.length j≠0:=by rw[hent];exact hz1
     generalize Pl.ent xs0 os1 r1 cl.length j=en at*
     obtain⟨⟨L1,L2⟩,R2⟩:=Rec_sc hq hA hqv R1 (i:=cl.length) (c:=Pl.inv q en) (by omega) (by omega) (inv_inQ hq en)
     rw[show mset (Pl.scX q xs0 os1 r1 cl.length (Pl.inv q en)) (Pl.ri os1 r2 cl.length) (Pl.scl q (Pl.inv q en) (mrow (Pl.scX q xs0 os1 r1 cl.length (Pl.inv q en)) (Pl.ri os1 r2 cl.length)))=Pl.scX q (Pl.scX q xs0 os1 r1 cl.length (Pl.inv q en)) os1 r2 cl.length (Pl.inv q en)from rfl]
     generalize Pl.scX q (Pl.scX q xs0 os1 r1 cl.length (Pl.inv q en)) os1 r2 cl.length (Pl.inv q en)=X0 at*
     refine⟨⟨P1,P2⟩,R1.m1,by omega,by omega,R1.m1,by omega,by omega,c1,by omega,by omega,c1,by omega,by omega,⟨hA,c3,hne⟩,⟨L1,L2⟩,R1.m1,
      itl_rule (fun s=> ∃(i:Nat) (X:XS),i≤N∧s=((i:Int),X,os1,Pl.cst cl,())∧X=Pl.elim q r1 r2 os1 cl.length j i X0∧Pl.Rec q r1 r2 N w X os1) (fun s=>((N:Int)-s.1).toNat) ⟨0,X0,Nat.zero_le _,rfl,rfl,R2⟩ ?_⟩
     rintro x2 G2 ⟨i,X,hi,rfl,hX,R3⟩ hG2
     simp only
     refine Br_of (fun hiN=> ?_) (fun hiN=> ?_)
     ·have hiN:i<N:=by have:=of_decide_eq_true hiN;omega
      rw[wrap_i64 (by omega) (by omega)]
      have hstep: ∀X',X'=Pl.elim1 q r1 r2 os1 cl.length j i X→Pl.Rec q r1 r2 N w X' os1→G2 ((i:Int)+1,X',os1,Pl.cst cl,()):=fun X' hX' hR=>hG2 _ ⟨i+1,X',hiN,rfl,by rw[hX',hX];rfl,hR⟩ (by simp only;omega)
      obtain⟨d1,d2,d3⟩:=Rec_ent R3 (i:=i) (col:=j) (by omega) (by omega) (by omega) (by omega)
      refine Br_of (fun hia=> ?_) (fun hia=> ?_)
      ·have hia:(i:Int)≠cl.length:=by simpa using hia
       rw[rd_ri,R3.l1,d2,rd_ent]
       refine⟨R3.m1,by omega,by omega,R3.m1,by omega,by omega,d1,by omega,by omega,d1,by omega,by omega,Br_of (fun hnz=> ?_) (fun hnz=> ?_)⟩
       ·have hnz:Pl.ent X os1 r1 i j≠0:=by simpa using hnz
        obtain⟨T1,R4⟩:=Rec_tk hq hA hqv R3 (i:=i) (k:=cl.length) (c:=Pl.ent X os1 r1 i j) (by omega) (by omega) (by omega) (by omega) hia d3
        exact⟨R3.m1,by omega,by omega,R3.m1,by omega,by omega,d1,by omega,by omega,d1,by omega,by omega,T1,hstep _ (elim_yes hia hnz).symm R4⟩
       ·have hnz:Pl.ent X os1 r1 i j=0:=by simpa using hnz
        exact hstep _ (elim_no (.inr hnz)).symm R3
      ·have hia:(i:Int)=cl.length:=by simpa using hia
       exact hstep _ (elim_no (.inl hia)).symm R3
     ·have hiN:i=N:=by have:=of_decide_eq_false hiN;omega
      subst hiN
      rw[k2,cst_len,cst_snoc,wrap_i64 (by omega) (by omega)]
      refine⟨k1,by simp only[List.length_singleton];omega,hG _ ⟨j+1,X,os1,cl++[(j:Int)],hlt, ?_, ?_,R3,by simp;omega⟩ (by simp only;omega)⟩
      ·rw[Pl.cols,hS]
       show Pl.col q r1 r2 (xs0,os0) cl j=_
       rw[hcol,hX]
      ·rw[List.length_append];rfl
   ·have hk1:k=N:=by have:=of_decide_eq_false hk1;omega
    subst hk1
    refine⟨R0.m1,Br_of (fun _=> ?_) (fun hkN=>absurd hkN (by simp))⟩
    rw[wrap_i64 (by omega) (by omega)]
    refine hG _ ⟨j+1,xs0,os0,cl,hlt, ?_,rfl,R0,hcl⟩ (by simp only;omega)
    rw[Pl.cols,hS]
    refine col_no ?_
    rw[←hk]
    show _=(Pl.len os0 r1:Int)
    rw[hlen]
    exact kf_stop (by omega) (fun hh=>by have:=hh.1;rw[hlen]at this;omega)
  ·have hge:j=w:=by have:=of_decide_eq_false hge;omega
   subst hge
   rw[hS]at hE
   obtain⟨hE1,rfl⟩:=Prod.mk.inj hE
   obtain⟨rfl,rfl⟩:=Prod.mk.inj hE1
   subst hn hcs
   exact⟨rfl,rfl,rfl,rfl,trivial⟩
theorem snd91:SoundPT Try.prog 91 pt91:=pt_sound (T:=T91) (fn:=Try.f91) (tokg (T:=T91) trivial ⟨snd136,snd137,snd138,trivial⟩ trivial invsV noCv) Try.func91 (by kernel_rfl) H91 (fun avs h p v h' hf hp=>by
 obtain⟨s,cs,l,s',hs,h4,hf,rfl,rfl⟩:=ech91_some hf
 have e2:upd (s.put h) 4 (some (.aren 3 i64 cs))=h:=by
  rw[put_get hs]
  funext id
  rw[upd_eq]
  by_cases e:id=4
  ·subst e;rw[if_pos rfl,h4]
  ·rw[if_neg e]
 rw[←e2]
 obtain⟨xs,os,t1,d1,l1,r1,t2,d2,l2,r2⟩:=s
 unfold echF at hf
 split at hf
 ·rename_i r
  split at hf
  ·have e:=Option.some.inj hf
   obtain⟨e1,e3⟩:=Prod.mk.inj e
   obtain⟨e3,e4⟩:=Prod.mk.inj e3
   subst e1 e3 e4
   obtain⟨hp1,rfl⟩:=hp
   exact vc91 xs os t1 d1 l1 r1 t2 d2 l2 r2 h _ _ _ _ _ hp1 rfl rfl rfl
  ·cases hf
 ·cases hf) (by kernel_rfl)
end Fd
end
section
set_option linter.unusedVariables false
set_option linter.unusedSimpArgs false
set_option maxRecDepth 100000
namespace Fd
open Go Fw Go.Proofs

def Pl.unitR (n i:Nat):List Int:=(List.replicate n 0).set i 1
def Pl.recX (m:List (List Int)):Nat→XS
 |0=>[]
 |i+1=>Pl.recX m i++[some (Pl.unitR m.length i),some (m.getD i [])]
def Pl.recR:Nat→List Nat
 |0=>[]
 |i+1=>Pl.recR i++[2*i+2]
def Pl.recW:Nat→List Nat
 |0=>[]
 |i+1=>Pl.recW i++[2*i+1]
def Pl.recO:Nat→OS
 |0=>[]
 |i+1=>List.replicate (2*i) none++[some (Pl.recR (i+1)),some (Pl.recW (i+1))]
def Pl.okMx (m:List (List Int)):Prop:=m.length≤1000000∧ ∀r∈m,r.length≤1000000000
def base3 (h:Hp):Hp:=upd (upd (upd h 0 (some (.aren 3 i64 []))) 1 (some (.abox 107 []))) 2 (some (.aren 30 (.ref 0) []))
def new90 (avs:List AV) (h:Hp):Option (Prop×AV×Hp):=match avs with
 |[.d (.rptr (.iface t d::ls)), .d (.slc b (.slc (.int .i64)) m)]=>(match h 0,h 1,h 2 with
  |some (.aren 3 (.int .i64) []),some (.abox 107 []),some (.aren 30 (.ref 0) [])=>some (Pl.okMx m, .d (.ref 1 1),(MS.mk (Pl.recX m m.length) (Pl.recO m.length) t d ls (2*m.length-1) t d ls (2*m.length)).put h)
  |_,_,_=>none)
 |_=>none
theorem new90_some {avs:List AV} {h h':Hp} {p:Prop} {v:AV} (e:new90 avs h=some (p,v,h')): ∃t d ls b m,avs=[.d (.rptr (.iface t d::ls)), .d (.slc b (.slc (.int .i64)) m)]∧h 0=some (.aren 3 i64 [])∧h 1=some (.abox 107 [])∧h 2=some (.aren 30 (.ref 0) [])∧
  p=Pl.okMx m∧v= .d (.ref 1 1)∧h'=(MS.mk (Pl.recX m m.length) (Pl.recO m.length) t d ls (2*m.length-1) t d ls (2*m.length)).put h:=by
 unfold new90 at e
 split at e
 ·rename_i t d ls b m
  split at e
  ·rename_i h0 h1 h2
   have e:=Option.some.inj e
   obtain⟨e1,e3⟩:=Prod.mk.inj e
   obtain⟨e3,e4⟩:=Prod.mk.inj e3
   exact⟨t,d,ls,b,m,rfl,h0,h1,h2,e1.symm,e3.symm,e4.symm⟩
  ·cases e
 ·cases e
def pt90:PT where
 base:=4000000
 mods:=[0,1,2]
 fn:=new90
 ok:=by
  intro avs h p v h' e
  obtain⟨t,d,ls,b,m,_,e0,e1,e2,_,rfl,rfl⟩:=new90_some e
  refine⟨fun id=> ?_,fun id hid=> ?_,rfl,fun id hid=> ?_,fun K hK=> ?_⟩
  ·rw[put_eq]
   by_cases h2:id=2
   ·subst h2;simp[e2]
   ·rw[if_neg h2]
    by_cases h1:id=1
    ·subst h1;simp[e1]
    ·rw[if_neg h1]
     by_cases h0:id=0
     ·subst h0;simp[e0]
     ·rw[if_neg h0]
  ·simp only[List.mem_cons,List.not_mem_nil,or_false,not_or]at hid
   rw[put_eq,if_neg hid.2.2,if_neg hid.2.1,if_neg hid.1]
  ·simp only[List.mem_cons,List.not_mem_nil,or_false]at hid
   rcases hid with rfl|rfl|rfl
   ·simp[e0]
   ·simp[e1]
   ·simp[e2]
  ·obtain⟨o,ho,ha⟩:=hK
   rw[put_eq]at ho
   by_cases h2:K=2
   ·subst h2;exact⟨_,e2,rfl⟩
   ·rw[if_neg h2]at ho
    by_cases h1:K=1
    ·subst h1;exact⟨_,e1,rfl⟩
    ·rw[if_neg h1]at ho
     by_cases h0:K=0
     ·subst h0;exact⟨_,e0,rfl⟩
     ·rw[if_neg h0]at ho;exact⟨o,ho,ha⟩
abbrev R2:Ar:= .ty (.ref 2)
def T90:Ctx:=⟨tt,[(123,C123)],[],none,[],4000000,[0,1,2],[],0,[(14,1),(24,0),(35,0),(37,2),(49,2)],[],[(30,0)],[(107,[.raw,R2, .raw,R2])],[]⟩
def H90:Hints:=⟨[14,24,35],[],[(0,⟨[1,5,15,16],[(17,si),(0,s0),(1, .ab 107 [.raw,R2, .raw,R2]),(2,sO)]⟩)],[],[]⟩

end Fd
end
section
set_option linter.unusedVariables false
set_option linter.unusedSimpArgs false
set_option maxRecDepth 100000
namespace Fd
open Go Fw Go.Proofs

theorem row_at {α:Type} {ms:List (Option (List α))} {j:Nat} {xs:List α} (h:ms[j]? =some (some xs)):mal ms (j+1)∧mrow ms (j+1)=xs:=
 ⟨⟨xs,h⟩,by show(ms.getD j none).getD []=xs;rw[List.getD_eq_getElem?_getD,h];rfl⟩
theorem recX_len (m:List (List Int)): ∀i,(Pl.recX m i).length=2*i
 |0=>rfl
 |i+1=>by rw[Pl.recX,List.length_append,recX_len m i];simp;omega
theorem recR_len: ∀i,(Pl.recR i).length=i
 |0=>rfl
 |i+1=>by rw[Pl.recR,List.length_append,recR_len i];simp
theorem recW_len: ∀i,(Pl.recW i).length=i
 |0=>rfl
 |i+1=>by rw[Pl.recW,List.length_append,recW_len i];simp
theorem recO_len: ∀i,(Pl.recO i).length=2*i
 |0=>rfl
 |i+1=>by rw[Pl.recO,List.length_append,List.length_replicate];simp;omega
theorem recO_1 (i:Nat):mal (Pl.recO i) (2*i-1)∧mrow (Pl.recO i) (2*i-1)=Pl.recR i:=by
 cases i with
 |zero=>exact⟨trivial,rfl⟩
 |succ k=>
  rw[show 2*(k+1)-1=2*k+1 by omega,Pl.recO]
  exact row_at (by rw[List.getElem?_append_right (by simp)];simp)
theorem recO_2 (i:Nat) (R:List Nat):mal (mkill (Pl.recO i) (2*i-1)++[some R]) (2*i)∧mrow (mkill (Pl.recO i) (2*i-1)++[some R]) (2*i)=Pl.recW i∧(mkill (Pl.recO i) (2*i-1)++[some R]).length=2*i+1∧
  ∀W,mkill (mkill (Pl.recO i) (2*i-1)++[some R]) (2*i)++[some W]=List.replicate (2*i) none++[some R,some W]:=by
 cases i with
 |zero=>exact⟨trivial,rfl,rfl,fun W=>rfl⟩
 |succ k=>
  have e:mkill (Pl.recO (k+1)) (2*(k+1)-1)++[some R]=List.replicate (2*k) none++[none,some (Pl.recW (k+1)),some R]:=by
   rw[show 2*(k+1)-1=2*k+1 by omega,Pl.recO]
   show(List.replicate (2*k) none++[some (Pl.recR (k+1)),some (Pl.recW (k+1))]).set (2*k) none++[some R]=_
   rw[List.set_append_right _ _ (by simp),List.length_replicate,Nat.sub_self]
   simp
  rw[e,show 2*(k+1)=(2*k+1)+1 by omega]
  obtain⟨a1,a2⟩:=row_at (ms:=List.replicate (2*k) none++[none,some (Pl.recW (k+1)),some R]) (j:=2*k+1) (xs:=Pl.recW (k+1)) (by rw[List.getElem?_append_right (by simp)];simp)
  refine⟨a1,a2,by simp,fun W=> ?_⟩
  show(List.replicate (2*k) none++[none,some (Pl.recW (k+1)),some R]).set (2*k+1) none++[some W]=_
  rw[List.set_append_right _ _ (by simp),List.length_replicate,show 2*k+1-2*k=1 by omega,show 2*k+1+1=2*k+2 from rfl,show List.replicate (2*k+2) (none:Option (List Nat))=List.replicate (2*k) none++[none,none]by rw[show 2*k+2=(2*k+1)+1 from rfl,List.replicate_succ',List.replicate_succ',List.append_assoc];rfl]
  simp
theorem vc90: ∀(t:Nat) (d:D) (ls:List D) (b:Bool) (m:List (List Int)) (h:Hp) (xs':XS) (os':OS) (r1 r2:Nat),Pl.okMx m→xs'=Pl.recX m m.length→os'=Pl.recO m.length→r1=2*m.length-1→r2=2*m.length→
  VCP T90 H90 Try.f90 pt90 [.d (.rptr (.iface t d::ls)), .d (.slc b (.slc i64) m)] (base3 h) (.d (.ref 1 1)) ((MS.mk xs' os' t d ls r1 t d ls r2).put (base3 h)):=by
 rintro t d ls b m h xs' os' r1 r2 ⟨hm1,hm2⟩ hx' ho' hr1 hr2
 refine cast (α:=[D.rptr (D.iface t d::ls),D.ref (2:Nat) (0:Nat),D.rptr (D.iface t d::ls),D.ref (2:Nat) (0:Nat)]=[D.rptr (D.iface t d::ls),D.ref (2:Nat) (0:Nat),D.rptr (D.iface t d::ls),D.ref (2:Nat) (0:Nat)]∧ ∃(n:Nat),itl (fun(G:Int×List (Option (List Int))×(D×Nat×D×Nat×PUnit)×List (Option (List Nat))×PUnit→Prop) (x:Int×List (Option (List Int))×(D×Nat×D×Nat×PUnit)×List (Option (List Nat))×PUnit)=>Br (decide (x.1<(↑m.length:Int))) ((0:Int)≤x.1∧x.1<(↑m.length:Int)∧(0:Int)≤(↑m.length:Int)∧(↑m.length:Int)=(↑m.length:Int)∧(↑m.length:Int)*(8:Int)≤(140737488355328:Int)∧mal (mnew x.2.1 (List.replicate (↑m.length:Int).toNat (0:Int))) (List.length x.2.1+(1:Nat))∧(0:Int)≤x.1∧x.1<(↑(mrow (mnew x.2.1 (List.replicate (↑m.length:Int).toNat (0:Int))) (List.length x.2.1+(1:Nat))).length:Int)∧mal (mnew x.2.1 (List.replicate (↑m.length:Int).toNat (0:Int))) (List.length x.2.1+(1:Nat))∧(0:Int)≤x.1∧x.1<(↑(mrow (mnew x.2.1 (List.replicate (↑m.length:Int).toNat (0:Int))) (List.length x.2.1+(1:Nat))).length:Int)∧List.length (rd i64.slc m x.1)≤(1000000000:Nat)∧mal x.2.2.2.1 x.2.2.1.2.1∧((↑(mrow x.2.2.2.1 x.2.2.1.2.1).length:Int)+(↑[((mnew x.2.1 (List.replicate (↑m.length:Int).toNat (0:Int))).set (List.length x.2.1) (some ((mrow (mnew x.2.1 (List.replicate (↑m.length:Int).toNat (0:Int))) (List.length x.2.1+(1:Nat))).set (Int.toNat x.1) (1:Int)))).length+(1:Nat)].length:Int))*(24:Int)≤(140737488355328:Int)∧mal ((mkill x.2.2.2.1 x.2.2.1.2.1).append [some (mrow x.2.2.2.1 x.2.2.1.2.1++[((mnew x.2.1 (List.replicate (↑m.length:Int).toNat (0:Int))).set (List.length x.2.1) (some ((mrow (mnew x.2.1 (List.replicate (↑m.length:Int).toNat (0:Int))) (List.length x.2.1+(1:Nat))).set (Int.toNat x.1) (1:Int)))).length+(1:Nat)])]) x.2.2.1.2.2.2.1∧((↑(mrow ((mkill x.2.2.2.1 x.2.2.1.2.1).append [some (mrow x.2.2.2.1 x.2.2.1.2.1++[((mnew x.2.1 (List.replicate (↑m.length:Int).toNat (0:Int))).set (List.length x.2.1) (some ((mrow (mnew x.2.1 (List.replicate (↑m.length:Int).toNat (0:Int))) (List.length x.2.1+(1:Nat))).set (Int.toNat x.1) (1:Int)))).length+(1:Nat)])]) x.2.2.1.2.2.2.1).length:Int)+(↑[List.length x.2.1+(1:Nat)].length:Int))*(24:Int)≤(140737488355328:Int)∧[Ar.raw.enc (Ar.raw.enc x.2.2.1.1),D.ref (2:Nat) (List.length x.2.2.2.1+(1:Nat)),Ar.raw.enc (Ar.raw.enc x.2.2.1.2.2.1),D.ref (2:Nat) (((mkill x.2.2.2.1 x.2.2.1.2.1).append [some (mrow x.2.2.2.1 x.2.2.1.2.1++[((mnew x.2.1 (List.replicate (↑m.length:Int).toNat (0:Int))).set (List.length x.2.1) (some ((mrow (mnew x.2.1 (List.replicate (↑m.length:Int).toNat (0:Int))) (List.length x.2.1+(1:Nat))).set (Int.toNat x.1) (1:Int)))).length+(1:Nat)])]).length+(1:Nat))]=[Ar.raw.enc x.2.2.1.1,D.ref (2:Nat) (List.length x.2.2.2.1+(1:Nat)),Ar.raw.enc x.2.2.1.2.2.1,D.ref (2:Nat) (((mkill x.2.2.2.1 x.2.2.1.2.1).append [some (mrow x.2.2.2.1 x.2.2.1.2.1++[((mnew x.2.1 (List.replicate (↑m.length:Int).toNat (0:Int))).set (List.length x.2.1) (some ((mrow (mnew x.2.1 (List.replicate (↑m.length:Int).toNat (0:Int))) (List.length x.2.1+(1:Nat))).set (Int.toNat x.1) (1:Int)))).length+(1:Nat)])]).length+(1:Nat))]∧G (IntKind.i64.wrap (x.1+(1:Int)),((mnew x.2.1 (List.replicate (↑m.length:Int).toNat (0:Int))).set (List.length x.2.1) (some ((mrow (mnew x.2.1 (List.replicate (↑m.length:Int).toNat (0:Int))) (List.length x.2.1+(1:Nat))).set (Int.toNat x.1) (1:Int)))).append [some (rd i64.slc m x.1)],(Ar.raw.enc x.2.2.1.1,List.length x.2.2.2.1+(1:Nat),Ar.raw.enc x.2.2.1.2.2.1,((mkill x.2.2.2.1 x.2.2.1.2.1).append [some (mrow x.2.2.2.1 x.2.2.1.2.1++[((mnew x.2.1 (List.replicate (↑m.length:Int).toNat (0:Int))).set (List.length x.2.1) (some ((mrow (mnew x.2.1 (List.replicate (↑m.length:Int).toNat (0:Int))) (List.length x.2.1+(1:Nat))).set (Int.toNat x.1) (1:Int)))).length+(1:Nat)])]).length+(1:Nat),()),(mkill ((mkill x.2.2.2.1 x.2.2.1.2.1).append [some (mrow x.2.2.2.1 x.2.2.1.2.1++[((mnew x.2.1 (List.replicate (↑m.length:Int).toNat (0:Int))).set (List.length x.2.1) (some ((mrow (mnew x.2.1 (List.replicate (↑m.length:Int).toNat (0:Int))) (List.length x.2.1+(1:Nat))).set (Int.toNat x.1) (1:Int)))).length+(1:Nat)])]) x.2.2.1.2.2.2.1).append [some (mrow ((mkill x.2.2.2.1 x.2.2.1.2.1).append [some (mrow x.2.2.2.1 x.2.2.1.2.1++[((mnew x.2.1 (List.replicate (↑m.length:Int).toNat (0:Int))).set (List.length x.2.1) (some ((mrow (mnew x.2.1 (List.replicate (↑m.length:Int).toNat (0:Int))) (List.length x.2.1+(1:Nat))).set (Int.toNat x.1) (1:Int)))).length+(1:Nat)])]) x.2.2.1.2.2.2.1++[List.length x.2.1+(1:Nat)])],())) (([]:List Int).length+(1:Nat)=(1:Nat)∧x.2.1=xs'∧[some [Ar.raw.enc x.2.2.1.1,D.ref (2:Nat) x.2.2.1.2.1,Ar.raw.enc x.2.2.1.2.2.1,D.ref (2:Nat) x.2.2.1.2.2.2.1]]=[some ((fun(s:MS)=>[D.rptr (D.iface s.t1 s.d1::s.l1),D.ref (2:Nat) s.r1,D.rptr (D.iface s.t2 s.d2::s.l2),D.ref (2:Nat) s.r2]) { xs:=xs',os:=os',t1:=t,d1:=d,l1:=ls,r1:=r1,t2:=t,d2:=d,l2:=ls,r2:=r2 })]∧x.2.2.2.1=os'∧True)) n ((0:Int),[],(D.rptr (D.iface t d::ls),(0:Nat),D.rptr (D.iface t d::ls),(0:Nat),()),[],())) (by kernel_rfl) ?_
 refine⟨rfl,itl_rule (fun s=> ∃i:Nat,i≤m.length∧s=((i:Int),Pl.recX m i,(D.rptr (.iface t d::ls),2*i-1,D.rptr (.iface t d::ls),2*i,()),Pl.recO i,())) (fun s=>m.length-s.1.toNat) ⟨0,Nat.zero_le _,rfl⟩ ?_⟩
 rintro x G ⟨i,hi,rfl⟩ hG
 simp only
 refine Br_of (fun hlt=> ?_) (fun hge=> ?_)
 ·have hlt:i<m.length:=by have:=of_decide_eq_true hlt;omega
  have hXl:=recX_len m i
  have hOl:=recO_len i
  obtain⟨o1,o2⟩:=recO_1 i
  rw[o2]
  have hZ:mnew (Pl.recX m i) (List.replicate (m.length:Int).toNat (0:Int))=Pl.recX m i++[some (List.replicate m.length 0)]:=by rw[Int.toNat_natCast];rfl
  rw[hZ]
  obtain⟨z1,z2⟩:=row_at (ms:=Pl.recX m i++[some (List.replicate m.length (0:Int))]) (j:=(Pl.recX m i).length) (xs:=List.replicate m.length 0) (by rw[List.getElem?_append_right (Nat.le_refl _)];simp)
  rw[z2]
  have hset:(Pl.recX m i++[some (List.replicate m.length (0:Int))]).set (Pl.recX m i).length (some ((List.replicate m.length (0:Int)).set (Int.toNat (i:Int)) (1:Int)))=Pl.recX m i++[some (Pl.unitR m.length i)]:=by
   rw[List.set_append_right _ _ (Nat.le_refl _),Nat.sub_self,Int.toNat_natCast];rfl
  rw[hset]
  have hl1:(Pl.recX m i++[some (Pl.unitR m.length i)]).length+1=2*i+2:=by rw[List.length_append,hXl];rfl
  rw[hl1,hXl,hOl]
  obtain⟨p1,p2,p3,p4⟩:=recO_2 i (Pl.recR i++[2*i+2])
  have p1:mal ((mkill (Pl.recO i) (2*i-1)).append [some (Pl.recR i++[2*i+2])]) (2*i):=p1
  have p2:mrow ((mkill (Pl.recO i) (2*i-1)).append [some (Pl.recR i++[2*i+2])]) (2*i)=Pl.recW i:=p2
  have p3:((mkill (Pl.recO i) (2*i-1)).append [some (Pl.recR i++[2*i+2])]).length=2*i+1:=p3
  have p4:(mkill ((mkill (Pl.recO i) (2*i-1)).append [some (Pl.recR i++[2*i+2])]) (2*i)).append [some (Pl.recW i++[2*i+1])]=Pl.recO (i+1):=p4 _
  rw[p2,p3,p4,wrap_i64 (by omega) (by omega)]
  have hrl:rd i64.slc m (i:Int)=m.getD i []:=rfl
  rw[hrl,recR_len,recW_len,List.length_replicate]
  rw[hXl]at z1
  refine⟨by omega,by omega,by omega,trivial,by omega,z1,by omega,by omega,z1,by omega,by omega,hm2 _ (by rw[List.getD_eq_getElem?_getD,List.getElem?_eq_getElem hlt];exact List.getElem_mem hlt),o1,by simp only[List.length_singleton];omega,p1,by simp only[List.length_singleton];omega,rfl,hG _ ⟨i+1,hlt, ?_⟩ (by simp only;omega)⟩
  have e1:(Pl.recX m i++[some (Pl.unitR m.length i)]).append [some (m.getD i [])]=Pl.recX m (i+1):=by
   show(Pl.recX m i++[some (Pl.unitR m.length i)])++[some (m.getD i [])]=_
   rw[List.append_assoc];rfl
  rw[e1]
  rfl
 ·have hge:i=m.length:=by have:=of_decide_eq_false hge;omega
  subst hge hx' ho' hr1 hr2
  exact⟨rfl,rfl,rfl,rfl,trivial⟩
theorem snd90:SoundPT Try.prog 90 pt90:=pt_sound (T:=T90) (fn:=Try.f90) (tokg (T:=T90) ⟨snd123,trivial⟩ trivial trivial noInv noCv) Try.func90 (by kernel_rfl) H90 (fun avs h p v h' hf hp=>by
 obtain⟨t,d,ls,b,m,rfl,e0,e1,e2,rfl,rfl,rfl⟩:=new90_some hf
 have e:base3 h=h:=by
  unfold base3
  funext id
  rw[upd_eq,upd_eq,upd_eq]
  by_cases h2:id=2
  ·subst h2;rw[if_pos rfl,e2]
  ·rw[if_neg h2]
   by_cases h1:id=1
   ·subst h1;rw[if_pos rfl,e1]
   ·rw[if_neg h1]
    by_cases h0:id=0
    ·subst h0;rw[if_pos rfl,e0]
    ·rw[if_neg h0]
 rw[←e]
 exact vc90 t d ls b m h _ _ _ _ hp rfl rfl rfl rfl) (by kernel_rfl)
end Fd
end
section
set_option linter.unusedVariables false
set_option linter.unusedSimpArgs false
set_option maxRecDepth 100000
namespace Fd
open Go Fw Go.Proofs

def C95:Con:=⟨[.raw,I],[I],fun(x:D×Int×Unit)=>Pl.okF x.1,fun(x:D×Int×Unit)=>(x.2.1%Pl.qF x.1,()),none⟩
def Cf2 (f:Int→Int→Int→Int):Con:=⟨[.raw,I,I],[I],fun(x:D×Int×Int×Unit)=>Pl.okF x.1,fun(x:D×Int×Int×Unit)=>(f (Pl.qF x.1) (x.2.1%Pl.qF x.1) (x.2.2.1%Pl.qF x.1),()),none⟩
def C34:Con:=Cf2 Pl.mul
def TF (fs:List (Nat×Con)):Ctx:=TV fs VV
def T30:Ctx:=TF [(95,C95)]
def C42:Con:=⟨[.raw],[I],fun(x:D×Unit)=>Pl.okF x.1,fun(x:D×Unit)=>(Pl.gen (Pl.qF x.1),()),none⟩
def C80:Con:=⟨[.raw],[L],fun(x:D×Unit)=>Pl.okF x.1,fun(x:D×Unit)=>(Pl.md (Pl.qF x.1),()),none⟩
def Pl.conj (q:Int):Nat→Int→List Int
 |0,_=>[]
 |n+1,a=>a::Pl.conj q n (Pl.pow q a (Pl.lpf q))
def Pl.cjs (q a:Int):List Int:=Pl.conj q (Pl.K q).toNat a
def C104:Con:=⟨[.raw,I],[L],fun(x:D×Int×Unit)=>Pl.okF x.1∧Pl.inQ (Pl.qF x.1) x.2.1,fun(x:D×Int×Unit)=>(Pl.cjs (Pl.qF x.1) x.2.1,()),none⟩
def H104:Hints:=lo [(0,⟨[0,9],[(1,si),(5,so),(10,si)]⟩)]
def T104:Ctx:=TT [(100,C100)]
def Pl.trace (q a:Int):Int:=(Pl.cjs q a).foldl (Pl.add q) 0
def C55:Con:=⟨[.raw,I],[I],fun(x:D×Int×Unit)=>Pl.okF x.1,fun(x:D×Int×Unit)=>(Pl.trace (Pl.qF x.1) (x.2.1%Pl.qF x.1),()),none⟩
def H55:Hints:=lo [(0,⟨[0,14,15],[(5,si),(16,si)]⟩)]
def T55:Ctx:=TF [(95,C95),(104,C104)]
def Pl.dotL (q:Int):Int→List Int→List Int→Int
 |s,a::l,b::m=>Pl.dotL q (Pl.add q s (Pl.mul q a b)) l m
 |s,_,_=>s
def Pl.dot (q:Int) (a b:List Int):Int:=Pl.dotL q 0 a b
def C94:Con:=⟨[.raw,L,L],[I],fun(x:D×List Int×List Int×Unit)=>Pl.okF x.1∧Pl.inAll (Pl.qF x.1) x.2.1∧Pl.inAll (Pl.qF x.1) x.2.2.1∧x.2.1.length≤x.2.2.1.length,fun(x:D×List Int×List Int×Unit)=>(Pl.dot (Pl.qF x.1) x.2.1 x.2.2.1,()),none⟩
def H94:Hints:=lo [(0,⟨[0,2,10,11],[(7,si),(12,si)]⟩)]
def Pl.els (q:Int) (l:List Int):Bool:=l.all fun a=>decide (0≤a)&&decide (a<q)
def C93:Con:=⟨[.raw,L],[B],fun(x:D×List Int×Unit)=>Pl.okF x.1∧x.2.1.length≤1000000000,fun(x:D×List Int×Unit)=>(Pl.els (Pl.qF x.1) x.2.1,()),none⟩
def Hz2:Hints:=⟨[],[(1,[2])],[],[],[]⟩
def T93:Ctx:=TT [(139,C139)]
def C135:Con:=⟨[L, .raw],[B],fun(x:List Int×D×Unit)=>(∃f,Pl.okF f∧x.2.1= .rptr [f])∧x.1.length≤1000000000,fun(x:List Int×D×Unit)=>(!Pl.els (Pl.qF (match x.2.1 with| .rptr [f]=>f|_=> .rptr [])) x.1,()),none⟩
def badC (f:D):D:= .clo 135 [.rptr [f]]
def Pl.bad (v:D) (l:List Int):Bool:=match v with
 | .clo 135 [.rptr [f]]=> !Pl.els (Pl.qF f) l
 |_=>false
def Vbad:Con:=⟨[.raw,L],[B],fun(x:D×List Int×Unit)=>(∃f,Pl.okF f∧x.1=badC f)∧x.2.1.length≤1000000000,fun(x:D×List Int×Unit)=>(Pl.bad x.1 x.2.1,()),none⟩
def Pl.idxR (p:List Int→Bool):List (List Int)→Int→Int
 |[],_=> -1
 |x::l,i=>bif p x then i else Pl.idxR p l (i+1)
def Pl.okBd (m:List (List Int)) (v:D):Prop:=(∃f,Pl.okF f∧v=badC f)∧m.length≤1000000000∧ ∀r∈m,r.length≤1000000000
def C160:Con:=⟨[LL, .raw],[I],fun(x:List (List Int)×D×Unit)=>Pl.okBd x.1 x.2.1,fun(x:List (List Int)×D×Unit)=>(Pl.idxR (Pl.bad x.2.1) x.1 0,()),none⟩
def H160:Hints:=lo [(0,⟨[0,1,7],[(8,si)]⟩)]
def T160:Ctx:=TC [] Vbad
def C134:Con:=⟨[LL, .raw],[B],fun(x:List (List Int)×D×Unit)=>Pl.okBd x.1 x.2.1,fun(x:List (List Int)×D×Unit)=>(x.1.any (Pl.bad x.2.1),()),none⟩
def T134:Ctx:=TT [(160,C160)]
def T135:Ctx:=TT [(93,C93)]
def Pl.wide (m:List (List Int)):Nat:=(m.getD 0 []).length
def Pl.shape (q:Int) (m:List (List Int)):Int:=
 bif decide (m.length>64)||(decide (m.length>0)&&decide (Pl.wide m>64))then 2 else
 bif m.any (fun r=>decide (r.length≠Pl.wide m))then 7 else bif m.any (fun r=> !Pl.els q r)then 1 else 0
def Pl.okMM (m:List (List Int)):Prop:=m.length≤1000000000∧ ∀r∈m,r.length≤1000000000
def C89:Con:=⟨[.raw,LL],[I],fun(x:D×List (List Int)×Unit)=>Pl.okF x.1∧Pl.okMM x.2.1,fun(x:D×List (List Int)×Unit)=>(Pl.shape (Pl.qF x.1) x.2.1,()),none⟩
def H89:Hints:=⟨[],[(1,[2])],[(0,⟨[1,2,24,25],[(26,si)]⟩)],[],[]⟩
def T89:Ctx:=TT [(134,C134)]
def Pl.sys (q:Int) (m:List (List Int)) (b:List Int):Int:=
 bif decide (Pl.shape q m≠0)then Pl.shape q m else bif decide (b.length≠m.length)then 7 else bif Pl.els q b then 0 else 1
def C92:Con:=⟨[.raw,LL,L],[I],fun(x:D×List (List Int)×List Int×Unit)=>Pl.okF x.1∧Pl.okMM x.2.1∧x.2.2.1.length≤1000000000,fun(x:D×List (List Int)×List Int×Unit)=>(Pl.sys (Pl.qF x.1) x.2.1 x.2.2.1,()),none⟩
def T92:Ctx:=TT [(89,C89),(93,C93)]

end Fd
end
section
set_option linter.unusedVariables false
set_option linter.unusedSimpArgs false
set_option maxRecDepth 100000
namespace Fd
open Go Fw Go.Proofs

theorem drop_cons {α:Type} {l:List α} {i:Nat} (d:α) (h:i<l.length):l.drop i=l.getD i d::l.drop (i+1):=by
 rw[List.drop_eq_getElem_cons h,List.getD_eq_getElem?_getD,List.getElem?_eq_getElem h];rfl
theorem qF_f (q:Int):Pl.qF (D.rptr (fieldC q))=q:=rfl
theorem qF_d (q:Int):Pl.qF (fieldD q)=q:=rfl
theorem okF_f {q:Int} (hq:isQ q):Pl.okF (D.rptr (fieldC q)):=⟨q,hq,rfl⟩
theorem okF_d {q:Int} (hq:isQ q):Pl.okF (fieldD q):=⟨q,hq,rfl⟩
theorem okA_ar {q:Int} (hq:isQ q):Pl.okA (arD q):=⟨q,hq,rfl⟩
theorem okM_ar {q:Int} (hq:isQ q):Pl.okM (arD q):=⟨q,hq, .inl rfl⟩
theorem okM_f {q:Int} (hq:isQ q):Pl.okM (D.iface 23 (D.rptr (fieldC q))):=⟨q,hq, .inr (.inr (.inr rfl))⟩
theorem qA_f (q:Int):Pl.qA (D.iface 23 (D.rptr (fieldC q)))=q:=rfl
theorem okF_nr {v:D} (h:Pl.okF v):v.nr:=by
 obtain⟨q,hq,rfl⟩:=h
 exact nr_field hq
theorem wrap_mod {q a:Int} (q2:2≤q) (q6:q≤65536):(IntKind.i64.wrap (a.tmod q+q)).tmod q=a%q:=by
 have h1:=Int.tmod_lt_of_pos a (show 0<q by omega)
 have h2:=Int.lt_tmod_of_pos a (show 0<q by omega)
 rw[wrap_i64 (by omega) (by omega),tmod_pos (by omega),Int.add_emod_right]
 rcases ilt a 0 with h|h
 ·have h3:=Int.emod_add_mul_ediv a q
  have h4:=Int.tmod_add_mul_tdiv a q
  have e:a.tmod q=a-q*a.tdiv q:=by omega
  rw[e,Int.sub_mul_emod_self_left]
 ·rw[Int.tmod_eq_emod_of_nonneg h,Int.emod_emod]
theorem vc95: ∀x,C95.pre x→VC (TT []) H0 Try.f95 C95 x:=by
 rintro⟨v,(a:Int),⟨⟩⟩ ⟨q,hq,(rfl:v=_)⟩
 show q≠(0:Int)∧q≠(0:Int)∧((IntKind.i64.wrap (a.tmod q+q)).tmod q,())=C95.post (fieldD q,a,())
 have q2:=hq.1
 have q6:=hq.2.1
 refine⟨by omega,by omega, ?_⟩
 rw[wrap_mod q2 q6];rfl
theorem vc34: ∀x,C34.pre x→VC T30 H0 Try.f34 C34 x:=by
 rintro⟨v,(a:Int),(b:Int),⟨⟩⟩ ⟨q,hq,(rfl:v=_)⟩
 show Pl.okF (D.rptr (fieldC q))∧Pl.okF (D.rptr (fieldC q))∧(Pl.okM (arD q)∧Pl.inQ (Pl.qA (arD q)) (a%Pl.qF (D.rptr (fieldC q)))∧Pl.inQ (Pl.qA (arD q)) (b%Pl.qF (D.rptr (fieldC q))))∧(Pl.mul (Pl.qA (arD q)) (a%Pl.qF (D.rptr (fieldC q))) (b%Pl.qF (D.rptr (fieldC q))),())=C34.post (fieldD q,a,b,())
 rw[qF_f,qA_ar hq]
 exact⟨okF_f hq,okF_f hq,⟨okM_ar hq,emod_inQ hq a,emod_inQ hq b⟩,rfl⟩
theorem vc42: ∀x,C42.pre x→VC (TT []) H0 Try.f42 C42 x:=by
 rintro⟨v,⟨⟩⟩ ⟨q,hq,(rfl:v=_)⟩
 show(Pl.gen q,())=C42.post (fieldD q,())
 rfl
theorem vc80: ∀x,C80.pre x→VC (TT [(123,C123)]) H0 Try.f80 C80 x:=by
 rintro⟨v,⟨⟩⟩ ⟨q,hq,(rfl:v=_)⟩
 show(Pl.md q).length≤(1000000000:Nat)∧(Pl.md q,())=C80.post (fieldD q,())
 refine⟨?_,rfl⟩
 have:=(md_spec hq).1
 have:=isQ.K64 hq
 omega
theorem conj_len (q:Int): ∀(n:Nat) (a:Int),(Pl.conj q n a).length=n
 |0,_=>rfl
 |n+1,a=>by rw[Pl.conj,List.length_cons,conj_len]
theorem conj_in {q:Int} (hq:isQ q): ∀(n:Nat) (a:Int),Pl.inQ q a→ ∀x∈Pl.conj q n a,Pl.inQ q x
 |0,_,_,x,hx=>by cases hx
 |n+1,a,ha,x,hx=>by
  rw[Pl.conj]at hx
  rcases List.mem_cons.1 hx with rfl|hx
  ·exact ha
  ·exact conj_in hq n _ (pow_inQ hq _ _) x hx
theorem vc104: ∀x,C104.pre x→VC T104 H104 Try.f104 C104 x:=by
 rintro⟨v,(a:Int),⟨⟩⟩ ⟨⟨q,hq,(rfl:v=_)⟩,(ha:Pl.inQ (Pl.qF (fieldD q)) a)⟩
 rw[qF_d]at ha
 show∃(n:Nat),itl (fun(G:Int×List Int×Int×PUnit→Prop) (x:Int×List Int×Int×PUnit)=>Br (decide (x.snd.snd.fst<Pl.K q)) (((↑(List.length x.snd.fst):Int)+(↑[x.fst].length:Int))*(8:Int)≤(140737488355328:Int)∧(Pl.okM (D.iface (23:Nat) (D.rptr (fieldC q)))∧Pl.inQ (Pl.qA (D.iface (23:Nat) (D.rptr (fieldC q)))) x.fst∧(0:Int)≤Pl.lpf q∧Pl.lpf q≤(4611686018427387904:Int))∧G (Pl.pow (Pl.qA (D.iface (23:Nat) (D.rptr (fieldC q)))) x.fst (Pl.lpf q),List.append x.snd.fst [x.fst],IntKind.i64.wrap (x.snd.snd.fst+(1:Int)),())) ((x.snd.1,())=C104.post (fieldD q,a,()))) n (a,[],(0:Int),())
 rw[qA_f]
 have hp:C104.post (fieldD q,a,())=(Pl.cjs q a,()):=rfl
 rw[hp]
 have hK:=isQ.K64 hq
 have hK1:=hq.2.2
 have hl2:=hq.prime.1
 have hl6:=(lpf_spec hq.1 hq.2.1).2.1
 have hq6:=hq.2.1
 refine itl_rule (fun s=> ∃i:Nat,s.2.2.1=(i:Int)∧i≤(Pl.K q).toNat∧Pl.inQ q s.1∧s.2.1.length=i∧s.2.1++Pl.conj q ((Pl.K q).toNat-i) s.1=Pl.cjs q a) (fun s=>(Pl.K q-s.2.2.1).toNat) ⟨0,rfl,Nat.zero_le _,ha,rfl,rfl⟩ ?_
 rintro⟨z,out,i0,⟨⟩⟩ G ⟨i,e,hi,hz,ho,hc⟩ hG
 simp only at e hz ho hc hG⊢
 subst e
 refine Br_of (fun h=> ?_) (fun h=> ?_)
 ·have h:(i:Int)<Pl.K q:=of_decide_eq_true h
  rw[wrap_i64 (by omega) (by omega)]
  refine⟨by simp only[List.length_singleton];omega,⟨okM_f hq,hz,by omega,by omega⟩,hG _ ⟨i+1,rfl,by omega,pow_inQ hq _ _, ?_, ?_⟩ (by simp only;omega)⟩
  ·show(out++[z]).length=i+1
   rw[List.length_append,ho];rfl
  ·show(out++[z])++Pl.conj q ((Pl.K q).toNat-(i+1)) (Pl.pow q z (Pl.lpf q))=_
   rw[←hc,List.append_assoc,show(Pl.K q).toNat-i=((Pl.K q).toNat-(i+1))+1 by omega];rfl
 ·have h: ¬(i:Int)<Pl.K q:=of_decide_eq_false h
  rw[show(Pl.K q).toNat-i=0 by omega]at hc
  rw[←hc]
  show(out,())=(out++[],())
  rw[List.append_nil]
theorem cjs_len {q:Int} (hq:isQ q) (a:Int):(Pl.cjs q a).length<17:=by
 unfold Pl.cjs;rw[conj_len];exact isQ.K64 hq
theorem cjs_in {q:Int} (hq:isQ q) {a:Int} (ha:Pl.inQ q a): ∀x∈Pl.cjs q a,Pl.inQ q x:=conj_in hq _ a ha
theorem rd_i (l:List Int) (i:Nat):rd i64 l (i:Int)=l.getD i 0:=rfl
theorem vc55: ∀x,C55.pre x→VC T55 H55 Try.f55 C55 x:=by
 rintro⟨v,(a:Int),⟨⟩⟩ ⟨q,hq,(rfl:v=_)⟩
 show Pl.okF (D.rptr (fieldC q))∧(Pl.okF (D.rptr (fieldC q))∧Pl.inQ (Pl.qF (D.rptr (fieldC q))) (a%Pl.qF (D.rptr (fieldC q))))∧ ∃(n:Nat),itl (fun(G:Int×Int×PUnit→Prop) (x:Int×Int×PUnit)=>Br (decide (x.snd.fst<(↑(Pl.cjs (Pl.qF (D.rptr (fieldC q))) (a%Pl.qF (D.rptr (fieldC q)))).length:Int))) ((0:Int)≤x.snd.fst∧x.snd.fst<(↑(Pl.cjs (Pl.qF (D.rptr (fieldC q))) (a%Pl.qF (D.rptr (fieldC q)))).length:Int)∧(Pl.okA (arD q)∧Pl.inQ (Pl.qA (arD q)) x.fst∧Pl.inQ (Pl.qA (arD q)) (rd i64 (Pl.cjs (Pl.qF (D.rptr (fieldC q))) (a%Pl.qF (D.rptr (fieldC q)))) x.snd.fst))∧G (Pl.add (Pl.qA (arD q)) x.fst (rd i64 (Pl.cjs (Pl.qF (D.rptr (fieldC q))) (a%Pl.qF (D.rptr (fieldC q)))) x.snd.fst),IntKind.i64.wrap (x.snd.fst+(1:Int)),())) ((x.fst,())=C55.post (fieldD q,a,()))) n ((0:Int),(0:Int),())
 rw[qF_f,qA_ar hq]
 have hp:C55.post (fieldD q,a,())=((Pl.cjs q (a%q)).foldl (Pl.add q) 0,()):=rfl
 rw[hp]
 have hl:=cjs_len hq (a%q)
 have hin:=cjs_in hq (emod_inQ hq a)
 generalize Pl.cjs q (a%q)=l at*
 refine⟨okF_f hq,⟨okF_f hq,emod_inQ hq a⟩,itl_rule (fun s=> ∃i:Nat,s.2.1=(i:Int)∧i≤l.length∧Pl.inQ q s.1∧(l.drop i).foldl (Pl.add q) s.1=l.foldl (Pl.add q) 0) (fun s=>((l.length:Int)-s.2.1).toNat) ⟨0,rfl,Nat.zero_le _,zero_inQ hq,rfl⟩ ?_⟩
 rintro⟨s,i0,⟨⟩⟩ G ⟨i,e,hi,hs,hf⟩ hG
 simp only at e hs hf hG⊢
 subst e
 refine Br_of (fun h=> ?_) (fun h=> ?_)
 ·have h:i<l.length:=by have:=of_decide_eq_true h;omega
  rw[rd_i,wrap_i64 (by omega) (by omega)]
  rw[drop_cons 0 h,List.foldl_cons]at hf
  exact⟨by omega,by omega,⟨okA_ar hq,hs,getD_inQ hin h⟩,hG _ ⟨i+1,rfl,by omega,add_inQ hq _ _,hf⟩ (by simp only;omega)⟩
 ·have h:i=l.length:=by have:=of_decide_eq_false h;omega
  subst h
  rw[List.drop_length]at hf
  rw[←hf];rfl
theorem vc94: ∀x,C94.pre x→VC (TF []) H94 Try.f94 C94 x:=by
 rintro⟨v,(a:List Int),(b:List Int),⟨⟩⟩ ⟨⟨q,hq,(rfl:v=_)⟩,(ha:Pl.inAll (Pl.qF (fieldD q)) a),(hb:Pl.inAll (Pl.qF (fieldD q)) b),(hl:a.length≤b.length)⟩
 rw[qF_d]at ha hb
 show∃(n:Nat),itl (fun(G:Int×Int×PUnit→Prop) (x:Int×Int×PUnit)=>Br (decide (x.snd.fst<(↑a.length:Int))) ((0:Int)≤x.snd.fst∧x.snd.fst<(↑a.length:Int)∧(0:Int)≤x.snd.fst∧x.snd.fst<(↑b.length:Int)∧(Pl.okM (arD q)∧Pl.inQ (Pl.qA (arD q)) (rd i64 a x.snd.fst)∧Pl.inQ (Pl.qA (arD q)) (rd i64 b x.snd.fst))∧(Pl.okA (arD q)∧Pl.inQ (Pl.qA (arD q)) x.fst∧Pl.inQ (Pl.qA (arD q)) (Pl.mul (Pl.qA (arD q)) (rd i64 a x.snd.fst) (rd i64 b x.snd.fst)))∧G (Pl.add (Pl.qA (arD q)) x.fst (Pl.mul (Pl.qA (arD q)) (rd i64 a x.snd.fst) (rd i64 b x.snd.fst)),IntKind.i64.wrap (x.snd.fst+(1:Int)),())) ((x.fst,())=C94.post (fieldD q,a,b,()))) n ((0:Int),(0:Int),())
 rw[qA_ar hq]
 have hp:C94.post (fieldD q,a,b,())=(Pl.dotL q 0 a b,()):=rfl
 rw[hp]
 obtain⟨ha,hal⟩:=ha
 obtain⟨hb,hbl⟩:=hb
 refine itl_rule (fun s=> ∃i:Nat,s.2.1=(i:Int)∧i≤a.length∧Pl.inQ q s.1∧Pl.dotL q s.1 (a.drop i) (b.drop i)=Pl.dotL q 0 a b) (fun s=>((a.length:Int)-s.2.1).toNat) ⟨0,rfl,Nat.zero_le _,zero_inQ hq,rfl⟩ ?_
 rintro⟨s,i0,⟨⟩⟩ G ⟨i,e,hi,hs,hf⟩ hG
 simp only at e hs hf hG⊢
 subst e
 refine Br_of (fun h=> ?_) (fun h=> ?_)
 ·have h:i<a.length:=by have:=of_decide_eq_true h;omega
  rw[rd_i,rd_i,wrap_i64 (by omega) (by omega)]
  rw[drop_cons 0 h,drop_cons 0 (show i<b.length by omega),Pl.dotL]at hf
  exact⟨by omega,by omega,by omega,by omega,⟨okM_ar hq,getD_inQ ha h,getD_inQ hb (by omega)⟩,⟨okA_ar hq,hs,mul_inQ hq _ _⟩,hG _ ⟨i+1,rfl,by omega,add_inQ hq _ _,hf⟩ (by simp only;omega)⟩
 ·have h:i=a.length:=by have:=of_decide_eq_false h;omega
  subst h
  rw[List.drop_length]at hf
  rw[←hf];rfl
theorem nr_out {q:Int} (hq:isQ q):(D.clo 140 [D.rptr [D.rptr (fieldC q)]]).nr:=⟨⟨nr_field hq,trivial⟩,trivial⟩
theorem vc93: ∀x,C93.pre x→VC T93 Hz2 Try.f93 C93 x:=by
 rintro⟨v,(l:List Int),⟨⟩⟩ ⟨⟨q,hq,(rfl:v=_)⟩,(hl:l.length≤1000000000)⟩
 show Pl.okTl l (D.clo (140:Nat) [D.rptr [D.rptr (fieldC q)]])∧
   (!l.any (Pl.tells (D.clo (140:Nat) [D.rptr [D.rptr (fieldC q)]])),())=C93.post (fieldD q,l,())
 refine⟨⟨hl,nr_out hq, .inr (.inr ⟨fieldC q,rfl,q,_,_,rfl,nr_ar hq,trivial,trivial,rfl,trivial,trivial⟩)⟩, ?_⟩
 show _=(Pl.els q l,())
 congr 1
 unfold Pl.els
 rw[List.not_any_eq_all_not]
 congr 1
 funext a
 show(!(decide (a<0)||decide (a≥q)))=_
 by_cases h1:0≤a<;>by_cases h2:a<q
 ·rw[decide_eq_false (show¬a<0 by omega),decide_eq_false (show¬a≥q by omega),decide_eq_true h1,decide_eq_true h2];rfl
 ·rw[decide_eq_true (show a≥q by omega),decide_eq_false h2];simp
 ·rw[decide_eq_true (show a<0 by omega),decide_eq_false h1];rfl
 ·rw[decide_eq_true (show a<0 by omega),decide_eq_false h1];rfl
theorem vc135: ∀x,C135.pre x→VC T135 H0 Try.f135 C135 x:=by
 rintro⟨(l:List Int),v,⟨⟩⟩ ⟨⟨f,⟨q,hq,(rfl:f=_)⟩,(rfl:v=_)⟩,(hl:l.length≤1000000000)⟩
 show(Pl.okF (fieldD q)∧l.length≤(1000000000:Nat))∧
   (!Pl.els (Pl.qF (fieldD q)) l,())=C135.post (l,D.rptr [fieldD q],())
 exact⟨⟨okF_d hq,hl⟩,rfl⟩
theorem rd_r (m:List (List Int)) (i:Nat):rd i64.slc m (i:Int)=m.getD i []:=rfl
theorem rd_r0 (m:List (List Int)):rd i64.slc m (0:Int)=m.getD 0 []:=rfl
theorem rowD_mem {m:List (List Int)} {i:Nat} (h:i<m.length):m.getD i []∈m:=by
 rw[List.getD_eq_getElem?_getD,List.getElem?_eq_getElem h];exact List.getElem_mem h
theorem idxR_le (p:List Int→Bool): ∀(m:List (List Int)) (k:Int),0≤k→(Pl.idxR p m k= -1∧m.any p=false)∨(0≤Pl.idxR p m k∧m.any p=true)
 |[],k,hk=> .inl ⟨rfl,rfl⟩
 |x::m,k,hk=>by
  rw[Pl.idxR,List.any_cons]
  cases hp:p x with
  |true=>exact .inr ⟨hk,rfl⟩
  |false=>exact idxR_le p m (k+1) (by omega)
theorem vc160: ∀x,C160.pre x→VC T160 H160 Try.f160 C160 x:=by
 rintro⟨(m:List (List Int)),v,⟨⟩⟩ ⟨⟨f,⟨q,hq,(rfl:f=_)⟩,(rfl:v=_)⟩,(hl:m.length≤1000000000),(hr: ∀r∈m,r.length≤1000000000)⟩
 show∃(n:Nat),itl (fun(G:Int×PUnit→Prop) (x:Int×PUnit)=>Br (decide (x.fst<(↑m.length:Int))) ((0:Int)≤x.fst∧x.fst<(↑m.length:Int)∧((∃(f:D),Pl.okF f∧D.clo (135:FuncId) [D.rptr [fieldD q]]=badC f)∧List.length (rd i64.slc m x.fst)≤(1000000000:Nat))∧Br (Pl.bad (D.clo (135:FuncId) [D.rptr [fieldD q]]) (rd i64.slc m x.fst)) (x=C160.post (m,badC (fieldD q),())) (G (IntKind.i64.wrap (x.fst+(1:Int)),()))) (((-1:Int),())=C160.post (m,badC (fieldD q),()))) n ((0:Int),())
 have hp:C160.post (m,badC (fieldD q),())=(Pl.idxR (Pl.bad (badC (fieldD q))) m 0,()):=rfl
 rw[hp]
 have hb:D.clo (135:FuncId) [D.rptr [fieldD q]]=badC (fieldD q):=rfl
 rw[hb]
 refine itl_rule (fun s=> ∃i:Nat,s.1=(i:Int)∧i≤m.length∧Pl.idxR (Pl.bad (badC (fieldD q))) (m.drop i) (i:Int)=Pl.idxR (Pl.bad (badC (fieldD q))) m 0) (fun s=>((m.length:Int)-s.1).toNat) ⟨0,rfl,Nat.zero_le _,rfl⟩ ?_
 rintro⟨i0,⟨⟩⟩ G ⟨i,e,hi,hf⟩ hG
 simp only at e hf hG⊢
 subst e
 refine Br_of (fun h=> ?_) (fun h=> ?_)
 ·have h:i<m.length:=by have:=of_decide_eq_true h;omega
  rw[rd_r,wrap_i64 (by omega) (by omega)]
  rw[drop_cons [] h,Pl.idxR]at hf
  refine⟨by omega,by omega,⟨⟨_,okF_d hq,rfl⟩,hr _ (rowD_mem h)⟩,Br_of (fun h1=> ?_) (fun h1=> ?_)⟩
  ·rw[h1,cond_true]at hf
   rw[←hf]
  ·rw[h1,cond_false]at hf
   exact hG _ ⟨i+1,rfl,by omega,hf⟩ (by simp only;omega)
 ·have h:i=m.length:=by have:=of_decide_eq_false h;omega
  subst h
  rw[List.drop_length]at hf
  rw[←hf];rfl
theorem vc134: ∀x,C134.pre x→VC T134 H0 Try.f134 C134 x:=by
 rintro⟨(m:List (List Int)),v,⟨⟩⟩ (h0:Pl.okBd m v)
 have h1:=h0
 obtain⟨⟨f,⟨q,hq,(rfl:f=_)⟩,(rfl:v=_)⟩,_,_⟩:=h1
 show Pl.okBd m (D.clo (135:FuncId) [D.rptr [fieldD q]])∧
   (decide (Pl.idxR (Pl.bad (D.clo (135:FuncId) [D.rptr [fieldD q]])) m (0:Int)≥(0:Int)),())=
    C134.post (m,badC (fieldD q),())
 refine⟨h0, ?_⟩
 show _=(m.any (Pl.bad (badC (fieldD q))),())
 have hb:D.clo (135:FuncId) [D.rptr [fieldD q]]=badC (fieldD q):=rfl
 rw[hb]
 rcases idxR_le (Pl.bad (badC (fieldD q))) m 0 (Int.le_refl _)with⟨h1,h2⟩|⟨h1,h2⟩
 ·rw[h1,h2];rfl
 ·rw[h2,decide_eq_true h1]
theorem vc89: ∀x,C89.pre x→VC T89 H89 Try.f89 C89 x:=by
 rintro⟨v,(m:List (List Int)),⟨⟩⟩ ⟨⟨q,hq,(rfl:v=_)⟩,(hl:m.length≤1000000000),(hr: ∀r∈m,r.length≤1000000000)⟩
 show Br (decide ((↑m.length:Int)>(64:Int))) (((2:Int),())=C89.post (fieldD q,m,())) (Br (decide ((↑m.length:Int)>(0:Int))) ((0:Int)≤(0:Int)∧(0:Int)<(↑m.length:Int)∧Br (decide ((↑(List.length (rd i64.slc m (0:Int))):Int)>(64:Int))) (((2:Int),())=C89.post (fieldD q,m,())) (∃(n:Nat),itl (fun(G:Int×PUnit→Prop) (x:Int×PUnit)=>Br (decide (x.fst<(↑m.length:Int))) ((0:Int)≤x.fst∧x.fst<(↑m.length:Int)∧(0:Int)≤(0:Int)∧(0:Int)<(↑m.length:Int)∧Br ((↑(List.length (rd i64.slc m x.fst)):Int) !=(↑(List.length (rd i64.slc m (0:Int))):Int)) (((7:Int),())=C89.post (fieldD q,m,())) (G (IntKind.i64.wrap (x.fst+(1:Int)),()))) (Pl.okBd m (D.clo (135:Nat) [D.rptr [D.rptr (fieldC q)]])∧Br (m.any (Pl.bad (D.clo (135:Nat) [D.rptr [D.rptr (fieldC q)]]))) (((1:Int),())=C89.post (fieldD q,m,())) (((0:Int),())=C89.post (fieldD q,m,())))) n ((0:Int),()))) (∃(n:Nat),itl (fun(G:Int×PUnit→Prop) (x:Int×PUnit)=>Br (decide (x.fst<(↑m.length:Int))) ((0:Int)≤x.fst∧x.fst<(↑m.length:Int)∧(0:Int)≤(0:Int)∧(0:Int)<(↑m.length:Int)∧Br ((↑(List.length (rd i64.slc m x.fst)):Int) !=(↑(List.length (rd i64.slc m (0:Int))):Int)) (((7:Int),())=C89.post (fieldD q,m,())) (G (IntKind.i64.wrap (x.fst+(1:Int)),()))) (Pl.okBd m (D.clo (135:Nat) [D.rptr [D.rptr (fieldC q)]])∧Br (m.any (Pl.bad (D.clo (135:Nat) [D.rptr [D.rptr (fieldC q)]]))) (((1:Int),())=C89.post (fieldD q,m,())) (((0:Int),())=C89.post (fieldD q,m,())))) n ((0:Int),())))
 have hp:C89.post (fieldD q,m,())=(Pl.shape q m,()):=rfl
 rw[hp,rd_r0]
 have hb:D.clo (135:Nat) [D.rptr [D.rptr (fieldC q)]]=badC (fieldD q):=rfl
 rw[hb]
 have hbad:Pl.bad (badC (fieldD q))=fun r=> !Pl.els q r:=rfl
 rw[hbad]
 refine Br_of (fun h=> ?_) (fun h=> ?_)
 ·unfold Pl.shape
  have h:m.length>64:=by have:=of_decide_eq_true h;omega
  rw[decide_eq_true h];rfl
 have h: ¬m.length>64:=by have:=of_decide_eq_false h;omega
 have rest: ¬(m.length>0∧Pl.wide m>64)→ ∃n,itl (fun(G:Int×Unit→Prop) (x:Int×Unit)=>Br (decide (x.1<(m.length:Int))) ((0:Int)≤x.1∧x.1<(m.length:Int)∧(0:Int)≤(0:Int)∧(0:Int)<(m.length:Int)∧Br (((rd i64.slc m x.1).length:Int) !=((m.getD 0 []).length:Int)) (((7:Int),())=(Pl.shape q m,())) (G (IntKind.i64.wrap (x.1+(1:Int)),())))
   (Pl.okBd m (badC (fieldD q))∧Br (m.any fun r=> !Pl.els q r) (((1:Int),())=(Pl.shape q m,())) (((0:Int),())=(Pl.shape q m,())))) n ((0:Int),()):=fun hw=>by
  refine itl_rule (fun s=> ∃i:Nat,s.1=(i:Int)∧i≤m.length∧(m.drop i).any (fun r=>decide (r.length≠Pl.wide m))=m.any (fun r=>decide (r.length≠Pl.wide m))) (fun s=>((m.length:Int)-s.1).toNat) ⟨0,rfl,Nat.zero_le _,rfl⟩ ?_
  have hs:Pl.shape q m=bif m.any (fun r=>decide (r.length≠Pl.wide m))then 7 else bif m.any (fun r=> !Pl.els q r)then 1 else 0:=by
   unfold Pl.shape
   have e:(decide (m.length>64)||(decide (m.length>0)&&decide (Pl.wide m>64)))=false:=by
    rw[decide_eq_false h]
    by_cases c1:m.length>0
    ·rw[decide_eq_false (fun c2=>hw ⟨c1,c2⟩)];simp
    ·rw[decide_eq_false c1];rfl
   rw[e];rfl
  rintro⟨i0,⟨⟩⟩ G ⟨i,e,hi,hf⟩ hG
  simp only at e hf hG⊢
  subst e
  refine Br_of (fun h=> ?_) (fun h=> ?_)
  ·have h:i<m.length:=by have:=of_decide_eq_true h;omega
   rw[rd_r,wrap_i64 (by omega) (by omega)]
   rw[drop_cons [] h,List.any_cons]at hf
   refine⟨by omega,by omega,by omega,by omega,Br_of (fun h1=> ?_) (fun h1=> ?_)⟩
   ·have h1:(m.getD i []).length≠Pl.wide m:=by
     have:((m.getD i []).length:Int)≠((m.getD 0 []).length:Int):=by simpa using h1
     unfold Pl.wide;omega
    rw[decide_eq_true h1,Bool.true_or]at hf
    rw[hs, ←hf];rfl
   ·have h1:(m.getD i []).length=Pl.wide m:=by
     have:((m.getD i []).length:Int)=((m.getD 0 []).length:Int):=by simpa using h1
     unfold Pl.wide;omega
    rw[decide_eq_false (not_not_intro h1),Bool.false_or]at hf
    exact hG _ ⟨i+1,rfl,by omega,hf⟩ (by simp only;omega)
  ·have h:i=m.length:=by have:=of_decide_eq_false h;omega
   subst h
   rw[List.drop_length]at hf
   rw[hs, ←hf]
   exact⟨⟨⟨_,okF_d hq,rfl⟩,hl,hr⟩,Br_of (fun h=>by rw[h];rfl) (fun h=>by rw[h];rfl)⟩
 refine Br_of (fun h2=> ?_) (fun h2=> ?_)
 ·have h2:m.length>0:=by have:=of_decide_eq_true h2;omega
  refine⟨by omega,by omega,Br_of (fun h3=> ?_) (fun h3=> ?_)⟩
  ·have h3:Pl.wide m>64:=by have:=of_decide_eq_true h3;unfold Pl.wide;omega
   unfold Pl.shape
   rw[decide_eq_true h2,decide_eq_true h3,decide_eq_false h];rfl
  ·have h3: ¬Pl.wide m>64:=by have:=of_decide_eq_false h3;unfold Pl.wide;omega
   exact rest (fun hh=>h3 hh.2)
 ·have h2: ¬m.length>0:=by have:=of_decide_eq_false h2;omega
  exact rest (fun hh=>h2 hh.1)
theorem vc92 : ∀ x, C92.pre x → VC T92 H0 Try.f92 C92 x := by
  rintro ⟨v, (m : List (List Int)), (b : List Int), ⟨⟩⟩ ⟨⟨q, hq, (rfl : v = _)⟩, (hm : Pl.okMM m), (hb : b.length ≤ 1000000000)⟩
  show (Pl.okF (D.rptr (fieldC q)) ∧ Pl.okMM m) ∧ Br (Pl.shape (Pl.qF (D.rptr (fieldC q))) m != (0 : Int)) ((Pl.shape (Pl.qF (D.rptr (fieldC q))) m, ()) = C92.post (fieldD q, m, b, ())) (Br ((↑b.length : Int) != (↑m.length : Int)) (((7 : Int), ()) = C92.post (fieldD q, m, b, ())) ((Pl.okF (D.rptr (fieldC q)) ∧ b.length ≤ (1000000000 : Nat)) ∧ Br (!Pl.els (Pl.qF (D.rptr (fieldC q))) b) (((1 : Int), ()) = C92.post (fieldD q, m, b, ())) (((0 : Int), ()) = C92.post (fieldD q, m, b, ()))))
  have hp : C92.post (fieldD q, m, b, ()) = (Pl.sys q m b, ()) := rfl
  rw [hp, qF_f]
  unfold Pl.sys
  refine ⟨⟨okF_f hq, hm⟩, Br_of (fun h => ?_) (fun h => ?_)⟩
  · have h : Pl.shape q m ≠ 0 := by simpa using h
    rw [decide_eq_true h]; rfl
  · have h : Pl.shape q m = 0 := by simpa using h
    rw [decide_eq_false (not_not_intro h), cond_false]
    refine Br_of (fun h1 => ?_) (fun h1 => ?_)
    · have h1 : b.length ≠ m.length := by have : (b.length : Int) ≠ m.length := by simpa using h1
                                          omega
      rw [decide_eq_true h1]; rfl
    · have h1 : b.length = m.length := by have : (b.length : Int) = m.length := by simpa using h1
                                          omega
      rw [decide_eq_false (not_not_intro h1), cond_false]
      refine ⟨⟨okF_f hq, hb⟩, Br_of (fun h2 => ?_) (fun h2 => ?_)⟩
      · have h2 : Pl.els q b = false := by simpa using h2
        rw [h2]; rfl
      · have h2 : Pl.els q b = true := by simpa using h2
        rw [h2]; rfl

theorem nrc95:NRC C95:=⟨fun x hx=>⟨okF_nr hx,trivial,trivial⟩,fun x hx=>⟨trivial,trivial⟩⟩
theorem nrcF {f:Int→Int→Int→Int}:NRC (Cf2 f):=⟨fun x hx=>⟨okF_nr hx,trivial,trivial,trivial⟩,fun x hx=>⟨trivial,trivial⟩⟩
theorem nrc42:NRC C42:=⟨fun x hx=>⟨okF_nr hx,trivial⟩,fun x hx=>⟨trivial,trivial⟩⟩
theorem nrc80:NRC C80:=⟨fun x hx=>⟨okF_nr hx,trivial⟩,fun x hx=>⟨rfl,trivial⟩⟩
theorem nrc104:NRC C104:=⟨fun x hx=>⟨okF_nr hx.1,trivial,trivial⟩,fun x hx=>⟨rfl,trivial⟩⟩
theorem nrc55:NRC C55:=⟨fun x hx=>⟨okF_nr hx,trivial,trivial⟩,fun x hx=>⟨trivial,trivial⟩⟩
theorem nrc94:NRC C94:=⟨fun x hx=>⟨okF_nr hx.1,rfl,rfl,trivial⟩,fun x hx=>⟨trivial,trivial⟩⟩
theorem nrc93:NRC C93:=⟨fun x hx=>⟨okF_nr hx.1,rfl,trivial⟩,fun x hx=>⟨trivial,trivial⟩⟩
theorem nrc135:NRC C135:=by
 refine⟨?_,fun x hx=>⟨trivial,trivial⟩⟩
 rintro⟨l,v,⟨⟩⟩ ⟨⟨f,hf,(rfl:v=_)⟩,_⟩
 exact⟨rfl,⟨okF_nr hf,trivial⟩,trivial⟩
theorem nr_bad {f:D} (hf:Pl.okF f):(badC f).nr:=⟨⟨okF_nr hf,trivial⟩,trivial⟩
theorem nrc160:NRC C160:=by
 refine⟨?_,fun x hx=>⟨trivial,trivial⟩⟩
 rintro⟨l,v,⟨⟩⟩ ⟨⟨f,hf,(rfl:v=_)⟩,_⟩
 exact⟨rfl,nr_bad hf,trivial⟩
theorem nrc134:NRC C134:=by
 refine⟨?_,fun x hx=>⟨trivial,trivial⟩⟩
 rintro⟨l,v,⟨⟩⟩ ⟨⟨f,hf,(rfl:v=_)⟩,_⟩
 exact⟨rfl,nr_bad hf,trivial⟩
theorem nrc89:NRC C89:=⟨fun x hx=>⟨okF_nr hx.1,rfl,trivial⟩,fun x hx=>⟨trivial,trivial⟩⟩
theorem nrc92:NRC C92:=⟨fun x hx=>⟨okF_nr hx.1,rfl,rfl,trivial⟩,fun x hx=>⟨trivial,trivial⟩⟩
theorem tokF {fs:List (Nat×Con)} (h:AllS Try.prog fs):Tok Try.prog (TF fs):=tokg (T:=TF fs) h trivial trivial invsV noCv
theorem snd95:Sound Try.prog 95 C95:=fn_sound (T:=TT []) (fn:=Try.f95) (tok0 trivial) Try.func95 (by kernel_rfl) H0 vc95 (by kernel_rfl) (hC:=nrc95)
theorem snd34:Sound Try.prog 34 C34:=fn_sound (T:=T30) (fn:=Try.f34) (tokF ⟨snd95,trivial⟩) Try.func34 (by kernel_rfl) H0 vc34 (by kernel_rfl) (hC:=nrcF)
theorem snd42:Sound Try.prog 42 C42:=fn_sound (T:=TT []) (fn:=Try.f42) (tok0 trivial) Try.func42 (by kernel_rfl) H0 vc42 (by kernel_rfl) (hC:=nrc42)
theorem snd80:Sound Try.prog 80 C80:=fn_sound (T:=TT [(123,C123)]) (fn:=Try.f80) (tok0 ⟨snd123,trivial⟩) Try.func80 (by kernel_rfl) H0 vc80 (by kernel_rfl) (hC:=nrc80)
theorem snd104:Sound Try.prog 104 C104:=fn_sound (T:=T104) (fn:=Try.f104) (tok0 ⟨snd100,trivial⟩) Try.func104 (by kernel_rfl) H104 vc104 (by kernel_rfl) (hC:=nrc104)
theorem snd55:Sound Try.prog 55 C55:=fn_sound (T:=T55) (fn:=Try.f55) (tokF ⟨snd95,snd104,trivial⟩) Try.func55 (by kernel_rfl) H55 vc55 (by kernel_rfl) (hC:=nrc55)
theorem snd94:Sound Try.prog 94 C94:=fn_sound (T:=TF []) (fn:=Try.f94) (tokF trivial) Try.func94 (by kernel_rfl) H94 vc94 (by kernel_rfl) (hC:=nrc94)
theorem snd93:Sound Try.prog 93 C93:=fn_sound (T:=T93) (fn:=Try.f93) (tok0 ⟨snd139,trivial⟩) Try.func93 (by kernel_rfl) Hz2 vc93 (by kernel_rfl) (hC:=nrc93)
theorem snd135:Sound Try.prog 135 C135:=fn_sound (T:=T135) (fn:=Try.f135) (tok0 ⟨snd93,trivial⟩) Try.func135 (by kernel_rfl) H0 vc135 (by kernel_rfl) (hC:=nrc135)
theorem sndVbad:SoundCv Try.prog Vbad:=cv_of fun x hx=>by
 obtain⟨v,(l:List Int),⟨⟩⟩:=x
 obtain⟨⟨f,hf,(hv:v=badC f)⟩,hl⟩:=hx
 subst hv
 exact⟨135,[.rptr [f]],[.slc false i64 l],C135,(l, .rptr [f],()),snd135, .inl ⟨rfl,rfl⟩,⟨⟨f,hf,rfl⟩,hl⟩,rfl,rfl⟩
theorem snd160:Sound Try.prog 160 C160:=fn_sound (T:=T160) (fn:=Try.f160) (tokg (T:=T160) trivial trivial trivial noInv (fun C h=>by injection h with h;subst h;exact sndVbad)) Try.func160 (by kernel_rfl) H160 vc160 (by kernel_rfl) (hC:=nrc160)
theorem snd134:Sound Try.prog 134 C134:=fn_sound (T:=T134) (fn:=Try.f134) (tok0 ⟨snd160,trivial⟩) Try.func134 (by kernel_rfl) H0 vc134 (by kernel_rfl) (hC:=nrc134)
theorem snd89:Sound Try.prog 89 C89:=fn_sound (T:=T89) (fn:=Try.f89) (tok0 ⟨snd134,trivial⟩) Try.func89 (by kernel_rfl) H89 vc89 (by kernel_rfl) (hC:=nrc89)
theorem snd92:Sound Try.prog 92 C92:=fn_sound (T:=T92) (fn:=Try.f92) (tok0 ⟨snd89,snd93,trivial⟩) Try.func92 (by kernel_rfl) H0 vc92 (by kernel_rfl) (hC:=nrc92)
end Fd
end
section
set_option linter.unusedVariables false
set_option linter.unusedSimpArgs false
set_option maxRecDepth 100000
namespace Fd
open Go Fw Go.Proofs

def Pl.recS (q:Int) (m:List (List Int)):XO×List Int:=Pl.ech q (2*m.length-1) (2*m.length) (Pl.recX m m.length,Pl.recO m.length)
def Pl.rowsO (xo:XO) (r:Nat):List (List Int):=(mrow xo.2 r).map (mrow xo.1)
def Pl.echR (q:Int) (m:List (List Int)):List (List Int):=Pl.rowsO (Pl.recS q m).1 (2*m.length-1)
def Pl.echD (q:Int) (m:List (List Int)):List (List Int):=Pl.rowsO (Pl.recS q m).1 (2*m.length)
def Pl.echC (q:Int) (m:List (List Int)):List Int:=(Pl.recS q m).2
def ars4:List (Nat×Fw.Obj):=[(0, .aren 3 i64 []),(1, .abox 107 []),(2, .aren 30 (.ref 0) []),(4, .aren 3 i64 [])]
def Pl.denL (q:Int) (b:List Int):List (List Int)→Option (List Int)
 |[]=>none
 |w::l=>bif decide (Pl.dot q w b≠0)then some w else Pl.denL q b l
def Pl.den (q:Int) (m:List (List Int)) (b:List Int):Option (List Int):=Pl.denL q b ((Pl.echD q m).drop (Pl.echC q m).length)
def Pl.solL (q:Int) (b:List Int):List Int→List (List Int)→List Int→List Int
 |c::cs,r::rs,x=>Pl.solL q b cs rs (x.set c.toNat (Pl.dot q r b))
 |_,_,x=>x
def Pl.sol (q:Int) (m:List (List Int)) (b:List Int):List Int:=Pl.solL q b (Pl.echC q m) (Pl.echD q m) (List.replicate (Pl.wide m) 0)
def Pl.okSy (x:D×List (List Int)×List Int×Unit):Prop:=Pl.okF x.1∧Pl.okMM x.2.1∧x.2.2.1.length≤1000000000
def C101s:Con:=⟨[.raw,LL,L],[L, .raw],fun(x:D×List (List Int)×List Int×Unit)=>Pl.okSy x∧Pl.sys (Pl.qF x.1) x.2.1 x.2.2.1=0∧Pl.den (Pl.qF x.1) x.2.1 x.2.2.1=none,fun(x:D×List (List Int)×List Int×Unit)=>(Pl.sol (Pl.qF x.1) x.2.1 x.2.2.1, .val (.slice none 0 0),()),none⟩
def Pl.denW (q:Int) (m:List (List Int)) (b:List Int):List Int:=(Pl.den q m b).getD []
def C101d:Con:=⟨[.raw,LL,L],[L,L],fun(x:D×List (List Int)×List Int×Unit)=>Pl.okSy x∧Pl.sys (Pl.qF x.1) x.2.1 x.2.2.1=0∧Pl.den (Pl.qF x.1) x.2.1 x.2.2.1≠none,fun(x:D×List (List Int)×List Int×Unit)=>([],Pl.denW (Pl.qF x.1) x.2.1 x.2.2.1,()),none⟩
def T101:Ctx:=⟨tt,[(94,C94)],[],none,[(90,pt90),(91,pt91)],100,[0,1,2,4],[],0,[],ars4,[],[],[]⟩
def H101:Hints:=⟨[],[],[(0,⟨[0,1,2,8,9,26,27],[(6,so),(28,si),(0,s0),(1, .ad 107),(2,sO),(4,s0)]⟩),(2,⟨[0,2,8,47,48],[(6,so),(49,si),(0,s0),(1, .ad 107),(2,sO),(4,s0)]⟩)],[90,91],[(3,([8,9],[0,1,2,4]))]⟩
def T46 (C:Con):Ctx:=TT [(92,C92),(101,C)]
def Pl.deny (q:Int) (m:List (List Int)) (b:List Int):List Int×Bool:=bif decide (Pl.sys q m b≠0)then([],false)else(match Pl.den q m b with
 |some w=>(w,true)
 |none=>([],false))
def Cdeny (p:D×List (List Int)×List Int×Unit→Prop):Con:=⟨[.raw,LL,L],[L,B],fun(x:D×List (List Int)×List Int×Unit)=>Pl.okSy x∧p x,fun(x:D×List (List Int)×List Int×Unit)=>((Pl.deny (Pl.qF x.1) x.2.1 x.2.2.1).1,(Pl.deny (Pl.qF x.1) x.2.1 x.2.2.1).2,()),none⟩
def Pl.isS (x:D×List (List Int)×List Int×Unit):Prop:=Pl.sys (Pl.qF x.1) x.2.1 x.2.2.1=0→Pl.den (Pl.qF x.1) x.2.1 x.2.2.1=none
def Pl.isD (x:D×List (List Int)×List Int×Unit):Prop:=Pl.sys (Pl.qF x.1) x.2.1 x.2.2.1=0∧Pl.den (Pl.qF x.1) x.2.1 x.2.2.1≠none
def C46s:Con:=Cdeny Pl.isS
def C46d:Con:=Cdeny Pl.isD
def C46:Con:=Cdeny fun _=>True
end Fd
end
section
set_option linter.unusedVariables false
set_option linter.unusedSimpArgs false
set_option linter.unusedSectionVars false
set_option maxRecDepth 100000
namespace Fd
open Go Fw Go.Proofs

section
variable {q : Int} {r1 r2 n w : Nat} {xs : XS} {os : OS}
theorem kf_bound {col:Int} {N:Nat} (hl:Pl.len os r1=N): ∀(f:Nat) (k:Int),k≤N→k≤Pl.kf xs os r1 col f k∧Pl.kf xs os r1 col f k≤N
 |0,k,h=>⟨Int.le_refl _,h⟩
 |f+1,k,h=>by
  rw[Pl.kf]
  cases hb:(decide (k<(Pl.len os r1:Int))&&decide (Pl.ent xs os r1 k col=0))with
  |false=>exact⟨Int.le_refl _,h⟩
  |true=>
   have h1:k<(Pl.len os r1:Int):=by simp at hb;exact hb.1
   rw[hl]at h1
   have:=kf_bound (col:=col) hl f (k+1) (by omega)
   rw[cond_true]
   exact⟨by omega,this.2⟩
theorem Rec_okv (hq:isQ q):Pl.okA (arD q)∧Pl.qA (arD q)=q:=⟨okA_ar hq,qA_ar hq⟩
theorem Rec_elim1 (hq:isQ q) (h:Pl.Rec q r1 r2 n w xs os) {at_ col i:Int} (a0:0≤at_) (a1:at_<n) (c0:0≤col) (c1:col<w) (i0:0≤i) (i1:i<n):Pl.Rec q r1 r2 n w (Pl.elim1 q r1 r2 os at_ col i xs) os:=by
 by_cases h1:i=at_
 ·rw[elim_no (.inl h1)];exact h
 ·by_cases h2:Pl.ent xs os r1 i col=0
  ·rw[elim_no (.inr h2)];exact h
  ·rw[elim_yes h1 h2]
   obtain⟨v1,v2⟩:=Rec_okv hq
   exact(Rec_tk hq v1 v2 h i0 i1 a0 a1 h1 (Rec_ent h i0 i1 c0 c1).2.2).2
theorem Rec_elim (hq:isQ q) {at_ col:Int} (a0:0≤at_) (a1:at_<n) (c0:0≤col) (c1:col<w): ∀(m:Nat) {xs:XS},m≤n→Pl.Rec q r1 r2 n w xs os→Pl.Rec q r1 r2 n w (Pl.elim q r1 r2 os at_ col m xs) os
 |0,xs,_,h=>h
 |m+1,xs,hm,h=>Rec_elim1 hq (Rec_elim hq a0 a1 c0 c1 m (by omega) h) a0 a1 c0 c1 (by omega) (by omega)
theorem Rec_col (hq:isQ q) (h:Pl.Rec q r1 r2 n w xs os) {cs:List Int} {col:Int} (hcs:cs.length≤n) (c0:0≤col) (c1:col<w):
  Pl.Rec q r1 r2 n w (Pl.col q r1 r2 (xs,os) cs col).1.1 (Pl.col q r1 r2 (xs,os) cs col).1.2∧(Pl.col q r1 r2 (xs,os) cs col).2.length≤n∧((Pl.col q r1 r2 (xs,os) cs col).2=cs∨(Pl.col q r1 r2 (xs,os) cs col).2=cs++[col]):=by
 have hl:Pl.len os r1=n:=h.l1
 have hk:=kf_bound (xs:=xs) (col:=col) hl (Pl.len os r1+1) cs.length (by omega)
 by_cases e:Pl.colK r1 (xs,os) cs.length col=(Pl.len os r1:Int)
 ·rw[col_no e];exact⟨h,hcs, .inl rfl⟩
 ·obtain⟨k,hkk⟩: ∃k,Pl.colK r1 (xs,os) cs.length col=k:=⟨_,rfl⟩
  rw[col_yes (n:=n) hkk hl (by rw[←hkk, ←hl];exact e)]
  rw[hl]at e
  have e1:Pl.colK r1 (xs,os) cs.length col=Pl.kf xs os r1 col (Pl.len os r1+1) cs.length:=rfl
  have h2:=(Rec_sw h (i:=cs.length) (k:=k) (by omega) (by omega) (by omega) (by omega)).2
  obtain⟨v1,v2⟩:=Rec_okv hq
  have h3:=(Rec_sc hq v1 v2 h2 (i:=cs.length) (c:=Pl.inv q (Pl.ent xs (Pl.colO r1 r2 os cs.length k) r1 cs.length col)) (by omega) (by omega) (inv_inQ hq _)).2
  exact⟨Rec_elim hq (by omega) (by omega) c0 c1 n (Nat.le_refl _) h3,by rw[List.length_append];simp;omega, .inr rfl⟩
theorem Rec_cols (hq:isQ q) (h:Pl.Rec q r1 r2 n w xs os): ∀(j:Nat),j≤w→Pl.Rec q r1 r2 n w (Pl.cols q r1 r2 (xs,os) j).1.1 (Pl.cols q r1 r2 (xs,os) j).1.2∧(Pl.cols q r1 r2 (xs,os) j).2.length≤n∧ ∀c∈(Pl.cols q r1 r2 (xs,os) j).2,0≤c∧c<w
 |0,_=>⟨h,Nat.zero_le _,fun c hc=>by cases hc⟩
 |j+1,hj=>by
  obtain⟨h1,h2,h3⟩:=Rec_cols hq h j (by omega)
  rw[Pl.cols]
  obtain⟨k1,k2,k3⟩:=Rec_col hq h1 (cs:=(Pl.cols q r1 r2 (xs,os) j).2) (col:=(j:Int)) h2 (by omega) (by omega)
  refine⟨k1,k2,fun c hc=> ?_⟩
  rcases k3 with k3|k3
  ·have hc':c∈(Pl.col q r1 r2 (Pl.cols q r1 r2 (xs,os) j).1 (Pl.cols q r1 r2 (xs,os) j).2 (j:Int)).2:=hc
   rw[show Pl.col q r1 r2 (Pl.cols q r1 r2 (xs,os) j).1=Pl.col q r1 r2 ((Pl.cols q r1 r2 (xs,os) j).1.1,(Pl.cols q r1 r2 (xs,os) j).1.2)from rfl,k3]at hc'
   exact h3 c hc'
  ·have hc':c∈(Pl.col q r1 r2 (Pl.cols q r1 r2 (xs,os) j).1 (Pl.cols q r1 r2 (xs,os) j).2 (j:Int)).2:=hc
   rw[show Pl.col q r1 r2 (Pl.cols q r1 r2 (xs,os) j).1=Pl.col q r1 r2 ((Pl.cols q r1 r2 (xs,os) j).1.1,(Pl.cols q r1 r2 (xs,os) j).1.2)from rfl,k3]at hc'
   rcases List.mem_append.1 hc' with hc'|hc'
   ·exact h3 c hc'
   ·have:c=(j:Int):=by simpa using hc'
    subst this
    omega
end
theorem recX_get (m:List (List Int)): ∀(n i:Nat),i<n→(Pl.recX m n)[2*i]? =some (some (Pl.unitR m.length i))∧(Pl.recX m n)[2*i+1]? =some (some (m.getD i []))
 |0,i,h=>by omega
 |n+1,i,h=>by
  have hl:=recX_len m n
  rw[Pl.recX]
  by_cases e:i=n
  ·subst e
   rw[List.getElem?_append_right (by omega),List.getElem?_append_right (by omega),hl,Nat.sub_self,show 2*i+1-2*i=1 by omega]
   exact⟨rfl,rfl⟩
  ·rw[List.getElem?_append_left (by omega),List.getElem?_append_left (by omega)]
   exact recX_get m n i (by omega)
theorem recR_mem: ∀ {n r:Nat},r∈Pl.recR n↔ ∃i,i<n∧r=2*i+2
 |0,r=>by simp[Pl.recR]
 |n+1,r=>by
  rw[Pl.recR,List.mem_append,recR_mem (n:=n),List.mem_singleton]
  constructor
  ·rintro(⟨i,h,rfl⟩|rfl)
   ·exact⟨i,by omega,rfl⟩
   ·exact⟨n,by omega,rfl⟩
  ·rintro⟨i,h,rfl⟩
   by_cases e:i=n
   ·subst e;exact .inr rfl
   ·exact .inl ⟨i,by omega,rfl⟩
theorem recW_mem: ∀ {n r:Nat},r∈Pl.recW n↔ ∃i,i<n∧r=2*i+1
 |0,r=>by simp[Pl.recW]
 |n+1,r=>by
  rw[Pl.recW,List.mem_append,recW_mem (n:=n),List.mem_singleton]
  constructor
  ·rintro(⟨i,h,rfl⟩|rfl)
   ·exact⟨i,by omega,rfl⟩
   ·exact⟨n,by omega,rfl⟩
  ·rintro⟨i,h,rfl⟩
   by_cases e:i=n
   ·subst e;exact .inr rfl
   ·exact .inl ⟨i,by omega,rfl⟩
theorem recR_nd: ∀n,(Pl.recR n).Nodup
 |0=>List.nodup_nil
 |n+1=>by
  rw[Pl.recR,List.nodup_append]
  refine⟨recR_nd n,by simp,fun a ha b hb=> ?_⟩
  obtain⟨i,hi,rfl⟩:=recR_mem.1 ha
  have:=List.mem_singleton.1 hb
  omega
theorem recW_nd: ∀n,(Pl.recW n).Nodup
 |0=>List.nodup_nil
 |n+1=>by
  rw[Pl.recW,List.nodup_append]
  refine⟨recW_nd n,by simp,fun a ha b hb=> ?_⟩
  obtain⟨i,hi,rfl⟩:=recW_mem.1 ha
  have:=List.mem_singleton.1 hb
  omega
theorem recO_rows {n:Nat} (h:0<n):(mal (Pl.recO n) (2*n-1)∧mrow (Pl.recO n) (2*n-1)=Pl.recR n)∧mal (Pl.recO n) (2*n)∧mrow (Pl.recO n) (2*n)=Pl.recW n:=by
 obtain⟨k,rfl⟩: ∃k,n=k+1:=⟨n-1,by omega⟩
 refine⟨recO_1 _, ?_⟩
 rw[show 2*(k+1)=(2*k+1)+1 by omega,Pl.recO]
 exact row_at (by rw[List.getElem?_append_right (by simp)];simp)
theorem Rec_new {q:Int} (hq:isQ q) {m:List (List Int)} {w:Nat} (h0:0<m.length) (hn:m.length≤1000000) (hw:w≤1000000000) (hr: ∀r∈m,r.length=w∧ ∀x∈r,Pl.inQ q x):Pl.Rec q (2*m.length-1) (2*m.length) m.length w (Pl.recX m m.length) (Pl.recO m.length):=by
 obtain⟨⟨a1,a2⟩,b1,b2⟩:=recO_rows h0
 refine⟨a1,b1,by omega,by omega,by omega,by rw[a2,recR_len],by rw[b2,recW_len], ?_, ?_, ?_,by omega,hw⟩
 ·rw[a2,b2,List.nodup_append]
  refine⟨recR_nd _,recW_nd _,fun a ha b hb=> ?_⟩
  obtain⟨i,_,rfl⟩:=recR_mem.1 ha
  obtain⟨j,_,rfl⟩:=recW_mem.1 hb
  omega
 ·rw[a2]
  intro r hr'
  obtain⟨i,hi,rfl⟩:=recR_mem.1 hr'
  obtain⟨c1,c2⟩:=row_at (recX_get m m.length i hi).2
  obtain⟨d1,d2⟩:=hr _ (rowD_mem hi)
  exact⟨c1,by omega,by rw[c2];exact d1,by rw[c2];exact d2⟩
 ·rw[b2]
  intro r hr'
  obtain⟨i,hi,rfl⟩:=recW_mem.1 hr'
  obtain⟨c1,c2⟩:=row_at (recX_get m m.length i hi).1
  refine⟨c1,by omega,by rw[c2];unfold Pl.unitR;rw[List.length_set,List.length_replicate], ?_⟩
  rw[c2]
  unfold Pl.unitR
  intro x hx
  rcases List.mem_or_eq_of_mem_set hx with h|rfl
  ·rw[List.eq_of_mem_replicate h];exact zero_inQ hq
  ·exact one_inQ hq
theorem els_in {q:Int} {l:List Int} (h:Pl.els q l=true): ∀x∈l,Pl.inQ q x:=by
 intro x hx
 unfold Pl.els at h
 have:=List.all_eq_true.1 h x hx
 simp at this
 exact this
theorem shape_0 {q:Int} {m:List (List Int)} (h:Pl.shape q m=0):m.length≤64∧Pl.wide m≤64∧ ∀r∈m,r.length=Pl.wide m∧ ∀x∈r,Pl.inQ q x:=by
 unfold Pl.shape at h
 by_cases h1:m.length>64
 ·rw[decide_eq_true h1]at h;simp at h
 rw[decide_eq_false h1,Bool.false_or]at h
 have h2: ¬(m.length>0∧Pl.wide m>64):=fun hh=>by rw[decide_eq_true hh.1,decide_eq_true hh.2]at h;simp at h
 have e:(decide (m.length>0)&&decide (Pl.wide m>64))=false:=by
  by_cases c1:m.length>0
  ·rw[decide_eq_false (fun c2=>h2 ⟨c1,c2⟩)];simp
  ·rw[decide_eq_false c1];rfl
 rw[e,cond_false]at h
 cases h3:m.any fun r=>decide (r.length≠Pl.wide m)with
 |true=>rw[h3]at h;simp at h
 |false=>
  rw[h3,cond_false]at h
  cases h4:m.any fun r=> !Pl.els q r with
  |true=>rw[h4]at h;simp at h
  |false=>
   refine⟨by omega, ?_,fun r hr=>⟨?_, ?_⟩⟩
   ·by_cases c1:m.length>0
    ·omega
    ·have:m=[]:=List.length_eq_zero_iff.1 (by omega)
     subst this;exact Nat.zero_le _
   ·have:=List.any_eq_false.1 h3 r hr
    simpa using this
   ·have:=List.any_eq_false.1 h4 r hr
    exact els_in (by simpa using this)
structure Pl.Fin (q : Int) (m : List (List Int)) : Prop where
 m1:mal (Pl.recS q m).1.2 (2*m.length-1)
 m2:mal (Pl.recS q m).1.2 (2*m.length)
 a1: ∀i∈mrow (Pl.recS q m).1.2 (2*m.length-1),mal (Pl.recS q m).1.1 i
 a2: ∀i∈mrow (Pl.recS q m).1.2 (2*m.length),mal (Pl.recS q m).1.1 i
 lR:(Pl.echR q m).length=m.length
 lD:(Pl.echD q m).length=m.length
 rR: ∀r∈Pl.echR q m,r.length=Pl.wide m∧ ∀x∈r,Pl.inQ q x
 rD: ∀r∈Pl.echD q m,r.length=m.length∧ ∀x∈r,Pl.inQ q x
 lC:(Pl.echC q m).length≤m.length
 cC: ∀c∈Pl.echC q m,0≤c∧c<Pl.wide m
theorem rows_good {q:Int} {xs:XS} {w:Nat} {l:List Nat} (h:Pl.good q xs w l): ∀r∈l.map (mrow xs),r.length=w∧ ∀x∈r,Pl.inQ q x:=by
 intro r hr
 obtain⟨i,hi,rfl⟩:=List.mem_map.1 hr
 exact(h i hi).2.2
theorem pre_new {q:Int} (hq:isQ q) {m:List (List Int)} (hs:Pl.shape q m=0):Pl.okMx m∧Pl.preE (Pl.tyA q) (Pl.tyA q) (Pl.datA q) (Pl.datA q) (2*m.length-1) (2*m.length) (Pl.recX m m.length) (Pl.recO m.length)∧Pl.Fin q m:=by
 obtain⟨h1,h2,h3⟩:=shape_0 hs
 have hM:Pl.okMx m:=⟨by omega,fun r hr=>by rw[(h3 r hr).1];omega⟩
 refine⟨hM, ?_⟩
 by_cases h0:0<m.length
 ·have hR:=Rec_new hq h0 (by omega) (show Pl.wide m≤1000000000 by omega) h3
  have hqA:Pl.qA (.iface (Pl.tyA q) (Pl.datA q))=q:=qA_ar hq
  refine⟨⟨okA_ar hq,rfl,hR.m1, .inr ⟨_,_,h0,by rw[hqA];exact hR⟩⟩, ?_⟩
  have hl:Pl.len (Pl.recO m.length) (2*m.length-1)≠0:=by show(mrow _ _).length≠0;rw[hR.l1];omega
  have hw0:(mrow (Pl.recX m m.length) (Pl.ri (Pl.recO m.length) (2*m.length-1) 0)).length=Pl.wide m:=(hR.g1 _ (ri_mem (by omega) (by rw[hR.l1];omega))).2.2.1
  have hE:Pl.recS q m=Pl.cols q (2*m.length-1) (2*m.length) (Pl.recX m m.length,Pl.recO m.length) (Pl.wide m):=by
   unfold Pl.recS Pl.ech
   rw[decide_eq_false hl,cond_false,hw0]
  obtain⟨k1,k2,k3⟩:=Rec_cols hq hR (Pl.wide m) (Nat.le_refl _)
  rw[←hE]at k1 k2 k3
  exact⟨k1.m1,k1.m2,fun i hi=>(k1.g1 i hi).1,fun i hi=>(k1.g2 i hi).1,by unfold Pl.echR Pl.rowsO;rw[List.length_map,k1.l1],by unfold Pl.echD Pl.rowsO;rw[List.length_map,k1.l2],rows_good k1.g1,rows_good k1.g2,k2,k3⟩
 ·have e:m=[]:=List.length_eq_zero_iff.1 (by omega)
  subst e
  refine⟨⟨okA_ar hq,rfl,trivial, .inl rfl⟩, ?_⟩
  have hE:Pl.recS q []=(([],[]),[]):=rfl
  exact⟨by rw[hE];exact trivial,by rw[hE];exact trivial,(fun i hi=>by(rw[hE]at hi;cases hi)),(fun i hi=>by(rw[hE]at hi;cases hi)),(by unfold Pl.echR Pl.rowsO;rw[hE];rfl),(by unfold Pl.echD Pl.rowsO;rw[hE];rfl),
   (fun r hr=>by(unfold Pl.echR Pl.rowsO at hr;rw[hE]at hr;cases hr)),(fun r hr=>by(unfold Pl.echD Pl.rowsO at hr;rw[hE]at hr;cases hr)),(by unfold Pl.echC;rw[hE];exact Nat.zero_le _),(fun c hc=>by(unfold Pl.echC at hc;rw[hE]at hc;cases hc))⟩
end Fd
end
