import Derived.Test.YtfhlgbgclkahnaaM4
section
set_option linter.unusedVariables false
set_option linter.unusedSimpArgs false
set_option maxRecDepth 100000
namespace Fd
open Go Fw Go.Proofs

theorem snd_join {P:Program} {f:FuncId} {args res:List Ar} {pa pb p:Ars args→Prop} {post:Ars args→Ars res} (ha:Sound P f ⟨args,res,pa,post,none⟩) (hb:Sound P f ⟨args,res,pb,post,none⟩) (h: ∀x,p x→pa x∨pb x):Sound P f ⟨args,res,p,post,none⟩:=
 ⟨⟨fun x hx=>(h x hx).elim (ha.1.a x) (hb.1.a x),fun x hx=>(h x hx).elim (ha.1.r x) (hb.1.r x)⟩,fun x hx=>(h x hx).elim (ha.2 x) (hb.2 x)⟩
theorem snd_less {P:Program} {f:FuncId} {args res:List Ar} {pa p:Ars args→Prop} {post post':Ars args→Ars res} (ha:Sound P f ⟨args,res,pa,post,none⟩) (h: ∀x,p x→pa x) (hp: ∀x,p x→encs res (post x)=encs res (post' x)):Sound P f ⟨args,res,p,post',none⟩:=by
 refine⟨⟨fun x hx=>ha.1.a x (h x hx),fun x hx=>by have:=ha.1.r x (h x hx);show D.nrs (encs res (post' x));rw[←hp x hx];exact this⟩,fun x hx w O vs hO hl=> ?_⟩
 have conv: ∀e w',CPost ⟨args,res,pa,post,none⟩ x w ⟨O,nn⟩ e w'→CPost ⟨args,res,p,post',none⟩ x w ⟨O,nn⟩ e w':=by
  rintro e w' ⟨v,he,hb,hv,_⟩
  refine⟨v,he,hb,fun ι=> ?_,fun e he=>by cases he⟩
  show ARep w' ⟨O,nn⟩ ι (resAV (encs res (post' x))) v
  rw[←hp x hx]
  exact hv ι
 rcases ha.2 x (h x hx) w O vs hO hl with⟨h1,h2⟩|⟨v,w',h1,h2⟩
 ·exact .inl ⟨h1,h2.mono conv⟩
 ·exact .inr ⟨v,w',h1,conv _ _ h2⟩
theorem nrc101s:NRC C101s:=⟨fun x hx=>⟨okF_nr hx.1.1,rfl,rfl,trivial⟩,fun x hx=>⟨rfl,trivial,trivial⟩⟩
theorem nrc101d:NRC C101d:=⟨fun x hx=>⟨okF_nr hx.1.1,rfl,rfl,trivial⟩,fun x hx=>⟨rfl,rfl,trivial⟩⟩
theorem nrcDe {p:D×List (List Int)×List Int×Unit→Prop}:NRC (Cdeny p):=⟨fun x hx=>⟨okF_nr hx.1.1,rfl,rfl,trivial⟩,fun x hx=>⟨rfl,trivial,trivial⟩⟩
theorem snd101s:Sound Try.prog 101 C101s:=fn_sound (T:=T101) (fn:=Try.f101) (tokg (T:=T101) ⟨snd94,trivial⟩ ⟨snd90,snd91,trivial⟩ trivial noInv noCv) Try.func101 (by kernel_rfl) H101 vc101s (by kernel_rfl) (hC:=nrc101s)
theorem snd101d:Sound Try.prog 101 C101d:=fn_sound (T:=T101) (fn:=Try.f101) (tokg (T:=T101) ⟨snd94,trivial⟩ ⟨snd90,snd91,trivial⟩ trivial noInv noCv) Try.func101 (by kernel_rfl) H101 vc101d (by kernel_rfl) (hC:=nrc101d)
theorem denL_mem {q:Int} {b w:List Int}: ∀ {l:List (List Int)},Pl.denL q b l=some w→w∈l
 |[],h=>by cases h
 |r::l,h=>by
  rw[Pl.denL]at h
  by_cases e:Pl.dot q r b≠0
  ·rw[decide_eq_true e,cond_true]at h
   injection h with h
   subst h
   exact List.mem_cons_self
  ·rw[decide_eq_false e,cond_false]at h
   exact List.mem_cons_of_mem _ (denL_mem h)
theorem den_len {q:Int} (hq:isQ q) {m:List (List Int)} {b w:List Int} (hs:Pl.sys q m b=0) (h:Pl.den q m b=some w):w.length=m.length∧0<m.length∧ ∀x∈w,Pl.inQ q x:=by
 obtain⟨s1,_,_⟩:=den_sys hs
 obtain⟨_,_,F⟩:=pre_new hq s1
 have hm:=List.mem_of_mem_drop (denL_mem h)
 obtain⟨h1,h2⟩:=F.rD w hm
 refine⟨h1, ?_,h2⟩
 have:=List.length_pos_of_mem hm
 rw[F.lD]at this
 exact this
theorem deny_bad {q:Int} {m:List (List Int)} {b:List Int} (h:Pl.sys q m b≠0):Pl.deny q m b=([],false):=by unfold Pl.deny;rw[decide_eq_true h];rfl
theorem deny_some {q:Int} {m:List (List Int)} {b:List Int} (h:Pl.sys q m b=0) (hd:Pl.den q m b≠none):Pl.deny q m b=(Pl.denW q m b,true):=by
 unfold Pl.deny Pl.denW
 rw[decide_eq_false (not_not_intro h)]
 cases e:Pl.den q m b with
 |none=>exact absurd e hd
 |some w=>rfl
theorem deny_none {q:Int} {m:List (List Int)} {b:List Int} (h:Pl.sys q m b=0) (hd:Pl.den q m b=none):Pl.deny q m b=([],false):=by
 unfold Pl.deny
 rw[decide_eq_false (not_not_intro h),hd];rfl
theorem vc46s: ∀x,C46s.pre x→VC (T46 C101s) H0 Try.f46 C46s x:=by
 rintro⟨v,(m:List (List Int)),(b:List Int),⟨⟩⟩ ⟨⟨⟨q,hq,(rfl:v=_)⟩,(hm:Pl.okMM m),(hb:b.length≤1000000000)⟩,(hd:Pl.sys (Pl.qF (fieldD q)) m b=0→Pl.den (Pl.qF (fieldD q)) m b=none)⟩
 rw[qF_d]at hd
 refine cast (α:=(Pl.okF (D.rptr (fieldC q))∧Pl.okMM m∧b.length≤(1000000000:Nat))∧Br (Pl.sys (Pl.qF (D.rptr (fieldC q))) m b !=(0:Int)) (([],false,())=C46s.post (fieldD q,m,b,())) ((Pl.okSy (D.rptr (fieldC q),m,b,())∧Pl.sys (Pl.qF (D.rptr (fieldC q))) m b=(0:Int)∧Pl.den (Pl.qF (D.rptr (fieldC q))) m b=none)∧([], !true,())=C46s.post (fieldD q,m,b,()))) (by kernel_rfl) ?_
 have hp:C46s.post (fieldD q,m,b,())=((Pl.deny q m b).1,(Pl.deny q m b).2,()):=rfl
 rw[hp,qF_f]
 refine⟨⟨okF_f hq,hm,hb⟩,Br_of (fun h=> ?_) (fun h=> ?_)⟩
 ·have h:Pl.sys q m b≠0:=by simpa using h
  rw[deny_bad h]
 ·have h:Pl.sys q m b=0:=by simpa using h
  refine⟨⟨⟨okF_f hq,hm,hb⟩,h,hd h⟩, ?_⟩
  rw[deny_none h (hd h)];rfl
theorem vc46d: ∀x,C46d.pre x→VC (T46 C101d) H0 Try.f46 C46d x:=by
 rintro⟨v,(m:List (List Int)),(b:List Int),⟨⟩⟩ ⟨⟨⟨q,hq,(rfl:v=_)⟩,(hm:Pl.okMM m),(hb:b.length≤1000000000)⟩,(h:Pl.sys (Pl.qF (fieldD q)) m b=0),(hd:Pl.den (Pl.qF (fieldD q)) m b≠none)⟩
 rw[qF_d]at h hd
 refine cast (α:=(Pl.okF (D.rptr (fieldC q))∧Pl.okMM m∧b.length≤(1000000000:Nat))∧Br (Pl.sys (Pl.qF (D.rptr (fieldC q))) m b !=(0:Int)) (([],false,())=C46d.post (fieldD q,m,b,())) ((Pl.okSy (D.rptr (fieldC q),m,b,())∧Pl.sys (Pl.qF (D.rptr (fieldC q))) m b=(0:Int)∧Pl.den (Pl.qF (D.rptr (fieldC q))) m b≠none)∧(0:Nat)<(Pl.denW (Pl.qF (D.rptr (fieldC q))) m b).length∧(Pl.denW (Pl.qF (D.rptr (fieldC q))) m b,true,())=C46d.post (fieldD q,m,b,()))) (by kernel_rfl) ?_
 have hp:C46d.post (fieldD q,m,b,())=((Pl.deny q m b).1,(Pl.deny q m b).2,()):=rfl
 rw[hp,qF_f]
 refine⟨⟨okF_f hq,hm,hb⟩,Br_of (fun h'=> ?_) (fun _=>⟨⟨⟨okF_f hq,hm,hb⟩,h,hd⟩, ?_, ?_⟩)⟩
 ·have h':Pl.sys q m b≠0:=by simpa using h'
  exact absurd h h'
 ·unfold Pl.denW
  cases e:Pl.den q m b with
  |none=>exact absurd e hd
  |some w=>
   obtain⟨h1,h2,_⟩:=den_len hq h e
   show 0<w.length
   omega
 ·rw[deny_some h hd]
theorem snd46s:Sound Try.prog 46 C46s:=fn_sound (T:=T46 C101s) (fn:=Try.f46) (tok0 ⟨snd92,snd101s,trivial⟩) Try.func46 (by kernel_rfl) H0 vc46s (by kernel_rfl) (hC:=nrcDe)
theorem snd46d:Sound Try.prog 46 C46d:=fn_sound (T:=T46 C101d) (fn:=Try.f46) (tok0 ⟨snd92,snd101d,trivial⟩) Try.func46 (by kernel_rfl) H0 vc46d (by kernel_rfl) (hC:=nrcDe)
theorem sd_or (x:D×List (List Int)×List Int×Unit):Pl.isS x∨Pl.isD x:=by
 by_cases h:Pl.sys (Pl.qF x.1) x.2.1 x.2.2.1=0
 ·by_cases hd:Pl.den (Pl.qF x.1) x.2.1 x.2.2.1=none
  ·exact .inl fun _=>hd
  ·exact .inr ⟨h,hd⟩
 ·exact .inl fun h'=>absurd h' h
theorem snd46:Sound Try.prog 46 C46:=snd_join snd46s snd46d fun x hx=>(sd_or x).elim (fun h=> .inl ⟨hx.1,h⟩) (fun h=> .inr ⟨hx.1,h⟩)
def C78q:Con:=⟨[I],[.raw,I],fun(x:Int×Unit)=>isQ x.1,fun(x:Int×Unit)=>(fieldD x.1,0,()),none⟩
theorem snd78q:Sound Try.prog 78 C78q:=snd_less snd78 (fun _ _=>trivial) fun x hx=>by
 obtain⟨q,⟨⟩⟩:=x
 rw[show(newF q,bif Pl.okQ q then(0:Int)else 20,())=(fieldD q,(0:Int),())from newF_yes hx]
end Fd
end
section
set_option linter.unusedVariables false
set_option linter.unusedSimpArgs false
set_option maxRecDepth 100000
namespace Fd
open Go Fw Go.Proofs

def C24:Con:=⟨[],[B],fun _=>True,fun _=>(true,()),none⟩
def T24:Ctx:=TT [(78,C78q),(80,C80),(46,C46),(42,C42),(34,C34),(55,C55)]
def Pl.smalls:List Int:=[2,3,4,5,7,8,9,11,13,16,25,27]
def Pl.someQ (order most:Int):Int:=bif (!Pl.okQ order)||decide (order>most)then Pl.smalls.getD (IntKind.i64.wrap ((IntKind.u64.wrap order).tmod 12)).toNat 0 else order
def C19:Con:=⟨[I,I],[.raw,G4],fun(x:Int×Int×Unit)=>True,fun(x:Int×Int×Unit)=>(fieldD (Pl.someQ x.1 x.2.1),RF (Pl.someQ x.1 x.2.1),()),none⟩
def T19:Ctx:=TT [(79,C79),(78,C78q)]
end Fd
end
section
set_option linter.unusedVariables false
set_option linter.unusedSimpArgs false
set_option maxRecDepth 100000
namespace Fd
open Go Fw Go.Proofs

theorem isQ_b {q:Int} (h:Pl.okQ q=true):isQ q:=okQ_iff.1 h
theorem wrapU (x:Int):IntKind.wrap .u64 x=x%18446744073709551616:=by
 unfold IntKind.wrap
 simp[IntKind.bits,IntKind.signed]
theorem idx12 (o:Int):0≤IntKind.i64.wrap ((IntKind.u64.wrap o).tmod 12)∧IntKind.i64.wrap ((IntKind.u64.wrap o).tmod 12)<12:=by
 rw[wrapU,Int.tmod_eq_emod_of_nonneg (by omega),wrap_i64 (by omega) (by omega)]
 omega
theorem newR_ok {q:Int} (h:Pl.okQ q=true):Pl.newR q=RF q:=by unfold Pl.newR;rw[h];rfl
theorem someQ_small {o most:Int} (hb:((!Pl.okQ o)||decide (o>most))=true):Pl.someQ o most=Pl.smalls.getD (IntKind.i64.wrap ((IntKind.u64.wrap o).tmod 12)).toNat 0:=by
 unfold Pl.someQ;rw[hb];rfl
theorem someQ_self {o most:Int} (h1:Pl.okQ o=true) (h2: ¬o>most):Pl.someQ o most=o:=by
 unfold Pl.someQ;rw[h1,decide_eq_false h2];rfl
theorem smalls_ok: ∀q∈Pl.smalls,Pl.okQ q=true:=by
 intro q hq
 have h:Pl.smalls.all Pl.okQ=true:=by kernel_rfl
 exact List.all_eq_true.1 h q hq
theorem someQ_isQ (o most:Int):isQ (Pl.someQ o most):=by
 cases hb:(!Pl.okQ o)||decide (o>most)with
 |true=>
  rw[someQ_small hb]
  obtain⟨h1,h2⟩:=idx12 o
  refine isQ_b (smalls_ok _ (getD_mem ?_))
  show _<12
  omega
 |false=>
  rw[Bool.or_eq_false_iff]at hb
  have h1:Pl.okQ o=true:=by simpa using hb.1
  rw[someQ_self h1 (of_decide_eq_false hb.2)]
  exact isQ_b h1
theorem sm_post {o most v:Int} {c:Nat} (hb:((!Pl.okQ o)||decide (o>most))=true) (e:IntKind.i64.wrap ((IntKind.u64.wrap o).tmod 12)=(c:Int)) (hv:Pl.smalls.getD c 0=v) (hk:Pl.okQ v=true):(D.rptr (fieldC v),Pl.newR v,())=C19.post (o,most,()):=by
 show _=(fieldD (Pl.someQ o most),RF (Pl.someQ o most),())
 rw[someQ_small hb,e,Int.toNat_natCast,hv,newR_ok hk];rfl
theorem vc19: ∀x,C19.pre x→VC T19 H0 Try.f19 C19 x:=by
 rintro⟨(o:Int),(most:Int),⟨⟩⟩-
 refine cast (α:=True∧Br (!Pl.okQ o) ((12:Int)≠(0:Int)∧Br (decide (IntKind.i64.wrap ((IntKind.u64.wrap o).tmod (12:Int))=(↑(0:Nat):Int))) (True∧((2:Int)≤(2:Int)∧(2:Int)≤(65536:Int)∧(1:Int)≤Pl.K (2:Int))∧(D.rptr (fieldC (2:Int)),Pl.newR (2:Int),())=C19.post (o,most,())) (Br (decide (IntKind.i64.wrap ((IntKind.u64.wrap o).tmod (12:Int))=(↑(1:Nat):Int))) (True∧((2:Int)≤(3:Int)∧(3:Int)≤(65536:Int)∧(1:Int)≤Pl.K (3:Int))∧(D.rptr (fieldC (3:Int)),Pl.newR (3:Int),())=C19.post (o,most,())) (Br (decide (IntKind.i64.wrap ((IntKind.u64.wrap o).tmod (12:Int))=(↑(2:Nat):Int))) (True∧((2:Int)≤(4:Int)∧(4:Int)≤(65536:Int)∧(1:Int)≤Pl.K (4:Int))∧(D.rptr (fieldC (4:Int)),Pl.newR (4:Int),())=C19.post (o,most,())) (Br (decide (IntKind.i64.wrap ((IntKind.u64.wrap o).tmod (12:Int))=(↑(3:Nat):Int))) (True∧((2:Int)≤(5:Int)∧(5:Int)≤(65536:Int)∧(1:Int)≤Pl.K (5:Int))∧(D.rptr (fieldC (5:Int)),Pl.newR (5:Int),())=C19.post (o,most,())) (Br (decide (IntKind.i64.wrap ((IntKind.u64.wrap o).tmod (12:Int))=(↑(4:Nat):Int))) (True∧((2:Int)≤(7:Int)∧(7:Int)≤(65536:Int)∧(1:Int)≤Pl.K (7:Int))∧(D.rptr (fieldC (7:Int)),Pl.newR (7:Int),())=C19.post (o,most,())) (Br (decide (IntKind.i64.wrap ((IntKind.u64.wrap o).tmod (12:Int))=(↑(5:Nat):Int))) (True∧((2:Int)≤(8:Int)∧(8:Int)≤(65536:Int)∧(1:Int)≤Pl.K (8:Int))∧(D.rptr (fieldC (8:Int)),Pl.newR (8:Int),())=C19.post (o,most,())) (Br (decide (IntKind.i64.wrap ((IntKind.u64.wrap o).tmod (12:Int))=(↑(6:Nat):Int))) (True∧((2:Int)≤(9:Int)∧(9:Int)≤(65536:Int)∧(1:Int)≤Pl.K (9:Int))∧(D.rptr (fieldC (9:Int)),Pl.newR (9:Int),())=C19.post (o,most,())) (Br (decide (IntKind.i64.wrap ((IntKind.u64.wrap o).tmod (12:Int))=(↑(7:Nat):Int))) (True∧((2:Int)≤(11:Int)∧(11:Int)≤(65536:Int)∧(1:Int)≤Pl.K (11:Int))∧(D.rptr (fieldC (11:Int)),Pl.newR (11:Int),())=C19.post (o,most,())) (Br (decide (IntKind.i64.wrap ((IntKind.u64.wrap o).tmod (12:Int))=(↑(8:Nat):Int))) (True∧((2:Int)≤(13:Int)∧(13:Int)≤(65536:Int)∧(1:Int)≤Pl.K (13:Int))∧(D.rptr (fieldC (13:Int)),Pl.newR (13:Int),())=C19.post (o,most,())) (Br (decide (IntKind.i64.wrap ((IntKind.u64.wrap o).tmod (12:Int))=(↑(9:Nat):Int))) (True∧((2:Int)≤(16:Int)∧(16:Int)≤(65536:Int)∧(1:Int)≤Pl.K (16:Int))∧(D.rptr (fieldC (16:Int)),Pl.newR (16:Int),())=C19.post (o,most,())) (Br (decide (IntKind.i64.wrap ((IntKind.u64.wrap o).tmod (12:Int))=(↑(10:Nat):Int))) (True∧((2:Int)≤(25:Int)∧(25:Int)≤(65536:Int)∧(1:Int)≤Pl.K (25:Int))∧(D.rptr (fieldC (25:Int)),Pl.newR (25:Int),())=C19.post (o,most,())) (Br (decide (IntKind.i64.wrap ((IntKind.u64.wrap o).tmod (12:Int))=(↑(11:Nat):Int))) (True∧((2:Int)≤(27:Int)∧(27:Int)≤(65536:Int)∧(1:Int)≤Pl.K (27:Int))∧(D.rptr (fieldC (27:Int)),Pl.newR (27:Int),())=C19.post (o,most,())) False)))))))))))) (Br (decide (o>most)) ((12:Int)≠(0:Int)∧Br (decide (IntKind.i64.wrap ((IntKind.u64.wrap o).tmod (12:Int))=(↑(0:Nat):Int))) (True∧((2:Int)≤(2:Int)∧(2:Int)≤(65536:Int)∧(1:Int)≤Pl.K (2:Int))∧(D.rptr (fieldC (2:Int)),Pl.newR (2:Int),())=C19.post (o,most,())) (Br (decide (IntKind.i64.wrap ((IntKind.u64.wrap o).tmod (12:Int))=(↑(1:Nat):Int))) (True∧((2:Int)≤(3:Int)∧(3:Int)≤(65536:Int)∧(1:Int)≤Pl.K (3:Int))∧(D.rptr (fieldC (3:Int)),Pl.newR (3:Int),())=C19.post (o,most,())) (Br (decide (IntKind.i64.wrap ((IntKind.u64.wrap o).tmod (12:Int))=(↑(2:Nat):Int))) (True∧((2:Int)≤(4:Int)∧(4:Int)≤(65536:Int)∧(1:Int)≤Pl.K (4:Int))∧(D.rptr (fieldC (4:Int)),Pl.newR (4:Int),())=C19.post (o,most,())) (Br (decide (IntKind.i64.wrap ((IntKind.u64.wrap o).tmod (12:Int))=(↑(3:Nat):Int))) (True∧((2:Int)≤(5:Int)∧(5:Int)≤(65536:Int)∧(1:Int)≤Pl.K (5:Int))∧(D.rptr (fieldC (5:Int)),Pl.newR (5:Int),())=C19.post (o,most,())) (Br (decide (IntKind.i64.wrap ((IntKind.u64.wrap o).tmod (12:Int))=(↑(4:Nat):Int))) (True∧((2:Int)≤(7:Int)∧(7:Int)≤(65536:Int)∧(1:Int)≤Pl.K (7:Int))∧(D.rptr (fieldC (7:Int)),Pl.newR (7:Int),())=C19.post (o,most,())) (Br (decide (IntKind.i64.wrap ((IntKind.u64.wrap o).tmod (12:Int))=(↑(5:Nat):Int))) (True∧((2:Int)≤(8:Int)∧(8:Int)≤(65536:Int)∧(1:Int)≤Pl.K (8:Int))∧(D.rptr (fieldC (8:Int)),Pl.newR (8:Int),())=C19.post (o,most,())) (Br (decide (IntKind.i64.wrap ((IntKind.u64.wrap o).tmod (12:Int))=(↑(6:Nat):Int))) (True∧((2:Int)≤(9:Int)∧(9:Int)≤(65536:Int)∧(1:Int)≤Pl.K (9:Int))∧(D.rptr (fieldC (9:Int)),Pl.newR (9:Int),())=C19.post (o,most,())) (Br (decide (IntKind.i64.wrap ((IntKind.u64.wrap o).tmod (12:Int))=(↑(7:Nat):Int))) (True∧((2:Int)≤(11:Int)∧(11:Int)≤(65536:Int)∧(1:Int)≤Pl.K (11:Int))∧(D.rptr (fieldC (11:Int)),Pl.newR (11:Int),())=C19.post (o,most,())) (Br (decide (IntKind.i64.wrap ((IntKind.u64.wrap o).tmod (12:Int))=(↑(8:Nat):Int))) (True∧((2:Int)≤(13:Int)∧(13:Int)≤(65536:Int)∧(1:Int)≤Pl.K (13:Int))∧(D.rptr (fieldC (13:Int)),Pl.newR (13:Int),())=C19.post (o,most,())) (Br (decide (IntKind.i64.wrap ((IntKind.u64.wrap o).tmod (12:Int))=(↑(9:Nat):Int))) (True∧((2:Int)≤(16:Int)∧(16:Int)≤(65536:Int)∧(1:Int)≤Pl.K (16:Int))∧(D.rptr (fieldC (16:Int)),Pl.newR (16:Int),())=C19.post (o,most,())) (Br (decide (IntKind.i64.wrap ((IntKind.u64.wrap o).tmod (12:Int))=(↑(10:Nat):Int))) (True∧((2:Int)≤(25:Int)∧(25:Int)≤(65536:Int)∧(1:Int)≤Pl.K (25:Int))∧(D.rptr (fieldC (25:Int)),Pl.newR (25:Int),())=C19.post (o,most,())) (Br (decide (IntKind.i64.wrap ((IntKind.u64.wrap o).tmod (12:Int))=(↑(11:Nat):Int))) (True∧((2:Int)≤(27:Int)∧(27:Int)≤(65536:Int)∧(1:Int)≤Pl.K (27:Int))∧(D.rptr (fieldC (27:Int)),Pl.newR (27:Int),())=C19.post (o,most,())) False)))))))))))) (((2:Int)≤o∧o≤(65536:Int)∧(1:Int)≤Pl.K o)∧(D.rptr (fieldC o),Pl.newR o,())=C19.post (o,most,())))) (by kernel_rfl) ?_
 obtain⟨i0,i1⟩:=idx12 o
 refine⟨trivial,Br_of (fun h=> ?_) (fun h=>Br_of (fun h2=> ?_) (fun h2=> ?_))⟩
 ·have hb:((!Pl.okQ o)||decide (o>most))=true:=by rw[h];rfl
  refine⟨by omega, ?_⟩
  refine Br_of (fun e=>⟨trivial,isQ_b (by kernel_rfl),sm_post hb (v:=2) (of_decide_eq_true e) rfl (by kernel_rfl)⟩) (fun e0=> ?_)
  refine Br_of (fun e=>⟨trivial,isQ_b (by kernel_rfl),sm_post hb (v:=3) (of_decide_eq_true e) rfl (by kernel_rfl)⟩) (fun e1=> ?_)
  refine Br_of (fun e=>⟨trivial,isQ_b (by kernel_rfl),sm_post hb (v:=4) (of_decide_eq_true e) rfl (by kernel_rfl)⟩) (fun e2=> ?_)
  refine Br_of (fun e=>⟨trivial,isQ_b (by kernel_rfl),sm_post hb (v:=5) (of_decide_eq_true e) rfl (by kernel_rfl)⟩) (fun e3=> ?_)
  refine Br_of (fun e=>⟨trivial,isQ_b (by kernel_rfl),sm_post hb (v:=7) (of_decide_eq_true e) rfl (by kernel_rfl)⟩) (fun e4=> ?_)
  refine Br_of (fun e=>⟨trivial,isQ_b (by kernel_rfl),sm_post hb (v:=8) (of_decide_eq_true e) rfl (by kernel_rfl)⟩) (fun e5=> ?_)
  refine Br_of (fun e=>⟨trivial,isQ_b (by kernel_rfl),sm_post hb (v:=9) (of_decide_eq_true e) rfl (by kernel_rfl)⟩) (fun e6=> ?_)
  refine Br_of (fun e=>⟨trivial,isQ_b (by kernel_rfl),sm_post hb (v:=11) (of_decide_eq_true e) rfl (by kernel_rfl)⟩) (fun e7=> ?_)
  refine Br_of (fun e=>⟨trivial,isQ_b (by kernel_rfl),sm_post hb (v:=13) (of_decide_eq_true e) rfl (by kernel_rfl)⟩) (fun e8=> ?_)
  refine Br_of (fun e=>⟨trivial,isQ_b (by kernel_rfl),sm_post hb (v:=16) (of_decide_eq_true e) rfl (by kernel_rfl)⟩) (fun e9=> ?_)
  refine Br_of (fun e=>⟨trivial,isQ_b (by kernel_rfl),sm_post hb (v:=25) (of_decide_eq_true e) rfl (by kernel_rfl)⟩) (fun e10=> ?_)
  refine Br_of (fun e=>⟨trivial,isQ_b (by kernel_rfl),sm_post hb (v:=27) (of_decide_eq_true e) rfl (by kernel_rfl)⟩) (fun e11=> ?_)
  have e0:=of_decide_eq_false e0
  have e1:=of_decide_eq_false e1
  have e2:=of_decide_eq_false e2
  have e3:=of_decide_eq_false e3
  have e4:=of_decide_eq_false e4
  have e5:=of_decide_eq_false e5
  have e6:=of_decide_eq_false e6
  have e7:=of_decide_eq_false e7
  have e8:=of_decide_eq_false e8
  have e9:=of_decide_eq_false e9
  have e10:=of_decide_eq_false e10
  have e11:=of_decide_eq_false e11
  omega
 ·have hb:((!Pl.okQ o)||decide (o>most))=true:=by rw[h2];simp
  refine⟨by omega, ?_⟩
  refine Br_of (fun e=>⟨trivial,isQ_b (by kernel_rfl),sm_post hb (v:=2) (of_decide_eq_true e) rfl (by kernel_rfl)⟩) (fun e0=> ?_)
  refine Br_of (fun e=>⟨trivial,isQ_b (by kernel_rfl),sm_post hb (v:=3) (of_decide_eq_true e) rfl (by kernel_rfl)⟩) (fun e1=> ?_)
  refine Br_of (fun e=>⟨trivial,isQ_b (by kernel_rfl),sm_post hb (v:=4) (of_decide_eq_true e) rfl (by kernel_rfl)⟩) (fun e2=> ?_)
  refine Br_of (fun e=>⟨trivial,isQ_b (by kernel_rfl),sm_post hb (v:=5) (of_decide_eq_true e) rfl (by kernel_rfl)⟩) (fun e3=> ?_)
  refine Br_of (fun e=>⟨trivial,isQ_b (by kernel_rfl),sm_post hb (v:=7) (of_decide_eq_true e) rfl (by kernel_rfl)⟩) (fun e4=> ?_)
  refine Br_of (fun e=>⟨trivial,isQ_b (by kernel_rfl),sm_post hb (v:=8) (of_decide_eq_true e) rfl (by kernel_rfl)⟩) (fun e5=> ?_)
  refine Br_of (fun e=>⟨trivial,isQ_b (by kernel_rfl),sm_post hb (v:=9) (of_decide_eq_true e) rfl (by kernel_rfl)⟩) (fun e6=> ?_)
  refine Br_of (fun e=>⟨trivial,isQ_b (by kernel_rfl),sm_post hb (v:=11) (of_decide_eq_true e) rfl (by kernel_rfl)⟩) (fun e7=> ?_)
  refine Br_of (fun e=>⟨trivial,isQ_b (by kernel_rfl),sm_post hb (v:=13) (of_decide_eq_true e) rfl (by kernel_rfl)⟩) (fun e8=> ?_)
  refine Br_of (fun e=>⟨trivial,isQ_b (by kernel_rfl),sm_post hb (v:=16) (of_decide_eq_true e) rfl (by kernel_rfl)⟩) (fun e9=> ?_)
  refine Br_of (fun e=>⟨trivial,isQ_b (by kernel_rfl),sm_post hb (v:=25) (of_decide_eq_true e) rfl (by kernel_rfl)⟩) (fun e10=> ?_)
  refine Br_of (fun e=>⟨trivial,isQ_b (by kernel_rfl),sm_post hb (v:=27) (of_decide_eq_true e) rfl (by kernel_rfl)⟩) (fun e11=> ?_)
  have e0:=of_decide_eq_false e0
  have e1:=of_decide_eq_false e1
  have e2:=of_decide_eq_false e2
  have e3:=of_decide_eq_false e3
  have e4:=of_decide_eq_false e4
  have e5:=of_decide_eq_false e5
  have e6:=of_decide_eq_false e6
  have e7:=of_decide_eq_false e7
  have e8:=of_decide_eq_false e8
  have e9:=of_decide_eq_false e9
  have e10:=of_decide_eq_false e10
  have e11:=of_decide_eq_false e11
  omega
 ·have h1:Pl.okQ o=true:=by simpa using h
  refine⟨isQ_b h1, ?_⟩
  show _=(fieldD (Pl.someQ o most),RF (Pl.someQ o most),())
  rw[someQ_self h1 (of_decide_eq_false h2),newR_ok h1];rfl
theorem nr_RF (q:Int):(Ar.enc G4 (RF q)).nr:=by exact⟨trivial,trivial,trivial,trivial,trivial⟩
theorem nrc19:NRC C19:=⟨fun x hx=>⟨trivial,trivial,trivial⟩,fun x hx=>⟨nr_field (someQ_isQ _ _),nr_RF _,trivial⟩⟩
theorem snd19:Sound Try.prog 19 C19:=fn_sound (T:=T19) (fn:=Try.f19) (tok0 ⟨snd79,snd78q,trivial⟩) Try.func19 (by kernel_rfl) H0 vc19 (by kernel_rfl) (hC:=nrc19)

theorem aw1:Pl.md 8=[1,1,0,1]:=by kernel_rfl
theorem aw2:Pl.gen 8=2:=by kernel_rfl
theorem aw3:Pl.mul 8 2 4=3:=by kernel_rfl
theorem aw4:Pl.trace 8 1=1:=by kernel_rfl
theorem aw5:Pl.deny 5 [[1,2],[2,4]] [1,3]=([3,1],true):=by kernel_rfl
theorem ok8:isQ 8:=isQ_b (by kernel_rfl)
theorem ok5:isQ 5:=isQ_b (by kernel_rfl)
theorem vc24: ∀x,C24.pre x→VC T24 H0 Try.f24 C24 x:=by
 rintro⟨⟩-
 refine cast (α:=((2:Int)≤(8:Int)∧(8:Int)≤(65536:Int)∧(1:Int)≤Pl.K (8:Int))∧Br ((0:I.El) !=(0:Int)) ((false,())=C24.post ()) (Pl.okF (D.rptr (fieldC (8:Int)))∧((2:Int)≤(5:Int)∧(5:Int)≤(65536:Int)∧(1:Int)≤Pl.K (5:Int))∧(Pl.okSy (D.rptr (fieldC (5:Int)),[[(1:Int),(2:Int)],[(2:Int),(4:Int)]],[(1:Int),(3:Int)],())∧True)∧Br ((↑(Pl.md (Pl.qF (D.rptr (fieldC (8:Int))))).length:Int)==(4:Int)) ((0:Int)≤(2:Int)∧(2:Int)<(↑(Pl.md (Pl.qF (D.rptr (fieldC (8:Int))))).length:Int)∧Br (rd i64 (Pl.md (Pl.qF (D.rptr (fieldC (8:Int))))) (2:Int)==(0:Int)) (Pl.okF (D.rptr (fieldC (8:Int)))∧Br (Pl.gen (Pl.qF (D.rptr (fieldC (8:Int))))==(2:Int)) (Pl.okF (D.rptr (fieldC (8:Int)))∧Br (Pl.mul (Pl.qF (D.rptr (fieldC (8:Int)))) ((2:Int)%Pl.qF (D.rptr (fieldC (8:Int)))) ((4:Int)%Pl.qF (D.rptr (fieldC (8:Int))))==(3:Int)) (Pl.okF (D.rptr (fieldC (8:Int)))∧Br (Pl.trace (Pl.qF (D.rptr (fieldC (8:Int)))) ((1:Int)%Pl.qF (D.rptr (fieldC (8:Int))))==(1:Int)) (Br (Pl.deny (Pl.qF (D.rptr (fieldC (5:Int)))) [[(1:Int),(2:Int)],[(2:Int),(4:Int)]] [(1:Int),(3:Int)]).2 (((↑(Pl.deny (Pl.qF (D.rptr (fieldC (5:Int)))) [[(1:Int),(2:Int)],[(2:Int),(4:Int)]] [(1:Int),(3:Int)]).1.length:Int)==(2:Int),())=C24.post ()) ((false,())=C24.post ())) ((false,())=C24.post ())) ((false,())=C24.post ())) ((false,())=C24.post ())) ((false,())=C24.post ())) ((false,())=C24.post ()))) (by kernel_rfl) ?_
 rw[qF_f,qF_f,aw1,aw2,aw5,show(2:Int)%8=2 by decide,show(4:Int)%8=4 by decide,show(1:Int)%8=1 by decide,aw3,aw4]
 refine⟨ok8,okF_f ok8,ok5,⟨⟨okF_f ok5, ?_, ?_⟩,trivial⟩, ?_⟩
 ·refine⟨by decide,fun r hr=> ?_⟩
  simp at hr
  rcases hr with rfl|rfl<;>decide
 ·decide
 ·exact⟨by decide,by decide,okF_f ok8,okF_f ok8,okF_f ok8,rfl⟩
theorem snd24:Sound Try.prog 24 C24:=fn_sound (T:=T24) (fn:=Try.f24) (tok0 ⟨snd78q,snd80,snd46,snd42,snd34,snd55,trivial⟩) Try.func24 (by kernel_rfl) H0 vc24 (by kernel_rfl)
end Fd
end
section
set_option linter.unusedVariables false
set_option linter.unusedSimpArgs false
set_option maxRecDepth 100000
namespace Fd
open Go Fw Go.Proofs

def Pl.powV (q x n:Int):Int×Int:=bif decide (n=0)then(1,0)else bif decide (x=0)&&decide (n<0)then(0,6)else bif decide (x=0)then(0,0)else(Pl.pow q x (n%(q-1)),0)
def C38:Con:=⟨[.raw,I,I],[I,I],fun(x:D×Int×Int×Unit)=>Pl.okF x.1,fun(x:D×Int×Int×Unit)=>((Pl.powV (Pl.qF x.1) (x.2.1%Pl.qF x.1) x.2.2.1).1,(Pl.powV (Pl.qF x.1) (x.2.1%Pl.qF x.1) x.2.2.1).2,()),none⟩
def T38:Ctx:=TT [(95,C95),(100,C100)]
end Fd
end
section
set_option linter.unusedVariables false
set_option linter.unusedSimpArgs false
set_option maxRecDepth 100000
namespace Fd
open Go Fw Go.Proofs

theorem wrap_mod1 {m n:Int} (m1:1≤m) (m6:m≤65536):(IntKind.i64.wrap (n.tmod m+m)).tmod m=n%m:=by
 have h1:=Int.tmod_lt_of_pos n (show 0<m by omega)
 have h2:=Int.lt_tmod_of_pos n (show 0<m by omega)
 rw[wrap_i64 (by omega) (by omega),tmod_pos (by omega),Int.add_emod_right]
 rcases ilt n 0 with h|h
 ·have h3:=Int.emod_add_mul_ediv n m
  have h4:=Int.tmod_add_mul_tdiv n m
  have e:n.tmod m=n-m*n.tdiv m:=by omega
  rw[e,Int.sub_mul_emod_self_left]
 ·rw[Int.tmod_eq_emod_of_nonneg h,Int.emod_emod]
theorem powV_0 (q x:Int):Pl.powV q x 0=(1,0):=rfl
theorem powV_neg {q n:Int} (h:n<0):Pl.powV q 0 n=(0,6):=by
 unfold Pl.powV
 rw[decide_eq_false (show¬n=0 by omega),decide_eq_true (show(0:Int)=0 from rfl),decide_eq_true h];rfl
theorem powV_z {q n:Int} (h:0<n):Pl.powV q 0 n=(0,0):=by
 unfold Pl.powV
 rw[decide_eq_false (show¬n=0 by omega),decide_eq_true (show(0:Int)=0 from rfl),decide_eq_false (show¬n<0 by omega)];rfl
theorem powV_x {q x n:Int} (hx:x≠0):Pl.powV q x n=(Pl.pow q x (n%(q-1)),0):=by
 by_cases hn:n=0
 ·subst hn
  rw[powV_0,Int.zero_emod];rfl
 ·unfold Pl.powV
  rw[decide_eq_false hn,decide_eq_false hx];rfl
theorem vc38: ∀x,C38.pre x→VC T38 H0 Try.f38 C38 x:=by
 rintro⟨v,(a:Int),(n:Int),⟨⟩⟩ ⟨q,hq,(rfl:v=_)⟩
 refine cast (α:=Pl.okF (D.rptr (fieldC q))∧Br (n==(0:Int)) (((1:Int),(0:Int),())=C38.post (fieldD q,a,n,())) (Br (a%Pl.qF (D.rptr (fieldC q))==(0:Int)) (Br (decide (n<(0:Int))) (((0:Int),(6:Int),())=C38.post (fieldD q,a,n,())) (Br (a%Pl.qF (D.rptr (fieldC q))==(0:Int)) (((0:Int),(0:Int),())=C38.post (fieldD q,a,n,())) (IntKind.i64.wrap (q-(1:Int))≠(0:Int)∧IntKind.i64.wrap (q-(1:Int))≠(0:Int)∧(Pl.okM (D.iface (23:Nat) (D.rptr (fieldC q)))∧Pl.inQ (Pl.qA (D.iface (23:Nat) (D.rptr (fieldC q)))) (a%Pl.qF (D.rptr (fieldC q)))∧(0:Int)≤(IntKind.i64.wrap (n.tmod (IntKind.i64.wrap (q-(1:Int)))+IntKind.i64.wrap (q-(1:Int)))).tmod (IntKind.i64.wrap (q-(1:Int)))∧(IntKind.i64.wrap (n.tmod (IntKind.i64.wrap (q-(1:Int)))+IntKind.i64.wrap (q-(1:Int)))).tmod (IntKind.i64.wrap (q-(1:Int)))≤(4611686018427387904:Int))∧(Pl.pow (Pl.qA (D.iface (23:Nat) (D.rptr (fieldC q)))) (a%Pl.qF (D.rptr (fieldC q))) ((IntKind.i64.wrap (n.tmod (IntKind.i64.wrap (q-(1:Int)))+IntKind.i64.wrap (q-(1:Int)))).tmod (IntKind.i64.wrap (q-(1:Int)))),(0:Int),())=C38.post (fieldD q,a,n,())))) (Br (a%Pl.qF (D.rptr (fieldC q))==(0:Int)) (((0:Int),(0:Int),())=C38.post (fieldD q,a,n,())) (IntKind.i64.wrap (q-(1:Int))≠(0:Int)∧IntKind.i64.wrap (q-(1:Int))≠(0:Int)∧(Pl.okM (D.iface (23:Nat) (D.rptr (fieldC q)))∧Pl.inQ (Pl.qA (D.iface (23:Nat) (D.rptr (fieldC q)))) (a%Pl.qF (D.rptr (fieldC q)))∧(0:Int)≤(IntKind.i64.wrap (n.tmod (IntKind.i64.wrap (q-(1:Int)))+IntKind.i64.wrap (q-(1:Int)))).tmod (IntKind.i64.wrap (q-(1:Int)))∧(IntKind.i64.wrap (n.tmod (IntKind.i64.wrap (q-(1:Int)))+IntKind.i64.wrap (q-(1:Int)))).tmod (IntKind.i64.wrap (q-(1:Int)))≤(4611686018427387904:Int))∧(Pl.pow (Pl.qA (D.iface (23:Nat) (D.rptr (fieldC q)))) (a%Pl.qF (D.rptr (fieldC q))) ((IntKind.i64.wrap (n.tmod (IntKind.i64.wrap (q-(1:Int)))+IntKind.i64.wrap (q-(1:Int)))).tmod (IntKind.i64.wrap (q-(1:Int)))),(0:Int),())=C38.post (fieldD q,a,n,()))))) (by kernel_rfl) ?_
 rw[qF_f,qA_f]
 have hp:C38.post (fieldD q,a,n,())=((Pl.powV q (a%q) n).1,(Pl.powV q (a%q) n).2,()):=rfl
 rw[hp]
 have q2:=hq.1
 have q6:=hq.2.1
 have hin:=emod_inQ hq a
 generalize a%q=x at*
 rw[wrap_i64 (x:=q-1) (by omega) (by omega),wrap_mod1 (by omega) (by omega)]
 have m0:=Int.emod_nonneg n (show q-1≠0 by omega)
 have m1:=Int.emod_lt_of_pos n (show 0<q-1 by omega)
 refine⟨okF_f hq,Br_of (fun h=> ?_) (fun h=>Br_of (fun h1=>Br_of (fun h2=> ?_) (fun h2=>Br_of (fun _=> ?_) (fun h3=>absurd h1 (by rw[h3];simp)))) (fun h1=>Br_of (fun h2=>absurd h2 (by rw[h1];simp)) (fun h2=> ?_)))⟩
 ·have h:n=0:=by simpa using h
  subst h;rfl
 ·have h1:x=0:=by simpa using h1
  subst h1
  rw[powV_neg (of_decide_eq_true h2)]
 ·have h:n≠0:=by simpa using h
  have h1:x=0:=by simpa using h1
  have h2: ¬n<0:=of_decide_eq_false h2
  subst h1
  rw[powV_z (by omega)]
 ·have h1:x≠0:=by simpa using h1
  rw[powV_x h1]
  exact⟨by omega,by omega,⟨okM_f hq,hin,m0,by omega⟩,rfl⟩
theorem nrc38:NRC C38:=⟨fun x hx=>⟨okF_nr hx,trivial,trivial,trivial⟩,fun x hx=>⟨trivial,trivial,trivial⟩⟩
theorem snd38:Sound Try.prog 38 C38:=fn_sound (T:=T38) (fn:=Try.f38) (tok0 ⟨snd95,snd100,trivial⟩) Try.func38 (by kernel_rfl) H0 vc38 (by kernel_rfl) (hC:=nrc38)
end Fd
end
section
set_option linter.unusedVariables false
set_option linter.unusedSimpArgs false
set_option maxRecDepth 100000
namespace Fd
open Go Fw Go.Proofs

def C142:Con:=⟨[L,I],[I],fun(x:List Int×Int×Unit)=>x.1.length≤1000000000,fun(x:List Int×Int×Unit)=>(Pl.index (fun c=>decide (x.2.1=c)) x.1 0,()),none⟩
def H142:Hints:=lo [(0,⟨[0,1,7],[(8,si)]⟩)]
def C106:Con:=⟨[L,I],[B],fun(x:List Int×Int×Unit)=>x.1.length≤1000000000,fun(x:List Int×Int×Unit)=>(x.1.any fun c=>decide (x.2.1=c),()),none⟩
def T106:Ctx:=TT [(142,C142)]
def Pl.trimN (l:List Int):Nat→Nat
 |0=>0
 |n+1=>bif decide (l.getD n 0=0)then Pl.trimN l n else n+1
def Pl.trim (l:List Int):List Int:=l.take (Pl.trimN l l.length)
def C143:Con:=⟨[L],[L],fun(x:List Int×Unit)=>x.1.length≤1000000000,fun(x:List Int×Unit)=>(Pl.trim x.1,()),none⟩
def H143:Hints:=lo [(0,⟨[0],[(3,si)]⟩)]
def Pl.pst (q:Int) (a b out:List Int) (i k:Nat):List Int:=out.set (i+k) (Pl.add q (out.getD (i+k) 0) (Pl.mul q (a.getD i 0) (b.getD k 0)))
def Pl.prow (q:Int) (a b:List Int) (i:Nat):Nat→List Int→List Int
 |0,out=>out
 |k+1,out=>Pl.pst q a b (Pl.prow q a b i k out) i k
def Pl.prws (q:Int) (a b:List Int):Nat→List Int
 |0=>List.replicate (a.length+b.length-1) 0
 |i+1=>Pl.prow q a b i b.length (Pl.prws q a b i)
def Pl.prod (q:Int) (a b:List Int):List Int:=bif decide (a.length=0)||decide (b.length=0)then []else Pl.prws q a b a.length
def Pl.okPr (q:Int) (a b:List Int):Prop:=(∀x∈a,Pl.inQ q x)∧(∀x∈b,Pl.inQ q x)∧a.length≤1000000∧b.length≤1000000
def C107:Con:=⟨[.raw,L,L],[L],fun(x:D×List Int×List Int×Unit)=>Pl.okF x.1∧Pl.okPr (Pl.qF x.1) x.2.1 x.2.2.1,fun(x:D×List Int×List Int×Unit)=>(Pl.trim (Pl.prod (Pl.qF x.1) x.2.1 x.2.2.1),()),none⟩
def H107:Hints:=⟨[],[(13,[1000007])],[(0,⟨[0,2,27,28],[(7,so),(29,si)]⟩),(2,⟨[0,2,8,9,27,28,29,34,35],[(7,so),(36,si)]⟩)],[],[]⟩
def T107:Ctx:=TF [(143,C143)]
def Pl.minL (q:Int) (l:List Int) (a:Int):Nat→Nat→List Int→List Int
 |0,_,out=>out
 |f+1,i,out=>bif decide (i<l.length)&&(decide (i=0)||decide (l.getD i 0≠a))then Pl.minL q l a f (i+1) (Pl.prod q out [Pl.neg q (l.getD i 0),1])else out
def Pl.minP (q a:Int):List Int:=Pl.minL q (Pl.cjs q a) a (Pl.cjs q a).length 0 [1]
def C59:Con:=⟨[.raw,I],[L],fun(x:D×Int×Unit)=>Pl.okF x.1,fun(x:D×Int×Unit)=>(Pl.minP (Pl.qF x.1) (x.2.1%Pl.qF x.1),()),none⟩
def H59:Hints:=lo [(0,⟨[0,6,17,18],[(5,sl),(19,si)]⟩)]
def T59:Ctx:=TF [(95,C95),(104,C104),(106,C106),(107,C107)]
end Fd
end
section
set_option linter.unusedVariables false
set_option linter.unusedSimpArgs false
set_option maxRecDepth 100000
namespace Fd
open Go Fw Go.Proofs

theorem vc142: ∀x,C142.pre x→VC (TT []) H142 Try.f142 C142 x:=by
 rintro⟨(l:List Int),(v:Int),⟨⟩⟩ (hl:l.length≤1000000000)
 refine cast (α:= ∃(n:Nat),itl (fun(G:Int×PUnit→Prop) (x:Int×PUnit)=>Br (decide (x.1<(↑l.length:Int))) ((0:Int)≤x.1∧x.1<(↑l.length:Int)∧Br (v==rd i64 l x.1) (x=C142.post (l,v,())) (G (IntKind.i64.wrap (x.1+(1:Int)),()))) (((-1:Int),())=C142.post (l,v,()))) n ((0:Int),())) (by kernel_rfl) ?_
 have hp:C142.post (l,v,())=(Pl.index (fun c=>decide (v=c)) l 0,()):=rfl
 rw[hp]
 refine itl_rule (fun s=> ∃i:Nat,s.1=(i:Int)∧i≤l.length∧Pl.index (fun c=>decide (v=c)) (l.drop i) (i:Int)=Pl.index (fun c=>decide (v=c)) l 0) (fun s=>((l.length:Int)-s.1).toNat) ⟨0,rfl,Nat.zero_le _,rfl⟩ ?_
 rintro⟨i0,⟨⟩⟩ G ⟨i,e,hi,hf⟩ hG
 simp only at e hf hG⊢
 subst e
 refine Br_of (fun h=> ?_) (fun h=> ?_)
 ·have h:i<l.length:=by have:=of_decide_eq_true h;omega
  rw[rd_i,wrap_i64 (by omega) (by omega)]
  rw[drop_cons 0 h,Pl.index]at hf
  refine⟨by omega,by omega,Br_of (fun h1=> ?_) (fun h1=> ?_)⟩
  ·rw[decide_eq_true (eq_of_beq h1),cond_true]at hf
   rw[←hf]
  ·rw[decide_eq_false (by simpa using h1),cond_false]at hf
   exact hG _ ⟨i+1,rfl,by omega,hf⟩ (by simp only;omega)
 ·have h:i=l.length:=by have:=of_decide_eq_false h;omega
  subst h
  rw[List.drop_length]at hf
  rw[←hf];rfl
theorem vc106: ∀x,C106.pre x→VC T106 H0 Try.f106 C106 x:=by
 rintro⟨(l:List Int),(v:Int),⟨⟩⟩ (hl:l.length≤1000000000)
 refine cast (α:=l.length≤(1000000000:Nat)∧(decide (Pl.index (fun(c:Int)=>decide (v=c)) l (0:Int)≥(0:Int)),())=C106.post (l,v,())) (by kernel_rfl) ?_
 refine⟨hl, ?_⟩
 show _=(l.any fun c=>decide (v=c),())
 congr 1
 rcases index_shift (fun c=>decide (v=c)) l 0 with⟨h1,h2⟩|⟨j,h1,h2,h3,h4,h5⟩
 ·rw[h1,h2];rfl
 ·rw[h2,h5];exact decide_eq_true (by omega)
theorem vc143: ∀x,C143.pre x→VC (TT []) H143 Try.f143 C143 x:=by
 rintro⟨(l:List Int),⟨⟩⟩ (hl:l.length≤1000000000)
 refine cast (α:= ∃(n:Nat),itl (fun(G:Int×PUnit→Prop) (x:Int×PUnit)=>Br (decide (x.1>(0:Int))) ((0:Int)≤IntKind.i64.wrap (x.1-(1:Int))∧IntKind.i64.wrap (x.1-(1:Int))<(↑l.length:Int)∧Br (rd i64 l (IntKind.i64.wrap (x.1-(1:Int)))==(0:Int)) (G (IntKind.i64.wrap (x.1-(1:Int)),())) ((0:Int)≤x.1∧x.1≤(↑l.length:Int)∧x.1=x.1∧(sub l (0:Int) x.1,())=C143.post (l,()))) ((0:Int)≤x.1∧x.1≤(↑l.length:Int)∧x.1=x.1∧(sub l (0:Int) x.1,())=C143.post (l,()))) n ((↑l.length:Int),())) (by kernel_rfl) ?_
 have hp:C143.post (l,())=(l.take (Pl.trimN l l.length),()):=rfl
 rw[hp]
 refine itl_rule (fun s=> ∃i:Nat,s.1=(i:Int)∧i≤l.length∧Pl.trimN l i=Pl.trimN l l.length) (fun s=>s.1.toNat) ⟨l.length,rfl,Nat.le_refl _,rfl⟩ ?_
 rintro⟨i0,⟨⟩⟩ G ⟨i,e,hi,hf⟩ hG
 simp only at e hf hG⊢
 subst e
 have hsub: ∀n:Nat,sub l (0:Int) (n:Int)=l.take n:=fun n=>by unfold sub;simp
 refine Br_of (fun h=> ?_) (fun h=> ?_)
 ·have h:0<i:=by have:=of_decide_eq_true h;omega
  rw[wrap_i64 (by omega) (by omega),show((i:Int)-1)=((i-1:Nat):Int)by omega,rd_i]
  rw[show i=(i-1)+1 by omega,Pl.trimN]at hf
  refine⟨by omega,by omega,Br_of (fun h1=> ?_) (fun h1=> ?_)⟩
  ·rw[decide_eq_true (eq_of_beq h1),cond_true]at hf
   exact hG _ ⟨i-1,rfl,by omega,hf⟩ (by simp only;omega)
  ·rw[decide_eq_false (by simpa using h1),cond_false]at hf
   exact⟨by omega,by omega,trivial,by rw[hsub, ←hf,show i-1+1=i by omega]⟩
 ·have h:i=0:=by have:=of_decide_eq_false h;omega
  subst h
  exact⟨by omega,by omega,trivial,by rw[hsub, ←hf];rfl⟩
section
variable {q : Int} (hq : isQ q) {a b : List Int}
include hq
theorem pst_ok {out:List Int} {i k:Nat} (ho: ∀x∈out,Pl.inQ q x):(Pl.pst q a b out i k).length=out.length∧ ∀x∈Pl.pst q a b out i k,Pl.inQ q x:=by
 unfold Pl.pst
 refine⟨List.length_set,fun x hx=> ?_⟩
 rcases List.mem_or_eq_of_mem_set hx with h|rfl
 ·exact ho x h
 ·exact add_inQ hq _ _
theorem prow_ok (i:Nat): ∀(k:Nat) {out:List Int},(∀x∈out,Pl.inQ q x)→(Pl.prow q a b i k out).length=out.length∧ ∀x∈Pl.prow q a b i k out,Pl.inQ q x
 |0,_,h=>⟨rfl,h⟩
 |k+1,out,h=>by
  obtain⟨h1,h2⟩:=prow_ok i k h
  obtain⟨h3,h4⟩:=pst_ok hq (a:=a) (b:=b) (i:=i) (k:=k) h2
  exact⟨h3.trans h1,h4⟩
theorem prws_ok: ∀i:Nat,(Pl.prws q a b i).length=a.length+b.length-1∧ ∀x∈Pl.prws q a b i,Pl.inQ q x
 |0=>⟨List.length_replicate,fun x hx=>by rw[List.eq_of_mem_replicate hx];exact zero_inQ hq⟩
 |i+1=>by
  obtain⟨h1,h2⟩:=prws_ok i
  obtain⟨h3,h4⟩:=prow_ok hq (a:=a) (b:=b) i b.length h2
  exact⟨h3.trans h1,h4⟩
theorem prod_ok:(Pl.prod q a b).length≤a.length+b.length∧ ∀x∈Pl.prod q a b,Pl.inQ q x:=by
 unfold Pl.prod
 cases h:decide (a.length=0)||decide (b.length=0)with
 |true=>exact⟨Nat.zero_le _,fun x hx=>by cases hx⟩
 |false=>
  obtain⟨h1,h2⟩:=prws_ok hq (a:=a) (b:=b) a.length
  exact⟨by rw[cond_false,h1];omega,h2⟩
end
theorem vc107: ∀x,C107.pre x→VC T107 H107 Try.f107 C107 x:=by
 rintro⟨v,(a:List Int),(b:List Int),⟨⟩⟩ ⟨⟨q,hq,(rfl:v=_)⟩,(hab:Pl.okPr (Pl.qF (fieldD q)) a b)⟩
 rw[qF_d]at hab
 obtain⟨ha,hb,la,lb⟩:=hab
 refine cast (α:=Br ((↑a.length:Int)==(0:Int)) (([],())=C107.post (fieldD q,a,b,())) (Br ((↑b.length:Int)==(0:Int)) (([],())=C107.post (fieldD q,a,b,())) ((0:Int)≤IntKind.i64.wrap (IntKind.i64.wrap ((↑a.length:Int)+(↑b.length:Int))-(1:Int))∧IntKind.i64.wrap (IntKind.i64.wrap ((↑a.length:Int)+(↑b.length:Int))-(1:Int))=IntKind.i64.wrap (IntKind.i64.wrap ((↑a.length:Int)+(↑b.length:Int))-(1:Int))∧IntKind.i64.wrap (IntKind.i64.wrap ((↑a.length:Int)+(↑b.length:Int))-(1:Int))*(8:Int)≤(140737488355328:Int)∧ ∃(n:Nat),itl (fun(G:List Int×Int×PUnit→Prop) (x:List Int×Int×PUnit)=>Br (decide (x.2.1<(↑a.length:Int))) ((0:Int)≤x.2.1∧x.2.1<(↑a.length:Int)∧ ∃(n:Nat),itl (fun(G_1:List Int×Int×PUnit→Prop) (x_1:List Int×Int×PUnit)=>Br (decide (x_1.2.1<(↑b.length:Int))) ((0:Int)≤x_1.2.1∧x_1.2.1<(↑b.length:Int)∧(0:Int)≤IntKind.i64.wrap (x.2.1+x_1.2.1)∧IntKind.i64.wrap (x.2.1+x_1.2.1)<(↑(List.length x_1.1):Int)∧(0:Int)≤IntKind.i64.wrap (x.2.1+x_1.2.1)∧IntKind.i64.wrap (x.2.1+x_1.2.1)<(↑(List.length x_1.1):Int)∧(Pl.okM (arD q)∧Pl.inQ (Pl.qA (arD q)) (rd i64 a x.2.1)∧Pl.inQ (Pl.qA (arD q)) (rd i64 b x_1.2.1))∧(Pl.okA (arD q)∧Pl.inQ (Pl.qA (arD q)) (rd i64 x_1.1 (IntKind.i64.wrap (x.2.1+x_1.2.1)))∧Pl.inQ (Pl.qA (arD q)) (Pl.mul (Pl.qA (arD q)) (rd i64 a x.2.1) (rd i64 b x_1.2.1)))∧(0:Int)≤IntKind.i64.wrap (x.2.1+x_1.2.1)∧IntKind.i64.wrap (x.2.1+x_1.2.1)<(↑(List.length x_1.1):Int)∧(0:Int)≤IntKind.i64.wrap (x.2.1+x_1.2.1)∧IntKind.i64.wrap (x.2.1+x_1.2.1)<(↑(List.length x_1.1):Int)∧G_1 (List.set x_1.1 (IntKind.i64.wrap (x.2.1+x_1.2.1)).toNat (Pl.add (Pl.qA (arD q)) (rd i64 x_1.1 (IntKind.i64.wrap (x.2.1+x_1.2.1))) (Pl.mul (Pl.qA (arD q)) (rd i64 a x.2.1) (rd i64 b x_1.2.1))),IntKind.i64.wrap (x_1.2.1+(1:Int)),())) (G (x_1.1,IntKind.i64.wrap (x.2.1+(1:Int)),()))) n (x.1,(0:Int),())) (x.1.length≤(1000000000:Nat)∧(Pl.trim x.1,())=C107.post (fieldD q,a,b,()))) n (List.replicate (IntKind.i64.wrap (IntKind.i64.wrap ((↑a.length:Int)+(↑b.length:Int))-(1:Int))).toNat (0:Int),(0:Int),())))) (by kernel_rfl) ?_
 rw[qA_ar hq]
 have hp:C107.post (fieldD q,a,b,())=(Pl.trim (Pl.prod q a b),()):=rfl
 rw[hp]
 refine Br_of (fun h=> ?_) (fun h=>Br_of (fun h1=> ?_) (fun h1=> ?_))
 ·have h:a.length=0:=by have:=eq_of_beq h;omega
  unfold Pl.prod;rw[decide_eq_true h];rfl
 ·have h1:b.length=0:=by have:=eq_of_beq h1;omega
  unfold Pl.prod;rw[decide_eq_true h1,Bool.or_true];rfl
 have h:a.length≠0:=fun e=>by rw[e]at h;cases h
 have h1:b.length≠0:=fun e=>by rw[e]at h1;cases h1
 have hprod:Pl.prod q a b=Pl.prws q a b a.length:=by unfold Pl.prod;rw[decide_eq_false h,decide_eq_false h1];rfl
 rw[hprod,wrap_i64 (x:=(a.length:Int)+b.length) (by omega) (by omega),wrap_i64 (x:=(a.length:Int)+b.length-1) (by omega) (by omega)]
 refine⟨by omega,rfl,by omega,itl_rule (fun s=> ∃i:Nat,s.2.1=(i:Int)∧i≤a.length∧s.1=Pl.prws q a b i) (fun s=>((a.length:Int)-s.2.1).toNat) ⟨0,rfl,Nat.zero_le _,by show List.replicate _ _=List.replicate _ _;congr 1;omega⟩ ?_⟩
 rintro⟨out,i0,⟨⟩⟩ G ⟨i,e,hi,ho⟩ hG
 simp only at e ho hG⊢
 subst e ho
 refine Br_of (fun h2=> ?_) (fun h2=> ?_)
 ·have h2:i<a.length:=by have:=of_decide_eq_true h2;omega
  obtain⟨r1,r2⟩:=prws_ok hq (a:=a) (b:=b) i
  refine⟨by omega,by omega,itl_rule (fun s=> ∃k:Nat,s.2.1=(k:Int)∧k≤b.length∧s.1=Pl.prow q a b i k (Pl.prws q a b i)) (fun s=>((b.length:Int)-s.2.1).toNat) ⟨0,rfl,Nat.zero_le _,rfl⟩ ?_⟩
  rintro⟨out,k0,⟨⟩⟩ G1 ⟨k,e,hk,ho⟩ hG1
  simp only at e ho hG1⊢
  subst e ho
  refine Br_of (fun h3=> ?_) (fun h3=> ?_)
  ·have h3:k<b.length:=by have:=of_decide_eq_true h3;omega
   obtain⟨s1,s2⟩:=prow_ok hq (a:=a) (b:=b) i k r2
   rw[wrap_i64 (x:=(i:Int)+k) (by omega) (by omega),wrap_i64 (x:=(k:Int)+1) (by omega) (by omega),show(i:Int)+k=((i+k:Nat):Int)from rfl,rd_i,rd_i,rd_i,s1,r1,Int.toNat_natCast]
   have hin:=getD_inQ s2 (j:=i+k) (by rw[s1,r1];omega)
   exact⟨by omega,by omega,by omega,by omega,by omega,by omega,⟨okM_ar hq,getD_inQ ha h2,getD_inQ hb h3⟩,⟨okA_ar hq,hin,mul_inQ hq _ _⟩,by omega,by omega,by omega,by omega,hG1 _ ⟨k+1,rfl,by omega,rfl⟩ (by simp only;omega)⟩
  ·have h3:k=b.length:=by have:=of_decide_eq_false h3;omega
   subst h3
   rw[wrap_i64 (x:=(i:Int)+1) (by omega) (by omega)]
   exact hG _ ⟨i+1,rfl,by omega,rfl⟩ (by simp only;omega)
 ·have h2:i=a.length:=by have:=of_decide_eq_false h2;omega
  subst h2
  have:=(prws_ok hq (a:=a) (b:=b) a.length).1
  exact⟨by omega,rfl⟩
end Fd
end
section
set_option linter.unusedVariables false
set_option linter.unusedSimpArgs false
set_option linter.unusedSectionVars false
set_option maxRecDepth 100000
namespace Fd
open Go Fw Go.Proofs

section
variable {q : Int} (hq : isQ q)
include hq
theorem getD_set (l:List Int) (i j:Nat) (x:Int):(l.set i x).getD j 0=if i=j∧i<l.length then x else l.getD j 0:=by
 rw[List.getD_eq_getElem?_getD,List.getElem?_set]
 by_cases e:i=j
 ·subst e
  by_cases h:i<l.length
  ·rw[if_pos rfl,if_pos h,if_pos ⟨rfl,h⟩];rfl
  ·rw[if_pos rfl,if_neg h,if_neg (fun hh=>h hh.2),List.getD_eq_getElem?_getD,List.getElem?_eq_none (by omega)]
 ·rw[if_neg e,if_neg (fun hh=>e hh.1),List.getD_eq_getElem?_getD]
theorem prow_far {a b:List Int} (i:Nat): ∀(k:Nat) (out:List Int) (j:Nat),i+k≤j→(Pl.prow q a b i k out).getD j 0=out.getD j 0
 |0,_,_,_=>rfl
 |k+1,out,j,h=>by
  rw[Pl.prow,Pl.pst,getD_set hq,if_neg (by omega),prow_far i k out j (by omega)]
theorem prws_far {a b:List Int} (hb:0<b.length): ∀(i j:Nat),i+b.length-1≤j→(Pl.prws q a b i).getD j 0=0
 |0,j,_=>by
  rw[Pl.prws,List.getD_eq_getElem?_getD,List.getElem?_replicate]
  split<;>rfl
 |i+1,j,h=>by rw[Pl.prws,prow_far hq i b.length _ j (by omega),prws_far hb i j (by omega)]
def Pl.mon (q:Int) (l:List Int):Prop:=0<l.length∧l.getD (l.length-1) 0=1∧ ∀x∈l,Pl.inQ q x
theorem prod_mon {a:List Int} {c:Int} (ha:Pl.mon q a):Pl.mon q (Pl.prod q a [c,1])∧(Pl.prod q a [c,1]).length=a.length+1:=by
 obtain⟨h1,h2,h3⟩:=ha
 have ok:=fld_ok hq
 have hp:Pl.prod q a [c,1]=Pl.prws q a [c,1] a.length:=by unfold Pl.prod;rw[decide_eq_false (show a.length≠0 by omega)];rfl
 obtain⟨l1,l2⟩:=prws_ok hq (a:=a) (b:=[c,1]) a.length
 have l1:(Pl.prws q a [c,1] a.length).length=a.length+1:=l1
 rw[hp]
 refine⟨⟨by omega, ?_,l2⟩,l1⟩
 rw[l1,Nat.add_sub_cancel]
 obtain⟨n,hn⟩: ∃n,a.length=n+1:=⟨a.length-1,by omega⟩
 rw[hn]at h2 l1⊢
 rw[Nat.add_sub_cancel]at h2
 obtain⟨r1,r2⟩:=prws_ok hq (a:=a) (b:=[c,1]) n
 obtain⟨s1,s2⟩:=prow_ok hq (a:=a) (b:=[c,1]) n 1 r2
 show(Pl.pst q a [c,1] (Pl.prow q a [c,1] n 1 (Pl.prws q a [c,1] n)) n 1).getD (n+1) 0=1
 rw[Pl.pst,getD_set hq,if_pos ⟨rfl,by rw[s1,r1,hn];show n+1<n+1+2-1;omega⟩,prow_far hq n 1 _ (n+1) (by omega),prws_far hq (by show 0<2;omega) n (n+1) (by show n+2-1≤n+1;omega),h2]
 show(fld q).add 0 ((fld q).mul 1 1)=1
 rw[Fm.Fld.one_mul ok (Fm.Fld.in1 ok),Fm.Fld.zero_add ok (Fm.Fld.in1 ok)]
theorem trim_mon {l:List Int} (h:Pl.mon q l):Pl.trim l=l:=by
 obtain⟨h1,h2,_⟩:=h
 unfold Pl.trim
 obtain⟨n,hn⟩: ∃n,l.length=n+1:=⟨l.length-1,by omega⟩
 rw[hn,Nat.add_sub_cancel]at h2
 rw[hn,Pl.trimN,h2,decide_eq_false (show¬(1:Int)=0 by omega),cond_false, ←hn,List.take_length]
theorem sub_zero_neg (x:Int):Pl.sub q 0 x=Pl.neg q x:=by
 have ok:=fld_ok hq
 show(fld q).sub 0 x=(fld q).neg x
 rw[Fm.Fld.sub_eq ok,Fm.Fld.zero_add ok (Fm.Fld.neg_in ok x)]
theorem mon_one:Pl.mon q [1]:=⟨by show 0<1;omega,rfl,fun x hx=>by rw[List.mem_singleton.1 hx];exact one_inQ hq⟩
theorem conj_get: ∀(n i:Nat) (a:Int),i<n→(Pl.conj q n a).getD i 0=(fld q).pow a ((Pl.lpf q).toNat^i)∨ ¬Pl.inQ q a
 |0,i,a,h=>by omega
 |n+1,0,a,_=>by
  by_cases ha:Pl.inQ q a
  ·left
   show a=(fld q).pow a 1
   rw[Fm.Fld.pow_one (fld_ok hq) ((in_iff hq a).2 ha)]
  ·exact .inr ha
 |n+1,i+1,a,h=>by
  by_cases ha:Pl.inQ q a
  ·left
   rcases conj_get n i (Pl.pow q a (Pl.lpf q)) (by omega)with h1|h1
   ·show(Pl.conj q n (Pl.pow q a (Pl.lpf q))).getD i 0=_
    rw[h1]
    show(fld q).pow ((fld q).pow a (Pl.lpf q).toNat) _=_
    rw[←Fm.Fld.pow_mul (fld_ok hq),Nat.pow_succ,Nat.mul_comm]
   ·exact absurd (pow_inQ hq a _) h1
  ·exact .inr ha
theorem cjs_get {a:Int} (ha:Pl.inQ q a) {i:Nat} (h:i<(Pl.cjs q a).length):(Pl.cjs q a).getD i 0=(fld q).pow a ((Pl.lpf q).toNat^i):=by
 rcases conj_get hq (Pl.K q).toNat i a (by unfold Pl.cjs at h;rwa [conj_len]at h)with h1|h1
 ·exact h1
 ·exact absurd ha h1
theorem pow_qq {x:Int} (hx:Pl.inQ q x):(fld q).pow x q.toNat=x:=by
 have ok:=fld_ok hq
 have q2:=hq.1
 by_cases h0:x=0
 ·subst h0;exact Fm.Fld.zero_pow ok (by omega)
 ·rw[show q.toNat=(q.toNat-1)+1 by omega,Fm.Fld.pow,fermat hq hx.1 hx.2 h0,Fm.Fld.one_mul ok ((in_iff hq x).2 hx)]
theorem frob_inj {x y:Int} (hx:Pl.inQ q x) (hy:Pl.inQ q y) {j:Nat} (hj:j≤(Pl.K q).toNat) (h:(fld q).pow x ((Pl.lpf q).toNat^j)=(fld q).pow y ((Pl.lpf q).toNat^j)):x=y:=by
 have ok:=fld_ok hq
 have hQ:q.toNat=(Pl.lpf q).toNat^j*(Pl.lpf q).toNat^((Pl.K q).toNat-j):=by
  rw[←Nat.pow_add,show j+((Pl.K q).toNat-j)=(Pl.K q).toNat by omega]
  have:=isQ.natpow hq
  omega
 have e:(fld q).pow ((fld q).pow x ((Pl.lpf q).toNat^j)) ((Pl.lpf q).toNat^((Pl.K q).toNat-j))=(fld q).pow ((fld q).pow y ((Pl.lpf q).toNat^j)) ((Pl.lpf q).toNat^((Pl.K q).toNat-j)):=by rw[h]
 rw[←Fm.Fld.pow_mul ok, ←Fm.Fld.pow_mul ok, ←hQ,pow_qq hq hx,pow_qq hq hy]at e
 exact e
theorem cjs_back {a:Int} (ha:Pl.inQ q a) {i j:Nat} (hi:i<(Pl.cjs q a).length) (hji:j≤i) (h:(Pl.cjs q a).getD j 0=(Pl.cjs q a).getD i 0):(Pl.cjs q a).getD (i-j) 0=a:=by
 have ok:=fld_ok hq
 have hl:(Pl.cjs q a).length=(Pl.K q).toNat:=by unfold Pl.cjs;rw[conj_len]
 rw[cjs_get hq ha (by omega),cjs_get hq ha hi]at h
 rw[cjs_get hq ha (by omega)]
 refine frob_inj hq ((in_iff hq _).1 (Fm.Fld.pow_in ok _ _)) ha (j:=j) (by omega) ?_
 rw[h, ←Fm.Fld.pow_mul ok, ←Nat.pow_add,show i-j+j=i by omega]
theorem again_iff {a:Int} (ha:Pl.inQ q a) {i:Nat} (hi:i<(Pl.cjs q a).length) (hn: ∀j,1≤j→j<i→(Pl.cjs q a).getD j 0≠a):
  (((Pl.cjs q a).take i).any fun c=>decide ((Pl.cjs q a).getD i 0=c))= !(decide (i=0)||decide ((Pl.cjs q a).getD i 0≠a)):=by
 have hl:(Pl.cjs q a).length=(Pl.K q).toNat:=by unfold Pl.cjs;rw[conj_len]
 have h0:(Pl.cjs q a).getD 0 0=a:=by
  rw[cjs_get hq ha (by omega)]
  show(fld q).pow a 1=a
  rw[Fm.Fld.pow_one (fld_ok hq) ((in_iff hq a).2 ha)]
 by_cases hi0:i=0
 ·subst hi0;rfl
 rw[decide_eq_false hi0,Bool.false_or]
 by_cases e:(Pl.cjs q a).getD i 0=a
 ·rw[decide_eq_false (not_not_intro e)]
  refine List.any_eq_true.2 ⟨a, ?_,decide_eq_true e⟩
  have:((Pl.cjs q a).take i).getD 0 0=a:=by
   rw[List.getD_eq_getElem?_getD,List.getElem?_take,if_pos (by omega), ←List.getD_eq_getElem?_getD,h0]
  have hmem:=getD_mem (l:=(Pl.cjs q a).take i) (i:=0) (by rw[List.length_take];omega)
  rw[this]at hmem
  exact hmem
 ·rw[decide_eq_true e]
  refine List.any_eq_false.2 fun c hc=> ?_
  intro hd
  have hd:=of_decide_eq_true hd
  obtain⟨j,hj,rfl⟩:=List.mem_iff_getElem.1 hc
  rw[List.length_take]at hj
  have hj':j<i:=by omega
  have hg:(Pl.cjs q a).getD j 0=(Pl.cjs q a).getD i 0:=by
   rw[hd,List.getElem_take,List.getD_eq_getElem?_getD,List.getElem?_eq_getElem (by omega)];rfl
  by_cases hj0:j=0
  ·subst hj0;rw[h0]at hg;exact e hg.symm
  ·exact hn (i-j) (by omega) (by omega) (cjs_back hq ha hi (by omega) hg)
end
theorem vc59: ∀x,C59.pre x→VC T59 H59 Try.f59 C59 x:=by
 rintro⟨v,(a:Int),⟨⟩⟩ ⟨q,hq,(rfl:v=_)⟩
 refine cast (α:=Pl.okF (D.rptr (fieldC q))∧(Pl.okF (D.rptr (fieldC q))∧Pl.inQ (Pl.qF (D.rptr (fieldC q))) (a%Pl.qF (D.rptr (fieldC q))))∧ ∃(n:Nat),itl (fun(G:List Int×Int×PUnit→Prop) (x:List Int×Int×PUnit)=>Br (decide (x.2.1<(↑(Pl.cjs (Pl.qF (D.rptr (fieldC q))) (a%Pl.qF (D.rptr (fieldC q)))).length:Int))) ((0:Int)≤x.2.1∧x.2.1<(↑(Pl.cjs (Pl.qF (D.rptr (fieldC q))) (a%Pl.qF (D.rptr (fieldC q)))).length:Int)∧(0:Int)≤x.2.1∧x.2.1≤(↑(Pl.cjs (Pl.qF (D.rptr (fieldC q))) (a%Pl.qF (D.rptr (fieldC q)))).length:Int)∧(sub (Pl.cjs (Pl.qF (D.rptr (fieldC q))) (a%Pl.qF (D.rptr (fieldC q)))) (0:Int) x.2.1).length≤(1000000000:Nat)∧Br ((sub (Pl.cjs (Pl.qF (D.rptr (fieldC q))) (a%Pl.qF (D.rptr (fieldC q)))) (0:Int) x.2.1).any fun(c:Int)=>decide (rd i64 (Pl.cjs (Pl.qF (D.rptr (fieldC q))) (a%Pl.qF (D.rptr (fieldC q)))) x.2.1=c)) ((x.1,())=C59.post (fieldD q,a,())) ((Pl.okA (arD q)∧Pl.inQ (Pl.qA (arD q)) (0:Int)∧Pl.inQ (Pl.qA (arD q)) (rd i64 (Pl.cjs (Pl.qF (D.rptr (fieldC q))) (a%Pl.qF (D.rptr (fieldC q)))) x.2.1))∧(Pl.okF (D.rptr (fieldC q))∧Pl.okPr (Pl.qF (D.rptr (fieldC q))) x.1 [Pl.sub (Pl.qA (arD q)) (0:Int) (rd i64 (Pl.cjs (Pl.qF (D.rptr (fieldC q))) (a%Pl.qF (D.rptr (fieldC q)))) x.2.1),(1:Int)])∧G (Pl.trim (Pl.prod (Pl.qF (D.rptr (fieldC q))) x.1 [Pl.sub (Pl.qA (arD q)) (0:Int) (rd i64 (Pl.cjs (Pl.qF (D.rptr (fieldC q))) (a%Pl.qF (D.rptr (fieldC q)))) x.2.1),(1:Int)]),IntKind.i64.wrap (x.2.1+(1:Int)),()))) ((x.1,())=C59.post (fieldD q,a,()))) n ([(1:Int)],(0:Int),())) (by kernel_rfl) ?_
 rw[qF_f,qA_ar hq]
 have hp:C59.post (fieldD q,a,())=(Pl.minP q (a%q),()):=rfl
 rw[hp]
 have hy:=emod_inQ hq a
 generalize a%q=y at*
 have hl17:=cjs_len hq y
 have hin:=cjs_in hq hy
 have hback:=fun(i:Nat) (hi:i<(Pl.cjs q y).length) hn=>again_iff hq hy hi hn
 have hmin:Pl.minP q y=Pl.minL q (Pl.cjs q y) y (Pl.cjs q y).length 0 [1]:=rfl
 rw[hmin]
 generalize Pl.cjs q y=l at*
 have hsub: ∀n:Nat,sub l (0:Int) (n:Int)=l.take n:=fun n=>by unfold sub;simp
 refine⟨okF_f hq,⟨okF_f hq,hy⟩,itl_rule (fun s=> ∃i:Nat,s.2.1=(i:Int)∧i≤l.length∧Pl.mon q s.1∧s.1.length=i+1∧(∀j,1≤j→j<i→l.getD j 0≠y)∧Pl.minL q l y (l.length-i) i s.1=Pl.minL q l y l.length 0 [1]) (fun s=>((l.length:Int)-s.2.1).toNat)
  ⟨0,rfl,Nat.zero_le _,mon_one hq,rfl,fun j h1 h2=>by omega,rfl⟩ ?_⟩
 rintro⟨out,i0,⟨⟩⟩ G ⟨i,e,hi,hm,hlen,hn,hf⟩ hG
 simp only at e hm hlen hf hG⊢
 subst e
 refine Br_of (fun h=> ?_) (fun h=> ?_)
 ·have h:i<l.length:=by have:=of_decide_eq_true h;omega
  rw[hsub,rd_i,hback i h hn,wrap_i64 (by omega) (by omega),sub_zero_neg hq]
  rw[show l.length-i=(l.length-(i+1))+1 by omega,Pl.minL,decide_eq_true h,Bool.true_and]at hf
  refine⟨by omega,by omega,by omega,by omega,by rw[List.length_take];omega,Br_of (fun h1=> ?_) (fun h1=> ?_)⟩
  ·have h1:(decide (i=0)||decide (l.getD i 0≠y))=false:=by simpa using h1
   rw[h1,cond_false]at hf
   rw[←hf]
  ·have h1:(decide (i=0)||decide (l.getD i 0≠y))=true:=by
    cases hb:decide (i=0)||decide (l.getD i 0≠y)with
    |true=>rfl
    |false=>rw[hb]at h1;cases h1
   rw[h1,cond_true]at hf
   obtain⟨m1,m2⟩:=prod_mon hq (c:=Pl.neg q (l.getD i 0)) hm
   rw[trim_mon hq m1]
   refine⟨⟨okA_ar hq,zero_inQ hq,getD_inQ hin h⟩,⟨okF_f hq,hm.2.2, ?_,by omega,by show 2≤1000000;omega⟩,hG _ ⟨i+1,rfl,by omega,m1,by rw[m2,hlen],fun j j1 j2=> ?_,hf⟩ (by simp only;omega)⟩
   ·intro x hx
    simp at hx
    rcases hx with rfl|rfl
    ·exact neg_inQ hq _
    ·exact one_inQ hq
   ·by_cases ej:j=i
    ·subst ej
     rw[decide_eq_false (show j≠0 by omega),Bool.false_or]at h1
     exact of_decide_eq_true h1
    ·exact hn j j1 (by omega)
 ·have h:i=l.length:=by have:=of_decide_eq_false h;omega
  subst h
  rw[Nat.sub_self,Pl.minL]at hf
  rw[←hf]
theorem nrc107:NRC C107:=⟨fun x hx=>⟨okF_nr hx.1,rfl,rfl,trivial⟩,fun x hx=>⟨rfl,trivial⟩⟩
theorem nrc59:NRC C59:=⟨fun x hx=>⟨okF_nr hx,trivial,trivial⟩,fun x hx=>⟨rfl,trivial⟩⟩
theorem snd142:Sound Try.prog 142 C142:=fn_sound (T:=TT []) (fn:=Try.f142) (tok0 trivial) Try.func142 (by kernel_rfl) H142 vc142 (by kernel_rfl)
theorem snd106:Sound Try.prog 106 C106:=fn_sound (T:=T106) (fn:=Try.f106) (tok0 ⟨snd142,trivial⟩) Try.func106 (by kernel_rfl) H0 vc106 (by kernel_rfl)
theorem snd143:Sound Try.prog 143 C143:=fn_sound (T:=TT []) (fn:=Try.f143) (tok0 trivial) Try.func143 (by kernel_rfl) H143 vc143 (by kernel_rfl)
theorem snd107:Sound Try.prog 107 C107:=fn_sound (T:=T107) (fn:=Try.f107) (tokF ⟨snd143,trivial⟩) Try.func107 (by kernel_rfl) H107 vc107 (by kernel_rfl) (hC:=nrc107)
theorem snd59:Sound Try.prog 59 C59:=fn_sound (T:=T59) (fn:=Try.f59) (tokF ⟨snd95,snd104,snd106,snd107,trivial⟩) Try.func59 (by kernel_rfl) H59 vc59 (by kernel_rfl) (hC:=nrc59)
end Fd
end
section
set_option linter.unusedVariables false
set_option linter.unusedSimpArgs false
set_option maxRecDepth 100000
namespace Fd
open Go Fw Go.Proofs

def Pl.chk (q:Int) (p:List Int):Int:=bif decide (p.length>200)then 2 else bif (!Pl.els q p)||(decide (p.length>0)&&decide (p.getD (p.length-1) 0=0))then 1 else 0
abbrev DL:=D×List Int×Unit
abbrev DLL:=D×List Int×List Int×Unit
def Pl.len9 (l:List Int):Prop:=l.length≤1000000000
def C77:Con:=⟨[.raw,L],[I],fun(x:DL)=>Pl.okF x.1∧Pl.len9 x.2.1,fun(x:DL)=>(Pl.chk (Pl.qF x.1) x.2.1,()),none⟩
def T77:Ctx:=TT [(93,C93)]
end Fd
end
section
set_option linter.unusedVariables false
set_option linter.unusedSimpArgs false
set_option maxRecDepth 100000
namespace Fd
open Go Fw Go.Proofs

theorem chk_long {q:Int} {p:List Int} (h:p.length>200):Pl.chk q p=2:=by unfold Pl.chk;rw[decide_eq_true h];rfl
theorem chk_els {q:Int} {p:List Int} (h: ¬p.length>200) (h1:Pl.els q p=false):Pl.chk q p=1:=by unfold Pl.chk;rw[decide_eq_false h,h1];rfl
theorem chk_top {q:Int} {p:List Int} (h: ¬p.length>200) (h0:0<p.length) (h1:p.getD (p.length-1) 0=0):Pl.chk q p=1:=by
 unfold Pl.chk;rw[decide_eq_false h,decide_eq_true (show p.length>0 from h0),decide_eq_true h1,Bool.and_true,Bool.or_true];rfl
theorem chk_ok {q:Int} {p:List Int} (h: ¬p.length>200) (h1:Pl.els q p=true) (h2:0<p.length→p.getD (p.length-1) 0≠0):Pl.chk q p=0:=by
 unfold Pl.chk
 rw[decide_eq_false h,h1]
 by_cases h0:0<p.length
 ·rw[decide_eq_false (h2 h0),Bool.and_false];rfl
 ·rw[decide_eq_false h0];rfl
theorem nrcL {p:DL→Prop} {res:List Ar} {f:DL→Ars res} (h: ∀x,p x→Pl.okF x.1) (hr: ∀x,p x→D.nrs (encs res (f x))):NRC ⟨[.raw,L],res,p,f,none⟩:=⟨fun x hx=>⟨okF_nr (h x hx),rfl,trivial⟩,hr⟩
theorem nrcLL {p:DLL→Prop} {res:List Ar} {f:DLL→Ars res} (h: ∀x,p x→Pl.okF x.1) (hr: ∀x,p x→D.nrs (encs res (f x))):NRC ⟨[.raw,L,L],res,p,f,none⟩:=⟨fun x hx=>⟨okF_nr (h x hx),rfl,rfl,trivial⟩,hr⟩
theorem vc77: ∀x,C77.pre x→VC T77 H0 Try.f77 C77 x:=by
 rintro⟨v,(l:List Int),⟨⟩⟩ ⟨⟨q,hq,(rfl:v=_)⟩,(hl:l.length≤1000000000)⟩
 refine cast (α:=Br (decide ((↑l.length:Int)>(200:Int))) (((2:Int),())=C77.post (fieldD q,l,())) ((Pl.okF (D.rptr (fieldC q))∧l.length≤(1000000000:Nat))∧Br (!Pl.els (Pl.qF (D.rptr (fieldC q))) l) (((1:Int),())=C77.post (fieldD q,l,())) (Br (decide ((↑l.length:Int)>(0:Int))) ((0:Int)≤IntKind.i64.wrap ((↑l.length:Int)-(1:Int))∧IntKind.i64.wrap ((↑l.length:Int)-(1:Int))<(↑l.length:Int)∧Br (rd i64 l (IntKind.i64.wrap ((↑l.length:Int)-(1:Int)))==(0:Int)) (((1:Int),())=C77.post (fieldD q,l,())) (((0:Int),())=C77.post (fieldD q,l,()))) (((0:Int),())=C77.post (fieldD q,l,()))))) (by kernel_rfl) ?_
 have hp:C77.post (fieldD q,l,())=(Pl.chk q l,()):=rfl
 rw[hp,qF_f]
 refine Br_of (fun h=> ?_) (fun h=>⟨⟨okF_f hq,hl⟩,Br_of (fun h1=> ?_) (fun h1=>Br_of (fun h2=> ?_) (fun h2=> ?_))⟩)
 ·rw[chk_long (by have:=of_decide_eq_true h;omega)]
 all_goals have h: ¬l.length>200:=by have:=of_decide_eq_false h;omega
 ·rw[chk_els h (by simpa using h1)]
 all_goals have h1:Pl.els q l=true:=by simpa using h1
 ·have h2:0<l.length:=by have:=of_decide_eq_true h2;omega
  rw[wrap_i64 (by omega) (by omega),show(l.length:Int)-1=((l.length-1:Nat):Int)by omega,rd_i]
  refine⟨by omega,by omega,Br_of (fun h3=> ?_) (fun h3=> ?_)⟩
  ·rw[chk_top h h2 (by simpa using h3)]
  ·rw[chk_ok h h1 (fun _=>by simpa using h3)]
 ·rw[chk_ok h h1 (fun h3=>absurd h3 (by have:=of_decide_eq_false h2;omega))]
theorem snd77:Sound Try.prog 77 C77:=fn_sound (T:=T77) (fn:=Try.f77) (tok0 ⟨snd93,trivial⟩) Try.func77 (by kernel_rfl) H0 vc77 (by kernel_rfl) (hC:=nrcL (fun x h=>h.1) fun x h=>⟨trivial,trivial⟩)
end Fd
end
section
set_option linter.unusedVariables false
set_option linter.unusedSimpArgs false
set_option linter.unusedSectionVars false
namespace Fd
open Lean.Grind

structure KQ {q : Int} (hq : isQ q) where
 v:Int
 ok:Pl.inQ q v
section
variable {q : Int} {hq : isQ q}
theorem KQ.ext {a b:KQ hq} (h:a.1=b.1):a=b:=by
 obtain⟨a,ha⟩:=a
 obtain⟨b,hb⟩:=b
 cases h;rfl
instance : DecidableEq (KQ hq) := fun a b => decidable_of_iff (a.1 = b.1) ⟨KQ.ext, fun e => by rw [e]⟩
theorem KQ.isIn (a:KQ hq):(fld q).In a.1:=(in_iff hq _).2 a.2
def KQ.zero (hq:isQ q):KQ hq:=⟨0,zero_inQ hq⟩
def KQ.one (hq:isQ q):KQ hq:=⟨1,one_inQ hq⟩
def KQ.add (a b:KQ hq):KQ hq:=⟨Pl.add q a.1 b.1,add_inQ hq _ _⟩
def KQ.mul (a b:KQ hq):KQ hq:=⟨Pl.mul q a.1 b.1,mul_inQ hq _ _⟩
def KQ.neg (a:KQ hq):KQ hq:=⟨(fld q).neg a.1,(in_iff hq _).1 (Fm.Fld.neg_in (fld_ok hq) _)⟩
def KQ.sub (a b:KQ hq):KQ hq:=⟨Pl.sub q a.1 b.1,sub_inQ hq _ _⟩
def KQ.nat (hq:isQ q):Nat→KQ hq
 |0=>KQ.zero hq
 |1=>KQ.one hq
 |n+2=>KQ.add (KQ.nat hq (n+1)) (KQ.one hq)
def KQ.nsm:Nat→KQ hq→KQ hq:=fun n a=>KQ.mul (KQ.nat hq n) a
def KQ.pow (a:KQ hq):Nat→KQ hq
 |0=>KQ.one hq
 |n+1=>KQ.mul (KQ.pow a n) a
def KQ.int (hq:isQ q):Int→KQ hq
 | .ofNat n=>KQ.nat hq n
 | .negSucc n=>KQ.neg (KQ.nat hq (n+1))
def KQ.zsm:Int→KQ hq→KQ hq
 | .ofNat n,a=>KQ.nsm n a
 | .negSucc n,a=>KQ.neg (KQ.nsm (n+1) a)
def KQ.inv (a:KQ hq):KQ hq:=⟨Pl.inv q a.1,inv_inQ hq _⟩
theorem KQ.neg_zero:KQ.neg (KQ.zero hq)=KQ.zero hq:=by
 have ok:=fld_ok hq
 apply KQ.ext
 show(fld q).neg 0=0
 have h:=Fm.Fld.add_neg ok 0
 rwa [Fm.Fld.zero_add ok (Fm.Fld.neg_in ok 0)]at h
theorem KQ.add_cancel {a b:KQ hq} (h:KQ.add a b=KQ.zero hq):KQ.neg a=b:=by
 have ok:=fld_ok hq
 have h:(fld q).add a.1 b.1=0:=congrArg KQ.v h
 apply KQ.ext
 show(fld q).neg a.1=b.1
 have e:(fld q).add ((fld q).neg a.1) ((fld q).add a.1 b.1)=b.1:=by
  rw[←Fm.Fld.add_assoc ok,Fm.Fld.add_comm ok ((fld q).neg a.1),Fm.Fld.add_neg ok,Fm.Fld.zero_add ok b.isIn]
 rw[h,Fm.Fld.add_zero ok (Fm.Fld.neg_in ok _)]at e
 exact e
theorem KQ.neg_add' (a:KQ hq):KQ.add (KQ.neg a) a=KQ.zero hq:=KQ.ext (by
 show(fld q).add ((fld q).neg a.1) a.1=0
 rw[Fm.Fld.add_comm (fld_ok hq),Fm.Fld.add_neg (fld_ok hq)])
theorem KQ.neg_neg (a:KQ hq):KQ.neg (KQ.neg a)=a:=KQ.add_cancel (KQ.neg_add' a)
theorem KQ.mul_inv {a:KQ hq} (h:a≠KQ.zero hq):KQ.mul a (KQ.inv a)=KQ.one hq:=by
 have ok:=fld_ok hq
 have q2:=hq.1
 have h0:a.1≠0:=fun e=>h (KQ.ext e)
 apply KQ.ext
 show(fld q).mul a.1 ((fld q).pow a.1 (q-2).toNat)=1
 rw[Fm.Fld.mul_comm ok]
 show(fld q).pow a.1 ((q-2).toNat+1)=1
 rw[show(q-2).toNat+1=q.toNat-1 by omega,fermat hq a.2.1 a.2.2 h0]
theorem KQ.one_inv:KQ.inv (KQ.one hq)=KQ.one hq:=by
 have ok:=fld_ok hq
 apply KQ.ext
 show(fld q).pow 1 (q-2).toNat=1
 exact Fm.Fld.one_pow ok _
end
def KQ.inv0 {q:Int} {hq:isQ q} (a:KQ hq):KQ hq:=if a=KQ.zero hq then KQ.zero hq else KQ.inv a
instance {q : Int} {hq : isQ q} : Field (KQ hq) :=
  let _ : Add (KQ hq) := ⟨KQ.add⟩
  let _ : Mul (KQ hq) := ⟨KQ.mul⟩
  let _ : NatCast (KQ hq) := ⟨KQ.nat hq⟩
  let _ : (n : Nat) → OfNat (KQ hq) n := fun n => ⟨KQ.nat hq n⟩
  let _ : SMul Nat (KQ hq) := ⟨KQ.nsm⟩
  let _ : HPow (KQ hq) Nat (KQ hq) := ⟨KQ.pow⟩
  let _ : Neg (KQ hq) := ⟨KQ.neg⟩
  let _ : Sub (KQ hq) := ⟨KQ.sub⟩
  let _ : IntCast (KQ hq) := ⟨KQ.int hq⟩
  let _ : SMul Int (KQ hq) := ⟨KQ.zsm⟩
  let _ : Inv (KQ hq) := ⟨KQ.inv0⟩
  let _ : Div (KQ hq) := ⟨fun a b => KQ.mul a (KQ.inv0 b)⟩
  let _ : HPow (KQ hq) Int (KQ hq) := ⟨fun a n => match n with
    | .ofNat n => KQ.pow a n
    | .negSucc n => KQ.inv0 (KQ.pow a (n + 1))⟩
  have ok := fld_ok hq
  have z1 : KQ.zero hq ≠ KQ.one hq := fun e => absurd (congrArg KQ.v e) (by show (0 : Int) ≠ 1; omega)
  have i0 : KQ.inv0 (KQ.zero hq) = KQ.zero hq := if_pos rfl
  have i1 : KQ.inv0 (KQ.one hq) = KQ.one hq := by unfold KQ.inv0; rw [if_neg (fun e => z1 e.symm)]; exact KQ.one_inv
  have mi : ∀ {a : KQ hq}, a ≠ KQ.zero hq → KQ.mul a (KQ.inv0 a) = KQ.one hq := fun {a} h => by unfold KQ.inv0; rw [if_neg h]; exact KQ.mul_inv h
  have mc : ∀ a b : KQ hq, KQ.mul a b = KQ.mul b a := fun a b => KQ.ext (Fm.Fld.mul_comm ok _ _)
  have ma : ∀ a b c : KQ hq, KQ.mul (KQ.mul a b) c = KQ.mul a (KQ.mul b c) := fun a b c => KQ.ext (Fm.Fld.mul_assoc ok _ _ _)
  have m1 : ∀ a : KQ hq, KQ.mul a (KQ.one hq) = a := fun a => KQ.ext (Fm.Fld.mul_one ok a.isIn)
  have m0 : ∀ a : KQ hq, KQ.mul a (KQ.zero hq) = KQ.zero hq := fun a => KQ.ext (Fm.Fld.mul_zero ok _)
  -- the inverse of an inverse
  have ii : ∀ a : KQ hq, KQ.inv0 (KQ.inv0 a) = a := fun a => by
    by_cases h : a = KQ.zero hq
    · subst h; rw [i0, i0]
    · have hi : KQ.inv0 a ≠ KQ.zero hq := fun e => by
        have := mi h
        rw [e, m0] at this
        exact z1 this
      have h1 := mi hi
      have h2 := mi h
      calc KQ.inv0 (KQ.inv0 a) = KQ.mul (KQ.inv0 (KQ.inv0 a)) (KQ.mul a (KQ.inv0 a)) := by rw [h2, m1]
        _ = KQ.mul (KQ.mul (KQ.inv0 a) (KQ.inv0 (KQ.inv0 a))) a := by rw [mc a, ← ma, mc (KQ.inv0 (KQ.inv0 a))]
        _ = a := by rw [h1, mc, m1]
  let sr : Semiring (KQ hq) :=
    { add_zero := fun a => KQ.ext (Fm.Fld.add_zero ok a.isIn)
      add_comm := fun a b => KQ.ext (Fm.Fld.add_comm ok _ _)
      add_assoc := fun a b c => KQ.ext (Fm.Fld.add_assoc ok _ _ _)
      mul_assoc := ma
      mul_one := m1
      one_mul := fun a => KQ.ext (Fm.Fld.one_mul ok a.isIn)
      left_distrib := fun a b c => KQ.ext (Fm.Fld.mul_add ok _ _ _)
      right_distrib := fun a b c => KQ.ext (Fm.Fld.add_mul ok _ _ _)
      zero_mul := fun a => KQ.ext (Fm.Fld.zero_mul ok _)
      mul_zero := m0
      pow_zero := fun a => rfl
      pow_succ := fun a n => rfl
      ofNat_succ := fun n => match n with
        | 0 => KQ.ext (Fm.Fld.zero_add ok (Fm.Fld.in1 ok)).symm
        | n + 1 => rfl
      ofNat_eq_natCast := fun n => rfl
      nsmul_eq_natCast_mul := fun n a => rfl }
  let rg : Ring (KQ hq) :=
    { sr with
      neg_add_cancel := KQ.neg_add'
      sub_eq_add_neg := fun a b => KQ.ext (Fm.Fld.sub_eq ok _ _)
      neg_zsmul := fun i a => match i with
        | .ofNat 0 => by
          show KQ.mul (KQ.zero hq) a = KQ.neg (KQ.mul (KQ.zero hq) a)
          rw [mc, m0, KQ.neg_zero]
        | .ofNat (n + 1) => rfl
        | .negSucc n => (KQ.neg_neg _).symm
      zsmul_natCast_eq_nsmul := fun n a => rfl
      intCast_ofNat := fun n => rfl
      intCast_neg := fun i => match i with
        | .ofNat 0 => KQ.neg_zero.symm
        | .ofNat (n + 1) => rfl
        | .negSucc n => (KQ.neg_neg _).symm }
  let cr : CommRing (KQ hq) := { rg with mul_comm := mc }
  { cr with
    div_eq_mul_inv := fun a b => rfl
    zero_ne_one := z1
    inv_zero := i0
    mul_inv_cancel := fun h => mi h
    zpow_zero := fun a => rfl
    zpow_succ := fun a n => rfl
    zpow_neg := fun a n => match n with
      | .ofNat 0 => i1.symm
      | .ofNat (n + 1) => rfl
      | .negSucc n => (ii _).symm }
section
variable {q : Int} {hq : isQ q}
theorem KQ.add_val (a b:KQ hq):(a+b).1=Pl.add q a.1 b.1:=rfl
theorem KQ.sub_val (a b:KQ hq):(a-b).1=Pl.sub q a.1 b.1:=rfl
theorem KQ.mul_val (a b:KQ hq):(a*b).1=Pl.mul q a.1 b.1:=rfl
theorem KQ.zero_iff {a:KQ hq}:a=0↔a.1=0:=⟨fun e=>by rw[e];rfl,fun e=>KQ.ext e⟩
theorem KQ.inv_val {a:KQ hq} (h:a≠0):(a⁻¹).1=Pl.inv q a.1:=by
 have e:KQ.inv0 a=KQ.inv a:=if_neg h
 exact congrArg KQ.v e
end
end Fd
end
section
set_option linter.unusedVariables false
set_option linter.unusedSimpArgs false
set_option linter.unusedSectionVars false
set_option maxRecDepth 100000
namespace Fd
open Go Fw Go.Proofs

theorem cv_meth {P:Program} {C:Con} (h: ∀x,C.pre x→ ∃(name:String) (rd:D) (ds:List D) (V:Con) (y:Ars V.args),SoundInv P name V∧encs C.args x= .bfn (.method name) [rd]::ds∧encs V.args y=rd::ds∧V.pre y∧C.fresh=none∧
  encs V.res (V.post y)=encs C.res (C.post x)):SoundCv P C:=by
 refine⟨⟨fun x hx=> ?_,fun x hx=> ?_⟩, ?_⟩
 ·obtain⟨name,rd,ds,V,y,hS,e1,e2,hy,hfr,e3⟩:=h x hx
  have hn:=hS.1.a y hy
  rw[e2]at hn
  rw[e1]
  exact⟨by simpa [D.nr,D.nrs]using hn.1,hn.2⟩
 ·obtain⟨name,rd,ds,V,y,hS,e1,e2,hy,hfr,e3⟩:=h x hx
  rw[←e3]
  exact hS.1.r y hy
 intro x hx w O r vs hO hl
 obtain⟨name,rd,ds,V,y,hS,e1,e2,hy,hfr,e3⟩:=h x hx
 have post: ∀e w',CPost V y w ⟨O,nn⟩ e w'→CPost C x w ⟨O,nn⟩ e w':=by
  rintro e w' ⟨v,he,hb,hv,_⟩
  refine⟨v,he,hb,fun ι=> ?_,fun e he=>by rw[hfr]at he;cases he⟩
  rw[←e3]
  exact hv ι
 rw[e1]at hl
 obtain⟨u,us,e4,hu,hus⟩:=hl
 injection e4 with e4 e5
 subst e4 e5
 obtain⟨cs,hcs1,hcs2⟩:=hu
 subst hcs1
 obtain⟨rv,rs,e6,hr,hrs⟩:=hcs2
 cases hrs
 obtain rfl:cs= #[rv]:=by cases cs;simp_all
 have hrun0:(do let d←Deferred.ofValue (.func (.method name) #[rv] #[]) vs.toArray;invoke d.target d.args:Sem Next).run P w=(callMethod rv name vs.toArray).run P w:=by
  simp[Deferred.ofValue,invoke]
 rcases hS.2 y hy w O rv vs hO (by rw[e2];exact⟨rv,vs,rfl,hr,hus⟩)with⟨f,args',hrun,hc⟩|⟨v,w',hrun,hp⟩
 ·exact .inl ⟨f,args',hrun0.trans hrun,hc.mono post⟩
 ·exact .inr ⟨v,w',hrun0.trans hrun,post _ _ hp⟩
def sumV (q : Int) : D := .bfn (.method "dauber/field.sum") [arD q]
def mulV (q : Int) : D := .bfn (.method "dauber/field.product") [arD q]
def Pl.opV (v:D) (a b:Int):Int:=match v with
 | .bfn (.method n) [d] => bif n == "dauber/field.sum" then Pl.add (Pl.qA d) a b else Pl.mul (Pl.qA d) a b
 |_=>0
def Cop:Con:=⟨[.raw,I,I],[I],fun(x:D×Int×Int×Unit)=> ∃q,isQ q∧(x.1=sumV q∨x.1=mulV q)∧Pl.inQ q x.2.1∧Pl.inQ q x.2.2.1,fun(x:D×Int×Int×Unit)=>(Pl.opV x.1 x.2.1 x.2.2.1,()),none⟩
def Pl.val (q:Int):List Int→Int→Int
 |[],_=>0
 |a::l,x=>Pl.add q (Pl.mul q (Pl.val q l x) x) a
abbrev A144:=List Int×Int×Int×D×D×Unit
def Pl.qV (v:D):Int:=match v with
 | .bfn _ [d]=>Pl.qA d
 |_=>0
def Pl.okV (x:A144):Prop:= ∃q,isQ q∧x.2.2.2.1=sumV q∧x.2.2.2.2.1=mulV q∧(∀y∈x.1,Pl.inQ q y)∧Pl.len9 x.1∧Pl.inQ q x.2.1∧x.2.2.1=0
def C144:Con:=⟨[L,I,I, .raw, .raw],[I],fun(x:A144)=>Pl.okV x,fun(x:A144)=>(Pl.val (Pl.qV x.2.2.2.1) x.1 x.2.1,()),none⟩
def H144:Hints:=lo [(0,⟨[0,1,3,4],[(11,si),(12,si)]⟩)]
def T144:Ctx:=TC [] Cop
def Pl.okPx (q:Int) (p:List Int) (x:Int):Prop:=(∀y∈p,Pl.inQ q y)∧Pl.len9 p∧Pl.inQ q x
def C113:Con:=⟨[.raw,L,I],[I],fun(x:D×List Int×Int×Unit)=>Pl.okF x.1∧Pl.okPx (Pl.qF x.1) x.2.1 x.2.2.1,fun(x:D×List Int×Int×Unit)=>(Pl.val (Pl.qF x.1) x.2.1 x.2.2.1,()),none⟩
def T113:Ctx:=TT [(144,C144)]
def Pl.vale (q:Int) (p:List Int) (x:Int):Int×Int:=bif decide (Pl.chk q p≠0)then(0,Pl.chk q p)else(Pl.val q p (x%q),0)
def C65:Con:=⟨[.raw,L,I],[I,I],fun(x:D×List Int×Int×Unit)=>Pl.okF x.1∧Pl.len9 x.2.1,fun(x:D×List Int×Int×Unit)=>((Pl.vale (Pl.qF x.1) x.2.1 x.2.2.1).1,(Pl.vale (Pl.qF x.1) x.2.1 x.2.2.1).2,()),none⟩
def T65:Ctx:=TT [(77,C77),(95,C95),(113,C113)]
end Fd
end
section
set_option linter.unusedVariables false
set_option linter.unusedSimpArgs false
set_option linter.unusedSectionVars false
set_option maxRecDepth 100000
namespace Fd
open Go Fw Go.Proofs

theorem opV_sum {q:Int} (hq:isQ q) (a b:Int):Pl.opV (sumV q) a b=Pl.add q a b:=by
 show (bif ("dauber/field.sum" : String) == "dauber/field.sum" then Pl.add (Pl.qA (arD q)) a b else Pl.mul (Pl.qA (arD q)) a b) = _
 rw[qA_ar hq];rfl
theorem opV_mul {q:Int} (hq:isQ q) (a b:Int):Pl.opV (mulV q) a b=Pl.mul q a b:=by
 show (bif ("dauber/field.product" : String) == "dauber/field.sum" then Pl.add (Pl.qA (arD q)) a b else Pl.mul (Pl.qA (arD q)) a b) = _
 rw [qA_ar hq, show (("dauber/field.product" : String) == "dauber/field.sum") = false by decide]; rfl
theorem qV_sum {q:Int} (hq:isQ q):Pl.qV (sumV q)=q:=qA_ar hq
theorem sndCop:SoundCv Try.prog Cop:=cv_meth (by
 rintro⟨v,(a:Int),(b:Int),⟨⟩⟩ ⟨q,hq,hv,(ha:Pl.inQ q a),(hb:Pl.inQ q b)⟩
 rcases hv with rfl|rfl
 ·refine⟨_,arD q,_,VS,(arD q,a,b,()),sndVS,rfl,rfl,⟨okA_ar hq,by show Pl.inQ (Pl.qA (arD q)) a;rw[qA_ar hq];exact ha,by show Pl.inQ (Pl.qA (arD q)) b;rw[qA_ar hq];exact hb⟩,rfl, ?_⟩
  show encs [I] (Pl.add (Pl.qA (arD q)) a b,())=encs [I] (Pl.opV (sumV q) a b,())
  rw[opV_sum hq,qA_ar hq]
 ·refine⟨_,arD q,_,VP,(arD q,a,b,()),sndVP,rfl,rfl,⟨⟨q,hq, .inl rfl⟩,by show Pl.inQ (Pl.qA (arD q)) a;rw[qA_ar hq];exact ha,by show Pl.inQ (Pl.qA (arD q)) b;rw[qA_ar hq];exact hb⟩,rfl, ?_⟩
  show encs [I] (Pl.mul (Pl.qA (arD q)) a b,())=encs [I] (Pl.opV (mulV q) a b,())
  rw[opV_mul hq,qA_ar hq])
theorem val_in {q:Int} (hq:isQ q): ∀(l:List Int) (x:Int),Pl.inQ q (Pl.val q l x)
 |[],_=>zero_inQ hq
 |a::l,x=>add_inQ hq _ _
theorem vc144: ∀x,C144.pre x→VC T144 H144 Try.f144 C144 x:=by
 rintro⟨(l:List Int),(x:Int),(z:Int),v,u,⟨⟩⟩ ⟨q,hq,(rfl:v=_),(rfl:u=_),(hl: ∀y∈l,Pl.inQ q y),(hn:l.length≤1000000000),(hx:Pl.inQ q x),(rfl:z=0)⟩
 refine cast (α := ∃ (n : Nat), itl (fun (G : Int × Int × PUnit → Prop) (x_1 : Int × Int × PUnit) => Br (decide (x_1.2.1 ≥ (0 : Int))) ((∃ (q_1 : Int), ((2 : Int) ≤ q_1 ∧ q_1 ≤ (65536 : Int) ∧ (1 : Int) ≤ Pl.K q_1) ∧ (D.bfn (Fn.method "dauber/field.product") [arD q] = sumV q_1 ∨ D.bfn (Fn.method "dauber/field.product") [arD q] = mulV q_1) ∧ Pl.inQ q_1 x_1.1 ∧ Pl.inQ q_1 x) ∧ (0 : Int) ≤ x_1.2.1 ∧ x_1.2.1 < (↑l.length : Int) ∧ (∃ (q_1 : Int), ((2 : Int) ≤ q_1 ∧ q_1 ≤ (65536 : Int) ∧ (1 : Int) ≤ Pl.K q_1) ∧ (D.bfn (Fn.method "dauber/field.sum") [arD q] = sumV q_1 ∨ D.bfn (Fn.method "dauber/field.sum") [arD q] = mulV q_1) ∧ Pl.inQ q_1 (Pl.opV (D.bfn (Fn.method "dauber/field.product") [arD q]) x_1.1 x) ∧ Pl.inQ q_1 (rd i64 l x_1.2.1)) ∧ G (Pl.opV (D.bfn (Fn.method "dauber/field.sum") [arD q]) (Pl.opV (D.bfn (Fn.method "dauber/field.product") [arD q]) x_1.1 x) (rd i64 l x_1.2.1), IntKind.i64.wrap (x_1.2.1 - (1 : Int)), ())) ((x_1.1, ()) = C144.post (l, x, (0 : I.El), sumV q, mulV q, ()))) n ((0 : I.El), IntKind.i64.wrap ((↑l.length : Int) - (1 : Int)), ())) (by kernel_rfl) ?_
 have hp:C144.post (l,x,(0:Int),sumV q,mulV q,())=(Pl.val q l x,()):=by
  show(Pl.val (Pl.qV (sumV q)) l x,())=_
  rw[qV_sum hq]
 rw[hp]
 rw[wrap_i64 (by omega) (by omega)]
 refine itl_rule (fun s=> ∃i:Nat,s.2.1=(i:Int)-1∧i≤l.length∧s.1=Pl.val q (l.drop i) x) (fun s=>(s.2.1+1).toNat) ⟨l.length,rfl,Nat.le_refl _,by rw[List.drop_length];rfl⟩ ?_
 rintro⟨o,i0,⟨⟩⟩ G ⟨i,e,hi,ho⟩ hG
 simp only at e ho hG⊢
 subst e ho
 refine Br_of (fun h=> ?_) (fun h=> ?_)
 ·obtain⟨i,rfl⟩: ∃j,i=j+1:=⟨i-1,by have:=of_decide_eq_true h;omega⟩
  rw[show((i+1:Nat):Int)-1=(i:Int)by omega]at hG⊢
  rw[rd_i,wrap_i64 (by omega) (by omega)]
  have hd:=drop_cons 0 (show i<l.length by omega)
  have hv:=val_in hq (l.drop (i+1)) x
  have e1 : Pl.opV (D.bfn (Fn.method "dauber/field.product") [arD q]) (Pl.val q (l.drop (i + 1)) x) x = Pl.mul q (Pl.val q (l.drop (i + 1)) x) x := opV_mul hq _ _
  rw[e1]
  have e2 : ∀ a b, Pl.opV (D.bfn (Fn.method "dauber/field.sum") [arD q]) a b = Pl.add q a b := opV_sum hq
  rw[e2]
  exact⟨⟨q,hq, .inr rfl,hv,hx⟩,by omega,by omega,⟨q,hq, .inl rfl,mul_inQ hq _ _,getD_inQ hl (by omega)⟩,hG _ ⟨i,rfl,by omega,by rw[hd];rfl⟩ (by simp only;omega)⟩
 ·have h:i=0:=by have:=of_decide_eq_false h;omega
  subst h
  rfl
theorem snd144:Sound Try.prog 144 C144:=fn_sound (T:=T144) (fn:=Try.f144) (tokg (T:=T144) trivial trivial trivial noInv (fun C e=>by injection e with e;subst e;exact sndCop)) Try.func144 (by kernel_rfl) H144 vc144 (by kernel_rfl)
 (hC:=⟨fun x hx=>by
  obtain⟨q,hq,h1,h2,_⟩:=hx
  refine⟨rfl,trivial,trivial, ?_, ?_,trivial⟩
  ·show x.2.2.2.1.nr;rw[h1];exact(⟨okA_nr (okA_ar hq),trivial⟩:D.nrs [arD q])
  ·show x.2.2.2.2.1.nr;rw[h2];exact(⟨okA_nr (okA_ar hq),trivial⟩:D.nrs [arD q]),fun x hx=>⟨trivial,trivial⟩⟩)
theorem vc113: ∀x,C113.pre x→VC T113 H0 Try.f113 C113 x:=by
 rintro⟨v,(l:List Int),(x:Int),⟨⟩⟩ ⟨⟨q,hq,(rfl:v=_)⟩,hP⟩
 have hP:Pl.okPx (Pl.qF (fieldD q)) l x:=hP
 rw[qF_d]at hP
 refine cast (α := Pl.okV (l, x, (0 : Int), D.bfn (Fn.method "dauber/field.sum") [arD q], D.bfn (Fn.method "dauber/field.product") [arD q], ()) ∧ (Pl.val (Pl.qV (D.bfn (Fn.method "dauber/field.sum") [arD q])) l x, ()) = C113.post (fieldD q, l, x, ())) (by kernel_rfl) ?_
 have hp:C113.post (fieldD q,l,x,())=(Pl.val q l x,()):=rfl
 have e : Pl.qV (D.bfn (Fn.method "dauber/field.sum") [arD q]) = q := qV_sum hq
 rw[hp,e]
 exact⟨⟨q,hq,rfl,rfl,hP.1,hP.2.1,hP.2.2,rfl⟩,rfl⟩
theorem snd113:Sound Try.prog 113 C113:=fn_sound (T:=T113) (fn:=Try.f113) (tok0 ⟨snd144,trivial⟩) Try.func113 (by kernel_rfl) H0 vc113 (by kernel_rfl) (hC:=⟨fun x hx=>⟨okF_nr hx.1,rfl,trivial,trivial⟩,fun x hx=>⟨trivial,trivial⟩⟩)
theorem chk_in {q:Int} {p:List Int} (h:Pl.chk q p=0):p.length≤200∧(∀x∈p,Pl.inQ q x)∧(0<p.length→p.getD (p.length-1) 0≠0):=by
 by_cases h1:p.length>200
 ·rw[chk_long h1]at h;omega
 cases h2:Pl.els q p with
 |false=>rw[chk_els h1 h2]at h;omega
 |true=>
  refine⟨by omega,els_in h2,fun h3 h4=> ?_⟩
  rw[chk_top h1 h3 h4]at h;omega
theorem vc65: ∀x,C65.pre x→VC T65 H0 Try.f65 C65 x:=by
 rintro⟨v,(l:List Int),(x:Int),⟨⟩⟩ ⟨⟨q,hq,(rfl:v=_)⟩,(hl:Pl.len9 l)⟩
 refine cast (α:=(Pl.okF (D.rptr (fieldC q))∧Pl.len9 l)∧Br (Pl.chk (Pl.qF (D.rptr (fieldC q))) l !=(0:Int)) (((0:Int),Pl.chk (Pl.qF (D.rptr (fieldC q))) l,())=C65.post (fieldD q,l,x,())) (Pl.okF (D.rptr (fieldC q))∧(Pl.okF (D.rptr (fieldC q))∧Pl.okPx (Pl.qF (D.rptr (fieldC q))) l (x%Pl.qF (D.rptr (fieldC q))))∧(Pl.val (Pl.qF (D.rptr (fieldC q))) l (x%Pl.qF (D.rptr (fieldC q))),(0:Int),())=C65.post (fieldD q,l,x,()))) (by kernel_rfl) ?_
 have hp:C65.post (fieldD q,l,x,())=((Pl.vale q l x).1,(Pl.vale q l x).2,()):=rfl
 rw[hp,qF_f]
 have oF:=okF_f hq
 refine⟨⟨oF,hl⟩,Br_of (fun h=> ?_) (fun h=> ?_)⟩
 ·have h:Pl.chk q l≠0:=by simpa using h
  unfold Pl.vale;rw[decide_eq_true h];rfl
 ·have h:Pl.chk q l=0:=by simpa using h
  unfold Pl.vale;rw[decide_eq_false (not_not_intro h)]
  exact⟨oF,⟨oF,(chk_in h).2.1,hl,emod_inQ hq _⟩,rfl⟩
theorem snd65:Sound Try.prog 65 C65:=fn_sound (T:=T65) (fn:=Try.f65) (tok0 ⟨snd77,snd95,snd113,trivial⟩) Try.func65 (by kernel_rfl) H0 vc65 (by kernel_rfl) (hC:=⟨fun x hx=>⟨okF_nr hx.1,rfl,trivial,trivial⟩,fun x hx=>⟨trivial,trivial,trivial⟩⟩)
end Fd
end
section
set_option linter.unusedVariables false
set_option linter.unusedSimpArgs false
set_option linter.unusedSectionVars false
set_option maxRecDepth 100000
namespace Fd
open Go Fw Go.Proofs

def Pl.dst (q:Int) (b:List Int) (c:Int) (i:Nat):Nat→List Int→List Int
 |0,r=>r
 |j+1,r=>(Pl.dst q b c i j r).set (i+j) (Pl.sub q ((Pl.dst q b c i j r).getD (i+j) 0) (Pl.mul q c (b.getD j 0)))
def Pl.dvL (q:Int) (b:List Int) (k:Int):Nat→List Int→List Int→List Int×List Int
 |0,o,r=>(o,r)
 |i+1,o,r=>Pl.dvL q b k i (o.set i (Pl.mul q (r.getD (i+b.length-1) 0) k)) (Pl.dst q b (Pl.mul q (r.getD (i+b.length-1) 0) k) i b.length r)
def Pl.top (b:List Int):Int:=b.getD (b.length-1) 0
def Pl.ovr (q:Int) (p b:List Int):List Int×List Int:=bif decide (p.length<b.length)then([],p)else
 (Pl.trim (Pl.dvL q b (Pl.inv q (Pl.top b)) (p.length-b.length+1) (List.replicate (p.length-b.length+1) 0) p).1,
  Pl.trim (Pl.dvL q b (Pl.inv q (Pl.top b)) (p.length-b.length+1) (List.replicate (p.length-b.length+1) 0) p).2)
def Pl.pol (q:Int) (p:List Int):Prop:=(∀x∈p,Pl.inQ q x)∧p.length≤1000000∧(0<p.length→Pl.top p≠0)
def C116:Con:=⟨[.raw,L,L],[L,L],fun(x:DLL)=>Pl.okF x.1∧Pl.okPr (Pl.qF x.1) x.2.1 x.2.2.1∧0<x.2.2.1.length∧Pl.top x.2.2.1≠0,fun(x:DLL)=>((Pl.ovr (Pl.qF x.1) x.2.1 x.2.2.1).1,(Pl.ovr (Pl.qF x.1) x.2.1 x.2.2.1).2,()),none⟩
def H116:Hints:=⟨[14],[(3,[14]),(16,[1000006,1000007])],[(0,⟨[0,2,8],[(6,so),(7,so),(9,si)]⟩),(2,⟨[0,2,8,9,10,68,69],[(6,so),(7,so),(70,si)]⟩)],[],[]⟩
def T116:Ctx:=TF [(123,C123),(143,C143)]
end Fd
end
section
set_option linter.unusedVariables false
set_option linter.unusedSimpArgs false
set_option linter.unusedSectionVars false
set_option maxRecDepth 100000
namespace Fd
open Go Fw Go.Proofs

theorem trimN_le (l:List Int): ∀n,Pl.trimN l n≤n
 |0=>Nat.le_refl _
 |n+1=>by
  rw[Pl.trimN]
  cases decide (l.getD n 0=0)with
  |true=>exact Nat.le_succ_of_le (trimN_le l n)
  |false=>exact Nat.le_refl _
theorem trimN_top (l:List Int): ∀n,0<Pl.trimN l n→l.getD (Pl.trimN l n-1) 0≠0
 |0,h=>by simp[Pl.trimN]at h
 |n+1,h=>by
  rw[Pl.trimN]at h⊢
  by_cases e:l.getD n 0=0
  ·rw[decide_eq_true e,cond_true]at h⊢
   exact trimN_top l n h
  ·rw[decide_eq_false e,cond_false];exact e
theorem trimN_zero (l:List Int): ∀n i,Pl.trimN l n≤i→i<n→l.getD i 0=0
 |0,i,_,h=>by omega
 |n+1,i,h,h2=>by
  rw[Pl.trimN]at h
  by_cases e:l.getD n 0=0
  ·rw[decide_eq_true e,cond_true]at h
   by_cases e2:i=n
   ·rw[e2];exact e
   ·exact trimN_zero l n i h (by omega)
  ·rw[decide_eq_false e,cond_false]at h;omega
theorem trim_len (l:List Int):(Pl.trim l).length=Pl.trimN l l.length:=by
 unfold Pl.trim
 rw[List.length_take,Nat.min_eq_left (trimN_le _ _)]
theorem trim_getD (l:List Int) {i:Nat} (h:i<(Pl.trim l).length):(Pl.trim l).getD i 0=l.getD i 0:=by
 have h2:=trim_len l
 unfold Pl.trim at h⊢
 rw[List.getD_eq_getElem?_getD,List.getElem?_take_of_lt (by unfold Pl.trim at h2;omega), ←List.getD_eq_getElem?_getD]
theorem trim_mem {l:List Int} {x:Int} (h:x∈Pl.trim l):x∈l:=List.mem_of_mem_take h
theorem trim_pol {q:Int} {l:List Int} (h: ∀x∈l,Pl.inQ q x) (hl:l.length≤1000000):Pl.pol q (Pl.trim l):=by
 have h2:=trim_len l
 have h3:=trimN_le l l.length
 refine⟨fun x hx=>h x (trim_mem hx),by omega,fun h0=> ?_⟩
 unfold Pl.top
 rw[trim_getD l (by omega),h2]
 exact trimN_top l _ (by omega)
theorem trim_eq {l:List Int} (h:0<l.length→Pl.top l≠0):Pl.trim l=l:=by
 rcases Nat.eq_zero_or_pos l.length with e|e
 ·rw[List.length_eq_zero_iff.1 e];rfl
 ·have h:=h e
  unfold Pl.trim
  obtain⟨n,hn⟩: ∃n,l.length=n+1:=⟨l.length-1,by omega⟩
  unfold Pl.top at h
  rw[hn,Nat.add_sub_cancel]at h
  rw[hn,Pl.trimN,decide_eq_false h,cond_false, ←hn,List.take_length]
theorem trim_pad (l:List Int):Pl.trim l++List.replicate (l.length-(Pl.trim l).length) 0=l:=by
 have h2:=trim_len l
 have h3:=trimN_le l l.length
 refine List.ext_getElem (by rw[List.length_append,List.length_replicate];omega) fun i i1 i2=> ?_
 have key:(Pl.trim l++List.replicate (l.length-(Pl.trim l).length) 0).getD i 0=l.getD i 0:=by
  rcases Nat.lt_or_ge i (Pl.trim l).length with h|h
  ·rw[List.getD_eq_getElem?_getD,List.getElem?_append_left h, ←List.getD_eq_getElem?_getD];exact trim_getD l h
  ·rw[trimN_zero l l.length i (by omega) i2,List.getD_eq_getElem?_getD,List.getElem?_append_right h,List.getElem?_replicate]
   split<;>rfl
 simpa [List.getD_eq_getElem?_getD,List.getElem?_eq_getElem i1,List.getElem?_eq_getElem i2]using key
theorem trim_app (l:List Int) (h:0<l.length→Pl.top l≠0) (n:Nat):Pl.trim (l++List.replicate n 0)=l:=by
 have key: ∀n,Pl.trimN (l++List.replicate n 0) (l.length+n)=l.length:=by
  intro n
  have hz: ∀m,m≤n→Pl.trimN (l++List.replicate n 0) (l.length+m)=Pl.trimN (l++List.replicate n 0) l.length:=by
   intro m
   induction m with
   |zero=>intro _;rfl
   |succ m ih=>
    intro hm
    rw[←Nat.add_assoc,Pl.trimN]
    have:(l++List.replicate n 0).getD (l.length+m) 0=0:=by
     rw[List.getD_eq_getElem?_getD,List.getElem?_append_right (by omega),List.getElem?_replicate]
     split<;>rfl
    rw[decide_eq_true this,cond_true]
    exact ih (by omega)
  rw[hz n (Nat.le_refl _)]
  rcases Nat.eq_zero_or_pos l.length with e|e
  ·rw[e];rfl
  ·obtain⟨k,hk⟩: ∃k,l.length=k+1:=⟨l.length-1,by omega⟩
   have h:=h e
   unfold Pl.top at h
   rw[hk,Nat.add_sub_cancel]at h
   rw[hk,Pl.trimN,decide_eq_false,cond_false]
   rw[List.getD_eq_getElem?_getD,List.getElem?_append_left (by omega), ←List.getD_eq_getElem?_getD];exact h
 unfold Pl.trim
 rw[List.length_append,List.length_replicate,key n,List.take_left']
 rfl
section
variable {q : Int} (hq : isQ q)
include hq
theorem sub_mul0 {x y:Int} (hx:Pl.inQ q x) (hy:Pl.inQ q y):Pl.sub q x (Pl.mul q 0 y)=x:=
 congrArg KQ.v (show(⟨x,hx⟩:KQ hq)-0*⟨y,hy⟩=⟨x,hx⟩by grind)
theorem zero_mul' {y:Int} (hy:Pl.inQ q y):Pl.mul q 0 y=0:=congrArg KQ.v (show(0:KQ hq)*⟨y,hy⟩=0 by grind)
theorem sub_top {x y:Int} (hx:Pl.inQ q x) (hy:Pl.inQ q y) (h0:y≠0):Pl.sub q x (Pl.mul q (Pl.mul q x (Pl.inv q y)) y)=0:=by
 have hne:(⟨y,hy⟩:KQ hq)≠0:=fun e=>h0 (KQ.zero_iff.1 e)
 have e:(⟨x,hx⟩:KQ hq)-⟨x,hx⟩*(⟨y,hy⟩:KQ hq)⁻¹*⟨y,hy⟩=0:=by grind
 have:=congrArg KQ.v e
 rw[KQ.sub_val,KQ.mul_val,KQ.mul_val,KQ.inv_val hne]at this
 exact this
theorem mul_ne0 {x y:Int} (hx:Pl.inQ q x) (hy:Pl.inQ q y) (h0:x≠0) (h1:y≠0):Pl.mul q x y≠0:=by
 intro e
 have h0:(⟨x,hx⟩:KQ hq)≠0:=fun e=>h0 (KQ.zero_iff.1 e)
 have h1:(⟨y,hy⟩:KQ hq)≠0:=fun e=>h1 (KQ.zero_iff.1 e)
 have e:(⟨x,hx⟩:KQ hq)*⟨y,hy⟩=0:=KQ.ext e
 have:(⟨x,hx⟩:KQ hq)*⟨y,hy⟩*(⟨y,hy⟩:KQ hq)⁻¹=0:=by rw[e];grind
 exact h0 (by grind)
theorem inv_ne0 {y:Int} (hy:Pl.inQ q y) (h0:y≠0):Pl.inv q y≠0:=by
 have hne:(⟨y,hy⟩:KQ hq)≠0:=fun e=>h0 (KQ.zero_iff.1 e)
 intro e
 have h2:(⟨y,hy⟩:KQ hq)⁻¹=0:=KQ.ext (by rw[KQ.inv_val hne];exact e)
 have h3:(⟨y,hy⟩:KQ hq)*(⟨y,hy⟩:KQ hq)⁻¹=1:=by grind
 rw[h2]at h3
 exact absurd h3 (by grind)
theorem dst_ok {b:List Int} {c:Int} {i:Nat}: ∀(j:Nat) {r:List Int},(∀x∈r,Pl.inQ q x)→(Pl.dst q b c i j r).length=r.length∧ ∀x∈Pl.dst q b c i j r,Pl.inQ q x
 |0,r,h=>⟨rfl,h⟩
 |j+1,r,h=>by
  obtain⟨h1,h2⟩:=dst_ok (b:=b) (c:=c) (i:=i) j h
  rw[Pl.dst]
  refine⟨by rw[List.length_set,h1],fun x hx=> ?_⟩
  rcases List.mem_or_eq_of_mem_set hx with hx|rfl
  ·exact h2 x hx
  ·exact sub_inQ hq _ _
theorem dst_0 {b r:List Int} {i:Nat} (hb: ∀x∈b,Pl.inQ q x) (hr: ∀x∈r,Pl.inQ q x): ∀j:Nat,j≤b.length→Pl.dst q b 0 i j r=r
 |0,_=>rfl
 |j+1,h=>by
  rw[Pl.dst,dst_0 hb hr j (by omega),sub_mul0 hq]
  ·rcases Nat.lt_or_ge (i+j) r.length with h1|h1
   ·rw[List.getD_eq_getElem?_getD,List.getElem?_eq_getElem h1]
    exact List.set_getElem_self h1
   ·rw[List.set_eq_of_length_le (by omega)]
  ·rcases Nat.lt_or_ge (i+j) r.length with h1|h1
   ·exact getD_inQ hr h1
   ·rw[List.getD_eq_getElem?_getD,List.getElem?_eq_none (by omega)];exact zero_inQ hq
  ·exact getD_inQ hb (by omega)
theorem dst_app {b:List Int} {c:Int} {i:Nat} (z:List Int) {r:List Int} (hr: ∀x∈r,Pl.inQ q x): ∀j:Nat,i+j≤r.length→Pl.dst q b c i j (r++z)=Pl.dst q b c i j r++z
 |0,_=>rfl
 |j+1,h=>by
  have hl:=(dst_ok hq (b:=b) (c:=c) (i:=i) j hr).1
  rw[Pl.dst,Pl.dst,dst_app z hr j (by omega),List.set_append_left _ _ (by omega),List.getD_eq_getElem?_getD,List.getElem?_append_left (by omega), ←List.getD_eq_getElem?_getD]
theorem dst_top {b:List Int} {c:Int} {i:Nat} {r:List Int} (hr: ∀x∈r,Pl.inQ q x): ∀j k:Nat,j≤k→i+k<r.length→(Pl.dst q b c i j r).getD (i+k) 0=r.getD (i+k) 0
 |0,k,_,_=>rfl
 |j+1,k,h,h2=>by
  have hl:=(dst_ok hq (b:=b) (c:=c) (i:=i) j hr).1
  rw[Pl.dst,List.getD_eq_getElem?_getD,List.getElem?_set_ne (by omega), ←List.getD_eq_getElem?_getD]
  exact dst_top hr j k (by omega) h2
theorem dvL_skip {b o R : List Int} {k : Int} (hk : Pl.inQ q k) (hb : ∀ x ∈ b, Pl.inQ q x) (hR : ∀ x ∈ R, Pl.inQ q x) (a : Nat) : ∀ i : Nat, a ≤ i → (∀ t, a ≤ t → t < i → R.getD (t + b.length - 1) 0 = 0 ∧ o.getD t 0 = 0) → Pl.dvL q b k i o R = Pl.dvL q b k a o R
  | 0, h, _ => by obtain rfl : a = 0 := by omega
                  rfl
  | i + 1, h, hz => by
    by_cases e : a = i + 1
    · rw [e]
    · obtain ⟨z1, z2⟩ := hz i (by omega) (by omega)
      rw [Pl.dvL, z1, zero_mul' hq hk, dst_0 hq hb hR _ (Nat.le_refl _)]
      have ho : o.set i 0 = o := by
        rcases Nat.lt_or_ge i o.length with h1 | h1
        · have : o[i] = 0 := by rw [List.getD_eq_getElem?_getD, List.getElem?_eq_getElem h1] at z2; exact z2
          conv => lhs; rw [← this]
          exact List.set_getElem_self h1
        · rw [List.set_eq_of_length_le h1]
      rw [ho]
      exact dvL_skip hk hb hR a i (by omega) fun t h1 h2 => hz t h1 (by omega)
structure Pl.Dv (q : Int) (b : List Int) (k : Int) (N : Nat) (tgt : List Int × List Int) (o r : List Int) : Prop where
 rp:Pl.pol q r
 rl:r.length≤N
 ol:o.length=N-b.length+1
 st: ∃i,r.length+1≤i+b.length∧(∀t,t<i→o.getD t 0=0)∧Pl.dvL q b k i o (r++List.replicate (N-r.length) 0)=tgt
 tp:r.length=N∨o.getD (N-b.length) 0≠0
theorem pad_in {r:List Int} (hr: ∀x∈r,Pl.inQ q x) (n:Nat): ∀x∈r++List.replicate n 0,Pl.inQ q x:=fun x hx=>by
 rcases List.mem_append.1 hx with h|h
 ·exact hr x h
 ·rw[(List.mem_replicate.1 h).2];exact zero_inQ hq
theorem pad_0 {r:List Int} {n i:Nat} (h:r.length≤i):(r++List.replicate n 0).getD i 0=0:=by
 rw[List.getD_eq_getElem?_getD,List.getElem?_append_right h,List.getElem?_replicate]
 split<;>rfl
theorem Dv_step {b o r:List Int} {N:Nat} {tgt:List Int×List Int} (hb:Pl.pol q b) (hb0:0<b.length) (h:Pl.Dv q b (Pl.inv q (Pl.top b)) N tgt o r) (hr:b.length≤r.length):
  Pl.Dv q b (Pl.inv q (Pl.top b)) N tgt (o.set (r.length-b.length) (Pl.mul q (Pl.top r) (Pl.inv q (Pl.top b)))) (Pl.trim (Pl.dst q b (Pl.mul q (Pl.top r) (Pl.inv q (Pl.top b))) (r.length-b.length) b.length r))∧
   (Pl.trim (Pl.dst q b (Pl.mul q (Pl.top r) (Pl.inv q (Pl.top b))) (r.length-b.length) b.length r)).length+1≤r.length:=by
 obtain⟨⟨rp1,rp2,rp3⟩,rl,ol,⟨i,i1,i2,i3⟩,tp⟩:=h
 have hbt:=hb.2.2 hb0
 have hbi:Pl.inQ q (Pl.top b):=getD_inQ hb.1 (by omega)
 have hk:=inv_inQ hq (Pl.top b)
 have hrt:Pl.inQ q (Pl.top r):=getD_inQ rp1 (by omega)
 have hr0:=rp3 (by omega)
 have hb1:=hb.1
 obtain⟨d1,d2⟩:=dst_ok hq (b:=b) (c:=Pl.mul q (Pl.top r) (Pl.inv q (Pl.top b))) (i:=r.length-b.length) b.length rp1
 have hpad:=pad_in hq rp1 (N-r.length)
 rw[dvL_skip hq hk hb1 hpad (r.length-b.length+1) i (by omega) (fun t t1 t2=>⟨pad_0 hq (by omega),i2 t t2⟩),Pl.dvL]at i3
 have hget:(r++List.replicate (N-r.length) 0).getD (r.length-b.length+b.length-1) 0=Pl.top r:=by
  rw[show r.length-b.length+b.length-1=r.length-1 by omega,List.getD_eq_getElem?_getD,List.getElem?_append_left (by omega), ←List.getD_eq_getElem?_getD];rfl
 rw[hget,dst_app hq _ rp1 _ (by omega)]at i3
 have hz:(Pl.dst q b (Pl.mul q (Pl.top r) (Pl.inv q (Pl.top b))) (r.length-b.length) b.length r).getD (r.length-1) 0=0:=by
  obtain⟨n,hn⟩: ∃n,b.length=n+1:=⟨b.length-1,by omega⟩
  have hd:=dst_top hq (b:=b) (c:=Pl.mul q (Pl.top r) (Pl.inv q (Pl.top b))) (i:=r.length-b.length) rp1 n n (Nat.le_refl _) (by omega)
  have hdl:=(dst_ok hq (b:=b) (c:=Pl.mul q (Pl.top r) (Pl.inv q (Pl.top b))) (i:=r.length-b.length) n rp1).1
  have e1:r.length-b.length+n=r.length-1:=by omega
  rw[e1]at hd
  conv=>lhs;rw[hn,Pl.dst]
  rw[←hn,e1,hd,List.getD_eq_getElem?_getD,List.getElem?_set_self (by omega)]
  show Pl.sub q (r.getD (r.length-1) 0) (Pl.mul q (Pl.mul q (Pl.top r) (Pl.inv q (Pl.top b))) (b.getD n 0))=0
  have e2:b.getD n 0=Pl.top b:=by unfold Pl.top;rw[hn];rfl
  rw[e2]
  exact sub_top hq hrt hbi hbt
 generalize hr':Pl.dst q b (Pl.mul q (Pl.top r) (Pl.inv q (Pl.top b))) (r.length-b.length) b.length r=r' at*
 have hT:=trim_len r'
 have hlt:(Pl.trim r').length+1≤r.length:=by
  rw[hT,d1]
  obtain⟨n,hn⟩: ∃n,r.length=n+1:=⟨r.length-1,by omega⟩
  rw[hn]at hz⊢
  rw[Pl.trimN,decide_eq_true (by simpa using hz),cond_true]
  have:=trimN_le r' n
  omega
 have hmul:=mul_ne0 hq hrt hk hr0 (inv_ne0 hq hbi hbt)
 refine⟨⟨trim_pol d2 (by omega),by omega,by rw[List.length_set];exact ol,⟨r.length-b.length,by omega,fun t ht=> ?_, ?_⟩, .inr ?_⟩,hlt⟩
 ·rw[List.getD_eq_getElem?_getD,List.getElem?_set_ne (by omega), ←List.getD_eq_getElem?_getD]
  exact i2 t (by omega)
 ·have hp:=trim_pad r'
  have e:Pl.trim r'++List.replicate (N-(Pl.trim r').length) 0=r'++List.replicate (N-r.length) 0:=by
   conv=>rhs;rw[←hp]
   rw[List.append_assoc,List.replicate_append_replicate]
   congr 2
   omega
  rw[e];exact i3
 ·rcases Nat.eq_or_lt_of_le (show r.length-b.length≤N-b.length by omega)with e|e
  ·rw[e,List.getD_eq_getElem?_getD,List.getElem?_set_self (by omega)];exact hmul
  ·rw[List.getD_eq_getElem?_getD,List.getElem?_set_ne (by omega), ←List.getD_eq_getElem?_getD]
   exact tp.resolve_left (by omega)
theorem Dv_start {p b:List Int} (hp:Pl.pol q p) (hb:Pl.pol q b) (h:b.length≤p.length) (k:Int):Pl.Dv q b k p.length (Pl.dvL q b k (p.length-b.length+1) (List.replicate (p.length-b.length+1) 0) p) (List.replicate (p.length-b.length+1) 0) p:=by
 refine⟨hp,Nat.le_refl _,by rw[List.length_replicate],⟨p.length-b.length+1,by omega,fun t ht=> ?_,by rw[Nat.sub_self,List.replicate_zero,List.append_nil]⟩, .inl rfl⟩
 rw[List.getD_eq_getElem?_getD,List.getElem?_replicate];split<;>rfl
theorem Dv_end {p b o r:List Int} (hb:Pl.pol q b) (hb0:0<b.length) (hpb:b.length≤p.length) (h:Pl.Dv q b (Pl.inv q (Pl.top b)) p.length (Pl.dvL q b (Pl.inv q (Pl.top b)) (p.length-b.length+1) (List.replicate (p.length-b.length+1) 0) p) o r) (hr:r.length<b.length):Pl.ovr q p b=(o,r):=by
 obtain⟨rp,rl,ol,⟨i,i1,i2,i3⟩,tp⟩:=h
 unfold Pl.ovr
 rw[decide_eq_false (show¬p.length<b.length by omega),cond_false, ←i3,dvL_skip hq (inv_inQ hq _) hb.1 (pad_in hq rp.1 _) 0 i (Nat.zero_le _) (fun t _ t2=>⟨pad_0 hq (by omega),i2 t t2⟩),Pl.dvL]
 simp only
 rw[trim_app r rp.2.2,trim_eq]
 intro _
 unfold Pl.top
 rw[ol]
 exact tp.resolve_left (by omega)
theorem ovr_ok {p b:List Int} (hp:Pl.pol q p) (hb:Pl.pol q b) (hb0:0<b.length):Pl.pol q (Pl.ovr q p b).2∧(Pl.ovr q p b).2.length<b.length:=by
 rcases Nat.lt_or_ge p.length b.length with h|h
 ·unfold Pl.ovr
  rw[decide_eq_true h,cond_true]
  exact⟨hp,h⟩
 ·have key: ∀n o r,r.length≤n→Pl.Dv q b (Pl.inv q (Pl.top b)) p.length (Pl.dvL q b (Pl.inv q (Pl.top b)) (p.length-b.length+1) (List.replicate (p.length-b.length+1) 0) p) o r→Pl.pol q (Pl.ovr q p b).2∧(Pl.ovr q p b).2.length<b.length:=by
   intro n
   induction n with
   |zero=>
    intro o r hr hD
    rw[Dv_end hq hb hb0 h hD (by omega)]
    exact⟨hD.rp,by show r.length<_;omega⟩
   |succ n ih=>
    intro o r hr hD
    rcases Nat.lt_or_ge r.length b.length with h1|h1
    ·rw[Dv_end hq hb hb0 h hD h1]
     exact⟨hD.rp,h1⟩
    ·obtain⟨hD',hlt⟩:=Dv_step hq hb hb0 hD h1
     exact ih _ _ (by omega) hD'
  exact key p.length _ _ (Nat.le_refl _) (Dv_start hq hp hb h _)
end
end Fd
end
section
set_option linter.unusedVariables false
set_option linter.unusedSimpArgs false
set_option linter.unusedSectionVars false
set_option maxRecDepth 100000
namespace Fd
open Go Fw Go.Proofs

theorem vc116: ∀x,C116.pre x→VC T116 H116 Try.f116 C116 x:=by
 rintro⟨v,(p:List Int),(b:List Int),⟨⟩⟩ ⟨⟨q,hq,(rfl:v=_)⟩,hP,(hb0:0<b.length),(hbt:Pl.top b≠0)⟩
 have hP:Pl.okPr (Pl.qF (fieldD q)) p b:=hP
 rw[qF_d]at hP
 obtain⟨hp,hb,lp,lb⟩:=hP
 refine cast (α:=p.length≤(1000000000:Nat)∧Br (decide ((↑p.length:Int)<(↑b.length:Int))) (([],p,())=C116.post (fieldD q,p,b,())) ((0:Int)≤IntKind.i64.wrap (IntKind.i64.wrap ((↑p.length:Int)-(↑b.length:Int))+(1:Int))∧IntKind.i64.wrap (IntKind.i64.wrap ((↑p.length:Int)-(↑b.length:Int))+(1:Int))=IntKind.i64.wrap (IntKind.i64.wrap ((↑p.length:Int)-(↑b.length:Int))+(1:Int))∧IntKind.i64.wrap (IntKind.i64.wrap ((↑p.length:Int)-(↑b.length:Int))+(1:Int))*(8:Int)≤(140737488355328:Int)∧(0:Int)≤IntKind.i64.wrap ((↑b.length:Int)-(1:Int))∧IntKind.i64.wrap ((↑b.length:Int)-(1:Int))<(↑b.length:Int)∧(Pl.okA (arD q)∧Pl.inQ (Pl.qA (arD q)) (rd i64 b (IntKind.i64.wrap ((↑b.length:Int)-(1:Int))))∧rd i64 b (IntKind.i64.wrap ((↑b.length:Int)-(1:Int)))≠(0:Int))∧ ∃(n:Nat),itl (fun(G:List Int×List Int×Int×PUnit→Prop) (x:List Int×List Int×Int×PUnit)=>Br (decide (x.2.2.1≥(0:Int))) ((0:Int)≤IntKind.i64.wrap (IntKind.i64.wrap (x.2.2.1+(↑b.length:Int))-(1:Int))∧IntKind.i64.wrap (IntKind.i64.wrap (x.2.2.1+(↑b.length:Int))-(1:Int))<(↑(List.length x.2.1):Int)∧(0:Int)≤IntKind.i64.wrap (IntKind.i64.wrap (x.2.2.1+(↑b.length:Int))-(1:Int))∧IntKind.i64.wrap (IntKind.i64.wrap (x.2.2.1+(↑b.length:Int))-(1:Int))<(↑(List.length x.2.1):Int)∧(Pl.okM (arD q)∧Pl.inQ (Pl.qA (arD q)) (rd i64 x.2.1 (IntKind.i64.wrap (IntKind.i64.wrap (x.2.2.1+(↑b.length:Int))-(1:Int))))∧Pl.inQ (Pl.qA (arD q)) (Pl.inv (Pl.qA (arD q)) (rd i64 b (IntKind.i64.wrap ((↑b.length:Int)-(1:Int))))))∧(0:Int)≤x.2.2.1∧x.2.2.1<(↑(List.length x.1):Int)∧(0:Int)≤x.2.2.1∧x.2.2.1<(↑(List.length x.1):Int)∧ ∃(n:Nat),itl (fun(G_1:List Int×List Int×Int×PUnit→Prop) (x_1:List Int×List Int×Int×PUnit)=>Br (decide (x_1.2.2.1<(↑b.length:Int))) ((0:Int)≤x_1.2.2.1∧x_1.2.2.1<(↑b.length:Int)∧(0:Int)≤IntKind.i64.wrap (x.2.2.1+x_1.2.2.1)∧IntKind.i64.wrap (x.2.2.1+x_1.2.2.1)<(↑(List.length x_1.2.1):Int)∧(0:Int)≤IntKind.i64.wrap (x.2.2.1+x_1.2.2.1)∧IntKind.i64.wrap (x.2.2.1+x_1.2.2.1)<(↑(List.length x_1.2.1):Int)∧(Pl.okM (arD q)∧Pl.inQ (Pl.qA (arD q)) (Pl.mul (Pl.qA (arD q)) (rd i64 x.2.1 (IntKind.i64.wrap (IntKind.i64.wrap (x.2.2.1+(↑b.length:Int))-(1:Int)))) (Pl.inv (Pl.qA (arD q)) (rd i64 b (IntKind.i64.wrap ((↑b.length:Int)-(1:Int))))))∧Pl.inQ (Pl.qA (arD q)) (rd i64 b x_1.2.2.1))∧(Pl.okA (arD q)∧Pl.inQ (Pl.qA (arD q)) (rd i64 x_1.2.1 (IntKind.i64.wrap (x.2.2.1+x_1.2.2.1)))∧Pl.inQ (Pl.qA (arD q)) (Pl.mul (Pl.qA (arD q)) (Pl.mul (Pl.qA (arD q)) (rd i64 x.2.1 (IntKind.i64.wrap (IntKind.i64.wrap (x.2.2.1+(↑b.length:Int))-(1:Int)))) (Pl.inv (Pl.qA (arD q)) (rd i64 b (IntKind.i64.wrap ((↑b.length:Int)-(1:Int)))))) (rd i64 b x_1.2.2.1)))∧(0:Int)≤IntKind.i64.wrap (x.2.2.1+x_1.2.2.1)∧IntKind.i64.wrap (x.2.2.1+x_1.2.2.1)<(↑(List.length x_1.2.1):Int)∧(0:Int)≤IntKind.i64.wrap (x.2.2.1+x_1.2.2.1)∧IntKind.i64.wrap (x.2.2.1+x_1.2.2.1)<(↑(List.length x_1.2.1):Int)∧G_1 (x_1.1,List.set x_1.2.1 (IntKind.i64.wrap (x.2.2.1+x_1.2.2.1)).toNat (Pl.sub (Pl.qA (arD q)) (rd i64 x_1.2.1 (IntKind.i64.wrap (x.2.2.1+x_1.2.2.1))) (Pl.mul (Pl.qA (arD q)) (Pl.mul (Pl.qA (arD q)) (rd i64 x.2.1 (IntKind.i64.wrap (IntKind.i64.wrap (x.2.2.1+(↑b.length:Int))-(1:Int)))) (Pl.inv (Pl.qA (arD q)) (rd i64 b (IntKind.i64.wrap ((↑b.length:Int)-(1:Int)))))) (rd i64 b x_1.2.2.1))),IntKind.i64.wrap (x_1.2.2.1+(1:Int)),())) (G (x_1.1,x_1.2.1,IntKind.i64.wrap (x.2.2.1-(1:Int)),()))) n (List.set x.1 (Int.toNat x.2.2.1) (Pl.mul (Pl.qA (arD q)) (rd i64 x.2.1 (IntKind.i64.wrap (IntKind.i64.wrap (x.2.2.1+(↑b.length:Int))-(1:Int)))) (Pl.inv (Pl.qA (arD q)) (rd i64 b (IntKind.i64.wrap ((↑b.length:Int)-(1:Int)))))),x.2.1,(0:Int),())) (x.1.length≤(1000000000:Nat)∧List.length x.2.1≤(1000000000:Nat)∧(Pl.trim x.1,Pl.trim x.2.1,())=C116.post (fieldD q,p,b,()))) n (List.replicate (IntKind.i64.wrap (IntKind.i64.wrap ((↑p.length:Int)-(↑b.length:Int))+(1:Int))).toNat (0:Int),p,IntKind.i64.wrap ((↑(List.replicate (IntKind.i64.wrap (IntKind.i64.wrap ((↑p.length:Int)-(↑b.length:Int))+(1:Int))).toNat (0:Int)).length:Int)-(1:Int)),()))) (by kernel_rfl) ?_
 have hpo:C116.post (fieldD q,p,b,())=((Pl.ovr q p b).1,(Pl.ovr q p b).2,()):=rfl
 rw[hpo,qA_ar hq]
 have oA:=okA_ar hq
 have oM:Pl.okM (arD q):=⟨q,hq, .inl rfl⟩
 have e1:IntKind.i64.wrap ((b.length:Int)-1)=((b.length-1:Nat):Int):=by rw[wrap_i64 (by omega) (by omega)];omega
 have e3:rd i64 b ((b.length-1:Nat):Int)=Pl.top b:=rd_i b _
 rw[e1,e3]
 have hti:Pl.inQ q (Pl.top b):=getD_inQ hb (by omega)
 have hk:=inv_inQ hq (Pl.top b)
 refine⟨by omega,Br_of (fun h=> ?_) (fun h=> ?_)⟩
 ·have h:p.length<b.length:=by have:=of_decide_eq_true h;omega
  unfold Pl.ovr
  rw[decide_eq_true h];rfl
 ·have h:b.length≤p.length:=by have:=of_decide_eq_false h;omega
  have e2:IntKind.i64.wrap (IntKind.i64.wrap ((p.length:Int)-(b.length:Int))+1)=((p.length-b.length+1:Nat):Int):=by rw[wrap_i64 (x:=(p.length:Int)-b.length) (by omega) (by omega),wrap_i64 (by omega) (by omega)];omega
  have e4:IntKind.i64.wrap (((List.replicate (p.length-b.length+1) (0:Int)).length:Int)-1)=((p.length-b.length+1:Nat):Int)-1:=by rw[List.length_replicate,wrap_i64 (by omega) (by omega)]
  rw[e2,Int.toNat_natCast,e4]
  refine⟨by omega,rfl,by omega,by omega,by omega,⟨oA,hti,hbt⟩, ?_⟩
  have z0: ∀x∈List.replicate (p.length-b.length+1) (0:Int),Pl.inQ q x:=fun x hx=>by rw[(List.mem_replicate.1 hx).2];exact zero_inQ hq
  refine itl_rule (fun s=> ∃(i:Nat) (o r:List Int),s=(o,r,(i:Int)-1,())∧i≤p.length-b.length+1∧o.length=p.length-b.length+1∧r.length=p.length∧(∀x∈o,Pl.inQ q x)∧(∀x∈r,Pl.inQ q x)∧
   Pl.dvL q b (Pl.inv q (Pl.top b)) i o r=Pl.dvL q b (Pl.inv q (Pl.top b)) (p.length-b.length+1) (List.replicate (p.length-b.length+1) 0) p) (fun s=>(s.2.2.1+1).toNat)
   ⟨_,_,_,rfl,Nat.le_refl _,List.length_replicate,rfl,z0,hp,rfl⟩ ?_
  rintro x G ⟨i,o,r,rfl,hi,ho,hr,io,ir,hd⟩ hG
  simp only
  refine Br_of (fun h1=> ?_) (fun h1=> ?_)
  ·obtain⟨i,rfl⟩: ∃j,i=j+1:=⟨i-1,by have:=of_decide_eq_true h1;omega⟩
   rw[show((i+1:Nat):Int)-1=(i:Int)by omega]at hG⊢
   have e5:IntKind.i64.wrap (IntKind.i64.wrap ((i:Int)+(b.length:Int))-1)=((i+b.length-1:Nat):Int):=by rw[wrap_i64 (x:=(i:Int)+b.length) (by omega) (by omega),wrap_i64 (by omega) (by omega)];omega
   rw[e5,rd_i,Int.toNat_natCast]
   rw[Pl.dvL]at hd
   have hri:Pl.inQ q (r.getD (i+b.length-1) 0):=getD_inQ ir (by omega)
   have hc:=mul_inQ hq (r.getD (i+b.length-1) 0) (Pl.inv q (Pl.top b))
   generalize Pl.mul q (r.getD (i+b.length-1) 0) (Pl.inv q (Pl.top b))=c at*
   refine⟨by omega,by omega,by omega,by omega,⟨oM,hri,hk⟩,by omega,by omega,by omega,by omega, ?_⟩
   refine itl_rule (fun s=> ∃j:Nat,s=(o.set i c,Pl.dst q b c i j r,(j:Int),())∧j≤b.length) (fun s=>((b.length:Int)-s.2.2.1).toNat) ⟨0,rfl,Nat.zero_le _⟩ ?_
   rintro x G1 ⟨j,rfl,hj⟩ hG1
   simp only
   obtain⟨d1,d2⟩:=dst_ok hq (b:=b) (c:=c) (i:=i) j ir
   refine Br_of (fun h2=> ?_) (fun h2=> ?_)
   ·have h2:j<b.length:=by have:=of_decide_eq_true h2;omega
    have e6:IntKind.i64.wrap ((i:Int)+(j:Int))=((i+j:Nat):Int):=by rw[wrap_i64 (by omega) (by omega)];omega
    rw[e6,rd_i,rd_i,Int.toNat_natCast,wrap_i64 (x:=(j:Int)+1) (by omega) (by omega)]
    exact⟨by omega,by omega,by omega,by omega,by omega,by omega,⟨oM,hc,getD_inQ hb h2⟩,⟨oA,getD_inQ d2 (by omega),mul_inQ hq _ _⟩,by omega,by omega,by omega,by omega,hG1 _ ⟨j+1,rfl,h2⟩ (by simp only;omega)⟩
   ·have h2:j=b.length:=by have:=of_decide_eq_false h2;omega
    subst h2
    rw[wrap_i64 (by omega) (by omega)]
    refine hG _ ⟨i,_,_,rfl,by omega,by rw[List.length_set];exact ho,by rw[d1];exact hr,fun x hx=> ?_,d2,hd⟩ (by simp only;omega)
    rcases List.mem_or_eq_of_mem_set hx with hx|rfl
    ·exact io x hx
    ·exact hc
  ·have h1:i=0:=by have:=of_decide_eq_false h1;omega
   subst h1
   rw[Pl.dvL]at hd
   refine⟨by omega,by omega, ?_⟩
   unfold Pl.ovr
   rw[decide_eq_false (show¬p.length<b.length by omega), ←hd];rfl
theorem snd116:Sound Try.prog 116 C116:=fn_sound (T:=T116) (fn:=Try.f116) (tokF ⟨snd123,snd143,trivial⟩) Try.func116 (by kernel_rfl) H116 vc116 (by kernel_rfl) (hC:=⟨fun x hx=>⟨okF_nr hx.1,rfl,rfl,trivial⟩,fun x hx=>⟨rfl,rfl,trivial⟩⟩)
end Fd
end
section
set_option linter.unusedVariables false
set_option linter.unusedSimpArgs false
set_option linter.unusedSectionVars false
set_option maxRecDepth 100000
namespace Fd
open Go Fw Go.Proofs

def Pl.plR (q c:Int) (r:List Int):Nat→List Int→List Int
 |0,o=>o
 |i+1,o=>(Pl.plR q c r i o).set i (Pl.add q ((Pl.plR q c r i o).getD i 0) (Pl.mul q c (r.getD i 0)))
def Pl.pls (q:Int) (p:List Int) (c:Int) (r:List Int):List Int:=Pl.trim (Pl.plR q c r r.length (p++List.replicate (max p.length r.length-p.length) 0))
abbrev DLIL:=D×List Int×Int×List Int×Unit
def C118:Con:=⟨[.raw,L,I,L],[L],fun(x:DLIL)=>Pl.okF x.1∧Pl.okPr (Pl.qF x.1) x.2.1 x.2.2.2.1∧Pl.inQ (Pl.qF x.1) x.2.2.1,fun(x:DLIL)=>(Pl.pls (Pl.qF x.1) x.2.1 x.2.2.1 x.2.2.2.1,()),none⟩
def H118:Hints:=⟨[],[(8,[1000009])],[(0,⟨[0,2,21,22],[(9,so),(23,si)]⟩)],[],[]⟩
def T118:Ctx:=TF [(143,C143)]
def Pl.mnc (q:Int) (p:List Int):List Int:=bif decide (p.length=0)then []else Pl.trim (Pl.prod q p [Pl.inv q (Pl.top p)])
def C145:Con:=⟨[.raw,L],[L],fun(x:DL)=>Pl.okF x.1∧Pl.pol (Pl.qF x.1) x.2.1,fun(x:DL)=>(Pl.mnc (Pl.qF x.1) x.2.1,()),none⟩
def T145:Ctx:=TF [(107,C107)]
def Pl.gcdL (q:Int):Nat→List Int→List Int→List Int
 |0,p,_=>p
 |f+1,p,b=>bif decide (b.length=0)then p else Pl.gcdL q f b (Pl.ovr q p b).2
def Pl.gcd (q:Int) (p b:List Int):List Int:=Pl.mnc q (Pl.gcdL q (b.length+1) p b)
def C115:Con:=⟨[.raw,L,L],[L],fun(x:DLL)=>Pl.okF x.1∧Pl.pol (Pl.qF x.1) x.2.1∧Pl.pol (Pl.qF x.1) x.2.2.1,fun(x:DLL)=>(Pl.gcd (Pl.qF x.1) x.2.1 x.2.2.1,()),none⟩
def H115:Hints:=lo [(0,⟨[0],[(1,sl),(2,sl)]⟩)]
def T115:Ctx:=TT [(116,C116),(145,C145)]
def C65v:Con:=⟨[.raw,L,I],[I,I],fun(x:D×List Int×Int×Unit)=>Pl.okF x.1∧Pl.chk (Pl.qF x.1) x.2.1=0,fun(x:D×List Int×Int×Unit)=>(Pl.val (Pl.qF x.1) x.2.1 (x.2.2.1%Pl.qF x.1),0,()),none⟩
end Fd
end
section
set_option linter.unusedVariables false
set_option linter.unusedSimpArgs false
set_option linter.unusedSectionVars false
set_option maxRecDepth 100000
namespace Fd
open Go Fw Go.Proofs

theorem plR_ok {q:Int} (hq:isQ q) {c:Int} {r:List Int}: ∀(i:Nat) {o:List Int},(∀x∈o,Pl.inQ q x)→(Pl.plR q c r i o).length=o.length∧ ∀x∈Pl.plR q c r i o,Pl.inQ q x
 |0,o,h=>⟨rfl,h⟩
 |i+1,o,h=>by
  obtain⟨h1,h2⟩:=plR_ok hq (c:=c) (r:=r) i h
  rw[Pl.plR]
  refine⟨by rw[List.length_set,h1],fun x hx=> ?_⟩
  rcases List.mem_or_eq_of_mem_set hx with hx|rfl
  ·exact h2 x hx
  ·exact add_inQ hq _ _
theorem pls_in {q:Int} (hq:isQ q) {p r:List Int} (hp: ∀x∈p,Pl.inQ q x) (n:Nat): ∀x∈p++List.replicate n 0,Pl.inQ q x:=pad_in hq hp n
theorem vc118: ∀x,C118.pre x→VC T118 H118 Try.f118 C118 x:=by
 rintro⟨v,(p:List Int),(c:Int),(r:List Int),⟨⟩⟩ ⟨⟨q,hq,(rfl:v=_)⟩,hP,hc⟩
 have hP:Pl.okPr (Pl.qF (fieldD q)) p r:=hP
 have hc:Pl.inQ (Pl.qF (fieldD q)) c:=hc
 rw[qF_d]at hP hc
 obtain⟨hp,hr,lp,lr⟩:=hP
 refine cast (α:=((0:Int)≤if(↑r.length:Int)>(↑p.length:Int)then(↑r.length:Int)else(↑p.length:Int))∧((if(↑r.length:Int)>(↑p.length:Int)then(↑r.length:Int)else(↑p.length:Int))=if(↑r.length:Int)>(↑p.length:Int)then(↑r.length:Int)else(↑p.length:Int))∧(if(↑r.length:Int)>(↑p.length:Int)then(↑r.length:Int)else(↑p.length:Int))*(8:Int)≤(140737488355328:Int)∧ ∃(n:Nat),itl (fun(G:List Int×Int×PUnit→Prop) (x:List Int×Int×PUnit)=>Br (decide (x.2.1<(↑r.length:Int))) ((0:Int)≤x.2.1∧x.2.1<(↑r.length:Int)∧(0:Int)≤x.2.1∧x.2.1<(↑(List.length x.1):Int)∧(0:Int)≤x.2.1∧x.2.1<(↑(List.length x.1):Int)∧(Pl.okM (arD q)∧Pl.inQ (Pl.qA (arD q)) c∧Pl.inQ (Pl.qA (arD q)) (rd i64 r x.2.1))∧(Pl.okA (arD q)∧Pl.inQ (Pl.qA (arD q)) (rd i64 x.1 x.2.1)∧Pl.inQ (Pl.qA (arD q)) (Pl.mul (Pl.qA (arD q)) c (rd i64 r x.2.1)))∧(0:Int)≤x.2.1∧x.2.1<(↑(List.length x.1):Int)∧(0:Int)≤x.2.1∧x.2.1<(↑(List.length x.1):Int)∧G (List.set x.1 (Int.toNat x.2.1) (Pl.add (Pl.qA (arD q)) (rd i64 x.1 x.2.1) (Pl.mul (Pl.qA (arD q)) c (rd i64 r x.2.1))),IntKind.i64.wrap (x.2.1+(1:Int)),())) (x.1.length≤(1000000000:Nat)∧(Pl.trim x.1,())=C118.post (fieldD q,p,c,r,()))) n ((List.take (List.replicate (if(↑r.length:Int)>(↑p.length:Int)then(↑r.length:Int)else(↑p.length:Int)).toNat (0:Int)).length p).append (List.drop p.length (List.replicate (if(↑r.length:Int)>(↑p.length:Int)then(↑r.length:Int)else(↑p.length:Int)).toNat (0:Int))),(0:Int),())) (by kernel_rfl) ?_
 have hpo:C118.post (fieldD q,p,c,r,())=(Pl.pls q p c r,()):=rfl
 rw[hpo,qA_ar hq]
 have oA:=okA_ar hq
 have oM:Pl.okM (arD q):=⟨q,hq, .inl rfl⟩
 have e1:(if(r.length:Int)>(p.length:Int)then(r.length:Int)else(p.length:Int))=((max p.length r.length:Nat):Int):=by split<;>omega
 rw[e1,Int.toNat_natCast]
 have e2:(List.take (List.replicate (max p.length r.length) (0:Int)).length p).append (List.drop p.length (List.replicate (max p.length r.length) (0:Int)))=p++List.replicate (max p.length r.length-p.length) 0:=by
  rw[List.length_replicate,List.take_of_length_le (by omega),List.drop_replicate];rfl
 rw[e2]
 have hin:=pls_in hq (r:=r) hp (max p.length r.length-p.length)
 have hlen:(p++List.replicate (max p.length r.length-p.length) (0:Int)).length=max p.length r.length:=by rw[List.length_append,List.length_replicate];omega
 have hpls:Pl.pls q p c r=Pl.trim (Pl.plR q c r r.length (p++List.replicate (max p.length r.length-p.length) 0)):=rfl
 rw[hpls]
 generalize p++List.replicate (max p.length r.length-p.length) (0:Int)=o at*
 refine⟨by omega,rfl,by omega, ?_⟩
 refine itl_rule (fun s=> ∃i:Nat,s=(Pl.plR q c r i o,(i:Int),())∧i≤r.length) (fun s=>((r.length:Int)-s.2.1).toNat) ⟨0,rfl,Nat.zero_le _⟩ ?_
 rintro x G ⟨i,rfl,hi⟩ hG
 simp only at hG⊢
 obtain⟨d1,d2⟩:=plR_ok hq (c:=c) (r:=r) i hin
 rw[d1]
 refine Br_of (fun h=> ?_) (fun h=> ?_)
 ·have h:i<r.length:=by have:=of_decide_eq_true h;omega
  rw[rd_i,rd_i,Int.toNat_natCast,wrap_i64 (by omega) (by omega)]
  exact⟨by omega,by omega,by omega,by omega,by omega,by omega,⟨oM,hc,getD_inQ hr h⟩,⟨oA,getD_inQ d2 (by omega),mul_inQ hq _ _⟩,by omega,by omega,by omega,by omega,hG _ ⟨i+1,rfl,h⟩ (by simp only;omega)⟩
 ·have h:i=r.length:=by have:=of_decide_eq_false h;omega
  subst h
  exact⟨by omega,rfl⟩
theorem snd118:Sound Try.prog 118 C118:=fn_sound (T:=T118) (fn:=Try.f118) (tokF ⟨snd143,trivial⟩) Try.func118 (by kernel_rfl) H118 vc118 (by kernel_rfl) (hC:=⟨fun x hx=>⟨okF_nr hx.1,rfl,trivial,rfl,trivial⟩,fun x hx=>⟨rfl,trivial⟩⟩)
theorem pol_1 {q:Int} (hq:isQ q) (x:Int): ∀y∈[Pl.inv q x],Pl.inQ q y:=fun y hy=>by rw[List.mem_singleton.1 hy];exact inv_inQ hq _
theorem vc145: ∀x,C145.pre x→VC T145 H0 Try.f145 C145 x:=by
 rintro⟨v,(p:List Int),⟨⟩⟩ ⟨⟨q,hq,(rfl:v=_)⟩,hP⟩
 have hP:Pl.pol (Pl.qF (fieldD q)) p:=hP
 rw[qF_d]at hP
 refine cast (α:=Br ((↑p.length:Int)==(0:Int)) (([],())=C145.post (fieldD q,p,())) ((0:Int)≤IntKind.i64.wrap ((↑p.length:Int)-(1:Int))∧IntKind.i64.wrap ((↑p.length:Int)-(1:Int))<(↑p.length:Int)∧(Pl.okA (arD q)∧Pl.inQ (Pl.qA (arD q)) (rd i64 p (IntKind.i64.wrap ((↑p.length:Int)-(1:Int))))∧rd i64 p (IntKind.i64.wrap ((↑p.length:Int)-(1:Int)))≠(0:Int))∧(Pl.okF (D.rptr (fieldC q))∧Pl.okPr (Pl.qF (D.rptr (fieldC q))) p [Pl.inv (Pl.qA (arD q)) (rd i64 p (IntKind.i64.wrap ((↑p.length:Int)-(1:Int))))])∧(Pl.trim (Pl.prod (Pl.qF (D.rptr (fieldC q))) p [Pl.inv (Pl.qA (arD q)) (rd i64 p (IntKind.i64.wrap ((↑p.length:Int)-(1:Int))))]),())=C145.post (fieldD q,p,()))) (by kernel_rfl) ?_
 have hpo:C145.post (fieldD q,p,())=(Pl.mnc q p,()):=rfl
 rw[hpo,qA_ar hq,qF_f]
 obtain⟨h1,h2,h3⟩:=hP
 refine Br_of (fun h=> ?_) (fun h=> ?_)
 ·have h:p.length=0:=by have:=eq_of_beq h;omega
  unfold Pl.mnc;rw[decide_eq_true h];rfl
 ·have h:p.length≠0:=fun e=>by rw[e]at h;simp at h
  have e1:IntKind.i64.wrap ((p.length:Int)-1)=((p.length-1:Nat):Int):=by rw[wrap_i64 (by omega) (by omega)];omega
  have e3:rd i64 p ((p.length-1:Nat):Int)=Pl.top p:=rd_i p _
  rw[e1,e3]
  refine⟨by omega,by omega,⟨okA_ar hq,getD_inQ h1 (by omega),h3 (by omega)⟩,⟨okF_f hq,h1,pol_1 hq _,h2,by simp⟩, ?_⟩
  unfold Pl.mnc;rw[decide_eq_false h];rfl
theorem snd145:Sound Try.prog 145 C145:=fn_sound (T:=T145) (fn:=Try.f145) (tokF ⟨snd107,trivial⟩) Try.func145 (by kernel_rfl) H0 vc145 (by kernel_rfl) (hC:=nrcL (fun x h=>h.1) fun x h=>⟨rfl,trivial⟩)
theorem gcd_go {q:Int} {f:Nat} {p b:List Int} (h:0<b.length):Pl.gcdL q (f+1) p b=Pl.gcdL q f b (Pl.ovr q p b).2:=by
 rw[Pl.gcdL,decide_eq_false (show¬b.length=0 by omega)];rfl
theorem gcd_fuel {q:Int} (hq:isQ q): ∀(n f g:Nat) (p b:List Int),b.length≤n→Pl.pol q p→Pl.pol q b→b.length<f→b.length<g→Pl.gcdL q f p b=Pl.gcdL q g p b
 |n,0,g,p,b,_,_,_,h,_=>by omega
 |n,f,0,p,b,_,_,_,_,h=>by omega
 |n,f+1,g+1,p,b,hn,hp,hb,hf,hg=>by
  by_cases h:b.length=0
  ·rw[Pl.gcdL,Pl.gcdL,decide_eq_true h];rfl
  ·rw[gcd_go (by omega),gcd_go (by omega)]
   obtain⟨r1,r2⟩:=ovr_ok hq hp hb (by omega)
   match n,hn with
   |0,hn=>omega
   |n+1,hn=>exact gcd_fuel hq n f g b _ (by omega) hb r1 (by omega) (by omega)
theorem vc115: ∀x,C115.pre x→VC T115 H115 Try.f115 C115 x:=by
 rintro⟨v,(p:List Int),(b:List Int),⟨⟩⟩ ⟨⟨q,hq,(rfl:v=_)⟩,hp,hb⟩
 have hp:Pl.pol (Pl.qF (fieldD q)) p:=hp
 have hb:Pl.pol (Pl.qF (fieldD q)) b:=hb
 rw[qF_d]at hp hb
 refine cast (α:= ∃(n:Nat),itl (fun(G:List Int×List Int×PUnit→Prop) (x:List Int×List Int×PUnit)=>Br (decide ((↑(List.length x.2.1):Int)>(0:Int))) ((Pl.okF (D.rptr (fieldC q))∧Pl.okPr (Pl.qF (D.rptr (fieldC q))) x.1 x.2.1∧(0:Nat)<List.length x.2.1∧Pl.top x.2.1≠(0:Int))∧G (x.2.1,(Pl.ovr (Pl.qF (D.rptr (fieldC q))) x.1 x.2.1).2,())) ((Pl.okF (D.rptr (fieldC q))∧Pl.pol (Pl.qF (D.rptr (fieldC q))) x.1)∧(Pl.mnc (Pl.qF (D.rptr (fieldC q))) x.1,())=C115.post (fieldD q,p,b,()))) n (p,b,())) (by kernel_rfl) ?_
 have hpo:C115.post (fieldD q,p,b,())=(Pl.gcd q p b,()):=rfl
 rw[hpo,qF_f]
 have oF:=okF_f hq
 refine itl_rule (fun s=>Pl.pol q s.1∧Pl.pol q s.2.1∧Pl.gcdL q (s.2.1.length+1) s.1 s.2.1=Pl.gcdL q (b.length+1) p b) (fun s=>s.2.1.length) ⟨hp,hb,rfl⟩ ?_
 rintro⟨a,c,⟨⟩⟩ G ⟨h1,h2,h3⟩ hG
 simp only at h1 h2 h3 hG⊢
 refine Br_of (fun h=> ?_) (fun h=> ?_)
 ·have h:0<c.length:=by have:=of_decide_eq_true h;omega
  obtain⟨r1,r2⟩:=ovr_ok hq h1 h2 h
  rw[gcd_go h]at h3
  exact⟨⟨oF,⟨h1.1,h2.1,h1.2.1,h2.2.1⟩,h,h2.2.2 h⟩,hG _ ⟨h2,r1,by rw[←h3];exact gcd_fuel hq _ _ _ _ _ (Nat.le_refl _) h2 r1 (by omega) r2⟩ r2⟩
 ·have h:c.length=0:=by have:=of_decide_eq_false h;omega
  rw[Pl.gcdL,decide_eq_true h,cond_true]at h3
  refine⟨⟨oF,h1⟩, ?_⟩
  unfold Pl.gcd
  rw[←h3]
theorem snd115:Sound Try.prog 115 C115:=fn_sound (T:=T115) (fn:=Try.f115) (tok0 ⟨snd116,snd145,trivial⟩) Try.func115 (by kernel_rfl) H115 vc115 (by kernel_rfl) (hC:=nrcLL (fun x h=>h.1) fun x h=>⟨rfl,trivial⟩)
theorem prow_one {q:Int} (a:List Int) (c:Int) (i:Nat) (o:List Int):Pl.prow q a [c] i 1 o=o.set i (Pl.add q (o.getD i 0) (Pl.mul q (a.getD i 0) c)):=rfl
theorem prws_one {q:Int} (hq:isQ q) {a:List Int} (ha: ∀x∈a,Pl.inQ q x) (c:Int): ∀i,i≤a.length→Pl.prws q a [c] i=(a.take i).map (fun x=>Pl.mul q x c)++List.replicate (a.length-i) 0
 |0,_=>by rw[Pl.prws];simp
 |i+1,h=>by
  rw[Pl.prws,prws_one hq ha c i (by omega)]
  show Pl.prow q a [c] i 1 _=_
  have hlen:((a.take i).map (fun x=>Pl.mul q x c)).length=i:=by rw[List.length_map,List.length_take];omega
  obtain⟨k,hk⟩: ∃k,a.length-i=k+1:=⟨a.length-i-1,by omega⟩
  rw[prow_one,hk,show a.length-(i+1)=k by omega]
  have e1:((a.take i).map (fun x=>Pl.mul q x c)++List.replicate (k+1) (0:Int)).getD i 0=0:=pad_0 hq (by omega)
  rw[e1,List.set_append_right _ _ (by omega),hlen,Nat.sub_self,List.replicate_succ,List.set_cons_zero,List.take_succ_eq_append_getElem (by omega),List.map_append,List.append_assoc]
  have e2:Pl.add q 0 (Pl.mul q (a.getD i 0) c)=Pl.mul q a[i] c:=by
   have hin:=mul_inQ hq (a.getD i 0) c
   have:Pl.add q 0 (Pl.mul q (a.getD i 0) c)=Pl.mul q (a.getD i 0) c:=congrArg KQ.v (show(0:KQ hq)+⟨_,hin⟩=⟨_,hin⟩by grind)
   rw[this,List.getD_eq_getElem?_getD,List.getElem?_eq_getElem (show i<a.length by omega)];rfl
  rw[e2];rfl
theorem prod_one {q:Int} (hq:isQ q) {a:List Int} (ha: ∀x∈a,Pl.inQ q x) (c:Int):Pl.prod q a [c]=a.map fun x=>Pl.mul q x c:=by
 unfold Pl.prod
 by_cases h:a.length=0
 ·rw[decide_eq_true h,List.length_eq_zero_iff.1 h];rfl
 ·rw[decide_eq_false h,decide_eq_false (show¬[c].length=0 by simp)]
  show Pl.prws q a [c] a.length=_
  rw[prws_one hq ha c a.length (Nat.le_refl _),List.take_length,Nat.sub_self,List.replicate_zero,List.append_nil]
theorem mnc_map {q:Int} (hq:isQ q) {p:List Int} (hp:Pl.pol q p) (h:p.length≠0):Pl.mnc q p=Pl.trim (p.map fun a=>Pl.mul q a (Pl.inv q (Pl.top p))):=by
 unfold Pl.mnc
 rw[decide_eq_false h,cond_false,prod_one hq hp.1]
theorem chk_len {q:Int} {l:List Int} (h:Pl.chk q l=0):Pl.len9 l:=by have:=(chk_in h).1;unfold Pl.len9;omega
theorem chk_pol {q:Int} {l:List Int} (h:Pl.chk q l=0):Pl.pol q l:=by obtain⟨a,b,c⟩:=chk_in h;exact⟨b,by omega,c⟩
theorem els_all {q:Int} {l:List Int} (h: ∀x∈l,Pl.inQ q x):Pl.els q l=true:=by
 unfold Pl.els
 rw[List.all_eq_true]
 intro x hx
 obtain⟨a,b⟩:=h x hx
 rw[decide_eq_true a,decide_eq_true b];rfl
theorem pol_chk {q:Int} {l:List Int} (h:Pl.pol q l) (hl:l.length≤200):Pl.chk q l=0:=chk_ok (by omega) (els_all h.1) h.2.2
theorem snd65v:Sound Try.prog 65 C65v:=snd_less snd65 (fun x h=>⟨h.1,chk_len h.2⟩) fun x h=>by
 obtain⟨v,l,x,⟨⟩⟩:=x
 have h:Pl.chk (Pl.qF v) l=0:=h.2
 show encs [I,I] ((Pl.vale (Pl.qF v) l x).1,(Pl.vale (Pl.qF v) l x).2,())=encs [I,I] (Pl.val (Pl.qF v) l (x%Pl.qF v),(0:Int),())
 unfold Pl.vale
 rw[decide_eq_false (not_not_intro h)];rfl
end Fd
end
section
set_option linter.unusedVariables false
set_option linter.unusedSimpArgs false
set_option linter.unusedSectionVars false
set_option maxRecDepth 100000
namespace Fd
open Go Fw Go.Proofs

theorem prow_len {q:Int} {a b:List Int} (i:Nat): ∀(k:Nat) (out:List Int),(Pl.prow q a b i k out).length=out.length
 |0,_=>rfl
 |k+1,out=>by rw[Pl.prow,Pl.pst,List.length_set];exact prow_len i k out
theorem prod_pol {q:Int} (hq:isQ q) {a b:List Int} (ha:Pl.pol q a) (hb:Pl.pol q b):Pl.trim (Pl.prod q a b)=Pl.prod q a b:=by
 refine trim_eq fun h=> ?_
 by_cases h1:a.length=0
 ·unfold Pl.prod at h;rw[decide_eq_true h1]at h;exact absurd h (by simp)
 by_cases h2:b.length=0
 ·unfold Pl.prod at h;rw[decide_eq_true h2,Bool.or_true]at h;exact absurd h (by simp)
 have hpr:Pl.prod q a b=Pl.prws q a b a.length:=by unfold Pl.prod;rw[decide_eq_false h1,decide_eq_false h2];rfl
 rw[hpr]
 unfold Pl.top
 obtain⟨n,hn⟩: ∃n,a.length=n+1:=⟨a.length-1,by omega⟩
 obtain⟨k,hk⟩: ∃k,b.length=k+1:=⟨b.length-1,by omega⟩
 have hl:(Pl.prws q a b a.length).length=a.length+b.length-1:=(prws_ok hq a.length).1
 rw[hl,show a.length+b.length-1-1=n+k by omega,hn,Pl.prws,hk,Pl.prow,Pl.pst]
 have hlen:(Pl.prow q a b n k (Pl.prws q a b n)).length=a.length+b.length-1:=by rw[prow_len,(prws_ok hq n).1]
 rw[List.getD_eq_getElem?_getD,List.getElem?_set_self (by omega),prow_far hq n k _ _ (Nat.le_refl _),prws_far hq (by omega) n (n+k) (by omega)]
 have hai:Pl.inQ q (a.getD n 0):=getD_inQ ha.1 (by omega)
 have hbi:Pl.inQ q (b.getD k 0):=getD_inQ hb.1 (by omega)
 have hin:=mul_inQ hq (a.getD n 0) (b.getD k 0)
 have e:Pl.add q 0 (Pl.mul q (a.getD n 0) (b.getD k 0))=Pl.mul q (a.getD n 0) (b.getD k 0):=congrArg KQ.v (show(0:KQ hq)+⟨_,hin⟩=⟨_,hin⟩by grind)
 show Pl.add q 0 (Pl.mul q (a.getD n 0) (b.getD k 0))≠0
 rw[e]
 refine mul_ne0 hq hai hbi ?_ ?_
 ·have:=ha.2.2 (by omega);unfold Pl.top at this;rwa [hn]at this
 ·have:=hb.2.2 (by omega);unfold Pl.top at this;rwa [hk]at this
theorem gcd_len {q:Int} (hq:isQ q): ∀(f:Nat) (p b:List Int),Pl.pol q p→Pl.pol q b→Pl.pol q (Pl.gcdL q f p b)
 |0,p,b,hp,_=>hp
 |f+1,p,b,hp,hb=>by
  by_cases h:b.length=0
  ·rw[Pl.gcdL,decide_eq_true h];exact hp
  ·rw[gcd_go (by omega)]
   exact gcd_len hq f b _ hb (ovr_ok hq hp hb (by omega)).1
end Fd
end
section
set_option linter.unusedVariables false
set_option linter.unusedSectionVars false
namespace Fd
open Lean.Grind La
section
variable {q : Int} (hq : isQ q)
include hq
def kq (x:Int):KQ hq:=⟨x%q,emod_inQ hq x⟩
theorem kq_val {x:Int} (h:Pl.inQ q x):(kq hq x).1=x:=Int.emod_eq_of_lt h.1 h.2
theorem kq_eq {x:Int} (h:Pl.inQ q x):kq hq x=⟨x,h⟩:=KQ.ext (kq_val hq h)
theorem kq_0:kq hq 0=0:=KQ.ext (Int.zero_emod q)
theorem kq_1:kq hq 1=1:=KQ.ext (kq_val hq (one_inQ hq))
theorem kq_of (a:KQ hq):kq hq a.1=a:=KQ.ext (kq_val hq a.2)
theorem kq_inj {x y:Int} (hx:Pl.inQ q x) (hy:Pl.inQ q y) (h:kq hq x=kq hq y):x=y:=by
 have:=congrArg KQ.v h
 rwa [kq_val hq hx,kq_val hq hy]at this
theorem kq_add {x y:Int} (hx:Pl.inQ q x) (hy:Pl.inQ q y):kq hq (Pl.add q x y)=kq hq x+kq hq y:=by
 rw[kq_eq hq hx,kq_eq hq hy];exact kq_of hq (⟨x,hx⟩+⟨y,hy⟩)
theorem kq_sub {x y:Int} (hx:Pl.inQ q x) (hy:Pl.inQ q y):kq hq (Pl.sub q x y)=kq hq x-kq hq y:=by
 rw[kq_eq hq hx,kq_eq hq hy];exact kq_of hq (⟨x,hx⟩-⟨y,hy⟩)
theorem kq_mul {x y:Int} (hx:Pl.inQ q x) (hy:Pl.inQ q y):kq hq (Pl.mul q x y)=kq hq x*kq hq y:=by
 rw[kq_eq hq hx,kq_eq hq hy];exact kq_of hq (⟨x,hx⟩*⟨y,hy⟩)
theorem kq_ne {x:Int} (hx:Pl.inQ q x) (h:x≠0):kq hq x≠0:=fun e=>h (kq_inj hq hx (zero_inQ hq) (by rw[e,kq_0]))
def psL (l:List Int):Ps (KQ hq):=⟨fun n=>kq hq (l.getD n 0)⟩
theorem psL_c (l:List Int) (n:Nat):(psL hq l).c n=kq hq (l.getD n 0):=rfl
theorem psL_dg (l:List Int):Dg l.length (psL hq l):=fun i hi=>by
 rw[psL_c,List.getD_eq_getElem?_getD,List.getElem?_eq_none hi];exact kq_0 hq
theorem psL_nil:psL hq []=0:=(psL_dg hq []).eq0
theorem psL_pad (l:List Int) (n:Nat):psL hq (l++List.replicate n 0)=psL hq l:=Ps.ext fun i=>by
 rw[psL_c,psL_c]
 congr 1
 rcases Nat.lt_or_ge i l.length with h|h
 ·rw[List.getD_eq_getElem?_getD,List.getElem?_append_left h, ←List.getD_eq_getElem?_getD]
 ·rw[pad_0 hq h,List.getD_eq_getElem?_getD,List.getElem?_eq_none h];rfl
theorem psL_trim (l:List Int):psL hq (Pl.trim l)=psL hq l:=by
 conv=>rhs;rw[←trim_pad l]
 rw[psL_pad]
theorem psL_cons {a:Int} {l:List Int}:psL hq (a::l)=C (kq hq a)+xp 1*psL hq l:=Ps.ext fun n=>by
 rw[Ps.add_c,xp_mul]
 cases n with
 |zero=>show kq hq a=(if 0=0 then kq hq a else 0)+_;rw[if_pos rfl,if_neg (by omega)];grind
 |succ n=>show kq hq (l.getD n 0)=(if n+1=0 then kq hq a else 0)+_;rw[if_neg (by omega),if_pos (by omega),Nat.add_sub_cancel,psL_c];grind
theorem psL_inj {a b:List Int} (ha:Pl.pol q a) (hb:Pl.pol q b) (h:psL hq a=psL hq b):a=b:=by
 have hin: ∀ {l:List Int},Pl.pol q l→ ∀i,Pl.inQ q (l.getD i 0):=fun hl i=>by
  rcases Nat.lt_or_ge i _ with h|h
  ·exact getD_inQ hl.1 h
  ·rw[List.getD_eq_getElem?_getD,List.getElem?_eq_none h];exact zero_inQ hq
 have hg: ∀i,a.getD i 0=b.getD i 0:=fun i=>kq_inj hq (hin ha i) (hin hb i) (congrArg (fun p=>p.c i) h)
 have hle: ∀ {a b:List Int},Pl.pol q a→(∀i,a.getD i 0=b.getD i 0)→a.length≤b.length:=fun {a b} ha hg=>by
  rcases Nat.lt_or_ge b.length a.length with h|h
  ·refine absurd ?_ (ha.2.2 (by omega))
   unfold Pl.top
   rw[hg,List.getD_eq_getElem?_getD,List.getElem?_eq_none (by omega)];rfl
  ·exact h
 have hl:a.length=b.length:=Nat.le_antisymm (hle ha hg) (hle hb fun i=>(hg i).symm)
 refine List.ext_getElem hl fun i h1 h2=> ?_
 have:=hg i
 rwa [List.getD_eq_getElem?_getD,List.getD_eq_getElem?_getD,List.getElem?_eq_getElem h1,List.getElem?_eq_getElem h2]at this
theorem getQ {l:List Int} (h: ∀x∈l,Pl.inQ q x) (i:Nat):Pl.inQ q (l.getD i 0):=by
 rcases Nat.lt_or_ge i l.length with h1|h1
 ·exact getD_inQ h h1
 ·rw[List.getD_eq_getElem?_getD,List.getElem?_eq_none h1];exact zero_inQ hq
theorem psL_set {l:List Int} {i:Nat} (hi:i<l.length) (x:Int):psL hq (l.set i x)=psL hq l+C (kq hq x-kq hq (l.getD i 0))*xp i:=Ps.ext fun n=>by
 rw[Ps.add_c,C_mul,psL_c,psL_c]
 show _=_+_*(if n=i then 1 else 0)
 by_cases e:n=i
 ·subst e
  rw[if_pos rfl,List.getD_eq_getElem?_getD,List.getElem?_set_self hi]
  show kq hq x=_
  grind
 ·rw[if_neg e,List.getD_eq_getElem?_getD,List.getElem?_set_ne (by omega), ←List.getD_eq_getElem?_getD];grind
def psT (l:List Int) (n:Nat):Ps (KQ hq):=psL hq (l.take n)
theorem psT_succ {l:List Int} {n:Nat} (h:n<l.length):psT hq l (n+1)=psT hq l n+C (kq hq (l.getD n 0))*xp n:=Ps.ext fun i=>by
 rw[Ps.add_c,C_mul]
 unfold psT
 rw[psL_c,psL_c]
 show _=_+_*(if i=n then 1 else 0)
 rw[List.getD_eq_getElem?_getD,List.getD_eq_getElem?_getD,List.getD_eq_getElem?_getD,List.getElem?_take,List.getElem?_take]
 by_cases e:i=n
 ·subst e
  rw[if_pos rfl,if_pos (by omega),if_neg (by omega)]
  show _=kq hq 0+_
  rw[kq_0];grind
 ·rw[if_neg e]
  by_cases e2:i<n
  ·rw[if_pos e2,if_pos (by omega)];grind
  ·rw[if_neg e2,if_neg (by omega)];grind
theorem psT_all (l:List Int):psT hq l l.length=psL hq l:=by unfold psT;rw[List.take_length]
theorem psT_0 (l:List Int):psT hq l 0=0:=by unfold psT;rw[List.take_zero,psL_nil]
theorem xp_add (m n:Nat):(xp (m+n):Ps (KQ hq))=xp m*xp n:=Ps.ext fun i=>by
 rw[xp_mul]
 show(if i=m+n then(1:KQ hq)else 0)=if m≤i then(if i-m=n then 1 else 0)else 0
 by_cases h:m≤i
 ·rw[if_pos h]
  by_cases e:i=m+n
  ·rw[if_pos e,if_pos (by omega)]
  ·rw[if_neg e,if_neg (by omega)]
 ·rw[if_neg h,if_neg (by omega)]
theorem psL_prow {a b:List Int} (ha: ∀x∈a,Pl.inQ q x) (hb: ∀x∈b,Pl.inQ q x) (i:Nat): ∀(k:Nat) (o:List Int),(∀x∈o,Pl.inQ q x)→i+k≤o.length→k≤b.length→
  psL hq (Pl.prow q a b i k o)=psL hq o+C (kq hq (a.getD i 0))*xp i*psT hq b k∧ ∀x∈Pl.prow q a b i k o,Pl.inQ q x
 |0,o,ho,_,_=>⟨by rw[psT_0,Pl.prow];grind,ho⟩
 |k+1,o,ho,h,hk=>by
  obtain⟨e,h2⟩:=psL_prow ha hb i k o ho (by omega) (by omega)
  have hl:=prow_len (q:=q) (a:=a) (b:=b) i k o
  rw[Pl.prow,Pl.pst,psL_set hq (by omega),kq_add hq (getQ hq h2 _) (mul_inQ hq _ _),kq_mul hq (getQ hq ha _) (getQ hq hb _),e,psT_succ hq (by omega)]
  refine⟨?_,fun x hx=> ?_⟩
  ·rw[xp_add,show∀x y:KQ hq,x+y-x=y from fun x y=>by grind,C_mulC];grind
  ·rcases List.mem_or_eq_of_mem_set hx with hx|rfl
   ·exact h2 x hx
   ·exact add_inQ hq _ _
theorem psL_prws {a b:List Int} (ha: ∀x∈a,Pl.inQ q x) (hb: ∀x∈b,Pl.inQ q x) (hb0:0<b.length): ∀i,i≤a.length→
  psL hq (Pl.prws q a b i)=psT hq a i*psL hq b∧ ∀x∈Pl.prws q a b i,Pl.inQ q x
 |0,_=>⟨by
   rw[Pl.prws,psT_0]
   have:=psL_pad hq [] (a.length+b.length-1)
   rw[List.nil_append,psL_nil]at this
   rw[this];grind,fun x hx=>by rw[(List.mem_replicate.1 hx).2];exact zero_inQ hq⟩
 |i+1,h=>by
  obtain⟨e,h2⟩:=psL_prws ha hb hb0 i (by omega)
  have hl:=(prws_ok hq (a:=a) (b:=b) i).1
  rw[Pl.prws]
  obtain⟨e3,h3⟩:=psL_prow hq ha hb i b.length (Pl.prws q a b i) h2 (by omega) (Nat.le_refl _)
  exact⟨by rw[e3,e,psT_all,psT_succ hq (by omega)];grind,h3⟩
theorem psL_prod {a b:List Int} (ha: ∀x∈a,Pl.inQ q x) (hb: ∀x∈b,Pl.inQ q x):psL hq (Pl.prod q a b)=psL hq a*psL hq b:=by
 unfold Pl.prod
 by_cases h1:a.length=0
 ·rw[decide_eq_true h1,List.length_eq_zero_iff.1 h1]
  show psL hq []=_
  rw[psL_nil];grind
 by_cases h2:b.length=0
 ·rw[decide_eq_true h2,Bool.or_true,List.length_eq_zero_iff.1 h2]
  show psL hq []=_
  rw[psL_nil];grind
 rw[decide_eq_false h1,decide_eq_false h2]
 show psL hq (Pl.prws q a b a.length)=_
 rw[(psL_prws hq ha hb (by omega) a.length (Nat.le_refl _)).1,psT_all]
theorem psL_plR {c:Int} {r:List Int} (hc:Pl.inQ q c) (hr: ∀x∈r,Pl.inQ q x): ∀(i:Nat) {o:List Int},(∀x∈o,Pl.inQ q x)→i≤o.length→i≤r.length→
  psL hq (Pl.plR q c r i o)=psL hq o+C (kq hq c)*psT hq r i
 |0,o,_,_,_=>by rw[psT_0,Pl.plR];grind
 |i+1,o,ho,h,h2=>by
  obtain⟨l,hi⟩:=plR_ok hq (c:=c) (r:=r) i ho
  rw[Pl.plR,psL_set hq (by omega),kq_add hq (getQ hq hi _) (mul_inQ hq _ _),kq_mul hq hc (getQ hq hr _),psL_plR hc hr i ho (by omega) (by omega),psT_succ hq (by omega),show∀x y:KQ hq,x+y-x=y from fun x y=>by grind,C_mulC]
  grind
theorem psL_pls {p r:List Int} {c:Int} (hp: ∀x∈p,Pl.inQ q x) (hr: ∀x∈r,Pl.inQ q x) (hc:Pl.inQ q c):psL hq (Pl.pls q p c r)=psL hq p+C (kq hq c)*psL hq r:=by
 unfold Pl.pls
 rw[psL_trim,psL_plR hq hc hr r.length (pad_in hq hp _) (by rw[List.length_append,List.length_replicate];omega) (Nat.le_refl _),psL_pad,psT_all]
theorem psL_dst {b:List Int} {c:Int} {i:Nat} (hb: ∀x∈b,Pl.inQ q x) (hc:Pl.inQ q c): ∀(j:Nat) {r:List Int},(∀x∈r,Pl.inQ q x)→i+j≤r.length→j≤b.length→
  psL hq (Pl.dst q b c i j r)=psL hq r-C (kq hq c)*xp i*psT hq b j
 |0,r,_,_,_=>by rw[psT_0,Pl.dst];grind
 |j+1,r,hr,h,hj=>by
  obtain⟨l,hi⟩:=dst_ok hq (b:=b) (c:=c) (i:=i) j hr
  rw[Pl.dst,psL_set hq (by omega),kq_sub hq (getQ hq hi _) (mul_inQ hq _ _),kq_mul hq hc (getQ hq hb _),psL_dst hb hc j hr (by omega) (by omega),psT_succ hq (by omega),xp_add,show∀x y:KQ hq,x-y-x=0-y from fun x y=>by grind,C_sub,C_mulC,C_zero]
  grind
theorem psL_dvL {b:List Int} {k:Int} (hb: ∀x∈b,Pl.inQ q x) (hk:Pl.inQ q k) (hb0:0<b.length): ∀(i:Nat) {o r:List Int},(∀x∈o,Pl.inQ q x)→(∀x∈r,Pl.inQ q x)→i≤o.length→i+b.length≤r.length+1→(∀t,t<i→o.getD t 0=0)→
  psL hq (Pl.dvL q b k i o r).1*psL hq b+psL hq (Pl.dvL q b k i o r).2=psL hq o*psL hq b+psL hq r
 |0,o,r,_,_,_,_,_=>rfl
 |i+1,o,r,ho,hr,h1,h2,hz=>by
  have hx:=mul_inQ hq (r.getD (i+b.length-1) 0) k
  obtain⟨dl,di⟩:=dst_ok hq (b:=b) (c:=Pl.mul q (r.getD (i+b.length-1) 0) k) (i:=i) b.length hr
  rw[Pl.dvL,psL_dvL hb hk hb0 i (fun x hx'=>by
   rcases List.mem_or_eq_of_mem_set hx' with h|rfl
   ·exact ho x h
   ·exact hx) di (by rw[List.length_set];omega) (by omega) (fun t ht=>by rw[List.getD_eq_getElem?_getD,List.getElem?_set_ne (by omega), ←List.getD_eq_getElem?_getD];exact hz t (by omega))]
  rw[psL_set hq (by omega),hz i (by omega),kq_0,psL_dst hq hb hx b.length hr (by omega) (Nat.le_refl _),psT_all,show∀x:KQ hq,x-0=x from fun x=>by grind]
  grind
theorem psL_ovr {p b:List Int} (hp:Pl.pol q p) (hb:Pl.pol q b) (hb0:0<b.length):psL hq (Pl.ovr q p b).1*psL hq b+psL hq (Pl.ovr q p b).2=psL hq p:=by
 unfold Pl.ovr
 rcases Nat.lt_or_ge p.length b.length with h|h
 ·rw[decide_eq_true h]
  show psL hq []*_+psL hq p=_
  rw[psL_nil];grind
 ·rw[_root_.decide_eq_false (by omega),cond_false]
  show psL hq (Pl.trim _)*_+psL hq (Pl.trim _)=_
  rw[psL_trim,psL_trim,psL_dvL hq hb.1 (inv_inQ hq _) hb0 _ (fun x hx=>by rw[(List.mem_replicate.1 hx).2];exact zero_inQ hq) hp.1 (by rw[List.length_replicate];exact Nat.le_refl _) (by omega) (fun t ht=>by rw[List.getD_eq_getElem?_getD,List.getElem?_replicate];split<;>rfl)]
  have:=psL_pad hq [] (p.length-b.length+1)
  rw[List.nil_append,psL_nil]at this
  rw[this];grind
theorem ev_val: ∀ {l:List Int} {x:Int},(∀y∈l,Pl.inQ q y)→Pl.inQ q x→Ev (kq hq x) (psL hq l) (kq hq (Pl.val q l x))
 |[],x,_,_=>by rw[psL_nil,Pl.val,kq_0];exact Ev.zero _
 |a::l,x,h,hx=>by
  have h1:=ev_val (l:=l) (fun y hy=>h y (List.mem_cons_of_mem _ hy)) hx
  have ha:=h a List.mem_cons_self
  rw[psL_cons,Pl.val,kq_add hq (mul_inQ hq _ _) ha,kq_mul hq (val_in hq l x) hx]
  have h2:=(Ev.of_C (kq hq x) (kq hq a)).add (((Ev.lin (kq hq x) 0).add (Ev.of_C (kq hq x) 0)).mul h1)
  have e:lin (0:KQ hq)+C 0=xp 1:=by unfold lin;grind
  rw[e]at h2
  have e2:kq hq a+(kq hq x-0+0)*kq hq (Pl.val q l x)=kq hq (Pl.val q l x)*kq hq x+kq hq a:=by grind
  rw[e2]at h2
  exact h2
end
end Fd
end
section
set_option linter.unusedVariables false
set_option linter.unusedSimpArgs false
set_option linter.unusedSectionVars false
namespace Fm
def ch:Nat→Nat→Nat
 |0,0=>1
 |0,_+1=>0
 |_+1,0=>1
 |n+1,i+1=>ch n i+ch n (i+1)
theorem ch_zero (n:Nat):ch n 0=1:=by cases n<;>rfl
theorem ch_lt: ∀(n i:Nat),n<i→ch n i=0
 |0,0,h=>by omega
 |0,i+1,_=>rfl
 |n+1,0,h=>by omega
 |n+1,i+1,h=>by rw[ch,ch_lt n i (by omega),ch_lt n (i+1) (by omega)]
theorem ch_self: ∀n,ch n n=1
 |0=>rfl
 |n+1=>by rw[ch,ch_self n,ch_lt n (n+1) (by omega)]
theorem ch_mul: ∀(n i:Nat),(i+1)*ch (n+1) (i+1)=(n+1)*ch n i
 |0,0=>rfl
 |0,i+1=>by rw[ch_lt 1 (i+1+1) (by omega),ch_lt 0 (i+1) (by omega)];simp
 |n+1,0=>by
  have h:=ch_mul n 0
  have e:ch (n+1+1) (0+1)=ch (n+1) 0+ch (n+1) (0+1):=rfl
  rw[e,ch_zero]
  rw[ch_zero]at h
  omega
 |n+1,i+1=>by
  have h1:=ch_mul n i
  have h2:=ch_mul n (i+1)
  rw[ch]
  have e:ch (n+1) (i+1)=ch n i+ch n (i+1):=rfl
  generalize ch (n+1) (i+1+1)=A at*
  generalize ch (n+1) (i+1)=B at*
  generalize ch n i=C at*
  generalize ch n (i+1)=E at*
  subst e
  have e1:(i+1+1)*(C+E+A)=(i+1)*(C+E)+(C+E)+(i+1+1)*A:=by grind
  rw[e1,h1,h2]
  grind
theorem ch_dvd {p:Nat} (hp:IsP p) {i:Nat} (h0:0<i) (h1:i<p):p∣ch p i:=by
 obtain⟨j,rfl⟩: ∃j,i=j+1:=⟨i-1,by omega⟩
 obtain⟨n,rfl⟩: ∃n,p=n+1:=⟨p-1,by omega⟩
 have h:=ch_mul n j
 have hd:(n+1)∣(j+1)*ch (n+1) (j+1):=⟨ch n j,h⟩
 rcases hp.dvd_mul hd with h2|h2
 ·have:=Nat.le_of_dvd (by omega) h2
  omega
 ·exact h2
namespace Fld
variable (F : Fld)
def nsm:Nat→Int→Int
 |0,_=>0
 |n+1,a=>F.add (nsm n a) a
def sh (c:Nat→Nat):Nat→Nat
 |0=>0
 |i+1=>c i
variable {F} (ok : F.Ok)
include ok
theorem nsm_in (n:Nat) (a:Int):F.In (F.nsm n a):=by
 cases n with
 |zero=>exact in0 ok
 |succ n=>exact add_in ok _ _
theorem nsm_eqv (a:Int): ∀n:Nat,Eqv F.p F.d (dg F.p (F.nsm n a)) (smul n (dg F.p a))
 |0=>by rw[nsm,dg0 ok,show((0:Nat):Int)=0 from rfl,zero_smul];exact Eqv.refl _
 |n+1=>by
  refine(add_eqv ok _ _).trans (((nsm_eqv a n).add (Eqv.refl _)).trans ?_)
  rw[show((n+1:Nat):Int)=(n:Int)+1 from rfl,smul_add',one_smul]
  exact Eqv.refl _
theorem nsm_dvd (a:Int) {n:Nat} (h:F.p∣(n:Int)):F.nsm n a=0:=by
 rw[←num_dg' ok (nsm_in ok n a), ←num_zero ok F.d]
 refine num_congr ((nsm_eqv ok a n).trans fun i hi=> ?_)
 show F.p∣(n:Int)*dg F.p a i-0
 rw[Int.sub_zero]
 exact Int.dvd_mul_of_dvd_left h
end Fld
end Fm
end
section
set_option linter.unusedVariables false
set_option linter.unusedSectionVars false
namespace La
open Lean.Grind
section
variable {R : Type} [CommRing R]
def nc:Nat→R
 |0=>0
 |n+1=>nc n+1
theorem nc_add (m:Nat): ∀n,(nc (m+n):R)=nc m+nc n
 |0=>by rw[nc,Nat.add_zero];grind
 |n+1=>by rw[←Nat.add_assoc,nc,nc,nc_add m n];grind
theorem nc_mul (m:Nat): ∀n,(nc (m*n):R)=nc m*nc n
 |0=>by rw[nc,Nat.mul_zero,nc];grind
 |n+1=>by rw[Nat.mul_succ,nc_add,nc,nc_mul m n];grind
def bz (a b:R):(Nat→Nat)→Nat→R
 |c,0=>nc (c 0)
 |c,n+1=>nc (c 0)*b^(n+1)+a*bz a b (fun i=>c (i+1)) n
theorem bz_add (a b:R): ∀(n:Nat) (c e:Nat→Nat),bz a b (fun i=>c i+e i) n=bz a b c n+bz a b e n
 |0,c,e=>nc_add _ _
 |n+1,c,e=>by rw[bz,bz,bz,bz_add a b n (fun i=>c (i+1)) (fun i=>e (i+1)),nc_add];grind
theorem natCast0:(nc 0:R)=0:=rfl
theorem natCast1:(nc 1:R)=1:=by rw[nc,nc];grind
theorem bz_sh (a b:R) (n:Nat) (c:Nat→Nat):bz a b (Fm.Fld.sh c) (n+1)=a*bz a b c n:=by
 rw[bz]
 show nc 0*_+a*bz a b c n=_
 rw[natCast0];grind
theorem bz_b (a b:R): ∀(n:Nat) (c:Nat→Nat),c (n+1)=0→bz a b c (n+1)=b*bz a b c n
 |0,c,h=>by rw[bz,bz,bz,h,natCast0];grind
 |n+1,c,h=>by
  rw[bz,bz_b a b n (fun i=>c (i+1)) h,show bz a b c (n+1)=nc (c 0)*b^(n+1)+a*bz a b (fun i=>c (i+1)) n from rfl]
  grind
theorem pow_bz (a b:R): ∀n,(a+b)^n=bz a b (Fm.ch n) n
 |0=>by
  show _=(nc 1:R)
  rw[natCast1];grind
 |n+1=>by
  have e:Fm.ch (n+1)=fun i=>Fm.Fld.sh (Fm.ch n) i+Fm.ch n i:=by
   funext i
   cases i with
   |zero=>show 1=0+Fm.ch n 0;rw[Fm.ch_zero]
   |succ i=>rfl
  rw[e,bz_add,bz_sh,bz_b a b n _ (Fm.ch_lt n (n+1) (by omega)),Semiring.pow_succ,pow_bz a b n]
  grind
theorem bz_top (a b:R) {p:Nat} (h0:(nc p:R)=0): ∀(n:Nat) (c:Nat→Nat),(∀i,i<n→p∣c i)→c n=1→bz a b c n=a^n
 |0,c,_,h=>by rw[bz,h,natCast1];grind
 |n+1,c,hc,h=>by
  obtain⟨m,hm⟩:=hc 0 (by omega)
  rw[bz,hm,nc_mul,h0,bz_top a b h0 n _ (fun i hi=>hc (i+1) (by omega)) h]
  grind
theorem dream {p:Nat} (hp:Fm.IsP p) (h0:(nc p:R)=0) (a b:R):(a+b)^p=a^p+b^p:=by
 rw[pow_bz]
 obtain⟨n,rfl⟩: ∃n,p=n+1:=⟨p-1,by have:=hp.1;omega⟩
 rw[bz,Fm.ch_zero,natCast1,bz_top a b h0 n (fun i=>Fm.ch (n+1) (i+1)) (fun i hi=>Fm.ch_dvd hp (by omega) (by omega)) (Fm.ch_self (n+1))]
 grind
theorem pow_mul (a:R) (m:Nat): ∀n:Nat,a^(m*n)=(a^m)^n
 |0=>by rw[Nat.mul_zero];grind
 |n+1=>by rw[Nat.mul_succ,Semiring.pow_add,pow_mul a m n,Semiring.pow_succ]
theorem dream_k {p:Nat} (hp:Fm.IsP p) (h0:(nc p:R)=0) (a b:R): ∀k:Nat,(a+b)^(p^k)=a^(p^k)+b^(p^k)
 |0=>by rw[Nat.pow_zero];grind
 |k+1=>by rw[Nat.pow_succ,pow_mul,pow_mul,pow_mul,dream_k hp h0 a b k,dream hp h0]
theorem one_pow': ∀n:Nat,(1:R)^n=1
 |0=>by grind
 |n+1=>by rw[Semiring.pow_succ,one_pow' n];grind
end
section
variable {K : Type} [Field K] [DecidableEq K]
def Dv (g a:Ps K):Prop:= ∃u,Pol u∧a=g*u
theorem Dv.add {g a b:Ps K}:Dv g a→Dv g b→Dv g (a+b):=fun⟨u,h,e⟩ ⟨v,k,f⟩=>⟨u+v,h.add k,by grind⟩
theorem Dv.sub {g a b:Ps K}:Dv g a→Dv g b→Dv g (a-b):=fun⟨u,h,e⟩ ⟨v,k,f⟩=>⟨u-v,h.sub k,by grind⟩
theorem Dv.mul {g a b:Ps K}:Dv g a→Pol b→Dv g (a*b):=fun⟨u,h,e⟩ hb=>⟨u*b,h.mul hb,by grind⟩
theorem Dv.trans {g a b:Ps K}:Dv g a→Dv a b→Dv g b:=fun⟨u,h,e⟩ ⟨v,k,f⟩=>⟨u*v,h.mul k,by grind⟩
theorem Dv.refl (g:Ps K):Dv g g:=⟨1,Pol.one,by grind⟩
theorem Dv.zero (g:Ps K):Dv g 0:=⟨0,Pol.zero,by grind⟩
theorem Pol.pow {a:Ps K} (h:Pol a): ∀n:Nat,Pol (a^n)
 |0=>by rw[Semiring.pow_zero];exact Pol.one
 |n+1=>by rw[Semiring.pow_succ];exact(Pol.pow h n).mul h
theorem Dv.pow {g a b:Ps K} (ha:Pol a) (hb:Pol b) (h:Dv g (a-b)): ∀n:Nat,Dv g (a^n-b^n)
 |0=>by rw[Semiring.pow_zero,Semiring.pow_zero,show(1:Ps K)-1=0 by grind];exact Dv.zero g
 |n+1=>by
  have e:a^(n+1)-b^(n+1)=(a^n-b^n)*a+(a-b)*b^n:=by grind
  rw[e]
  exact((Dv.pow ha hb h n).mul ha).add (h.mul (hb.pow n))
theorem Mon.pol {e:Nat} {g:Ps K} (h:Mon e g):Pol g:=⟨_,h.dg⟩
theorem Mon.ne0 {e:Nat} {g:Ps K} (h:Mon e g):g≠0:=fun e'=>by
 have:=h.top
 rw[e']at this
 have h2:(0:K)=1:=this
 grind
theorem Mon.one:Mon 0 (1:Ps K):=⟨Dg.one,rfl⟩
theorem dg_lt {e:Nat} {g r:Ps K} (hg:Mon e g) (h:Dv g r) (hr:Dg e r):r=0:=by
 obtain⟨u,⟨n,hu⟩,e1⟩:=h
 have:u=0:=mon_small hg n u hu (by rw[show u*g=g*u by grind, ←e1];exact hr)
 rw[e1,this];grind
theorem monic: ∀(n:Nat) (b:Ps K),Dg n b→b=0∨ ∃m c g,m<n∧c≠0∧Mon m g∧b=C c*g
 |0,b,h=> .inl h.eq0
 |n+1,b,h=>by
  by_cases h0:b.c n=0
  ·have hd:Dg n b:=fun i hi=>by
    rcases Nat.eq_or_lt_of_le hi with h1|h1
    ·rw[←h1];exact h0
    ·exact h i (by omega)
   rcases monic n b hd with h1|⟨m,c,g,h1,h2⟩
   ·exact .inl h1
   ·exact .inr ⟨m,c,g,by omega,h2⟩
  ·refine .inr ⟨n,b.c n,C (b.c n)⁻¹*b,by omega,h0,⟨fun i hi=> ?_, ?_⟩, ?_⟩
   ·rw[C_mul,h i hi];grind
   ·rw[C_mul];grind
   ·have:C (b.c n)*(C (b.c n)⁻¹*b)=C (b.c n*(b.c n)⁻¹)*b:=by rw[C_mulC];grind
    rw[this,show b.c n*(b.c n)⁻¹=1 by grind,C_one];grind
theorem bez: ∀(n:Nat) (a b:Ps K),Pol a→Dg n b→ ∃G s t,Pol G∧Pol s∧Pol t∧G=s*a+t*b∧Dv G a∧Dv G b:=by
 intro n
 induction n using Nat.strongRecOn with
 |ind n ih=>
  intro a b ha hb
  rcases monic n b hb with h|⟨m,c,g,hm,hc,hg,e⟩
  ·exact⟨a,1,0,ha,Pol.one,Pol.zero,by grind,Dv.refl a,by rw[h];exact Dv.zero a⟩
  ·obtain⟨k,hk⟩:=ha
   obtain⟨w,r,e1,hr,hw⟩:=div_mon hg k a hk
   obtain⟨G,s,t,h1,h2,h3,h4,h5,h6⟩:=ih m hm g r hg.pol hr
   have hcc:(1:Ps K)=C c⁻¹*C c:=by rw[←C_mulC,show c⁻¹*c=1 by grind,C_one]
   refine⟨G,t,(s-t*w)*C c⁻¹,h1,h3,(h2.sub (h3.mul ⟨_,hw⟩)).mul (Pol.C _), ?_, ?_, ?_⟩
   ·have:(s-t*w)*C c⁻¹*b=(s-t*w)*g*(C c⁻¹*C c):=by rw[e];grind
    rw[this, ←hcc,h4,e1];grind
   ·rw[e1];exact Dv.add (by rw[show w*g=g*w by grind];exact h5.mul ⟨_,hw⟩) h6
   ·rw[e,show C c*g=g*C c by grind];exact h5.mul (Pol.C _)
structure Irr (d : Nat) (g : Ps K) : Prop where
 mon:Mon d g
 pos:1≤d
 no: ∀e h,Mon e h→Dv h g→e=0∨e=d
theorem Mon.zero_eq {g:Ps K} (h:Mon 0 g):g=1:=Ps.ext fun i=>by
 show _=if i=0 then 1 else 0
 by_cases h0:i=0
 ·rw[if_pos h0,h0];exact h.top
 ·rw[if_neg h0];exact h.dg i (by omega)
theorem Mon.cof {n e:Nat} {a h u:Ps K} (ha:Mon n a) (hh:Mon e h) (hu:Pol u) (e1:a=h*u):e≤n∧Mon (n-e) u:=by
 have hen:e≤n:=by
  rcases Nat.lt_or_ge n e with h1|h1
  ·exact absurd (dg_lt hh ⟨u,hu,e1⟩ (ha.dg.mono (by omega))) ha.ne0
  ·exact h1
 obtain⟨m,hm⟩:=hu
 have hd:Dg (n-e+1) u:=mon_quot hh (n-e+1) m u (hm.mono (by omega)) (by rw[←e1];exact ha.dg.mono (by omega))
 refine⟨hen,hd, ?_⟩
 have:=mul_top hh.dg hd
 rw[←e1,show e+(n-e)=n by omega,ha.top,hh.top]at this
 grind
theorem Irr.prime {d:Nat} {g a b:Ps K} (h:Irr d g) (ha:Pol a) (hb:Pol b) (hab:Dv g (a*b)) (hn: ¬Dv g a):Dv g b:=by
 obtain⟨k,hk⟩:=ha
 obtain⟨G,s,t,h1,h2,h3,h4,h5,h6⟩:=bez k g a h.mon.pol hk
 obtain⟨kG,hG⟩:=h1
 rcases monic kG G hG with h0|⟨m,c,G',hm,hc,hG',e⟩
 ·obtain⟨u,_,hu⟩:=h5
  exact absurd (by rw[hu,h0];grind) h.mon.ne0
 ·have hcc:C c⁻¹*C c=(1:Ps K):=by rw[←C_mulC,show c⁻¹*c=1 by grind,C_one]
  have hGg:Dv G' g:=by
   obtain⟨u,hu,e'⟩:=h5
   exact⟨C c*u,(Pol.C c).mul hu,by rw[e',e];grind⟩
  rcases h.no m G' hG' hGg with h0|h0
  ·subst h0
   rw[hG'.zero_eq]at e
   obtain⟨w,hw,e2⟩:=hab
   have e1:b=g*(C c⁻¹*(s*b+t*w)):=by
    have e3:C c⁻¹*G*b=b:=by rw[e,show C c⁻¹*(C c*1)*b=C c⁻¹*C c*b by grind,hcc];grind
    rw[←e3,h4]
    grind
   exact⟨_,(Pol.C _).mul ((h2.mul hb).add (h3.mul hw)),e1⟩
  ·subst h0
   obtain⟨u,hu,e'⟩:=hGg
   have:=(h.mon.cof hG' hu e').2
   rw[Nat.sub_self]at this
   rw[this.zero_eq]at e'
   obtain⟨v,hv,e2⟩:=h6
   exact absurd ⟨C c*v,(Pol.C c).mul hv,by rw[e2,e,e'];grind⟩ hn
theorem Irr.ex: ∀(n:Nat) (a:Ps K),Mon n a→1≤n→ ∃d g,d≤n∧Irr d g∧Dv g a:=by
 intro n
 induction n using Nat.strongRecOn with
 |ind n ih=>
  intro a ha hn
  by_cases h: ∃e h,Mon e h∧Dv h a∧e≠0∧e≠n
  ·obtain⟨e,h,h1,⟨u,h2,h3⟩,h4,h5⟩:=h
   have:=(ha.cof h1 h2 h3).1
   obtain⟨d,g,h6,h7,h8⟩:=ih e (by omega) h h1 (by omega)
   exact⟨d,g,by omega,h7,h8.trans ⟨u,h2,h3⟩⟩
  ·refine⟨n,a,Nat.le_refl _,⟨ha,hn,fun e h' h1 h2=> ?_⟩,Dv.refl a⟩
   by_cases h3:e=0
   ·exact .inl h3
   by_cases h4:e=n
   ·exact .inr h4
   ·exact absurd ⟨e,h',h1,h2,h3,h4⟩ h
theorem Irr.small {n:Nat} {a:Ps K} (ha:Mon n a) (hn:1≤n) (h: ¬Irr n a): ∃d g,2*d≤n∧Irr d g∧Dv g a:=by
 have: ∃e h,Mon e h∧Dv h a∧e≠0∧e≠n:=by
  refine Classical.byContradiction fun hx=>h ⟨ha,hn,fun e h' h1 h2=> ?_⟩
  by_cases h3:e=0
  ·exact .inl h3
  by_cases h4:e=n
  ·exact .inr h4
  ·exact absurd ⟨e,h',h1,h2,h3,h4⟩ hx
 obtain⟨e,h',h1,⟨u,h2,h3⟩,h4,h5⟩:=this
 obtain⟨h6,h7⟩:=ha.cof h1 h2 h3
 by_cases h8:2*e≤n
 ·obtain⟨d,g,k1,k2,k3⟩:=Irr.ex e h' h1 (by omega)
  exact⟨d,g,by omega,k2,k3.trans ⟨u,h2,h3⟩⟩
 ·obtain⟨d,g,k1,k2,k3⟩:=Irr.ex (n-e) u h7 (by omega)
  exact⟨d,g,by omega,k2,k3.trans ⟨h',h1.pol,by rw[h3];grind⟩⟩
structure Fin (K : Type) [Field K] [DecidableEq K] where
 p:Nat
 k:Nat
 prime:Fm.IsP p
 char:(nc p:Ps K)=0
 fq: ∀a:K,a^(p^k)=a
 ks:List K
 nodup:ks.Nodup
 all: ∀a,a∈ks
 len:ks.length=p^k
def allP (ks:List K):Nat→List (Ps K)
 |0=>[0]
 |d+1=>(allP ks d).flatMap fun a=>ks.map fun c=>C c+xp 1*a
theorem cx_0 (c:K) (a:Ps K):(C c+xp 1*a).c 0=c:=by
 rw[Ps.add_c,xp_mul]
 show(if 0=0 then c else 0)+_=c
 rw[if_pos rfl,if_neg (by omega)];grind
theorem cx_s (c:K) (a:Ps K) (n:Nat):(C c+xp 1*a).c (n+1)=a.c n:=by
 rw[Ps.add_c,xp_mul]
 show(if n+1=0 then c else 0)+_=_
 rw[if_neg (by omega),if_pos (by omega),Nat.add_sub_cancel];grind
theorem cx_inj {c e:K} {a b:Ps K} (h:C c+xp 1*a=C e+xp 1*b):c=e∧a=b:=
 ⟨by rw[←cx_0 c a,h,cx_0],Ps.ext fun n=>by rw[←cx_s c a,h,cx_s]⟩
theorem cx_of (a:Ps K):a=C (a.c 0)+xp 1*⟨fun n=>a.c (n+1)⟩:=Ps.ext fun n=>by
 cases n with
 |zero=>rw[cx_0]
 |succ n=>rw[cx_s]
theorem allP_mem {ks:List K} (h: ∀a,a∈ks): ∀(d:Nat) (a:Ps K),Dg d a→a∈allP ks d
 |0,a,ha=>by rw[ha.eq0];exact List.mem_singleton.2 rfl
 |d+1,a,ha=>by
  rw[cx_of a]
  exact List.mem_flatMap.2 ⟨_,allP_mem h d ⟨fun n=>a.c (n+1)⟩ (fun i hi=>ha (i+1) (by omega)),List.mem_map.2 ⟨_,h _,rfl⟩⟩
theorem allP_dg {ks:List K}: ∀(d:Nat) (a:Ps K),a∈allP ks d→Dg d a
 |0,a,h=>by rw[List.mem_singleton.1 h];exact Dg.zero
 |d+1,a,h=>by
  obtain⟨b,hb,h⟩:=List.mem_flatMap.1 h
  obtain⟨c,_,rfl⟩:=List.mem_map.1 h
  intro i hi
  obtain⟨j,rfl⟩: ∃j,i=j+1:=⟨i-1,by omega⟩
  rw[cx_s]
  exact allP_dg d b hb j (by omega)
theorem allP_nodup {ks:List K} (h:ks.Nodup): ∀d,(allP ks d).Nodup
 |0=>List.pairwise_singleton _ _
 |d+1=>by
  refine List.pairwise_flatMap.2 ⟨fun a _=>List.pairwise_map.2 (h.imp fun hne e=>hne (cx_inj e).1),(allP_nodup h d).imp fun hne x hx y hy e=> ?_⟩
  obtain⟨c,_,rfl⟩:=List.mem_map.1 hx
  obtain⟨c',_,rfl⟩:=List.mem_map.1 hy
  exact hne (cx_inj e).2
theorem allP_len {ks:List K}: ∀d,(allP ks d).length=ks.length^d
 |0=>rfl
 |d+1=>by
  rw[allP,List.length_flatMap]
  have: ∀l:List (Ps K),(l.map fun a=>(ks.map fun c=>C c+xp 1*a).length).sum=l.length*ks.length:=by
   intro l
   induction l with
   |nil=>simp
   |cons a l ih=>rw[List.map_cons,List.sum_cons,ih,List.length_cons,List.length_map,Nat.succ_mul,Nat.add_comm]
  rw[this,allP_len d,Nat.pow_succ]
theorem nodup_perm {α:Type} [DecidableEq α]: ∀(l m:List α),l.Nodup→(∀x∈l,x∈m)→m.length≤l.length→l.Perm m
 |[],m,_,_,h=>by rw[List.length_eq_zero_iff.1 (Nat.le_zero.1 h)]
 |a::l,m,hn,hs,h=>by
  have ha:=hs a List.mem_cons_self
  have hn:=List.nodup_cons.1 hn
  refine(List.Perm.cons a (nodup_perm l (m.erase a) hn.2 (fun x hx=> ?_) ?_)).trans (List.perm_cons_erase ha).symm
  ·exact(List.mem_erase_of_ne (fun e=>hn.1 (by rw[←e];exact hx))).2 (hs x (List.mem_cons_of_mem _ hx))
  ·rw[List.length_erase_of_mem ha];simp only[List.length_cons]at h;omega
def prd (l:List (Ps K)):Ps K:=l.foldr (· * ·) 1
theorem prd_perm {l m:List (Ps K)} (h:l.Perm m):prd l=prd m:=h.foldr_eq' (fun x _ y _ z=>by grind) 1
theorem prd_pol: ∀ {l:List (Ps K)},(∀x∈l,Pol x)→Pol (prd l)
 |[],_=>Pol.one
 |a::l,h=>(h a List.mem_cons_self).mul (prd_pol fun x hx=>h x (List.mem_cons_of_mem _ hx))
variable (F : Fin K)
theorem fermat {d:Nat} {g a:Ps K} (h:Irr d g) (ha:Pol a):Dv g (a^((F.p^F.k)^d)-a):=by
 by_cases h0:Dv g a
 ·have hN:1≤(F.p^F.k)^d:=Nat.pos_of_ne_zero fun e=>by
   have h1:=Nat.pow_eq_zero.1 e
   have h2:=Nat.pow_eq_zero.1 h1.1
   have:=F.prime.1
   omega
  obtain⟨n,hn⟩: ∃n,(F.p^F.k)^d=n+1:=⟨(F.p^F.k)^d-1,by omega⟩
  rw[hn,Semiring.pow_succ,show a^n*a-a=a*(a^n-1)by grind]
  exact h0.mul ((ha.pow n).sub Pol.one)
 ·let inst:DecidableEq (Ps K):=fun _ _=>Classical.propDecidable _
  have hg:=h.mon
  have rem: ∀s:Ps K, ∃r,Pol s→Dg d r∧Dv g (a*s-r):=fun s=>by
   by_cases hs:Pol s
   ·obtain⟨n,hn⟩:=ha.mul hs
    obtain⟨u,r,e,h1,h2⟩:=div_mon hg n _ hn
    exact⟨r,fun _=>⟨h1,u,⟨_,h2⟩,by rw[e];grind⟩⟩
   ·exact⟨0,fun h=>absurd h hs⟩
  let f:Ps K→Ps K:=fun s=>Classical.choose (rem s)
  have hf: ∀s,Pol s→Dg d (f s)∧Dv g (a*s-f s):=fun s=>Classical.choose_spec (rem s)
  let S:=(allP F.ks d).erase 0
  have hnd:S.Nodup:=(allP_nodup F.nodup d).erase 0
  have hmem: ∀x,x∈S↔x≠0∧Dg d x:=fun x=>by
   rw[List.Nodup.mem_erase_iff (allP_nodup F.nodup d)]
   exact⟨fun⟨a,b⟩=>⟨a,allP_dg d x b⟩,fun⟨a,b⟩=>⟨a,allP_mem F.all d x b⟩⟩
  have hnot: ∀ {x},x∈S→ ¬Dv g x:=fun {x} hx hd=>((hmem x).1 hx).1 (dg_lt hg hd ((hmem x).1 hx).2)
  have hpol: ∀ {x},x∈S→Pol x:=fun {x} hx=>⟨d,((hmem x).1 hx).2⟩
  have hperm:(S.map f).Perm S:=by
   refine nodup_perm _ _ ?_ ?_ (by rw[List.length_map];exact Nat.le_refl _)
   ·refine List.pairwise_map.2 (hnd.imp_of_mem fun {x y} hx hy hne e=>hne ?_)
    obtain⟨x1,x2⟩:=hf x (hpol hx)
    obtain⟨y1,y2⟩:=hf y (hpol hy)
    have h1:Dv g (a*(x-y)):=by
     have:=x2.sub y2
     rw[show f x=f y from e]at this
     rw[show a*(x-y)=a*x-f y-(a*y-f y)by grind];exact this
    have h2:=h.prime ha ((hpol hx).sub (hpol hy)) h1 h0
    have h3:=dg_lt hg h2 (((hmem x).1 hx).2.sub ((hmem y).1 hy).2)
    have:x=x-y+y:=by grind
    rw[this,h3];grind
   ·intro y hy
    obtain⟨x,hx,rfl⟩:=List.mem_map.1 hy
    obtain⟨x1,x2⟩:=hf x (hpol hx)
    refine(hmem _).2 ⟨fun e=>hnot hx (h.prime ha (hpol hx) ?_ h0),x1⟩
    rw[e]at x2
    rw[show a*x=a*x-0 by grind];exact x2
  have hprod: ∀l:List (Ps K),(∀x∈l,x∈S)→Dv g (a^l.length*prd l-prd (l.map f)):=by
   intro l
   induction l with
   |nil=>intro _;show Dv g (a^0*1-1);rw[Semiring.pow_zero,show(1:Ps K)*1-1=0 by grind];exact Dv.zero g
   |cons x l ih=>
    intro hl
    have hx:=hl x List.mem_cons_self
    obtain⟨x1,x2⟩:=hf x (hpol hx)
    have h1:=ih fun y hy=>hl y (List.mem_cons_of_mem _ hy)
    have hP:Pol (prd (l.map f)):=prd_pol fun y hy=>by
     obtain⟨z,hz,rfl⟩:=List.mem_map.1 hy
     exact⟨d,(hf z (hpol (hl z (List.mem_cons_of_mem _ hz)))).1⟩
    show Dv g (a^(l.length+1)*(x*prd l)-f x*prd (l.map f))
    rw[Semiring.pow_succ,show a^l.length*a*(x*prd l)-f x*prd (l.map f)=(a^l.length*prd l-prd (l.map f))*(a*x)+(a*x-f x)*prd (l.map f)by grind]
    exact(h1.mul (ha.mul (hpol hx))).add (x2.mul hP)
  have h1:=hprod S fun x hx=>hx
  rw[prd_perm hperm]at h1
  have hSn: ¬Dv g (prd S):=by
   have: ∀l:List (Ps K),(∀x∈l,x∈S)→ ¬Dv g (prd l):=by
    intro l
    induction l with
    |nil=>
     intro _ hd
     have:=dg_lt hg hd (Dg.one.mono h.pos)
     exact Mon.one.ne0 this
    |cons x l ih=>
     intro hl hd
     have hx:=hl x List.mem_cons_self
     exact ih (fun y hy=>hl y (List.mem_cons_of_mem _ hy)) (h.prime (hpol hx) (prd_pol fun y hy=>hpol (hl y (List.mem_cons_of_mem _ hy))) hd (hnot hx))
   exact this S fun x hx=>hx
  have h2:Dv g (a^S.length-1):=by
   refine h.prime (prd_pol fun y hy=>hpol hy) ((ha.pow _).sub Pol.one) ?_ hSn
   rw[show prd S*(a^S.length-1)=a^S.length*prd S-prd S by grind];exact h1
  have hz:(0:Ps K)∈allP F.ks d:=allP_mem F.all d 0 Dg.zero
  have hlen:S.length=(F.p^F.k)^d-1:=by
   show((allP F.ks d).erase 0).length=_
   rw[List.length_erase_of_mem hz,allP_len,F.len]
  have hpos:0<(allP F.ks d).length:=List.length_pos_of_mem hz
  rw[allP_len,F.len]at hpos
  obtain⟨n,hn⟩: ∃n,(F.p^F.k)^d=n+1:=⟨(F.p^F.k)^d-1,by omega⟩
  rw[hlen,hn,Nat.add_sub_cancel]at h2
  rw[hn,Semiring.pow_succ,show a^n*a-a=(a^n-1)*a by grind]
  exact h2.mul ha
end
end La
end
section
set_option linter.unusedVariables false
set_option linter.unusedSectionVars false
namespace La
open Lean.Grind
section
variable {K : Type} [Field K] [DecidableEq K] (F : Fin K)
def hq (F:Fin K) (e:Nat):Ps K:=(xp 1:Ps K)^((F.p^F.k)^e)-xp 1
theorem Pol.xp (k:Nat):Pol (La.xp k:Ps K):=⟨k+1,Dg.xp k⟩
theorem C_pow (c:K): ∀n:Nat,C (c^n)=C c^n
 |0=>by rw[Semiring.pow_zero,Semiring.pow_zero,C_one]
 |n+1=>by rw[Semiring.pow_succ,Semiring.pow_succ,C_mulC,C_pow c n]
theorem fq_pow (c:K): ∀e:Nat,c^((F.p^F.k)^e)=c
 |0=>by rw[Nat.pow_zero];grind
 |e+1=>by rw[Nat.pow_succ,pow_mul,fq_pow c e,F.fq]
theorem frob_all {g:Ps K} {e:Nat} (h:Dv g (hq F e)): ∀(n:Nat) (a:Ps K),Dg n a→Dv g (a^((F.p^F.k)^e)-a)
 |0,a,ha=>by
  rw[ha.eq0]
  obtain⟨m,hm⟩: ∃m,(F.p^F.k)^e=m+1:=⟨(F.p^F.k)^e-1,by
   have:0<(F.p^F.k)^e:=Nat.pow_pos (Nat.pow_pos (by have:=F.prime.1;omega))
   omega⟩
  rw[hm,Semiring.pow_succ,show(0:Ps K)^m*0-0=0 by grind]
  exact Dv.zero g
 |n+1,a,ha=>by
  have hd:Dg n (⟨fun i=>a.c (i+1)⟩:Ps K):=fun i hi=>ha (i+1) (by omega)
  have ih:=frob_all h n _ hd
  rw[cx_of a]
  generalize (⟨fun i=>a.c (i+1)⟩:Ps K)=b at*
  have e1:=dream_k F.prime F.char (C (a.c 0)) (xp 1*b) (F.k*e)
  rw[Nat.pow_mul,CommSemiring.mul_pow, ←C_pow,fq_pow]at e1
  rw[e1]
  have e2:C (a.c 0)+(xp 1:Ps K)^((F.p^F.k)^e)*b^((F.p^F.k)^e)-(C (a.c 0)+xp 1*b)=hq F e*b^((F.p^F.k)^e)+(b^((F.p^F.k)^e)-b)*xp 1:=by
   unfold hq;grind
  rw[e2]
  exact(h.mul (Pol.pow ⟨n,hd⟩ _)).add (ih.mul (Pol.xp 1))
theorem hq_frob {g:Ps K} {f:Nat} (h:Dv g (hq F f)) (e:Nat):Dv g (hq F (e+f)-hq F e):=by
 obtain⟨n,hn⟩:Pol ((xp 1:Ps K)^((F.p^F.k)^e)):=(Pol.xp 1).pow _
 have h1:=frob_all F h n _ hn
 rw[←pow_mul, ←Nat.pow_add]at h1
 unfold hq
 rw[show∀x y z:Ps K,x-y-(z-y)=x-z from fun x y z=>by grind]
 exact h1
theorem hq_add {g:Ps K} {e f:Nat} (h:Dv g (hq F e)) (h2:Dv g (hq F f)):Dv g (hq F (e+f)):=by
 have:=(hq_frob F h2 e).add h
 rw[show hq F (e+f)-hq F e+hq F e=hq F (e+f)by grind]at this
 exact this
theorem hq_sub {g:Ps K} {e f:Nat} (h:Dv g (hq F (e+f))) (h2:Dv g (hq F f)):Dv g (hq F e):=by
 have:=h.sub (hq_frob F h2 e)
 rw[show hq F (e+f)-(hq F (e+f)-hq F e)=hq F e by grind]at this
 exact this
theorem hq_zero (g:Ps K):Dv g (hq F 0):=by
 unfold hq
 rw[Nat.pow_zero,show(xp 1:Ps K)^1-xp 1=0 by grind];exact Dv.zero g
theorem hq_mul {g:Ps K} {e:Nat} (h:Dv g (hq F e)): ∀m,Dv g (hq F (e*m))
 |0=>hq_zero F g
 |m+1=>hq_add F (hq_mul h m) h
theorem hq_gcd {g:Ps K}: ∀e f:Nat,Dv g (hq F e)→Dv g (hq F f)→Dv g (hq F (Nat.gcd e f)):=by
 intro e f
 induction e,f using Nat.gcd.induction with
 |H0 n=>intro _ h;rw[Nat.gcd_zero_left];exact h
 |H1 m n hm ih=>
  intro h1 h2
  rw[Nat.gcd_rec]
  refine ih (hq_sub F (f:=m*(n/m)) ?_ (hq_mul F h1 _)) h1
  rw[Nat.mod_add_div];exact h2
def Cop (a b:Ps K):Prop:= ∀e g,Mon e g→Dv g a→Dv g b→e=0
def RabA (n:Nat) (a:Ps K):Prop:=Dv a (hq F n)∧ ∀r,Fm.IsP r→r∣n→Cop a (hq F (n/r))
def RabR (n:Nat) (a:Ps K):Prop:= ∀d,1≤d→2*d≤n→Cop a (hq F d)
theorem rab_AR {n:Nat} {a:Ps K} (h:RabA F n a):RabR F n a:=fun d d1 d2 e g hg ha hd=>by
 have h1:=hq_gcd F d n hd (ha.trans h.1)
 obtain⟨x,hx⟩:=Nat.gcd_dvd_right d n
 have hle:Nat.gcd d n≤d:=Nat.le_of_dvd (by omega) (Nat.gcd_dvd_left d n)
 have hpos:0<Nat.gcd d n:=Nat.gcd_pos_of_pos_left _ (by omega)
 have hx2:2≤x:=by
  rcases x with _|_|x
  ·omega
  ·omega
  ·omega
 obtain⟨r,hr,⟨y,hy⟩⟩:=Fm.factor x hx2
 have hn:n=r*(Nat.gcd d n*y):=by rw[Nat.mul_left_comm, ←hy];exact hx
 have h2:=hq_mul F h1 y
 refine h.2 r hr ⟨_,hn⟩ e g hg ha ?_
 have e1:n/r=Nat.gcd d n*y:=by
  conv=>lhs;rw[hn]
  rw[Nat.mul_div_cancel_left _ (by have:=hr.1;omega)]
 rw[e1];exact h2
theorem rab_irr {n:Nat} {a:Ps K} (ha:Mon n a) (hn:1≤n) (h:RabR F n a):Irr n a:=by
 refine Classical.byContradiction fun hi=> ?_
 obtain⟨d,g,h1,h2,h3⟩:=Irr.small ha hn hi
 have:=h d h2.pos h1 d g h2.mon h3 (fermat F h2 (Pol.xp 1))
 have:=h2.pos
 omega
theorem rab_RA {n:Nat} {a:Ps K} (ha:Mon n a) (hn:1≤n) (h:RabR F n a):RabA F n a:=by
 refine⟨fermat F (rab_irr F ha hn h) (Pol.xp 1),fun r hr ⟨m,hm⟩=>h (n/r) ?_ ?_⟩
 ·rw[hm,Nat.mul_div_cancel_left _ (by have:=hr.1;omega)]
  rcases m with _|m
  ·omega
  ·omega
 ·rw[hm,Nat.mul_div_cancel_left _ (by have:=hr.1;omega)]
  exact Nat.mul_le_mul_right m hr.1
end
end La
end
section
set_option linter.unusedVariables false
set_option linter.unusedSimpArgs false
set_option maxRecDepth 100000
namespace Fd
open Go Fw Go.Proofs

def Pl.mulm (q:Int) (p a b:List Int):List Int:=(Pl.ovr q (Pl.prod q a b) p).2
def Pl.pwk (q:Int) (p:List Int):Nat→Int→List Int→List Int→List Int
 |0,_,o,_=>o
 |f+1,k,o,x=>bif decide (k>0)then Pl.pwk q p f (k.tdiv 2) (bif decide (k.tmod 2=1)then Pl.mulm q p o x else o) (Pl.mulm q p x x)else o
def Pl.pwm (q:Int) (p x:List Int):List Int:=Pl.pwk q p 64 q [1] x
def Pl.rsd (q:Int) (p x:List Int):Nat→List Int
 |0=>x
 |n+1=>Pl.pwm q p (Pl.rsd q p x n)
def Pl.len3 (p:List Int):Prop:=2≤p.length∧p.length≤1000
abbrev DLLI:=D×List Int×List Int×Int×Unit
def C119:Con:=⟨[.raw,L,L,I],[L],fun(x:DLLI)=>Pl.okF x.1∧Pl.pol (Pl.qF x.1) x.2.1∧x.2.1.length≤1000∧Pl.pol (Pl.qF x.1) x.2.2.1∧Pl.len3 x.2.2.1∧0≤x.2.2.2.1∧x.2.2.2.1≤1000,fun(x:DLLI)=>(Pl.rsd (Pl.qF x.1) x.2.2.1 x.2.1 x.2.2.2.1.toNat,()),none⟩
def T119:Ctx:=TT [(107,C107),(116,C116)]
def H119:Hints:=lo [(0,⟨[0,2,11],[(1,sl),(12,si)]⟩),(2,⟨[0,2,11,12],[(1,sl),(9,sl),(10,si)]⟩)]
def Pl.hqL (q:Int) (p:List Int) (n:Nat):List Int:=Pl.pls q (Pl.rsd q p [0,1] n) (Pl.sub q 0 1) [0,1]
def Pl.irA (q:Int) (p:List Int):Bool:=bif decide (p.length<3)then decide (p.length=2)else
 (Pl.primes (p.length-1:Nat)).all (fun r=>decide ((Pl.gcd q p (Pl.hqL q p ((p.length-1:Nat)/r:Int).toNat)).length≤1))&&decide ((Pl.hqL q p (p.length-1)).length=0)
def C74v:Con:=⟨[.raw,L],[B,I],fun(x:DL)=>Pl.okF x.1∧Pl.chk (Pl.qF x.1) x.2.1=0,fun(x:DL)=>(Pl.irA (Pl.qF x.1) x.2.1,0,()),none⟩
def T74:Ctx:=TF [(77,C77),(117,C117),(119,C119),(118,C118),(115,C115)]
def H74:Hints:=lo [(0,⟨[0,1,7,8,9,32,33],[(34,si)]⟩)]
def Pl.sml (q:Int) (a b:List Int):List Int:=Pl.trim ((List.range (max a.length b.length)).map fun i=>bif decide (i<b.length)then Pl.add q (a.getD i 0) (b.getD i 0)else a.getD i 0)
def Pl.hqR (q:Int) (p:List Int) (n:Nat):List Int:=Pl.sml q (Pl.rsd q p [0,1] n) [0,Pl.neg q 1]
def Pl.irR (q:Int) (p:List Int):Bool:=decide (2≤p.length)&&(List.range ((p.length-1)/2)).all fun d=>decide ((Pl.gcd q p (Pl.hqR q p (d+1))).length≤1)
end Fd
end
section
set_option linter.unusedVariables false
set_option linter.unusedSimpArgs false
set_option linter.unusedSectionVars false
set_option maxRecDepth 100000
namespace Fd
open Go Fw Go.Proofs

section
variable {q : Int} (hq : isQ q)
include hq
theorem pol_prod {a b:List Int} (ha:Pl.pol q a) (hb:Pl.pol q b) (h:a.length+b.length≤1000000):Pl.pol q (Pl.prod q a b):=by
 rw[←prod_pol hq ha hb]
 exact trim_pol (prod_ok hq).2 (by have:=(prod_ok hq (a:=a) (b:=b)).1;omega)
theorem mulm_ok {p a b:List Int} (hp:Pl.pol q p) (h0:0<p.length) (ha:Pl.pol q a) (hb:Pl.pol q b) (h:a.length+b.length≤1000000):Pl.pol q (Pl.mulm q p a b)∧(Pl.mulm q p a b).length<p.length:=
 ovr_ok hq (pol_prod hq ha hb h) hp h0
theorem pol_one:Pl.pol q [1]:=⟨fun x hx=>by rw[List.mem_singleton.1 hx];exact one_inQ hq,by decide,fun _=>by decide⟩
theorem pol_x:Pl.pol q [0,1]:=⟨fun x hx=>by
 rcases List.mem_cons.1 hx with rfl|hx
 ·exact zero_inQ hq
 ·rw[List.mem_singleton.1 hx];exact one_inQ hq,by decide,fun _=>by decide⟩
theorem pwk_0 {p o x:List Int} {f:Nat} {k:Int} (h: ¬k>0):Pl.pwk q p f k o x=o:=by
 cases f with
 |zero=>rfl
 |succ f=>rw[Pl.pwk,decide_eq_false h];rfl
theorem half_lt {k:Int} {f:Nat} (h:k>0) (hk:k<2^(f+1)):0≤k.tdiv 2∧k.tdiv 2<2^f∧k.tdiv 2<k:=by
 rw[Int.tdiv_eq_ediv_of_nonneg (by omega)]
 rw[Int.pow_succ]at hk
 omega
theorem pwk_ok {p:List Int} (hp:Pl.pol q p) (h0:0<p.length) (hl:p.length≤1000): ∀(f:Nat) (k:Int) (o x:List Int),Pl.pol q o→Pl.pol q x→o.length≤1000→x.length≤1000→Pl.pol q (Pl.pwk q p f k o x)∧(Pl.pwk q p f k o x).length≤1000
 |0,k,o,x,ho,hx,lo,lx=>⟨ho,lo⟩
 |f+1,k,o,x,ho,hx,lo,lx=>by
  rw[Pl.pwk]
  by_cases h:k>0
  ·rw[decide_eq_true h,cond_true]
   obtain⟨a1,a2⟩:=mulm_ok hq hp h0 hx hx (by omega)
   obtain⟨b1,b2⟩:=mulm_ok hq hp h0 ho hx (by omega)
   by_cases h2:k.tmod 2=1
   ·rw[decide_eq_true h2,cond_true];exact pwk_ok hp h0 hl f _ _ _ b1 a1 (by omega) (by omega)
   ·rw[decide_eq_false h2,cond_false];exact pwk_ok hp h0 hl f _ _ _ ho a1 lo (by omega)
  ·rw[decide_eq_false h];exact⟨ho,lo⟩
theorem rsd_ok {p x:List Int} (hp:Pl.pol q p) (h0:0<p.length) (hl:p.length≤1000) (hx:Pl.pol q x) (lx:x.length≤1000): ∀n,Pl.pol q (Pl.rsd q p x n)∧(Pl.rsd q p x n).length≤1000
 |0=>⟨hx,lx⟩
 |n+1=>by
  obtain⟨h1,h2⟩:=rsd_ok hp h0 hl hx lx n
  exact pwk_ok hq hp h0 hl 64 q _ _ (pol_one hq) h1 (by decide) h2
end
theorem vc119: ∀x,C119.pre x→VC T119 H119 Try.f119 C119 x:=by
 rintro⟨v,(x:List Int),(p:List Int),(n:Int),⟨⟩⟩ ⟨⟨q,hq,(rfl:v=_)⟩,hx,lx,hp,hl,n0,n1⟩
 have hx:Pl.pol q x:=hx
 have hp:Pl.pol q p:=hp
 obtain⟨l2,l3⟩:2≤p.length∧p.length≤1000:=hl
 have lx:x.length≤1000:=lx
 have n0:0≤n:=n0
 have n1:n≤1000:=n1
 refine cast (α:= ∃(n_1:Nat),itl (fun(G:List Int×Int×PUnit→Prop) (x_1:List Int×Int×PUnit)=>Br (decide (x_1.2.1<n)) (∃(n:Nat),itl (fun(G_1:List Int×List Int×Int×PUnit→Prop) (x:List Int×List Int×Int×PUnit)=>Br (decide (x.2.2.1>(0:Int))) ((2:Int)≠(0:Int)∧Br (Int.tmod x.2.2.1 (2:Int)==(1:Int)) ((Pl.okF (D.rptr (fieldC q))∧Pl.okPr (Pl.qF (D.rptr (fieldC q))) x.2.1 x.1)∧(Pl.okF (D.rptr (fieldC q))∧Pl.okPr (Pl.qF (D.rptr (fieldC q))) (Pl.trim (Pl.prod (Pl.qF (D.rptr (fieldC q))) x.2.1 x.1)) p∧(0:Nat)<p.length∧Pl.top p≠(0:Int))∧(Pl.okF (D.rptr (fieldC q))∧Pl.okPr (Pl.qF (D.rptr (fieldC q))) x.1 x.1)∧(Pl.okF (D.rptr (fieldC q))∧Pl.okPr (Pl.qF (D.rptr (fieldC q))) (Pl.trim (Pl.prod (Pl.qF (D.rptr (fieldC q))) x.1 x.1)) p∧(0:Nat)<p.length∧Pl.top p≠(0:Int))∧(2:Int)≠(0:Int)∧G_1 ((Pl.ovr (Pl.qF (D.rptr (fieldC q))) (Pl.trim (Pl.prod (Pl.qF (D.rptr (fieldC q))) x.1 x.1)) p).2,(Pl.ovr (Pl.qF (D.rptr (fieldC q))) (Pl.trim (Pl.prod (Pl.qF (D.rptr (fieldC q))) x.2.1 x.1)) p).2,IntKind.i64.wrap (Int.tdiv x.2.2.1 (2:Int)),())) ((Pl.okF (D.rptr (fieldC q))∧Pl.okPr (Pl.qF (D.rptr (fieldC q))) x.1 x.1)∧(Pl.okF (D.rptr (fieldC q))∧Pl.okPr (Pl.qF (D.rptr (fieldC q))) (Pl.trim (Pl.prod (Pl.qF (D.rptr (fieldC q))) x.1 x.1)) p∧(0:Nat)<p.length∧Pl.top p≠(0:Int))∧(2:Int)≠(0:Int)∧G_1 ((Pl.ovr (Pl.qF (D.rptr (fieldC q))) (Pl.trim (Pl.prod (Pl.qF (D.rptr (fieldC q))) x.1 x.1)) p).2,x.2.1,IntKind.i64.wrap (Int.tdiv x.2.2.1 (2:Int)),()))) (G (x.2.1,IntKind.i64.wrap (x_1.2.1+(1:Int)),()))) n (x_1.1,[(1:Int)],q,())) ((x_1.1,())=C119.post (fieldD q,x,p,n,()))) n_1 (x,(0:Int),())) (by kernel_rfl) ?_
 rw[qF_f]
 have hpo:C119.post (fieldD q,x,p,n,())=(Pl.rsd q p x n.toNat,()):=rfl
 rw[hpo]
 have oF:=okF_f hq
 have h0:0<p.length:=by omega
 have hpt:=hp.2.2 h0
 refine itl_rule (fun s=> ∃i:Nat,s=(Pl.rsd q p x i,(i:Int),())∧(i:Int)≤n) (fun s=>(n-s.2.1).toNat) ⟨0,rfl,n0⟩ ?_
 rintro s G ⟨i,rfl,hi⟩ hG
 simp only at hG⊢
 refine Br_of (fun h=> ?_) (fun h=> ?_)
 ·have h:=of_decide_eq_true h
  obtain⟨r1,r2⟩:=rsd_ok hq hp h0 l3 hx lx i
  have q6:=hq.2.1
  have q2:=hq.1
  refine itl_rule (fun s=> ∃f:Nat,Pl.pwk q p f s.2.2.1 s.2.1 s.1=Pl.rsd q p x (i+1)∧0≤s.2.2.1∧s.2.2.1<2^f∧s.2.2.1≤65536∧Pl.pol q s.1∧Pl.pol q s.2.1∧s.1.length≤1000∧s.2.1.length≤1000) (fun s=>s.2.2.1.toNat) ⟨64,rfl,by simp only;omega,by simp only;omega,q6,r1,pol_one hq,r2,by simp⟩ ?_
  rintro⟨y,o,k,⟨⟩⟩ G2 ⟨f,e,k0,kf,k6,hy,ho,ly,lo⟩ hG2
  simp only at e k0 kf k6 hy ho ly lo hG2⊢
  refine Br_of (fun h2=> ?_) (fun h2=> ?_)
  ·have h2:=of_decide_eq_true h2
   cases f with
   |zero=>simp at kf;omega
   |succ f=>
    obtain⟨d1,d2,d3⟩:=half_lt hq h2 kf
    rw[Pl.pwk,decide_eq_true h2,cond_true]at e
    obtain⟨a1,a2⟩:=mulm_ok hq hp h0 hy hy (by omega)
    obtain⟨b1,b2⟩:=mulm_ok hq hp h0 ho hy (by omega)
    rw[prod_pol hq ho hy,prod_pol hq hy hy,wrap_i64 (by omega) (by omega)]
    have P1:Pl.okPr q y y:=⟨hy.1,hy.1,by omega,by omega⟩
    have P2:Pl.okPr q (Pl.prod q y y) p:=by have:=pol_prod hq hy hy (by omega);exact⟨this.1,hp.1,this.2.1,by omega⟩
    have P3:Pl.okPr q o y:=⟨ho.1,hy.1,by omega,by omega⟩
    have P4:Pl.okPr q (Pl.prod q o y) p:=by have:=pol_prod hq ho hy (by omega);exact⟨this.1,hp.1,this.2.1,by omega⟩
    refine⟨by decide,Br_of (fun h3=> ?_) (fun h3=> ?_)⟩
    ·rw[decide_eq_true (eq_of_beq h3),cond_true]at e
     exact⟨⟨oF,P3⟩,⟨oF,P4,h0,hpt⟩,⟨oF,P1⟩,⟨oF,P2,h0,hpt⟩,by decide,hG2 _ ⟨f,e,d1,d2,by simp only;omega,a1,b1,Nat.le_trans (Nat.le_of_lt a2) l3,Nat.le_trans (Nat.le_of_lt b2) l3⟩ (by simp only;omega)⟩
    ·rw[decide_eq_false (fun h4=>by rw[h4]at h3;cases h3),cond_false]at e
     exact⟨⟨oF,P1⟩,⟨oF,P2,h0,hpt⟩,by decide,hG2 _ ⟨f,e,d1,d2,by simp only;omega,a1,ho,Nat.le_trans (Nat.le_of_lt a2) l3,lo⟩ (by simp only;omega)⟩
  ·have h2:=of_decide_eq_false h2
   rw[pwk_0 hq h2]at e
   rw[wrap_i64 (by omega) (by omega)]
   exact hG _ ⟨i+1,by rw[e];rfl,by omega⟩ (by simp only;omega)
 ·have h:=of_decide_eq_false h
  obtain rfl:n=(i:Int):=by omega
  rfl
theorem snd119:Sound Try.prog 119 C119:=fn_sound (T:=T119) (fn:=Try.f119) (tok0 ⟨snd107,snd116,trivial⟩) Try.func119 (by kernel_rfl) H119 vc119 (by kernel_rfl) (hC:=⟨fun x hx=>⟨okF_nr hx.1,rfl,rfl,trivial,trivial⟩,fun x hx=>⟨rfl,trivial⟩⟩)
theorem sml_eq {q:Int} (a b:List Int):Pl.sml q a b=Pl.trim ((List.range (max a.length b.length)).map fun i=>bif decide (i<b.length)then Pl.add q (a.getD i 0) (b.getD i 0)else a.getD i 0):=rfl
theorem pol_pls {q:Int} (hq:isQ q) {p r:List Int} {c:Int} (hp: ∀x∈p,Pl.inQ q x) (h1:p.length≤1000000) (h2:r.length≤1000000):Pl.pol q (Pl.pls q p c r):=by
 unfold Pl.pls
 obtain⟨d1,d2⟩:=plR_ok hq (c:=c) (r:=r) r.length (pad_in hq hp (max p.length r.length-p.length))
 exact trim_pol d2 (by rw[d1,List.length_append,List.length_replicate];omega)
theorem pol_sml {q:Int} (hq:isQ q) {p r:List Int} (hp: ∀x∈p,Pl.inQ q x) (h1:p.length≤1000000) (h2:r.length≤1000000):Pl.pol q (Pl.sml q p r):=by
 rw[sml_eq]
 refine trim_pol (fun x hx=> ?_) (by rw[List.length_map,List.length_range];omega)
 obtain⟨i,_,rfl⟩:=List.mem_map.1 hx
 cases decide (i<r.length)with
 |true=>exact add_inQ hq _ _
 |false=>
  rw[cond_false]
  rcases Nat.lt_or_ge i p.length with h|h
  ·exact getD_inQ hp h
  ·rw[List.getD_eq_getElem?_getD,List.getElem?_eq_none h];exact zero_inQ hq
theorem vc74v: ∀x,C74v.pre x→VC T74 H74 Try.f74 C74v x:=by
 rintro⟨v,(p:List Int),⟨⟩⟩ ⟨⟨q,hq,(rfl:v=_)⟩,hc⟩
 have hc:Pl.chk q p=0:=hc
 refine cast (α:=(Pl.okF (D.rptr (fieldC q))∧Pl.len9 p)∧Br (Pl.chk (Pl.qF (D.rptr (fieldC q))) p !=(0:Int)) ((false,Pl.chk (Pl.qF (D.rptr (fieldC q))) p,())=C74v.post (fieldD q,p,())) (Br (decide (IntKind.i64.wrap ((↑p.length:Int)-(1:Int))<(2:Int))) ((IntKind.i64.wrap ((↑p.length:Int)-(1:Int))==(1:Int),(0:Int),())=C74v.post (fieldD q,p,())) ((Pl.okA (arD q)∧Pl.inQ (Pl.qA (arD q)) (0:Int)∧Pl.inQ (Pl.qA (arD q)) (1:Int))∧((1:Int)≤IntKind.i64.wrap ((↑p.length:Int)-(1:Int))∧IntKind.i64.wrap ((↑p.length:Int)-(1:Int))≤(2147483647:Int))∧ ∃(n:Nat),itl (fun(G:Int×PUnit→Prop) (x:Int×PUnit)=>Br (decide (x.1<(↑(Pl.primes (IntKind.i64.wrap ((↑p.length:Int)-(1:Int)))).length:Int))) ((0:Int)≤x.1∧x.1<(↑(Pl.primes (IntKind.i64.wrap ((↑p.length:Int)-(1:Int)))).length:Int)∧rd i64 (Pl.primes (IntKind.i64.wrap ((↑p.length:Int)-(1:Int)))) x.1≠(0:Int)∧(Pl.okF (D.rptr (fieldC q))∧Pl.pol (Pl.qF (D.rptr (fieldC q))) [(0:Int),(1:Int)]∧[(0:Int),(1:Int)].length≤(1000:Nat)∧Pl.pol (Pl.qF (D.rptr (fieldC q))) p∧Pl.len3 p∧(0:Int)≤IntKind.i64.wrap ((IntKind.i64.wrap ((↑p.length:Int)-(1:Int))).tdiv (rd i64 (Pl.primes (IntKind.i64.wrap ((↑p.length:Int)-(1:Int)))) x.1))∧IntKind.i64.wrap ((IntKind.i64.wrap ((↑p.length:Int)-(1:Int))).tdiv (rd i64 (Pl.primes (IntKind.i64.wrap ((↑p.length:Int)-(1:Int)))) x.1))≤(1000:Int))∧(Pl.okF (D.rptr (fieldC q))∧Pl.okPr (Pl.qF (D.rptr (fieldC q))) (Pl.rsd (Pl.qF (D.rptr (fieldC q))) p [(0:Int),(1:Int)] (IntKind.i64.wrap ((IntKind.i64.wrap ((↑p.length:Int)-(1:Int))).tdiv (rd i64 (Pl.primes (IntKind.i64.wrap ((↑p.length:Int)-(1:Int)))) x.1))).toNat) [(0:Int),(1:Int)]∧Pl.inQ (Pl.qF (D.rptr (fieldC q))) (Pl.sub (Pl.qA (arD q)) (0:Int) (1:Int)))∧(Pl.okF (D.rptr (fieldC q))∧Pl.pol (Pl.qF (D.rptr (fieldC q))) p∧Pl.pol (Pl.qF (D.rptr (fieldC q))) (Pl.pls (Pl.qF (D.rptr (fieldC q))) (Pl.rsd (Pl.qF (D.rptr (fieldC q))) p [(0:Int),(1:Int)] (IntKind.i64.wrap ((IntKind.i64.wrap ((↑p.length:Int)-(1:Int))).tdiv (rd i64 (Pl.primes (IntKind.i64.wrap ((↑p.length:Int)-(1:Int)))) x.1))).toNat) (Pl.sub (Pl.qA (arD q)) (0:Int) (1:Int)) [(0:Int),(1:Int)]))∧Br (decide ((↑(Pl.gcd (Pl.qF (D.rptr (fieldC q))) p (Pl.pls (Pl.qF (D.rptr (fieldC q))) (Pl.rsd (Pl.qF (D.rptr (fieldC q))) p [(0:Int),(1:Int)] (IntKind.i64.wrap ((IntKind.i64.wrap ((↑p.length:Int)-(1:Int))).tdiv (rd i64 (Pl.primes (IntKind.i64.wrap ((↑p.length:Int)-(1:Int)))) x.1))).toNat) (Pl.sub (Pl.qA (arD q)) (0:Int) (1:Int)) [(0:Int),(1:Int)])).length:Int)>(1:Int))) ((false,(0:Int),())=C74v.post (fieldD q,p,())) (G (IntKind.i64.wrap (x.1+(1:Int)),()))) ((Pl.okF (D.rptr (fieldC q))∧Pl.pol (Pl.qF (D.rptr (fieldC q))) [(0:Int),(1:Int)]∧[(0:Int),(1:Int)].length≤(1000:Nat)∧Pl.pol (Pl.qF (D.rptr (fieldC q))) p∧Pl.len3 p∧(0:Int)≤IntKind.i64.wrap ((↑p.length:Int)-(1:Int))∧IntKind.i64.wrap ((↑p.length:Int)-(1:Int))≤(1000:Int))∧(Pl.okF (D.rptr (fieldC q))∧Pl.okPr (Pl.qF (D.rptr (fieldC q))) (Pl.rsd (Pl.qF (D.rptr (fieldC q))) p [(0:Int),(1:Int)] (IntKind.i64.wrap ((↑p.length:Int)-(1:Int))).toNat) [(0:Int),(1:Int)]∧Pl.inQ (Pl.qF (D.rptr (fieldC q))) (Pl.sub (Pl.qA (arD q)) (0:Int) (1:Int)))∧((↑(Pl.pls (Pl.qF (D.rptr (fieldC q))) (Pl.rsd (Pl.qF (D.rptr (fieldC q))) p [(0:Int),(1:Int)] (IntKind.i64.wrap ((↑p.length:Int)-(1:Int))).toNat) (Pl.sub (Pl.qA (arD q)) (0:Int) (1:Int)) [(0:Int),(1:Int)]).length:Int)==(0:Int),(0:Int),())=C74v.post (fieldD q,p,()))) n ((0:Int),())))) (by kernel_rfl) ?_
 rw[qF_f,hc]
 have hpo:C74v.post (fieldD q,p,())=(Pl.irA q p,0,()):=rfl
 rw[hpo]
 have oF:=okF_f hq
 have hp:=chk_pol hc
 have hl:=(chk_in hc).1
 rw[wrap_i64 (by omega) (by omega)]
 refine⟨⟨oF,chk_len hc⟩,Br_of (fun h=>absurd h (by simp)) (fun _=>Br_of (fun h=> ?_) (fun h=> ?_))⟩
 ·have h:p.length<3:=by have:=of_decide_eq_true h;omega
  have e:Pl.irA q p=decide (p.length=2):=by unfold Pl.irA;rw[decide_eq_true h];rfl
  rw[e]
  by_cases h2:p.length=2
  ·rw[decide_eq_true h2,h2];rfl
  ·rw[decide_eq_false h2,show((p.length:Int)-1==1)=false from by rw[beq_eq_false_iff_ne];omega]
 ·have h: ¬p.length<3:=by have:=of_decide_eq_false h;omega
  have e:Pl.irA q p=((Pl.primes (p.length-1:Nat)).all (fun r=>decide ((Pl.gcd q p (Pl.hqL q p ((p.length-1:Nat)/r:Int).toNat)).length≤1))&&decide ((Pl.hqL q p (p.length-1)).length=0)):=by unfold Pl.irA;rw[decide_eq_false h];rfl
  rw[e,show((p.length:Int)-1)=((p.length-1:Nat):Int)by omega,qA_ar hq]
  obtain⟨ps,pr⟩:=primes_spec (n:=((p.length-1:Nat):Int)) (by omega) (by omega)
  have hpl:=primes_len (n:=((p.length-1:Nat):Int)) (by omega) (by omega)
  generalize hL:Pl.primes ((p.length-1:Nat):Int)=R at*
  have oA:=okA_ar hq
  have px:=pol_x hq
  have hs:=sub_inQ hq 0 1
  have hR:=fun n=>rsd_ok hq hp (by omega) (by omega) px (by decide) n
  have hH: ∀n,Pl.pol q (Pl.pls q (Pl.rsd q p [0,1] n) (Pl.sub q 0 1) [0,1]):=fun n=>pol_pls hq (hR n).1.1 (hR n).1.2.1 (by decide)
  refine⟨⟨oA,zero_inQ hq,one_inQ hq⟩,⟨by omega,by omega⟩, ?_⟩
  refine itl_rule (fun s=> ∃i:Nat,s=((i:Int),())∧i≤R.length∧ ∀j,j<i→(Pl.gcd q p (Pl.hqL q p ((p.length-1:Nat)/R.getD j 0:Int).toNat)).length≤1) (fun s=>((R.length:Int)-s.1).toNat) ⟨0,rfl,Nat.zero_le _,fun j hj=>by omega⟩ ?_
  rintro s G ⟨i,rfl,hi,hd⟩ hG
  simp only at hG⊢
  refine Br_of (fun h3=> ?_) (fun h3=> ?_)
  ·have h3:i<R.length:=by have:=of_decide_eq_true h3;omega
   rw[rd_i]
   have hm:R.getD i 0∈R:=by rw[List.getD_eq_getElem?_getD,List.getElem?_eq_getElem h3];exact List.getElem_mem h3
   obtain⟨r1,r2⟩:=(ps _).1 hm
   have r1:=r1.1
   have t0:0≤((p.length-1:Nat):Int).tdiv (R.getD i 0):=Int.tdiv_nonneg (by omega) (by omega)
   have t1:((p.length-1:Nat):Int).tdiv (R.getD i 0)≤1000:=by
    rw[Int.tdiv_eq_ediv_of_nonneg (by omega)]
    have:=Int.ediv_le_self (a:=((p.length-1:Nat):Int)) (R.getD i 0) (by omega)
    omega
   rw[wrap_i64 (by omega) (by omega),wrap_i64 (by omega) (by omega),Int.tdiv_eq_ediv_of_nonneg (by omega)]
   rw[Int.tdiv_eq_ediv_of_nonneg (by omega)]at t0 t1
   refine⟨by omega,by omega,show R.getD i 0≠0 by omega,⟨oF,px,by decide,hp,⟨by omega,by omega⟩,t0,t1⟩,⟨oF,⟨(hR _).1.1,px.1,(hR _).1.2.1,by decide⟩,hs⟩,⟨oF,hp,hH _⟩,Br_of (fun h4=> ?_) (fun h4=> ?_)⟩
   ·have h4:=of_decide_eq_true h4
    have:R.all (fun r=>decide ((Pl.gcd q p (Pl.hqL q p ((p.length-1:Nat)/r:Int).toNat)).length≤1))=false:=by
     rw[List.all_eq_false]
     refine⟨_,hm, ?_⟩
     rw[decide_eq_true_iff]
     intro h5
     have h5:(Pl.gcd q p (Pl.pls q (Pl.rsd q p [0,1] (((p.length-1:Nat):Int)/R.getD i 0).toNat) (Pl.sub q 0 1) [0,1])).length≤1:=h5
     omega
    rw[this];rfl
   ·have h4:=of_decide_eq_false h4
    refine hG _ ⟨i+1,rfl,h3,fun j hj=> ?_⟩ (by simp only;omega)
    by_cases e2:j=i
    ·subst e2
     show(Pl.gcd q p (Pl.pls q (Pl.rsd q p [0,1] (((p.length-1:Nat):Int)/R.getD j 0).toNat) (Pl.sub q 0 1) [0,1])).length≤1
     omega
    ·exact hd j (by omega)
  ·have h3:i=R.length:=by have:=of_decide_eq_false h3;omega
   have:R.all (fun r=>decide ((Pl.gcd q p (Pl.hqL q p ((p.length-1:Nat)/r:Int).toNat)).length≤1))=true:=by
    rw[List.all_eq_true]
    intro r hr
    obtain⟨j,hj,rfl⟩:=List.getElem_of_mem hr
    have:=hd j (by omega)
    rw[List.getD_eq_getElem?_getD,List.getElem?_eq_getElem hj]at this
    exact decide_eq_true this
   rw[this,Int.toNat_natCast,Bool.true_and]
   refine⟨⟨oF,px,by decide,hp,⟨by omega,by omega⟩,by omega,by omega⟩,⟨oF,⟨(hR _).1.1,px.1,(hR _).1.2.1,by decide⟩,hs⟩, ?_⟩
   show _=(decide ((Pl.pls q (Pl.rsd q p [0,1] (p.length-1)) (Pl.sub q 0 1) [0,1]).length=0),(0:Int),())
   generalize (Pl.pls q (Pl.rsd q p [0,1] (p.length-1)) (Pl.sub q 0 1) [0,1]).length=w
   cases w with
   |zero=>rfl
   |succ w=>rw[decide_eq_false (by omega),show(((w+1:Nat):Int)==0)=false from by rw[beq_eq_false_iff_ne];omega]
theorem snd74v:Sound Try.prog 74 C74v:=fn_sound (T:=T74) (fn:=Try.f74) (tokF ⟨snd77,snd117,snd119,snd118,snd115,trivial⟩) Try.func74 (by kernel_rfl) H74 vc74v (by kernel_rfl) (hC:=nrcL (fun x h=>h.1) fun x h=>⟨trivial,trivial,trivial⟩)
end Fd
end
section
set_option linter.unusedVariables false
set_option linter.unusedSimpArgs false
set_option maxRecDepth 100000
namespace Fd
open Go Fw Go.Proofs

theorem pow_mod {q x:Int} (hq:isQ q) (hx:Pl.inQ q x) (h0:x≠0) (n:Nat):Pl.pow q x ((n:Int)%(q-1))=(fld q).pow x n:=by
 have ok:=fld_ok hq
 have q2:=hq.1
 have hN:((q.toNat-1:Nat):Int)=q-1:=by omega
 have hf:=fermat hq hx.1 hx.2 h0
 unfold Pl.pow
 rw[←hN, ←Int.natCast_emod,Int.toNat_natCast]
 conv=>rhs;rw[←Nat.div_add_mod n (q.toNat-1),Fm.Fld.pow_add ok,Fm.Fld.pow_mul ok,hf,Fm.Fld.one_pow ok,Fm.Fld.one_mul ok (Fm.Fld.pow_in ok _ _)]
theorem powV_p {q x:Int} (hq:isQ q) (hx:Pl.inQ q x) {n:Nat} (hn:0<n):Pl.powV q x (n:Int)=((fld q).pow x n,0):=by
 by_cases h0:x=0
 ·subst h0
  rw[powV_z (by omega),Fm.Fld.zero_pow (fld_ok hq) hn]
 ·rw[powV_x h0,pow_mod hq hx h0]
theorem pow_q {q x:Int} (hq:isQ q) (hx:Pl.inQ q x):(fld q).pow x q.toNat=x:=by
 have ok:=fld_ok hq
 have q2:=hq.1
 by_cases h0:x=0
 ·subst h0;exact Fm.Fld.zero_pow ok (by omega)
 ·rw[show q.toNat=(q.toNat-1)+1 by omega,Fm.Fld.pow,fermat hq hx.1 hx.2 h0,Fm.Fld.one_mul ok ((in_iff hq x).2 hx)]
end Fd
end
section
set_option linter.unusedVariables false
set_option linter.unusedSimpArgs false
set_option linter.unusedSectionVars false
set_option maxRecDepth 100000
namespace Fd
open Go Fw Go.Proofs
section
open Lean.Grind La
variable {q : Int} (hq : isQ q)
include hq
theorem psL_pol (l:List Int):Pol (psL hq l):=⟨_,psL_dg hq l⟩
theorem nc_C (n:Nat):(nc n:Ps (KQ hq))=C (nc n:KQ hq):=by
 induction n with
 |zero=>exact(C_zero).symm
 |succ n ih=>rw[nc,nc,C_add,ih,C_one]
theorem nc_val (n:Nat):(nc n:KQ hq).1=(fld q).nsm n 1:=by
 induction n with
 |zero=>rfl
 |succ n ih=>
  rw[nc,KQ.add_val,ih];rfl
theorem pow_val (a:KQ hq): ∀n:Nat,(a^n).1=(fld q).pow a.1 n
 |0=>by rw[Semiring.pow_zero];rfl
 |n+1=>by rw[Semiring.pow_succ,KQ.mul_val,pow_val a n];rfl
def FK:La.Fin (KQ hq) where
 p:=(Pl.lpf q).toNat
 k:=(Pl.K q).toNat
 prime:=hq.prime.nat
 char:=by
  rw[nc_C hq,show(nc (Pl.lpf q).toNat:KQ hq)=0 from KQ.ext ?_,C_zero]
  rw[nc_val hq]
  exact Fm.Fld.nsm_dvd (fld_ok hq) 1 (by show Pl.lpf q∣_;rw[hq.natp];exact Int.dvd_refl _)
 fq a:=KQ.ext (by
  rw[pow_val hq]
  have h:=pow_q hq a.2
  have e:(Pl.lpf q).toNat^(Pl.K q).toNat=q.toNat:=by have:=hq.natpow;omega
  rw[e];exact h)
 ks:=(List.range q.toNat).map fun(i:Nat)=>kq hq (i:Int)
 nodup:=by
  refine List.pairwise_map.2 ((List.nodup_range (n:=q.toNat)).imp_of_mem fun {i j} hi hj hne e=>hne ?_)
  have hi:=List.mem_range.1 hi
  have hj:=List.mem_range.1 hj
  have:=kq_inj hq ⟨by omega,by omega⟩ ⟨by omega,by omega⟩ e
  omega
 all a:=List.mem_map.2 ⟨a.1.toNat,List.mem_range.2 (by have:=a.2;unfold Pl.inQ at this;omega),by
  rw[show((a.1.toNat:Nat):Int)=a.1 by have:=a.2;unfold Pl.inQ at this;omega];exact kq_of hq a⟩
 len:=by
  rw[List.length_map,List.length_range]
  have:=hq.natpow;omega
theorem FK_q:(FK hq).p^(FK hq).k=q.toNat:=by
 show(Pl.lpf q).toNat^(Pl.K q).toNat=_
 have:=hq.natpow;omega
theorem psL_one:psL hq [1]=1:=Ps.ext fun n=>by
 cases n with
 |zero=>exact kq_1 hq
 |succ n=>show kq hq (([]:List Int).getD n 0)=if n+1=0 then 1 else 0;rw[if_neg (by omega)];exact kq_0 hq
theorem psL_x:psL hq [0,1]=xp 1:=by
 rw[psL_cons,psL_one,kq_0,C_zero];grind
theorem dv_mulm {p a b:List Int} (hp:Pl.pol q p) (h0:0<p.length) (ha:Pl.pol q a) (hb:Pl.pol q b) (h:a.length+b.length≤1000000):Dv (psL hq p) (psL hq (Pl.mulm q p a b)-psL hq a*psL hq b):=by
 have e:=psL_ovr hq (pol_prod hq ha hb h) hp h0
 rw[psL_prod hq ha.1 hb.1]at e
 refine⟨0-psL hq (Pl.ovr q (Pl.prod q a b) p).1,Pol.zero.sub (psL_pol hq _), ?_⟩
 unfold Pl.mulm
 rw[←e];grind
theorem dv_pwk {p:List Int} (hp:Pl.pol q p) (h0:0<p.length) (hl:p.length≤1000): ∀(f:Nat) (k:Int) (o x:List Int),0≤k→k<2^f→Pl.pol q o→Pl.pol q x→o.length≤1000→x.length≤1000→
  Dv (psL hq p) (psL hq (Pl.pwk q p f k o x)-psL hq o*psL hq x^k.toNat)
 |0,k,o,x,k0,kf,_,_,_,_=>by
  have:k=0:=by simp at kf;omega
  subst this
  rw[Pl.pwk,show(0:Int).toNat=0 from rfl,Semiring.pow_zero,show psL hq o-psL hq o*1=0 by grind]
  exact Dv.zero _
 |f+1,k,o,x,k0,kf,ho,hx,lo,lx=>by
  rw[Pl.pwk]
  by_cases h:k>0
  ·rw[_root_.decide_eq_true h,cond_true]
   obtain⟨d1,d2,d3⟩:=half_lt hq h kf
   obtain⟨a1,a2⟩:=mulm_ok hq hp h0 hx hx (by omega)
   obtain⟨b1,b2⟩:=mulm_ok hq hp h0 ho hx (by omega)
   have m1:=dv_mulm hq hp h0 hx hx (by omega)
   have m2:=dv_mulm hq hp h0 ho hx (by omega)
   have mp:=Dv.pow (psL_pol hq _) ((psL_pol hq x).mul (psL_pol hq x)) m1 (k.tdiv 2).toNat
   have ed:k.tdiv 2=k/2:=Int.tdiv_eq_ediv_of_nonneg k0
   by_cases h2:k.tmod 2=1
   ·rw[_root_.decide_eq_true h2,cond_true]
    have ih:=dv_pwk hp h0 hl f (k.tdiv 2) (Pl.mulm q p o x) (Pl.mulm q p x x) d1 d2 b1 a1 (by omega) (by omega)
    have em:k.tmod 2=k%2:=Int.tmod_eq_emod_of_nonneg k0
    have ek:k.toNat=(k.tdiv 2).toNat+(k.tdiv 2).toNat+1:=by omega
    rw[ek]
    generalize (k.tdiv 2).toNat=m at*
    generalize psL hq (Pl.pwk q p f (k.tdiv 2) (Pl.mulm q p o x) (Pl.mulm q p x x))=R at*
    have e:R-psL hq o*psL hq x^(m+m+1)=(R-psL hq (Pl.mulm q p o x)*psL hq (Pl.mulm q p x x)^m)+(psL hq (Pl.mulm q p o x)-psL hq o*psL hq x)*psL hq (Pl.mulm q p x x)^m+(psL hq (Pl.mulm q p x x)^m-(psL hq x*psL hq x)^m)*(psL hq o*psL hq x):=by
     rw[CommSemiring.mul_pow,Semiring.pow_succ,Semiring.pow_add];grind
    rw[e]
    exact(ih.add (m2.mul ((psL_pol hq _).pow m))).add (mp.mul ((psL_pol hq o).mul (psL_pol hq x)))
   ·rw[_root_.decide_eq_false h2,cond_false]
    have ih:=dv_pwk hp h0 hl f (k.tdiv 2) o (Pl.mulm q p x x) d1 d2 ho a1 lo (by omega)
    have em:k.tmod 2=k%2:=Int.tmod_eq_emod_of_nonneg k0
    have ek:k.toNat=(k.tdiv 2).toNat+(k.tdiv 2).toNat:=by omega
    rw[ek]
    generalize (k.tdiv 2).toNat=m at*
    generalize psL hq (Pl.pwk q p f (k.tdiv 2) o (Pl.mulm q p x x))=R at*
    have e:R-psL hq o*psL hq x^(m+m)=(R-psL hq o*psL hq (Pl.mulm q p x x)^m)+(psL hq (Pl.mulm q p x x)^m-(psL hq x*psL hq x)^m)*psL hq o:=by
     rw[CommSemiring.mul_pow,Semiring.pow_add];grind
    rw[e]
    exact ih.add (mp.mul (psL_pol hq o))
  ·rw[_root_.decide_eq_false h,cond_false]
   have:k=0:=by omega
   subst this
   rw[show(0:Int).toNat=0 from rfl,Semiring.pow_zero,show psL hq o-psL hq o*1=0 by grind]
   exact Dv.zero _
theorem pwk_len {p:List Int} (hp:Pl.pol q p) (h0:0<p.length) (hl:p.length≤1000): ∀(f:Nat) (k:Int) (o x:List Int),Pl.pol q o→Pl.pol q x→o.length<p.length→x.length≤1000→(Pl.pwk q p f k o x).length<p.length
 |0,k,o,x,ho,hx,lo,lx=>lo
 |f+1,k,o,x,ho,hx,lo,lx=>by
  rw[Pl.pwk]
  by_cases h:k>0
  ·rw[_root_.decide_eq_true h,cond_true]
   obtain⟨a1,a2⟩:=mulm_ok hq hp h0 hx hx (by omega)
   obtain⟨b1,b2⟩:=mulm_ok hq hp h0 ho hx (by omega)
   by_cases h2:k.tmod 2=1
   ·rw[_root_.decide_eq_true h2,cond_true];exact pwk_len hp h0 hl f _ _ _ b1 a1 b2 (by omega)
   ·rw[_root_.decide_eq_false h2,cond_false];exact pwk_len hp h0 hl f _ _ _ ho a1 lo (by omega)
  ·rw[_root_.decide_eq_false h];exact lo
theorem dv_rsd {p:List Int} (hp:Pl.pol q p) (h0:0<p.length) (hl:p.length≤1000): ∀n,Dv (psL hq p) (psL hq (Pl.rsd q p [0,1] n)-(xp 1:Ps (KQ hq))^(((FK hq).p^(FK hq).k)^n))
 |0=>by
  rw[Pl.rsd,psL_x,Nat.pow_zero,show(xp 1:Ps (KQ hq))-xp 1^1=0 by grind];exact Dv.zero _
 |n+1=>by
  obtain⟨r1,r2⟩:=rsd_ok hq hp h0 hl (pol_x hq) (by decide) n
  have ih:=dv_rsd hp h0 hl n
  have q2:=hq.1
  have q6:=hq.2.1
  have h1:=dv_pwk hq hp h0 hl 64 q [1] (Pl.rsd q p [0,1] n) (by omega) (by omega) (pol_one hq) r1 (by decide) r2
  have h2:=Dv.pow (psL_pol hq (Pl.rsd q p [0,1] n)) ((Pol.xp 1).pow _) ih q.toNat
  rw[←pow_mul]at h2
  rw[Nat.pow_succ,FK_q]at*
  rw[psL_one]at h1
  have:=h1.add h2
  rw[show∀a b c:Ps (KQ hq),a-1*b+(b-c)=a-c from fun a b c=>by grind]at this
  exact this
theorem kq_m1:C (kq hq (Pl.sub q 0 1))=(0-1:Ps (KQ hq)):=by
 rw[kq_sub hq (zero_inQ hq) (one_inQ hq),kq_0,kq_1,C_sub,C_zero,C_one]
theorem psL_hqL {p:List Int} (hp:Pl.pol q p) (h0:0<p.length) (hl:p.length≤1000) (n:Nat):psL hq (Pl.hqL q p n)=psL hq (Pl.rsd q p [0,1] n)-xp 1:=by
 unfold Pl.hqL
 rw[psL_pls hq (rsd_ok hq hp h0 hl (pol_x hq) (by decide) n).1.1 (pol_x hq).1 (sub_inQ hq _ _),kq_m1,psL_x];grind
theorem psL_sml {a b:List Int} (ha: ∀x∈a,Pl.inQ q x) (hb: ∀x∈b,Pl.inQ q x):psL hq (Pl.sml q a b)=psL hq a+psL hq b:=by
 rw[sml_eq,psL_trim]
 refine Ps.ext fun i=> ?_
 rw[Ps.add_c,psL_c,psL_c,psL_c]
 have b0: ∀ {l:List Int}, ¬i<l.length→l.getD i 0=0:=fun h=>by rw[List.getD_eq_getElem?_getD,List.getElem?_eq_none (by omega)];rfl
 by_cases h:i<max a.length b.length
 ·rw[List.getD_eq_getElem?_getD,List.getElem?_map,List.getElem?_range h]
  show kq hq (bif decide (i<b.length)then _ else _)=_
  by_cases h2:i<b.length
  ·rw[_root_.decide_eq_true h2,cond_true,kq_add hq (getQ hq ha i) (getQ hq hb i)]
  ·rw[_root_.decide_eq_false h2,cond_false,b0 h2,kq_0];grind
 ·rw[b0 (l:=(List.range (max a.length b.length)).map _) (by rw[List.length_map,List.length_range];exact h),b0 (l:=a) (by omega),b0 (l:=b) (by omega),kq_0];grind
theorem hqR_eq {p:List Int} (hp:Pl.pol q p) (h0:0<p.length) (hl:p.length≤1000) (n:Nat):Pl.hqR q p n=Pl.hqL q p n:=by
 have r:=rsd_ok hq hp h0 hl (pol_x hq) (by decide) n
 have pn: ∀x∈[0,Pl.neg q 1],Pl.inQ q x:=fun x hx=>by
  rcases List.mem_cons.1 hx with rfl|hx
  ·exact zero_inQ hq
  ·rw[List.mem_singleton.1 hx];exact neg_inQ hq 1
 refine psL_inj hq (pol_sml hq r.1.1 r.1.2.1 (by simp)) (pol_pls hq r.1.1 r.1.2.1 (by decide)) ?_
 unfold Pl.hqR
 rw[psL_sml hq r.1.1 pn]
 show _=psL hq (Pl.hqL q p n)
 rw[psL_hqL hq hp h0 hl,psL_cons,kq_0,C_zero]
 have e:psL hq [Pl.neg q 1]=0-1:=by
  rw[psL_cons,psL_nil,show kq hq (Pl.neg q 1)=0-1 from ?_,C_sub,C_zero,C_one]
  ·grind
  ·have:=kq_of hq (-(1:KQ hq))
   rw[show(0:KQ hq)-1= -1 by grind, ←this];rfl
 rw[e];grind
theorem psL_mon {p:List Int} (hp:Pl.pol q p) (h0:0<p.length): ∃g,Mon (p.length-1) g∧Dv g (psL hq p)∧Dv (psL hq p) g:=by
 have ht:=hp.2.2 h0
 have hin:Pl.inQ q (Pl.top p):=getD_inQ hp.1 (by omega)
 have hne:=kq_ne hq hin ht
 have hcc:C (kq hq (Pl.top p))*C (kq hq (Pl.top p))⁻¹=(1:Ps (KQ hq)):=by rw[←C_mulC,show kq hq (Pl.top p)*(kq hq (Pl.top p))⁻¹=1 by grind,C_one]
 refine⟨C (kq hq (Pl.top p))⁻¹*psL hq p,⟨fun i hi=> ?_, ?_⟩,⟨C (kq hq (Pl.top p)),Pol.C _, ?_⟩,⟨C (kq hq (Pl.top p))⁻¹,Pol.C _,by grind⟩⟩
 ·rw[C_mul,psL_dg hq p i (by omega)];grind
 ·rw[C_mul,psL_c]
  show _*kq hq (Pl.top p)=1
  grind
 ·rw[show C (kq hq (Pl.top p))⁻¹*psL hq p*C (kq hq (Pl.top p))=C (kq hq (Pl.top p))*C (kq hq (Pl.top p))⁻¹*psL hq p by grind,hcc];grind
theorem gcdL_dv: ∀(f:Nat) (p b:List Int),Pl.pol q p→Pl.pol q b→b.length<f→0<p.length→
  Dv (psL hq (Pl.gcdL q f p b)) (psL hq p)∧Dv (psL hq (Pl.gcdL q f p b)) (psL hq b)∧(∀g,Dv g (psL hq p)→Dv g (psL hq b)→Dv g (psL hq (Pl.gcdL q f p b)))∧0<(Pl.gcdL q f p b).length
 |0,p,b,_,_,h,_=>by omega
 |f+1,p,b,hp,hb,h,h0=>by
  by_cases hl:b.length=0
  ·rw[Pl.gcdL,_root_.decide_eq_true hl,cond_true]
   rw[List.length_eq_zero_iff.1 hl,psL_nil]
   exact⟨Dv.refl _,Dv.zero _,fun g h1 _=>h1,h0⟩
  ·rw[gcd_go (by omega)]
   obtain⟨r1,r2⟩:=ovr_ok hq hp hb (by omega)
   obtain⟨i1,i2,i3,i4⟩:=gcdL_dv f b _ hb r1 (by omega) (by omega)
   have e:=psL_ovr hq hp hb (by omega)
   refine⟨?_,i1,fun g h1 h2=>i3 g h2 ?_,i4⟩
   ·rw[←e];exact Dv.add (by rw[show∀a b:Ps (KQ hq),a*b=b*a from fun a b=>by grind];exact i1.mul (psL_pol hq _)) i2
   ·have:psL hq (Pl.ovr q p b).2=psL hq p-psL hq b*psL hq (Pl.ovr q p b).1:=by rw[←e];grind
    rw[this];exact h1.sub (h2.mul (psL_pol hq _))
theorem mnc_length {p:List Int} (hp:Pl.pol q p):(Pl.mnc q p).length=p.length:=by
 by_cases h:p.length=0
 ·unfold Pl.mnc;rw[_root_.decide_eq_true h,h];rfl
 ·have hin:Pl.inQ q (Pl.top p):=getD_inQ hp.1 (by omega)
  have ht:=hp.2.2 (by omega)
  rw[mnc_map hq hp h,trim_eq,List.length_map]
  intro _
  unfold Pl.top
  rw[List.length_map,List.getD_eq_getElem?_getD,List.getElem?_map,List.getElem?_eq_getElem (by omega)]
  show Pl.mul q p[p.length-1] (Pl.inv q (Pl.top p))≠0
  have e:p[p.length-1]=Pl.top p:=by unfold Pl.top;rw[List.getD_eq_getElem?_getD,List.getElem?_eq_getElem (by omega)];rfl
  rw[e]
  exact mul_ne0 hq hin (inv_inQ hq _) ht (inv_ne0 hq hin ht)
theorem gcd_cop {p b:List Int} (hp:Pl.pol q p) (hb:Pl.pol q b) (h0:0<p.length):(Pl.gcd q p b).length≤1↔La.Cop (psL hq p) (psL hq b):=by
 unfold Pl.gcd
 have hG:=gcd_len hq (b.length+1) p b hp hb
 obtain⟨i1,i2,i3,i4⟩:=gcdL_dv hq (b.length+1) p b hp hb (by omega) h0
 rw[mnc_length hq hG]
 generalize Pl.gcdL q (b.length+1) p b=G at*
 obtain⟨g,g1,g2,g3⟩:=psL_mon hq hG i4
 constructor
 ·intro h e g' h1 h2 h3
  rcases Nat.eq_zero_or_pos e with h4|h4
  ·exact h4
  ·rw[show G.length-1=0 by omega]at g1
   have:=dg_lt h1 ((i3 g' h2 h3).trans g3) (g1.dg.mono (by omega))
   exact absurd this g1.ne0
 ·intro h
  have:=h _ g g1 (g2.trans i1) (g2.trans i2)
  omega
theorem cop_dv {p a b:Ps (KQ hq)} (h:Dv p (a-b)) (hc:La.Cop p a):La.Cop p b:=fun e g h1 h2 h3=>hc e g h1 h2 (by
 have:=(h2.trans h).add h3
 rw[show a-b+b=a by grind]at this
 exact this)
theorem dv_hq {p:List Int} (hp:Pl.pol q p) (h0:0<p.length) (hl:p.length≤1000) (n:Nat):Dv (psL hq p) (psL hq (Pl.hqL q p n)-La.hq (FK hq) n):=by
 rw[psL_hqL hq hp h0 hl]
 unfold La.hq
 rw[show∀a b c:Ps (KQ hq),a-b-(c-b)=a-c from fun a b c=>by grind]
 exact dv_rsd hq hp h0 hl n
theorem dv_comm {p a b:Ps (KQ hq)} (h:Dv p (a-b)):Dv p (b-a):=by
 have:=(Dv.zero p).sub h
 rw[show 0-(a-b)=b-a by grind]at this
 exact this
theorem gcd_hq {p:List Int} (hp:Pl.pol q p) (h0:0<p.length) (hl:p.length≤1000) (n:Nat):(Pl.gcd q p (Pl.hqL q p n)).length≤1↔La.Cop (psL hq p) (La.hq (FK hq) n):=by
 have r:=rsd_ok hq hp h0 hl (pol_x hq) (by decide) n
 have hb:Pl.pol q (Pl.hqL q p n):=pol_pls hq r.1.1 r.1.2.1 (by decide)
 rw[gcd_cop hq hp hb h0]
 exact⟨cop_dv hq (dv_hq hq hp h0 hl n),cop_dv hq (dv_comm hq (dv_hq hq hp h0 hl n))⟩
theorem pls_len (p r:List Int) (c:Int):(Pl.pls q p c r).length≤max p.length r.length:=by
 unfold Pl.pls
 rw[trim_len]
 refine Nat.le_trans (trimN_le _ _) ?_
 have: ∀(i:Nat) (o:List Int),(Pl.plR q c r i o).length=o.length:=by
  intro i
  induction i with
  |zero=>intro o;rfl
  |succ i ih=>intro o;rw[Pl.plR,List.length_set,ih]
 rw[this,List.length_append,List.length_replicate]
 omega
theorem hq_len {p:List Int} (hp:Pl.pol q p) (h0:3≤p.length) (hl:p.length≤1000) {n:Nat} (hn:1≤n):(Pl.hqL q p n).length<p.length:=by
 obtain⟨m,rfl⟩: ∃m,n=m+1:=⟨n-1,by omega⟩
 have r:=rsd_ok hq hp (by omega) hl (pol_x hq) (by decide) m
 have h1:(Pl.rsd q p [0,1] (m+1)).length<p.length:=pwk_len hq hp (by omega) hl 64 q [1] _ (pol_one hq) r.1 (by show 1<_;omega) r.2
 have h2:=pls_len hq (Pl.rsd q p [0,1] (m+1)) [0,1] (Pl.sub q 0 1)
 have h3:([0,1]:List Int).length=2:=rfl
 unfold Pl.hqL
 omega
theorem hq_dv0 {p:List Int} (hp:Pl.pol q p) (h0:3≤p.length) (hl:p.length≤1000) {n:Nat} (hn:1≤n):(Pl.hqL q p n).length=0↔Dv (psL hq p) (La.hq (FK hq) n):=by
 have r:=rsd_ok hq hp (by omega) hl (pol_x hq) (by decide) n
 have hb:Pl.pol q (Pl.hqL q p n):=pol_pls hq r.1.1 r.1.2.1 (by decide)
 have hd:=dv_hq hq hp (by omega) hl n
 constructor
 ·intro h
  rw[List.length_eq_zero_iff.1 h,psL_nil]at hd
  have:=dv_comm hq hd
  rw[show∀a:Ps (KQ hq),a-0=a from fun a=>by grind]at this
  exact this
 ·intro h
  obtain⟨g,g1,g2,g3⟩:=psL_mon hq hp (by omega)
  have h1:=hd.add h
  rw[show∀a b:Ps (KQ hq),a-b+b=a from fun a b=>by grind]at h1
  have h2:=dg_lt g1 (g2.trans h1) ((psL_dg hq _).mono (by have:=hq_len hq hp h0 hl hn;omega))
  have:=psL_inj hq hb (show Pl.pol q []from⟨fun x hx=>(by cases hx),by decide,fun h=>(by cases h)⟩) (by rw[h2,psL_nil])
  rw[this];rfl
theorem irR_iff {p:List Int} (hp:Pl.pol q p) (h0:2≤p.length) (hl:p.length≤1000):Pl.irR q p=true↔ ∀d,1≤d→2*d≤p.length-1→La.Cop (psL hq p) (La.hq (FK hq) d):=by
 unfold Pl.irR
 rw[_root_.decide_eq_true h0,Bool.true_and,List.all_eq_true]
 constructor
 ·intro h d d1 d2
  have:=_root_.of_decide_eq_true (h (d-1) (List.mem_range.2 (by omega)))
  rw[show d-1+1=d by omega,hqR_eq hq hp (by omega) hl,gcd_hq hq hp (by omega) hl]at this
  exact this
 ·intro h d hd
  have hd:=List.mem_range.1 hd
  refine _root_.decide_eq_true ?_
  rw[hqR_eq hq hp (by omega) hl,gcd_hq hq hp (by omega) hl]
  exact h (d+1) (by omega) (by omega)
theorem cop_assoc {p g b:Ps (KQ hq)} (h:Dv g p) (hc:La.Cop p b):La.Cop g b:=fun e x h1 h2 h3=>hc e x h1 (h2.trans h) h3
theorem irA_irR {p:List Int} (hp:Pl.pol q p) (hl:p.length≤1000):Pl.irA q p=Pl.irR q p:=by
 by_cases h3:p.length<3
 ·unfold Pl.irA Pl.irR
  rw[_root_.decide_eq_true h3,cond_true,show(p.length-1)/2=0 by omega]
  by_cases h2:p.length=2
  ·rw[_root_.decide_eq_true h2,_root_.decide_eq_true (by omega)];rfl
  ·rw[_root_.decide_eq_false h2,_root_.decide_eq_false (by omega)];rfl
 ·obtain⟨g,g1,g2,g3⟩:=psL_mon hq hp (by omega)
  have hR:=irR_iff hq hp (by omega) hl
  have hRab:Pl.irR q p=true↔RabR (FK hq) (p.length-1) g:=by
   rw[hR]
   exact⟨fun h d d1 d2=>cop_assoc hq g2 (h d d1 d2),fun h d d1 d2=>cop_assoc hq g3 (h d d1 d2)⟩
  obtain⟨ps,pr⟩:=primes_spec (n:=((p.length-1:Nat):Int)) (by omega) (by omega)
  have hA:Pl.irA q p=true↔RabA (FK hq) (p.length-1) g:=by
   unfold Pl.irA
   rw[_root_.decide_eq_false h3,cond_false,Bool.and_eq_true,List.all_eq_true,decide_eq_true_iff,hq_dv0 hq hp (by omega) hl (by omega)]
   constructor
   ·rintro⟨h1,h2⟩
    refine⟨g2.trans h2,fun r r1 r2=> ?_⟩
    have:=_root_.of_decide_eq_true (h1 (r:Int) ((ps _).2 ⟨IsPI.of r1,Int.natCast_dvd_natCast.2 r2⟩))
    rw[gcd_hq hq hp (by omega) hl,show(((p.length-1:Nat):Int)/(r:Int)).toNat=(p.length-1)/r from by rw[←Int.natCast_ediv];rfl]at this
    exact cop_assoc hq g2 this
   ·rintro⟨h1,h2⟩
    refine⟨fun r hr=>_root_.decide_eq_true ?_,g3.trans h1⟩
    obtain⟨r1,r2⟩:=(ps _).1 hr
    have r3:=r1.1
    obtain⟨m,rfl⟩: ∃m:Nat,r=m:=⟨r.toNat,by omega⟩
    rw[gcd_hq hq hp (by omega) hl,show(((p.length-1:Nat):Int)/(m:Int)).toNat=(p.length-1)/m from by rw[←Int.natCast_ediv];rfl]
    exact cop_assoc hq g3 (h2 m (by have:=r1.nat;rwa [Int.toNat_natCast]at this) (Int.natCast_dvd_natCast.1 r2))
  have:Pl.irA q p=true↔Pl.irR q p=true:=by
   rw[hA,hRab]
   exact⟨rab_AR (FK hq),rab_RA (FK hq) g1 (by omega)⟩
  cases h1:Pl.irA q p<;>cases h2:Pl.irR q p<;>simp_all
end
end Fd
end
section
set_option linter.unusedVariables false
set_option maxRecDepth 100000
namespace Fd
open Go Fw Go.Proofs
def T16:Ctx:=TT [(19,C19),(51,C51),(29,C29),(55,C55),(57,C57),(30,C30),(34,C34),(59,C59),(78,C78q),(74,C74v),(65,C65v),(38,C38),(24,C24)]
def H16:Hints:=lo [(0,⟨[7,9,10,11,17],[(22,si),(23,si)]⟩)]
def C16:Con:=⟨[I,I,I],[B],fun _=>True,fun _=>(true,()),none⟩
end Fd
end
section
set_option linter.unusedVariables false
set_option linter.unusedSimpArgs false
set_option linter.unusedSectionVars false
set_option maxRecDepth 100000
namespace La
open Lean.Grind
section
variable {K : Type} [Field K] [DecidableEq K]
theorem sum_shift (f:Nat→K): ∀n,sum (n+1) f=f 0+sum n fun i=>f (i+1)
 |0=>by rw[sum,sum,sum];grind
 |n+1=>by rw[sum,sum_shift f n,sum];grind
def prod:Nat→(Nat→K)→K
 |0,_=>1
 |n+1,f=>prod n f*f n
theorem prod_shift (f:Nat→K): ∀n,prod (n+1) f=f 0*prod n fun i=>f (i+1)
 |0=>by rw[prod,prod,prod];grind
 |n+1=>by rw[prod,prod_shift f n,prod];grind
def lins (f:Nat→K):Nat→Ps K
 |0=>1
 |n+1=>lins f n*lin (f n)
theorem lins_mon (f:Nat→K): ∀n,Mon n (lins f n)
 |0=>Mon.one
 |n+1=>(lins_mon f n).mul (lin_mon _)
theorem lins_shift (f:Nat→K): ∀n,lins f (n+1)=lin (f 0)*lins (fun i=>f (i+1)) n
 |0=>by rw[lins,lins,lins];grind
 |n+1=>by rw[lins,lins_shift f n,lins];grind
theorem lins_root (f:Nat→K): ∀n i,i<n→Ev (f i) (lins f n) 0
 |0,i,h=>by omega
 |n+1,i,h=>by
  rw[lins]
  by_cases e:i=n
  ·subst e
   obtain⟨v,hv⟩:=Ev.ex (lins_mon f i).pol (f i)
   have:=hv.mul (Ev.lin (f i) (f i))
   rw[show v*(f i-f i)=0 by grind]at this
   exact this
  ·have h1:=lins_root f n i (by omega)
   have:=h1.mul (Ev.lin (f i) (f n))
   rw[show(0:K)*(f i-f n)=0 by grind]at this
   exact this
theorem Ev.pow {x v:K} {a:Ps K} (h:Ev x a v): ∀n:Nat,Ev x (a^n) (v^n)
 |0=>by rw[Semiring.pow_zero,Semiring.pow_zero];exact Ev.of_C x 1
 |n+1=>by rw[Semiring.pow_succ,Semiring.pow_succ];exact(Ev.pow h n).mul h
theorem Ev.X (x:K):Ev x (xp 1) x:=by
 have:=(Ev.lin x 0).add (Ev.of_C x 0)
 rw[show La.lin (0:K)+C 0=xp 1 by unfold La.lin;grind,show x-0+0=x by grind]at this
 exact this
theorem Ev.Xq (x:K) (n:Nat):Ev x ((xp 1:Ps K)^n-xp 1) (x^n-x):=((Ev.X x).pow n).sub (Ev.X x)
theorem xp_mon:Mon 1 (xp 1:Ps K):=⟨Dg.xp 1,by show(if 1=1 then(1:K)else 0)=1;rw[if_pos rfl]⟩
theorem Mon.pow {d:Nat} {a:Ps K} (h:Mon d a): ∀n:Nat,Mon (d*n) (a^n)
 |0=>by rw[Semiring.pow_zero,Nat.mul_zero];exact Mon.one
 |n+1=>by rw[Semiring.pow_succ,Nat.mul_succ];exact(Mon.pow h n).mul h
structure Hom (K' : Type) [Field K'] [DecidableEq K'] (ψ : K → K') : Prop where
 one:ψ 1=1
 add: ∀a b,ψ (a+b)=ψ a+ψ b
 mul: ∀a b,ψ (a*b)=ψ a*ψ b
section
variable {K' : Type} [Field K'] [DecidableEq K'] {ψ : K → K'} (h : Hom K' ψ)
include h
theorem Hom.zero:ψ 0=0:=by
 have:=h.add 0 0
 rw[show(0:K)+0=0 by grind]at this
 grind
theorem Hom.sub (a b:K):ψ (a-b)=ψ a-ψ b:=by
 have:=h.add (a-b) b
 rw[show a-b+b=a by grind]at this
 grind
def mp (ψ:K→K') (a:Ps K):Ps K':=⟨fun n=>ψ (a.c n)⟩
theorem Hom.sum (f:Nat→K): ∀n,ψ (La.sum n f)=La.sum n fun i=>ψ (f i)
 |0=>h.zero
 |n+1=>by rw[La.sum,h.add,Hom.sum f n];rfl
theorem Hom.mpmul (a b:Ps K):mp ψ (a*b)=mp ψ a*mp ψ b:=Ps.ext fun n=>by
 show ψ ((a*b).c n)=_
 rw[Ps.mul_c,Ps.mul_c,h.sum]
 exact sum_congr fun i _=>h.mul _ _
theorem Hom.mpsub (a b:Ps K):mp ψ (a-b)=mp ψ a-mp ψ b:=Ps.ext fun n=>h.sub _ _
theorem Hom.ite {p:Prop} [Decidable p] (a:K):ψ (if p then a else 0)=if p then ψ a else 0:=by
 by_cases e:p
 ·rw[if_pos e,if_pos e]
 ·rw[if_neg e,if_neg e,h.zero]
theorem Hom.mpC (a:K):mp ψ (C a)=C (ψ a):=Ps.ext fun n=>h.ite a
theorem Hom.mpx (k:Nat):mp ψ (xp k)=xp k:=Ps.ext fun n=>by
 have:=h.ite (p:=n=k) 1
 rw[h.one]at this
 exact this
theorem Hom.mpone:mp ψ 1=1:=by
 have:=h.mpC 1
 rw[h.one,C_one,C_one]at this
 exact this
theorem Hom.mplin (a:K):mp ψ (lin a)=lin (ψ a):=by unfold lin;rw[h.mpsub,h.mpx,h.mpC]
theorem Hom.mppow (a:Ps K): ∀n:Nat,mp ψ (a^n)=mp ψ a^n
 |0=>by rw[Semiring.pow_zero,Semiring.pow_zero,h.mpone]
 |n+1=>by rw[Semiring.pow_succ,Semiring.pow_succ,h.mpmul,Hom.mppow a n]
theorem Hom.mplins (f:Nat→K): ∀n,mp ψ (lins f n)=lins (fun i=>ψ (f i)) n
 |0=>h.mpone
 |n+1=>by rw[lins,h.mpmul,Hom.mplins f n,h.mplin];rfl
theorem Hom.mpdg {n:Nat} {a:Ps K} (ha:Dg n a):Dg n (mp ψ a):=fun i hi=>by show ψ (a.c i)=0;rw[ha i hi,h.zero]
theorem Hom.mpmon {n:Nat} {a:Ps K} (ha:Mon n a):Mon n (mp ψ a):=⟨h.mpdg ha.dg,by show ψ (a.c n)=1;rw[ha.top,h.one]⟩
theorem Hom.mpdv {g a:Ps K}:Dv g a→Dv (mp ψ g) (mp ψ a):=fun⟨u,⟨n,hu⟩,e⟩=>⟨mp ψ u,⟨n,h.mpdg hu⟩,by rw[e,h.mpmul]⟩
end
variable (F : Fin K)
def cj (F:Fin K) (a:K) (i:Nat):K:=a^(F.p^i)
theorem nc_Ck (n:Nat):(nc n:Ps K)=C (nc n:K):=by
 induction n with
 |zero=>exact(C_zero).symm
 |succ n ih=>rw[nc,nc,C_add,ih,C_one]
theorem Fin.chK:(nc F.p:K)=0:=by
 have:=F.char
 rw[nc_Ck]at this
 have:=congrArg (fun a=>a.c 0) this
 exact this
theorem cj_hom (i:Nat):Hom K (fun a:K=>cj F a i):=⟨one_pow' _,fun a b=>dream_k F.prime F.chK a b i,fun a b=>CommSemiring.mul_pow a b _⟩
theorem cj_0 (a:K):cj F a 0=a:=by unfold cj;rw[Nat.pow_zero];grind
theorem cj_k (a:K):cj F a F.k=a:=F.fq a
theorem cj_cj (a:K) (i j:Nat):cj F (cj F a i) j=cj F a (i+j):=by unfold cj;rw[←pow_mul, ←Nat.pow_add]
theorem cj_inj {a b:K} {j:Nat} (hj:j≤F.k) (h:cj F a j=cj F b j):a=b:=by
 have h2:=congrArg (fun x=>cj F x (F.k-j)) h
 simp only[cj_cj]at h2
 rw[show j+(F.k-j)=F.k by omega,cj_k,cj_k]at h2
 exact h2
theorem cj_mul {a:K} {d:Nat} (h:cj F a d=a): ∀m,cj F a (d*m)=a
 |0=>cj_0 F a
 |m+1=>by rw[Nat.mul_succ, ←cj_cj,cj_mul h m,h]
theorem cj_mod {a:K} {d:Nat} (h:cj F a d=a) (i:Nat):cj F a i=cj F a (i%d):=by
 conv=>lhs;rw[←Nat.div_add_mod i d, ←cj_cj,cj_mul F h]
theorem cj_nc (i:Nat): ∀n,cj F (nc n:K) i=nc n
 |0=>(cj_hom F i).zero
 |n+1=>by rw[nc,(cj_hom F i).add,cj_nc i n,(cj_hom F i).one]
theorem nc_mod (n:Nat):(nc n:K)=nc (n%F.p):=by
 conv=>lhs;rw[←Nat.div_add_mod n F.p,nc_add,nc_mul,F.chK]
 grind
theorem fixed (hinj: ∀i j,i<F.p→j<F.p→(nc i:K)=nc j→i=j) {a:K} (h:cj F a 1=a): ∃i,i<F.p∧a=nc i:=by
 refine Classical.byContradiction fun hn=> ?_
 have p2:=F.prime.1
 have hM:Mon F.p ((xp 1:Ps K)^F.p-xp 1):=by
  have h1:=(xp_mon (K:=K)).pow F.p
  rw[Nat.one_mul]at h1
  have h2:Dg 2 (xp 1:Ps K):=Dg.xp 1
  refine⟨h1.dg.sub (h2.mono (by omega)), ?_⟩
  rw[Ps.sub_c,h1.top,h2 F.p (by omega)];grind
 have hroot: ∀x:K,cj F x 1=x→Ev x ((xp 1:Ps K)^F.p-xp 1) 0:=fun x hx=>by
  have:=Ev.Xq x F.p
  unfold cj at hx
  rw[Nat.pow_one]at hx
  rw[hx,show x-x=0 by grind]at this
  exact this
 refine hM.ne0 (roots0 (a::(List.range F.p).map fun i=>(nc i:K)) _ ?_ ?_ ?_)
 ·refine List.nodup_cons.2 ⟨fun hm=> ?_,List.pairwise_map.2 ((List.nodup_range (n:=F.p)).imp_of_mem fun {i j} hi hj hne e=>hne (hinj i j (List.mem_range.1 hi) (List.mem_range.1 hj) e))⟩
  obtain⟨i,hi,e⟩:=List.mem_map.1 hm
  exact hn ⟨i,List.mem_range.1 hi,e.symm⟩
 ·rw[List.length_cons,List.length_map,List.length_range];exact hM.dg
 ·intro x hx
  rcases List.mem_cons.1 hx with rfl|hx
  ·exact hroot x h
  ·obtain⟨i,_,rfl⟩:=List.mem_map.1 hx
   exact hroot _ (cj_nc F 1 i)
def tr (F:Fin K) (a:K):K:=sum F.k (cj F a)
def nm (F:Fin K) (a:K):K:=prod F.k (cj F a)
theorem tr_fix (a:K):cj F (tr F a) 1=tr F a:=by
 unfold tr
 have h1:=(cj_hom F 1).sum (cj F a) F.k
 simp only[cj_cj]at h1
 rw[h1]
 have h2:=sum_shift (cj F a) F.k
 rw[sum,cj_k,cj_0]at h2
 grind
theorem Hom.prod {ψ:K→K} (h:Hom K ψ) (f:Nat→K): ∀n,ψ (La.prod n f)=La.prod n fun i=>ψ (f i)
 |0=>h.one
 |n+1=>by rw[La.prod,h.mul,Hom.prod h f n];rfl
theorem prod_0 {f:Nat→K} {i:Nat} (hi:f i=0): ∀n,i<n→prod n f=0
 |0,h=>by omega
 |n+1,h=>by
  rw[prod]
  by_cases e:i=n
  ·rw[←e,hi];grind
  ·rw[prod_0 hi n (by omega)];grind
theorem nm_fix (a:K):cj F (nm F a) 1=nm F a:=by
 unfold nm
 have h1:=(cj_hom F 1).prod (cj F a) F.k
 simp only[cj_cj]at h1
 rw[h1]
 have h2:=prod_shift (cj F a) F.k
 rw[prod,cj_k,cj_0]at h2
 by_cases ha:a=0
 ·by_cases hk:F.k=0
  ·rw[hk];rfl
  ·have e: ∀i,cj F a i=0:=fun i=>by rw[ha];exact(cj_hom F i).zero
   rw[prod_0 (e 0) _ (by omega),prod_0 (f:=fun i=>cj F a (i+1)) (e 1) _ (by omega)]
 ·have h3:a⁻¹*(prod F.k (cj F a)*a)=a⁻¹*(a*prod F.k fun i=>cj F a (i+1)):=by rw[h2]
  grind
theorem tr_add (a b:K):tr F (a+b)=tr F a+tr F b:=by
 unfold tr
 rw[←sum_add]
 exact sum_congr fun i _=>(cj_hom F i).add a b
theorem prod_mul {f g:Nat→K}: ∀n,prod n (fun i=>f i*g i)=prod n f*prod n g
 |0=>by rw[prod,prod,prod];grind
 |n+1=>by rw[prod,prod,prod,prod_mul n];grind
theorem nm_mul (a b:K):nm F (a*b)=nm F a*nm F b:=by
 unfold nm
 rw[←prod_mul]
 congr 1
 funext i
 exact(cj_hom F i).mul a b
structure Per (F : Fin K) (a : K) (d : Nat) : Prop where
 pos:1≤d
 le:d≤F.k
 eq:cj F a d=a
 min: ∀j,1≤j→j<d→cj F a j≠a
theorem Per.dvd {a:K} {d:Nat} (h:Per F a d):d∣F.k:=by
 have e:=cj_mod F h.eq F.k
 rw[cj_k]at e
 have:=Nat.mod_lt F.k h.pos
 rcases Nat.eq_zero_or_pos (F.k%d)with h0|h0
 ·exact Nat.dvd_of_mod_eq_zero h0
 ·exact absurd e.symm (h.min _ h0 this)
theorem Per.inj {a:K} {d:Nat} (h:Per F a d) {i j:Nat} (hi:i<d) (hj:j<d) (e:cj F a i=cj F a j):i=j:=by
 have key: ∀i j,i<d→j<i→cj F a i≠cj F a j:=fun i j hi hji e=>by
  refine h.min (i-j) (by omega) (by omega) (cj_inj F (j:=j) (by have:=h.le;omega) ?_)
  rw[cj_cj,show i-j+j=i by omega];exact e
 rcases Nat.lt_trichotomy i j with h1|h1|h1
 ·exact absurd e.symm (key j i hj h1)
 ·exact h1
 ·exact absurd e (key i j hi h1)
theorem Per.fix {a:K} {d:Nat} (h:Per F a d) (n:Nat):cj F ((lins (cj F a) d).c n) 1=(lins (cj F a) d).c n:=by
 have e1:=(cj_hom F 1).mplins (cj F a) d
 simp only[cj_cj]at e1
 have e2:=lins_shift (cj F a) d
 rw[lins,h.eq,cj_0]at e2
 have e3:lin a*(lins (cj F a) d-lins (fun i=>cj F a (i+1)) d)=0:=by grind
 have e4:=mon_small (lin_mon a) (d+1) (lins (cj F a) d-lins (fun i=>cj F a (i+1)) d) ((lins_mon _ d).dg.sub (lins_mon _ d).dg) (by
  rw[show(lins (cj F a) d-lins (fun i=>cj F a (i+1)) d)*lin a=lin a*(lins (cj F a) d-lins (fun i=>cj F a (i+1)) d)by grind,e3];exact Dg.zero)
 have e5:lins (fun i=>cj F a (i+1)) d=lins (cj F a) d:=by
  have:lins (cj F a) d=lins (cj F a) d-lins (fun i=>cj F a (i+1)) d+lins (fun i=>cj F a (i+1)) d:=by grind
  rw[this,e4];grind
 rw[e5]at e1
 exact congrArg (fun p=>p.c n) e1
theorem Per.root {a:K} {d:Nat} (h:Per F a d) (i:Nat):Ev (cj F a i) (lins (cj F a) d) 0:=by
 rw[cj_mod F h.eq]
 exact lins_root _ d _ (Nat.mod_lt i h.pos)
theorem Per.factor {a:K} {d e:Nat} {g:Ps K} (h:Per F a d) (hg:Mon e g) (he:1≤e) (hd:Dv g (lins (cj F a) d)): ∃i,i<d∧Ev (cj F a i) g 0:=by
 refine Classical.byContradiction fun hn=> ?_
 obtain⟨u,hu,e1⟩:=hd
 have hM:=lins_mon (cj F a) d
 obtain⟨c1,c2⟩:=hM.cof hg hu e1
 have:u=0:=roots0 ((List.range d).map (cj F a)) u (List.pairwise_map.2 ((List.nodup_range (n:=d)).imp_of_mem fun {i j} hi hj hne e=>hne (h.inj F (List.mem_range.1 hi) (List.mem_range.1 hj) e))) (by
  rw[List.length_map,List.length_range];exact c2.dg.mono (by omega)) (fun x hx=>by
  obtain⟨i,hi,rfl⟩:=List.mem_map.1 hx
  obtain⟨v,hv⟩:=Ev.ex hg.pol (cj F a i)
  obtain⟨w,hw⟩:=Ev.ex hu (cj F a i)
  have h1:=hv.mul hw
  rw[←e1]at h1
  have h2:=h1.uniq (h.root F i)
  have hne:v≠0:=fun e=>hn ⟨i,List.mem_range.1 hi,by rw[←e];exact hv⟩
  rw[mul_zero' h2 hne]at hw
  exact hw)
 exact hM.ne0 (by rw[e1,this];grind)
end
end La
end
section
set_option linter.unusedVariables false
set_option linter.unusedSimpArgs false
set_option linter.unusedSectionVars false
set_option maxRecDepth 100000
namespace Fd
open Go Fw Go.Proofs
section
open Lean.Grind La
variable {q : Int} (hq : isQ q)
include hq
theorem nc_v {i:Nat} (h:(i:Int)<Pl.lpf q):(nc i:KQ hq).1=(i:Int):=by
 have ok:=fld_ok hq
 have hp:=hq.prime.1
 have hle:(i:Int)<q:=by have:=(lpf_spec hq.1 hq.2.1).2.1;omega
 have hin:(fld q).In (i:Int):=(in_iff hq _).2 ⟨by omega,hle⟩
 rw[nc_val hq, ←Fm.Fld.num_dg' ok (Fm.Fld.nsm_in ok i 1), ←Fm.Fld.num_dg' ok hin]
 refine Fm.num_congr ((Fm.Fld.nsm_eqv ok 1 i).trans fun j hj=> ?_)
 show(fld q).p∣(i:Int)*(1/(fld q).p^j%(fld q).p)-(i:Int)/(fld q).p^j%(fld q).p
 have e:(fld q).p=Pl.lpf q:=rfl
 rw[e]
 cases j with
 |zero=>rw[Int.pow_zero,Int.ediv_one,Int.ediv_one,Int.emod_eq_of_lt (by omega) (by omega),Int.emod_eq_of_lt (by omega) h,Int.mul_one,Int.sub_self];exact Int.dvd_zero _
 |succ j=>
  have h1:Pl.lpf q≤Pl.lpf q^(j+1):=by
   have:=pow_mono hp (show 1≤j+1 by omega)
   rwa [show Pl.lpf q^1=Pl.lpf q by rw[Int.pow_succ,Int.pow_zero,Int.one_mul]]at this
  rw[Int.ediv_eq_zero_of_lt (by omega) (by omega),Int.ediv_eq_zero_of_lt (by omega) (by omega),Int.zero_emod,Int.mul_zero,Int.sub_self];exact Int.dvd_zero _
theorem FK_p:(((FK hq).p:Nat):Int)=Pl.lpf q:=hq.natp
theorem nc_vm (n:Nat):(nc n:KQ hq).1=(n:Int)%Pl.lpf q:=by
 have hp:=hq.prime.1
 have e:=FK_p hq
 have h:=Int.emod_lt_of_pos (n:Int) (show 0<Pl.lpf q by omega)
 rw[nc_mod (FK hq),nc_v hq (by rw[Int.natCast_emod,e];exact h),Int.natCast_emod,e]
theorem nc_kq {x:Int} (h0:0≤x) (h:x<Pl.lpf q):kq hq x=nc x.toNat:=KQ.ext (by
 have hle:=(lpf_spec hq.1 hq.2.1).2.1
 rw[kq_val hq ⟨h0,by omega⟩,nc_v hq (by omega)];omega)
theorem nc_injv (i j:Nat) (hi:i<(FK hq).p) (hj:j<(FK hq).p) (e:(nc i:KQ hq)=nc j):i=j:=by
 have h:=FK_p hq
 have:=congrArg KQ.v e
 rw[nc_v hq (by omega),nc_v hq (by omega)]at this
 omega
theorem fix_v {a:KQ hq} (h:cj (FK hq) a 1=a):a.1<Pl.lpf q∧a=nc a.1.toNat:=by
 obtain⟨i,hi,e⟩:=fixed (FK hq) (nc_injv hq) h
 have hp:=FK_p hq
 have hv:a.1=(i:Int):=by rw[e,nc_v hq (by omega)]
 refine⟨by omega, ?_⟩
 rw[hv,Int.toNat_natCast];exact e
theorem kq_cj {a:Int} (ha:Pl.inQ q a) (n:Nat):kq hq (Pl.pow q a (Pl.lpf q))=cj (FK hq) (kq hq a) 1:=by
 apply KQ.ext
 unfold cj
 rw[pow_val hq,Nat.pow_one,kq_val hq ha,kq_val hq (pow_inQ hq a _)];rfl
theorem conj_kq: ∀(n i:Nat) (a:Int),Pl.inQ q a→i<n→kq hq ((Pl.conj q n a).getD i 0)=cj (FK hq) (kq hq a) i
 |0,i,a,_,h=>by omega
 |n+1,0,a,ha,_=>(cj_0 (FK hq) _).symm
 |n+1,i+1,a,ha,h=>by
  show kq hq ((Pl.conj q n (Pl.pow q a (Pl.lpf q))).getD i 0)=_
  rw[conj_kq n i _ (pow_inQ hq a _) (by omega),kq_cj hq ha n,cj_cj,Nat.add_comm]
theorem sum_fold: ∀(l:List Int) (s:Int),(∀x∈l,Pl.inQ q x)→Pl.inQ q s→Pl.inQ q (l.foldl (Pl.add q) s)∧kq hq (l.foldl (Pl.add q) s)=kq hq s+sum l.length fun i=>kq hq (l.getD i 0)
 |[],s,_,hs=>⟨hs,by show kq hq s=kq hq s+0;grind⟩
 |a::l,s,h,hs=>by
  have ha:=h a List.mem_cons_self
  obtain⟨h1,h2⟩:=sum_fold l (Pl.add q s a) (fun x hx=>h x (List.mem_cons_of_mem _ hx)) (add_inQ hq _ _)
  refine⟨h1, ?_⟩
  show kq hq (l.foldl (Pl.add q) (Pl.add q s a))=_
  rw[h2,kq_add hq hs ha,List.length_cons,sum_shift]
  show _=kq hq s+(kq hq a+sum l.length fun i=>kq hq (l.getD i 0))
  grind
theorem prod_fold: ∀(l:List Int) (s:Int),(∀x∈l,Pl.inQ q x)→Pl.inQ q s→Pl.inQ q (l.foldl (Pl.mul q) s)∧kq hq (l.foldl (Pl.mul q) s)=kq hq s*La.prod l.length fun i=>kq hq (l.getD i 0)
 |[],s,_,hs=>⟨hs,by show kq hq s=kq hq s*1;grind⟩
 |a::l,s,h,hs=>by
  have ha:=h a List.mem_cons_self
  obtain⟨h1,h2⟩:=prod_fold l (Pl.mul q s a) (fun x hx=>h x (List.mem_cons_of_mem _ hx)) (mul_inQ hq _ _)
  refine⟨h1, ?_⟩
  show kq hq (l.foldl (Pl.mul q) (Pl.mul q s a))=_
  rw[h2,kq_mul hq hs ha,List.length_cons,prod_shift]
  show _=kq hq s*(kq hq a*La.prod l.length fun i=>kq hq (l.getD i 0))
  grind
theorem prod_congr {f g:Nat→KQ hq}: ∀n,(∀i,i<n→f i=g i)→La.prod n f=La.prod n g
 |0,_=>rfl
 |n+1,h=>by rw[La.prod,La.prod,prod_congr n (fun i hi=>h i (by omega)),h n (by omega)]
theorem cjs_K (a:Int):(Pl.cjs q a).length=(Pl.K q).toNat:=by unfold Pl.cjs;rw[conj_len]
theorem trace_kq {a:Int} (ha:Pl.inQ q a):Pl.inQ q (Pl.trace q a)∧kq hq (Pl.trace q a)=tr (FK hq) (kq hq a):=by
 obtain⟨h1,h2⟩:=sum_fold hq (Pl.cjs q a) 0 (cjs_in hq ha) (zero_inQ hq)
 refine⟨h1, ?_⟩
 unfold Pl.trace
 rw[h2,kq_0,cjs_K hq]
 have:(sum (Pl.K q).toNat fun i=>kq hq ((Pl.cjs q a).getD i 0))=tr (FK hq) (kq hq a):=sum_congr fun i hi=>conj_kq hq _ _ _ ha hi
 rw[this];grind
theorem norm_kq {a:Int} (ha:Pl.inQ q a):Pl.inQ q (Pl.norm q a)∧kq hq (Pl.norm q a)=nm (FK hq) (kq hq a):=by
 obtain⟨h1,h2⟩:=prod_fold hq (Pl.cjs q a) 1 (cjs_in hq ha) (one_inQ hq)
 refine⟨h1, ?_⟩
 unfold Pl.norm
 rw[h2,kq_1,cjs_K hq]
 have:(La.prod (Pl.K q).toNat fun i=>kq hq ((Pl.cjs q a).getD i 0))=nm (FK hq) (kq hq a):=prod_congr hq _ fun i hi=>conj_kq hq _ _ _ ha hi
 rw[this];grind
theorem num_of {x:Int} (hx:Pl.inQ q x) (h:cj (FK hq) (kq hq x) 1=kq hq x):x<Pl.lpf q∧kq hq x=nc x.toNat:=by
 have:=fix_v hq h
 rwa [kq_val hq hx]at this
theorem trace_num {a:Int} (ha:Pl.inQ q a):Pl.trace q a<Pl.lpf q∧kq hq (Pl.trace q a)=nc (Pl.trace q a).toNat:=by
 obtain⟨h1,h2⟩:=trace_kq hq ha
 exact num_of hq h1 (by rw[h2,tr_fix])
theorem norm_num' {a:Int} (ha:Pl.inQ q a):Pl.norm q a<Pl.lpf q∧kq hq (Pl.norm q a)=nc (Pl.norm q a).toNat:=by
 obtain⟨h1,h2⟩:=norm_kq hq ha
 exact num_of hq h1 (by rw[h2,nm_fix])
theorem trace_add {a b:Int} (ha:Pl.inQ q a) (hb:Pl.inQ q b):Pl.trace q (Pl.add q a b)=(Pl.trace q a+Pl.trace q b)%Pl.lpf q:=by
 obtain⟨a1,a2⟩:=trace_kq hq ha
 obtain⟨b1,b2⟩:=trace_kq hq hb
 obtain⟨c1,c2⟩:=trace_kq hq (add_inQ hq a b)
 have h:=congrArg KQ.v c2
 have ea:=(trace_num hq ha).2
 have eb:=(trace_num hq hb).2
 unfold Pl.inQ at a1 b1
 rw[kq_val hq c1,kq_add hq ha hb,tr_add, ←a2, ←b2,ea,eb, ←nc_add,nc_vm hq]at h
 rw[h]
 congr 1
 omega
theorem norm_mul {a b:Int} (ha:Pl.inQ q a) (hb:Pl.inQ q b):Pl.norm q (Pl.mul q a b)=(Pl.norm q a*Pl.norm q b)%Pl.lpf q:=by
 obtain⟨a1,a2⟩:=norm_kq hq ha
 obtain⟨b1,b2⟩:=norm_kq hq hb
 obtain⟨c1,c2⟩:=norm_kq hq (mul_inQ hq a b)
 have h:=congrArg KQ.v c2
 have ea:=(norm_num' hq ha).2
 have eb:=(norm_num' hq hb).2
 unfold Pl.inQ at a1 b1
 rw[kq_val hq c1,kq_mul hq ha hb,nm_mul, ←a2, ←b2,ea,eb, ←nc_mul,nc_vm hq]at h
 rw[h,Int.natCast_mul,Int.toNat_of_nonneg a1.1,Int.toNat_of_nonneg b1.1]
theorem psL_lin {c:Int} (hc:Pl.inQ q c):psL hq [Pl.neg q c,1]=lin (kq hq c):=by
 rw[psL_cons,psL_one]
 have e:kq hq (Pl.neg q c)=0-kq hq c:=by
  rw[←sub_zero_neg hq,kq_sub hq (zero_inQ hq) hc,kq_0]
 rw[e,C_sub,C_zero];unfold lin;grind
theorem minL_spec {a:Int} (ha:Pl.inQ q a): ∀(f i:Nat) (out:List Int),i+f=(Pl.K q).toNat→Pl.mon q out→out.length=i+1→psL hq out=lins (cj (FK hq) (kq hq a)) i→(∀j,1≤j→j<i→cj (FK hq) (kq hq a) j≠kq hq a)→
  ∃d,(1≤i∨1≤f→1≤d)∧d≤(Pl.K q).toNat∧Pl.mon q (Pl.minL q (Pl.cjs q a) a f i out)∧(Pl.minL q (Pl.cjs q a) a f i out).length=d+1∧psL hq (Pl.minL q (Pl.cjs q a) a f i out)=lins (cj (FK hq) (kq hq a)) d∧(∀j,1≤j→j<d→cj (FK hq) (kq hq a) j≠kq hq a)∧cj (FK hq) (kq hq a) d=kq hq a
 |0,i,out,h,hm,hl,hp,hn=>⟨i,fun h=>by omega,by omega,hm,hl,hp,hn,by rw[show i=(Pl.K q).toNat by omega];exact cj_k (FK hq) _⟩
 |f+1,i,out,h,hm,hl,hp,hn=>by
  rw[Pl.minL]
  have hlt:i<(Pl.cjs q a).length:=by rw[cjs_K hq];omega
  have hc:kq hq ((Pl.cjs q a).getD i 0)=cj (FK hq) (kq hq a) i:=conj_kq hq _ _ _ ha (by omega)
  have hcin:Pl.inQ q ((Pl.cjs q a).getD i 0):=getD_inQ (cjs_in hq ha) hlt
  by_cases hgo:i=0∨(Pl.cjs q a).getD i 0≠a
  ·have hb:(decide (i<(Pl.cjs q a).length)&&(decide (i=0)||decide ((Pl.cjs q a).getD i 0≠a)))=true:=by
    rw[_root_.decide_eq_true hlt,Bool.true_and]
    rcases hgo with h1|h1
    ·rw[_root_.decide_eq_true h1];rfl
    ·rw[_root_.decide_eq_true h1,Bool.or_true]
   rw[hb,cond_true]
   obtain⟨m1,m2⟩:=prod_mon hq (c:=Pl.neg q ((Pl.cjs q a).getD i 0)) hm
   have hpn: ∀x∈[Pl.neg q ((Pl.cjs q a).getD i 0),1],Pl.inQ q x:=fun x hx=>by
    rcases List.mem_cons.1 hx with rfl|hx
    ·exact neg_inQ hq _
    ·rw[List.mem_singleton.1 hx];exact one_inQ hq
   obtain⟨d,d1,d2⟩:=minL_spec ha f (i+1) _ (by omega) m1 (by omega) (by rw[psL_prod hq hm.2.2 hpn,hp,psL_lin hq hcin,hc];rfl) (fun j j1 j2=>by
    by_cases e:j=i
    ·subst e
     rcases hgo with h1|h1
     ·omega
     ·intro e2
      rw[←hc]at e2
      exact h1 (kq_inj hq hcin ha e2)
    ·exact hn j j1 (by omega))
   exact⟨d,fun _=>d1 (.inl (by omega)),d2⟩
  ·have h1:i≠0:=fun e=>hgo (.inl e)
   have h2:(Pl.cjs q a).getD i 0=a:=Classical.byContradiction fun e=>hgo (.inr e)
   have hb:(decide (i<(Pl.cjs q a).length)&&(decide (i=0)||decide ((Pl.cjs q a).getD i 0≠a)))=false:=by
    rw[_root_.decide_eq_false h1,show decide ((Pl.cjs q a).getD i 0≠a)=false from _root_.decide_eq_false (fun h=>h h2),Bool.or_false,Bool.and_false]
   rw[hb,cond_false]
   exact⟨i,fun _=>by omega,by omega,hm,hl,hp,hn,by rw[←hc,h2]⟩
theorem minP_spec {a:Int} (ha:Pl.inQ q a): ∃d,Per (FK hq) (kq hq a) d∧Pl.mon q (Pl.minP q a)∧(Pl.minP q a).length=d+1∧psL hq (Pl.minP q a)=lins (cj (FK hq) (kq hq a)) d:=by
 have hk:=hq.2.2
 obtain⟨d,d1,d2,d3,d4,d5,d6,d7⟩:=minL_spec hq ha (Pl.cjs q a).length 0 [1] (by rw[cjs_K hq];omega) (mon_one hq) rfl (psL_one hq) (fun j j1 j2=>by omega)
 exact⟨d,⟨d1 (.inr (by rw[cjs_K hq];omega)),d2,d7,d6⟩,d3,d4,d5⟩
theorem lpf_Q:isQ (Pl.lpf q)∧Pl.lpf (Pl.lpf q)=Pl.lpf q:=by
 have hp:=hq.prime
 have h6:=hq.p6
 have hs:=lpf_spec hp.1 h6
 have e:Pl.lpf (Pl.lpf q)=Pl.lpf q:=hp.eq_of_dvd hs.1 hs.2.2.1
 refine⟨⟨hp.1,h6, ?_⟩,e⟩
 rcases K_spec hp.1 h6 with⟨_,m,h1,h2,h3⟩|⟨h1,_⟩
 ·exact absurd (by rw[e,hp.eq_of_dvd (by omega) h1];exact Int.dvd_refl _) h3
 ·exact h1
end
section
open Lean.Grind La
variable {q : Int} (hq : isQ q) (hp : isQ (Pl.lpf q)) (he : Pl.lpf (Pl.lpf q) = Pl.lpf q)
include hq hp he
def emb (x:KQ hp):KQ hq:=kq hq x.1
theorem emb_nc (n:Nat):emb hq hp (nc n)=nc n:=by
 have h1:=nc_vm hp n
 rw[he]at h1
 apply KQ.ext
 rw[nc_vm hq n]
 unfold emb
 rw[h1]
 have h2:=hq.prime.1
 have h3:=Int.emod_lt_of_pos (n:Int) (show 0<Pl.lpf q by omega)
 have h4:=Int.emod_nonneg (n:Int) (show Pl.lpf q≠0 by omega)
 have h5:=(lpf_spec hq.1 hq.2.1).2.1
 exact kq_val hq ⟨h4,by omega⟩
theorem all_nc (x:KQ hp):x=nc x.1.toNat:=by
 obtain⟨h1,h2⟩:=x.2
 have:=nc_kq hp h1 (by rw[he];exact h2)
 rw[kq_of hp]at this
 exact this
theorem emb_hom:Hom (KQ hq) (emb hq hp) where
 one:=by
  have:=emb_nc hq hp he 1
  rwa [natCast1,natCast1]at this
 add a b:=by
  rw[all_nc hq hp he a,all_nc hq hp he b, ←nc_add,emb_nc hq hp he,emb_nc hq hp he,emb_nc hq hp he,nc_add]
 mul a b:=by
  rw[all_nc hq hp he a,all_nc hq hp he b, ←nc_mul,emb_nc hq hp he,emb_nc hq hp he,emb_nc hq hp he,nc_mul]
theorem emb_psL {l:List Int} (hl: ∀x∈l,Pl.inQ (Pl.lpf q) x):mp (emb hq hp) (psL hp l)=psL hq l:=Ps.ext fun n=>by
 show kq hq (kq hp (l.getD n 0)).1=kq hq (l.getD n 0)
 rw[kq_val hp (getQ hp hl n)]
theorem minP_in {a:Int} (ha:Pl.inQ q a): ∀x∈Pl.minP q a,Pl.inQ (Pl.lpf q) x:=fun x hx=>by
 obtain⟨d,hd,hm,hl,hps⟩:=minP_spec hq ha
 obtain⟨i,hi,rfl⟩:=List.getElem_of_mem hx
 have h1:=hm.2.2 _ hx
 have h2:=hd.fix (FK hq) i
 rw[←hps,psL_c,List.getD_eq_getElem?_getD,List.getElem?_eq_getElem hi]at h2
 exact⟨h1.1,(num_of hq h1 h2).1⟩
theorem minP_pol {a:Int} (ha:Pl.inQ q a):Pl.pol (Pl.lpf q) (Pl.minP q a)∧(Pl.minP q a).length≤18:=by
 obtain⟨d,hd,hm,hl,hps⟩:=minP_spec hq ha
 have h1:d≤(Pl.K q).toNat:=hd.le
 have h2:=isQ.K64 hq
 refine⟨⟨minP_in hq hp he ha,by omega,fun _=> ?_⟩,by omega⟩
 unfold Pl.top
 rw[hm.2.1];decide
theorem minP_irr {a:Int} (ha:Pl.inQ q a):Pl.irA (Pl.lpf q) (Pl.minP q a)=true:=by
 obtain⟨d,hd,hm,hl,hps⟩:=minP_spec hq ha
 obtain⟨hpol,hlen⟩:=minP_pol hq hp he ha
 have hd1:=hd.pos
 have hdk:d≤(FK hq).k:=hd.le
 rw[irA_irR hp hpol (by omega),irR_iff hp hpol (by omega) (by omega)]
 intro e1 d1 d2 e g hg h1 h2
 refine Classical.byContradiction fun hne=> ?_
 have H:=emb_hom hq hp he
 have h3:=H.mpdv h1
 rw[emb_psL hq hp he hpol.1,hps]at h3
 obtain⟨i,hi,hr⟩:=hd.factor (FK hq) (H.mpmon hg) (by omega) h3
 have h4:=H.mpdv h2
 unfold La.hq at h4
 rw[H.mpsub,H.mppow,H.mpx,FK_q hp]at h4
 obtain⟨u,hu,e2⟩:=h4
 obtain⟨w,hw⟩:=Ev.ex hu (cj (FK hq) (kq hq a) i)
 have h5:=hr.mul hw
 rw[←e2]at h5
 have h6:=h5.uniq (Ev.Xq (cj (FK hq) (kq hq a) i) ((Pl.lpf q).toNat^e1))
 have h7:cj (FK hq) (cj (FK hq) (kq hq a) i) e1=cj (FK hq) (kq hq a) i:=by
  show(cj (FK hq) (kq hq a) i)^((Pl.lpf q).toNat^e1)=_
  grind
 rw[cj_cj,Nat.add_comm, ←cj_cj]at h7
 exact hd.min e1 d1 (by omega) (cj_inj (FK hq) (j:=i) (by omega) h7)
end
end Fd
end
section
set_option linter.unusedVariables false
set_option linter.unusedSimpArgs false
set_option linter.unusedSectionVars false
set_option maxRecDepth 100000
namespace Fd
open Go Fw Go.Proofs
theorem vc16: ∀x,C16.pre x→VC T16 H16 Try.f16 C16 x:=by
 rintro⟨(o:Int),(a:Int),(b:Int),⟨⟩⟩-
 refine cast (α:=True∧Pl.okF (D.rptr (fieldC (Pl.someQ o (2000:Int))))∧Pl.okr (Pl.someQ o (2000:Int),Pl.lpf (Pl.someQ o (2000:Int)),Pl.K (Pl.someQ o (2000:Int)),Pl.Mod (Pl.someQ o (2000:Int)),())∧Pl.okr (Pl.someQ o (2000:Int),Pl.lpf (Pl.someQ o (2000:Int)),Pl.K (Pl.someQ o (2000:Int)),Pl.Mod (Pl.someQ o (2000:Int)),())∧Pl.okF (D.rptr (fieldC (Pl.someQ o (2000:Int))))∧Pl.okF (D.rptr (fieldC (Pl.someQ o (2000:Int))))∧Pl.okF (D.rptr (fieldC (Pl.someQ o (2000:Int))))∧Pl.okF (D.rptr (fieldC (Pl.someQ o (2000:Int))))∧Br (decide (Pl.trace (Pl.qF (D.rptr (fieldC (Pl.someQ o (2000:Int))))) (a%Pl.someQ o (2000:Int)%Pl.qF (D.rptr (fieldC (Pl.someQ o (2000:Int)))))<(0:Int))) ((false,())=C16.post (o,a,b,())) (Br (decide (Pl.trace (Pl.qF (D.rptr (fieldC (Pl.someQ o (2000:Int))))) (a%Pl.someQ o (2000:Int)%Pl.qF (D.rptr (fieldC (Pl.someQ o (2000:Int)))))≥Pl.lpf (Pl.qF (D.rptr (fieldC (Pl.someQ o (2000:Int))))))) ((false,())=C16.post (o,a,b,())) (Br (decide (Pl.norm (Pl.qF (D.rptr (fieldC (Pl.someQ o (2000:Int))))) (a%Pl.someQ o (2000:Int)%Pl.qF (D.rptr (fieldC (Pl.someQ o (2000:Int)))))<(0:Int))) ((false,())=C16.post (o,a,b,())) (Br (decide (Pl.norm (Pl.qF (D.rptr (fieldC (Pl.someQ o (2000:Int))))) (a%Pl.someQ o (2000:Int)%Pl.qF (D.rptr (fieldC (Pl.someQ o (2000:Int)))))≥Pl.lpf (Pl.qF (D.rptr (fieldC (Pl.someQ o (2000:Int))))))) ((false,())=C16.post (o,a,b,())) (Pl.okF (D.rptr (fieldC (Pl.someQ o (2000:Int))))∧Pl.okF (D.rptr (fieldC (Pl.someQ o (2000:Int))))∧Pl.lpf (Pl.qF (D.rptr (fieldC (Pl.someQ o (2000:Int)))))≠(0:Int)∧Br (Pl.trace (Pl.qF (D.rptr (fieldC (Pl.someQ o (2000:Int))))) (Pl.add (Pl.qF (D.rptr (fieldC (Pl.someQ o (2000:Int))))) (a%Pl.someQ o (2000:Int)%Pl.qF (D.rptr (fieldC (Pl.someQ o (2000:Int))))) (b%Pl.someQ o (2000:Int)%Pl.qF (D.rptr (fieldC (Pl.someQ o (2000:Int)))))%Pl.qF (D.rptr (fieldC (Pl.someQ o (2000:Int))))) !=(IntKind.i64.wrap (Pl.trace (Pl.qF (D.rptr (fieldC (Pl.someQ o (2000:Int))))) (a%Pl.someQ o (2000:Int)%Pl.qF (D.rptr (fieldC (Pl.someQ o (2000:Int)))))+Pl.trace (Pl.qF (D.rptr (fieldC (Pl.someQ o (2000:Int))))) (b%Pl.someQ o (2000:Int)%Pl.qF (D.rptr (fieldC (Pl.someQ o (2000:Int))))))).tmod (Pl.lpf (Pl.qF (D.rptr (fieldC (Pl.someQ o (2000:Int))))))) ((false,())=C16.post (o,a,b,())) (Pl.okF (D.rptr (fieldC (Pl.someQ o (2000:Int))))∧Pl.okF (D.rptr (fieldC (Pl.someQ o (2000:Int))))∧Pl.lpf (Pl.qF (D.rptr (fieldC (Pl.someQ o (2000:Int)))))≠(0:Int)∧Br (Pl.norm (Pl.qF (D.rptr (fieldC (Pl.someQ o (2000:Int))))) (Pl.mul (Pl.qF (D.rptr (fieldC (Pl.someQ o (2000:Int))))) (a%Pl.someQ o (2000:Int)%Pl.qF (D.rptr (fieldC (Pl.someQ o (2000:Int))))) (b%Pl.someQ o (2000:Int)%Pl.qF (D.rptr (fieldC (Pl.someQ o (2000:Int)))))%Pl.qF (D.rptr (fieldC (Pl.someQ o (2000:Int))))) !=(IntKind.i64.wrap (Pl.norm (Pl.qF (D.rptr (fieldC (Pl.someQ o (2000:Int))))) (a%Pl.someQ o (2000:Int)%Pl.qF (D.rptr (fieldC (Pl.someQ o (2000:Int)))))*Pl.norm (Pl.qF (D.rptr (fieldC (Pl.someQ o (2000:Int))))) (b%Pl.someQ o (2000:Int)%Pl.qF (D.rptr (fieldC (Pl.someQ o (2000:Int))))))).tmod (Pl.lpf (Pl.qF (D.rptr (fieldC (Pl.someQ o (2000:Int))))))) ((false,())=C16.post (o,a,b,())) (Pl.okF (D.rptr (fieldC (Pl.someQ o (2000:Int))))∧Br (decide ((↑(Pl.minP (Pl.qF (D.rptr (fieldC (Pl.someQ o (2000:Int))))) (a%Pl.someQ o (2000:Int)%Pl.qF (D.rptr (fieldC (Pl.someQ o (2000:Int)))))).length:Int)<(2:Int))) ((false,())=C16.post (o,a,b,())) ((0:Int)≤IntKind.i64.wrap ((↑(Pl.minP (Pl.qF (D.rptr (fieldC (Pl.someQ o (2000:Int))))) (a%Pl.someQ o (2000:Int)%Pl.qF (D.rptr (fieldC (Pl.someQ o (2000:Int)))))).length:Int)-(1:Int))∧IntKind.i64.wrap ((↑(Pl.minP (Pl.qF (D.rptr (fieldC (Pl.someQ o (2000:Int))))) (a%Pl.someQ o (2000:Int)%Pl.qF (D.rptr (fieldC (Pl.someQ o (2000:Int)))))).length:Int)-(1:Int))<(↑(Pl.minP (Pl.qF (D.rptr (fieldC (Pl.someQ o (2000:Int))))) (a%Pl.someQ o (2000:Int)%Pl.qF (D.rptr (fieldC (Pl.someQ o (2000:Int)))))).length:Int)∧Br (rd i64 (Pl.minP (Pl.qF (D.rptr (fieldC (Pl.someQ o (2000:Int))))) (a%Pl.someQ o (2000:Int)%Pl.qF (D.rptr (fieldC (Pl.someQ o (2000:Int)))))) (IntKind.i64.wrap ((↑(Pl.minP (Pl.qF (D.rptr (fieldC (Pl.someQ o (2000:Int))))) (a%Pl.someQ o (2000:Int)%Pl.qF (D.rptr (fieldC (Pl.someQ o (2000:Int)))))).length:Int)-(1:Int))) !=(1:Int)) ((false,())=C16.post (o,a,b,())) (IntKind.i64.wrap ((↑(Pl.minP (Pl.qF (D.rptr (fieldC (Pl.someQ o (2000:Int))))) (a%Pl.someQ o (2000:Int)%Pl.qF (D.rptr (fieldC (Pl.someQ o (2000:Int)))))).length:Int)-(1:Int))≠(0:Int)∧Br ((Pl.K (Pl.qF (D.rptr (fieldC (Pl.someQ o (2000:Int)))))).tmod (IntKind.i64.wrap ((↑(Pl.minP (Pl.qF (D.rptr (fieldC (Pl.someQ o (2000:Int))))) (a%Pl.someQ o (2000:Int)%Pl.qF (D.rptr (fieldC (Pl.someQ o (2000:Int)))))).length:Int)-(1:Int))) !=(0:Int)) ((false,())=C16.post (o,a,b,())) (((2:Int)≤Pl.lpf (Pl.qF (D.rptr (fieldC (Pl.someQ o (2000:Int)))))∧Pl.lpf (Pl.qF (D.rptr (fieldC (Pl.someQ o (2000:Int)))))≤(65536:Int)∧(1:Int)≤Pl.K (Pl.lpf (Pl.qF (D.rptr (fieldC (Pl.someQ o (2000:Int)))))))∧(Pl.okF (D.rptr (fieldC (Pl.lpf (Pl.qF (D.rptr (fieldC (Pl.someQ o (2000:Int))))))))∧Pl.chk (Pl.qF (D.rptr (fieldC (Pl.lpf (Pl.qF (D.rptr (fieldC (Pl.someQ o (2000:Int))))))))) (Pl.minP (Pl.qF (D.rptr (fieldC (Pl.someQ o (2000:Int))))) (a%Pl.someQ o (2000:Int)%Pl.qF (D.rptr (fieldC (Pl.someQ o (2000:Int))))))=(0:Int))∧Br (!Pl.irA (Pl.qF (D.rptr (fieldC (Pl.lpf (Pl.qF (D.rptr (fieldC (Pl.someQ o (2000:Int))))))))) (Pl.minP (Pl.qF (D.rptr (fieldC (Pl.someQ o (2000:Int))))) (a%Pl.someQ o (2000:Int)%Pl.qF (D.rptr (fieldC (Pl.someQ o (2000:Int))))))) ((false,())=C16.post (o,a,b,())) (∃(n:Nat),itl (fun(G:Int×Int×PUnit→Prop) (x:Int×Int×PUnit)=>Br (decide (x.2.1<Pl.K (Pl.qF (D.rptr (fieldC (Pl.someQ o (2000:Int))))))) ((Pl.okF (D.rptr (fieldC (Pl.someQ o (2000:Int))))∧Pl.chk (Pl.qF (D.rptr (fieldC (Pl.someQ o (2000:Int))))) (Pl.minP (Pl.qF (D.rptr (fieldC (Pl.someQ o (2000:Int))))) (a%Pl.someQ o (2000:Int)%Pl.qF (D.rptr (fieldC (Pl.someQ o (2000:Int))))))=(0:Int))∧Pl.okF (D.rptr (fieldC (Pl.someQ o (2000:Int))))∧Br ((Pl.powV (Pl.qF (D.rptr (fieldC (Pl.someQ o (2000:Int))))) (x.1%Pl.qF (D.rptr (fieldC (Pl.someQ o (2000:Int))))) (Pl.lpf (Pl.qF (D.rptr (fieldC (Pl.someQ o (2000:Int))))))).2 !=(0:Int)) ((false,())=C16.post (o,a,b,())) (Br (Pl.val (Pl.qF (D.rptr (fieldC (Pl.someQ o (2000:Int))))) (Pl.minP (Pl.qF (D.rptr (fieldC (Pl.someQ o (2000:Int))))) (a%Pl.someQ o (2000:Int)%Pl.qF (D.rptr (fieldC (Pl.someQ o (2000:Int)))))) (x.1%Pl.qF (D.rptr (fieldC (Pl.someQ o (2000:Int))))) !=(0:Int)) ((false,())=C16.post (o,a,b,())) (G ((Pl.powV (Pl.qF (D.rptr (fieldC (Pl.someQ o (2000:Int))))) (x.1%Pl.qF (D.rptr (fieldC (Pl.someQ o (2000:Int))))) (Pl.lpf (Pl.qF (D.rptr (fieldC (Pl.someQ o (2000:Int))))))).1,IntKind.i64.wrap (x.2.1+(1:Int)),())))) (Br (x.1==a%Pl.someQ o (2000:Int)) (True∧(true,())=C16.post (o,a,b,())) ((false,())=C16.post (o,a,b,())))) n (a%Pl.someQ o (2000:Int),(0:Int),())))))))))))) (by kernel_rfl) ?_
 have hq:=someQ_isQ o 2000
 generalize Pl.someQ o 2000=q at*
 rw[qF_f,qF_f]
 have hr:Pl.okr (q,Pl.lpf q,Pl.K q,Pl.Mod q,()):=okr_RF hq
 have oF:=okF_f hq
 have hpo:C16.post (o,a,b,())=(true,()):=rfl
 rw[hpo]
 obtain⟨hp,he⟩:=lpf_Q hq
 have ha:=emod_inQ hq a
 have hb:=emod_inQ hq b
 generalize a%q=A at*
 generalize b%q=B at*
 have em: ∀ {x:Int},Pl.inQ q x→x%q=x:=fun h=>Int.emod_eq_of_lt h.1 h.2
 rw[em ha,em hb,em (add_inQ hq A B),em (mul_inQ hq A B)]
 have p2:=hq.prime.1
 have p6:=hq.p6
 have tA:=trace_kq hq ha
 have tB:=trace_kq hq hb
 have nA:=norm_kq hq ha
 have nB:=norm_kq hq hb
 have tA':=(trace_num hq ha).1
 have tB':=(trace_num hq hb).1
 have nA':=(norm_num' hq ha).1
 have nB':=(norm_num' hq hb).1
 have tA0:=tA.1.1
 have tB0:=tB.1.1
 have nA0:=nA.1.1
 have nB0:=nB.1.1
 have nn:Pl.norm q A*Pl.norm q B≤4294967296:=(mul_small p6 nA0 nA' nB0 nB').2
 have nn0:0≤Pl.norm q A*Pl.norm q B:=Int.mul_nonneg nA0 nB0
 rw[trace_add hq ha hb,norm_mul hq ha hb,wrap_i64 (x:=Pl.trace q A+Pl.trace q B) (by omega) (by omega),wrap_i64 (x:=Pl.norm q A*Pl.norm q B) (by omega) (by omega),Int.tmod_eq_emod_of_nonneg (by omega),Int.tmod_eq_emod_of_nonneg nn0]
 obtain⟨d,hd,hm,hl,hps⟩:=minP_spec hq ha
 obtain⟨hpol,hlen⟩:=minP_pol hq hp he ha
 have hirr:=minP_irr hq hp he ha
 have hdv:d∣(Pl.K q).toNat:=hd.dvd
 have d1:=hd.pos
 have k1:=hq.2.2
 have k17:=isQ.K64 hq
 have hpolq:Pl.pol q (Pl.minP q A):=⟨hm.2.2,by omega,fun _=>by unfold Pl.top;rw[hm.2.1];decide⟩
 have hcp:Pl.chk (Pl.lpf q) (Pl.minP q A)=0:=pol_chk hpol (by omega)
 have hcq:Pl.chk q (Pl.minP q A)=0:=pol_chk hpolq (by omega)
 have hval: ∀(x:Int) (i:Nat),Pl.inQ q x→kq hq x=La.cj (FK hq) (kq hq A) i→Pl.val q (Pl.minP q A) x=0:=fun x i hx e=>by
  have h1:=ev_val hq hm.2.2 hx
  rw[e,hps]at h1
  have h2:=h1.uniq (hd.root (FK hq) i)
  exact kq_inj hq (val_in hq _ _) (zero_inQ hq) (by rw[h2,kq_0])
 rw[hirr]
 have htop:(Pl.minP q A).getD d 0=1:=by have:=hm.2.1;rwa [hl]at this
 generalize Pl.minP q A=M at*
 rw[hl,wrap_i64 (x:=((d+1:Nat):Int)-1) (by omega) (by omega),show((d+1:Nat):Int)-1=(d:Int)by omega,rd_i,htop]
 have ek:(Pl.K q).tmod (d:Int)=0:=by
  rw[Int.tmod_eq_emod_of_nonneg (by omega)]
  have:(d:Int)∣Pl.K q:=by
   have:=Int.natCast_dvd_natCast.2 hdv
   rwa [Int.toNat_of_nonneg (by omega)]at this
  exact Int.emod_eq_zero_of_dvd this
 rw[ek]
 have no: ∀ {b:Bool} {X Y:Prop},b=false→Y→Br b X Y:=fun h y=>by subst h;exact y
 have nd: ∀ {p:Prop} [Decidable p] {X Y:Prop}, ¬p→Y→Br (decide p) X Y:=fun h y=>no (decide_eq_false h) y
 refine⟨trivial,oF,hr,hr,oF,oF,oF,oF,nd (by omega) (nd (by omega) (nd (by omega) (nd (by omega) ⟨oF,oF,by omega,no (bne_self_eq_false _) ⟨oF,oF,by omega,no (bne_self_eq_false _) ⟨oF,nd (by omega) ⟨by omega,by omega,no rfl ⟨by omega,no rfl ⟨hp,⟨okF_f hp,hcp⟩,no rfl ?_⟩⟩⟩⟩⟩⟩)))⟩
 refine itl_rule (fun s=> ∃i:Nat,s.2.1=(i:Int)∧i≤(Pl.K q).toNat∧Pl.inQ q s.1∧kq hq s.1=La.cj (FK hq) (kq hq A) i) (fun s=>(Pl.K q-s.2.1).toNat) ⟨0,rfl,Nat.zero_le _,ha,(La.cj_0 (FK hq) _).symm⟩ ?_
 rintro⟨x,i0,⟨⟩⟩ G ⟨i,e,hi,hx,hc⟩ hG
 simp only at e hx hc hG⊢
 subst e
 rw[em hx,hval x i hx hc]
 have hpw:Pl.powV q x (Pl.lpf q)=((fld q).pow x (Pl.lpf q).toNat,0):=by
  have:=powV_p hq hx (n:=(Pl.lpf q).toNat) (by omega)
  rwa [Int.toNat_of_nonneg (by omega)]at this
 rw[hpw]
 refine Br_of (fun h=> ?_) (fun h=> ?_)
 ·have h:=of_decide_eq_true h
  rw[wrap_i64 (by omega) (by omega)]
  refine⟨⟨oF,hcq⟩,oF,no rfl (no rfl (hG _ ⟨i+1,rfl,by omega,pow_inQ hq x (Pl.lpf q), ?_⟩ (by simp only;omega)))⟩
  have:=kq_cj hq hx 0
  rw[hc,La.cj_cj]at this
  exact this
 ·have h:=of_decide_eq_false h
  have hik:i=(Pl.K q).toNat:=by omega
  subst hik
  have hxA:x=A:=kq_inj hq hx ha (by rw[hc];exact La.cj_k (FK hq) _)
  subst hxA
  exact Br_of (fun _=>⟨trivial,trivial⟩) (fun h=>by simp at h)
theorem snd16:Sound Try.prog 16 C16:=fn_sound (T:=T16) (fn:=Try.f16) (tok0 ⟨snd19,snd51,snd29,snd55,snd57,snd30,snd34,snd59,snd78q,snd74v,snd65v,snd38,snd24,trivial⟩) Try.func16 (by kernel_rfl) H16 vc16 (by kernel_rfl)
end Fd
end
