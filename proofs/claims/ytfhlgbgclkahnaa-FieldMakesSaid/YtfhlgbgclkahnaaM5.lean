import Derived.Test.YtfhlgbgclkahnaaM4
section
set_option linter.unusedVariables false
set_option linter.unusedSimpArgs false
set_option maxRecDepth 100000
namespace Fd
open Go Fw Go.Proofs

theorem recS_eq {q:Int} (hq:isQ q) (m:List (List Int)):Pl.ech (Pl.qA (D.iface (Pl.tyA q) (Pl.datA q))) (2*m.length-1) (2*m.length) (Pl.recX m m.length,Pl.recO m.length)=Pl.recS q m:=by
 rw[show Pl.qA (D.iface (Pl.tyA q) (Pl.datA q))=q from qA_ar hq];rfl
theorem rowsD_eq (q:Int) (m:List (List Int)):List.map (mrow (Pl.recS q m).1.1) (mrow (Pl.recS q m).1.2 (2*m.length))=Pl.echD q m:=rfl
theorem den_sys {q:Int} {m:List (List Int)} {b:List Int} (h:Pl.sys q m b=0):Pl.shape q m=0∧b.length=m.length∧ ∀x∈b,Pl.inQ q x:=by
 unfold Pl.sys at h
 by_cases h1:Pl.shape q m=0
 ·rw[decide_eq_false (not_not_intro h1),cond_false]at h
  by_cases h2:b.length=m.length
  ·rw[decide_eq_false (not_not_intro h2),cond_false]at h
   cases h3:Pl.els q b with
   |false=>rw[h3]at h;simp at h
   |true=>exact⟨h1,h2,els_in h3⟩
  ·rw[decide_eq_true h2]at h;simp at h
 ·rw[decide_eq_true h1,cond_true]at h;exact absurd h h1
theorem sub_drop {α:Type} (l:List α) (k:Nat):sub l (k:Int) (l.length:Int)=l.drop k:=by
 unfold sub
 simp
theorem solL_nil (q:Int) (b:List Int) (rs:List (List Int)) (x:List Int):Pl.solL q b [] rs x=x:=by
 cases rs<;>rfl
theorem rd_rr (m:List (List Int)) (i:Nat):rd i64.slc m (i:Int)=m.getD i []:=rfl
theorem vc101s: ∀x,C101s.pre x→VC T101 H101 Try.f101 C101s x:=by
 rintro⟨v,(m:List (List Int)),(b:List Int),⟨⟩⟩ ⟨⟨⟨q,hq,(rfl:v=_)⟩,(hm:Pl.okMM m),(hb:b.length≤1000000000)⟩,(hs:Pl.sys (Pl.qF (fieldD q)) m b=0),(hd:Pl.den (Pl.qF (fieldD q)) m b=none)⟩
 rw[qF_d]at hs hd
 obtain⟨s1,s2,s3⟩:=den_sys hs
 obtain⟨p1,p2,F⟩:=pre_new hq s1
 obtain⟨c1,c2⟩:=cst_row (Pl.recS q m).2
 have hp:C101s.post (fieldD q,m,b,())=(Pl.sol q m b, .val (.slice none 0 0),()):=rfl
 refine cast (α:=Pl.okMx m∧(Pl.preE (Pl.tyA q) (Pl.tyA q) (Pl.datA q) (Pl.datA q) ((2:Nat)*m.length-(1:Nat)) ((2:Nat)*m.length) (Pl.recX m m.length) (Pl.recO m.length)∧([]:List (Option (List Int)))=[])∧mal (Pl.ech (Pl.qA (D.iface (Pl.tyA q) (Pl.datA q))) ((2:Nat)*m.length-(1:Nat)) ((2:Nat)*m.length) (Pl.recX m m.length,Pl.recO m.length)).1.2 ((2:Nat)*m.length-(1:Nat))∧(∀(i:(Ty.ref (0:Nat)).El),i∈mrow (Pl.ech (Pl.qA (D.iface (Pl.tyA q) (Pl.datA q))) ((2:Nat)*m.length-(1:Nat)) ((2:Nat)*m.length) (Pl.recX m m.length,Pl.recO m.length)).1.2 ((2:Nat)*m.length-(1:Nat))→mal (Pl.ech (Pl.qA (D.iface (Pl.tyA q) (Pl.datA q))) ((2:Nat)*m.length-(1:Nat)) ((2:Nat)*m.length) (Pl.recX m m.length,Pl.recO m.length)).1.1 i)∧mal (Pl.ech (Pl.qA (D.iface (Pl.tyA q) (Pl.datA q))) ((2:Nat)*m.length-(1:Nat)) ((2:Nat)*m.length) (Pl.recX m m.length,Pl.recO m.length)).1.2 ((2:Nat)*m.length)∧(∀(i:(Ty.ref (0:Nat)).El),i∈mrow (Pl.ech (Pl.qA (D.iface (Pl.tyA q) (Pl.datA q))) ((2:Nat)*m.length-(1:Nat)) ((2:Nat)*m.length) (Pl.recX m m.length,Pl.recO m.length)).1.2 ((2:Nat)*m.length)→mal (Pl.ech (Pl.qA (D.iface (Pl.tyA q) (Pl.datA q))) ((2:Nat)*m.length-(1:Nat)) ((2:Nat)*m.length) (Pl.recX m m.length,Pl.recO m.length)).1.1 i)∧mal (Pl.cst (Pl.ech (Pl.qA (D.iface (Pl.tyA q) (Pl.datA q))) ((2:Nat)*m.length-(1:Nat)) ((2:Nat)*m.length) (Pl.recX m m.length,Pl.recO m.length)).2) (Pl.ech (Pl.qA (D.iface (Pl.tyA q) (Pl.datA q))) ((2:Nat)*m.length-(1:Nat)) ((2:Nat)*m.length) (Pl.recX m m.length,Pl.recO m.length)).2.length∧(0:Int)≤(↑(mrow (Pl.cst (Pl.ech (Pl.qA (D.iface (Pl.tyA q) (Pl.datA q))) ((2:Nat)*m.length-(1:Nat)) ((2:Nat)*m.length) (Pl.recX m m.length,Pl.recO m.length)).2) (Pl.ech (Pl.qA (D.iface (Pl.tyA q) (Pl.datA q))) ((2:Nat)*m.length-(1:Nat)) ((2:Nat)*m.length) (Pl.recX m m.length,Pl.recO m.length)).2.length).length:Int)∧(↑(mrow (Pl.cst (Pl.ech (Pl.qA (D.iface (Pl.tyA q) (Pl.datA q))) ((2:Nat)*m.length-(1:Nat)) ((2:Nat)*m.length) (Pl.recX m m.length,Pl.recO m.length)).2) (Pl.ech (Pl.qA (D.iface (Pl.tyA q) (Pl.datA q))) ((2:Nat)*m.length-(1:Nat)) ((2:Nat)*m.length) (Pl.recX m m.length,Pl.recO m.length)).2.length).length:Int)≤(↑(List.map (mrow (Pl.ech (Pl.qA (D.iface (Pl.tyA q) (Pl.datA q))) ((2:Nat)*m.length-(1:Nat)) ((2:Nat)*m.length) (Pl.recX m m.length,Pl.recO m.length)).1.1) (mrow (Pl.ech (Pl.qA (D.iface (Pl.tyA q) (Pl.datA q))) ((2:Nat)*m.length-(1:Nat)) ((2:Nat)*m.length) (Pl.recX m m.length,Pl.recO m.length)).1.2 ((2:Nat)*m.length))).length:Int)∧ ∃(n:Nat),itl (fun(G:List Int×Int×List (Option (List Int))×PUnit×List (Option (List Nat))×List (Option (List Int))×PUnit→Prop) (x:List Int×Int×List (Option (List Int))×PUnit×List (Option (List Nat))×List (Option (List Int))×PUnit)=>Br (decide (x.2.1<(↑(sub (List.map (mrow (Pl.ech (Pl.qA (D.iface (Pl.tyA q) (Pl.datA q))) ((2:Nat)*m.length-(1:Nat)) ((2:Nat)*m.length) (Pl.recX m m.length,Pl.recO m.length)).1.1) (mrow (Pl.ech (Pl.qA (D.iface (Pl.tyA q) (Pl.datA q))) ((2:Nat)*m.length-(1:Nat)) ((2:Nat)*m.length) (Pl.recX m m.length,Pl.recO m.length)).1.2 ((2:Nat)*m.length))) (↑(mrow (Pl.cst (Pl.ech (Pl.qA (D.iface (Pl.tyA q) (Pl.datA q))) ((2:Nat)*m.length-(1:Nat)) ((2:Nat)*m.length) (Pl.recX m m.length,Pl.recO m.length)).2) (Pl.ech (Pl.qA (D.iface (Pl.tyA q) (Pl.datA q))) ((2:Nat)*m.length-(1:Nat)) ((2:Nat)*m.length) (Pl.recX m m.length,Pl.recO m.length)).2.length).length:Int) (↑(List.map (mrow (Pl.ech (Pl.qA (D.iface (Pl.tyA q) (Pl.datA q))) ((2:Nat)*m.length-(1:Nat)) ((2:Nat)*m.length) (Pl.recX m m.length,Pl.recO m.length)).1.1) (mrow (Pl.ech (Pl.qA (D.iface (Pl.tyA q) (Pl.datA q))) ((2:Nat)*m.length-(1:Nat)) ((2:Nat)*m.length) (Pl.recX m m.length,Pl.recO m.length)).1.2 ((2:Nat)*m.length))).length:Int)).length:Int))) ((0:Int)≤x.2.1∧x.2.1<(↑(sub (List.map (mrow (Pl.ech (Pl.qA (D.iface (Pl.tyA q) (Pl.datA q))) ((2:Nat)*m.length-(1:Nat)) ((2:Nat)*m.length) (Pl.recX m m.length,Pl.recO m.length)).1.1) (mrow (Pl.ech (Pl.qA (D.iface (Pl.tyA q) (Pl.datA q))) ((2:Nat)*m.length-(1:Nat)) ((2:Nat)*m.length) (Pl.recX m m.length,Pl.recO m.length)).1.2 ((2:Nat)*m.length))) (↑(mrow (Pl.cst (Pl.ech (Pl.qA (D.iface (Pl.tyA q) (Pl.datA q))) ((2:Nat)*m.length-(1:Nat)) ((2:Nat)*m.length) (Pl.recX m m.length,Pl.recO m.length)).2) (Pl.ech (Pl.qA (D.iface (Pl.tyA q) (Pl.datA q))) ((2:Nat)*m.length-(1:Nat)) ((2:Nat)*m.length) (Pl.recX m m.length,Pl.recO m.length)).2.length).length:Int) (↑(List.map (mrow (Pl.ech (Pl.qA (D.iface (Pl.tyA q) (Pl.datA q))) ((2:Nat)*m.length-(1:Nat)) ((2:Nat)*m.length) (Pl.recX m m.length,Pl.recO m.length)).1.1) (mrow (Pl.ech (Pl.qA (D.iface (Pl.tyA q) (Pl.datA q))) ((2:Nat)*m.length-(1:Nat)) ((2:Nat)*m.length) (Pl.recX m m.length,Pl.recO m.length)).1.2 ((2:Nat)*m.length))).length:Int)).length:Int)∧(Pl.okF (D.rptr (fieldC q))∧Pl.inAll (Pl.qF (D.rptr (fieldC q))) (rd i64.slc (sub (List.map (mrow (Pl.ech (Pl.qA (D.iface (Pl.tyA q) (Pl.datA q))) ((2:Nat)*m.length-(1:Nat)) ((2:Nat)*m.length) (Pl.recX m m.length,Pl.recO m.length)).1.1) (mrow (Pl.ech (Pl.qA (D.iface (Pl.tyA q) (Pl.datA q))) ((2:Nat)*m.length-(1:Nat)) ((2:Nat)*m.length) (Pl.recX m m.length,Pl.recO m.length)).1.2 ((2:Nat)*m.length))) (↑(mrow (Pl.cst (Pl.ech (Pl.qA (D.iface (Pl.tyA q) (Pl.datA q))) ((2:Nat)*m.length-(1:Nat)) ((2:Nat)*m.length) (Pl.recX m m.length,Pl.recO m.length)).2) (Pl.ech (Pl.qA (D.iface (Pl.tyA q) (Pl.datA q))) ((2:Nat)*m.length-(1:Nat)) ((2:Nat)*m.length) (Pl.recX m m.length,Pl.recO m.length)).2.length).length:Int) (↑(List.map (mrow (Pl.ech (Pl.qA (D.iface (Pl.tyA q) (Pl.datA q))) ((2:Nat)*m.length-(1:Nat)) ((2:Nat)*m.length) (Pl.recX m m.length,Pl.recO m.length)).1.1) (mrow (Pl.ech (Pl.qA (D.iface (Pl.tyA q) (Pl.datA q))) ((2:Nat)*m.length-(1:Nat)) ((2:Nat)*m.length) (Pl.recX m m.length,Pl.recO m.length)).1.2 ((2:Nat)*m.length))).length:Int)) x.2.1)∧Pl.inAll (Pl.qF (D.rptr (fieldC q))) b∧List.length (rd i64.slc (sub (List.map (mrow (Pl.ech (Pl.qA (D.iface (Pl.tyA q) (Pl.datA q))) ((2:Nat)*m.length-(1:Nat)) ((2:Nat)*m.length) (Pl.recX m m.length,Pl.recO m.length)).1.1) (mrow (Pl.ech (Pl.qA (D.iface (Pl.tyA q) (Pl.datA q))) ((2:Nat)*m.length-(1:Nat)) ((2:Nat)*m.length) (Pl.recX m m.length,Pl.recO m.length)).1.2 ((2:Nat)*m.length))) (↑(mrow (Pl.cst (Pl.ech (Pl.qA (D.iface (Pl.tyA q) (Pl.datA q))) ((2:Nat)*m.length-(1:Nat)) ((2:Nat)*m.length) (Pl.recX m m.length,Pl.recO m.length)).2) (Pl.ech (Pl.qA (D.iface (Pl.tyA q) (Pl.datA q))) ((2:Nat)*m.length-(1:Nat)) ((2:Nat)*m.length) (Pl.recX m m.length,Pl.recO m.length)).2.length).length:Int) (↑(List.map (mrow (Pl.ech (Pl.qA (D.iface (Pl.tyA q) (Pl.datA q))) ((2:Nat)*m.length-(1:Nat)) ((2:Nat)*m.length) (Pl.recX m m.length,Pl.recO m.length)).1.1) (mrow (Pl.ech (Pl.qA (D.iface (Pl.tyA q) (Pl.datA q))) ((2:Nat)*m.length-(1:Nat)) ((2:Nat)*m.length) (Pl.recX m m.length,Pl.recO m.length)).1.2 ((2:Nat)*m.length))).length:Int)) x.2.1)≤b.length)∧Br (Pl.dot (Pl.qF (D.rptr (fieldC q))) (rd i64.slc (sub (List.map (mrow (Pl.ech (Pl.qA (D.iface (Pl.tyA q) (Pl.datA q))) ((2:Nat)*m.length-(1:Nat)) ((2:Nat)*m.length) (Pl.recX m m.length,Pl.recO m.length)).1.1) (mrow (Pl.ech (Pl.qA (D.iface (Pl.tyA q) (Pl.datA q))) ((2:Nat)*m.length-(1:Nat)) ((2:Nat)*m.length) (Pl.recX m m.length,Pl.recO m.length)).1.2 ((2:Nat)*m.length))) (↑(mrow (Pl.cst (Pl.ech (Pl.qA (D.iface (Pl.tyA q) (Pl.datA q))) ((2:Nat)*m.length-(1:Nat)) ((2:Nat)*m.length) (Pl.recX m m.length,Pl.recO m.length)).2) (Pl.ech (Pl.qA (D.iface (Pl.tyA q) (Pl.datA q))) ((2:Nat)*m.length-(1:Nat)) ((2:Nat)*m.length) (Pl.recX m m.length,Pl.recO m.length)).2.length).length:Int) (↑(List.map (mrow (Pl.ech (Pl.qA (D.iface (Pl.tyA q) (Pl.datA q))) ((2:Nat)*m.length-(1:Nat)) ((2:Nat)*m.length) (Pl.recX m m.length,Pl.recO m.length)).1.1) (mrow (Pl.ech (Pl.qA (D.iface (Pl.tyA q) (Pl.datA q))) ((2:Nat)*m.length-(1:Nat)) ((2:Nat)*m.length) (Pl.recX m m.length,Pl.recO m.length)).1.2 ((2:Nat)*m.length))).length:Int)) x.2.1) b !=(0:Int)) (([],D.slc false i64 (rd i64.slc (sub (List.map (mrow (Pl.ech (Pl.qA (D.iface (Pl.tyA q) (Pl.datA q))) ((2:Nat)*m.length-(1:Nat)) ((2:Nat)*m.length) (Pl.recX m m.length,Pl.recO m.length)).1.1) (mrow (Pl.ech (Pl.qA (D.iface (Pl.tyA q) (Pl.datA q))) ((2:Nat)*m.length-(1:Nat)) ((2:Nat)*m.length) (Pl.recX m m.length,Pl.recO m.length)).1.2 ((2:Nat)*m.length))) (↑(mrow (Pl.cst (Pl.ech (Pl.qA (D.iface (Pl.tyA q) (Pl.datA q))) ((2:Nat)*m.length-(1:Nat)) ((2:Nat)*m.length) (Pl.recX m m.length,Pl.recO m.length)).2) (Pl.ech (Pl.qA (D.iface (Pl.tyA q) (Pl.datA q))) ((2:Nat)*m.length-(1:Nat)) ((2:Nat)*m.length) (Pl.recX m m.length,Pl.recO m.length)).2.length).length:Int) (↑(List.map (mrow (Pl.ech (Pl.qA (D.iface (Pl.tyA q) (Pl.datA q))) ((2:Nat)*m.length-(1:Nat)) ((2:Nat)*m.length) (Pl.recX m m.length,Pl.recO m.length)).1.1) (mrow (Pl.ech (Pl.qA (D.iface (Pl.tyA q) (Pl.datA q))) ((2:Nat)*m.length-(1:Nat)) ((2:Nat)*m.length) (Pl.recX m m.length,Pl.recO m.length)).1.2 ((2:Nat)*m.length))).length:Int)) x.2.1),())=C101s.post (fieldD q,m,b,())) (G (x.1,IntKind.i64.wrap (x.2.1+(1:Int)),x.2.2.1,(),x.2.2.2.2))) (Br (decide ((↑m.length:Int)>(0:Int))) ((0:Int)≤(0:Int)∧(0:Int)<(↑m.length:Int)∧(0:Int)≤(↑(List.length (rd i64.slc m (0:Int))):Int)∧(↑(List.length (rd i64.slc m (0:Int))):Int)=(↑(List.length (rd i64.slc m (0:Int))):Int)∧(↑(List.length (rd i64.slc m (0:Int))):Int)*(8:Int)≤(140737488355328:Int)∧ ∃(n:Nat),itl (fun(G:List Int×Int×List (Option (List Int))×PUnit×List (Option (List Nat))×List (Option (List Int))×PUnit→Prop) (x:List Int×Int×List (Option (List Int))×PUnit×List (Option (List Nat))×List (Option (List Int))×PUnit)=>Br (decide (x.2.1<(↑(mrow (Pl.cst (Pl.ech (Pl.qA (D.iface (Pl.tyA q) (Pl.datA q))) ((2:Nat)*m.length-(1:Nat)) ((2:Nat)*m.length) (Pl.recX m m.length,Pl.recO m.length)).2) (Pl.ech (Pl.qA (D.iface (Pl.tyA q) (Pl.datA q))) ((2:Nat)*m.length-(1:Nat)) ((2:Nat)*m.length) (Pl.recX m m.length,Pl.recO m.length)).2.length).length:Int))) ((0:Int)≤x.2.1∧x.2.1<(↑(mrow (Pl.cst (Pl.ech (Pl.qA (D.iface (Pl.tyA q) (Pl.datA q))) ((2:Nat)*m.length-(1:Nat)) ((2:Nat)*m.length) (Pl.recX m m.length,Pl.recO m.length)).2) (Pl.ech (Pl.qA (D.iface (Pl.tyA q) (Pl.datA q))) ((2:Nat)*m.length-(1:Nat)) ((2:Nat)*m.length) (Pl.recX m m.length,Pl.recO m.length)).2.length).length:Int)∧(0:Int)≤x.2.1∧x.2.1<(↑(List.map (mrow (Pl.ech (Pl.qA (D.iface (Pl.tyA q) (Pl.datA q))) ((2:Nat)*m.length-(1:Nat)) ((2:Nat)*m.length) (Pl.recX m m.length,Pl.recO m.length)).1.1) (mrow (Pl.ech (Pl.qA (D.iface (Pl.tyA q) (Pl.datA q))) ((2:Nat)*m.length-(1:Nat)) ((2:Nat)*m.length) (Pl.recX m m.length,Pl.recO m.length)).1.2 ((2:Nat)*m.length))).length:Int)∧(Pl.okF (D.rptr (fieldC q))∧Pl.inAll (Pl.qF (D.rptr (fieldC q))) (rd i64.slc (List.map (mrow (Pl.ech (Pl.qA (D.iface (Pl.tyA q) (Pl.datA q))) ((2:Nat)*m.length-(1:Nat)) ((2:Nat)*m.length) (Pl.recX m m.length,Pl.recO m.length)).1.1) (mrow (Pl.ech (Pl.qA (D.iface (Pl.tyA q) (Pl.datA q))) ((2:Nat)*m.length-(1:Nat)) ((2:Nat)*m.length) (Pl.recX m m.length,Pl.recO m.length)).1.2 ((2:Nat)*m.length))) x.2.1)∧Pl.inAll (Pl.qF (D.rptr (fieldC q))) b∧List.length (rd i64.slc (List.map (mrow (Pl.ech (Pl.qA (D.iface (Pl.tyA q) (Pl.datA q))) ((2:Nat)*m.length-(1:Nat)) ((2:Nat)*m.length) (Pl.recX m m.length,Pl.recO m.length)).1.1) (mrow (Pl.ech (Pl.qA (D.iface (Pl.tyA q) (Pl.datA q))) ((2:Nat)*m.length-(1:Nat)) ((2:Nat)*m.length) (Pl.recX m m.length,Pl.recO m.length)).1.2 ((2:Nat)*m.length))) x.2.1)≤b.length)∧(0:Int)≤rd i64 (mrow (Pl.cst (Pl.ech (Pl.qA (D.iface (Pl.tyA q) (Pl.datA q))) ((2:Nat)*m.length-(1:Nat)) ((2:Nat)*m.length) (Pl.recX m m.length,Pl.recO m.length)).2) (Pl.ech (Pl.qA (D.iface (Pl.tyA q) (Pl.datA q))) ((2:Nat)*m.length-(1:Nat)) ((2:Nat)*m.length) (Pl.recX m m.length,Pl.recO m.length)).2.length) x.2.1∧rd i64 (mrow (Pl.cst (Pl.ech (Pl.qA (D.iface (Pl.tyA q) (Pl.datA q))) ((2:Nat)*m.length-(1:Nat)) ((2:Nat)*m.length) (Pl.recX m m.length,Pl.recO m.length)).2) (Pl.ech (Pl.qA (D.iface (Pl.tyA q) (Pl.datA q))) ((2:Nat)*m.length-(1:Nat)) ((2:Nat)*m.length) (Pl.recX m m.length,Pl.recO m.length)).2.length) x.2.1<(↑(List.length x.1):Int)∧(0:Int)≤rd i64 (mrow (Pl.cst (Pl.ech (Pl.qA (D.iface (Pl.tyA q) (Pl.datA q))) ((2:Nat)*m.length-(1:Nat)) ((2:Nat)*m.length) (Pl.recX m m.length,Pl.recO m.length)).2) (Pl.ech (Pl.qA (D.iface (Pl.tyA q) (Pl.datA q))) ((2:Nat)*m.length-(1:Nat)) ((2:Nat)*m.length) (Pl.recX m m.length,Pl.recO m.length)).2.length) x.2.1∧rd i64 (mrow (Pl.cst (Pl.ech (Pl.qA (D.iface (Pl.tyA q) (Pl.datA q))) ((2:Nat)*m.length-(1:Nat)) ((2:Nat)*m.length) (Pl.recX m m.length,Pl.recO m.length)).2) (Pl.ech (Pl.qA (D.iface (Pl.tyA q) (Pl.datA q))) ((2:Nat)*m.length-(1:Nat)) ((2:Nat)*m.length) (Pl.recX m m.length,Pl.recO m.length)).2.length) x.2.1<(↑(List.length x.1):Int)∧G (List.set x.1 (Int.toNat (rd i64 (mrow (Pl.cst (Pl.ech (Pl.qA (D.iface (Pl.tyA q) (Pl.datA q))) ((2:Nat)*m.length-(1:Nat)) ((2:Nat)*m.length) (Pl.recX m m.length,Pl.recO m.length)).2) (Pl.ech (Pl.qA (D.iface (Pl.tyA q) (Pl.datA q))) ((2:Nat)*m.length-(1:Nat)) ((2:Nat)*m.length) (Pl.recX m m.length,Pl.recO m.length)).2.length) x.2.1)) (Pl.dot (Pl.qF (D.rptr (fieldC q))) (rd i64.slc (List.map (mrow (Pl.ech (Pl.qA (D.iface (Pl.tyA q) (Pl.datA q))) ((2:Nat)*m.length-(1:Nat)) ((2:Nat)*m.length) (Pl.recX m m.length,Pl.recO m.length)).1.1) (mrow (Pl.ech (Pl.qA (D.iface (Pl.tyA q) (Pl.datA q))) ((2:Nat)*m.length-(1:Nat)) ((2:Nat)*m.length) (Pl.recX m m.length,Pl.recO m.length)).1.2 ((2:Nat)*m.length))) x.2.1) b),IntKind.i64.wrap (x.2.1+(1:Int)),x.2.2.1,(),x.2.2.2.2)) ((x.1,constD (Value.slice none (0:Nat) (0:Nat)),())=C101s.post (fieldD q,m,b,()))) n (List.replicate (↑(List.length (rd i64.slc m (0:Int))):Int).toNat (0:Int),(0:Int),x.2.2.1,(),x.2.2.2.2)) (∃(n:Nat),itl (fun(G:List Int×Int×List (Option (List Int))×PUnit×List (Option (List Nat))×List (Option (List Int))×PUnit→Prop) (x:List Int×Int×List (Option (List Int))×PUnit×List (Option (List Nat))×List (Option (List Int))×PUnit)=>Br (decide (x.2.1<(↑(mrow (Pl.cst (Pl.ech (Pl.qA (D.iface (Pl.tyA q) (Pl.datA q))) ((2:Nat)*m.length-(1:Nat)) ((2:Nat)*m.length) (Pl.recX m m.length,Pl.recO m.length)).2) (Pl.ech (Pl.qA (D.iface (Pl.tyA q) (Pl.datA q))) ((2:Nat)*m.length-(1:Nat)) ((2:Nat)*m.length) (Pl.recX m m.length,Pl.recO m.length)).2.length).length:Int))) ((0:Int)≤x.2.1∧x.2.1<(↑(mrow (Pl.cst (Pl.ech (Pl.qA (D.iface (Pl.tyA q) (Pl.datA q))) ((2:Nat)*m.length-(1:Nat)) ((2:Nat)*m.length) (Pl.recX m m.length,Pl.recO m.length)).2) (Pl.ech (Pl.qA (D.iface (Pl.tyA q) (Pl.datA q))) ((2:Nat)*m.length-(1:Nat)) ((2:Nat)*m.length) (Pl.recX m m.length,Pl.recO m.length)).2.length).length:Int)∧(0:Int)≤x.2.1∧x.2.1<(↑(List.map (mrow (Pl.ech (Pl.qA (D.iface (Pl.tyA q) (Pl.datA q))) ((2:Nat)*m.length-(1:Nat)) ((2:Nat)*m.length) (Pl.recX m m.length,Pl.recO m.length)).1.1) (mrow (Pl.ech (Pl.qA (D.iface (Pl.tyA q) (Pl.datA q))) ((2:Nat)*m.length-(1:Nat)) ((2:Nat)*m.length) (Pl.recX m m.length,Pl.recO m.length)).1.2 ((2:Nat)*m.length))).length:Int)∧(Pl.okF (D.rptr (fieldC q))∧Pl.inAll (Pl.qF (D.rptr (fieldC q))) (rd i64.slc (List.map (mrow (Pl.ech (Pl.qA (D.iface (Pl.tyA q) (Pl.datA q))) ((2:Nat)*m.length-(1:Nat)) ((2:Nat)*m.length) (Pl.recX m m.length,Pl.recO m.length)).1.1) (mrow (Pl.ech (Pl.qA (D.iface (Pl.tyA q) (Pl.datA q))) ((2:Nat)*m.length-(1:Nat)) ((2:Nat)*m.length) (Pl.recX m m.length,Pl.recO m.length)).1.2 ((2:Nat)*m.length))) x.2.1)∧Pl.inAll (Pl.qF (D.rptr (fieldC q))) b∧List.length (rd i64.slc (List.map (mrow (Pl.ech (Pl.qA (D.iface (Pl.tyA q) (Pl.datA q))) ((2:Nat)*m.length-(1:Nat)) ((2:Nat)*m.length) (Pl.recX m m.length,Pl.recO m.length)).1.1) (mrow (Pl.ech (Pl.qA (D.iface (Pl.tyA q) (Pl.datA q))) ((2:Nat)*m.length-(1:Nat)) ((2:Nat)*m.length) (Pl.recX m m.length,Pl.recO m.length)).1.2 ((2:Nat)*m.length))) x.2.1)≤b.length)∧(0:Int)≤rd i64 (mrow (Pl.cst (Pl.ech (Pl.qA (D.iface (Pl.tyA q) (Pl.datA q))) ((2:Nat)*m.length-(1:Nat)) ((2:Nat)*m.length) (Pl.recX m m.length,Pl.recO m.length)).2) (Pl.ech (Pl.qA (D.iface (Pl.tyA q) (Pl.datA q))) ((2:Nat)*m.length-(1:Nat)) ((2:Nat)*m.length) (Pl.recX m m.length,Pl.recO m.length)).2.length) x.2.1∧rd i64 (mrow (Pl.cst (Pl.ech (Pl.qA (D.iface (Pl.tyA q) (Pl.datA q))) ((2:Nat)*m.length-(1:Nat)) ((2:Nat)*m.length) (Pl.recX m m.length,Pl.recO m.length)).2) (Pl.ech (Pl.qA (D.iface (Pl.tyA q) (Pl.datA q))) ((2:Nat)*m.length-(1:Nat)) ((2:Nat)*m.length) (Pl.recX m m.length,Pl.recO m.length)).2.length) x.2.1<(↑(List.length x.1):Int)∧(0:Int)≤rd i64 (mrow (Pl.cst (Pl.ech (Pl.qA (D.iface (Pl.tyA q) (Pl.datA q))) ((2:Nat)*m.length-(1:Nat)) ((2:Nat)*m.length) (Pl.recX m m.length,Pl.recO m.length)).2) (Pl.ech (Pl.qA (D.iface (Pl.tyA q) (Pl.datA q))) ((2:Nat)*m.length-(1:Nat)) ((2:Nat)*m.length) (Pl.recX m m.length,Pl.recO m.length)).2.length) x.2.1∧rd i64 (mrow (Pl.cst (Pl.ech (Pl.qA (D.iface (Pl.tyA q) (Pl.datA q))) ((2:Nat)*m.length-(1:Nat)) ((2:Nat)*m.length) (Pl.recX m m.length,Pl.recO m.length)).2) (Pl.ech (Pl.qA (D.iface (Pl.tyA q) (Pl.datA q))) ((2:Nat)*m.length-(1:Nat)) ((2:Nat)*m.length) (Pl.recX m m.length,Pl.recO m.length)).2.length) x.2.1<(↑(List.length x.1):Int)∧G (List.set x.1 (Int.toNat (rd i64 (mrow (Pl.cst (Pl.ech (Pl.qA (D.iface (Pl.tyA q) (Pl.datA q))) ((2:Nat)*m.length-(1:Nat)) ((2:Nat)*m.length) (Pl.recX m m.length,Pl.recO m.length)).2) (Pl.ech (Pl.qA (D.iface (Pl.tyA q) (Pl.datA q))) ((2:Nat)*m.length-(1:Nat)) ((2:Nat)*m.length) (Pl.recX m m.length,Pl.recO m.length)).2.length) x.2.1)) (Pl.dot (Pl.qF (D.rptr (fieldC q))) (rd i64.slc (List.map (mrow (Pl.ech (Pl.qA (D.iface (Pl.tyA q) (Pl.datA q))) ((2:Nat)*m.length-(1:Nat)) ((2:Nat)*m.length) (Pl.recX m m.length,Pl.recO m.length)).1.1) (mrow (Pl.ech (Pl.qA (D.iface (Pl.tyA q) (Pl.datA q))) ((2:Nat)*m.length-(1:Nat)) ((2:Nat)*m.length) (Pl.recX m m.length,Pl.recO m.length)).1.2 ((2:Nat)*m.length))) x.2.1) b),IntKind.i64.wrap (x.2.1+(1:Int)),x.2.2.1,(),x.2.2.2.2)) ((x.1,constD (Value.slice none (0:Nat) (0:Nat)),())=C101s.post (fieldD q,m,b,()))) n (x.1,(0:Int),x.2.2.1,(),x.2.2.2.2)))) n ([],(0:Int),List.map (fun(x:Option (List i64.El))=>none) (Pl.ech (Pl.qA (D.iface (Pl.tyA q) (Pl.datA q))) ((2:Nat)*m.length-(1:Nat)) ((2:Nat)*m.length) (Pl.recX m m.length,Pl.recO m.length)).1.1,(),List.map (fun(x:Option (List (Ty.ref (0:Nat)).El))=>none) (Pl.ech (Pl.qA (D.iface (Pl.tyA q) (Pl.datA q))) ((2:Nat)*m.length-(1:Nat)) ((2:Nat)*m.length) (Pl.recX m m.length,Pl.recO m.length)).1.2,List.map (fun(x:Option (List i64.El))=>none) (Pl.cst (Pl.ech (Pl.qA (D.iface (Pl.tyA q) (Pl.datA q))) ((2:Nat)*m.length-(1:Nat)) ((2:Nat)*m.length) (Pl.recX m m.length,Pl.recO m.length)).2),())) (by kernel_rfl) ?_
 rw[recS_eq hq,qF_f,c2,rowsD_eq,hp]
 have hlC:=F.lC
 have hlD:=F.lD
 have hrD:=F.rD
 have hcC:=F.cC
 obtain⟨_,hwide,_⟩:=shape_0 s1
 unfold Pl.den at hd
 have hsol:Pl.sol q m b=Pl.solL q b (Pl.echC q m) (Pl.echD q m) (List.replicate (Pl.wide m) 0):=rfl
 rw[hsol]
 have hCe:(Pl.recS q m).2=Pl.echC q m:=rfl
 have hsub:sub (Pl.echD q m) ((Pl.recS q m).2.length:Int) ((Pl.echD q m).length:Int)=(Pl.echD q m).drop (Pl.echC q m).length:=sub_drop _ _
 rw[hsub]
 rw[hCe]at c1⊢
 have hX: ∀ {x:XS},True:=fun {x}=>trivial
 generalize hC:Pl.echC q m=C at*
 generalize hD:Pl.echD q m=DD at*
 have hpre: ∀r∈DD,Pl.okF (D.rptr (fieldC q))∧Pl.inAll q r∧Pl.inAll q b∧r.length≤b.length:=fun r hr=>⟨okF_f hq,⟨(hrD r hr).2,by rw[(hrD r hr).1];omega⟩,⟨s3,hb⟩,by rw[(hrD r hr).1];omega⟩
 have last: ∀(x0:List Int) (A:XS) (O:OS) (K:XS),x0.length=Pl.wide m∨C=[]→x0=(bif decide (0<m.length)then List.replicate (Pl.wide m) 0 else [])→ ∃n,itl (fun(G:List Int×Int×XS×Unit×OS×XS×Unit→Prop) (x:List Int×Int×XS×Unit×OS×XS×Unit)=>
   Br (decide (x.2.1<(C.length:Int))) ((0:Int)≤x.2.1∧x.2.1<(C.length:Int)∧(0:Int)≤x.2.1∧x.2.1<(DD.length:Int)∧(Pl.okF (D.rptr (fieldC q))∧Pl.inAll q (rd i64.slc DD x.2.1)∧Pl.inAll q b∧(rd i64.slc DD x.2.1).length≤b.length)∧(0:Int)≤rd i64 C x.2.1∧rd i64 C x.2.1<(x.1.length:Int)∧(0:Int)≤rd i64 C x.2.1∧rd i64 C x.2.1<(x.1.length:Int)∧
     G (x.1.set (Int.toNat (rd i64 C x.2.1)) (Pl.dot q (rd i64.slc DD x.2.1) b),IntKind.i64.wrap (x.2.1+(1:Int)),x.2.2.1,(),x.2.2.2.2)) ((x.1,constD (Value.slice none (0:Nat) (0:Nat)),())=(Pl.solL q b C DD (List.replicate (Pl.wide m) 0),D.val (Value.slice none 0 0),()))) n (x0,(0:Int),A,(),O,K,()):=by
  intro x0 A O K hx0 hx1
  have hst:Pl.solL q b C DD x0=Pl.solL q b C DD (List.replicate (Pl.wide m) 0):=by
   by_cases h0:0<m.length
   ·rw[hx1,decide_eq_true h0];rfl
   ·have:C=[]:=List.length_eq_zero_iff.1 (by omega)
    have e:m=[]:=List.length_eq_zero_iff.1 (by omega)
    rw[this,solL_nil,solL_nil,hx1,decide_eq_false h0,e];rfl
  refine itl_rule (fun(s:List Int×Int×XS×Unit×OS×XS×Unit)=> ∃i:Nat,s.2.1=(i:Int)∧i≤C.length∧(s.1.length=Pl.wide m∨C=[])∧Pl.solL q b (C.drop i) (DD.drop i) s.1=Pl.solL q b C DD (List.replicate (Pl.wide m) 0)) (fun s=>((C.length:Int)-s.2.1).toNat) ⟨0,rfl,Nat.zero_le _,hx0,hst⟩ ?_
  rintro⟨x,i0,A,⟨⟩,O,K,⟨⟩⟩ G ⟨i,e,hi,hxl,hf⟩ hG
  simp only at e hxl hf hG⊢
  subst e
  refine Br_of (fun h=> ?_) (fun h=> ?_)
  ·have h:i<C.length:=by have:=of_decide_eq_true h;omega
   rw[rd_rr,rd_i,wrap_i64 (by omega) (by omega)]
   have hne:C≠[]:=fun e=>by rw[e]at h;exact absurd h (Nat.not_lt_zero _)
   have hxl:x.length=Pl.wide m:=hxl.resolve_right hne
   obtain⟨k0,k1⟩:=hcC _ (show C.getD i 0∈C from getD_mem h)
   have hiD:i<DD.length:=by omega
   have hkx:C.getD i 0<((List.length x:Nat):Int):=by
    have e:((List.length x:Nat):Int)=(Pl.wide m:Int):=congrArg Nat.cast hxl
    rw[e];exact k1
   rw[drop_cons 0 h,drop_cons [] hiD,Pl.solL]at hf
   refine⟨by omega,by omega,by omega,by omega,hpre _ (rowD_mem hiD),k0,hkx,k0,hkx,hG _ ⟨i+1,rfl,by omega, .inl (by simp only[List.length_set];exact hxl),hf⟩ (by simp only;omega)⟩
  ·have h:i=C.length:=by have:=of_decide_eq_false h;omega
   subst h
   rw[List.drop_length,solL_nil]at hf
   rw[←hf];rfl
 refine⟨p1,⟨p2,rfl⟩,F.m1,F.a1,F.m2,F.a2,c1,by omega,by omega,itl_rule (fun(s:List Int×Int×XS×Unit×OS×XS×Unit)=> ∃(i:Nat),s.1=[]∧s.2.1=(i:Int)∧i≤(DD.drop C.length).length∧Pl.denL q b ((DD.drop C.length).drop i)=none) (fun s=>(((DD.drop C.length).length:Int)-s.2.1).toNat) ⟨0,rfl,rfl,Nat.zero_le _,hd⟩ ?_⟩
 have hrE: ∀r∈DD.drop C.length,r∈DD:=fun r hr=>List.mem_of_mem_drop hr
 have hlE:(DD.drop C.length).length≤1000000000:=by rw[List.length_drop];omega
 generalize DD.drop C.length=EE at*
 rintro⟨x,i0,A,⟨⟩,O,K,⟨⟩⟩ G ⟨i,ex,e,hi,hf⟩ hG
 simp only at ex e hf hG⊢
 subst ex e
 refine Br_of (fun h=> ?_) (fun h=> ?_)
 ·have h:i<EE.length:=by have:=of_decide_eq_true h;omega
  rw[rd_rr,wrap_i64 (by omega) (by omega)]
  rw[drop_cons [] h,Pl.denL]at hf
  refine⟨by omega,by omega,hpre _ (hrE _ (rowD_mem h)),Br_of (fun h1=> ?_) (fun h1=> ?_)⟩
  ·have h1:Pl.dot q (EE.getD i []) b≠0:=by simpa using h1
   rw[decide_eq_true h1,cond_true]at hf
   cases hf
  ·have h1:Pl.dot q (EE.getD i []) b=0:=by simpa using h1
   rw[decide_eq_false (not_not_intro h1),cond_false]at hf
   exact hG _ ⟨i+1,rfl,rfl,by omega,hf⟩ (by simp only;omega)
 ·refine Br_of (fun h0=> ?_) (fun h0=> ?_)
  ·have h0:0<m.length:=by have:=of_decide_eq_true h0;omega
   have hw:(rd i64.slc m (0:Int)).length=Pl.wide m:=rfl
   rw[hw]
   refine⟨by omega,by omega,by omega,trivial,by omega,last _ _ _ _ (.inl (by simp)) ?_⟩
   rw[decide_eq_true h0];simp
  ·have h0: ¬0<m.length:=by have:=of_decide_eq_false h0;omega
   exact last _ _ _ _ (.inr (List.length_eq_zero_iff.1 (by omega))) (by rw[decide_eq_false h0];rfl)
theorem vc101d: ∀x,C101d.pre x→VC T101 H101 Try.f101 C101d x:=by
 rintro⟨v,(m:List (List Int)),(b:List Int),⟨⟩⟩ ⟨⟨⟨q,hq,(rfl:v=_)⟩,(hm:Pl.okMM m),(hb:b.length≤1000000000)⟩,(hs:Pl.sys (Pl.qF (fieldD q)) m b=0),(hd:Pl.den (Pl.qF (fieldD q)) m b≠none)⟩
 rw[qF_d]at hs hd
 obtain⟨s1,s2,s3⟩:=den_sys hs
 obtain⟨p1,p2,F⟩:=pre_new hq s1
 obtain⟨c1,c2⟩:=cst_row (Pl.recS q m).2
 have hp:C101d.post (fieldD q,m,b,())=([],Pl.denW q m b,()):=rfl
 refine cast (α:=Pl.okMx m∧(Pl.preE (Pl.tyA q) (Pl.tyA q) (Pl.datA q) (Pl.datA q) ((2:Nat)*m.length-(1:Nat)) ((2:Nat)*m.length) (Pl.recX m m.length) (Pl.recO m.length)∧([]:List (Option (List Int)))=[])∧mal (Pl.ech (Pl.qA (D.iface (Pl.tyA q) (Pl.datA q))) ((2:Nat)*m.length-(1:Nat)) ((2:Nat)*m.length) (Pl.recX m m.length,Pl.recO m.length)).1.2 ((2:Nat)*m.length-(1:Nat))∧(∀(i:(Ty.ref (0:Nat)).El),i∈mrow (Pl.ech (Pl.qA (D.iface (Pl.tyA q) (Pl.datA q))) ((2:Nat)*m.length-(1:Nat)) ((2:Nat)*m.length) (Pl.recX m m.length,Pl.recO m.length)).1.2 ((2:Nat)*m.length-(1:Nat))→mal (Pl.ech (Pl.qA (D.iface (Pl.tyA q) (Pl.datA q))) ((2:Nat)*m.length-(1:Nat)) ((2:Nat)*m.length) (Pl.recX m m.length,Pl.recO m.length)).1.1 i)∧mal (Pl.ech (Pl.qA (D.iface (Pl.tyA q) (Pl.datA q))) ((2:Nat)*m.length-(1:Nat)) ((2:Nat)*m.length) (Pl.recX m m.length,Pl.recO m.length)).1.2 ((2:Nat)*m.length)∧(∀(i:(Ty.ref (0:Nat)).El),i∈mrow (Pl.ech (Pl.qA (D.iface (Pl.tyA q) (Pl.datA q))) ((2:Nat)*m.length-(1:Nat)) ((2:Nat)*m.length) (Pl.recX m m.length,Pl.recO m.length)).1.2 ((2:Nat)*m.length)→mal (Pl.ech (Pl.qA (D.iface (Pl.tyA q) (Pl.datA q))) ((2:Nat)*m.length-(1:Nat)) ((2:Nat)*m.length) (Pl.recX m m.length,Pl.recO m.length)).1.1 i)∧mal (Pl.cst (Pl.ech (Pl.qA (D.iface (Pl.tyA q) (Pl.datA q))) ((2:Nat)*m.length-(1:Nat)) ((2:Nat)*m.length) (Pl.recX m m.length,Pl.recO m.length)).2) (Pl.ech (Pl.qA (D.iface (Pl.tyA q) (Pl.datA q))) ((2:Nat)*m.length-(1:Nat)) ((2:Nat)*m.length) (Pl.recX m m.length,Pl.recO m.length)).2.length∧(0:Int)≤(↑(mrow (Pl.cst (Pl.ech (Pl.qA (D.iface (Pl.tyA q) (Pl.datA q))) ((2:Nat)*m.length-(1:Nat)) ((2:Nat)*m.length) (Pl.recX m m.length,Pl.recO m.length)).2) (Pl.ech (Pl.qA (D.iface (Pl.tyA q) (Pl.datA q))) ((2:Nat)*m.length-(1:Nat)) ((2:Nat)*m.length) (Pl.recX m m.length,Pl.recO m.length)).2.length).length:Int)∧(↑(mrow (Pl.cst (Pl.ech (Pl.qA (D.iface (Pl.tyA q) (Pl.datA q))) ((2:Nat)*m.length-(1:Nat)) ((2:Nat)*m.length) (Pl.recX m m.length,Pl.recO m.length)).2) (Pl.ech (Pl.qA (D.iface (Pl.tyA q) (Pl.datA q))) ((2:Nat)*m.length-(1:Nat)) ((2:Nat)*m.length) (Pl.recX m m.length,Pl.recO m.length)).2.length).length:Int)≤(↑(List.map (mrow (Pl.ech (Pl.qA (D.iface (Pl.tyA q) (Pl.datA q))) ((2:Nat)*m.length-(1:Nat)) ((2:Nat)*m.length) (Pl.recX m m.length,Pl.recO m.length)).1.1) (mrow (Pl.ech (Pl.qA (D.iface (Pl.tyA q) (Pl.datA q))) ((2:Nat)*m.length-(1:Nat)) ((2:Nat)*m.length) (Pl.recX m m.length,Pl.recO m.length)).1.2 ((2:Nat)*m.length))).length:Int)∧ ∃(n:Nat),itl (fun(G:List Int×Int×List (Option (List Int))×PUnit×List (Option (List Nat))×List (Option (List Int))×PUnit→Prop) (x:List Int×Int×List (Option (List Int))×PUnit×List (Option (List Nat))×List (Option (List Int))×PUnit)=>Br (decide (x.2.1<(↑(sub (List.map (mrow (Pl.ech (Pl.qA (D.iface (Pl.tyA q) (Pl.datA q))) ((2:Nat)*m.length-(1:Nat)) ((2:Nat)*m.length) (Pl.recX m m.length,Pl.recO m.length)).1.1) (mrow (Pl.ech (Pl.qA (D.iface (Pl.tyA q) (Pl.datA q))) ((2:Nat)*m.length-(1:Nat)) ((2:Nat)*m.length) (Pl.recX m m.length,Pl.recO m.length)).1.2 ((2:Nat)*m.length))) (↑(mrow (Pl.cst (Pl.ech (Pl.qA (D.iface (Pl.tyA q) (Pl.datA q))) ((2:Nat)*m.length-(1:Nat)) ((2:Nat)*m.length) (Pl.recX m m.length,Pl.recO m.length)).2) (Pl.ech (Pl.qA (D.iface (Pl.tyA q) (Pl.datA q))) ((2:Nat)*m.length-(1:Nat)) ((2:Nat)*m.length) (Pl.recX m m.length,Pl.recO m.length)).2.length).length:Int) (↑(List.map (mrow (Pl.ech (Pl.qA (D.iface (Pl.tyA q) (Pl.datA q))) ((2:Nat)*m.length-(1:Nat)) ((2:Nat)*m.length) (Pl.recX m m.length,Pl.recO m.length)).1.1) (mrow (Pl.ech (Pl.qA (D.iface (Pl.tyA q) (Pl.datA q))) ((2:Nat)*m.length-(1:Nat)) ((2:Nat)*m.length) (Pl.recX m m.length,Pl.recO m.length)).1.2 ((2:Nat)*m.length))).length:Int)).length:Int))) ((0:Int)≤x.2.1∧x.2.1<(↑(sub (List.map (mrow (Pl.ech (Pl.qA (D.iface (Pl.tyA q) (Pl.datA q))) ((2:Nat)*m.length-(1:Nat)) ((2:Nat)*m.length) (Pl.recX m m.length,Pl.recO m.length)).1.1) (mrow (Pl.ech (Pl.qA (D.iface (Pl.tyA q) (Pl.datA q))) ((2:Nat)*m.length-(1:Nat)) ((2:Nat)*m.length) (Pl.recX m m.length,Pl.recO m.length)).1.2 ((2:Nat)*m.length))) (↑(mrow (Pl.cst (Pl.ech (Pl.qA (D.iface (Pl.tyA q) (Pl.datA q))) ((2:Nat)*m.length-(1:Nat)) ((2:Nat)*m.length) (Pl.recX m m.length,Pl.recO m.length)).2) (Pl.ech (Pl.qA (D.iface (Pl.tyA q) (Pl.datA q))) ((2:Nat)*m.length-(1:Nat)) ((2:Nat)*m.length) (Pl.recX m m.length,Pl.recO m.length)).2.length).length:Int) (↑(List.map (mrow (Pl.ech (Pl.qA (D.iface (Pl.tyA q) (Pl.datA q))) ((2:Nat)*m.length-(1:Nat)) ((2:Nat)*m.length) (Pl.recX m m.length,Pl.recO m.length)).1.1) (mrow (Pl.ech (Pl.qA (D.iface (Pl.tyA q) (Pl.datA q))) ((2:Nat)*m.length-(1:Nat)) ((2:Nat)*m.length) (Pl.recX m m.length,Pl.recO m.length)).1.2 ((2:Nat)*m.length))).length:Int)).length:Int)∧(Pl.okF (D.rptr (fieldC q))∧Pl.inAll (Pl.qF (D.rptr (fieldC q))) (rd i64.slc (sub (List.map (mrow (Pl.ech (Pl.qA (D.iface (Pl.tyA q) (Pl.datA q))) ((2:Nat)*m.length-(1:Nat)) ((2:Nat)*m.length) (Pl.recX m m.length,Pl.recO m.length)).1.1) (mrow (Pl.ech (Pl.qA (D.iface (Pl.tyA q) (Pl.datA q))) ((2:Nat)*m.length-(1:Nat)) ((2:Nat)*m.length) (Pl.recX m m.length,Pl.recO m.length)).1.2 ((2:Nat)*m.length))) (↑(mrow (Pl.cst (Pl.ech (Pl.qA (D.iface (Pl.tyA q) (Pl.datA q))) ((2:Nat)*m.length-(1:Nat)) ((2:Nat)*m.length) (Pl.recX m m.length,Pl.recO m.length)).2) (Pl.ech (Pl.qA (D.iface (Pl.tyA q) (Pl.datA q))) ((2:Nat)*m.length-(1:Nat)) ((2:Nat)*m.length) (Pl.recX m m.length,Pl.recO m.length)).2.length).length:Int) (↑(List.map (mrow (Pl.ech (Pl.qA (D.iface (Pl.tyA q) (Pl.datA q))) ((2:Nat)*m.length-(1:Nat)) ((2:Nat)*m.length) (Pl.recX m m.length,Pl.recO m.length)).1.1) (mrow (Pl.ech (Pl.qA (D.iface (Pl.tyA q) (Pl.datA q))) ((2:Nat)*m.length-(1:Nat)) ((2:Nat)*m.length) (Pl.recX m m.length,Pl.recO m.length)).1.2 ((2:Nat)*m.length))).length:Int)) x.2.1)∧Pl.inAll (Pl.qF (D.rptr (fieldC q))) b∧List.length (rd i64.slc (sub (List.map (mrow (Pl.ech (Pl.qA (D.iface (Pl.tyA q) (Pl.datA q))) ((2:Nat)*m.length-(1:Nat)) ((2:Nat)*m.length) (Pl.recX m m.length,Pl.recO m.length)).1.1) (mrow (Pl.ech (Pl.qA (D.iface (Pl.tyA q) (Pl.datA q))) ((2:Nat)*m.length-(1:Nat)) ((2:Nat)*m.length) (Pl.recX m m.length,Pl.recO m.length)).1.2 ((2:Nat)*m.length))) (↑(mrow (Pl.cst (Pl.ech (Pl.qA (D.iface (Pl.tyA q) (Pl.datA q))) ((2:Nat)*m.length-(1:Nat)) ((2:Nat)*m.length) (Pl.recX m m.length,Pl.recO m.length)).2) (Pl.ech (Pl.qA (D.iface (Pl.tyA q) (Pl.datA q))) ((2:Nat)*m.length-(1:Nat)) ((2:Nat)*m.length) (Pl.recX m m.length,Pl.recO m.length)).2.length).length:Int) (↑(List.map (mrow (Pl.ech (Pl.qA (D.iface (Pl.tyA q) (Pl.datA q))) ((2:Nat)*m.length-(1:Nat)) ((2:Nat)*m.length) (Pl.recX m m.length,Pl.recO m.length)).1.1) (mrow (Pl.ech (Pl.qA (D.iface (Pl.tyA q) (Pl.datA q))) ((2:Nat)*m.length-(1:Nat)) ((2:Nat)*m.length) (Pl.recX m m.length,Pl.recO m.length)).1.2 ((2:Nat)*m.length))).length:Int)) x.2.1)≤b.length)∧Br (Pl.dot (Pl.qF (D.rptr (fieldC q))) (rd i64.slc (sub (List.map (mrow (Pl.ech (Pl.qA (D.iface (Pl.tyA q) (Pl.datA q))) ((2:Nat)*m.length-(1:Nat)) ((2:Nat)*m.length) (Pl.recX m m.length,Pl.recO m.length)).1.1) (mrow (Pl.ech (Pl.qA (D.iface (Pl.tyA q) (Pl.datA q))) ((2:Nat)*m.length-(1:Nat)) ((2:Nat)*m.length) (Pl.recX m m.length,Pl.recO m.length)).1.2 ((2:Nat)*m.length))) (↑(mrow (Pl.cst (Pl.ech (Pl.qA (D.iface (Pl.tyA q) (Pl.datA q))) ((2:Nat)*m.length-(1:Nat)) ((2:Nat)*m.length) (Pl.recX m m.length,Pl.recO m.length)).2) (Pl.ech (Pl.qA (D.iface (Pl.tyA q) (Pl.datA q))) ((2:Nat)*m.length-(1:Nat)) ((2:Nat)*m.length) (Pl.recX m m.length,Pl.recO m.length)).2.length).length:Int) (↑(List.map (mrow (Pl.ech (Pl.qA (D.iface (Pl.tyA q) (Pl.datA q))) ((2:Nat)*m.length-(1:Nat)) ((2:Nat)*m.length) (Pl.recX m m.length,Pl.recO m.length)).1.1) (mrow (Pl.ech (Pl.qA (D.iface (Pl.tyA q) (Pl.datA q))) ((2:Nat)*m.length-(1:Nat)) ((2:Nat)*m.length) (Pl.recX m m.length,Pl.recO m.length)).1.2 ((2:Nat)*m.length))).length:Int)) x.2.1) b !=(0:Int)) (([],rd i64.slc (sub (List.map (mrow (Pl.ech (Pl.qA (D.iface (Pl.tyA q) (Pl.datA q))) ((2:Nat)*m.length-(1:Nat)) ((2:Nat)*m.length) (Pl.recX m m.length,Pl.recO m.length)).1.1) (mrow (Pl.ech (Pl.qA (D.iface (Pl.tyA q) (Pl.datA q))) ((2:Nat)*m.length-(1:Nat)) ((2:Nat)*m.length) (Pl.recX m m.length,Pl.recO m.length)).1.2 ((2:Nat)*m.length))) (↑(mrow (Pl.cst (Pl.ech (Pl.qA (D.iface (Pl.tyA q) (Pl.datA q))) ((2:Nat)*m.length-(1:Nat)) ((2:Nat)*m.length) (Pl.recX m m.length,Pl.recO m.length)).2) (Pl.ech (Pl.qA (D.iface (Pl.tyA q) (Pl.datA q))) ((2:Nat)*m.length-(1:Nat)) ((2:Nat)*m.length) (Pl.recX m m.length,Pl.recO m.length)).2.length).length:Int) (↑(List.map (mrow (Pl.ech (Pl.qA (D.iface (Pl.tyA q) (Pl.datA q))) ((2:Nat)*m.length-(1:Nat)) ((2:Nat)*m.length) (Pl.recX m m.length,Pl.recO m.length)).1.1) (mrow (Pl.ech (Pl.qA (D.iface (Pl.tyA q) (Pl.datA q))) ((2:Nat)*m.length-(1:Nat)) ((2:Nat)*m.length) (Pl.recX m m.length,Pl.recO m.length)).1.2 ((2:Nat)*m.length))).length:Int)) x.2.1,())=C101d.post (fieldD q,m,b,())) (G (x.1,IntKind.i64.wrap (x.2.1+(1:Int)),x.2.2.1,(),x.2.2.2.2))) (Br (decide ((↑m.length:Int)>(0:Int))) ((0:Int)≤(0:Int)∧(0:Int)<(↑m.length:Int)∧(0:Int)≤(↑(List.length (rd i64.slc m (0:Int))):Int)∧(↑(List.length (rd i64.slc m (0:Int))):Int)=(↑(List.length (rd i64.slc m (0:Int))):Int)∧(↑(List.length (rd i64.slc m (0:Int))):Int)*(8:Int)≤(140737488355328:Int)∧ ∃(n:Nat),itl (fun(G:List Int×Int×List (Option (List Int))×PUnit×List (Option (List Nat))×List (Option (List Int))×PUnit→Prop) (x:List Int×Int×List (Option (List Int))×PUnit×List (Option (List Nat))×List (Option (List Int))×PUnit)=>Br (decide (x.2.1<(↑(mrow (Pl.cst (Pl.ech (Pl.qA (D.iface (Pl.tyA q) (Pl.datA q))) ((2:Nat)*m.length-(1:Nat)) ((2:Nat)*m.length) (Pl.recX m m.length,Pl.recO m.length)).2) (Pl.ech (Pl.qA (D.iface (Pl.tyA q) (Pl.datA q))) ((2:Nat)*m.length-(1:Nat)) ((2:Nat)*m.length) (Pl.recX m m.length,Pl.recO m.length)).2.length).length:Int))) ((0:Int)≤x.2.1∧x.2.1<(↑(mrow (Pl.cst (Pl.ech (Pl.qA (D.iface (Pl.tyA q) (Pl.datA q))) ((2:Nat)*m.length-(1:Nat)) ((2:Nat)*m.length) (Pl.recX m m.length,Pl.recO m.length)).2) (Pl.ech (Pl.qA (D.iface (Pl.tyA q) (Pl.datA q))) ((2:Nat)*m.length-(1:Nat)) ((2:Nat)*m.length) (Pl.recX m m.length,Pl.recO m.length)).2.length).length:Int)∧(0:Int)≤x.2.1∧x.2.1<(↑(List.map (mrow (Pl.ech (Pl.qA (D.iface (Pl.tyA q) (Pl.datA q))) ((2:Nat)*m.length-(1:Nat)) ((2:Nat)*m.length) (Pl.recX m m.length,Pl.recO m.length)).1.1) (mrow (Pl.ech (Pl.qA (D.iface (Pl.tyA q) (Pl.datA q))) ((2:Nat)*m.length-(1:Nat)) ((2:Nat)*m.length) (Pl.recX m m.length,Pl.recO m.length)).1.2 ((2:Nat)*m.length))).length:Int)∧(Pl.okF (D.rptr (fieldC q))∧Pl.inAll (Pl.qF (D.rptr (fieldC q))) (rd i64.slc (List.map (mrow (Pl.ech (Pl.qA (D.iface (Pl.tyA q) (Pl.datA q))) ((2:Nat)*m.length-(1:Nat)) ((2:Nat)*m.length) (Pl.recX m m.length,Pl.recO m.length)).1.1) (mrow (Pl.ech (Pl.qA (D.iface (Pl.tyA q) (Pl.datA q))) ((2:Nat)*m.length-(1:Nat)) ((2:Nat)*m.length) (Pl.recX m m.length,Pl.recO m.length)).1.2 ((2:Nat)*m.length))) x.2.1)∧Pl.inAll (Pl.qF (D.rptr (fieldC q))) b∧List.length (rd i64.slc (List.map (mrow (Pl.ech (Pl.qA (D.iface (Pl.tyA q) (Pl.datA q))) ((2:Nat)*m.length-(1:Nat)) ((2:Nat)*m.length) (Pl.recX m m.length,Pl.recO m.length)).1.1) (mrow (Pl.ech (Pl.qA (D.iface (Pl.tyA q) (Pl.datA q))) ((2:Nat)*m.length-(1:Nat)) ((2:Nat)*m.length) (Pl.recX m m.length,Pl.recO m.length)).1.2 ((2:Nat)*m.length))) x.2.1)≤b.length)∧(0:Int)≤rd i64 (mrow (Pl.cst (Pl.ech (Pl.qA (D.iface (Pl.tyA q) (Pl.datA q))) ((2:Nat)*m.length-(1:Nat)) ((2:Nat)*m.length) (Pl.recX m m.length,Pl.recO m.length)).2) (Pl.ech (Pl.qA (D.iface (Pl.tyA q) (Pl.datA q))) ((2:Nat)*m.length-(1:Nat)) ((2:Nat)*m.length) (Pl.recX m m.length,Pl.recO m.length)).2.length) x.2.1∧rd i64 (mrow (Pl.cst (Pl.ech (Pl.qA (D.iface (Pl.tyA q) (Pl.datA q))) ((2:Nat)*m.length-(1:Nat)) ((2:Nat)*m.length) (Pl.recX m m.length,Pl.recO m.length)).2) (Pl.ech (Pl.qA (D.iface (Pl.tyA q) (Pl.datA q))) ((2:Nat)*m.length-(1:Nat)) ((2:Nat)*m.length) (Pl.recX m m.length,Pl.recO m.length)).2.length) x.2.1<(↑(List.length x.1):Int)∧(0:Int)≤rd i64 (mrow (Pl.cst (Pl.ech (Pl.qA (D.iface (Pl.tyA q) (Pl.datA q))) ((2:Nat)*m.length-(1:Nat)) ((2:Nat)*m.length) (Pl.recX m m.length,Pl.recO m.length)).2) (Pl.ech (Pl.qA (D.iface (Pl.tyA q) (Pl.datA q))) ((2:Nat)*m.length-(1:Nat)) ((2:Nat)*m.length) (Pl.recX m m.length,Pl.recO m.length)).2.length) x.2.1∧rd i64 (mrow (Pl.cst (Pl.ech (Pl.qA (D.iface (Pl.tyA q) (Pl.datA q))) ((2:Nat)*m.length-(1:Nat)) ((2:Nat)*m.length) (Pl.recX m m.length,Pl.recO m.length)).2) (Pl.ech (Pl.qA (D.iface (Pl.tyA q) (Pl.datA q))) ((2:Nat)*m.length-(1:Nat)) ((2:Nat)*m.length) (Pl.recX m m.length,Pl.recO m.length)).2.length) x.2.1<(↑(List.length x.1):Int)∧G (List.set x.1 (Int.toNat (rd i64 (mrow (Pl.cst (Pl.ech (Pl.qA (D.iface (Pl.tyA q) (Pl.datA q))) ((2:Nat)*m.length-(1:Nat)) ((2:Nat)*m.length) (Pl.recX m m.length,Pl.recO m.length)).2) (Pl.ech (Pl.qA (D.iface (Pl.tyA q) (Pl.datA q))) ((2:Nat)*m.length-(1:Nat)) ((2:Nat)*m.length) (Pl.recX m m.length,Pl.recO m.length)).2.length) x.2.1)) (Pl.dot (Pl.qF (D.rptr (fieldC q))) (rd i64.slc (List.map (mrow (Pl.ech (Pl.qA (D.iface (Pl.tyA q) (Pl.datA q))) ((2:Nat)*m.length-(1:Nat)) ((2:Nat)*m.length) (Pl.recX m m.length,Pl.recO m.length)).1.1) (mrow (Pl.ech (Pl.qA (D.iface (Pl.tyA q) (Pl.datA q))) ((2:Nat)*m.length-(1:Nat)) ((2:Nat)*m.length) (Pl.recX m m.length,Pl.recO m.length)).1.2 ((2:Nat)*m.length))) x.2.1) b),IntKind.i64.wrap (x.2.1+(1:Int)),x.2.2.1,(),x.2.2.2.2)) ((x.1,[],())=C101d.post (fieldD q,m,b,()))) n (List.replicate (↑(List.length (rd i64.slc m (0:Int))):Int).toNat (0:Int),(0:Int),x.2.2.1,(),x.2.2.2.2)) (∃(n:Nat),itl (fun(G:List Int×Int×List (Option (List Int))×PUnit×List (Option (List Nat))×List (Option (List Int))×PUnit→Prop) (x:List Int×Int×List (Option (List Int))×PUnit×List (Option (List Nat))×List (Option (List Int))×PUnit)=>Br (decide (x.2.1<(↑(mrow (Pl.cst (Pl.ech (Pl.qA (D.iface (Pl.tyA q) (Pl.datA q))) ((2:Nat)*m.length-(1:Nat)) ((2:Nat)*m.length) (Pl.recX m m.length,Pl.recO m.length)).2) (Pl.ech (Pl.qA (D.iface (Pl.tyA q) (Pl.datA q))) ((2:Nat)*m.length-(1:Nat)) ((2:Nat)*m.length) (Pl.recX m m.length,Pl.recO m.length)).2.length).length:Int))) ((0:Int)≤x.2.1∧x.2.1<(↑(mrow (Pl.cst (Pl.ech (Pl.qA (D.iface (Pl.tyA q) (Pl.datA q))) ((2:Nat)*m.length-(1:Nat)) ((2:Nat)*m.length) (Pl.recX m m.length,Pl.recO m.length)).2) (Pl.ech (Pl.qA (D.iface (Pl.tyA q) (Pl.datA q))) ((2:Nat)*m.length-(1:Nat)) ((2:Nat)*m.length) (Pl.recX m m.length,Pl.recO m.length)).2.length).length:Int)∧(0:Int)≤x.2.1∧x.2.1<(↑(List.map (mrow (Pl.ech (Pl.qA (D.iface (Pl.tyA q) (Pl.datA q))) ((2:Nat)*m.length-(1:Nat)) ((2:Nat)*m.length) (Pl.recX m m.length,Pl.recO m.length)).1.1) (mrow (Pl.ech (Pl.qA (D.iface (Pl.tyA q) (Pl.datA q))) ((2:Nat)*m.length-(1:Nat)) ((2:Nat)*m.length) (Pl.recX m m.length,Pl.recO m.length)).1.2 ((2:Nat)*m.length))).length:Int)∧(Pl.okF (D.rptr (fieldC q))∧Pl.inAll (Pl.qF (D.rptr (fieldC q))) (rd i64.slc (List.map (mrow (Pl.ech (Pl.qA (D.iface (Pl.tyA q) (Pl.datA q))) ((2:Nat)*m.length-(1:Nat)) ((2:Nat)*m.length) (Pl.recX m m.length,Pl.recO m.length)).1.1) (mrow (Pl.ech (Pl.qA (D.iface (Pl.tyA q) (Pl.datA q))) ((2:Nat)*m.length-(1:Nat)) ((2:Nat)*m.length) (Pl.recX m m.length,Pl.recO m.length)).1.2 ((2:Nat)*m.length))) x.2.1)∧Pl.inAll (Pl.qF (D.rptr (fieldC q))) b∧List.length (rd i64.slc (List.map (mrow (Pl.ech (Pl.qA (D.iface (Pl.tyA q) (Pl.datA q))) ((2:Nat)*m.length-(1:Nat)) ((2:Nat)*m.length) (Pl.recX m m.length,Pl.recO m.length)).1.1) (mrow (Pl.ech (Pl.qA (D.iface (Pl.tyA q) (Pl.datA q))) ((2:Nat)*m.length-(1:Nat)) ((2:Nat)*m.length) (Pl.recX m m.length,Pl.recO m.length)).1.2 ((2:Nat)*m.length))) x.2.1)≤b.length)∧(0:Int)≤rd i64 (mrow (Pl.cst (Pl.ech (Pl.qA (D.iface (Pl.tyA q) (Pl.datA q))) ((2:Nat)*m.length-(1:Nat)) ((2:Nat)*m.length) (Pl.recX m m.length,Pl.recO m.length)).2) (Pl.ech (Pl.qA (D.iface (Pl.tyA q) (Pl.datA q))) ((2:Nat)*m.length-(1:Nat)) ((2:Nat)*m.length) (Pl.recX m m.length,Pl.recO m.length)).2.length) x.2.1∧rd i64 (mrow (Pl.cst (Pl.ech (Pl.qA (D.iface (Pl.tyA q) (Pl.datA q))) ((2:Nat)*m.length-(1:Nat)) ((2:Nat)*m.length) (Pl.recX m m.length,Pl.recO m.length)).2) (Pl.ech (Pl.qA (D.iface (Pl.tyA q) (Pl.datA q))) ((2:Nat)*m.length-(1:Nat)) ((2:Nat)*m.length) (Pl.recX m m.length,Pl.recO m.length)).2.length) x.2.1<(↑(List.length x.1):Int)∧(0:Int)≤rd i64 (mrow (Pl.cst (Pl.ech (Pl.qA (D.iface (Pl.tyA q) (Pl.datA q))) ((2:Nat)*m.length-(1:Nat)) ((2:Nat)*m.length) (Pl.recX m m.length,Pl.recO m.length)).2) (Pl.ech (Pl.qA (D.iface (Pl.tyA q) (Pl.datA q))) ((2:Nat)*m.length-(1:Nat)) ((2:Nat)*m.length) (Pl.recX m m.length,Pl.recO m.length)).2.length) x.2.1∧rd i64 (mrow (Pl.cst (Pl.ech (Pl.qA (D.iface (Pl.tyA q) (Pl.datA q))) ((2:Nat)*m.length-(1:Nat)) ((2:Nat)*m.length) (Pl.recX m m.length,Pl.recO m.length)).2) (Pl.ech (Pl.qA (D.iface (Pl.tyA q) (Pl.datA q))) ((2:Nat)*m.length-(1:Nat)) ((2:Nat)*m.length) (Pl.recX m m.length,Pl.recO m.length)).2.length) x.2.1<(↑(List.length x.1):Int)∧G (List.set x.1 (Int.toNat (rd i64 (mrow (Pl.cst (Pl.ech (Pl.qA (D.iface (Pl.tyA q) (Pl.datA q))) ((2:Nat)*m.length-(1:Nat)) ((2:Nat)*m.length) (Pl.recX m m.length,Pl.recO m.length)).2) (Pl.ech (Pl.qA (D.iface (Pl.tyA q) (Pl.datA q))) ((2:Nat)*m.length-(1:Nat)) ((2:Nat)*m.length) (Pl.recX m m.length,Pl.recO m.length)).2.length) x.2.1)) (Pl.dot (Pl.qF (D.rptr (fieldC q))) (rd i64.slc (List.map (mrow (Pl.ech (Pl.qA (D.iface (Pl.tyA q) (Pl.datA q))) ((2:Nat)*m.length-(1:Nat)) ((2:Nat)*m.length) (Pl.recX m m.length,Pl.recO m.length)).1.1) (mrow (Pl.ech (Pl.qA (D.iface (Pl.tyA q) (Pl.datA q))) ((2:Nat)*m.length-(1:Nat)) ((2:Nat)*m.length) (Pl.recX m m.length,Pl.recO m.length)).1.2 ((2:Nat)*m.length))) x.2.1) b),IntKind.i64.wrap (x.2.1+(1:Int)),x.2.2.1,(),x.2.2.2.2)) ((x.1,[],())=C101d.post (fieldD q,m,b,()))) n (x.1,(0:Int),x.2.2.1,(),x.2.2.2.2)))) n ([],(0:Int),List.map (fun(x:Option (List i64.El))=>none) (Pl.ech (Pl.qA (D.iface (Pl.tyA q) (Pl.datA q))) ((2:Nat)*m.length-(1:Nat)) ((2:Nat)*m.length) (Pl.recX m m.length,Pl.recO m.length)).1.1,(),List.map (fun(x:Option (List (Ty.ref (0:Nat)).El))=>none) (Pl.ech (Pl.qA (D.iface (Pl.tyA q) (Pl.datA q))) ((2:Nat)*m.length-(1:Nat)) ((2:Nat)*m.length) (Pl.recX m m.length,Pl.recO m.length)).1.2,List.map (fun(x:Option (List i64.El))=>none) (Pl.cst (Pl.ech (Pl.qA (D.iface (Pl.tyA q) (Pl.datA q))) ((2:Nat)*m.length-(1:Nat)) ((2:Nat)*m.length) (Pl.recX m m.length,Pl.recO m.length)).2),())) (by kernel_rfl) ?_
 rw[recS_eq hq,qF_f,c2,rowsD_eq,hp]
 have hlC:=F.lC
 have hlD:=F.lD
 have hrD:=F.rD
 have hW:Pl.den q m b=some (Pl.denW q m b):=by
  unfold Pl.denW
  cases h:Pl.den q m b with
  |none=>exact absurd h hd
  |some w=>rfl
 unfold Pl.den at hW
 have hCe:(Pl.recS q m).2=Pl.echC q m:=rfl
 have hsub:sub (Pl.echD q m) ((Pl.recS q m).2.length:Int) ((Pl.echD q m).length:Int)=(Pl.echD q m).drop (Pl.echC q m).length:=sub_drop _ _
 rw[hsub]
 rw[hCe]at c1⊢
 generalize Pl.echC q m=C at*
 generalize Pl.echD q m=DD at*
 generalize Pl.denW q m b=W at*
 have hpre: ∀r∈DD,Pl.okF (D.rptr (fieldC q))∧Pl.inAll q r∧Pl.inAll q b∧r.length≤b.length:=fun r hr=>⟨okF_f hq,⟨(hrD r hr).2,by rw[(hrD r hr).1];omega⟩,⟨s3,hb⟩,by rw[(hrD r hr).1];omega⟩
 refine⟨p1,⟨p2,rfl⟩,F.m1,F.a1,F.m2,F.a2,c1,by omega,by omega,itl_rule (fun(s:List Int×Int×XS×Unit×OS×XS×Unit)=> ∃(i:Nat),s.1=[]∧s.2.1=(i:Int)∧i≤(DD.drop C.length).length∧Pl.denL q b ((DD.drop C.length).drop i)=some W) (fun s=>(((DD.drop C.length).length:Int)-s.2.1).toNat) ⟨0,rfl,rfl,Nat.zero_le _,hW⟩ ?_⟩
 have hrE: ∀r∈DD.drop C.length,r∈DD:=fun r hr=>List.mem_of_mem_drop hr
 have hlE:(DD.drop C.length).length≤1000000000:=by rw[List.length_drop];omega
 generalize DD.drop C.length=EE at*
 rintro⟨x,i0,A,⟨⟩,O,K,⟨⟩⟩ G ⟨i,ex,e,hi,hf⟩ hG
 simp only at ex e hf hG⊢
 subst ex e
 refine Br_of (fun h=> ?_) (fun h=> ?_)
 ·have h:i<EE.length:=by have:=of_decide_eq_true h;omega
  rw[rd_rr,wrap_i64 (by omega) (by omega)]
  rw[drop_cons [] h,Pl.denL]at hf
  refine⟨by omega,by omega,hpre _ (hrE _ (rowD_mem h)),Br_of (fun h1=> ?_) (fun h1=> ?_)⟩
  ·have h1:Pl.dot q (EE.getD i []) b≠0:=by simpa using h1
   rw[decide_eq_true h1,cond_true]at hf
   injection hf with hf
   rw[←hf]
  ·have h1:Pl.dot q (EE.getD i []) b=0:=by simpa using h1
   rw[decide_eq_false (not_not_intro h1),cond_false]at hf
   exact hG _ ⟨i+1,rfl,rfl,by omega,hf⟩ (by simp only;omega)
 ·have h:i=EE.length:=by have:=of_decide_eq_false h;omega
  subst h
  rw[List.drop_length]at hf
  cases hf
end Fd
end
section
set_option linter.unusedVariables false
set_option linter.unusedSimpArgs false
set_option maxRecDepth 100000
namespace Fd
open Go Fw Go.Proofs

theorem snd_join {P:Program} {f:FuncId} {args res:List Ar} {pa pb p:Ars args→Prop} {post:Ars args→Ars res} (ha:Sound P f ⟨args,res,pa,post,none⟩) (hb:Sound P f ⟨args,res,pb,post,none⟩) (h: ∀x,p x→pa x∨pb x):Sound P f ⟨args,res,p,post,none⟩:=
 ⟨⟨fun x hx=>(h x hx).elim (ha.1.a x) (hb.1.a x),fun x hx=>(h x hx).elim (ha.1.r x) (hb.1.r x)⟩,fun x hx=>(h x hx).elim (ha.2 x) (hb.2 x)⟩
theorem snd_less {P:Program} {f:FuncId} {args res:List Ar} {pa p:Ars args→Prop} {post post':Ars args→Ars res} (ha:Sound P f ⟨args,res,pa,post,none⟩) (h: ∀x,p x→pa x) (hp: ∀x,p x→encs res (post x)=encs res (post' x)):Sound P f ⟨args,res,p,post',none⟩:=by
 refine⟨⟨fun x hx=>ha.1.a x (h x hx),fun x hx=>by have:=ha.1.r x (h x hx);show D.nrs (encs res (post' x));rw[←hp x hx];exact this⟩,fun x hx w O vs hO hl=> ?_⟩
 have conv: ∀e w',CPost ⟨args,res,pa,post,none⟩ x w ⟨O,nn⟩ e w'→CPost ⟨args,res,p,post',none⟩ x w ⟨O,nn⟩ e w':=by
  rintro e w' ⟨v,he,hb,hv,_⟩
  refine⟨v,he,hb,fun ι=> ?_,fun e he=>by cases he⟩
  show ARep w' ⟨O,nn⟩ ι (resAV (encs res (post' x))) v
  rw[←hp x hx]
  exact hv ι
 rcases ha.2 x (h x hx) w O vs hO hl with⟨h1,h2⟩|⟨v,w',h1,h2⟩
 ·exact .inl ⟨h1,h2.mono conv⟩
 ·exact .inr ⟨v,w',h1,conv _ _ h2⟩
theorem nrc101s:NRC C101s:=⟨fun x hx=>⟨okF_nr hx.1.1,rfl,rfl,trivial⟩,fun x hx=>⟨rfl,trivial,trivial⟩⟩
theorem nrc101d:NRC C101d:=⟨fun x hx=>⟨okF_nr hx.1.1,rfl,rfl,trivial⟩,fun x hx=>⟨rfl,rfl,trivial⟩⟩
theorem nrcDe {p:D×List (List Int)×List Int×Unit→Prop}:NRC (Cdeny p):=⟨fun x hx=>⟨okF_nr hx.1.1,rfl,rfl,trivial⟩,fun x hx=>⟨rfl,trivial,trivial⟩⟩
theorem snd101s:Sound Try.prog 101 C101s:=fn_sound (T:=T101) (fn:=Try.f101) (tokg (T:=T101) ⟨snd94,trivial⟩ ⟨snd90,snd91,trivial⟩ trivial noInv noCv) Try.func101 (by kernel_rfl) H101 vc101s (by kernel_rfl) (hC:=nrc101s)
theorem snd101d:Sound Try.prog 101 C101d:=fn_sound (T:=T101) (fn:=Try.f101) (tokg (T:=T101) ⟨snd94,trivial⟩ ⟨snd90,snd91,trivial⟩ trivial noInv noCv) Try.func101 (by kernel_rfl) H101 vc101d (by kernel_rfl) (hC:=nrc101d)
theorem denL_mem {q:Int} {b w:List Int}: ∀ {l:List (List Int)},Pl.denL q b l=some w→w∈l
 |[],h=>by cases h
 |r::l,h=>by
  rw[Pl.denL]at h
  by_cases e:Pl.dot q r b≠0
  ·rw[decide_eq_true e,cond_true]at h
   injection h with h
   subst h
   exact List.mem_cons_self
  ·rw[decide_eq_false e,cond_false]at h
   exact List.mem_cons_of_mem _ (denL_mem h)
theorem den_len {q:Int} (hq:isQ q) {m:List (List Int)} {b w:List Int} (hs:Pl.sys q m b=0) (h:Pl.den q m b=some w):w.length=m.length∧0<m.length∧ ∀x∈w,Pl.inQ q x:=by
 obtain⟨s1,_,_⟩:=den_sys hs
 obtain⟨_,_,F⟩:=pre_new hq s1
 have hm:=List.mem_of_mem_drop (denL_mem h)
 obtain⟨h1,h2⟩:=F.rD w hm
 refine⟨h1, ?_,h2⟩
 have:=List.length_pos_of_mem hm
 rw[F.lD]at this
 exact this
theorem deny_bad {q:Int} {m:List (List Int)} {b:List Int} (h:Pl.sys q m b≠0):Pl.deny q m b=([],false):=by unfold Pl.deny;rw[decide_eq_true h];rfl
theorem deny_some {q:Int} {m:List (List Int)} {b:List Int} (h:Pl.sys q m b=0) (hd:Pl.den q m b≠none):Pl.deny q m b=(Pl.denW q m b,true):=by
 unfold Pl.deny Pl.denW
 rw[decide_eq_false (not_not_intro h)]
 cases e:Pl.den q m b with
 |none=>exact absurd e hd
 |some w=>rfl
theorem deny_none {q:Int} {m:List (List Int)} {b:List Int} (h:Pl.sys q m b=0) (hd:Pl.den q m b=none):Pl.deny q m b=([],false):=by
 unfold Pl.deny
 rw[decide_eq_false (not_not_intro h),hd];rfl
theorem vc46s: ∀x,C46s.pre x→VC (T46 C101s) H0 Try.f46 C46s x:=by
 rintro⟨v,(m:List (List Int)),(b:List Int),⟨⟩⟩ ⟨⟨⟨q,hq,(rfl:v=_)⟩,(hm:Pl.okMM m),(hb:b.length≤1000000000)⟩,(hd:Pl.sys (Pl.qF (fieldD q)) m b=0→Pl.den (Pl.qF (fieldD q)) m b=none)⟩
 rw[qF_d]at hd
 refine cast (α:=(Pl.okF (D.rptr (fieldC q))∧Pl.okMM m∧b.length≤(1000000000:Nat))∧Br (Pl.sys (Pl.qF (D.rptr (fieldC q))) m b !=(0:Int)) (([],false,())=C46s.post (fieldD q,m,b,())) ((Pl.okSy (D.rptr (fieldC q),m,b,())∧Pl.sys (Pl.qF (D.rptr (fieldC q))) m b=(0:Int)∧Pl.den (Pl.qF (D.rptr (fieldC q))) m b=none)∧([], !true,())=C46s.post (fieldD q,m,b,()))) (by kernel_rfl) ?_
 have hp:C46s.post (fieldD q,m,b,())=((Pl.deny q m b).1,(Pl.deny q m b).2,()):=rfl
 rw[hp,qF_f]
 refine⟨⟨okF_f hq,hm,hb⟩,Br_of (fun h=> ?_) (fun h=> ?_)⟩
 ·have h:Pl.sys q m b≠0:=by simpa using h
  rw[deny_bad h]
 ·have h:Pl.sys q m b=0:=by simpa using h
  refine⟨⟨⟨okF_f hq,hm,hb⟩,h,hd h⟩, ?_⟩
  rw[deny_none h (hd h)];rfl
theorem vc46d: ∀x,C46d.pre x→VC (T46 C101d) H0 Try.f46 C46d x:=by
 rintro⟨v,(m:List (List Int)),(b:List Int),⟨⟩⟩ ⟨⟨⟨q,hq,(rfl:v=_)⟩,(hm:Pl.okMM m),(hb:b.length≤1000000000)⟩,(h:Pl.sys (Pl.qF (fieldD q)) m b=0),(hd:Pl.den (Pl.qF (fieldD q)) m b≠none)⟩
 rw[qF_d]at h hd
 refine cast (α:=(Pl.okF (D.rptr (fieldC q))∧Pl.okMM m∧b.length≤(1000000000:Nat))∧Br (Pl.sys (Pl.qF (D.rptr (fieldC q))) m b !=(0:Int)) (([],false,())=C46d.post (fieldD q,m,b,())) ((Pl.okSy (D.rptr (fieldC q),m,b,())∧Pl.sys (Pl.qF (D.rptr (fieldC q))) m b=(0:Int)∧Pl.den (Pl.qF (D.rptr (fieldC q))) m b≠none)∧(0:Nat)<(Pl.denW (Pl.qF (D.rptr (fieldC q))) m b).length∧(Pl.denW (Pl.qF (D.rptr (fieldC q))) m b,true,())=C46d.post (fieldD q,m,b,()))) (by kernel_rfl) ?_
 have hp:C46d.post (fieldD q,m,b,())=((Pl.deny q m b).1,(Pl.deny q m b).2,()):=rfl
 rw[hp,qF_f]
 refine⟨⟨okF_f hq,hm,hb⟩,Br_of (fun h'=> ?_) (fun _=>⟨⟨⟨okF_f hq,hm,hb⟩,h,hd⟩, ?_, ?_⟩)⟩
 ·have h':Pl.sys q m b≠0:=by simpa using h'
  exact absurd h h'
 ·unfold Pl.denW
  cases e:Pl.den q m b with
  |none=>exact absurd e hd
  |some w=>
   obtain⟨h1,h2,_⟩:=den_len hq h e
   show 0<w.length
   omega
 ·rw[deny_some h hd]
theorem snd46s:Sound Try.prog 46 C46s:=fn_sound (T:=T46 C101s) (fn:=Try.f46) (tok0 ⟨snd92,snd101s,trivial⟩) Try.func46 (by kernel_rfl) H0 vc46s (by kernel_rfl) (hC:=nrcDe)
theorem snd46d:Sound Try.prog 46 C46d:=fn_sound (T:=T46 C101d) (fn:=Try.f46) (tok0 ⟨snd92,snd101d,trivial⟩) Try.func46 (by kernel_rfl) H0 vc46d (by kernel_rfl) (hC:=nrcDe)
theorem sd_or (x:D×List (List Int)×List Int×Unit):Pl.isS x∨Pl.isD x:=by
 by_cases h:Pl.sys (Pl.qF x.1) x.2.1 x.2.2.1=0
 ·by_cases hd:Pl.den (Pl.qF x.1) x.2.1 x.2.2.1=none
  ·exact .inl fun _=>hd
  ·exact .inr ⟨h,hd⟩
 ·exact .inl fun h'=>absurd h' h
theorem snd46:Sound Try.prog 46 C46:=snd_join snd46s snd46d fun x hx=>(sd_or x).elim (fun h=> .inl ⟨hx.1,h⟩) (fun h=> .inr ⟨hx.1,h⟩)
def C78q:Con:=⟨[I],[.raw,I],fun(x:Int×Unit)=>isQ x.1,fun(x:Int×Unit)=>(fieldD x.1,0,()),none⟩
theorem snd78q:Sound Try.prog 78 C78q:=snd_less snd78 (fun _ _=>trivial) fun x hx=>by
 obtain⟨q,⟨⟩⟩:=x
 rw[show(newF q,bif Pl.okQ q then(0:Int)else 20,())=(fieldD q,(0:Int),())from newF_yes hx]
end Fd
end
section
set_option linter.unusedVariables false
set_option linter.unusedSimpArgs false
set_option maxRecDepth 100000
namespace Fd
open Go Fw Go.Proofs

def C24:Con:=⟨[],[B],fun _=>True,fun _=>(true,()),none⟩
def T24:Ctx:=TT [(78,C78q),(80,C80),(46,C46),(42,C42),(34,C34),(55,C55)]
end Fd
end
section
set_option linter.unusedVariables false
set_option linter.unusedSimpArgs false
set_option maxRecDepth 100000
namespace Fd
open Go Fw Go.Proofs

theorem isQ_b {q:Int} (h:Pl.okQ q=true):isQ q:=okQ_iff.1 h
theorem newR_ok {q:Int} (h:Pl.okQ q=true):Pl.newR q=RF q:=by unfold Pl.newR;rw[h];rfl
theorem aw1:Pl.md 8=[1,1,0,1]:=by kernel_rfl
theorem aw2:Pl.gen 8=2:=by kernel_rfl
theorem aw3:Pl.mul 8 2 4=3:=by kernel_rfl
theorem aw4:Pl.trace 8 1=1:=by kernel_rfl
theorem aw5:Pl.deny 5 [[1,2],[2,4]] [1,3]=([3,1],true):=by kernel_rfl
theorem ok8:isQ 8:=isQ_b (by kernel_rfl)
theorem ok5:isQ 5:=isQ_b (by kernel_rfl)
theorem vc24: ∀x,C24.pre x→VC T24 H0 Try.f24 C24 x:=by
 rintro⟨⟩-
 refine cast (α:=((2:Int)≤(8:Int)∧(8:Int)≤(65536:Int)∧(1:Int)≤Pl.K (8:Int))∧Br ((0:I.El) !=(0:Int)) ((false,())=C24.post ()) (Pl.okF (D.rptr (fieldC (8:Int)))∧((2:Int)≤(5:Int)∧(5:Int)≤(65536:Int)∧(1:Int)≤Pl.K (5:Int))∧(Pl.okSy (D.rptr (fieldC (5:Int)),[[(1:Int),(2:Int)],[(2:Int),(4:Int)]],[(1:Int),(3:Int)],())∧True)∧Br ((↑(Pl.md (Pl.qF (D.rptr (fieldC (8:Int))))).length:Int)==(4:Int)) ((0:Int)≤(2:Int)∧(2:Int)<(↑(Pl.md (Pl.qF (D.rptr (fieldC (8:Int))))).length:Int)∧Br (rd i64 (Pl.md (Pl.qF (D.rptr (fieldC (8:Int))))) (2:Int)==(0:Int)) (Pl.okF (D.rptr (fieldC (8:Int)))∧Br (Pl.gen (Pl.qF (D.rptr (fieldC (8:Int))))==(2:Int)) (Pl.okF (D.rptr (fieldC (8:Int)))∧Br (Pl.mul (Pl.qF (D.rptr (fieldC (8:Int)))) ((2:Int)%Pl.qF (D.rptr (fieldC (8:Int)))) ((4:Int)%Pl.qF (D.rptr (fieldC (8:Int))))==(3:Int)) (Pl.okF (D.rptr (fieldC (8:Int)))∧Br (Pl.trace (Pl.qF (D.rptr (fieldC (8:Int)))) ((1:Int)%Pl.qF (D.rptr (fieldC (8:Int))))==(1:Int)) (Br (Pl.deny (Pl.qF (D.rptr (fieldC (5:Int)))) [[(1:Int),(2:Int)],[(2:Int),(4:Int)]] [(1:Int),(3:Int)]).2 (((↑(Pl.deny (Pl.qF (D.rptr (fieldC (5:Int)))) [[(1:Int),(2:Int)],[(2:Int),(4:Int)]] [(1:Int),(3:Int)]).1.length:Int)==(2:Int),())=C24.post ()) ((false,())=C24.post ())) ((false,())=C24.post ())) ((false,())=C24.post ())) ((false,())=C24.post ())) ((false,())=C24.post ())) ((false,())=C24.post ()))) (by kernel_rfl) ?_
 rw[qF_f,qF_f,aw1,aw2,aw5,show(2:Int)%8=2 by decide,show(4:Int)%8=4 by decide,show(1:Int)%8=1 by decide,aw3,aw4]
 refine⟨ok8,okF_f ok8,ok5,⟨⟨okF_f ok5, ?_, ?_⟩,trivial⟩, ?_⟩
 ·refine⟨by decide,fun r hr=> ?_⟩
  simp at hr
  rcases hr with rfl|rfl<;>decide
 ·decide
 ·exact⟨by decide,by decide,okF_f ok8,okF_f ok8,okF_f ok8,rfl⟩
theorem snd24:Sound Try.prog 24 C24:=fn_sound (T:=T24) (fn:=Try.f24) (tok0 ⟨snd78q,snd80,snd46,snd42,snd34,snd55,trivial⟩) Try.func24 (by kernel_rfl) H0 vc24 (by kernel_rfl)
end Fd
end
section
set_option linter.unusedVariables false
set_option linter.unusedSimpArgs false
set_option maxRecDepth 100000
namespace Fd
open Go Fw Go.Proofs

def Pl.same (a b:List Int):Bool:=decide (a=b)
def C50:Con:=⟨[L,L],[B],fun(x:List Int×List Int×Unit)=>x.1.length≤1000000000,fun(x:List Int×List Int×Unit)=>(Pl.same x.1 x.2.1,()),none⟩
def H50:Hints:=lo [(0,⟨[0,1],[(5,si)]⟩)]
end Fd
end
section
set_option linter.unusedVariables false
set_option linter.unusedSimpArgs false
set_option maxRecDepth 100000
namespace Fd
open Go Fw Go.Proofs

theorem vc50 : ∀ x, C50.pre x → VC (TT []) H50 Try.f50 C50 x := by
  rintro ⟨(a : List Int), (b : List Int), ⟨⟩⟩ (hl : a.length ≤ 1000000000)
  refine cast (α := Br ((↑a.length : Int) != (↑b.length : Int)) ((false, ()) = C50.post (a, b, ())) (∃ (n : Nat), itl (fun (G : Int × PUnit → Prop) (x : Int × PUnit) => Br (decide (x.1 < (↑a.length : Int))) ((0 : Int) ≤ x.1 ∧ x.1 < (↑a.length : Int) ∧ (0 : Int) ≤ x.1 ∧ x.1 < (↑b.length : Int) ∧ Br (rd i64 a x.1 != rd i64 b x.1) ((false, ()) = C50.post (a, b, ())) (G (IntKind.i64.wrap (x.1 + (1 : Int)), ()))) ((true, ()) = C50.post (a, b, ()))) n ((0 : Int), ()))) (by kernel_rfl) ?_
  have hp : C50.post (a, b, ()) = (decide (a = b), ()) := rfl
  rw [hp]
  refine Br_of (fun h => ?_) (fun h => ?_)
  · have h : (a.length : Int) ≠ b.length := by simpa using h
    rw [decide_eq_false (fun e => h (by rw [e]))]
  have h : a.length = b.length := by have : (a.length : Int) = b.length := by simpa using h
                                     omega
  refine itl_rule (fun s => ∃ i : Nat, s.1 = (i : Int) ∧ i ≤ a.length ∧ a.take i = b.take i) (fun s => ((a.length : Int) - s.1).toNat) ⟨0, rfl, Nat.zero_le _, rfl⟩ ?_
  rintro ⟨i0, ⟨⟩⟩ G ⟨i, e, hi, hf⟩ hG
  simp only at e hf hG ⊢
  subst e
  refine Br_of (fun h1 => ?_) (fun h1 => ?_)
  · have h1 : i < a.length := by have := of_decide_eq_true h1; omega
    rw [rd_i, rd_i, wrap_i64 (by omega) (by omega)]
    refine ⟨by omega, by omega, by omega, by omega, Br_of (fun h2 => ?_) (fun h2 => ?_)⟩
    · have h2 : a.getD i 0 ≠ b.getD i 0 := by simpa using h2
      rw [decide_eq_false (fun e => h2 (by rw [e]))]
    · have h2 : a.getD i 0 = b.getD i 0 := by simpa using h2
      refine hG _ ⟨i + 1, rfl, by omega, ?_⟩ (by simp only; omega)
      have hb : i < b.length := by omega
      rw [List.getD_eq_getElem?_getD, List.getD_eq_getElem?_getD, List.getElem?_eq_getElem h1, List.getElem?_eq_getElem hb] at h2
      have h2 : a[i] = b[i] := h2
      rw [List.take_succ_eq_append_getElem h1, List.take_succ_eq_append_getElem hb, hf, h2]
  · have h1 : i = a.length := by have := of_decide_eq_false h1; omega
    subst h1
    rw [List.take_length, h, List.take_length] at hf
    rw [decide_eq_true hf]
section
variable {q : Int} (hq : isQ q) {a b : List Int}
include hq
end
end Fd
end
section
set_option linter.unusedVariables false
set_option linter.unusedSimpArgs false
set_option linter.unusedSectionVars false
set_option maxRecDepth 100000
namespace Fd
open Go Fw Go.Proofs

section
variable {q : Int} (hq : isQ q)
include hq
end
theorem snd50:Sound Try.prog 50 C50:=fn_sound (T:=TT []) (fn:=Try.f50) (tok0 trivial) Try.func50 (by kernel_rfl) H50 vc50 (by kernel_rfl)
end Fd
end
section
set_option linter.unusedVariables false
set_option linter.unusedSimpArgs false
set_option maxRecDepth 100000
namespace Fd
open Go Fw Go.Proofs


def C30n:Con:=⟨[.raw,I,I],[I],fun(x:D×Int×Int×Unit)=>x.1=nilP,fun _=>(0,()),none⟩
def T30n:Ctx:=TT []
def C32n:Con:=⟨[.raw,I,I],[I],fun(x:D×Int×Int×Unit)=>x.1=nilP,fun _=>(0,()),none⟩
def T32n:Ctx:=TT []
def C34n:Con:=⟨[.raw,I,I],[I],fun(x:D×Int×Int×Unit)=>x.1=nilP,fun _=>(0,()),none⟩
def T34n:Ctx:=TT []
def C36n:Con:=⟨[.raw,I,I],[I,I],fun(x:D×Int×Int×Unit)=>x.1=nilP,fun _=>(0,3,()),none⟩
def T36n:Ctx:=TT []
def C38n:Con:=⟨[.raw,I,I],[I,I],fun(x:D×Int×Int×Unit)=>x.1=nilP,fun _=>(0,3,()),none⟩
def T38n:Ctx:=TT []
def C39n:Con:=⟨[.raw,I],[I,I],fun(x:D×Int×Unit)=>x.1=nilP,fun _=>(0,3,()),none⟩
def T39n:Ctx:=TT []
def C42n:Con:=⟨[.raw],[I],fun(x:D×Unit)=>x.1=nilP,fun _=>(0,()),none⟩
def T42n:Ctx:=TT []
def C51n:Con:=⟨[.raw],[I,I],fun(x:D×Unit)=>x.1=nilP,fun _=>(0,0,()),none⟩
def T51n:Ctx:=TT []
def C52n:Con:=⟨[.raw],[I],fun(x:D×Unit)=>x.1=nilP,fun _=>(0,()),none⟩
def T52n:Ctx:=TT []
def C53n:Con:=⟨[.raw,I],[I,I],fun(x:D×Int×Unit)=>x.1=nilP,fun _=>(0,3,()),none⟩
def T53n:Ctx:=TT []
def C55n:Con:=⟨[.raw,I],[I],fun(x:D×Int×Unit)=>x.1=nilP,fun _=>(0,()),none⟩
def T55n:Ctx:=TT []
def C57n:Con:=⟨[.raw,I],[I],fun(x:D×Int×Unit)=>x.1=nilP,fun _=>(0,()),none⟩
def T57n:Ctx:=TT []
def C59n:Con:=⟨[.raw,I],[L],fun(x:D×Int×Unit)=>x.1=nilP,fun _=>([],()),none⟩
def T59n:Ctx:=TT []
def C80n:Con:=⟨[.raw],[L],fun(x:D×Unit)=>x.1=nilP,fun _=>([],()),none⟩
def T80n:Ctx:=TT []
def C77n:Con:=⟨[.raw,L],[I],fun(x:D×List Int×Unit)=>x.1=nilP,fun _=>(3,()),none⟩
def T77n:Ctx:=TT []
def C65n:Con:=⟨[.raw,L,I],[I,I],fun(x:D×List Int×Int×Unit)=>x.1=nilP,fun _=>(0,3,()),none⟩
def T65n:Ctx:=TT [(77,C77n)]
def C114n:Con:=⟨[.raw,L,L],[I],fun(x:D×List Int×List Int×Unit)=>x.1=nilP,fun _=>(3,()),none⟩
def T114n:Ctx:=TT [(77,C77n)]
def C66n:Con:=⟨[.raw,L,L],[L,I],fun(x:D×List Int×List Int×Unit)=>x.1=nilP,fun _=>([],3,()),none⟩
def T66n:Ctx:=TT [(114,C114n)]
def C71n:Con:=⟨[.raw,L,L],[L,L,I],fun(x:D×List Int×List Int×Unit)=>x.1=nilP,fun _=>([],[],3,()),none⟩
def T71n:Ctx:=TT [(114,C114n)]
def C67n:Con:=⟨[.raw,L,L],[L,I],fun(x:D×List Int×List Int×Unit)=>x.1=nilP,fun _=>([],3,()),none⟩
def T67n:Ctx:=TT [(114,C114n)]
def C61n:Con:=⟨[.raw,L,L],[L,I],fun(x:D×List Int×List Int×Unit)=>x.1=nilP,fun _=>([],3,()),none⟩
def T61n:Ctx:=TT []
def C73n:Con:=⟨[.raw,L],[L,I],fun(x:D×List Int×Unit)=>x.1=nilP,fun _=>([],3,()),none⟩
def T73n:Ctx:=TT [(77,C77n)]
def C74n:Con:=⟨[.raw,L],[B,I],fun(x:D×List Int×Unit)=>x.1=nilP,fun _=>(false,3,()),none⟩
def T74n:Ctx:=TT [(77,C77n)]
def C89n:Con:=⟨[.raw,LL],[I],fun(x:D×List (List Int)×Unit)=>x.1=nilP,fun _=>(3,()),none⟩
def T89n:Ctx:=TT []
def C92n:Con:=⟨[.raw,LL,L],[I],fun(x:D×List (List Int)×List Int×Unit)=>x.1=nilP,fun _=>(3,()),none⟩
def T92n:Ctx:=TT [(89,C89n)]
def C22n:Con:=⟨[.raw,LL],[LL,I],fun(x:D×List (List Int)×Unit)=>x.1=nilP,fun _=>([],3,()),none⟩
def T22n:Ctx:=TT [(89,C89n)]
def C45n:Con:=⟨[.raw,LL,L],[L,I],fun(x:D×List (List Int)×List Int×Unit)=>x.1=nilP,fun _=>([],3,()),none⟩
def T45n:Ctx:=TT [(92,C92n)]
def C46n:Con:=⟨[.raw,LL,L],[L,B],fun(x:D×List (List Int)×List Int×Unit)=>x.1=nilP,fun _=>([],false,()),none⟩
def T46n:Ctx:=TT [(92,C92n)]
def C27n:Con:=⟨[.raw,LL,L,L],[B],fun(x:D×List (List Int)×List Int×List Int×Unit)=>x.1=nilP,fun _=>(false,()),none⟩
def T27n:Ctx:=TT [(92,C92n)]
end Fd
end
section
set_option linter.unusedVariables false
set_option linter.unusedSimpArgs false
set_option maxRecDepth 100000
namespace Fd
open Go Fw Go.Proofs

theorem vc30n: ∀x,C30n.pre x→VC T30n H0 Try.f30 C30n x:=by
 rintro⟨v,(a0:Int),(a1:Int),⟨⟩⟩ (rfl:v=nilP)
 refine cast (α:=((0:Int),())=C30n.post (nilP,a0,a1,())) (by kernel_rfl) ?_
 first|trivial|rfl|exact⟨rfl,rfl⟩|exact⟨rfl,trivial⟩
theorem snd30n:Sound Try.prog 30 C30n:=fn_sound (T:=T30n) (fn:=Try.f30) (tok0 trivial) Try.func30 (by kernel_rfl) H0 vc30n (by kernel_rfl) (hC:=⟨fun x hx=>by obtain⟨v,x⟩:=x;cases hx;exact⟨trivial,trivial,trivial,trivial⟩,fun x hx=>⟨trivial,trivial⟩⟩)
theorem vc32n: ∀x,C32n.pre x→VC T32n H0 Try.f32 C32n x:=by
 rintro⟨v,(a0:Int),(a1:Int),⟨⟩⟩ (rfl:v=nilP)
 refine cast (α:=((0:Int),())=C32n.post (nilP,a0,a1,())) (by kernel_rfl) ?_
 first|trivial|rfl|exact⟨rfl,rfl⟩|exact⟨rfl,trivial⟩
theorem snd32n:Sound Try.prog 32 C32n:=fn_sound (T:=T32n) (fn:=Try.f32) (tok0 trivial) Try.func32 (by kernel_rfl) H0 vc32n (by kernel_rfl) (hC:=⟨fun x hx=>by obtain⟨v,x⟩:=x;cases hx;exact⟨trivial,trivial,trivial,trivial⟩,fun x hx=>⟨trivial,trivial⟩⟩)
theorem vc34n: ∀x,C34n.pre x→VC T34n H0 Try.f34 C34n x:=by
 rintro⟨v,(a0:Int),(a1:Int),⟨⟩⟩ (rfl:v=nilP)
 refine cast (α:=((0:Int),())=C34n.post (nilP,a0,a1,())) (by kernel_rfl) ?_
 first|trivial|rfl|exact⟨rfl,rfl⟩|exact⟨rfl,trivial⟩
theorem snd34n:Sound Try.prog 34 C34n:=fn_sound (T:=T34n) (fn:=Try.f34) (tok0 trivial) Try.func34 (by kernel_rfl) H0 vc34n (by kernel_rfl) (hC:=⟨fun x hx=>by obtain⟨v,x⟩:=x;cases hx;exact⟨trivial,trivial,trivial,trivial⟩,fun x hx=>⟨trivial,trivial⟩⟩)
theorem vc36n: ∀x,C36n.pre x→VC T36n H0 Try.f36 C36n x:=by
 rintro⟨v,(a0:Int),(a1:Int),⟨⟩⟩ (rfl:v=nilP)
 refine cast (α:=((0:Int),(3:Int),())=C36n.post (nilP,a0,a1,())) (by kernel_rfl) ?_
 first|trivial|rfl|exact⟨rfl,rfl⟩|exact⟨rfl,trivial⟩
theorem snd36n:Sound Try.prog 36 C36n:=fn_sound (T:=T36n) (fn:=Try.f36) (tok0 trivial) Try.func36 (by kernel_rfl) H0 vc36n (by kernel_rfl) (hC:=⟨fun x hx=>by obtain⟨v,x⟩:=x;cases hx;exact⟨trivial,trivial,trivial,trivial⟩,fun x hx=>⟨trivial,trivial,trivial⟩⟩)
theorem vc38n: ∀x,C38n.pre x→VC T38n H0 Try.f38 C38n x:=by
 rintro⟨v,(a0:Int),(a1:Int),⟨⟩⟩ (rfl:v=nilP)
 refine cast (α:=((0:Int),(3:Int),())=C38n.post (nilP,a0,a1,())) (by kernel_rfl) ?_
 first|trivial|rfl|exact⟨rfl,rfl⟩|exact⟨rfl,trivial⟩
theorem snd38n:Sound Try.prog 38 C38n:=fn_sound (T:=T38n) (fn:=Try.f38) (tok0 trivial) Try.func38 (by kernel_rfl) H0 vc38n (by kernel_rfl) (hC:=⟨fun x hx=>by obtain⟨v,x⟩:=x;cases hx;exact⟨trivial,trivial,trivial,trivial⟩,fun x hx=>⟨trivial,trivial,trivial⟩⟩)
theorem vc39n: ∀x,C39n.pre x→VC T39n H0 Try.f39 C39n x:=by
 rintro⟨v,(a0:Int),⟨⟩⟩ (rfl:v=nilP)
 refine cast (α:=((0:Int),(3:Int),())=C39n.post (nilP,a0,())) (by kernel_rfl) ?_
 first|trivial|rfl|exact⟨rfl,rfl⟩|exact⟨rfl,trivial⟩
theorem snd39n:Sound Try.prog 39 C39n:=fn_sound (T:=T39n) (fn:=Try.f39) (tok0 trivial) Try.func39 (by kernel_rfl) H0 vc39n (by kernel_rfl) (hC:=⟨fun x hx=>by obtain⟨v,x⟩:=x;cases hx;exact⟨trivial,trivial,trivial⟩,fun x hx=>⟨trivial,trivial,trivial⟩⟩)
theorem vc42n: ∀x,C42n.pre x→VC T42n H0 Try.f42 C42n x:=by
 rintro⟨v,⟨⟩⟩ (rfl:v=nilP)
 refine cast (α:=((0:Int),())=C42n.post (nilP,())) (by kernel_rfl) ?_
 first|trivial|rfl|exact⟨rfl,rfl⟩|exact⟨rfl,trivial⟩
theorem snd42n:Sound Try.prog 42 C42n:=fn_sound (T:=T42n) (fn:=Try.f42) (tok0 trivial) Try.func42 (by kernel_rfl) H0 vc42n (by kernel_rfl) (hC:=⟨fun x hx=>by obtain⟨v,x⟩:=x;cases hx;exact⟨trivial,trivial⟩,fun x hx=>⟨trivial,trivial⟩⟩)
theorem vc51n: ∀x,C51n.pre x→VC T51n H0 Try.f51 C51n x:=by
 rintro⟨v,⟨⟩⟩ (rfl:v=nilP)
 refine cast (α:=((0:Int),(0:Int),())=C51n.post (nilP,())) (by kernel_rfl) ?_
 first|trivial|rfl|exact⟨rfl,rfl⟩|exact⟨rfl,trivial⟩
theorem snd51n:Sound Try.prog 51 C51n:=fn_sound (T:=T51n) (fn:=Try.f51) (tok0 trivial) Try.func51 (by kernel_rfl) H0 vc51n (by kernel_rfl) (hC:=⟨fun x hx=>by obtain⟨v,x⟩:=x;cases hx;exact⟨trivial,trivial⟩,fun x hx=>⟨trivial,trivial,trivial⟩⟩)
theorem vc52n: ∀x,C52n.pre x→VC T52n H0 Try.f52 C52n x:=by
 rintro⟨v,⟨⟩⟩ (rfl:v=nilP)
 refine cast (α:=((0:Int),())=C52n.post (nilP,())) (by kernel_rfl) ?_
 first|trivial|rfl|exact⟨rfl,rfl⟩|exact⟨rfl,trivial⟩
theorem snd52n:Sound Try.prog 52 C52n:=fn_sound (T:=T52n) (fn:=Try.f52) (tok0 trivial) Try.func52 (by kernel_rfl) H0 vc52n (by kernel_rfl) (hC:=⟨fun x hx=>by obtain⟨v,x⟩:=x;cases hx;exact⟨trivial,trivial⟩,fun x hx=>⟨trivial,trivial⟩⟩)
theorem vc53n: ∀x,C53n.pre x→VC T53n H0 Try.f53 C53n x:=by
 rintro⟨v,(a0:Int),⟨⟩⟩ (rfl:v=nilP)
 refine cast (α:=((0:Int),(3:Int),())=C53n.post (nilP,a0,())) (by kernel_rfl) ?_
 first|trivial|rfl|exact⟨rfl,rfl⟩|exact⟨rfl,trivial⟩
theorem snd53n:Sound Try.prog 53 C53n:=fn_sound (T:=T53n) (fn:=Try.f53) (tok0 trivial) Try.func53 (by kernel_rfl) H0 vc53n (by kernel_rfl) (hC:=⟨fun x hx=>by obtain⟨v,x⟩:=x;cases hx;exact⟨trivial,trivial,trivial⟩,fun x hx=>⟨trivial,trivial,trivial⟩⟩)
theorem vc55n: ∀x,C55n.pre x→VC T55n H0 Try.f55 C55n x:=by
 rintro⟨v,(a0:Int),⟨⟩⟩ (rfl:v=nilP)
 refine cast (α:=((0:Int),())=C55n.post (nilP,a0,())) (by kernel_rfl) ?_
 first|trivial|rfl|exact⟨rfl,rfl⟩|exact⟨rfl,trivial⟩
theorem snd55n:Sound Try.prog 55 C55n:=fn_sound (T:=T55n) (fn:=Try.f55) (tok0 trivial) Try.func55 (by kernel_rfl) H0 vc55n (by kernel_rfl) (hC:=⟨fun x hx=>by obtain⟨v,x⟩:=x;cases hx;exact⟨trivial,trivial,trivial⟩,fun x hx=>⟨trivial,trivial⟩⟩)
theorem vc57n: ∀x,C57n.pre x→VC T57n H0 Try.f57 C57n x:=by
 rintro⟨v,(a0:Int),⟨⟩⟩ (rfl:v=nilP)
 refine cast (α:=((0:Int),())=C57n.post (nilP,a0,())) (by kernel_rfl) ?_
 first|trivial|rfl|exact⟨rfl,rfl⟩|exact⟨rfl,trivial⟩
theorem snd57n:Sound Try.prog 57 C57n:=fn_sound (T:=T57n) (fn:=Try.f57) (tok0 trivial) Try.func57 (by kernel_rfl) H0 vc57n (by kernel_rfl) (hC:=⟨fun x hx=>by obtain⟨v,x⟩:=x;cases hx;exact⟨trivial,trivial,trivial⟩,fun x hx=>⟨trivial,trivial⟩⟩)
theorem vc59n: ∀x,C59n.pre x→VC T59n H0 Try.f59 C59n x:=by
 rintro⟨v,(a0:Int),⟨⟩⟩ (rfl:v=nilP)
 refine cast (α:=([],())=C59n.post (nilP,a0,())) (by kernel_rfl) ?_
 first|trivial|rfl|exact⟨rfl,rfl⟩|exact⟨rfl,trivial⟩
theorem snd59n:Sound Try.prog 59 C59n:=fn_sound (T:=T59n) (fn:=Try.f59) (tok0 trivial) Try.func59 (by kernel_rfl) H0 vc59n (by kernel_rfl) (hC:=⟨fun x hx=>by obtain⟨v,x⟩:=x;cases hx;exact⟨trivial,trivial,trivial⟩,fun x hx=>⟨rfl,trivial⟩⟩)
theorem vc80n: ∀x,C80n.pre x→VC T80n H0 Try.f80 C80n x:=by
 rintro⟨v,⟨⟩⟩ (rfl:v=nilP)
 refine cast (α:=([],())=C80n.post (nilP,())) (by kernel_rfl) ?_
 first|trivial|rfl|exact⟨rfl,rfl⟩|exact⟨rfl,trivial⟩
theorem snd80n:Sound Try.prog 80 C80n:=fn_sound (T:=T80n) (fn:=Try.f80) (tok0 trivial) Try.func80 (by kernel_rfl) H0 vc80n (by kernel_rfl) (hC:=⟨fun x hx=>by obtain⟨v,x⟩:=x;cases hx;exact⟨trivial,trivial⟩,fun x hx=>⟨rfl,trivial⟩⟩)
theorem vc77n: ∀x,C77n.pre x→VC T77n H0 Try.f77 C77n x:=by
 rintro⟨v,(a0:List Int),⟨⟩⟩ (rfl:v=nilP)
 refine cast (α:=((3:Int),())=C77n.post (nilP,a0,())) (by kernel_rfl) ?_
 first|trivial|rfl|exact⟨rfl,rfl⟩|exact⟨rfl,trivial⟩
theorem snd77n:Sound Try.prog 77 C77n:=fn_sound (T:=T77n) (fn:=Try.f77) (tok0 trivial) Try.func77 (by kernel_rfl) H0 vc77n (by kernel_rfl) (hC:=⟨fun x hx=>by obtain⟨v,x⟩:=x;cases hx;exact⟨trivial,rfl,trivial⟩,fun x hx=>⟨trivial,trivial⟩⟩)
theorem vc65n: ∀x,C65n.pre x→VC T65n H0 Try.f65 C65n x:=by
 rintro⟨v,(a0:List Int),(a1:Int),⟨⟩⟩ (rfl:v=nilP)
 refine cast (α:=D.val (Value.pointer none)=nilP∧((0:Int),(3:I.El),())=C65n.post (nilP,a0,a1,())) (by kernel_rfl) ?_
 first|trivial|rfl|exact⟨rfl,rfl⟩|exact⟨rfl,trivial⟩
theorem snd65n:Sound Try.prog 65 C65n:=fn_sound (T:=T65n) (fn:=Try.f65) (tok0 ⟨snd77n,trivial⟩) Try.func65 (by kernel_rfl) H0 vc65n (by kernel_rfl) (hC:=⟨fun x hx=>by obtain⟨v,x⟩:=x;cases hx;exact⟨trivial,rfl,trivial,trivial⟩,fun x hx=>⟨trivial,trivial,trivial⟩⟩)
theorem vc114n: ∀x,C114n.pre x→VC T114n H0 Try.f114 C114n x:=by
 rintro⟨v,(a0:List Int),(a1:List Int),⟨⟩⟩ (rfl:v=nilP)
 refine cast (α:=D.val (Value.pointer none)=nilP∧((3:I.El),())=C114n.post (nilP,a0,a1,())) (by kernel_rfl) ?_
 first|trivial|rfl|exact⟨rfl,rfl⟩|exact⟨rfl,trivial⟩
theorem snd114n:Sound Try.prog 114 C114n:=fn_sound (T:=T114n) (fn:=Try.f114) (tok0 ⟨snd77n,trivial⟩) Try.func114 (by kernel_rfl) H0 vc114n (by kernel_rfl) (hC:=⟨fun x hx=>by obtain⟨v,x⟩:=x;cases hx;exact⟨trivial,rfl,rfl,trivial⟩,fun x hx=>⟨trivial,trivial⟩⟩)
theorem vc66n: ∀x,C66n.pre x→VC T66n H0 Try.f66 C66n x:=by
 rintro⟨v,(a0:List Int),(a1:List Int),⟨⟩⟩ (rfl:v=nilP)
 refine cast (α:=D.val (Value.pointer none)=nilP∧([],(3:I.El),())=C66n.post (nilP,a0,a1,())) (by kernel_rfl) ?_
 first|trivial|rfl|exact⟨rfl,rfl⟩|exact⟨rfl,trivial⟩
theorem snd66n:Sound Try.prog 66 C66n:=fn_sound (T:=T66n) (fn:=Try.f66) (tok0 ⟨snd114n,trivial⟩) Try.func66 (by kernel_rfl) H0 vc66n (by kernel_rfl) (hC:=⟨fun x hx=>by obtain⟨v,x⟩:=x;cases hx;exact⟨trivial,rfl,rfl,trivial⟩,fun x hx=>⟨rfl,trivial,trivial⟩⟩)
theorem vc71n: ∀x,C71n.pre x→VC T71n H0 Try.f71 C71n x:=by
 rintro⟨v,(a0:List Int),(a1:List Int),⟨⟩⟩ (rfl:v=nilP)
 refine cast (α:=D.val (Value.pointer none)=nilP∧([],[],(3:I.El),())=C71n.post (nilP,a0,a1,())) (by kernel_rfl) ?_
 first|trivial|rfl|exact⟨rfl,rfl⟩|exact⟨rfl,trivial⟩
theorem snd71n:Sound Try.prog 71 C71n:=fn_sound (T:=T71n) (fn:=Try.f71) (tok0 ⟨snd114n,trivial⟩) Try.func71 (by kernel_rfl) H0 vc71n (by kernel_rfl) (hC:=⟨fun x hx=>by obtain⟨v,x⟩:=x;cases hx;exact⟨trivial,rfl,rfl,trivial⟩,fun x hx=>⟨rfl,rfl,trivial,trivial⟩⟩)
theorem vc67n: ∀x,C67n.pre x→VC T67n H0 Try.f67 C67n x:=by
 rintro⟨v,(a0:List Int),(a1:List Int),⟨⟩⟩ (rfl:v=nilP)
 refine cast (α:=D.val (Value.pointer none)=nilP∧([],(3:I.El),())=C67n.post (nilP,a0,a1,())) (by kernel_rfl) ?_
 first|trivial|rfl|exact⟨rfl,rfl⟩|exact⟨rfl,trivial⟩
theorem snd67n:Sound Try.prog 67 C67n:=fn_sound (T:=T67n) (fn:=Try.f67) (tok0 ⟨snd114n,trivial⟩) Try.func67 (by kernel_rfl) H0 vc67n (by kernel_rfl) (hC:=⟨fun x hx=>by obtain⟨v,x⟩:=x;cases hx;exact⟨trivial,rfl,rfl,trivial⟩,fun x hx=>⟨rfl,trivial,trivial⟩⟩)
theorem vc61n: ∀x,C61n.pre x→VC T61n H0 Try.f61 C61n x:=by
 rintro⟨v,(a0:List Int),(a1:List Int),⟨⟩⟩ (rfl:v=nilP)
 refine cast (α:=([],(3:Int),())=C61n.post (nilP,a0,a1,())) (by kernel_rfl) ?_
 first|trivial|rfl|exact⟨rfl,rfl⟩|exact⟨rfl,trivial⟩
theorem snd61n:Sound Try.prog 61 C61n:=fn_sound (T:=T61n) (fn:=Try.f61) (tok0 trivial) Try.func61 (by kernel_rfl) H0 vc61n (by kernel_rfl) (hC:=⟨fun x hx=>by obtain⟨v,x⟩:=x;cases hx;exact⟨trivial,rfl,rfl,trivial⟩,fun x hx=>⟨rfl,trivial,trivial⟩⟩)
theorem vc73n: ∀x,C73n.pre x→VC T73n H0 Try.f73 C73n x:=by
 rintro⟨v,(a0:List Int),⟨⟩⟩ (rfl:v=nilP)
 refine cast (α:=D.val (Value.pointer none)=nilP∧([],(3:I.El),())=C73n.post (nilP,a0,())) (by kernel_rfl) ?_
 first|trivial|rfl|exact⟨rfl,rfl⟩|exact⟨rfl,trivial⟩
theorem snd73n:Sound Try.prog 73 C73n:=fn_sound (T:=T73n) (fn:=Try.f73) (tok0 ⟨snd77n,trivial⟩) Try.func73 (by kernel_rfl) H0 vc73n (by kernel_rfl) (hC:=⟨fun x hx=>by obtain⟨v,x⟩:=x;cases hx;exact⟨trivial,rfl,trivial⟩,fun x hx=>⟨rfl,trivial,trivial⟩⟩)
theorem vc74n: ∀x,C74n.pre x→VC T74n H0 Try.f74 C74n x:=by
 rintro⟨v,(a0:List Int),⟨⟩⟩ (rfl:v=nilP)
 refine cast (α:=D.val (Value.pointer none)=nilP∧(false,(3:I.El),())=C74n.post (nilP,a0,())) (by kernel_rfl) ?_
 first|trivial|rfl|exact⟨rfl,rfl⟩|exact⟨rfl,trivial⟩
theorem snd74n:Sound Try.prog 74 C74n:=fn_sound (T:=T74n) (fn:=Try.f74) (tok0 ⟨snd77n,trivial⟩) Try.func74 (by kernel_rfl) H0 vc74n (by kernel_rfl) (hC:=⟨fun x hx=>by obtain⟨v,x⟩:=x;cases hx;exact⟨trivial,rfl,trivial⟩,fun x hx=>⟨trivial,trivial,trivial⟩⟩)
theorem vc89n: ∀x,C89n.pre x→VC T89n H0 Try.f89 C89n x:=by
 rintro⟨v,(a0:List (List Int)),⟨⟩⟩ (rfl:v=nilP)
 refine cast (α:=((3:Int),())=C89n.post (nilP,a0,())) (by kernel_rfl) ?_
 first|trivial|rfl|exact⟨rfl,rfl⟩|exact⟨rfl,trivial⟩
theorem snd89n:Sound Try.prog 89 C89n:=fn_sound (T:=T89n) (fn:=Try.f89) (tok0 trivial) Try.func89 (by kernel_rfl) H0 vc89n (by kernel_rfl) (hC:=⟨fun x hx=>by obtain⟨v,x⟩:=x;cases hx;exact⟨trivial,rfl,trivial⟩,fun x hx=>⟨trivial,trivial⟩⟩)
theorem vc92n: ∀x,C92n.pre x→VC T92n H0 Try.f92 C92n x:=by
 rintro⟨v,(a0:List (List Int)),(a1:List Int),⟨⟩⟩ (rfl:v=nilP)
 refine cast (α:=D.val (Value.pointer none)=nilP∧((3:I.El),())=C92n.post (nilP,a0,a1,())) (by kernel_rfl) ?_
 first|trivial|rfl|exact⟨rfl,rfl⟩|exact⟨rfl,trivial⟩
theorem snd92n:Sound Try.prog 92 C92n:=fn_sound (T:=T92n) (fn:=Try.f92) (tok0 ⟨snd89n,trivial⟩) Try.func92 (by kernel_rfl) H0 vc92n (by kernel_rfl) (hC:=⟨fun x hx=>by obtain⟨v,x⟩:=x;cases hx;exact⟨trivial,rfl,rfl,trivial⟩,fun x hx=>⟨trivial,trivial⟩⟩)
theorem vc22n: ∀x,C22n.pre x→VC T22n H0 Try.f22 C22n x:=by
 rintro⟨v,(a0:List (List Int)),⟨⟩⟩ (rfl:v=nilP)
 refine cast (α:=D.val (Value.pointer none)=nilP∧([],(3:I.El),())=C22n.post (nilP,a0,())) (by kernel_rfl) ?_
 first|trivial|rfl|exact⟨rfl,rfl⟩|exact⟨rfl,trivial⟩
theorem snd22n:Sound Try.prog 22 C22n:=fn_sound (T:=T22n) (fn:=Try.f22) (tok0 ⟨snd89n,trivial⟩) Try.func22 (by kernel_rfl) H0 vc22n (by kernel_rfl) (hC:=⟨fun x hx=>by obtain⟨v,x⟩:=x;cases hx;exact⟨trivial,rfl,trivial⟩,fun x hx=>⟨rfl,trivial,trivial⟩⟩)
theorem vc45n: ∀x,C45n.pre x→VC T45n H0 Try.f45 C45n x:=by
 rintro⟨v,(a0:List (List Int)),(a1:List Int),⟨⟩⟩ (rfl:v=nilP)
 refine cast (α:=D.val (Value.pointer none)=nilP∧([],(3:I.El),())=C45n.post (nilP,a0,a1,())) (by kernel_rfl) ?_
 first|trivial|rfl|exact⟨rfl,rfl⟩|exact⟨rfl,trivial⟩
theorem snd45n:Sound Try.prog 45 C45n:=fn_sound (T:=T45n) (fn:=Try.f45) (tok0 ⟨snd92n,trivial⟩) Try.func45 (by kernel_rfl) H0 vc45n (by kernel_rfl) (hC:=⟨fun x hx=>by obtain⟨v,x⟩:=x;cases hx;exact⟨trivial,rfl,rfl,trivial⟩,fun x hx=>⟨rfl,trivial,trivial⟩⟩)
theorem vc46n: ∀x,C46n.pre x→VC T46n H0 Try.f46 C46n x:=by
 rintro⟨v,(a0:List (List Int)),(a1:List Int),⟨⟩⟩ (rfl:v=nilP)
 refine cast (α:=D.val (Value.pointer none)=nilP∧([],false,())=C46n.post (nilP,a0,a1,())) (by kernel_rfl) ?_
 first|trivial|rfl|exact⟨rfl,rfl⟩|exact⟨rfl,trivial⟩
theorem snd46n:Sound Try.prog 46 C46n:=fn_sound (T:=T46n) (fn:=Try.f46) (tok0 ⟨snd92n,trivial⟩) Try.func46 (by kernel_rfl) H0 vc46n (by kernel_rfl) (hC:=⟨fun x hx=>by obtain⟨v,x⟩:=x;cases hx;exact⟨trivial,rfl,rfl,trivial⟩,fun x hx=>⟨rfl,trivial,trivial⟩⟩)
theorem vc27n: ∀x,C27n.pre x→VC T27n H0 Try.f27 C27n x:=by
 rintro⟨v,(a0:List (List Int)),(a1:List Int),(a2:List Int),⟨⟩⟩ (rfl:v=nilP)
 refine cast (α:=D.val (Value.pointer none)=nilP∧(false,())=C27n.post (nilP,a0,a1,a2,())) (by kernel_rfl) ?_
 first|trivial|rfl|exact⟨rfl,rfl⟩|exact⟨rfl,trivial⟩
theorem snd27n:Sound Try.prog 27 C27n:=fn_sound (T:=T27n) (fn:=Try.f27) (tok0 ⟨snd92n,trivial⟩) Try.func27 (by kernel_rfl) H0 vc27n (by kernel_rfl) (hC:=⟨fun x hx=>by obtain⟨v,x⟩:=x;cases hx;exact⟨trivial,rfl,rfl,rfl,trivial⟩,fun x hx=>⟨trivial,trivial⟩⟩)
end Fd
end
section
set_option linter.unusedVariables false
set_option linter.unusedSimpArgs false
set_option maxRecDepth 100000
namespace Fd
open Go Fw Go.Proofs

def C81:Con:=⟨[G4],[L],fun(x:R4×Unit)=>Pl.okr x.1,fun(x:R4×Unit)=>(Pl.md x.1.1,()),none⟩
def T81:Ctx:=TT [(124,C124)]
def C78n:Con:=⟨[I],[.raw,I],fun(x:Int×Unit)=>Pl.okQ x.1=false,fun(x:Int×Unit)=>(nilP,20,()),none⟩
noncomputable def T17:Ctx:=⟨tt,[(79,C79),(78,C78q),(51,C51),(52,C52),(80,C80),(42,C42),(81,C81),(82,C82),(50,C50),(36,C36n),(38,C38n),(39,C39n),(53,C53n),(65,C65n),(66,C66n),(71,C71n),(67,C67n),(61,C61n),(73,C73n),(74,C74n),(22,C22n),(45,C45n),(46,C46n),(30,C30n),(32,C32n),(34,C34n),(55,C55n),(57,C57n),(59,C59n),(77,C77n),(27,C27n),(24,C24)],[],none,[],0,[],[],0,[],[],[],[],[(78,C78n),(51,C51n),(52,C52n),(80,C80n),(42,C42n)]⟩
def H17:Hints:=lo [(0,⟨[],[(0,si),(3,si)]⟩)]
def C17:Con:=⟨[I],[B],fun _=>True,fun _=>(true,()),none⟩
end Fd
end
section
set_option linter.unusedVariables false
set_option linter.unusedSimpArgs false
set_option maxRecDepth 100000
namespace Fd
open Go Fw Go.Proofs

theorem snd78n:Sound Try.prog 78 C78n:=snd_less snd78 (fun _ _=>trivial) fun x hx=>by
 obtain⟨q,⟨⟩⟩:=x
 have h: ¬isQ q:=fun h=>by rw[okQ_iff.2 h]at hx;cases hx
 exact congrArg (encs [.raw,I]) (show C78.post (q,())=(nilP,(20:Int),())from(newF_no h).symm)
theorem vc81: ∀x,C81.pre x→VC T81 H0 Try.f81 C81 x:=by
 rintro⟨r,⟨⟩⟩ ⟨hq,e⟩
 obtain⟨q,p,k,m,⟨⟩⟩:=r
 cases(show(q,p,k,m,())=RF q from e)
 have hq:isQ q:=hq
 refine cast (α:=Pl.okN (Pl.Mod q) (Pl.lpf q)∧(Pl.digs (Pl.lpf q) (Pl.Mod q),())=C81.post (RF q,())) (by kernel_rfl) ?_
 obtain⟨m1,m2,_⟩:=Mod_spec hq
 have h1:=hq.1
 have h2:=hq.2.1
 have h3:=hq.prime.1
 have h4:=hq.p6
 exact⟨⟨show 0≤Pl.Mod q by omega,show Pl.Mod q≤4611686018427387904 by omega,h3,h4⟩,rfl⟩
theorem snd81:Sound Try.prog 81 C81:=fn_sound (T:=T81) (fn:=Try.f81) (tok0 ⟨snd124,trivial⟩) Try.func81 (by kernel_rfl) H0 vc81 (by kernel_rfl)
theorem Brno {b:Bool} {p r:Prop} (e:b=false) (h:r):Br b p r:=Br_of (fun h'=>by rw[e]at h';cases h') (fun _=>h)
theorem Brne {α:Type} [BEq α] [LawfulBEq α] {a b:α} {p r:Prop} (e:a=b) (h:r):Br (a !=b) p r:=Brno (by rw[e];exact bne_self_eq_false b) h
theorem vc17: ∀x,C17.pre x→VC T17 H17 Try.f17 C17 x:=by
 rintro⟨(o:Int),⟨⟩⟩-
 refine cast (α:= ∃(n:Nat),itl (fun(G:Int×Int×PUnit→Prop) (x:Int×Int×PUnit)=>Br (decide (x.2.1<(2:Int))) (True∧(((2:Int)≤x.1∧x.1≤(65536:Int)∧(1:Int)≤Pl.K x.1)∧Br (!Pl.okQ x.1) ((false,())=C17.post (o,())) (Pl.okF (D.rptr (fieldC x.1))∧(Pl.okF (D.rptr (fieldC x.1))∧Br (Pl.qF (D.rptr (fieldC x.1)) !=x.1) ((false,())=C17.post (o,())) (Br (Pl.lpf (Pl.qF (D.rptr (fieldC x.1))) !=(Pl.newR x.1).2.1) ((false,())=C17.post (o,())) (Br (Pl.K (Pl.qF (D.rptr (fieldC x.1))) !=(Pl.newR x.1).2.2.1) ((false,())=C17.post (o,())) (Pl.okF (D.rptr (fieldC x.1))∧Pl.okr (Pl.newR x.1)∧(Pl.md (Pl.qF (D.rptr (fieldC x.1)))).length≤(1000000000:Nat)∧Br (!Pl.same (Pl.md (Pl.qF (D.rptr (fieldC x.1)))) (Pl.md (Pl.newR x.1).1)) ((false,())=C17.post (o,())) (Pl.okF (D.rptr (fieldC x.1))∧Pl.okr (Pl.newR x.1)∧Br (Pl.gen (Pl.qF (D.rptr (fieldC x.1))) !=Pl.gen (Pl.newR x.1).1) ((false,())=C17.post (o,())) ((1100:Int)≠(0:Int)∧G (IntKind.i64.wrap ((IntKind.u64.wrap x.1).tmod (1100:Int)),IntKind.i64.wrap (x.2.1+(1:Int)),()))∨D.rptr (fieldC x.1)=nilP∧Pl.okr (Pl.newR x.1)∧Br ((0:I.El) !=Pl.gen (Pl.newR x.1).1) ((false,())=C17.post (o,())) ((1100:Int)≠(0:Int)∧G (IntKind.i64.wrap ((IntKind.u64.wrap x.1).tmod (1100:Int)),IntKind.i64.wrap (x.2.1+(1:Int)),())))∨D.rptr (fieldC x.1)=nilP∧Pl.okr (Pl.newR x.1)∧([]:List Int).length≤(1000000000:Nat)∧Br (!Pl.same [] (Pl.md (Pl.newR x.1).1)) ((false,())=C17.post (o,())) (Pl.okF (D.rptr (fieldC x.1))∧Pl.okr (Pl.newR x.1)∧Br (Pl.gen (Pl.qF (D.rptr (fieldC x.1))) !=Pl.gen (Pl.newR x.1).1) ((false,())=C17.post (o,())) ((1100:Int)≠(0:Int)∧G (IntKind.i64.wrap ((IntKind.u64.wrap x.1).tmod (1100:Int)),IntKind.i64.wrap (x.2.1+(1:Int)),()))∨D.rptr (fieldC x.1)=nilP∧Pl.okr (Pl.newR x.1)∧Br ((0:I.El) !=Pl.gen (Pl.newR x.1).1) ((false,())=C17.post (o,())) ((1100:Int)≠(0:Int)∧G (IntKind.i64.wrap ((IntKind.u64.wrap x.1).tmod (1100:Int)),IntKind.i64.wrap (x.2.1+(1:Int)),()))))))∨D.rptr (fieldC x.1)=nilP∧Br ((0:I.El) !=x.1) ((false,())=C17.post (o,())) (Br (Pl.lpf (Pl.qF (D.rptr (fieldC x.1))) !=(Pl.newR x.1).2.1) ((false,())=C17.post (o,())) (Br (Pl.K (Pl.qF (D.rptr (fieldC x.1))) !=(Pl.newR x.1).2.2.1) ((false,())=C17.post (o,())) (Pl.okF (D.rptr (fieldC x.1))∧Pl.okr (Pl.newR x.1)∧(Pl.md (Pl.qF (D.rptr (fieldC x.1)))).length≤(1000000000:Nat)∧Br (!Pl.same (Pl.md (Pl.qF (D.rptr (fieldC x.1)))) (Pl.md (Pl.newR x.1).1)) ((false,())=C17.post (o,())) (Pl.okF (D.rptr (fieldC x.1))∧Pl.okr (Pl.newR x.1)∧Br (Pl.gen (Pl.qF (D.rptr (fieldC x.1))) !=Pl.gen (Pl.newR x.1).1) ((false,())=C17.post (o,())) ((1100:Int)≠(0:Int)∧G (IntKind.i64.wrap ((IntKind.u64.wrap x.1).tmod (1100:Int)),IntKind.i64.wrap (x.2.1+(1:Int)),()))∨D.rptr (fieldC x.1)=nilP∧Pl.okr (Pl.newR x.1)∧Br ((0:I.El) !=Pl.gen (Pl.newR x.1).1) ((false,())=C17.post (o,())) ((1100:Int)≠(0:Int)∧G (IntKind.i64.wrap ((IntKind.u64.wrap x.1).tmod (1100:Int)),IntKind.i64.wrap (x.2.1+(1:Int)),())))∨D.rptr (fieldC x.1)=nilP∧Pl.okr (Pl.newR x.1)∧([]:List Int).length≤(1000000000:Nat)∧Br (!Pl.same [] (Pl.md (Pl.newR x.1).1)) ((false,())=C17.post (o,())) (Pl.okF (D.rptr (fieldC x.1))∧Pl.okr (Pl.newR x.1)∧Br (Pl.gen (Pl.qF (D.rptr (fieldC x.1))) !=Pl.gen (Pl.newR x.1).1) ((false,())=C17.post (o,())) ((1100:Int)≠(0:Int)∧G (IntKind.i64.wrap ((IntKind.u64.wrap x.1).tmod (1100:Int)),IntKind.i64.wrap (x.2.1+(1:Int)),()))∨D.rptr (fieldC x.1)=nilP∧Pl.okr (Pl.newR x.1)∧Br ((0:I.El) !=Pl.gen (Pl.newR x.1).1) ((false,())=C17.post (o,())) ((1100:Int)≠(0:Int)∧G (IntKind.i64.wrap ((IntKind.u64.wrap x.1).tmod (1100:Int)),IntKind.i64.wrap (x.2.1+(1:Int)),())))))))∨D.rptr (fieldC x.1)=nilP∧(Pl.okF (D.rptr (fieldC x.1))∧Br (Pl.qF (D.rptr (fieldC x.1)) !=x.1) ((false,())=C17.post (o,())) (Br ((0:I.El) !=(Pl.newR x.1).2.1) ((false,())=C17.post (o,())) (Br ((0:I.El) !=(Pl.newR x.1).2.2.1) ((false,())=C17.post (o,())) (Pl.okF (D.rptr (fieldC x.1))∧Pl.okr (Pl.newR x.1)∧(Pl.md (Pl.qF (D.rptr (fieldC x.1)))).length≤(1000000000:Nat)∧Br (!Pl.same (Pl.md (Pl.qF (D.rptr (fieldC x.1)))) (Pl.md (Pl.newR x.1).1)) ((false,())=C17.post (o,())) (Pl.okF (D.rptr (fieldC x.1))∧Pl.okr (Pl.newR x.1)∧Br (Pl.gen (Pl.qF (D.rptr (fieldC x.1))) !=Pl.gen (Pl.newR x.1).1) ((false,())=C17.post (o,())) ((1100:Int)≠(0:Int)∧G (IntKind.i64.wrap ((IntKind.u64.wrap x.1).tmod (1100:Int)),IntKind.i64.wrap (x.2.1+(1:Int)),()))∨D.rptr (fieldC x.1)=nilP∧Pl.okr (Pl.newR x.1)∧Br ((0:I.El) !=Pl.gen (Pl.newR x.1).1) ((false,())=C17.post (o,())) ((1100:Int)≠(0:Int)∧G (IntKind.i64.wrap ((IntKind.u64.wrap x.1).tmod (1100:Int)),IntKind.i64.wrap (x.2.1+(1:Int)),())))∨D.rptr (fieldC x.1)=nilP∧Pl.okr (Pl.newR x.1)∧([]:List Int).length≤(1000000000:Nat)∧Br (!Pl.same [] (Pl.md (Pl.newR x.1).1)) ((false,())=C17.post (o,())) (Pl.okF (D.rptr (fieldC x.1))∧Pl.okr (Pl.newR x.1)∧Br (Pl.gen (Pl.qF (D.rptr (fieldC x.1))) !=Pl.gen (Pl.newR x.1).1) ((false,())=C17.post (o,())) ((1100:Int)≠(0:Int)∧G (IntKind.i64.wrap ((IntKind.u64.wrap x.1).tmod (1100:Int)),IntKind.i64.wrap (x.2.1+(1:Int)),()))∨D.rptr (fieldC x.1)=nilP∧Pl.okr (Pl.newR x.1)∧Br ((0:I.El) !=Pl.gen (Pl.newR x.1).1) ((false,())=C17.post (o,())) ((1100:Int)≠(0:Int)∧G (IntKind.i64.wrap ((IntKind.u64.wrap x.1).tmod (1100:Int)),IntKind.i64.wrap (x.2.1+(1:Int)),()))))))∨D.rptr (fieldC x.1)=nilP∧Br ((0:I.El) !=x.1) ((false,())=C17.post (o,())) (Br ((0:I.El) !=(Pl.newR x.1).2.1) ((false,())=C17.post (o,())) (Br ((0:I.El) !=(Pl.newR x.1).2.2.1) ((false,())=C17.post (o,())) (Pl.okF (D.rptr (fieldC x.1))∧Pl.okr (Pl.newR x.1)∧(Pl.md (Pl.qF (D.rptr (fieldC x.1)))).length≤(1000000000:Nat)∧Br (!Pl.same (Pl.md (Pl.qF (D.rptr (fieldC x.1)))) (Pl.md (Pl.newR x.1).1)) ((false,())=C17.post (o,())) (Pl.okF (D.rptr (fieldC x.1))∧Pl.okr (Pl.newR x.1)∧Br (Pl.gen (Pl.qF (D.rptr (fieldC x.1))) !=Pl.gen (Pl.newR x.1).1) ((false,())=C17.post (o,())) ((1100:Int)≠(0:Int)∧G (IntKind.i64.wrap ((IntKind.u64.wrap x.1).tmod (1100:Int)),IntKind.i64.wrap (x.2.1+(1:Int)),()))∨D.rptr (fieldC x.1)=nilP∧Pl.okr (Pl.newR x.1)∧Br ((0:I.El) !=Pl.gen (Pl.newR x.1).1) ((false,())=C17.post (o,())) ((1100:Int)≠(0:Int)∧G (IntKind.i64.wrap ((IntKind.u64.wrap x.1).tmod (1100:Int)),IntKind.i64.wrap (x.2.1+(1:Int)),())))∨D.rptr (fieldC x.1)=nilP∧Pl.okr (Pl.newR x.1)∧([]:List Int).length≤(1000000000:Nat)∧Br (!Pl.same [] (Pl.md (Pl.newR x.1).1)) ((false,())=C17.post (o,())) (Pl.okF (D.rptr (fieldC x.1))∧Pl.okr (Pl.newR x.1)∧Br (Pl.gen (Pl.qF (D.rptr (fieldC x.1))) !=Pl.gen (Pl.newR x.1).1) ((false,())=C17.post (o,())) ((1100:Int)≠(0:Int)∧G (IntKind.i64.wrap ((IntKind.u64.wrap x.1).tmod (1100:Int)),IntKind.i64.wrap (x.2.1+(1:Int)),()))∨D.rptr (fieldC x.1)=nilP∧Pl.okr (Pl.newR x.1)∧Br ((0:I.El) !=Pl.gen (Pl.newR x.1).1) ((false,())=C17.post (o,())) ((1100:Int)≠(0:Int)∧G (IntKind.i64.wrap ((IntKind.u64.wrap x.1).tmod (1100:Int)),IntKind.i64.wrap (x.2.1+(1:Int)),()))))))))∨Pl.okQ x.1=false∧Br (!Pl.okQ x.1) ((1100:Int)≠(0:Int)∧G (IntKind.i64.wrap ((IntKind.u64.wrap x.1).tmod (1100:Int)),IntKind.i64.wrap (x.2.1+(1:Int)),())) ((false,())=C17.post (o,())))) (Pl.okF (constD (Value.pointer none))∧constD (Value.pointer none)=nilP∧constD (Value.pointer none)=nilP∧constD (Value.pointer none)=nilP∧constD (Value.pointer none)=nilP∧constD (Value.pointer none)=nilP∧constD (Value.pointer none)=nilP∧constD (Value.pointer none)=nilP∧constD (Value.pointer none)=nilP∧constD (Value.pointer none)=nilP∧constD (Value.pointer none)=nilP∧constD (Value.pointer none)=nilP∧constD (Value.pointer none)=nilP∧constD (Value.pointer none)=nilP∧constD (Value.pointer none)=nilP∧(Pl.okF (constD (Value.pointer none))∧(false,())=C17.post (o,())∨constD (Value.pointer none)=nilP∧(false,())=C17.post (o,()))∨constD (Value.pointer none)=nilP∧constD (Value.pointer none)=nilP∧constD (Value.pointer none)=nilP∧constD (Value.pointer none)=nilP∧constD (Value.pointer none)=nilP∧constD (Value.pointer none)=nilP∧constD (Value.pointer none)=nilP∧constD (Value.pointer none)=nilP∧constD (Value.pointer none)=nilP∧constD (Value.pointer none)=nilP∧constD (Value.pointer none)=nilP∧constD (Value.pointer none)=nilP∧constD (Value.pointer none)=nilP∧constD (Value.pointer none)=nilP∧constD (Value.pointer none)=nilP∧(Pl.okF (constD (Value.pointer none))∧(Pl.okF (constD (Value.pointer none))∧(Pl.okF (constD (Value.pointer none))∧(false,())=C17.post (o,())∨constD (Value.pointer none)=nilP∧constD (Value.pointer none)=nilP∧constD (Value.pointer none)=nilP∧constD (Value.pointer none)=nilP∧constD (Value.pointer none)=nilP∧constD (Value.pointer none)=nilP∧constD (Value.pointer none)=nilP∧constD (Value.pointer none)=nilP∧constD (Value.pointer none)=nilP∧True∧(true,())=C17.post (o,()))∨constD (Value.pointer none)=nilP∧(Pl.okF (constD (Value.pointer none))∧(false,())=C17.post (o,())∨constD (Value.pointer none)=nilP∧constD (Value.pointer none)=nilP∧constD (Value.pointer none)=nilP∧constD (Value.pointer none)=nilP∧constD (Value.pointer none)=nilP∧constD (Value.pointer none)=nilP∧constD (Value.pointer none)=nilP∧constD (Value.pointer none)=nilP∧constD (Value.pointer none)=nilP∧True∧(true,())=C17.post (o,())))∨constD (Value.pointer none)=nilP∧(Pl.okF (constD (Value.pointer none))∧(Pl.okF (constD (Value.pointer none))∧(false,())=C17.post (o,())∨constD (Value.pointer none)=nilP∧constD (Value.pointer none)=nilP∧constD (Value.pointer none)=nilP∧constD (Value.pointer none)=nilP∧constD (Value.pointer none)=nilP∧constD (Value.pointer none)=nilP∧constD (Value.pointer none)=nilP∧constD (Value.pointer none)=nilP∧constD (Value.pointer none)=nilP∧True∧(true,())=C17.post (o,()))∨constD (Value.pointer none)=nilP∧(Pl.okF (constD (Value.pointer none))∧(false,())=C17.post (o,())∨constD (Value.pointer none)=nilP∧constD (Value.pointer none)=nilP∧constD (Value.pointer none)=nilP∧constD (Value.pointer none)=nilP∧constD (Value.pointer none)=nilP∧constD (Value.pointer none)=nilP∧constD (Value.pointer none)=nilP∧constD (Value.pointer none)=nilP∧constD (Value.pointer none)=nilP∧True∧(true,())=C17.post (o,())))))) n (o,(0:Int),())) (by kernel_rfl) ?_
 refine itl_rule (fun s=>0≤s.2.1∧s.2.1≤2) (fun s=>(2-s.2.1).toNat) ⟨Int.le_refl 0,show(0:Int)≤2 by decide⟩ ?_
 rintro⟨q,i,⟨⟩⟩ G ⟨i0,i2⟩ hG
 simp only at i0 i2 hG⊢
 refine Br_of (fun h=> ?_) (fun h=> ?_)
 ·have h:=of_decide_eq_true h
  have hx: ∀y,G (y,IntKind.i64.wrap (i+1),()):=fun y=>hG _ (by rw[wrap_i64 (by omega) (by omega)];exact⟨by show 0≤i+1;omega,by show i+1≤2;omega⟩) (by rw[wrap_i64 (by omega) (by omega)];show(2-(i+1)).toNat<(2-i).toNat;omega)
  refine⟨trivial, ?_⟩
  cases hk:Pl.okQ q with
  |false=>exact .inr ⟨rfl,⟨by decide,hx _⟩⟩
  |true=>
   have hq:=isQ_b hk
   have oF:=okF_f hq
   have hr:Pl.okr (RF q):=okr_RF hq
   rw[newR_ok hk,qF_f]
   have hl:=(md_spec hq).1
   have hK:=isQ.K64 hq
   refine .inl ⟨hq, .inl ⟨oF, .inl ⟨oF,Brne rfl (Brne rfl (Brne rfl (.inl ⟨oF,hr,by omega,Brno (by rw[show Pl.same (Pl.md q) (Pl.md (RF q).1)=true from decide_eq_true rfl];rfl) (.inl ⟨oF,hr,Brne rfl ⟨by decide,hx _⟩⟩)⟩)))⟩⟩⟩
 ·have e:constD (Value.pointer none)=nilP:=rfl
  rw[e]
  refine .inr ⟨rfl, ?_⟩
  repeat (first|exact⟨trivial,rfl⟩|(refine⟨rfl, ?_⟩)|(refine .inr ?_))
theorem snd17:Sound Try.prog 17 C17:=fn_sound (T:=T17) (fn:=Try.f17) (tok0 ⟨snd79,snd78q,snd51,snd52,snd80,snd42,snd81,snd82,snd50,snd36n,snd38n,snd39n,snd53n,snd65n,snd66n,snd71n,snd67n,snd61n,snd73n,snd74n,snd22n,snd45n,snd46n,snd30n,snd32n,snd34n,snd55n,snd57n,snd59n,snd77n,snd27n,snd24,trivial⟩ (h5:=⟨snd78n,snd51n,snd52n,snd80n,snd42n,trivial⟩)) Try.func17 (by kernel_rfl) H17 vc17 (by kernel_rfl)
end Fd
end
