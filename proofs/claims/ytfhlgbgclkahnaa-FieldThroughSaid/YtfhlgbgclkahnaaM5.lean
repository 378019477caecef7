import Derived.Maps.OwnSet
import Derived.WalkKit
import Derived.ProofKit
import Derived.OpenShut
import Derived.Below
import Derived.Deep.Matrix
import Derived.Test.YtfhlgbgclkahnaaRows
import Derived.Test.YtfhlgbgclkahnaaM4
section
set_option linter.unusedVariables false
set_option linter.unusedSimpArgs false
set_option maxRecDepth 100000
namespace Fd
open Go Fw Go.Proofs

theorem recS_eq {q:Int} (hq:isQ q) (m:List (List Int)):Pl.ech (Pl.qA (D.iface (Pl.tyA q) (Pl.datA q))) (2*m.length-1) (2*m.length) (Pl.recX m m.length,Pl.recO m.length)=Pl.recS q m:=by
 rw[show Pl.qA (D.iface (Pl.tyA q) (Pl.datA q))=q from qA_ar hq];rfl
theorem rowsD_eq (q:Int) (m:List (List Int)):List.map (mrow (Pl.recS q m).1.1) (mrow (Pl.recS q m).1.2 (2*m.length))=Pl.echD q m:=rfl
theorem den_sys {q:Int} {m:List (List Int)} {b:List Int} (h:Pl.sys q m b=0):Pl.shape q m=0∧b.length=m.length∧ ∀x∈b,Pl.inQ q x:=by
 unfold Pl.sys at h
 by_cases h1:Pl.shape q m=0
 ·rw[decide_eq_false (not_not_intro h1),cond_false]at h
  by_cases h2:b.length=m.length
  ·rw[decide_eq_false (not_not_intro h2),cond_false]at h
   cases h3:Pl.els q b with
   |false=>rw[h3]at h;simp at h
   |true=>exact⟨h1,h2,els_in h3⟩
  ·rw[decide_eq_true h2]at h;simp at h
 ·rw[decide_eq_true h1,cond_true]at h;exact absurd h h1
theorem sub_drop {α:Type} (l:List α) (k:Nat):sub l (k:Int) (l.length:Int)=l.drop k:=by
 unfold sub
 simp
theorem solL_nil (q:Int) (b:List Int) (rs:List (List Int)) (x:List Int):Pl.solL q b [] rs x=x:=by
 cases rs<;>rfl
theorem rd_rr (m:List (List Int)) (i:Nat):rd i64.slc m (i:Int)=m.getD i []:=rfl
theorem vc101s: ∀x,C101s.pre x→VC T101 H101 Try.f101 C101s x:=by
 rintro⟨v,(m:List (List Int)),(b:List Int),⟨⟩⟩ ⟨⟨⟨q,hq,(rfl:v=_)⟩,(hm:Pl.okMM m),(hb:b.length≤1000000000)⟩,(hs:Pl.sys (Pl.qF (fieldD q)) m b=0),(hd:Pl.den (Pl.qF (fieldD q)) m b=none)⟩
 rw[qF_d]at hs hd
 obtain⟨s1,s2,s3⟩:=den_sys hs
 obtain⟨p1,p2,F⟩:=pre_new hq s1
 obtain⟨c1,c2⟩:=cst_row (Pl.recS q m).2
 have hp:C101s.post (fieldD q,m,b,())=(Pl.sol q m b, .val (.slice none 0 0),()):=rfl
 refine cast (α:=Pl.okMx m∧(Pl.preE (Pl.tyA q) (Pl.tyA q) (Pl.datA q) (Pl.datA q) ((2:Nat)*m.length-(1:Nat)) ((2:Nat)*m.length) (Pl.recX m m.length) (Pl.recO m.length)∧([]:List (Option (List Int)))=[])∧mal (Pl.ech (Pl.qA (D.iface (Pl.tyA q) (Pl.datA q))) ((2:Nat)*m.length-(1:Nat)) ((2:Nat)*m.length) (Pl.recX m m.length,Pl.recO m.length)).1.2 ((2:Nat)*m.length-(1:Nat))∧(∀(i:(Ty.ref (0:Nat)).El),i∈mrow (Pl.ech (Pl.qA (D.iface (Pl.tyA q) (Pl.datA q))) ((2:Nat)*m.length-(1:Nat)) ((2:Nat)*m.length) (Pl.recX m m.length,Pl.recO m.length)).1.2 ((2:Nat)*m.length-(1:Nat))→mal (Pl.ech (Pl.qA (D.iface (Pl.tyA q) (Pl.datA q))) ((2:Nat)*m.length-(1:Nat)) ((2:Nat)*m.length) (Pl.recX m m.length,Pl.recO m.length)).1.1 i)∧mal (Pl.ech (Pl.qA (D.iface (Pl.tyA q) (Pl.datA q))) ((2:Nat)*m.length-(1:Nat)) ((2:Nat)*m.length) (Pl.recX m m.length,Pl.recO m.length)).1.2 ((2:Nat)*m.length)∧(∀(i:(Ty.ref (0:Nat)).El),i∈mrow (Pl.ech (Pl.qA (D.iface (Pl.tyA q) (Pl.datA q))) ((2:Nat)*m.length-(1:Nat)) ((2:Nat)*m.length) (Pl.recX m m.length,Pl.recO m.length)).1.2 ((2:Nat)*m.length)→mal (Pl.ech (Pl.qA (D.iface (Pl.tyA q) (Pl.datA q))) ((2:Nat)*m.length-(1:Nat)) ((2:Nat)*m.length) (Pl.recX m m.length,Pl.recO m.length)).1.1 i)∧mal (Pl.cst (Pl.ech (Pl.qA (D.iface (Pl.tyA q) (Pl.datA q))) ((2:Nat)*m.length-(1:Nat)) ((2:Nat)*m.length) (Pl.recX m m.length,Pl.recO m.length)).2) (Pl.ech (Pl.qA (D.iface (Pl.tyA q) (Pl.datA q))) ((2:Nat)*m.length-(1:Nat)) ((2:Nat)*m.length) (Pl.recX m m.length,Pl.recO m.length)).2.length∧(0:Int)≤(↑(mrow (Pl.cst (Pl.ech (Pl.qA (D.iface (Pl.tyA q) (Pl.datA q))) ((2:Nat)*m.length-(1:Nat)) ((2:Nat)*m.length) (Pl.recX m m.length,Pl.recO m.length)).2) (Pl.ech (Pl.qA (D.iface (Pl.tyA q) (Pl.datA q))) ((2:Nat)*m.length-(1:Nat)) ((2:Nat)*m.length) (Pl.recX m m.length,Pl.recO m.length)).2.length).length:Int)∧(↑(mrow (Pl.cst (Pl.ech (Pl.qA (D.iface (Pl.tyA q) (Pl.datA q))) ((2:Nat)*m.length-(1:Nat)) ((2:Nat)*m.length) (Pl.recX m m.length,Pl.recO m.length)).2) (Pl.ech (Pl.qA (D.iface (Pl.tyA q) (Pl.datA q))) ((2:Nat)*m.length-(1:Nat)) ((2:Nat)*m.length) (Pl.recX m m.length,Pl.recO m.length)).2.length).length:Int)≤(↑(List.map (mrow (Pl.ech (Pl.qA (D.iface (Pl.tyA q) (Pl.datA q))) ((2:Nat)*m.length-(1:Nat)) ((2:Nat)*m.length) (Pl.recX m m.length,Pl.recO m.length)).1.1) (mrow (Pl.ech (Pl.qA (D.iface (Pl.tyA q) (Pl.datA q))) ((2:Nat)*m.length-(1:Nat)) ((2:Nat)*m.length) (Pl.recX m m.length,Pl.recO m.length)).1.2 ((2:Nat)*m.length))).length:Int)∧ ∃(n:Nat),itl (fun(G:List Int×Int×List (Option (List Int))×PUnit×List (Option (List Nat))×List (Option (List Int))×PUnit→Prop) (x:List Int×Int×List (Option (List Int))×PUnit×List (Option (List Nat))×List (Option (List Int))×PUnit)=>Br (decide (x.2.1<(↑(sub (List.map (mrow (Pl.ech (Pl.qA (D.iface (Pl.tyA q) (Pl.datA q))) ((2:Nat)*m.length-(1:Nat)) ((2:Nat)*m.length) (Pl.recX m m.length,Pl.recO m.length)).1.1) (mrow (Pl.ech (Pl.qA (D.iface (Pl.tyA q) (Pl.datA q))) ((2:Nat)*m.length-(1:Nat)) ((2:Nat)*m.length) (Pl.recX m m.length,Pl.recO m.length)).1.2 ((2:Nat)*m.length))) (↑(mrow (Pl.cst (Pl.ech (Pl.qA (D.iface (Pl.tyA q) (Pl.datA q))) ((2:Nat)*m.length-(1:Nat)) ((2:Nat)*m.length) (Pl.recX m m.length,Pl.recO m.length)).2) (Pl.ech (Pl.qA (D.iface (Pl.tyA q) (Pl.datA q))) ((2:Nat)*m.length-(1:Nat)) ((2:Nat)*m.length) (Pl.recX m m.length,Pl.recO m.length)).2.length).length:Int) (↑(List.map (mrow (Pl.ech (Pl.qA (D.iface (Pl.tyA q) (Pl.datA q))) ((2:Nat)*m.length-(1:Nat)) ((2:Nat)*m.length) (Pl.recX m m.length,Pl.recO m.length)).1.1) (mrow (Pl.ech (Pl.qA (D.iface (Pl.tyA q) (Pl.datA q))) ((2:Nat)*m.length-(1:Nat)) ((2:Nat)*m.length) (Pl.recX m m.length,Pl.recO m.length)).1.2 ((2:Nat)*m.length))).length:Int)).length:Int))) ((0:Int)≤x.2.1∧x.2.1<(↑(sub (List.map (mrow (Pl.ech (Pl.qA (D.iface (Pl.tyA q) (Pl.datA q))) ((2:Nat)*m.length-(1:Nat)) ((2:Nat)*m.length) (Pl.recX m m.length,Pl.recO m.length)).1.1) (mrow (Pl.ech (Pl.qA (D.iface (Pl.tyA q) (Pl.datA q))) ((2:Nat)*m.length-(1:Nat)) ((2:Nat)*m.length) (Pl.recX m m.length,Pl.recO m.length)).1.2 ((2:Nat)*m.length))) (↑(mrow (Pl.cst (Pl.ech (Pl.qA (D.iface (Pl.tyA q) (Pl.datA q))) ((2:Nat)*m.length-(1:Nat)) ((2:Nat)*m.length) (Pl.recX m m.length,Pl.recO m.length)).2) (Pl.ech (Pl.qA (D.iface (Pl.tyA q) (Pl.datA q))) ((2:Nat)*m.length-(1:Nat)) ((2:Nat)*m.length) (Pl.recX m m.length,Pl.recO m.length)).2.length).length:Int) (↑(List.map (mrow (Pl.ech (Pl.qA (D.iface (Pl.tyA q) (Pl.datA q))) ((2:Nat)*m.length-(1:Nat)) ((2:Nat)*m.length) (Pl.recX m m.length,Pl.recO m.length)).1.1) (mrow (Pl.ech (Pl.qA (D.iface (Pl.tyA q) (Pl.datA q))) ((2:Nat)*m.length-(1:Nat)) ((2:Nat)*m.length) (Pl.recX m m.length,Pl.recO m.length)).1.2 ((2:Nat)*m.length))).length:Int)).length:Int)∧(Pl.okF (D.rptr (fieldC q))∧Pl.inAll (Pl.qF (D.rptr (fieldC q))) (rd i64.slc (sub (List.map (mrow (Pl.ech (Pl.qA (D.iface (Pl.tyA q) (Pl.datA q))) ((2:Nat)*m.length-(1:Nat)) ((2:Nat)*m.length) (Pl.recX m m.length,Pl.recO m.length)).1.1) (mrow (Pl.ech (Pl.qA (D.iface (Pl.tyA q) (Pl.datA q))) ((2:Nat)*m.length-(1:Nat)) ((2:Nat)*m.length) (Pl.recX m m.length,Pl.recO m.length)).1.2 ((2:Nat)*m.length))) (↑(mrow (Pl.cst (Pl.ech (Pl.qA (D.iface (Pl.tyA q) (Pl.datA q))) ((2:Nat)*m.length-(1:Nat)) ((2:Nat)*m.length) (Pl.recX m m.length,Pl.recO m.length)).2) (Pl.ech (Pl.qA (D.iface (Pl.tyA q) (Pl.datA q))) ((2:Nat)*m.length-(1:Nat)) ((2:Nat)*m.length) (Pl.recX m m.length,Pl.recO m.length)).2.length).length:Int) (↑(List.map (mrow (Pl.ech (Pl.qA (D.iface (Pl.tyA q) (Pl.datA q))) ((2:Nat)*m.length-(1:Nat)) ((2:Nat)*m.length) (Pl.recX m m.length,Pl.recO m.length)).1.1) (mrow (Pl.ech (Pl.qA (D.iface (Pl.tyA q) (Pl.datA q))) ((2:Nat)*m.length-(1:Nat)) ((2:Nat)*m.length) (Pl.recX m m.length,Pl.recO m.length)).1.2 ((2:Nat)*m.length))).length:Int)) x.2.1)∧Pl.inAll (Pl.qF (D.rptr (fieldC q))) b∧List.length (rd i64.slc (sub (List.map (mrow (Pl.ech (Pl.qA (D.iface (Pl.tyA q) (Pl.datA q))) ((2:Nat)*m.length-(1:Nat)) ((2:Nat)*m.length) (Pl.recX m m.length,Pl.recO m.length)).1.1) (mrow (Pl.ech (Pl.qA (D.iface (Pl.tyA q) (Pl.datA q))) ((2:Nat)*m.length-(1:Nat)) ((2:Nat)*m.length) (Pl.recX m m.length,Pl.recO m.length)).1.2 ((2:Nat)*m.length))) (↑(mrow (Pl.cst (Pl.ech (Pl.qA (D.iface (Pl.tyA q) (Pl.datA q))) ((2:Nat)*m.length-(1:Nat)) ((2:Nat)*m.length) (Pl.recX m m.length,Pl.recO m.length)).2) (Pl.ech (Pl.qA (D.iface (Pl.tyA q) (Pl.datA q))) ((2:Nat)*m.length-(1:Nat)) ((2:Nat)*m.length) (Pl.recX m m.length,Pl.recO m.length)).2.length).length:Int) (↑(List.map (mrow (Pl.ech (Pl.qA (D.iface (Pl.tyA q) (Pl.datA q))) ((2:Nat)*m.length-(1:Nat)) ((2:Nat)*m.length) (Pl.recX m m.length,Pl.recO m.length)).1.1) (mrow (Pl.ech (Pl.qA (D.iface (Pl.tyA q) (Pl.datA q))) ((2:Nat)*m.length-(1:Nat)) ((2:Nat)*m.length) (Pl.recX m m.length,Pl.recO m.length)).1.2 ((2:Nat)*m.length))).length:Int)) x.2.1)≤b.length)∧Br (Pl.dot (Pl.qF (D.rptr (fieldC q))) (rd i64.slc (sub (List.map (mrow (Pl.ech (Pl.qA (D.iface (Pl.tyA q) (Pl.datA q))) ((2:Nat)*m.length-(1:Nat)) ((2:Nat)*m.length) (Pl.recX m m.length,Pl.recO m.length)).1.1) (mrow (Pl.ech (Pl.qA (D.iface (Pl.tyA q) (Pl.datA q))) ((2:Nat)*m.length-(1:Nat)) ((2:Nat)*m.length) (Pl.recX m m.length,Pl.recO m.length)).1.2 ((2:Nat)*m.length))) (↑(mrow (Pl.cst (Pl.ech (Pl.qA (D.iface (Pl.tyA q) (Pl.datA q))) ((2:Nat)*m.length-(1:Nat)) ((2:Nat)*m.length) (Pl.recX m m.length,Pl.recO m.length)).2) (Pl.ech (Pl.qA (D.iface (Pl.tyA q) (Pl.datA q))) ((2:Nat)*m.length-(1:Nat)) ((2:Nat)*m.length) (Pl.recX m m.length,Pl.recO m.length)).2.length).length:Int) (↑(List.map (mrow (Pl.ech (Pl.qA (D.iface (Pl.tyA q) (Pl.datA q))) ((2:Nat)*m.length-(1:Nat)) ((2:Nat)*m.length) (Pl.recX m m.length,Pl.recO m.length)).1.1) (mrow (Pl.ech (Pl.qA (D.iface (Pl.tyA q) (Pl.datA q))) ((2:Nat)*m.length-(1:Nat)) ((2:Nat)*m.length) (Pl.recX m m.length,Pl.recO m.length)).1.2 ((2:Nat)*m.length))).length:Int)) x.2.1) b !=(0:Int)) (([],D.slc false i64 (rd i64.slc (sub (List.map (mrow (Pl.ech (Pl.qA (D.iface (Pl.tyA q) (Pl.datA q))) ((2:Nat)*m.length-(1:Nat)) ((2:Nat)*m.length) (Pl.recX m m.length,Pl.recO m.length)).1.1) (mrow (Pl.ech (Pl.qA (D.iface (Pl.tyA q) (Pl.datA q))) ((2:Nat)*m.length-(1:Nat)) ((2:Nat)*m.length) (Pl.recX m m.length,Pl.recO m.length)).1.2 ((2:Nat)*m.length))) (↑(mrow (Pl.cst (Pl.ech (Pl.qA (D.iface (Pl.tyA q) (Pl.datA q))) ((2:Nat)*m.length-(1:Nat)) ((2:Nat)*m.length) (Pl.recX m m.length,Pl.recO m.length)).2) (Pl.ech (Pl.qA (D.iface (Pl.tyA q) (Pl.datA q))) ((2:Nat)*m.length-(1:Nat)) ((2:Nat)*m.length) (Pl.recX m m.length,Pl.recO m.length)).2.length).length:Int) (↑(List.map (mrow (Pl.ech (Pl.qA (D.iface (Pl.tyA q) (Pl.datA q))) ((2:Nat)*m.length-(1:Nat)) ((2:Nat)*m.length) (Pl.recX m m.length,Pl.recO m.length)).1.1) (mrow (Pl.ech (Pl.qA (D.iface (Pl.tyA q) (Pl.datA q))) ((2:Nat)*m.length-(1:Nat)) ((2:Nat)*m.length) (Pl.recX m m.length,Pl.recO m.length)).1.2 ((2:Nat)*m.length))).length:Int)) x.2.1),())=C101s.post (fieldD q,m,b,())) (G (x.1,IntKind.i64.wrap (x.2.1+(1:Int)),x.2.2.1,(),x.2.2.2.2))) (Br (decide ((↑m.length:Int)>(0:Int))) ((0:Int)≤(0:Int)∧(0:Int)<(↑m.length:Int)∧(0:Int)≤(↑(List.length (rd i64.slc m (0:Int))):Int)∧(↑(List.length (rd i64.slc m (0:Int))):Int)=(↑(List.length (rd i64.slc m (0:Int))):Int)∧(↑(List.length (rd i64.slc m (0:Int))):Int)*(8:Int)≤(140737488355328:Int)∧ ∃(n:Nat),itl (fun(G:List Int×Int×List (Option (List Int))×PUnit×List (Option (List Nat))×List (Option (List Int))×PUnit→Prop) (x:List Int×Int×List (Option (List Int))×PUnit×List (Option (List Nat))×List (Option (List Int))×PUnit)=>Br (decide (x.2.1<(↑(mrow (Pl.cst (Pl.ech (Pl.qA (D.iface (Pl.tyA q) (Pl.datA q))) ((2:Nat)*m.length-(1:Nat)) ((2:Nat)*m.length) (Pl.recX m m.length,Pl.recO m.length)).2) (Pl.ech (Pl.qA (D.iface (Pl.tyA q) (Pl.datA q))) ((2:Nat)*m.length-(1:Nat)) ((2:Nat)*m.length) (Pl.recX m m.length,Pl.recO m.length)).2.length).length:Int))) ((0:Int)≤x.2.1∧x.2.1<(↑(mrow (Pl.cst (Pl.ech (Pl.qA (D.iface (Pl.tyA q) (Pl.datA q))) ((2:Nat)*m.length-(1:Nat)) ((2:Nat)*m.length) (Pl.recX m m.length,Pl.recO m.length)).2) (Pl.ech (Pl.qA (D.iface (Pl.tyA q) (Pl.datA q))) ((2:Nat)*m.length-(1:Nat)) ((2:Nat)*m.length) (Pl.recX m m.length,Pl.recO m.length)).2.length).length:Int)∧(0:Int)≤x.2.1∧x.2.1<(↑(List.map (mrow (Pl.ech (Pl.qA (D.iface (Pl.tyA q) (Pl.datA q))) ((2:Nat)*m.length-(1:Nat)) ((2:Nat)*m.length) (Pl.recX m m.length,Pl.recO m.length)).1.1) (mrow (Pl.ech (Pl.qA (D.iface (Pl.tyA q) (Pl.datA q))) ((2:Nat)*m.length-(1:Nat)) ((2:Nat)*m.length) (Pl.recX m m.length,Pl.recO m.length)).1.2 ((2:Nat)*m.length))).length:Int)∧(Pl.okF (D.rptr (fieldC q))∧Pl.inAll (Pl.qF (D.rptr (fieldC q))) (rd i64.slc (List.map (mrow (Pl.ech (Pl.qA (D.iface (Pl.tyA q) (Pl.datA q))) ((2:Nat)*m.length-(1:Nat)) ((2:Nat)*m.length) (Pl.recX m m.length,Pl.recO m.length)).1.1) (mrow (Pl.ech (Pl.qA (D.iface (Pl.tyA q) (Pl.datA q))) ((2:Nat)*m.length-(1:Nat)) ((2:Nat)*m.length) (Pl.recX m m.length,Pl.recO m.length)).1.2 ((2:Nat)*m.length))) x.2.1)∧Pl.inAll (Pl.qF (D.rptr (fieldC q))) b∧List.length (rd i64.slc (List.map (mrow (Pl.ech (Pl.qA (D.iface (Pl.tyA q) (Pl.datA q))) ((2:Nat)*m.length-(1:Nat)) ((2:Nat)*m.length) (Pl.recX m m.length,Pl.recO m.length)).1.1) (mrow (Pl.ech (Pl.qA (D.iface (Pl.tyA q) (Pl.datA q))) ((2:Nat)*m.length-(1:Nat)) ((2:Nat)*m.length) (Pl.recX m m.length,Pl.recO m.length)).1.2 ((2:Nat)*m.length))) x.2.1)≤b.length)∧(0:Int)≤rd i64 (mrow (Pl.cst (Pl.ech (Pl.qA (D.iface (Pl.tyA q) (Pl.datA q))) ((2:Nat)*m.length-(1:Nat)) ((2:Nat)*m.length) (Pl.recX m m.length,Pl.recO m.length)).2) (Pl.ech (Pl.qA (D.iface (Pl.tyA q) (Pl.datA q))) ((2:Nat)*m.length-(1:Nat)) ((2:Nat)*m.length) (Pl.recX m m.length,Pl.recO m.length)).2.length) x.2.1∧rd i64 (mrow (Pl.cst (Pl.ech (Pl.qA (D.iface (Pl.tyA q) (Pl.datA q))) ((2:Nat)*m.length-(1:Nat)) ((2:Nat)*m.length) (Pl.recX m m.length,Pl.recO m.length)).2) (Pl.ech (Pl.qA (D.iface (Pl.tyA q) (Pl.datA q))) ((2:Nat)*m.length-(1:Nat)) ((2:Nat)*m.length) (Pl.recX m m.length,Pl.recO m.length)).2.length) x.2.1<(↑(List.length x.1):Int)∧(0:Int)≤rd i64 (mrow (Pl.cst (Pl.ech (Pl.qA (D.iface (Pl.tyA q) (Pl.datA q))) ((2:Nat)*m.length-(1:Nat)) ((2:Nat)*m.length) (Pl.recX m m.length,Pl.recO m.length)).2) (Pl.ech (Pl.qA (D.iface (Pl.tyA q) (Pl.datA q))) ((2:Nat)*m.length-(1:Nat)) ((2:Nat)*m.length) (Pl.recX m m.length,Pl.recO m.length)).2.length) x.2.1∧rd i64 (mrow (Pl.cst (Pl.ech (Pl.qA (D.iface (Pl.tyA q) (Pl.datA q))) ((2:Nat)*m.length-(1:Nat)) ((2:Nat)*m.length) (Pl.recX m m.length,Pl.recO m.length)).2) (Pl.ech (Pl.qA (D.iface (Pl.tyA q) (Pl.datA q))) ((2:Nat)*m.length-(1:Nat)) ((2:Nat)*m.length) (Pl.recX m m.length,Pl.recO m.length)).2.length) x.2.1<(↑(List.length x.1):Int)∧G (List.set x.1 (Int.toNat (rd i64 (mrow (Pl.cst (Pl.ech (Pl.qA (D.iface (Pl.tyA q) (Pl.datA q))) ((2:Nat)*m.length-(1:Nat)) ((2:Nat)*m.length) (Pl.recX m m.length,Pl.recO m.length)).2) (Pl.ech (Pl.qA (D.iface (Pl.tyA q) (Pl.datA q))) ((2:Nat)*m.length-(1:Nat)) ((2:Nat)*m.length) (Pl.recX m m.length,Pl.recO m.length)).2.length) x.2.1)) (Pl.dot (Pl.qF (D.rptr (fieldC q))) (rd i64.slc (List.map (mrow (Pl.ech (Pl.qA (D.iface (Pl.tyA q) (Pl.datA q))) ((2:Nat)*m.length-(1:Nat)) ((2:Nat)*m.length) (Pl.recX m m.length,Pl.recO m.length)).1.1) (mrow (Pl.ech (Pl.qA (D.iface (Pl.tyA q) (Pl.datA q))) ((2:Nat)*m.length-(1:Nat)) ((2:Nat)*m.length) (Pl.recX m m.length,Pl.recO m.length)).1.2 ((2:Nat)*m.length))) x.2.1) b),IntKind.i64.wrap (x.2.1+(1:Int)),x.2.2.1,(),x.2.2.2.2)) ((x.1,constD (Value.slice none (0:Nat) (0:Nat)),())=C101s.post (fieldD q,m,b,()))) n (List.replicate (↑(List.length (rd i64.slc m (0:Int))):Int).toNat (0:Int),(0:Int),x.2.2.1,(),x.2.2.2.2)) (∃(n:Nat),itl (fun(G:List Int×Int×List (Option (List Int))×PUnit×List (Option (List Nat))×List (Option (List Int))×PUnit→Prop) (x:List Int×Int×List (Option (List Int))×PUnit×List (Option (List Nat))×List (Option (List Int))×PUnit)=>Br (decide (x.2.1<(↑(mrow (Pl.cst (Pl.ech (Pl.qA (D.iface (Pl.tyA q) (Pl.datA q))) ((2:Nat)*m.length-(1:Nat)) ((2:Nat)*m.length) (Pl.recX m m.length,Pl.recO m.length)).2) (Pl.ech (Pl.qA (D.iface (Pl.tyA q) (Pl.datA q))) ((2:Nat)*m.length-(1:Nat)) ((2:Nat)*m.length) (Pl.recX m m.length,Pl.recO m.length)).2.length).length:Int))) ((0:Int)≤x.2.1∧x.2.1<(↑(mrow (Pl.cst (Pl.ech (Pl.qA (D.iface (Pl.tyA q) (Pl.datA q))) ((2:Nat)*m.length-(1:Nat)) ((2:Nat)*m.length) (Pl.recX m m.length,Pl.recO m.length)).2) (Pl.ech (Pl.qA (D.iface (Pl.tyA q) (Pl.datA q))) ((2:Nat)*m.length-(1:Nat)) ((2:Nat)*m.length) (Pl.recX m m.length,Pl.recO m.length)).2.length).length:Int)∧(0:Int)≤x.2.1∧x.2.1<(↑(List.map (mrow (Pl.ech (Pl.qA (D.iface (Pl.tyA q) (Pl.datA q))) ((2:Nat)*m.length-(1:Nat)) ((2:Nat)*m.length) (Pl.recX m m.length,Pl.recO m.length)).1.1) (mrow (Pl.ech (Pl.qA (D.iface (Pl.tyA q) (Pl.datA q))) ((2:Nat)*m.length-(1:Nat)) ((2:Nat)*m.length) (Pl.recX m m.length,Pl.recO m.length)).1.2 ((2:Nat)*m.length))).length:Int)∧(Pl.okF (D.rptr (fieldC q))∧Pl.inAll (Pl.qF (D.rptr (fieldC q))) (rd i64.slc (List.map (mrow (Pl.ech (Pl.qA (D.iface (Pl.tyA q) (Pl.datA q))) ((2:Nat)*m.length-(1:Nat)) ((2:Nat)*m.length) (Pl.recX m m.length,Pl.recO m.length)).1.1) (mrow (Pl.ech (Pl.qA (D.iface (Pl.tyA q) (Pl.datA q))) ((2:Nat)*m.length-(1:Nat)) ((2:Nat)*m.length) (Pl.recX m m.length,Pl.recO m.length)).1.2 ((2:Nat)*m.length))) x.2.1)∧Pl.inAll (Pl.qF (D.rptr (fieldC q))) b∧List.length (rd i64.slc (List.map (mrow (Pl.ech (Pl.qA (D.iface (Pl.tyA q) (Pl.datA q))) ((2:Nat)*m.length-(1:Nat)) ((2:Nat)*m.length) (Pl.recX m m.length,Pl.recO m.length)).1.1) (mrow (Pl.ech (Pl.qA (D.iface (Pl.tyA q) (Pl.datA q))) ((2:Nat)*m.length-(1:Nat)) ((2:Nat)*m.length) (Pl.recX m m.length,Pl.recO m.length)).1.2 ((2:Nat)*m.length))) x.2.1)≤b.length)∧(0:Int)≤rd i64 (mrow (Pl.cst (Pl.ech (Pl.qA (D.iface (Pl.tyA q) (Pl.datA q))) ((2:Nat)*m.length-(1:Nat)) ((2:Nat)*m.length) (Pl.recX m m.length,Pl.recO m.length)).2) (Pl.ech (Pl.qA (D.iface (Pl.tyA q) (Pl.datA q))) ((2:Nat)*m.length-(1:Nat)) ((2:Nat)*m.length) (Pl.recX m m.length,Pl.recO m.length)).2.length) x.2.1∧rd i64 (mrow (Pl.cst (Pl.ech (Pl.qA (D.iface (Pl.tyA q) (Pl.datA q))) ((2:Nat)*m.length-(1:Nat)) ((2:Nat)*m.length) (Pl.recX m m.length,Pl.recO m.length)).2) (Pl.ech (Pl.qA (D.iface (Pl.tyA q) (Pl.datA q))) ((2:Nat)*m.length-(1:Nat)) ((2:Nat)*m.length) (Pl.recX m m.length,Pl.recO m.length)).2.length) x.2.1<(↑(List.length x.1):Int)∧(0:Int)≤rd i64 (mrow (Pl.cst (Pl.ech (Pl.qA (D.iface (Pl.tyA q) (Pl.datA q))) ((2:Nat)*m.length-(1:Nat)) ((2:Nat)*m.length) (Pl.recX m m.length,Pl.recO m.length)).2) (Pl.ech (Pl.qA (D.iface (Pl.tyA q) (Pl.datA q))) ((2:Nat)*m.length-(1:Nat)) ((2:Nat)*m.length) (Pl.recX m m.length,Pl.recO m.length)).2.length) x.2.1∧rd i64 (mrow (Pl.cst (Pl.ech (Pl.qA (D.iface (Pl.tyA q) (Pl.datA q))) ((2:Nat)*m.length-(1:Nat)) ((2:Nat)*m.length) (Pl.recX m m.length,Pl.recO m.length)).2) (Pl.ech (Pl.qA (D.iface (Pl.tyA q) (Pl.datA q))) ((2:Nat)*m.length-(1:Nat)) ((2:Nat)*m.length) (Pl.recX m m.length,Pl.recO m.length)).2.length) x.2.1<(↑(List.length x.1):Int)∧G (List.set x.1 (Int.toNat (rd i64 (mrow (Pl.cst (Pl.ech (Pl.qA (D.iface (Pl.tyA q) (Pl.datA q))) ((2:Nat)*m.length-(1:Nat)) ((2:Nat)*m.length) (Pl.recX m m.length,Pl.recO m.length)).2) (Pl.ech (Pl.qA (D.iface (Pl.tyA q) (Pl.datA q))) ((2:Nat)*m.length-(1:Nat)) ((2:Nat)*m.length) (Pl.recX m m.length,Pl.recO m.length)).2.length) x.2.1)) (Pl.dot (Pl.qF (D.rptr (fieldC q))) (rd i64.slc (List.map (mrow (Pl.ech (Pl.qA (D.iface (Pl.tyA q) (Pl.datA q))) ((2:Nat)*m.length-(1:Nat)) ((2:Nat)*m.length) (Pl.recX m m.length,Pl.recO m.length)).1.1) (mrow (Pl.ech (Pl.qA (D.iface (Pl.tyA q) (Pl.datA q))) ((2:Nat)*m.length-(1:Nat)) ((2:Nat)*m.length) (Pl.recX m m.length,Pl.recO m.length)).1.2 ((2:Nat)*m.length))) x.2.1) b),IntKind.i64.wrap (x.2.1+(1:Int)),x.2.2.1,(),x.2.2.2.2)) ((x.1,constD (Value.slice none (0:Nat) (0:Nat)),())=C101s.post (fieldD q,m,b,()))) n (x.1,(0:Int),x.2.2.1,(),x.2.2.2.2)))) n ([],(0:Int),List.map (fun(x:Option (List i64.El))=>none) (Pl.ech (Pl.qA (D.iface (Pl.tyA q) (Pl.datA q))) ((2:Nat)*m.length-(1:Nat)) ((2:Nat)*m.length) (Pl.recX m m.length,Pl.recO m.length)).1.1,(),List.map (fun(x:Option (List (Ty.ref (0:Nat)).El))=>none) (Pl.ech (Pl.qA (D.iface (Pl.tyA q) (Pl.datA q))) ((2:Nat)*m.length-(1:Nat)) ((2:Nat)*m.length) (Pl.recX m m.length,Pl.recO m.length)).1.2,List.map (fun(x:Option (List i64.El))=>none) (Pl.cst (Pl.ech (Pl.qA (D.iface (Pl.tyA q) (Pl.datA q))) ((2:Nat)*m.length-(1:Nat)) ((2:Nat)*m.length) (Pl.recX m m.length,Pl.recO m.length)).2),())) (by kernel_rfl) ?_
 rw[recS_eq hq,qF_f,c2,rowsD_eq,hp]
 have hlC:=F.lC
 have hlD:=F.lD
 have hrD:=F.rD
 have hcC:=F.cC
 obtain⟨_,hwide,_⟩:=shape_0 s1
 unfold Pl.den at hd
 have hsol:Pl.sol q m b=Pl.solL q b (Pl.echC q m) (Pl.echD q m) (List.replicate (Pl.wide m) 0):=rfl
 rw[hsol]
 have hCe:(Pl.recS q m).2=Pl.echC q m:=rfl
 have hsub:sub (Pl.echD q m) ((Pl.recS q m).2.length:Int) ((Pl.echD q m).length:Int)=(Pl.echD q m).drop (Pl.echC q m).length:=sub_drop _ _
 rw[hsub]
 rw[hCe]at c1⊢
 have hX: ∀ {x:XS},True:=fun {x}=>trivial
 generalize hC:Pl.echC q m=C at*
 generalize hD:Pl.echD q m=DD at*
 have hpre: ∀r∈DD,Pl.okF (D.rptr (fieldC q))∧Pl.inAll q r∧Pl.inAll q b∧r.length≤b.length:=fun r hr=>⟨okF_f hq,⟨(hrD r hr).2,by rw[(hrD r hr).1];omega⟩,⟨s3,hb⟩,by rw[(hrD r hr).1];omega⟩
 have last: ∀(x0:List Int) (A:XS) (O:OS) (K:XS),x0.length=Pl.wide m∨C=[]→x0=(bif decide (0<m.length)then List.replicate (Pl.wide m) 0 else [])→ ∃n,itl (fun(G:List Int×Int×XS×Unit×OS×XS×Unit→Prop) (x:List Int×Int×XS×Unit×OS×XS×Unit)=>
   Br (decide (x.2.1<(C.length:Int))) ((0:Int)≤x.2.1∧x.2.1<(C.length:Int)∧(0:Int)≤x.2.1∧x.2.1<(DD.length:Int)∧(Pl.okF (D.rptr (fieldC q))∧Pl.inAll q (rd i64.slc DD x.2.1)∧Pl.inAll q b∧(rd i64.slc DD x.2.1).length≤b.length)∧(0:Int)≤rd i64 C x.2.1∧rd i64 C x.2.1<(x.1.length:Int)∧(0:Int)≤rd i64 C x.2.1∧rd i64 C x.2.1<(x.1.length:Int)∧
     G (x.1.set (Int.toNat (rd i64 C x.2.1)) (Pl.dot q (rd i64.slc DD x.2.1) b),IntKind.i64.wrap (x.2.1+(1:Int)),x.2.2.1,(),x.2.2.2.2)) ((x.1,constD (Value.slice none (0:Nat) (0:Nat)),())=(Pl.solL q b C DD (List.replicate (Pl.wide m) 0),D.val (Value.slice none 0 0),()))) n (x0,(0:Int),A,(),O,K,()):=by
  intro x0 A O K hx0 hx1
  have hst:Pl.solL q b C DD x0=Pl.solL q b C DD (List.replicate (Pl.wide m) 0):=by
   by_cases h0:0<m.length
   ·rw[hx1,decide_eq_true h0];rfl
   ·have:C=[]:=List.length_eq_zero_iff.1 (by omega)
    have e:m=[]:=List.length_eq_zero_iff.1 (by omega)
    rw[this,solL_nil,solL_nil,hx1,decide_eq_false h0,e];rfl
  refine itl_rule (fun(s:List Int×Int×XS×Unit×OS×XS×Unit)=> ∃i:Nat,s.2.1=(i:Int)∧i≤C.length∧(s.1.length=Pl.wide m∨C=[])∧Pl.solL q b (C.drop i) (DD.drop i) s.1=Pl.solL q b C DD (List.replicate (Pl.wide m) 0)) (fun s=>((C.length:Int)-s.2.1).toNat) ⟨0,rfl,Nat.zero_le _,hx0,hst⟩ ?_
  rintro⟨x,i0,A,⟨⟩,O,K,⟨⟩⟩ G ⟨i,e,hi,hxl,hf⟩ hG
  simp only at e hxl hf hG⊢
  subst e
  refine Br_of (fun h=> ?_) (fun h=> ?_)
  ·have h:i<C.length:=by have:=of_decide_eq_true h;omega
   rw[rd_rr,rd_i,wrap_i64 (by omega) (by omega)]
   have hne:C≠[]:=fun e=>by rw[e]at h;exact absurd h (Nat.not_lt_zero _)
   have hxl:x.length=Pl.wide m:=hxl.resolve_right hne
   obtain⟨k0,k1⟩:=hcC _ (show C.getD i 0∈C from getD_mem h)
   have hiD:i<DD.length:=by omega
   have hkx:C.getD i 0<((List.length x:Nat):Int):=by
    have e:((List.length x:Nat):Int)=(Pl.wide m:Int):=congrArg Nat.cast hxl
    rw[e];exact k1
   rw[drop_cons 0 h,drop_cons [] hiD,Pl.solL]at hf
   refine⟨by omega,by omega,by omega,by omega,hpre _ (rowD_mem hiD),k0,hkx,k0,hkx,hG _ ⟨i+1,rfl,by omega, .inl (by simp only[List.length_set];exact hxl),hf⟩ (by simp only;omega)⟩
  ·have h:i=C.length:=by have:=of_decide_eq_false h;omega
   subst h
   rw[List.drop_length,solL_nil]at hf
   rw[←hf];rfl
 refine⟨p1,⟨p2,rfl⟩,F.m1,F.a1,F.m2,F.a2,c1,by omega,by omega,itl_rule (fun(s:List Int×Int×XS×Unit×OS×XS×Unit)=> ∃(i:Nat),s.1=[]∧s.2.1=(i:Int)∧i≤(DD.drop C.length).length∧Pl.denL q b ((DD.drop C.length).drop i)=none) (fun s=>(((DD.drop C.length).length:Int)-s.2.1).toNat) ⟨0,rfl,rfl,Nat.zero_le _,hd⟩ ?_⟩
 have hrE: ∀r∈DD.drop C.length,r∈DD:=fun r hr=>List.mem_of_mem_drop hr
 have hlE:(DD.drop C.length).length≤1000000000:=by rw[List.length_drop];omega
 generalize DD.drop C.length=EE at*
 rintro⟨x,i0,A,⟨⟩,O,K,⟨⟩⟩ G ⟨i,ex,e,hi,hf⟩ hG
 simp only at ex e hf hG⊢
 subst ex e
 refine Br_of (fun h=> ?_) (fun h=> ?_)
 ·have h:i<EE.length:=by have:=of_decide_eq_true h;omega
  rw[rd_rr,wrap_i64 (by omega) (by omega)]
  rw[drop_cons [] h,Pl.denL]at hf
  refine⟨by omega,by omega,hpre _ (hrE _ (rowD_mem h)),Br_of (fun h1=> ?_) (fun h1=> ?_)⟩
  ·have h1:Pl.dot q (EE.getD i []) b≠0:=by simpa using h1
   rw[decide_eq_true h1,cond_true]at hf
   cases hf
  ·have h1:Pl.dot q (EE.getD i []) b=0:=by simpa using h1
   rw[decide_eq_false (not_not_intro h1),cond_false]at hf
   exact hG _ ⟨i+1,rfl,rfl,by omega,hf⟩ (by simp only;omega)
 ·refine Br_of (fun h0=> ?_) (fun h0=> ?_)
  ·have h0:0<m.length:=by have:=of_decide_eq_true h0;omega
   have hw:(rd i64.slc m (0:Int)).length=Pl.wide m:=rfl
   rw[hw]
   refine⟨by omega,by omega,by omega,trivial,by omega,last _ _ _ _ (.inl (by simp)) ?_⟩
   rw[decide_eq_true h0];simp
  ·have h0: ¬0<m.length:=by have:=of_decide_eq_false h0;omega
   exact last _ _ _ _ (.inr (List.length_eq_zero_iff.1 (by omega))) (by rw[decide_eq_false h0];rfl)
theorem vc101d: ∀x,C101d.pre x→VC T101 H101 Try.f101 C101d x:=by
 rintro⟨v,(m:List (List Int)),(b:List Int),⟨⟩⟩ ⟨⟨⟨q,hq,(rfl:v=_)⟩,(hm:Pl.okMM m),(hb:b.length≤1000000000)⟩,(hs:Pl.sys (Pl.qF (fieldD q)) m b=0),(hd:Pl.den (Pl.qF (fieldD q)) m b≠none)⟩
 rw[qF_d]at hs hd
 obtain⟨s1,s2,s3⟩:=den_sys hs
 obtain⟨p1,p2,F⟩:=pre_new hq s1
 obtain⟨c1,c2⟩:=cst_row (Pl.recS q m).2
 have hp:C101d.post (fieldD q,m,b,())=([],Pl.denW q m b,()):=rfl
 refine cast (α:=Pl.okMx m∧(Pl.preE (Pl.tyA q) (Pl.tyA q) (Pl.datA q) (Pl.datA q) ((2:Nat)*m.length-(1:Nat)) ((2:Nat)*m.length) (Pl.recX m m.length) (Pl.recO m.length)∧([]:List (Option (List Int)))=[])∧mal (Pl.ech (Pl.qA (D.iface (Pl.tyA q) (Pl.datA q))) ((2:Nat)*m.length-(1:Nat)) ((2:Nat)*m.length) (Pl.recX m m.length,Pl.recO m.length)).1.2 ((2:Nat)*m.length-(1:Nat))∧(∀(i:(Ty.ref (0:Nat)).El),i∈mrow (Pl.ech (Pl.qA (D.iface (Pl.tyA q) (Pl.datA q))) ((2:Nat)*m.length-(1:Nat)) ((2:Nat)*m.length) (Pl.recX m m.length,Pl.recO m.length)).1.2 ((2:Nat)*m.length-(1:Nat))→mal (Pl.ech (Pl.qA (D.iface (Pl.tyA q) (Pl.datA q))) ((2:Nat)*m.length-(1:Nat)) ((2:Nat)*m.length) (Pl.recX m m.length,Pl.recO m.length)).1.1 i)∧mal (Pl.ech (Pl.qA (D.iface (Pl.tyA q) (Pl.datA q))) ((2:Nat)*m.length-(1:Nat)) ((2:Nat)*m.length) (Pl.recX m m.length,Pl.recO m.length)).1.2 ((2:Nat)*m.length)∧(∀(i:(Ty.ref (0:Nat)).El),i∈mrow (Pl.ech (Pl.qA (D.iface (Pl.tyA q) (Pl.datA q))) ((2:Nat)*m.length-(1:Nat)) ((2:Nat)*m.length) (Pl.recX m m.length,Pl.recO m.length)).1.2 ((2:Nat)*m.length)→mal (Pl.ech (Pl.qA (D.iface (Pl.tyA q) (Pl.datA q))) ((2:Nat)*m.length-(1:Nat)) ((2:Nat)*m.length) (Pl.recX m m.length,Pl.recO m.length)).1.1 i)∧mal (Pl.cst (Pl.ech (Pl.qA (D.iface (Pl.tyA q) (Pl.datA q))) ((2:Nat)*m.length-(1:Nat)) ((2:Nat)*m.length) (Pl.recX m m.length,Pl.recO m.length)).2) (Pl.ech (Pl.qA (D.iface (Pl.tyA q) (Pl.datA q))) ((2:Nat)*m.length-(1:Nat)) ((2:Nat)*m.length) (Pl.recX m m.length,Pl.recO m.length)).2.length∧(0:Int)≤(↑(mrow (Pl.cst (Pl.ech (Pl.qA (D.iface (Pl.tyA q) (Pl.datA q))) ((2:Nat)*m.length-(1:Nat)) ((2:Nat)*m.length) (Pl.recX m m.length,Pl.recO m.length)).2) (Pl.ech (Pl.qA (D.iface (Pl.tyA q) (Pl.datA q))) ((2:Nat)*m.length-(1:Nat)) ((2:Nat)*m.length) (Pl.recX m m.length,Pl.recO m.length)).2.length).length:Int)∧(↑(mrow (Pl.cst (Pl.ech (Pl.qA (D.iface (Pl.tyA q) (Pl.datA q))) ((2:Nat)*m.length-(1:Nat)) ((2:Nat)*m.length) (Pl.recX m m.length,Pl.recO m.length)).2) (Pl.ech (Pl.qA (D.iface (Pl.tyA q) (Pl.datA q))) ((2:Nat)*m.length-(1:Nat)) ((2:Nat)*m.length) (Pl.recX m m.length,Pl.recO m.length)).2.length).length:Int)≤(↑(List.map (mrow (Pl.ech (Pl.qA (D.iface (Pl.tyA q) (Pl.datA q))) ((2:Nat)*m.length-(1:Nat)) ((2:Nat)*m.length) (Pl.recX m m.length,Pl.recO m.length)).1.1) (mrow (Pl.ech (Pl.qA (D.iface (Pl.tyA q) (Pl.datA q))) ((2:Nat)*m.length-(1:Nat)) ((2:Nat)*m.length) (Pl.recX m m.length,Pl.recO m.length)).1.2 ((2:Nat)*m.length))).length:Int)∧ ∃(n:Nat),itl (fun(G:List Int×Int×List (Option (List Int))×PUnit×List (Option (List Nat))×List (Option (List Int))×PUnit→Prop) (x:List Int×Int×List (Option (List Int))×PUnit×List (Option (List Nat))×List (Option (List Int))×PUnit)=>Br (decide (x.2.1<(↑(sub (List.map (mrow (Pl.ech (Pl.qA (D.iface (Pl.tyA q) (Pl.datA q))) ((2:Nat)*m.length-(1:Nat)) ((2:Nat)*m.length) (Pl.recX m m.length,Pl.recO m.length)).1.1) (mrow (Pl.ech (Pl.qA (D.iface (Pl.tyA q) (Pl.datA q))) ((2:Nat)*m.length-(1:Nat)) ((2:Nat)*m.length) (Pl.recX m m.length,Pl.recO m.length)).1.2 ((2:Nat)*m.length))) (↑(mrow (Pl.cst (Pl.ech (Pl.qA (D.iface (Pl.tyA q) (Pl.datA q))) ((2:Nat)*m.length-(1:Nat)) ((2:Nat)*m.length) (Pl.recX m m.length,Pl.recO m.length)).2) (Pl.ech (Pl.qA (D.iface (Pl.tyA q) (Pl.datA q))) ((2:Nat)*m.length-(1:Nat)) ((2:Nat)*m.length) (Pl.recX m m.length,Pl.recO m.length)).2.length).length:Int) (↑(List.map (mrow (Pl.ech (Pl.qA (D.iface (Pl.tyA q) (Pl.datA q))) ((2:Nat)*m.length-(1:Nat)) ((2:Nat)*m.length) (Pl.recX m m.length,Pl.recO m.length)).1.1) (mrow (Pl.ech (Pl.qA (D.iface (Pl.tyA q) (Pl.datA q))) ((2:Nat)*m.length-(1:Nat)) ((2:Nat)*m.length) (Pl.recX m m.length,Pl.recO m.length)).1.2 ((2:Nat)*m.length))).length:Int)).length:Int))) ((0:Int)≤x.2.1∧x.2.1<(↑(sub (List.map (mrow (Pl.ech (Pl.qA (D.iface (Pl.tyA q) (Pl.datA q))) ((2:Nat)*m.length-(1:Nat)) ((2:Nat)*m.length) (Pl.recX m m.length,Pl.recO m.length)).1.1) (mrow (Pl.ech (Pl.qA (D.iface (Pl.tyA q) (Pl.datA q))) ((2:Nat)*m.length-(1:Nat)) ((2:Nat)*m.length) (Pl.recX m m.length,Pl.recO m.length)).1.2 ((2:Nat)*m.length))) (↑(mrow (Pl.cst (Pl.ech (Pl.qA (D.iface (Pl.tyA q) (Pl.datA q))) ((2:Nat)*m.length-(1:Nat)) ((2:Nat)*m.length) (Pl.recX m m.length,Pl.recO m.length)).2) (Pl.ech (Pl.qA (D.iface (Pl.tyA q) (Pl.datA q))) ((2:Nat)*m.length-(1:Nat)) ((2:Nat)*m.length) (Pl.recX m m.length,Pl.recO m.length)).2.length).length:Int) (↑(List.map (mrow (Pl.ech (Pl.qA (D.iface (Pl.tyA q) (Pl.datA q))) ((2:Nat)*m.length-(1:Nat)) ((2:Nat)*m.length) (Pl.recX m m.length,Pl.recO m.length)).1.1) (mrow (Pl.ech (Pl.qA (D.iface (Pl.tyA q) (Pl.datA q))) ((2:Nat)*m.length-(1:Nat)) ((2:Nat)*m.length) (Pl.recX m m.length,Pl.recO m.length)).1.2 ((2:Nat)*m.length))).length:Int)).length:Int)∧(Pl.okF (D.rptr (fieldC q))∧Pl.inAll (Pl.qF (D.rptr (fieldC q))) (rd i64.slc (sub (List.map (mrow (Pl.ech (Pl.qA (D.iface (Pl.tyA q) (Pl.datA q))) ((2:Nat)*m.length-(1:Nat)) ((2:Nat)*m.length) (Pl.recX m m.length,Pl.recO m.length)).1.1) (mrow (Pl.ech (Pl.qA (D.iface (Pl.tyA q) (Pl.datA q))) ((2:Nat)*m.length-(1:Nat)) ((2:Nat)*m.length) (Pl.recX m m.length,Pl.recO m.length)).1.2 ((2:Nat)*m.length))) (↑(mrow (Pl.cst (Pl.ech (Pl.qA (D.iface (Pl.tyA q) (Pl.datA q))) ((2:Nat)*m.length-(1:Nat)) ((2:Nat)*m.length) (Pl.recX m m.length,Pl.recO m.length)).2) (Pl.ech (Pl.qA (D.iface (Pl.tyA q) (Pl.datA q))) ((2:Nat)*m.length-(1:Nat)) ((2:Nat)*m.length) (Pl.recX m m.length,Pl.recO m.length)).2.length).length:Int) (↑(List.map (mrow (Pl.ech (Pl.qA (D.iface (Pl.tyA q) (Pl.datA q))) ((2:Nat)*m.length-(1:Nat)) ((2:Nat)*m.length) (Pl.recX m m.length,Pl.recO m.length)).1.1) (mrow (Pl.ech (Pl.qA (D.iface (Pl.tyA q) (Pl.datA q))) ((2:Nat)*m.length-(1:Nat)) ((2:Nat)*m.length) (Pl.recX m m.length,Pl.recO m.length)).1.2 ((2:Nat)*m.length))).length:Int)) x.2.1)∧Pl.inAll (Pl.qF (D.rptr (fieldC q))) b∧List.length (rd i64.slc (sub (List.map (mrow (Pl.ech (Pl.qA (D.iface (Pl.tyA q) (Pl.datA q))) ((2:Nat)*m.length-(1:Nat)) ((2:Nat)*m.length) (Pl.recX m m.length,Pl.recO m.length)).1.1) (mrow (Pl.ech (Pl.qA (D.iface (Pl.tyA q) (Pl.datA q))) ((2:Nat)*m.length-(1:Nat)) ((2:Nat)*m.length) (Pl.recX m m.length,Pl.recO m.length)).1.2 ((2:Nat)*m.length))) (↑(mrow (Pl.cst (Pl.ech (Pl.qA (D.iface (Pl.tyA q) (Pl.datA q))) ((2:Nat)*m.length-(1:Nat)) ((2:Nat)*m.length) (Pl.recX m m.length,Pl.recO m.length)).2) (Pl.ech (Pl.qA (D.iface (Pl.tyA q) (Pl.datA q))) ((2:Nat)*m.length-(1:Nat)) ((2:Nat)*m.length) (Pl.recX m m.length,Pl.recO m.length)).2.length).length:Int) (↑(List.map (mrow (Pl.ech (Pl.qA (D.iface (Pl.tyA q) (Pl.datA q))) ((2:Nat)*m.length-(1:Nat)) ((2:Nat)*m.length) (Pl.recX m m.length,Pl.recO m.length)).1.1) (mrow (Pl.ech (Pl.qA (D.iface (Pl.tyA q) (Pl.datA q))) ((2:Nat)*m.length-(1:Nat)) ((2:Nat)*m.length) (Pl.recX m m.length,Pl.recO m.length)).1.2 ((2:Nat)*m.length))).length:Int)) x.2.1)≤b.length)∧Br (Pl.dot (Pl.qF (D.rptr (fieldC q))) (rd i64.slc (sub (List.map (mrow (Pl.ech (Pl.qA (D.iface (Pl.tyA q) (Pl.datA q))) ((2:Nat)*m.length-(1:Nat)) ((2:Nat)*m.length) (Pl.recX m m.length,Pl.recO m.length)).1.1) (mrow (Pl.ech (Pl.qA (D.iface (Pl.tyA q) (Pl.datA q))) ((2:Nat)*m.length-(1:Nat)) ((2:Nat)*m.length) (Pl.recX m m.length,Pl.recO m.length)).1.2 ((2:Nat)*m.length))) (↑(mrow (Pl.cst (Pl.ech (Pl.qA (D.iface (Pl.tyA q) (Pl.datA q))) ((2:Nat)*m.length-(1:Nat)) ((2:Nat)*m.length) (Pl.recX m m.length,Pl.recO m.length)).2) (Pl.ech (Pl.qA (D.iface (Pl.tyA q) (Pl.datA q))) ((2:Nat)*m.length-(1:Nat)) ((2:Nat)*m.length) (Pl.recX m m.length,Pl.recO m.length)).2.length).length:Int) (↑(List.map (mrow (Pl.ech (Pl.qA (D.iface (Pl.tyA q) (Pl.datA q))) ((2:Nat)*m.length-(1:Nat)) ((2:Nat)*m.length) (Pl.recX m m.length,Pl.recO m.length)).1.1) (mrow (Pl.ech (Pl.qA (D.iface (Pl.tyA q) (Pl.datA q))) ((2:Nat)*m.length-(1:Nat)) ((2:Nat)*m.length) (Pl.recX m m.length,Pl.recO m.length)).1.2 ((2:Nat)*m.length))).length:Int)) x.2.1) b !=(0:Int)) (([],rd i64.slc (sub (List.map (mrow (Pl.ech (Pl.qA (D.iface (Pl.tyA q) (Pl.datA q))) ((2:Nat)*m.length-(1:Nat)) ((2:Nat)*m.length) (Pl.recX m m.length,Pl.recO m.length)).1.1) (mrow (Pl.ech (Pl.qA (D.iface (Pl.tyA q) (Pl.datA q))) ((2:Nat)*m.length-(1:Nat)) ((2:Nat)*m.length) (Pl.recX m m.length,Pl.recO m.length)).1.2 ((2:Nat)*m.length))) (↑(mrow (Pl.cst (Pl.ech (Pl.qA (D.iface (Pl.tyA q) (Pl.datA q))) ((2:Nat)*m.length-(1:Nat)) ((2:Nat)*m.length) (Pl.recX m m.length,Pl.recO m.length)).2) (Pl.ech (Pl.qA (D.iface (Pl.tyA q) (Pl.datA q))) ((2:Nat)*m.length-(1:Nat)) ((2:Nat)*m.length) (Pl.recX m m.length,Pl.recO m.length)).2.length).length:Int) (↑(List.map (mrow (Pl.ech (Pl.qA (D.iface (Pl.tyA q) (Pl.datA q))) ((2:Nat)*m.length-(1:Nat)) ((2:Nat)*m.length) (Pl.recX m m.length,Pl.recO m.length)).1.1) (mrow (Pl.ech (Pl.qA (D.iface (Pl.tyA q) (Pl.datA q))) ((2:Nat)*m.length-(1:Nat)) ((2:Nat)*m.length) (Pl.recX m m.length,Pl.recO m.length)).1.2 ((2:Nat)*m.length))).length:Int)) x.2.1,())=C101d.post (fieldD q,m,b,())) (G (x.1,IntKind.i64.wrap (x.2.1+(1:Int)),x.2.2.1,(),x.2.2.2.2))) (Br (decide ((↑m.length:Int)>(0:Int))) ((0:Int)≤(0:Int)∧(0:Int)<(↑m.length:Int)∧(0:Int)≤(↑(List.length (rd i64.slc m (0:Int))):Int)∧(↑(List.length (rd i64.slc m (0:Int))):Int)=(↑(List.length (rd i64.slc m (0:Int))):Int)∧(↑(List.length (rd i64.slc m (0:Int))):Int)*(8:Int)≤(140737488355328:Int)∧ ∃(n:Nat),itl (fun(G:List Int×Int×List (Option (List Int))×PUnit×List (Option (List Nat))×List (Option (List Int))×PUnit→Prop) (x:List Int×Int×List (Option (List Int))×PUnit×List (Option (List Nat))×List (Option (List Int))×PUnit)=>Br (decide (x.2.1<(↑(mrow (Pl.cst (Pl.ech (Pl.qA (D.iface (Pl.tyA q) (Pl.datA q))) ((2:Nat)*m.length-(1:Nat)) ((2:Nat)*m.length) (Pl.recX m m.length,Pl.recO m.length)).2) (Pl.ech (Pl.qA (D.iface (Pl.tyA q) (Pl.datA q))) ((2:Nat)*m.length-(1:Nat)) ((2:Nat)*m.length) (Pl.recX m m.length,Pl.recO m.length)).2.length).length:Int))) ((0:Int)≤x.2.1∧x.2.1<(↑(mrow (Pl.cst (Pl.ech (Pl.qA (D.iface (Pl.tyA q) (Pl.datA q))) ((2:Nat)*m.length-(1:Nat)) ((2:Nat)*m.length) (Pl.recX m m.length,Pl.recO m.length)).2) (Pl.ech (Pl.qA (D.iface (Pl.tyA q) (Pl.datA q))) ((2:Nat)*m.length-(1:Nat)) ((2:Nat)*m.length) (Pl.recX m m.length,Pl.recO m.length)).2.length).length:Int)∧(0:Int)≤x.2.1∧x.2.1<(↑(List.map (mrow (Pl.ech (Pl.qA (D.iface (Pl.tyA q) (Pl.datA q))) ((2:Nat)*m.length-(1:Nat)) ((2:Nat)*m.length) (Pl.recX m m.length,Pl.recO m.length)).1.1) (mrow (Pl.ech (Pl.qA (D.iface (Pl.tyA q) (Pl.datA q))) ((2:Nat)*m.length-(1:Nat)) ((2:Nat)*m.length) (Pl.recX m m.length,Pl.recO m.length)).1.2 ((2:Nat)*m.length))).length:Int)∧(Pl.okF (D.rptr (fieldC q))∧Pl.inAll (Pl.qF (D.rptr (fieldC q))) (rd i64.slc (List.map (mrow (Pl.ech (Pl.qA (D.iface (Pl.tyA q) (Pl.datA q))) ((2:Nat)*m.length-(1:Nat)) ((2:Nat)*m.length) (Pl.recX m m.length,Pl.recO m.length)).1.1) (mrow (Pl.ech (Pl.qA (D.iface (Pl.tyA q) (Pl.datA q))) ((2:Nat)*m.length-(1:Nat)) ((2:Nat)*m.length) (Pl.recX m m.length,Pl.recO m.length)).1.2 ((2:Nat)*m.length))) x.2.1)∧Pl.inAll (Pl.qF (D.rptr (fieldC q))) b∧List.length (rd i64.slc (List.map (mrow (Pl.ech (Pl.qA (D.iface (Pl.tyA q) (Pl.datA q))) ((2:Nat)*m.length-(1:Nat)) ((2:Nat)*m.length) (Pl.recX m m.length,Pl.recO m.length)).1.1) (mrow (Pl.ech (Pl.qA (D.iface (Pl.tyA q) (Pl.datA q))) ((2:Nat)*m.length-(1:Nat)) ((2:Nat)*m.length) (Pl.recX m m.length,Pl.recO m.length)).1.2 ((2:Nat)*m.length))) x.2.1)≤b.length)∧(0:Int)≤rd i64 (mrow (Pl.cst (Pl.ech (Pl.qA (D.iface (Pl.tyA q) (Pl.datA q))) ((2:Nat)*m.length-(1:Nat)) ((2:Nat)*m.length) (Pl.recX m m.length,Pl.recO m.length)).2) (Pl.ech (Pl.qA (D.iface (Pl.tyA q) (Pl.datA q))) ((2:Nat)*m.length-(1:Nat)) ((2:Nat)*m.length) (Pl.recX m m.length,Pl.recO m.length)).2.length) x.2.1∧rd i64 (mrow (Pl.cst (Pl.ech (Pl.qA (D.iface (Pl.tyA q) (Pl.datA q))) ((2:Nat)*m.length-(1:Nat)) ((2:Nat)*m.length) (Pl.recX m m.length,Pl.recO m.length)).2) (Pl.ech (Pl.qA (D.iface (Pl.tyA q) (Pl.datA q))) ((2:Nat)*m.length-(1:Nat)) ((2:Nat)*m.length) (Pl.recX m m.length,Pl.recO m.length)).2.length) x.2.1<(↑(List.length x.1):Int)∧(0:Int)≤rd i64 (mrow (Pl.cst (Pl.ech (Pl.qA (D.iface (Pl.tyA q) (Pl.datA q))) ((2:Nat)*m.length-(1:Nat)) ((2:Nat)*m.length) (Pl.recX m m.length,Pl.recO m.length)).2) (Pl.ech (Pl.qA (D.iface (Pl.tyA q) (Pl.datA q))) ((2:Nat)*m.length-(1:Nat)) ((2:Nat)*m.length) (Pl.recX m m.length,Pl.recO m.length)).2.length) x.2.1∧rd i64 (mrow (Pl.cst (Pl.ech (Pl.qA (D.iface (Pl.tyA q) (Pl.datA q))) ((2:Nat)*m.length-(1:Nat)) ((2:Nat)*m.length) (Pl.recX m m.length,Pl.recO m.length)).2) (Pl.ech (Pl.qA (D.iface (Pl.tyA q) (Pl.datA q))) ((2:Nat)*m.length-(1:Nat)) ((2:Nat)*m.length) (Pl.recX m m.length,Pl.recO m.length)).2.length) x.2.1<(↑(List.length x.1):Int)∧G (List.set x.1 (Int.toNat (rd i64 (mrow (Pl.cst (Pl.ech (Pl.qA (D.iface (Pl.tyA q) (Pl.datA q))) ((2:Nat)*m.length-(1:Nat)) ((2:Nat)*m.length) (Pl.recX m m.length,Pl.recO m.length)).2) (Pl.ech (Pl.qA (D.iface (Pl.tyA q) (Pl.datA q))) ((2:Nat)*m.length-(1:Nat)) ((2:Nat)*m.length) (Pl.recX m m.length,Pl.recO m.length)).2.length) x.2.1)) (Pl.dot (Pl.qF (D.rptr (fieldC q))) (rd i64.slc (List.map (mrow (Pl.ech (Pl.qA (D.iface (Pl.tyA q) (Pl.datA q))) ((2:Nat)*m.length-(1:Nat)) ((2:Nat)*m.length) (Pl.recX m m.length,Pl.recO m.length)).1.1) (mrow (Pl.ech (Pl.qA (D.iface (Pl.tyA q) (Pl.datA q))) ((2:Nat)*m.length-(1:Nat)) ((2:Nat)*m.length) (Pl.recX m m.length,Pl.recO m.length)).1.2 ((2:Nat)*m.length))) x.2.1) b),IntKind.i64.wrap (x.2.1+(1:Int)),x.2.2.1,(),x.2.2.2.2)) ((x.1,[],())=C101d.post (fieldD q,m,b,()))) n (List.replicate (↑(List.length (rd i64.slc m (0:Int))):Int).toNat (0:Int),(0:Int),x.2.2.1,(),x.2.2.2.2)) (∃(n:Nat),itl (fun(G:List Int×Int×List (Option (List Int))×PUnit×List (Option (List Nat))×List (Option (List Int))×PUnit→Prop) (x:List Int×Int×List (Option (List Int))×PUnit×List (Option (List Nat))×List (Option (List Int))×PUnit)=>Br (decide (x.2.1<(↑(mrow (Pl.cst (Pl.ech (Pl.qA (D.iface (Pl.tyA q) (Pl.datA q))) ((2:Nat)*m.length-(1:Nat)) ((2:Nat)*m.length) (Pl.recX m m.length,Pl.recO m.length)).2) (Pl.ech (Pl.qA (D.iface (Pl.tyA q) (Pl.datA q))) ((2:Nat)*m.length-(1:Nat)) ((2:Nat)*m.length) (Pl.recX m m.length,Pl.recO m.length)).2.length).length:Int))) ((0:Int)≤x.2.1∧x.2.1<(↑(mrow (Pl.cst (Pl.ech (Pl.qA (D.iface (Pl.tyA q) (Pl.datA q))) ((2:Nat)*m.length-(1:Nat)) ((2:Nat)*m.length) (Pl.recX m m.length,Pl.recO m.length)).2) (Pl.ech (Pl.qA (D.iface (Pl.tyA q) (Pl.datA q))) ((2:Nat)*m.length-(1:Nat)) ((2:Nat)*m.length) (Pl.recX m m.length,Pl.recO m.length)).2.length).length:Int)∧(0:Int)≤x.2.1∧x.2.1<(↑(List.map (mrow (Pl.ech (Pl.qA (D.iface (Pl.tyA q) (Pl.datA q))) ((2:Nat)*m.length-(1:Nat)) ((2:Nat)*m.length) (Pl.recX m m.length,Pl.recO m.length)).1.1) (mrow (Pl.ech (Pl.qA (D.iface (Pl.tyA q) (Pl.datA q))) ((2:Nat)*m.length-(1:Nat)) ((2:Nat)*m.length) (Pl.recX m m.length,Pl.recO m.length)).1.2 ((2:Nat)*m.length))).length:Int)∧(Pl.okF (D.rptr (fieldC q))∧Pl.inAll (Pl.qF (D.rptr (fieldC q))) (rd i64.slc (List.map (mrow (Pl.ech (Pl.qA (D.iface (Pl.tyA q) (Pl.datA q))) ((2:Nat)*m.length-(1:Nat)) ((2:Nat)*m.length) (Pl.recX m m.length,Pl.recO m.length)).1.1) (mrow (Pl.ech (Pl.qA (D.iface (Pl.tyA q) (Pl.datA q))) ((2:Nat)*m.length-(1:Nat)) ((2:Nat)*m.length) (Pl.recX m m.length,Pl.recO m.length)).1.2 ((2:Nat)*m.length))) x.2.1)∧Pl.inAll (Pl.qF (D.rptr (fieldC q))) b∧List.length (rd i64.slc (List.map (mrow (Pl.ech (Pl.qA (D.iface (Pl.tyA q) (Pl.datA q))) ((2:Nat)*m.length-(1:Nat)) ((2:Nat)*m.length) (Pl.recX m m.length,Pl.recO m.length)).1.1) (mrow (Pl.ech (Pl.qA (D.iface (Pl.tyA q) (Pl.datA q))) ((2:Nat)*m.length-(1:Nat)) ((2:Nat)*m.length) (Pl.recX m m.length,Pl.recO m.length)).1.2 ((2:Nat)*m.length))) x.2.1)≤b.length)∧(0:Int)≤rd i64 (mrow (Pl.cst (Pl.ech (Pl.qA (D.iface (Pl.tyA q) (Pl.datA q))) ((2:Nat)*m.length-(1:Nat)) ((2:Nat)*m.length) (Pl.recX m m.length,Pl.recO m.length)).2) (Pl.ech (Pl.qA (D.iface (Pl.tyA q) (Pl.datA q))) ((2:Nat)*m.length-(1:Nat)) ((2:Nat)*m.length) (Pl.recX m m.length,Pl.recO m.length)).2.length) x.2.1∧rd i64 (mrow (Pl.cst (Pl.ech (Pl.qA (D.iface (Pl.tyA q) (Pl.datA q))) ((2:Nat)*m.length-(1:Nat)) ((2:Nat)*m.length) (Pl.recX m m.length,Pl.recO m.length)).2) (Pl.ech (Pl.qA (D.iface (Pl.tyA q) (Pl.datA q))) ((2:Nat)*m.length-(1:Nat)) ((2:Nat)*m.length) (Pl.recX m m.length,Pl.recO m.length)).2.length) x.2.1<(↑(List.length x.1):Int)∧(0:Int)≤rd i64 (mrow (Pl.cst (Pl.ech (Pl.qA (D.iface (Pl.tyA q) (Pl.datA q))) ((2:Nat)*m.length-(1:Nat)) ((2:Nat)*m.length) (Pl.recX m m.length,Pl.recO m.length)).2) (Pl.ech (Pl.qA (D.iface (Pl.tyA q) (Pl.datA q))) ((2:Nat)*m.length-(1:Nat)) ((2:Nat)*m.length) (Pl.recX m m.length,Pl.recO m.length)).2.length) x.2.1∧rd i64 (mrow (Pl.cst (Pl.ech (Pl.qA (D.iface (Pl.tyA q) (Pl.datA q))) ((2:Nat)*m.length-(1:Nat)) ((2:Nat)*m.length) (Pl.recX m m.length,Pl.recO m.length)).2) (Pl.ech (Pl.qA (D.iface (Pl.tyA q) (Pl.datA q))) ((2:Nat)*m.length-(1:Nat)) ((2:Nat)*m.length) (Pl.recX m m.length,Pl.recO m.length)).2.length) x.2.1<(↑(List.length x.1):Int)∧G (List.set x.1 (Int.toNat (rd i64 (mrow (Pl.cst (Pl.ech (Pl.qA (D.iface (Pl.tyA q) (Pl.datA q))) ((2:Nat)*m.length-(1:Nat)) ((2:Nat)*m.length) (Pl.recX m m.length,Pl.recO m.length)).2) (Pl.ech (Pl.qA (D.iface (Pl.tyA q) (Pl.datA q))) ((2:Nat)*m.length-(1:Nat)) ((2:Nat)*m.length) (Pl.recX m m.length,Pl.recO m.length)).2.length) x.2.1)) (Pl.dot (Pl.qF (D.rptr (fieldC q))) (rd i64.slc (List.map (mrow (Pl.ech (Pl.qA (D.iface (Pl.tyA q) (Pl.datA q))) ((2:Nat)*m.length-(1:Nat)) ((2:Nat)*m.length) (Pl.recX m m.length,Pl.recO m.length)).1.1) (mrow (Pl.ech (Pl.qA (D.iface (Pl.tyA q) (Pl.datA q))) ((2:Nat)*m.length-(1:Nat)) ((2:Nat)*m.length) (Pl.recX m m.length,Pl.recO m.length)).1.2 ((2:Nat)*m.length))) x.2.1) b),IntKind.i64.wrap (x.2.1+(1:Int)),x.2.2.1,(),x.2.2.2.2)) ((x.1,[],())=C101d.post (fieldD q,m,b,()))) n (x.1,(0:Int),x.2.2.1,(),x.2.2.2.2)))) n ([],(0:Int),List.map (fun(x:Option (List i64.El))=>none) (Pl.ech (Pl.qA (D.iface (Pl.tyA q) (Pl.datA q))) ((2:Nat)*m.length-(1:Nat)) ((2:Nat)*m.length) (Pl.recX m m.length,Pl.recO m.length)).1.1,(),List.map (fun(x:Option (List (Ty.ref (0:Nat)).El))=>none) (Pl.ech (Pl.qA (D.iface (Pl.tyA q) (Pl.datA q))) ((2:Nat)*m.length-(1:Nat)) ((2:Nat)*m.length) (Pl.recX m m.length,Pl.recO m.length)).1.2,List.map (fun(x:Option (List i64.El))=>none) (Pl.cst (Pl.ech (Pl.qA (D.iface (Pl.tyA q) (Pl.datA q))) ((2:Nat)*m.length-(1:Nat)) ((2:Nat)*m.length) (Pl.recX m m.length,Pl.recO m.length)).2),())) (by kernel_rfl) ?_
 rw[recS_eq hq,qF_f,c2,rowsD_eq,hp]
 have hlC:=F.lC
 have hlD:=F.lD
 have hrD:=F.rD
 have hW:Pl.den q m b=some (Pl.denW q m b):=by
  unfold Pl.denW
  cases h:Pl.den q m b with
  |none=>exact absurd h hd
  |some w=>rfl
 unfold Pl.den at hW
 have hCe:(Pl.recS q m).2=Pl.echC q m:=rfl
 have hsub:sub (Pl.echD q m) ((Pl.recS q m).2.length:Int) ((Pl.echD q m).length:Int)=(Pl.echD q m).drop (Pl.echC q m).length:=sub_drop _ _
 rw[hsub]
 rw[hCe]at c1⊢
 generalize Pl.echC q m=C at*
 generalize Pl.echD q m=DD at*
 generalize Pl.denW q m b=W at*
 have hpre: ∀r∈DD,Pl.okF (D.rptr (fieldC q))∧Pl.inAll q r∧Pl.inAll q b∧r.length≤b.length:=fun r hr=>⟨okF_f hq,⟨(hrD r hr).2,by rw[(hrD r hr).1];omega⟩,⟨s3,hb⟩,by rw[(hrD r hr).1];omega⟩
 refine⟨p1,⟨p2,rfl⟩,F.m1,F.a1,F.m2,F.a2,c1,by omega,by omega,itl_rule (fun(s:List Int×Int×XS×Unit×OS×XS×Unit)=> ∃(i:Nat),s.1=[]∧s.2.1=(i:Int)∧i≤(DD.drop C.length).length∧Pl.denL q b ((DD.drop C.length).drop i)=some W) (fun s=>(((DD.drop C.length).length:Int)-s.2.1).toNat) ⟨0,rfl,rfl,Nat.zero_le _,hW⟩ ?_⟩
 have hrE: ∀r∈DD.drop C.length,r∈DD:=fun r hr=>List.mem_of_mem_drop hr
 have hlE:(DD.drop C.length).length≤1000000000:=by rw[List.length_drop];omega
 generalize DD.drop C.length=EE at*
 rintro⟨x,i0,A,⟨⟩,O,K,⟨⟩⟩ G ⟨i,ex,e,hi,hf⟩ hG
 simp only at ex e hf hG⊢
 subst ex e
 refine Br_of (fun h=> ?_) (fun h=> ?_)
 ·have h:i<EE.length:=by have:=of_decide_eq_true h;omega
  rw[rd_rr,wrap_i64 (by omega) (by omega)]
  rw[drop_cons [] h,Pl.denL]at hf
  refine⟨by omega,by omega,hpre _ (hrE _ (rowD_mem h)),Br_of (fun h1=> ?_) (fun h1=> ?_)⟩
  ·have h1:Pl.dot q (EE.getD i []) b≠0:=by simpa using h1
   rw[decide_eq_true h1,cond_true]at hf
   injection hf with hf
   rw[←hf]
  ·have h1:Pl.dot q (EE.getD i []) b=0:=by simpa using h1
   rw[decide_eq_false (not_not_intro h1),cond_false]at hf
   exact hG _ ⟨i+1,rfl,rfl,by omega,hf⟩ (by simp only;omega)
 ·have h:i=EE.length:=by have:=of_decide_eq_false h;omega
  subst h
  rw[List.drop_length]at hf
  cases hf
end Fd
end
section
set_option linter.unusedVariables false
set_option linter.unusedSimpArgs false
set_option maxRecDepth 100000
namespace Fd
open Go Fw Go.Proofs

theorem snd_join {P:Program} {f:FuncId} {args res:List Ar} {pa pb p:Ars args→Prop} {post:Ars args→Ars res} (ha:Sound P f ⟨args,res,pa,post,none⟩) (hb:Sound P f ⟨args,res,pb,post,none⟩) (h: ∀x,p x→pa x∨pb x):Sound P f ⟨args,res,p,post,none⟩:=
 ⟨⟨fun x hx=>(h x hx).elim (ha.1.a x) (hb.1.a x),fun x hx=>(h x hx).elim (ha.1.r x) (hb.1.r x)⟩,fun x hx=>(h x hx).elim (ha.2 x) (hb.2 x)⟩
theorem snd_less {P:Program} {f:FuncId} {args res:List Ar} {pa p:Ars args→Prop} {post post':Ars args→Ars res} (ha:Sound P f ⟨args,res,pa,post,none⟩) (h: ∀x,p x→pa x) (hp: ∀x,p x→encs res (post x)=encs res (post' x)):Sound P f ⟨args,res,p,post',none⟩:=by
 refine⟨⟨fun x hx=>ha.1.a x (h x hx),fun x hx=>by have:=ha.1.r x (h x hx);show D.nrs (encs res (post' x));rw[←hp x hx];exact this⟩,fun x hx w O vs hO hl=> ?_⟩
 have conv: ∀e w',CPost ⟨args,res,pa,post,none⟩ x w ⟨O,nn⟩ e w'→CPost ⟨args,res,p,post',none⟩ x w ⟨O,nn⟩ e w':=by
  rintro e w' ⟨v,he,hb,hv,_⟩
  refine⟨v,he,hb,fun ι=> ?_,fun e he=>by cases he⟩
  show ARep w' ⟨O,nn⟩ ι (resAV (encs res (post' x))) v
  rw[←hp x hx]
  exact hv ι
 rcases ha.2 x (h x hx) w O vs hO hl with⟨h1,h2⟩|⟨v,w',h1,h2⟩
 ·exact .inl ⟨h1,h2.mono conv⟩
 ·exact .inr ⟨v,w',h1,conv _ _ h2⟩
theorem nrc101s:NRC C101s:=⟨fun x hx=>⟨okF_nr hx.1.1,rfl,rfl,trivial⟩,fun x hx=>⟨rfl,trivial,trivial⟩⟩
theorem nrc101d:NRC C101d:=⟨fun x hx=>⟨okF_nr hx.1.1,rfl,rfl,trivial⟩,fun x hx=>⟨rfl,rfl,trivial⟩⟩
theorem nrcDe {p:D×List (List Int)×List Int×Unit→Prop}:NRC (Cdeny p):=⟨fun x hx=>⟨okF_nr hx.1.1,rfl,rfl,trivial⟩,fun x hx=>⟨rfl,trivial,trivial⟩⟩
theorem snd101s:Sound Try.prog 101 C101s:=fn_sound (T:=T101) (fn:=Try.f101) (tokg (T:=T101) ⟨snd94,trivial⟩ ⟨snd90,snd91,trivial⟩ trivial noInv noCv) Try.func101 (by kernel_rfl) H101 vc101s (by kernel_rfl) (hC:=nrc101s)
theorem snd101d:Sound Try.prog 101 C101d:=fn_sound (T:=T101) (fn:=Try.f101) (tokg (T:=T101) ⟨snd94,trivial⟩ ⟨snd90,snd91,trivial⟩ trivial noInv noCv) Try.func101 (by kernel_rfl) H101 vc101d (by kernel_rfl) (hC:=nrc101d)
theorem denL_mem {q:Int} {b w:List Int}: ∀ {l:List (List Int)},Pl.denL q b l=some w→w∈l
 |[],h=>by cases h
 |r::l,h=>by
  rw[Pl.denL]at h
  by_cases e:Pl.dot q r b≠0
  ·rw[decide_eq_true e,cond_true]at h
   injection h with h
   subst h
   exact List.mem_cons_self
  ·rw[decide_eq_false e,cond_false]at h
   exact List.mem_cons_of_mem _ (denL_mem h)
theorem den_len {q:Int} (hq:isQ q) {m:List (List Int)} {b w:List Int} (hs:Pl.sys q m b=0) (h:Pl.den q m b=some w):w.length=m.length∧0<m.length∧ ∀x∈w,Pl.inQ q x:=by
 obtain⟨s1,_,_⟩:=den_sys hs
 obtain⟨_,_,F⟩:=pre_new hq s1
 have hm:=List.mem_of_mem_drop (denL_mem h)
 obtain⟨h1,h2⟩:=F.rD w hm
 refine⟨h1, ?_,h2⟩
 have:=List.length_pos_of_mem hm
 rw[F.lD]at this
 exact this
theorem deny_bad {q:Int} {m:List (List Int)} {b:List Int} (h:Pl.sys q m b≠0):Pl.deny q m b=([],false):=by unfold Pl.deny;rw[decide_eq_true h];rfl
theorem deny_some {q:Int} {m:List (List Int)} {b:List Int} (h:Pl.sys q m b=0) (hd:Pl.den q m b≠none):Pl.deny q m b=(Pl.denW q m b,true):=by
 unfold Pl.deny Pl.denW
 rw[decide_eq_false (not_not_intro h)]
 cases e:Pl.den q m b with
 |none=>exact absurd e hd
 |some w=>rfl
theorem deny_none {q:Int} {m:List (List Int)} {b:List Int} (h:Pl.sys q m b=0) (hd:Pl.den q m b=none):Pl.deny q m b=([],false):=by
 unfold Pl.deny
 rw[decide_eq_false (not_not_intro h),hd];rfl
theorem vc46s: ∀x,C46s.pre x→VC (T46 C101s) H0 Try.f46 C46s x:=by
 rintro⟨v,(m:List (List Int)),(b:List Int),⟨⟩⟩ ⟨⟨⟨q,hq,(rfl:v=_)⟩,(hm:Pl.okMM m),(hb:b.length≤1000000000)⟩,(hd:Pl.sys (Pl.qF (fieldD q)) m b=0→Pl.den (Pl.qF (fieldD q)) m b=none)⟩
 rw[qF_d]at hd
 refine cast (α:=(Pl.okF (D.rptr (fieldC q))∧Pl.okMM m∧b.length≤(1000000000:Nat))∧Br (Pl.sys (Pl.qF (D.rptr (fieldC q))) m b !=(0:Int)) (([],false,())=C46s.post (fieldD q,m,b,())) ((Pl.okSy (D.rptr (fieldC q),m,b,())∧Pl.sys (Pl.qF (D.rptr (fieldC q))) m b=(0:Int)∧Pl.den (Pl.qF (D.rptr (fieldC q))) m b=none)∧([], !true,())=C46s.post (fieldD q,m,b,()))) (by kernel_rfl) ?_
 have hp:C46s.post (fieldD q,m,b,())=((Pl.deny q m b).1,(Pl.deny q m b).2,()):=rfl
 rw[hp,qF_f]
 refine⟨⟨okF_f hq,hm,hb⟩,Br_of (fun h=> ?_) (fun h=> ?_)⟩
 ·have h:Pl.sys q m b≠0:=by simpa using h
  rw[deny_bad h]
 ·have h:Pl.sys q m b=0:=by simpa using h
  refine⟨⟨⟨okF_f hq,hm,hb⟩,h,hd h⟩, ?_⟩
  rw[deny_none h (hd h)];rfl
theorem vc46d: ∀x,C46d.pre x→VC (T46 C101d) H0 Try.f46 C46d x:=by
 rintro⟨v,(m:List (List Int)),(b:List Int),⟨⟩⟩ ⟨⟨⟨q,hq,(rfl:v=_)⟩,(hm:Pl.okMM m),(hb:b.length≤1000000000)⟩,(h:Pl.sys (Pl.qF (fieldD q)) m b=0),(hd:Pl.den (Pl.qF (fieldD q)) m b≠none)⟩
 rw[qF_d]at h hd
 refine cast (α:=(Pl.okF (D.rptr (fieldC q))∧Pl.okMM m∧b.length≤(1000000000:Nat))∧Br (Pl.sys (Pl.qF (D.rptr (fieldC q))) m b !=(0:Int)) (([],false,())=C46d.post (fieldD q,m,b,())) ((Pl.okSy (D.rptr (fieldC q),m,b,())∧Pl.sys (Pl.qF (D.rptr (fieldC q))) m b=(0:Int)∧Pl.den (Pl.qF (D.rptr (fieldC q))) m b≠none)∧(0:Nat)<(Pl.denW (Pl.qF (D.rptr (fieldC q))) m b).length∧(Pl.denW (Pl.qF (D.rptr (fieldC q))) m b,true,())=C46d.post (fieldD q,m,b,()))) (by kernel_rfl) ?_
 have hp:C46d.post (fieldD q,m,b,())=((Pl.deny q m b).1,(Pl.deny q m b).2,()):=rfl
 rw[hp,qF_f]
 refine⟨⟨okF_f hq,hm,hb⟩,Br_of (fun h'=> ?_) (fun _=>⟨⟨⟨okF_f hq,hm,hb⟩,h,hd⟩, ?_, ?_⟩)⟩
 ·have h':Pl.sys q m b≠0:=by simpa using h'
  exact absurd h h'
 ·unfold Pl.denW
  cases e:Pl.den q m b with
  |none=>exact absurd e hd
  |some w=>
   obtain⟨h1,h2,_⟩:=den_len hq h e
   show 0<w.length
   omega
 ·rw[deny_some h hd]
theorem snd46s:Sound Try.prog 46 C46s:=fn_sound (T:=T46 C101s) (fn:=Try.f46) (tok0 ⟨snd92,snd101s,trivial⟩) Try.func46 (by kernel_rfl) H0 vc46s (by kernel_rfl) (hC:=nrcDe)
theorem snd46d:Sound Try.prog 46 C46d:=fn_sound (T:=T46 C101d) (fn:=Try.f46) (tok0 ⟨snd92,snd101d,trivial⟩) Try.func46 (by kernel_rfl) H0 vc46d (by kernel_rfl) (hC:=nrcDe)
theorem sd_or (x:D×List (List Int)×List Int×Unit):Pl.isS x∨Pl.isD x:=by
 by_cases h:Pl.sys (Pl.qF x.1) x.2.1 x.2.2.1=0
 ·by_cases hd:Pl.den (Pl.qF x.1) x.2.1 x.2.2.1=none
  ·exact .inl fun _=>hd
  ·exact .inr ⟨h,hd⟩
 ·exact .inl fun h'=>absurd h' h
theorem snd46:Sound Try.prog 46 C46:=snd_join snd46s snd46d fun x hx=>(sd_or x).elim (fun h=> .inl ⟨hx.1,h⟩) (fun h=> .inr ⟨hx.1,h⟩)
def C78q:Con:=⟨[I],[.raw,I],fun(x:Int×Unit)=>isQ x.1,fun(x:Int×Unit)=>(fieldD x.1,0,()),none⟩
theorem snd78q:Sound Try.prog 78 C78q:=snd_less snd78 (fun _ _=>trivial) fun x hx=>by
 obtain⟨q,⟨⟩⟩:=x
 rw[show(newF q,bif Pl.okQ q then(0:Int)else 20,())=(fieldD q,(0:Int),())from newF_yes hx]
end Fd
end
section
set_option linter.unusedVariables false
set_option linter.unusedSimpArgs false
set_option maxRecDepth 100000
namespace Fd
open Go Fw Go.Proofs

def C24:Con:=⟨[],[B],fun _=>True,fun _=>(true,()),none⟩
def T24:Ctx:=TT [(78,C78q),(80,C80),(46,C46),(42,C42),(34,C34),(55,C55)]
def Pl.smalls:List Int:=[2,3,4,5,7,8,9,11,13,16,25,27]
def Pl.someQ (order most:Int):Int:=bif (!Pl.okQ order)||decide (order>most)then Pl.smalls.getD (IntKind.i64.wrap ((IntKind.u64.wrap order).tmod 12)).toNat 0 else order
def C19:Con:=⟨[I,I],[.raw,G4],fun(x:Int×Int×Unit)=>True,fun(x:Int×Int×Unit)=>(fieldD (Pl.someQ x.1 x.2.1),RF (Pl.someQ x.1 x.2.1),()),none⟩
def T19:Ctx:=TT [(79,C79),(78,C78q)]
end Fd
end
section
set_option linter.unusedVariables false
set_option linter.unusedSimpArgs false
set_option maxRecDepth 100000
namespace Fd
open Go Fw Go.Proofs

theorem isQ_b {q:Int} (h:Pl.okQ q=true):isQ q:=okQ_iff.1 h
theorem wrapU (x:Int):IntKind.wrap .u64 x=x%18446744073709551616:=by
 unfold IntKind.wrap
 simp[IntKind.bits,IntKind.signed]
theorem idx12 (o:Int):0≤IntKind.i64.wrap ((IntKind.u64.wrap o).tmod 12)∧IntKind.i64.wrap ((IntKind.u64.wrap o).tmod 12)<12:=by
 rw[wrapU,Int.tmod_eq_emod_of_nonneg (by omega),wrap_i64 (by omega) (by omega)]
 omega
theorem newR_ok {q:Int} (h:Pl.okQ q=true):Pl.newR q=RF q:=by unfold Pl.newR;rw[h];rfl
theorem someQ_small {o most:Int} (hb:((!Pl.okQ o)||decide (o>most))=true):Pl.someQ o most=Pl.smalls.getD (IntKind.i64.wrap ((IntKind.u64.wrap o).tmod 12)).toNat 0:=by
 unfold Pl.someQ;rw[hb];rfl
theorem someQ_self {o most:Int} (h1:Pl.okQ o=true) (h2: ¬o>most):Pl.someQ o most=o:=by
 unfold Pl.someQ;rw[h1,decide_eq_false h2];rfl
theorem smalls_ok: ∀q∈Pl.smalls,Pl.okQ q=true:=by
 intro q hq
 have h:Pl.smalls.all Pl.okQ=true:=by kernel_rfl
 exact List.all_eq_true.1 h q hq
theorem someQ_isQ (o most:Int):isQ (Pl.someQ o most):=by
 cases hb:(!Pl.okQ o)||decide (o>most)with
 |true=>
  rw[someQ_small hb]
  obtain⟨h1,h2⟩:=idx12 o
  refine isQ_b (smalls_ok _ (getD_mem ?_))
  show _<12
  omega
 |false=>
  rw[Bool.or_eq_false_iff]at hb
  have h1:Pl.okQ o=true:=by simpa using hb.1
  rw[someQ_self h1 (of_decide_eq_false hb.2)]
  exact isQ_b h1
theorem sm_post {o most v:Int} {c:Nat} (hb:((!Pl.okQ o)||decide (o>most))=true) (e:IntKind.i64.wrap ((IntKind.u64.wrap o).tmod 12)=(c:Int)) (hv:Pl.smalls.getD c 0=v) (hk:Pl.okQ v=true):(D.rptr (fieldC v),Pl.newR v,())=C19.post (o,most,()):=by
 show _=(fieldD (Pl.someQ o most),RF (Pl.someQ o most),())
 rw[someQ_small hb,e,Int.toNat_natCast,hv,newR_ok hk];rfl
theorem vc19: ∀x,C19.pre x→VC T19 H0 Try.f19 C19 x:=by
 rintro⟨(o:Int),(most:Int),⟨⟩⟩-
 refine cast (α:=True∧Br (!Pl.okQ o) ((12:Int)≠(0:Int)∧Br (decide (IntKind.i64.wrap ((IntKind.u64.wrap o).tmod (12:Int))=(↑(0:Nat):Int))) (True∧((2:Int)≤(2:Int)∧(2:Int)≤(65536:Int)∧(1:Int)≤Pl.K (2:Int))∧(D.rptr (fieldC (2:Int)),Pl.newR (2:Int),())=C19.post (o,most,())) (Br (decide (IntKind.i64.wrap ((IntKind.u64.wrap o).tmod (12:Int))=(↑(1:Nat):Int))) (True∧((2:Int)≤(3:Int)∧(3:Int)≤(65536:Int)∧(1:Int)≤Pl.K (3:Int))∧(D.rptr (fieldC (3:Int)),Pl.newR (3:Int),())=C19.post (o,most,())) (Br (decide (IntKind.i64.wrap ((IntKind.u64.wrap o).tmod (12:Int))=(↑(2:Nat):Int))) (True∧((2:Int)≤(4:Int)∧(4:Int)≤(65536:Int)∧(1:Int)≤Pl.K (4:Int))∧(D.rptr (fieldC (4:Int)),Pl.newR (4:Int),())=C19.post (o,most,())) (Br (decide (IntKind.i64.wrap ((IntKind.u64.wrap o).tmod (12:Int))=(↑(3:Nat):Int))) (True∧((2:Int)≤(5:Int)∧(5:Int)≤(65536:Int)∧(1:Int)≤Pl.K (5:Int))∧(D.rptr (fieldC (5:Int)),Pl.newR (5:Int),())=C19.post (o,most,())) (Br (decide (IntKind.i64.wrap ((IntKind.u64.wrap o).tmod (12:Int))=(↑(4:Nat):Int))) (True∧((2:Int)≤(7:Int)∧(7:Int)≤(65536:Int)∧(1:Int)≤Pl.K (7:Int))∧(D.rptr (fieldC (7:Int)),Pl.newR (7:Int),())=C19.post (o,most,())) (Br (decide (IntKind.i64.wrap ((IntKind.u64.wrap o).tmod (12:Int))=(↑(5:Nat):Int))) (True∧((2:Int)≤(8:Int)∧(8:Int)≤(65536:Int)∧(1:Int)≤Pl.K (8:Int))∧(D.rptr (fieldC (8:Int)),Pl.newR (8:Int),())=C19.post (o,most,())) (Br (decide (IntKind.i64.wrap ((IntKind.u64.wrap o).tmod (12:Int))=(↑(6:Nat):Int))) (True∧((2:Int)≤(9:Int)∧(9:Int)≤(65536:Int)∧(1:Int)≤Pl.K (9:Int))∧(D.rptr (fieldC (9:Int)),Pl.newR (9:Int),())=C19.post (o,most,())) (Br (decide (IntKind.i64.wrap ((IntKind.u64.wrap o).tmod (12:Int))=(↑(7:Nat):Int))) (True∧((2:Int)≤(11:Int)∧(11:Int)≤(65536:Int)∧(1:Int)≤Pl.K (11:Int))∧(D.rptr (fieldC (11:Int)),Pl.newR (11:Int),())=C19.post (o,most,())) (Br (decide (IntKind.i64.wrap ((IntKind.u64.wrap o).tmod (12:Int))=(↑(8:Nat):Int))) (True∧((2:Int)≤(13:Int)∧(13:Int)≤(65536:Int)∧(1:Int)≤Pl.K (13:Int))∧(D.rptr (fieldC (13:Int)),Pl.newR (13:Int),())=C19.post (o,most,())) (Br (decide (IntKind.i64.wrap ((IntKind.u64.wrap o).tmod (12:Int))=(↑(9:Nat):Int))) (True∧((2:Int)≤(16:Int)∧(16:Int)≤(65536:Int)∧(1:Int)≤Pl.K (16:Int))∧(D.rptr (fieldC (16:Int)),Pl.newR (16:Int),())=C19.post (o,most,())) (Br (decide (IntKind.i64.wrap ((IntKind.u64.wrap o).tmod (12:Int))=(↑(10:Nat):Int))) (True∧((2:Int)≤(25:Int)∧(25:Int)≤(65536:Int)∧(1:Int)≤Pl.K (25:Int))∧(D.rptr (fieldC (25:Int)),Pl.newR (25:Int),())=C19.post (o,most,())) (Br (decide (IntKind.i64.wrap ((IntKind.u64.wrap o).tmod (12:Int))=(↑(11:Nat):Int))) (True∧((2:Int)≤(27:Int)∧(27:Int)≤(65536:Int)∧(1:Int)≤Pl.K (27:Int))∧(D.rptr (fieldC (27:Int)),Pl.newR (27:Int),())=C19.post (o,most,())) False)))))))))))) (Br (decide (o>most)) ((12:Int)≠(0:Int)∧Br (decide (IntKind.i64.wrap ((IntKind.u64.wrap o).tmod (12:Int))=(↑(0:Nat):Int))) (True∧((2:Int)≤(2:Int)∧(2:Int)≤(65536:Int)∧(1:Int)≤Pl.K (2:Int))∧(D.rptr (fieldC (2:Int)),Pl.newR (2:Int),())=C19.post (o,most,())) (Br (decide (IntKind.i64.wrap ((IntKind.u64.wrap o).tmod (12:Int))=(↑(1:Nat):Int))) (True∧((2:Int)≤(3:Int)∧(3:Int)≤(65536:Int)∧(1:Int)≤Pl.K (3:Int))∧(D.rptr (fieldC (3:Int)),Pl.newR (3:Int),())=C19.post (o,most,())) (Br (decide (IntKind.i64.wrap ((IntKind.u64.wrap o).tmod (12:Int))=(↑(2:Nat):Int))) (True∧((2:Int)≤(4:Int)∧(4:Int)≤(65536:Int)∧(1:Int)≤Pl.K (4:Int))∧(D.rptr (fieldC (4:Int)),Pl.newR (4:Int),())=C19.post (o,most,())) (Br (decide (IntKind.i64.wrap ((IntKind.u64.wrap o).tmod (12:Int))=(↑(3:Nat):Int))) (True∧((2:Int)≤(5:Int)∧(5:Int)≤(65536:Int)∧(1:Int)≤Pl.K (5:Int))∧(D.rptr (fieldC (5:Int)),Pl.newR (5:Int),())=C19.post (o,most,())) (Br (decide (IntKind.i64.wrap ((IntKind.u64.wrap o).tmod (12:Int))=(↑(4:Nat):Int))) (True∧((2:Int)≤(7:Int)∧(7:Int)≤(65536:Int)∧(1:Int)≤Pl.K (7:Int))∧(D.rptr (fieldC (7:Int)),Pl.newR (7:Int),())=C19.post (o,most,())) (Br (decide (IntKind.i64.wrap ((IntKind.u64.wrap o).tmod (12:Int))=(↑(5:Nat):Int))) (True∧((2:Int)≤(8:Int)∧(8:Int)≤(65536:Int)∧(1:Int)≤Pl.K (8:Int))∧(D.rptr (fieldC (8:Int)),Pl.newR (8:Int),())=C19.post (o,most,())) (Br (decide (IntKind.i64.wrap ((IntKind.u64.wrap o).tmod (12:Int))=(↑(6:Nat):Int))) (True∧((2:Int)≤(9:Int)∧(9:Int)≤(65536:Int)∧(1:Int)≤Pl.K (9:Int))∧(D.rptr (fieldC (9:Int)),Pl.newR (9:Int),())=C19.post (o,most,())) (Br (decide (IntKind.i64.wrap ((IntKind.u64.wrap o).tmod (12:Int))=(↑(7:Nat):Int))) (True∧((2:Int)≤(11:Int)∧(11:Int)≤(65536:Int)∧(1:Int)≤Pl.K (11:Int))∧(D.rptr (fieldC (11:Int)),Pl.newR (11:Int),())=C19.post (o,most,())) (Br (decide (IntKind.i64.wrap ((IntKind.u64.wrap o).tmod (12:Int))=(↑(8:Nat):Int))) (True∧((2:Int)≤(13:Int)∧(13:Int)≤(65536:Int)∧(1:Int)≤Pl.K (13:Int))∧(D.rptr (fieldC (13:Int)),Pl.newR (13:Int),())=C19.post (o,most,())) (Br (decide (IntKind.i64.wrap ((IntKind.u64.wrap o).tmod (12:Int))=(↑(9:Nat):Int))) (True∧((2:Int)≤(16:Int)∧(16:Int)≤(65536:Int)∧(1:Int)≤Pl.K (16:Int))∧(D.rptr (fieldC (16:Int)),Pl.newR (16:Int),())=C19.post (o,most,())) (Br (decide (IntKind.i64.wrap ((IntKind.u64.wrap o).tmod (12:Int))=(↑(10:Nat):Int))) (True∧((2:Int)≤(25:Int)∧(25:Int)≤(65536:Int)∧(1:Int)≤Pl.K (25:Int))∧(D.rptr (fieldC (25:Int)),Pl.newR (25:Int),())=C19.post (o,most,())) (Br (decide (IntKind.i64.wrap ((IntKind.u64.wrap o).tmod (12:Int))=(↑(11:Nat):Int))) (True∧((2:Int)≤(27:Int)∧(27:Int)≤(65536:Int)∧(1:Int)≤Pl.K (27:Int))∧(D.rptr (fieldC (27:Int)),Pl.newR (27:Int),())=C19.post (o,most,())) False)))))))))))) (((2:Int)≤o∧o≤(65536:Int)∧(1:Int)≤Pl.K o)∧(D.rptr (fieldC o),Pl.newR o,())=C19.post (o,most,())))) (by kernel_rfl) ?_
 obtain⟨i0,i1⟩:=idx12 o
 refine⟨trivial,Br_of (fun h=> ?_) (fun h=>Br_of (fun h2=> ?_) (fun h2=> ?_))⟩
 ·have hb:((!Pl.okQ o)||decide (o>most))=true:=by rw[h];rfl
  refine⟨by omega, ?_⟩
  refine Br_of (fun e=>⟨trivial,isQ_b (by kernel_rfl),sm_post hb (v:=2) (of_decide_eq_true e) rfl (by kernel_rfl)⟩) (fun e0=> ?_)
  refine Br_of (fun e=>⟨trivial,isQ_b (by kernel_rfl),sm_post hb (v:=3) (of_decide_eq_true e) rfl (by kernel_rfl)⟩) (fun e1=> ?_)
  refine Br_of (fun e=>⟨trivial,isQ_b (by kernel_rfl),sm_post hb (v:=4) (of_decide_eq_true e) rfl (by kernel_rfl)⟩) (fun e2=> ?_)
  refine Br_of (fun e=>⟨trivial,isQ_b (by kernel_rfl),sm_post hb (v:=5) (of_decide_eq_true e) rfl (by kernel_rfl)⟩) (fun e3=> ?_)
  refine Br_of (fun e=>⟨trivial,isQ_b (by kernel_rfl),sm_post hb (v:=7) (of_decide_eq_true e) rfl (by kernel_rfl)⟩) (fun e4=> ?_)
  refine Br_of (fun e=>⟨trivial,isQ_b (by kernel_rfl),sm_post hb (v:=8) (of_decide_eq_true e) rfl (by kernel_rfl)⟩) (fun e5=> ?_)
  refine Br_of (fun e=>⟨trivial,isQ_b (by kernel_rfl),sm_post hb (v:=9) (of_decide_eq_true e) rfl (by kernel_rfl)⟩) (fun e6=> ?_)
  refine Br_of (fun e=>⟨trivial,isQ_b (by kernel_rfl),sm_post hb (v:=11) (of_decide_eq_true e) rfl (by kernel_rfl)⟩) (fun e7=> ?_)
  refine Br_of (fun e=>⟨trivial,isQ_b (by kernel_rfl),sm_post hb (v:=13) (of_decide_eq_true e) rfl (by kernel_rfl)⟩) (fun e8=> ?_)
  refine Br_of (fun e=>⟨trivial,isQ_b (by kernel_rfl),sm_post hb (v:=16) (of_decide_eq_true e) rfl (by kernel_rfl)⟩) (fun e9=> ?_)
  refine Br_of (fun e=>⟨trivial,isQ_b (by kernel_rfl),sm_post hb (v:=25) (of_decide_eq_true e) rfl (by kernel_rfl)⟩) (fun e10=> ?_)
  refine Br_of (fun e=>⟨trivial,isQ_b (by kernel_rfl),sm_post hb (v:=27) (of_decide_eq_true e) rfl (by kernel_rfl)⟩) (fun e11=> ?_)
  have e0:=of_decide_eq_false e0
  have e1:=of_decide_eq_false e1
  have e2:=of_decide_eq_false e2
  have e3:=of_decide_eq_false e3
  have e4:=of_decide_eq_false e4
  have e5:=of_decide_eq_false e5
  have e6:=of_decide_eq_false e6
  have e7:=of_decide_eq_false e7
  have e8:=of_decide_eq_false e8
  have e9:=of_decide_eq_false e9
  have e10:=of_decide_eq_false e10
  have e11:=of_decide_eq_false e11
  omega
 ·have hb:((!Pl.okQ o)||decide (o>most))=true:=by rw[h2];simp
  refine⟨by omega, ?_⟩
  refine Br_of (fun e=>⟨trivial,isQ_b (by kernel_rfl),sm_post hb (v:=2) (of_decide_eq_true e) rfl (by kernel_rfl)⟩) (fun e0=> ?_)
  refine Br_of (fun e=>⟨trivial,isQ_b (by kernel_rfl),sm_post hb (v:=3) (of_decide_eq_true e) rfl (by kernel_rfl)⟩) (fun e1=> ?_)
  refine Br_of (fun e=>⟨trivial,isQ_b (by kernel_rfl),sm_post hb (v:=4) (of_decide_eq_true e) rfl (by kernel_rfl)⟩) (fun e2=> ?_)
  refine Br_of (fun e=>⟨trivial,isQ_b (by kernel_rfl),sm_post hb (v:=5) (of_decide_eq_true e) rfl (by kernel_rfl)⟩) (fun e3=> ?_)
  refine Br_of (fun e=>⟨trivial,isQ_b (by kernel_rfl),sm_post hb (v:=7) (of_decide_eq_true e) rfl (by kernel_rfl)⟩) (fun e4=> ?_)
  refine Br_of (fun e=>⟨trivial,isQ_b (by kernel_rfl),sm_post hb (v:=8) (of_decide_eq_true e) rfl (by kernel_rfl)⟩) (fun e5=> ?_)
  refine Br_of (fun e=>⟨trivial,isQ_b (by kernel_rfl),sm_post hb (v:=9) (of_decide_eq_true e) rfl (by kernel_rfl)⟩) (fun e6=> ?_)
  refine Br_of (fun e=>⟨trivial,isQ_b (by kernel_rfl),sm_post hb (v:=11) (of_decide_eq_true e) rfl (by kernel_rfl)⟩) (fun e7=> ?_)
  refine Br_of (fun e=>⟨trivial,isQ_b (by kernel_rfl),sm_post hb (v:=13) (of_decide_eq_true e) rfl (by kernel_rfl)⟩) (fun e8=> ?_)
  refine Br_of (fun e=>⟨trivial,isQ_b (by kernel_rfl),sm_post hb (v:=16) (of_decide_eq_true e) rfl (by kernel_rfl)⟩) (fun e9=> ?_)
  refine Br_of (fun e=>⟨trivial,isQ_b (by kernel_rfl),sm_post hb (v:=25) (of_decide_eq_true e) rfl (by kernel_rfl)⟩) (fun e10=> ?_)
  refine Br_of (fun e=>⟨trivial,isQ_b (by kernel_rfl),sm_post hb (v:=27) (of_decide_eq_true e) rfl (by kernel_rfl)⟩) (fun e11=> ?_)
  have e0:=of_decide_eq_false e0
  have e1:=of_decide_eq_false e1
  have e2:=of_decide_eq_false e2
  have e3:=of_decide_eq_false e3
  have e4:=of_decide_eq_false e4
  have e5:=of_decide_eq_false e5
  have e6:=of_decide_eq_false e6
  have e7:=of_decide_eq_false e7
  have e8:=of_decide_eq_false e8
  have e9:=of_decide_eq_false e9
  have e10:=of_decide_eq_false e10
  have e11:=of_decide_eq_false e11
  omega
 ·have h1:Pl.okQ o=true:=by simpa using h
  refine⟨isQ_b h1, ?_⟩
  show _=(fieldD (Pl.someQ o most),RF (Pl.someQ o most),())
  rw[someQ_self h1 (of_decide_eq_false h2),newR_ok h1];rfl
theorem nr_RF (q:Int):(Ar.enc G4 (RF q)).nr:=by exact⟨trivial,trivial,trivial,trivial,trivial⟩
theorem nrc19:NRC C19:=⟨fun x hx=>⟨trivial,trivial,trivial⟩,fun x hx=>⟨nr_field (someQ_isQ _ _),nr_RF _,trivial⟩⟩
theorem snd19:Sound Try.prog 19 C19:=fn_sound (T:=T19) (fn:=Try.f19) (tok0 ⟨snd79,snd78q,trivial⟩) Try.func19 (by kernel_rfl) H0 vc19 (by kernel_rfl) (hC:=nrc19)

theorem aw1:Pl.md 8=[1,1,0,1]:=by kernel_rfl
theorem aw2:Pl.gen 8=2:=by kernel_rfl
theorem aw3:Pl.mul 8 2 4=3:=by kernel_rfl
theorem aw4:Pl.trace 8 1=1:=by kernel_rfl
theorem aw5:Pl.deny 5 [[1,2],[2,4]] [1,3]=([3,1],true):=by kernel_rfl
theorem ok8:isQ 8:=isQ_b (by kernel_rfl)
theorem ok5:isQ 5:=isQ_b (by kernel_rfl)
theorem vc24: ∀x,C24.pre x→VC T24 H0 Try.f24 C24 x:=by
 rintro⟨⟩-
 refine cast (α:=((2:Int)≤(8:Int)∧(8:Int)≤(65536:Int)∧(1:Int)≤Pl.K (8:Int))∧Br ((0:I.El) !=(0:Int)) ((false,())=C24.post ()) (Pl.okF (D.rptr (fieldC (8:Int)))∧((2:Int)≤(5:Int)∧(5:Int)≤(65536:Int)∧(1:Int)≤Pl.K (5:Int))∧(Pl.okSy (D.rptr (fieldC (5:Int)),[[(1:Int),(2:Int)],[(2:Int),(4:Int)]],[(1:Int),(3:Int)],())∧True)∧Br ((↑(Pl.md (Pl.qF (D.rptr (fieldC (8:Int))))).length:Int)==(4:Int)) ((0:Int)≤(2:Int)∧(2:Int)<(↑(Pl.md (Pl.qF (D.rptr (fieldC (8:Int))))).length:Int)∧Br (rd i64 (Pl.md (Pl.qF (D.rptr (fieldC (8:Int))))) (2:Int)==(0:Int)) (Pl.okF (D.rptr (fieldC (8:Int)))∧Br (Pl.gen (Pl.qF (D.rptr (fieldC (8:Int))))==(2:Int)) (Pl.okF (D.rptr (fieldC (8:Int)))∧Br (Pl.mul (Pl.qF (D.rptr (fieldC (8:Int)))) ((2:Int)%Pl.qF (D.rptr (fieldC (8:Int)))) ((4:Int)%Pl.qF (D.rptr (fieldC (8:Int))))==(3:Int)) (Pl.okF (D.rptr (fieldC (8:Int)))∧Br (Pl.trace (Pl.qF (D.rptr (fieldC (8:Int)))) ((1:Int)%Pl.qF (D.rptr (fieldC (8:Int))))==(1:Int)) (Br (Pl.deny (Pl.qF (D.rptr (fieldC (5:Int)))) [[(1:Int),(2:Int)],[(2:Int),(4:Int)]] [(1:Int),(3:Int)]).2 (((↑(Pl.deny (Pl.qF (D.rptr (fieldC (5:Int)))) [[(1:Int),(2:Int)],[(2:Int),(4:Int)]] [(1:Int),(3:Int)]).1.length:Int)==(2:Int),())=C24.post ()) ((false,())=C24.post ())) ((false,())=C24.post ())) ((false,())=C24.post ())) ((false,())=C24.post ())) ((false,())=C24.post ())) ((false,())=C24.post ()))) (by kernel_rfl) ?_
 rw[qF_f,qF_f,aw1,aw2,aw5,show(2:Int)%8=2 by decide,show(4:Int)%8=4 by decide,show(1:Int)%8=1 by decide,aw3,aw4]
 refine⟨ok8,okF_f ok8,ok5,⟨⟨okF_f ok5, ?_, ?_⟩,trivial⟩, ?_⟩
 ·refine⟨by decide,fun r hr=> ?_⟩
  simp at hr
  rcases hr with rfl|rfl<;>decide
 ·decide
 ·exact⟨by decide,by decide,okF_f ok8,okF_f ok8,okF_f ok8,rfl⟩
theorem snd24:Sound Try.prog 24 C24:=fn_sound (T:=T24) (fn:=Try.f24) (tok0 ⟨snd78q,snd80,snd46,snd42,snd34,snd55,trivial⟩) Try.func24 (by kernel_rfl) H0 vc24 (by kernel_rfl)
end Fd
end
section
set_option linter.unusedVariables false
set_option linter.unusedSimpArgs false
set_option maxRecDepth 100000
namespace Fd
open Go Fw Go.Proofs

def Pl.trimN (l:List Int):Nat→Nat
 |0=>0
 |n+1=>bif decide (l.getD n 0=0)then Pl.trimN l n else n+1
def Pl.trim (l:List Int):List Int:=l.take (Pl.trimN l l.length)
def C143:Con:=⟨[L],[L],fun(x:List Int×Unit)=>x.1.length≤1000000000,fun(x:List Int×Unit)=>(Pl.trim x.1,()),none⟩
def H143:Hints:=lo [(0,⟨[0],[(3,si)]⟩)]
def Pl.pst (q:Int) (a b out:List Int) (i k:Nat):List Int:=out.set (i+k) (Pl.add q (out.getD (i+k) 0) (Pl.mul q (a.getD i 0) (b.getD k 0)))
def Pl.prow (q:Int) (a b:List Int) (i:Nat):Nat→List Int→List Int
 |0,out=>out
 |k+1,out=>Pl.pst q a b (Pl.prow q a b i k out) i k
def Pl.prws (q:Int) (a b:List Int):Nat→List Int
 |0=>List.replicate (a.length+b.length-1) 0
 |i+1=>Pl.prow q a b i b.length (Pl.prws q a b i)
def Pl.prod (q:Int) (a b:List Int):List Int:=bif decide (a.length=0)||decide (b.length=0)then []else Pl.prws q a b a.length
def Pl.okPr (q:Int) (a b:List Int):Prop:=(∀x∈a,Pl.inQ q x)∧(∀x∈b,Pl.inQ q x)∧a.length≤1000000∧b.length≤1000000
def C107:Con:=⟨[.raw,L,L],[L],fun(x:D×List Int×List Int×Unit)=>Pl.okF x.1∧Pl.okPr (Pl.qF x.1) x.2.1 x.2.2.1,fun(x:D×List Int×List Int×Unit)=>(Pl.trim (Pl.prod (Pl.qF x.1) x.2.1 x.2.2.1),()),none⟩
def H107:Hints:=⟨[],[(13,[1000007])],[(0,⟨[0,2,27,28],[(7,so),(29,si)]⟩),(2,⟨[0,2,8,9,27,28,29,34,35],[(7,so),(36,si)]⟩)],[],[]⟩
def T107:Ctx:=TF [(143,C143)]
def C69:Con:=⟨[G4,L,L],[L],fun(x:R4×List Int×List Int×Unit)=>Pl.okr x.1∧Pl.okPr x.1.1 x.2.1 x.2.2.1,fun(x:R4×List Int×List Int×Unit)=>(Pl.prod x.1.1 x.2.1 x.2.2.1,()),none⟩
def H69:Hints:=⟨[],[(1,[3])],[(0,⟨[1,2,3],[(7,so),(8,si)]⟩),(2,⟨[1,2,3,8],[(7,so),(9,si)]⟩)],[],[]⟩
def T69:Ctx:=TT [(31,C31),(35,C35)]
def Pl.same (a b:List Int):Bool:=decide (a=b)
def C50:Con:=⟨[L,L],[B],fun(x:List Int×List Int×Unit)=>x.1.length≤1000000000,fun(x:List Int×List Int×Unit)=>(Pl.same x.1 x.2.1,()),none⟩
def H50:Hints:=lo [(0,⟨[0,1],[(5,si)]⟩)]
end Fd
end
section
set_option linter.unusedVariables false
set_option linter.unusedSimpArgs false
set_option maxRecDepth 100000
namespace Fd
open Go Fw Go.Proofs

theorem vc143: ∀x,C143.pre x→VC (TT []) H143 Try.f143 C143 x:=by
 rintro⟨(l:List Int),⟨⟩⟩ (hl:l.length≤1000000000)
 refine cast (α:= ∃(n:Nat),itl (fun(G:Int×PUnit→Prop) (x:Int×PUnit)=>Br (decide (x.1>(0:Int))) ((0:Int)≤IntKind.i64.wrap (x.1-(1:Int))∧IntKind.i64.wrap (x.1-(1:Int))<(↑l.length:Int)∧Br (rd i64 l (IntKind.i64.wrap (x.1-(1:Int)))==(0:Int)) (G (IntKind.i64.wrap (x.1-(1:Int)),())) ((0:Int)≤x.1∧x.1≤(↑l.length:Int)∧x.1=x.1∧(sub l (0:Int) x.1,())=C143.post (l,()))) ((0:Int)≤x.1∧x.1≤(↑l.length:Int)∧x.1=x.1∧(sub l (0:Int) x.1,())=C143.post (l,()))) n ((↑l.length:Int),())) (by kernel_rfl) ?_
 have hp:C143.post (l,())=(l.take (Pl.trimN l l.length),()):=rfl
 rw[hp]
 refine itl_rule (fun s=> ∃i:Nat,s.1=(i:Int)∧i≤l.length∧Pl.trimN l i=Pl.trimN l l.length) (fun s=>s.1.toNat) ⟨l.length,rfl,Nat.le_refl _,rfl⟩ ?_
 rintro⟨i0,⟨⟩⟩ G ⟨i,e,hi,hf⟩ hG
 simp only at e hf hG⊢
 subst e
 have hsub: ∀n:Nat,sub l (0:Int) (n:Int)=l.take n:=fun n=>by unfold sub;simp
 refine Br_of (fun h=> ?_) (fun h=> ?_)
 ·have h:0<i:=by have:=of_decide_eq_true h;omega
  rw[wrap_i64 (by omega) (by omega),show((i:Int)-1)=((i-1:Nat):Int)by omega,rd_i]
  rw[show i=(i-1)+1 by omega,Pl.trimN]at hf
  refine⟨by omega,by omega,Br_of (fun h1=> ?_) (fun h1=> ?_)⟩
  ·rw[decide_eq_true (eq_of_beq h1),cond_true]at hf
   exact hG _ ⟨i-1,rfl,by omega,hf⟩ (by simp only;omega)
  ·rw[decide_eq_false (by simpa using h1),cond_false]at hf
   exact⟨by omega,by omega,trivial,by rw[hsub, ←hf,show i-1+1=i by omega]⟩
 ·have h:i=0:=by have:=of_decide_eq_false h;omega
  subst h
  exact⟨by omega,by omega,trivial,by rw[hsub, ←hf];rfl⟩
theorem vc50 : ∀ x, C50.pre x → VC (TT []) H50 Try.f50 C50 x := by
  rintro ⟨(a : List Int), (b : List Int), ⟨⟩⟩ (hl : a.length ≤ 1000000000)
  refine cast (α := Br ((↑a.length : Int) != (↑b.length : Int)) ((false, ()) = C50.post (a, b, ())) (∃ (n : Nat), itl (fun (G : Int × PUnit → Prop) (x : Int × PUnit) => Br (decide (x.1 < (↑a.length : Int))) ((0 : Int) ≤ x.1 ∧ x.1 < (↑a.length : Int) ∧ (0 : Int) ≤ x.1 ∧ x.1 < (↑b.length : Int) ∧ Br (rd i64 a x.1 != rd i64 b x.1) ((false, ()) = C50.post (a, b, ())) (G (IntKind.i64.wrap (x.1 + (1 : Int)), ()))) ((true, ()) = C50.post (a, b, ()))) n ((0 : Int), ()))) (by kernel_rfl) ?_
  have hp : C50.post (a, b, ()) = (decide (a = b), ()) := rfl
  rw [hp]
  refine Br_of (fun h => ?_) (fun h => ?_)
  · have h : (a.length : Int) ≠ b.length := by simpa using h
    rw [decide_eq_false (fun e => h (by rw [e]))]
  have h : a.length = b.length := by have : (a.length : Int) = b.length := by simpa using h
                                     omega
  refine itl_rule (fun s => ∃ i : Nat, s.1 = (i : Int) ∧ i ≤ a.length ∧ a.take i = b.take i) (fun s => ((a.length : Int) - s.1).toNat) ⟨0, rfl, Nat.zero_le _, rfl⟩ ?_
  rintro ⟨i0, ⟨⟩⟩ G ⟨i, e, hi, hf⟩ hG
  simp only at e hf hG ⊢
  subst e
  refine Br_of (fun h1 => ?_) (fun h1 => ?_)
  · have h1 : i < a.length := by have := of_decide_eq_true h1; omega
    rw [rd_i, rd_i, wrap_i64 (by omega) (by omega)]
    refine ⟨by omega, by omega, by omega, by omega, Br_of (fun h2 => ?_) (fun h2 => ?_)⟩
    · have h2 : a.getD i 0 ≠ b.getD i 0 := by simpa using h2
      rw [decide_eq_false (fun e => h2 (by rw [e]))]
    · have h2 : a.getD i 0 = b.getD i 0 := by simpa using h2
      refine hG _ ⟨i + 1, rfl, by omega, ?_⟩ (by simp only; omega)
      have hb : i < b.length := by omega
      rw [List.getD_eq_getElem?_getD, List.getD_eq_getElem?_getD, List.getElem?_eq_getElem h1, List.getElem?_eq_getElem hb] at h2
      have h2 : a[i] = b[i] := h2
      rw [List.take_succ_eq_append_getElem h1, List.take_succ_eq_append_getElem hb, hf, h2]
  · have h1 : i = a.length := by have := of_decide_eq_false h1; omega
    subst h1
    rw [List.take_length, h, List.take_length] at hf
    rw [decide_eq_true hf]
section
variable {q : Int} (hq : isQ q) {a b : List Int}
include hq
theorem pst_ok {out:List Int} {i k:Nat} (ho: ∀x∈out,Pl.inQ q x):(Pl.pst q a b out i k).length=out.length∧ ∀x∈Pl.pst q a b out i k,Pl.inQ q x:=by
 unfold Pl.pst
 refine⟨List.length_set,fun x hx=> ?_⟩
 rcases List.mem_or_eq_of_mem_set hx with h|rfl
 ·exact ho x h
 ·exact add_inQ hq _ _
theorem prow_ok (i:Nat): ∀(k:Nat) {out:List Int},(∀x∈out,Pl.inQ q x)→(Pl.prow q a b i k out).length=out.length∧ ∀x∈Pl.prow q a b i k out,Pl.inQ q x
 |0,_,h=>⟨rfl,h⟩
 |k+1,out,h=>by
  obtain⟨h1,h2⟩:=prow_ok i k h
  obtain⟨h3,h4⟩:=pst_ok hq (a:=a) (b:=b) (i:=i) (k:=k) h2
  exact⟨h3.trans h1,h4⟩
theorem prws_ok: ∀i:Nat,(Pl.prws q a b i).length=a.length+b.length-1∧ ∀x∈Pl.prws q a b i,Pl.inQ q x
 |0=>⟨List.length_replicate,fun x hx=>by rw[List.eq_of_mem_replicate hx];exact zero_inQ hq⟩
 |i+1=>by
  obtain⟨h1,h2⟩:=prws_ok i
  obtain⟨h3,h4⟩:=prow_ok hq (a:=a) (b:=b) i b.length h2
  exact⟨h3.trans h1,h4⟩
theorem prod_ok:(Pl.prod q a b).length≤a.length+b.length∧ ∀x∈Pl.prod q a b,Pl.inQ q x:=by
 unfold Pl.prod
 cases h:decide (a.length=0)||decide (b.length=0)with
 |true=>exact⟨Nat.zero_le _,fun x hx=>by cases hx⟩
 |false=>
  obtain⟨h1,h2⟩:=prws_ok hq (a:=a) (b:=b) a.length
  exact⟨by rw[cond_false,h1];omega,h2⟩
end
theorem vc107: ∀x,C107.pre x→VC T107 H107 Try.f107 C107 x:=by
 rintro⟨v,(a:List Int),(b:List Int),⟨⟩⟩ ⟨⟨q,hq,(rfl:v=_)⟩,(hab:Pl.okPr (Pl.qF (fieldD q)) a b)⟩
 rw[qF_d]at hab
 obtain⟨ha,hb,la,lb⟩:=hab
 refine cast (α:=Br ((↑a.length:Int)==(0:Int)) (([],())=C107.post (fieldD q,a,b,())) (Br ((↑b.length:Int)==(0:Int)) (([],())=C107.post (fieldD q,a,b,())) ((0:Int)≤IntKind.i64.wrap (IntKind.i64.wrap ((↑a.length:Int)+(↑b.length:Int))-(1:Int))∧IntKind.i64.wrap (IntKind.i64.wrap ((↑a.length:Int)+(↑b.length:Int))-(1:Int))=IntKind.i64.wrap (IntKind.i64.wrap ((↑a.length:Int)+(↑b.length:Int))-(1:Int))∧IntKind.i64.wrap (IntKind.i64.wrap ((↑a.length:Int)+(↑b.length:Int))-(1:Int))*(8:Int)≤(140737488355328:Int)∧ ∃(n:Nat),itl (fun(G:List Int×Int×PUnit→Prop) (x:List Int×Int×PUnit)=>Br (decide (x.2.1<(↑a.length:Int))) ((0:Int)≤x.2.1∧x.2.1<(↑a.length:Int)∧ ∃(n:Nat),itl (fun(G_1:List Int×Int×PUnit→Prop) (x_1:List Int×Int×PUnit)=>Br (decide (x_1.2.1<(↑b.length:Int))) ((0:Int)≤x_1.2.1∧x_1.2.1<(↑b.length:Int)∧(0:Int)≤IntKind.i64.wrap (x.2.1+x_1.2.1)∧IntKind.i64.wrap (x.2.1+x_1.2.1)<(↑(List.length x_1.1):Int)∧(0:Int)≤IntKind.i64.wrap (x.2.1+x_1.2.1)∧IntKind.i64.wrap (x.2.1+x_1.2.1)<(↑(List.length x_1.1):Int)∧(Pl.okM (arD q)∧Pl.inQ (Pl.qA (arD q)) (rd i64 a x.2.1)∧Pl.inQ (Pl.qA (arD q)) (rd i64 b x_1.2.1))∧(Pl.okA (arD q)∧Pl.inQ (Pl.qA (arD q)) (rd i64 x_1.1 (IntKind.i64.wrap (x.2.1+x_1.2.1)))∧Pl.inQ (Pl.qA (arD q)) (Pl.mul (Pl.qA (arD q)) (rd i64 a x.2.1) (rd i64 b x_1.2.1)))∧(0:Int)≤IntKind.i64.wrap (x.2.1+x_1.2.1)∧IntKind.i64.wrap (x.2.1+x_1.2.1)<(↑(List.length x_1.1):Int)∧(0:Int)≤IntKind.i64.wrap (x.2.1+x_1.2.1)∧IntKind.i64.wrap (x.2.1+x_1.2.1)<(↑(List.length x_1.1):Int)∧G_1 (List.set x_1.1 (IntKind.i64.wrap (x.2.1+x_1.2.1)).toNat (Pl.add (Pl.qA (arD q)) (rd i64 x_1.1 (IntKind.i64.wrap (x.2.1+x_1.2.1))) (Pl.mul (Pl.qA (arD q)) (rd i64 a x.2.1) (rd i64 b x_1.2.1))),IntKind.i64.wrap (x_1.2.1+(1:Int)),())) (G (x_1.1,IntKind.i64.wrap (x.2.1+(1:Int)),()))) n (x.1,(0:Int),())) (x.1.length≤(1000000000:Nat)∧(Pl.trim x.1,())=C107.post (fieldD q,a,b,()))) n (List.replicate (IntKind.i64.wrap (IntKind.i64.wrap ((↑a.length:Int)+(↑b.length:Int))-(1:Int))).toNat (0:Int),(0:Int),())))) (by kernel_rfl) ?_
 rw[qA_ar hq]
 have hp:C107.post (fieldD q,a,b,())=(Pl.trim (Pl.prod q a b),()):=rfl
 rw[hp]
 refine Br_of (fun h=> ?_) (fun h=>Br_of (fun h1=> ?_) (fun h1=> ?_))
 ·have h:a.length=0:=by have:=eq_of_beq h;omega
  unfold Pl.prod;rw[decide_eq_true h];rfl
 ·have h1:b.length=0:=by have:=eq_of_beq h1;omega
  unfold Pl.prod;rw[decide_eq_true h1,Bool.or_true];rfl
 have h:a.length≠0:=fun e=>by rw[e]at h;cases h
 have h1:b.length≠0:=fun e=>by rw[e]at h1;cases h1
 have hprod:Pl.prod q a b=Pl.prws q a b a.length:=by unfold Pl.prod;rw[decide_eq_false h,decide_eq_false h1];rfl
 rw[hprod,wrap_i64 (x:=(a.length:Int)+b.length) (by omega) (by omega),wrap_i64 (x:=(a.length:Int)+b.length-1) (by omega) (by omega)]
 refine⟨by omega,rfl,by omega,itl_rule (fun s=> ∃i:Nat,s.2.1=(i:Int)∧i≤a.length∧s.1=Pl.prws q a b i) (fun s=>((a.length:Int)-s.2.1).toNat) ⟨0,rfl,Nat.zero_le _,by show List.replicate _ _=List.replicate _ _;congr 1;omega⟩ ?_⟩
 rintro⟨out,i0,⟨⟩⟩ G ⟨i,e,hi,ho⟩ hG
 simp only at e ho hG⊢
 subst e ho
 refine Br_of (fun h2=> ?_) (fun h2=> ?_)
 ·have h2:i<a.length:=by have:=of_decide_eq_true h2;omega
  obtain⟨r1,r2⟩:=prws_ok hq (a:=a) (b:=b) i
  refine⟨by omega,by omega,itl_rule (fun s=> ∃k:Nat,s.2.1=(k:Int)∧k≤b.length∧s.1=Pl.prow q a b i k (Pl.prws q a b i)) (fun s=>((b.length:Int)-s.2.1).toNat) ⟨0,rfl,Nat.zero_le _,rfl⟩ ?_⟩
  rintro⟨out,k0,⟨⟩⟩ G1 ⟨k,e,hk,ho⟩ hG1
  simp only at e ho hG1⊢
  subst e ho
  refine Br_of (fun h3=> ?_) (fun h3=> ?_)
  ·have h3:k<b.length:=by have:=of_decide_eq_true h3;omega
   obtain⟨s1,s2⟩:=prow_ok hq (a:=a) (b:=b) i k r2
   rw[wrap_i64 (x:=(i:Int)+k) (by omega) (by omega),wrap_i64 (x:=(k:Int)+1) (by omega) (by omega),show(i:Int)+k=((i+k:Nat):Int)from rfl,rd_i,rd_i,rd_i,s1,r1,Int.toNat_natCast]
   have hin:=getD_inQ s2 (j:=i+k) (by rw[s1,r1];omega)
   exact⟨by omega,by omega,by omega,by omega,by omega,by omega,⟨okM_ar hq,getD_inQ ha h2,getD_inQ hb h3⟩,⟨okA_ar hq,hin,mul_inQ hq _ _⟩,by omega,by omega,by omega,by omega,hG1 _ ⟨k+1,rfl,by omega,rfl⟩ (by simp only;omega)⟩
  ·have h3:k=b.length:=by have:=of_decide_eq_false h3;omega
   subst h3
   rw[wrap_i64 (x:=(i:Int)+1) (by omega) (by omega)]
   exact hG _ ⟨i+1,rfl,by omega,rfl⟩ (by simp only;omega)
 ·have h2:i=a.length:=by have:=of_decide_eq_false h2;omega
  subst h2
  have:=(prws_ok hq (a:=a) (b:=b) a.length).1
  exact⟨by omega,rfl⟩
theorem vc69: ∀x,C69.pre x→VC T69 H69 Try.f69 C69 x:=by
 rintro⟨⟨(q:Int),(p:Int),(k:Int),(m:Int),⟨⟩⟩,(a:List Int),(b:List Int),⟨⟩⟩ ⟨(h0:Pl.okr _),(hab:Pl.okPr q a b)⟩
 obtain⟨hq,_,_,_⟩:=okr_open h0
 obtain⟨ha,hb,la,lb⟩:=hab
 refine cast (α:=Br ((↑a.length:Int)==(0:Int)) (([],())=C69.post ((q,p,k,m,()),a,b,())) (Br ((↑b.length:Int)==(0:Int)) (([],())=C69.post ((q,p,k,m,()),a,b,())) ((0:Int)≤IntKind.i64.wrap (IntKind.i64.wrap ((↑a.length:Int)+(↑b.length:Int))-(1:Int))∧IntKind.i64.wrap (IntKind.i64.wrap ((↑a.length:Int)+(↑b.length:Int))-(1:Int))=IntKind.i64.wrap (IntKind.i64.wrap ((↑a.length:Int)+(↑b.length:Int))-(1:Int))∧IntKind.i64.wrap (IntKind.i64.wrap ((↑a.length:Int)+(↑b.length:Int))-(1:Int))*(8:Int)≤(140737488355328:Int)∧ ∃(n:Nat),itl (fun(G:List Int×Int×PUnit→Prop) (x:List Int×Int×PUnit)=>Br (decide (x.2.1<(↑a.length:Int))) (∃(n:Nat),itl (fun(G_1:List Int×Int×PUnit→Prop) (x_1:List Int×Int×PUnit)=>Br (decide (x_1.2.1<(↑b.length:Int))) ((0:Int)≤IntKind.i64.wrap (x.2.1+x_1.2.1)∧IntKind.i64.wrap (x.2.1+x_1.2.1)<(↑(List.length x_1.1):Int)∧(0:Int)≤IntKind.i64.wrap (x.2.1+x_1.2.1)∧IntKind.i64.wrap (x.2.1+x_1.2.1)<(↑(List.length x_1.1):Int)∧(0:Int)≤x.2.1∧x.2.1<(↑a.length:Int)∧(0:Int)≤x_1.2.1∧x_1.2.1<(↑b.length:Int)∧(Pl.okr (q,p,k,m,())∧Pl.inQ q (rd i64 a x.2.1)∧Pl.inQ q (rd i64 b x_1.2.1))∧(Pl.okr (q,p,k,m,())∧Pl.inQ q (rd i64 x_1.1 (IntKind.i64.wrap (x.2.1+x_1.2.1)))∧Pl.inQ q (Pl.mul q (rd i64 a x.2.1) (rd i64 b x_1.2.1)))∧(0:Int)≤IntKind.i64.wrap (x.2.1+x_1.2.1)∧IntKind.i64.wrap (x.2.1+x_1.2.1)<(↑(List.length x_1.1):Int)∧(0:Int)≤IntKind.i64.wrap (x.2.1+x_1.2.1)∧IntKind.i64.wrap (x.2.1+x_1.2.1)<(↑(List.length x_1.1):Int)∧G_1 (List.set x_1.1 (IntKind.i64.wrap (x.2.1+x_1.2.1)).toNat (Pl.add q (rd i64 x_1.1 (IntKind.i64.wrap (x.2.1+x_1.2.1))) (Pl.mul q (rd i64 a x.2.1) (rd i64 b x_1.2.1))),IntKind.i64.wrap (x_1.2.1+(1:Int)),())) (G (x_1.1,IntKind.i64.wrap (x.2.1+(1:Int)),()))) n (x.1,(0:Int),())) ((x.1,())=C69.post ((q,p,k,m,()),a,b,()))) n (List.replicate (IntKind.i64.wrap (IntKind.i64.wrap ((↑a.length:Int)+(↑b.length:Int))-(1:Int))).toNat (0:Int),(0:Int),())))) (by kernel_rfl) ?_
 have hp:C69.post ((q,p,k,m,()),a,b,())=(Pl.prod q a b,()):=rfl
 rw[hp]
 refine Br_of (fun h=> ?_) (fun h=>Br_of (fun h1=> ?_) (fun h1=> ?_))
 ·have h:a.length=0:=by have:=eq_of_beq h;omega
  unfold Pl.prod;rw[decide_eq_true h];rfl
 ·have h1:b.length=0:=by have:=eq_of_beq h1;omega
  unfold Pl.prod;rw[decide_eq_true h1,Bool.or_true];rfl
 have h:a.length≠0:=fun e=>by rw[e]at h;cases h
 have h1:b.length≠0:=fun e=>by rw[e]at h1;cases h1
 have hprod:Pl.prod q a b=Pl.prws q a b a.length:=by unfold Pl.prod;rw[decide_eq_false h,decide_eq_false h1];rfl
 rw[hprod,wrap_i64 (x:=(a.length:Int)+b.length) (by omega) (by omega),wrap_i64 (x:=(a.length:Int)+b.length-1) (by omega) (by omega)]
 refine⟨by omega,rfl,by omega,itl_rule (fun s=> ∃i:Nat,s.2.1=(i:Int)∧i≤a.length∧s.1=Pl.prws q a b i) (fun s=>((a.length:Int)-s.2.1).toNat) ⟨0,rfl,Nat.zero_le _,by show List.replicate _ _=List.replicate _ _;congr 1;omega⟩ ?_⟩
 rintro⟨out,i0,⟨⟩⟩ G ⟨i,e,hi,ho⟩ hG
 simp only at e ho hG⊢
 subst e ho
 refine Br_of (fun h2=> ?_) (fun h2=> ?_)
 ·have h2:i<a.length:=by have:=of_decide_eq_true h2;omega
  obtain⟨r1,r2⟩:=prws_ok hq (a:=a) (b:=b) i
  refine itl_rule (fun s=> ∃k:Nat,s.2.1=(k:Int)∧k≤b.length∧s.1=Pl.prow q a b i k (Pl.prws q a b i)) (fun s=>((b.length:Int)-s.2.1).toNat) ⟨0,rfl,Nat.zero_le _,rfl⟩ ?_
  rintro⟨out,k0,⟨⟩⟩ G1 ⟨k,e,hk,ho⟩ hG1
  simp only at e ho hG1⊢
  subst e ho
  refine Br_of (fun h3=> ?_) (fun h3=> ?_)
  ·have h3:k<b.length:=by have:=of_decide_eq_true h3;omega
   obtain⟨s1,s2⟩:=prow_ok hq (a:=a) (b:=b) i k r2
   rw[wrap_i64 (x:=(i:Int)+k) (by omega) (by omega),wrap_i64 (x:=(k:Int)+1) (by omega) (by omega),show(i:Int)+k=((i+k:Nat):Int)from rfl,rd_i,rd_i,rd_i,s1,r1,Int.toNat_natCast]
   have hin:=getD_inQ s2 (j:=i+k) (by rw[s1,r1];omega)
   exact⟨by omega,by omega,by omega,by omega,by omega,by omega,by omega,by omega,⟨h0,getD_inQ ha h2,getD_inQ hb h3⟩,⟨h0,hin,mul_inQ hq _ _⟩,by omega,by omega,by omega,by omega,hG1 _ ⟨k+1,rfl,by omega,rfl⟩ (by simp only;omega)⟩
  ·have h3:k=b.length:=by have:=of_decide_eq_false h3;omega
   subst h3
   rw[wrap_i64 (x:=(i:Int)+1) (by omega) (by omega)]
   exact hG _ ⟨i+1,rfl,by omega,rfl⟩ (by simp only;omega)
 ·have h2:i=a.length:=by have:=of_decide_eq_false h2;omega
  subst h2
  rfl
end Fd
end
section
set_option linter.unusedVariables false
set_option linter.unusedSimpArgs false
set_option linter.unusedSectionVars false
set_option maxRecDepth 100000
namespace Fd
open Go Fw Go.Proofs

section
variable {q : Int} (hq : isQ q)
include hq
theorem sub_zero_neg (x:Int):Pl.sub q 0 x=Pl.neg q x:=by
 have ok:=fld_ok hq
 show(fld q).sub 0 x=(fld q).neg x
 rw[Fm.Fld.sub_eq ok,Fm.Fld.zero_add ok (Fm.Fld.neg_in ok x)]
end
theorem nrc107:NRC C107:=⟨fun x hx=>⟨okF_nr hx.1,rfl,rfl,trivial⟩,fun x hx=>⟨rfl,trivial⟩⟩
theorem snd143:Sound Try.prog 143 C143:=fn_sound (T:=TT []) (fn:=Try.f143) (tok0 trivial) Try.func143 (by kernel_rfl) H143 vc143 (by kernel_rfl)
theorem snd50:Sound Try.prog 50 C50:=fn_sound (T:=TT []) (fn:=Try.f50) (tok0 trivial) Try.func50 (by kernel_rfl) H50 vc50 (by kernel_rfl)
theorem snd107:Sound Try.prog 107 C107:=fn_sound (T:=T107) (fn:=Try.f107) (tokF ⟨snd143,trivial⟩) Try.func107 (by kernel_rfl) H107 vc107 (by kernel_rfl) (hC:=nrc107)
theorem snd69:Sound Try.prog 69 C69:=fn_sound (T:=T69) (fn:=Try.f69) (tok0 ⟨snd31,snd35,trivial⟩) Try.func69 (by kernel_rfl) H69 vc69 (by kernel_rfl)
end Fd
end
section
set_option linter.unusedVariables false
set_option linter.unusedSimpArgs false
set_option maxRecDepth 100000
namespace Fd
open Go Fw Go.Proofs

def C25:Con:=⟨[L,I],[L],fun(x:List Int×Int×Unit)=>0≤x.2.1∧x.2.1≤1000,fun(x:List Int×Int×Unit)=>(x.1.take x.2.1.toNat,()),none⟩
def C102:Con:=⟨[G4,I],[B],fun(x:R4×Int×Unit)=>Pl.okr x.1,fun(x:R4×Int×Unit)=>(decide (0≤x.2.1)&&decide (x.2.1<x.1.1),()),none⟩
def C47:Con:=⟨[G4,L],[B],fun(x:R4×List Int×Unit)=>Pl.okr x.1∧x.2.1.length≤1000000000,fun(x:R4×List Int×Unit)=>(Pl.els x.1.1 x.2.1,()),none⟩
def H47:Hints:=⟨[],[(1,[2])],[(0,⟨[1,2],[(5,si)]⟩)],[],[]⟩
def T47:Ctx:=TT [(102,C102)]
end Fd
end
section
set_option linter.unusedVariables false
set_option linter.unusedSimpArgs false
set_option maxRecDepth 100000
namespace Fd
open Go Fw Go.Proofs

theorem sub0 {α:Type} (l:List α) (n:Nat):sub l (0:Int) (n:Int)=l.take n:=by unfold sub;simp
theorem vc25: ∀x,C25.pre x→VC (TT []) H0 Try.f25 C25 x:=by
 rintro⟨(l:List Int),(n:Int),⟨⟩⟩ ⟨(n0:0≤n),(n1:n≤1000)⟩
 refine cast (α:=((0:Int)≤if n<(↑l.length:Int)then n else(↑l.length:Int))∧(if n<(↑l.length:Int)then n else(↑l.length:Int))≤(↑l.length:Int)∧(↑(sub l (0:Int) (if n<(↑l.length:Int)then n else(↑l.length:Int))).length:Int)*(8:Int)≤(140737488355328:Int)∧(sub l (0:Int) (if n<(↑l.length:Int)then n else(↑l.length:Int)),())=C25.post (l,n,())) (by kernel_rfl) ?_
 have hp:C25.post (l,n,())=(l.take n.toNat,()):=rfl
 rw[hp]
 by_cases h:n<(l.length:Int)
 ·rw[if_pos h]
  obtain⟨k,rfl⟩: ∃k:Nat,n=k:=⟨n.toNat,by omega⟩
  rw[sub0,Int.toNat_natCast,List.length_take]
  exact⟨by omega,by omega,by omega,rfl⟩
 ·rw[if_neg h,sub0,List.take_length]
  refine⟨by omega,by omega,by omega, ?_⟩
  rw[List.take_of_length_le (by omega)]
theorem vc102: ∀x,C102.pre x→VC (TT []) H0 Try.f102 C102 x:=by
 rintro⟨⟨(q:Int),(p:Int),(k:Int),(m:Int),⟨⟩⟩,(a:Int),⟨⟩⟩-
 refine cast (α:=Br (decide (a≥(0:Int))) ((decide (a<q),())=C102.post ((q,p,k,m,()),a,())) ((false,())=C102.post ((q,p,k,m,()),a,()))) (by kernel_rfl) ?_
 refine Br_of (fun h=> ?_) (fun h=> ?_)
 ·show _=(decide (0≤a)&&decide (a<q),())
  rw[decide_eq_true (of_decide_eq_true h)];rfl
 ·show _=(decide (0≤a)&&decide (a<q),())
  rw[decide_eq_false (of_decide_eq_false h)];rfl
theorem vc47: ∀x,C47.pre x→VC T47 H47 Try.f47 C47 x:=by
 rintro⟨⟨(q:Int),(p:Int),(k:Int),(m:Int),⟨⟩⟩,(l:List Int),⟨⟩⟩ ⟨(h0:Pl.okr _),(hl:l.length≤1000000000)⟩
 refine cast (α:= ∃(n:Nat),itl (fun(G:Int×PUnit→Prop) (x:Int×PUnit)=>Br (decide (x.1<(↑l.length:Int))) ((0:Int)≤x.1∧x.1<(↑l.length:Int)∧Pl.okr (q,p,k,m,())∧Br (!(decide ((0:Int)≤rd i64 l x.1)&&decide (rd i64 l x.1<q))) ((false,())=C47.post ((q,p,k,m,()),l,())) (G (IntKind.i64.wrap (x.1+(1:Int)),()))) ((true,())=C47.post ((q,p,k,m,()),l,()))) n ((0:Int),())) (by kernel_rfl) ?_
 have hp:C47.post ((q,p,k,m,()),l,())=(Pl.els q l,()):=rfl
 rw[hp]
 refine itl_rule (fun s=> ∃i:Nat,s.1=(i:Int)∧i≤l.length∧Pl.els q (l.drop i)=Pl.els q l) (fun s=>((l.length:Int)-s.1).toNat) ⟨0,rfl,Nat.zero_le _,rfl⟩ ?_
 rintro⟨i0,⟨⟩⟩ G ⟨i,e,hi,hf⟩ hG
 simp only at e hf hG⊢
 subst e
 refine Br_of (fun h=> ?_) (fun h=> ?_)
 ·have h:i<l.length:=by have:=of_decide_eq_true h;omega
  rw[rd_i,wrap_i64 (by omega) (by omega)]
  unfold Pl.els at hf⊢
  rw[drop_cons 0 h,List.all_cons]at hf
  refine⟨by omega,by omega,h0,Br_of (fun h1=> ?_) (fun h1=> ?_)⟩
  ·have h1:(decide (0≤l.getD i 0)&&decide (l.getD i 0<q))=false:=by
    cases hb:decide (0≤l.getD i 0)&&decide (l.getD i 0<q)with
    |false=>rfl
    |true=>rw[hb]at h1;cases h1
   rw[h1,Bool.false_and]at hf
   rw[←hf]
  ·have h1:(decide (0≤l.getD i 0)&&decide (l.getD i 0<q))=true:=by
    cases hb:decide (0≤l.getD i 0)&&decide (l.getD i 0<q)with
    |true=>rfl
    |false=>rw[hb]at h1;cases h1
   rw[h1,Bool.true_and]at hf
   exact hG _ ⟨i+1,rfl,by omega,hf⟩ (by simp only;omega)
 ·have h:i=l.length:=by have:=of_decide_eq_false h;omega
  subst h
  rw[List.drop_length]at hf
  rw[←hf];rfl
theorem snd25:Sound Try.prog 25 C25:=fn_sound (T:=TT []) (fn:=Try.f25) (tok0 trivial) Try.func25 (by kernel_rfl) H0 vc25 (by kernel_rfl)
theorem snd102:Sound Try.prog 102 C102:=fn_sound (T:=TT []) (fn:=Try.f102) (tok0 trivial) Try.func102 (by kernel_rfl) H0 vc102 (by kernel_rfl)
theorem snd47:Sound Try.prog 47 C47:=fn_sound (T:=T47) (fn:=Try.f47) (tok0 ⟨snd102,trivial⟩) Try.func47 (by kernel_rfl) H47 vc47 (by kernel_rfl)
end Fd
end
section
set_option linter.unusedVariables false
set_option linter.unusedSimpArgs false
set_option maxRecDepth 100000
namespace Fd
open Go Fw Go.Proofs

abbrev DLL:=D×List Int×List Int×Unit
def Pl.len9 (l:List Int):Prop:=l.length≤1000000000
end Fd
end
section
set_option linter.unusedVariables false
set_option linter.unusedSimpArgs false
set_option maxRecDepth 100000
namespace Fd
open Go Fw Go.Proofs

theorem nrcLL {p:DLL→Prop} {res:List Ar} {f:DLL→Ars res} (h: ∀x,p x→Pl.okF x.1) (hr: ∀x,p x→D.nrs (encs res (f x))):NRC ⟨[.raw,L,L],res,p,f,none⟩:=⟨fun x hx=>⟨okF_nr (h x hx),rfl,rfl,trivial⟩,hr⟩
end Fd
end
section
set_option linter.unusedVariables false
set_option linter.unusedSectionVars false
namespace La
open Lean.Grind
section
variable {K : Type} [Field K] [DecidableEq K]

def sum:Nat→(Nat→K)→K
 |0,_=>0
 |n+1,f=>sum n f+f n
theorem sum_congr {f g:Nat→K}: ∀ {n:Nat},(∀i,i<n→f i=g i)→sum n f=sum n g
 |0,_=>rfl
 |n+1,h=>by rw[sum,sum,sum_congr (fun i hi=>h i (by omega)),h n (by omega)]
theorem sum_zero {n:Nat} {f:Nat→K} (h: ∀i,i<n→f i=0):sum n f=0:=by
 induction n with
 |zero=>rfl
 |succ n ih=>rw[sum,ih (fun i hi=>h i (by omega)),h n (by omega)];grind
theorem sum_smul {f:Nat→K} (c:K): ∀ {n:Nat},sum n (fun i=>c*f i)=c*sum n f
 |0=>by simp only[sum];grind
 |n+1=>by simp only[sum];rw[sum_smul c];grind
theorem sum_add {f g:Nat→K}: ∀ {n:Nat},sum n (fun i=>f i+g i)=sum n f+sum n g
 |0=>by simp only[sum];grind
 |n+1=>by simp only[sum];rw[sum_add];grind
theorem sum_one {f:Nat→K} {k:Nat}: ∀ {n:Nat},k<n→(∀i,i<n→i≠k→f i=0)→sum n f=f k
 |0,h,_=>by omega
 |n+1,h,hz=>by
  rw[sum]
  by_cases e:k=n
  ·subst e;rw[sum_zero (fun i hi=>hz i (by omega) (by omega))];grind
  ·rw[sum_one (by omega) (fun i hi hk=>hz i (by omega) hk),hz n (by omega) (by omega)];grind
end
end La
end
section
set_option linter.unusedVariables false
set_option linter.unusedSimpArgs false
set_option linter.unusedSectionVars false
namespace Fd
open Lean.Grind

structure KQ {q : Int} (hq : isQ q) where
 v:Int
 ok:Pl.inQ q v
section
variable {q : Int} {hq : isQ q}
theorem KQ.ext {a b:KQ hq} (h:a.1=b.1):a=b:=by
 obtain⟨a,ha⟩:=a
 obtain⟨b,hb⟩:=b
 cases h;rfl
instance : DecidableEq (KQ hq) := fun a b => decidable_of_iff (a.1 = b.1) ⟨KQ.ext, fun e => by rw [e]⟩
theorem KQ.isIn (a:KQ hq):(fld q).In a.1:=(in_iff hq _).2 a.2
def KQ.zero (hq:isQ q):KQ hq:=⟨0,zero_inQ hq⟩
def KQ.one (hq:isQ q):KQ hq:=⟨1,one_inQ hq⟩
def KQ.add (a b:KQ hq):KQ hq:=⟨Pl.add q a.1 b.1,add_inQ hq _ _⟩
def KQ.mul (a b:KQ hq):KQ hq:=⟨Pl.mul q a.1 b.1,mul_inQ hq _ _⟩
def KQ.neg (a:KQ hq):KQ hq:=⟨(fld q).neg a.1,(in_iff hq _).1 (Fm.Fld.neg_in (fld_ok hq) _)⟩
def KQ.sub (a b:KQ hq):KQ hq:=⟨Pl.sub q a.1 b.1,sub_inQ hq _ _⟩
def KQ.nat (hq:isQ q):Nat→KQ hq
 |0=>KQ.zero hq
 |1=>KQ.one hq
 |n+2=>KQ.add (KQ.nat hq (n+1)) (KQ.one hq)
def KQ.nsm:Nat→KQ hq→KQ hq:=fun n a=>KQ.mul (KQ.nat hq n) a
def KQ.pow (a:KQ hq):Nat→KQ hq
 |0=>KQ.one hq
 |n+1=>KQ.mul (KQ.pow a n) a
def KQ.int (hq:isQ q):Int→KQ hq
 | .ofNat n=>KQ.nat hq n
 | .negSucc n=>KQ.neg (KQ.nat hq (n+1))
def KQ.zsm:Int→KQ hq→KQ hq
 | .ofNat n,a=>KQ.nsm n a
 | .negSucc n,a=>KQ.neg (KQ.nsm (n+1) a)
def KQ.inv (a:KQ hq):KQ hq:=⟨Pl.inv q a.1,inv_inQ hq _⟩
theorem KQ.neg_zero:KQ.neg (KQ.zero hq)=KQ.zero hq:=by
 have ok:=fld_ok hq
 apply KQ.ext
 show(fld q).neg 0=0
 have h:=Fm.Fld.add_neg ok 0
 rwa [Fm.Fld.zero_add ok (Fm.Fld.neg_in ok 0)]at h
theorem KQ.add_cancel {a b:KQ hq} (h:KQ.add a b=KQ.zero hq):KQ.neg a=b:=by
 have ok:=fld_ok hq
 have h:(fld q).add a.1 b.1=0:=congrArg KQ.v h
 apply KQ.ext
 show(fld q).neg a.1=b.1
 have e:(fld q).add ((fld q).neg a.1) ((fld q).add a.1 b.1)=b.1:=by
  rw[←Fm.Fld.add_assoc ok,Fm.Fld.add_comm ok ((fld q).neg a.1),Fm.Fld.add_neg ok,Fm.Fld.zero_add ok b.isIn]
 rw[h,Fm.Fld.add_zero ok (Fm.Fld.neg_in ok _)]at e
 exact e
theorem KQ.neg_add' (a:KQ hq):KQ.add (KQ.neg a) a=KQ.zero hq:=KQ.ext (by
 show(fld q).add ((fld q).neg a.1) a.1=0
 rw[Fm.Fld.add_comm (fld_ok hq),Fm.Fld.add_neg (fld_ok hq)])
theorem KQ.neg_neg (a:KQ hq):KQ.neg (KQ.neg a)=a:=KQ.add_cancel (KQ.neg_add' a)
theorem KQ.mul_inv {a:KQ hq} (h:a≠KQ.zero hq):KQ.mul a (KQ.inv a)=KQ.one hq:=by
 have ok:=fld_ok hq
 have q2:=hq.1
 have h0:a.1≠0:=fun e=>h (KQ.ext e)
 apply KQ.ext
 show(fld q).mul a.1 ((fld q).pow a.1 (q-2).toNat)=1
 rw[Fm.Fld.mul_comm ok]
 show(fld q).pow a.1 ((q-2).toNat+1)=1
 rw[show(q-2).toNat+1=q.toNat-1 by omega,fermat hq a.2.1 a.2.2 h0]
theorem KQ.one_inv:KQ.inv (KQ.one hq)=KQ.one hq:=by
 have ok:=fld_ok hq
 apply KQ.ext
 show(fld q).pow 1 (q-2).toNat=1
 exact Fm.Fld.one_pow ok _
end
def KQ.inv0 {q:Int} {hq:isQ q} (a:KQ hq):KQ hq:=if a=KQ.zero hq then KQ.zero hq else KQ.inv a
instance {q : Int} {hq : isQ q} : Field (KQ hq) :=
  let _ : Add (KQ hq) := ⟨KQ.add⟩
  let _ : Mul (KQ hq) := ⟨KQ.mul⟩
  let _ : NatCast (KQ hq) := ⟨KQ.nat hq⟩
  let _ : (n : Nat) → OfNat (KQ hq) n := fun n => ⟨KQ.nat hq n⟩
  let _ : SMul Nat (KQ hq) := ⟨KQ.nsm⟩
  let _ : HPow (KQ hq) Nat (KQ hq) := ⟨KQ.pow⟩
  let _ : Neg (KQ hq) := ⟨KQ.neg⟩
  let _ : Sub (KQ hq) := ⟨KQ.sub⟩
  let _ : IntCast (KQ hq) := ⟨KQ.int hq⟩
  let _ : SMul Int (KQ hq) := ⟨KQ.zsm⟩
  let _ : Inv (KQ hq) := ⟨KQ.inv0⟩
  let _ : Div (KQ hq) := ⟨fun a b => KQ.mul a (KQ.inv0 b)⟩
  let _ : HPow (KQ hq) Int (KQ hq) := ⟨fun a n => match n with
    | .ofNat n => KQ.pow a n
    | .negSucc n => KQ.inv0 (KQ.pow a (n + 1))⟩
  have ok := fld_ok hq
  have z1 : KQ.zero hq ≠ KQ.one hq := fun e => absurd (congrArg KQ.v e) (by show (0 : Int) ≠ 1; omega)
  have i0 : KQ.inv0 (KQ.zero hq) = KQ.zero hq := if_pos rfl
  have i1 : KQ.inv0 (KQ.one hq) = KQ.one hq := by unfold KQ.inv0; rw [if_neg (fun e => z1 e.symm)]; exact KQ.one_inv
  have mi : ∀ {a : KQ hq}, a ≠ KQ.zero hq → KQ.mul a (KQ.inv0 a) = KQ.one hq := fun {a} h => by unfold KQ.inv0; rw [if_neg h]; exact KQ.mul_inv h
  have mc : ∀ a b : KQ hq, KQ.mul a b = KQ.mul b a := fun a b => KQ.ext (Fm.Fld.mul_comm ok _ _)
  have ma : ∀ a b c : KQ hq, KQ.mul (KQ.mul a b) c = KQ.mul a (KQ.mul b c) := fun a b c => KQ.ext (Fm.Fld.mul_assoc ok _ _ _)
  have m1 : ∀ a : KQ hq, KQ.mul a (KQ.one hq) = a := fun a => KQ.ext (Fm.Fld.mul_one ok a.isIn)
  have m0 : ∀ a : KQ hq, KQ.mul a (KQ.zero hq) = KQ.zero hq := fun a => KQ.ext (Fm.Fld.mul_zero ok _)
  -- the inverse of an inverse
  have ii : ∀ a : KQ hq, KQ.inv0 (KQ.inv0 a) = a := fun a => by
    by_cases h : a = KQ.zero hq
    · subst h; rw [i0, i0]
    · have hi : KQ.inv0 a ≠ KQ.zero hq := fun e => by
        have := mi h
        rw [e, m0] at this
        exact z1 this
      have h1 := mi hi
      have h2 := mi h
      calc KQ.inv0 (KQ.inv0 a) = KQ.mul (KQ.inv0 (KQ.inv0 a)) (KQ.mul a (KQ.inv0 a)) := by rw [h2, m1]
        _ = KQ.mul (KQ.mul (KQ.inv0 a) (KQ.inv0 (KQ.inv0 a))) a := by rw [mc a, ← ma, mc (KQ.inv0 (KQ.inv0 a))]
        _ = a := by rw [h1, mc, m1]
  let sr : Semiring (KQ hq) :=
    { add_zero := fun a => KQ.ext (Fm.Fld.add_zero ok a.isIn)
      add_comm := fun a b => KQ.ext (Fm.Fld.add_comm ok _ _)
      add_assoc := fun a b c => KQ.ext (Fm.Fld.add_assoc ok _ _ _)
      mul_assoc := ma
      mul_one := m1
      one_mul := fun a => KQ.ext (Fm.Fld.one_mul ok a.isIn)
      left_distrib := fun a b c => KQ.ext (Fm.Fld.mul_add ok _ _ _)
      right_distrib := fun a b c => KQ.ext (Fm.Fld.add_mul ok _ _ _)
      zero_mul := fun a => KQ.ext (Fm.Fld.zero_mul ok _)
      mul_zero := m0
      pow_zero := fun a => rfl
      pow_succ := fun a n => rfl
      ofNat_succ := fun n => match n with
        | 0 => KQ.ext (Fm.Fld.zero_add ok (Fm.Fld.in1 ok)).symm
        | n + 1 => rfl
      ofNat_eq_natCast := fun n => rfl
      nsmul_eq_natCast_mul := fun n a => rfl }
  let rg : Ring (KQ hq) :=
    { sr with
      neg_add_cancel := KQ.neg_add'
      sub_eq_add_neg := fun a b => KQ.ext (Fm.Fld.sub_eq ok _ _)
      neg_zsmul := fun i a => match i with
        | .ofNat 0 => by
          show KQ.mul (KQ.zero hq) a = KQ.neg (KQ.mul (KQ.zero hq) a)
          rw [mc, m0, KQ.neg_zero]
        | .ofNat (n + 1) => rfl
        | .negSucc n => (KQ.neg_neg _).symm
      zsmul_natCast_eq_nsmul := fun n a => rfl
      intCast_ofNat := fun n => rfl
      intCast_neg := fun i => match i with
        | .ofNat 0 => KQ.neg_zero.symm
        | .ofNat (n + 1) => rfl
        | .negSucc n => (KQ.neg_neg _).symm }
  let cr : CommRing (KQ hq) := { rg with mul_comm := mc }
  { cr with
    div_eq_mul_inv := fun a b => rfl
    zero_ne_one := z1
    inv_zero := i0
    mul_inv_cancel := fun h => mi h
    zpow_zero := fun a => rfl
    zpow_succ := fun a n => rfl
    zpow_neg := fun a n => match n with
      | .ofNat 0 => i1.symm
      | .ofNat (n + 1) => rfl
      | .negSucc n => (ii _).symm }
section
variable {q : Int} {hq : isQ q}
theorem KQ.zero_iff {a:KQ hq}:a=0↔a.1=0:=⟨fun e=>by rw[e];rfl,fun e=>KQ.ext e⟩
theorem KQ.inv_val {a:KQ hq} (h:a≠0):(a⁻¹).1=Pl.inv q a.1:=by
 have e:KQ.inv0 a=KQ.inv a:=if_neg h
 exact congrArg KQ.v e
end
end Fd
end
section
set_option linter.unusedVariables false
set_option linter.unusedSimpArgs false
set_option linter.unusedSectionVars false
set_option maxRecDepth 100000
namespace Fd
open Go Fw Go.Proofs

theorem cv_meth {P:Program} {C:Con} (h: ∀x,C.pre x→ ∃(name:String) (rd:D) (ds:List D) (V:Con) (y:Ars V.args),SoundInv P name V∧encs C.args x= .bfn (.method name) [rd]::ds∧encs V.args y=rd::ds∧V.pre y∧C.fresh=none∧
  encs V.res (V.post y)=encs C.res (C.post x)):SoundCv P C:=by
 refine⟨⟨fun x hx=> ?_,fun x hx=> ?_⟩, ?_⟩
 ·obtain⟨name,rd,ds,V,y,hS,e1,e2,hy,hfr,e3⟩:=h x hx
  have hn:=hS.1.a y hy
  rw[e2]at hn
  rw[e1]
  exact⟨by simpa [D.nr,D.nrs]using hn.1,hn.2⟩
 ·obtain⟨name,rd,ds,V,y,hS,e1,e2,hy,hfr,e3⟩:=h x hx
  rw[←e3]
  exact hS.1.r y hy
 intro x hx w O r vs hO hl
 obtain⟨name,rd,ds,V,y,hS,e1,e2,hy,hfr,e3⟩:=h x hx
 have post: ∀e w',CPost V y w ⟨O,nn⟩ e w'→CPost C x w ⟨O,nn⟩ e w':=by
  rintro e w' ⟨v,he,hb,hv,_⟩
  refine⟨v,he,hb,fun ι=> ?_,fun e he=>by rw[hfr]at he;cases he⟩
  rw[←e3]
  exact hv ι
 rw[e1]at hl
 obtain⟨u,us,e4,hu,hus⟩:=hl
 injection e4 with e4 e5
 subst e4 e5
 obtain⟨cs,hcs1,hcs2⟩:=hu
 subst hcs1
 obtain⟨rv,rs,e6,hr,hrs⟩:=hcs2
 cases hrs
 obtain rfl:cs= #[rv]:=by cases cs;simp_all
 have hrun0:(do let d←Deferred.ofValue (.func (.method name) #[rv] #[]) vs.toArray;invoke d.target d.args:Sem Next).run P w=(callMethod rv name vs.toArray).run P w:=by
  simp[Deferred.ofValue,invoke]
 rcases hS.2 y hy w O rv vs hO (by rw[e2];exact⟨rv,vs,rfl,hr,hus⟩)with⟨f,args',hrun,hc⟩|⟨v,w',hrun,hp⟩
 ·exact .inl ⟨f,args',hrun0.trans hrun,hc.mono post⟩
 ·exact .inr ⟨v,w',hrun0.trans hrun,post _ _ hp⟩
def sumV (q : Int) : D := .bfn (.method "dauber/field.sum") [arD q]
def mulV (q : Int) : D := .bfn (.method "dauber/field.product") [arD q]
def Pl.opV (v:D) (a b:Int):Int:=match v with
 | .bfn (.method n) [d] => bif n == "dauber/field.sum" then Pl.add (Pl.qA d) a b else Pl.mul (Pl.qA d) a b
 |_=>0
def Cop:Con:=⟨[.raw,I,I],[I],fun(x:D×Int×Int×Unit)=> ∃q,isQ q∧(x.1=sumV q∨x.1=mulV q)∧Pl.inQ q x.2.1∧Pl.inQ q x.2.2.1,fun(x:D×Int×Int×Unit)=>(Pl.opV x.1 x.2.1 x.2.2.1,()),none⟩
def Pl.val (q:Int):List Int→Int→Int
 |[],_=>0
 |a::l,x=>Pl.add q (Pl.mul q (Pl.val q l x) x) a
abbrev A144:=List Int×Int×Int×D×D×Unit
def Pl.qV (v:D):Int:=match v with
 | .bfn _ [d]=>Pl.qA d
 |_=>0
def Pl.okV (x:A144):Prop:= ∃q,isQ q∧x.2.2.2.1=sumV q∧x.2.2.2.2.1=mulV q∧(∀y∈x.1,Pl.inQ q y)∧Pl.len9 x.1∧Pl.inQ q x.2.1∧x.2.2.1=0
def C144:Con:=⟨[L,I,I, .raw, .raw],[I],fun(x:A144)=>Pl.okV x,fun(x:A144)=>(Pl.val (Pl.qV x.2.2.2.1) x.1 x.2.1,()),none⟩
def H144:Hints:=lo [(0,⟨[0,1,3,4],[(11,si),(12,si)]⟩)]
def T144:Ctx:=TC [] Cop
def Pl.okPx (q:Int) (p:List Int) (x:Int):Prop:=(∀y∈p,Pl.inQ q y)∧Pl.len9 p∧Pl.inQ q x
def C113:Con:=⟨[.raw,L,I],[I],fun(x:D×List Int×Int×Unit)=>Pl.okF x.1∧Pl.okPx (Pl.qF x.1) x.2.1 x.2.2.1,fun(x:D×List Int×Int×Unit)=>(Pl.val (Pl.qF x.1) x.2.1 x.2.2.1,()),none⟩
def T113:Ctx:=TT [(144,C144)]
end Fd
end
section
set_option linter.unusedVariables false
set_option linter.unusedSimpArgs false
set_option linter.unusedSectionVars false
set_option maxRecDepth 100000
namespace Fd
open Go Fw Go.Proofs

theorem opV_sum {q:Int} (hq:isQ q) (a b:Int):Pl.opV (sumV q) a b=Pl.add q a b:=by
 show (bif ("dauber/field.sum" : String) == "dauber/field.sum" then Pl.add (Pl.qA (arD q)) a b else Pl.mul (Pl.qA (arD q)) a b) = _
 rw[qA_ar hq];rfl
theorem opV_mul {q:Int} (hq:isQ q) (a b:Int):Pl.opV (mulV q) a b=Pl.mul q a b:=by
 show (bif ("dauber/field.product" : String) == "dauber/field.sum" then Pl.add (Pl.qA (arD q)) a b else Pl.mul (Pl.qA (arD q)) a b) = _
 rw [qA_ar hq, show (("dauber/field.product" : String) == "dauber/field.sum") = false by decide]; rfl
theorem qV_sum {q:Int} (hq:isQ q):Pl.qV (sumV q)=q:=qA_ar hq
theorem sndCop:SoundCv Try.prog Cop:=cv_meth (by
 rintro⟨v,(a:Int),(b:Int),⟨⟩⟩ ⟨q,hq,hv,(ha:Pl.inQ q a),(hb:Pl.inQ q b)⟩
 rcases hv with rfl|rfl
 ·refine⟨_,arD q,_,VS,(arD q,a,b,()),sndVS,rfl,rfl,⟨okA_ar hq,by show Pl.inQ (Pl.qA (arD q)) a;rw[qA_ar hq];exact ha,by show Pl.inQ (Pl.qA (arD q)) b;rw[qA_ar hq];exact hb⟩,rfl, ?_⟩
  show encs [I] (Pl.add (Pl.qA (arD q)) a b,())=encs [I] (Pl.opV (sumV q) a b,())
  rw[opV_sum hq,qA_ar hq]
 ·refine⟨_,arD q,_,VP,(arD q,a,b,()),sndVP,rfl,rfl,⟨⟨q,hq, .inl rfl⟩,by show Pl.inQ (Pl.qA (arD q)) a;rw[qA_ar hq];exact ha,by show Pl.inQ (Pl.qA (arD q)) b;rw[qA_ar hq];exact hb⟩,rfl, ?_⟩
  show encs [I] (Pl.mul (Pl.qA (arD q)) a b,())=encs [I] (Pl.opV (mulV q) a b,())
  rw[opV_mul hq,qA_ar hq])
theorem val_in {q:Int} (hq:isQ q): ∀(l:List Int) (x:Int),Pl.inQ q (Pl.val q l x)
 |[],_=>zero_inQ hq
 |a::l,x=>add_inQ hq _ _
theorem vc144: ∀x,C144.pre x→VC T144 H144 Try.f144 C144 x:=by
 rintro⟨(l:List Int),(x:Int),(z:Int),v,u,⟨⟩⟩ ⟨q,hq,(rfl:v=_),(rfl:u=_),(hl: ∀y∈l,Pl.inQ q y),(hn:l.length≤1000000000),(hx:Pl.inQ q x),(rfl:z=0)⟩
 refine cast (α := ∃ (n : Nat), itl (fun (G : Int × Int × PUnit → Prop) (x_1 : Int × Int × PUnit) => Br (decide (x_1.2.1 ≥ (0 : Int))) ((∃ (q_1 : Int), ((2 : Int) ≤ q_1 ∧ q_1 ≤ (65536 : Int) ∧ (1 : Int) ≤ Pl.K q_1) ∧ (D.bfn (Fn.method "dauber/field.product") [arD q] = sumV q_1 ∨ D.bfn (Fn.method "dauber/field.product") [arD q] = mulV q_1) ∧ Pl.inQ q_1 x_1.1 ∧ Pl.inQ q_1 x) ∧ (0 : Int) ≤ x_1.2.1 ∧ x_1.2.1 < (↑l.length : Int) ∧ (∃ (q_1 : Int), ((2 : Int) ≤ q_1 ∧ q_1 ≤ (65536 : Int) ∧ (1 : Int) ≤ Pl.K q_1) ∧ (D.bfn (Fn.method "dauber/field.sum") [arD q] = sumV q_1 ∨ D.bfn (Fn.method "dauber/field.sum") [arD q] = mulV q_1) ∧ Pl.inQ q_1 (Pl.opV (D.bfn (Fn.method "dauber/field.product") [arD q]) x_1.1 x) ∧ Pl.inQ q_1 (rd i64 l x_1.2.1)) ∧ G (Pl.opV (D.bfn (Fn.method "dauber/field.sum") [arD q]) (Pl.opV (D.bfn (Fn.method "dauber/field.product") [arD q]) x_1.1 x) (rd i64 l x_1.2.1), IntKind.i64.wrap (x_1.2.1 - (1 : Int)), ())) ((x_1.1, ()) = C144.post (l, x, (0 : I.El), sumV q, mulV q, ()))) n ((0 : I.El), IntKind.i64.wrap ((↑l.length : Int) - (1 : Int)), ())) (by kernel_rfl) ?_
 have hp:C144.post (l,x,(0:Int),sumV q,mulV q,())=(Pl.val q l x,()):=by
  show(Pl.val (Pl.qV (sumV q)) l x,())=_
  rw[qV_sum hq]
 rw[hp]
 rw[wrap_i64 (by omega) (by omega)]
 refine itl_rule (fun s=> ∃i:Nat,s.2.1=(i:Int)-1∧i≤l.length∧s.1=Pl.val q (l.drop i) x) (fun s=>(s.2.1+1).toNat) ⟨l.length,rfl,Nat.le_refl _,by rw[List.drop_length];rfl⟩ ?_
 rintro⟨o,i0,⟨⟩⟩ G ⟨i,e,hi,ho⟩ hG
 simp only at e ho hG⊢
 subst e ho
 refine Br_of (fun h=> ?_) (fun h=> ?_)
 ·obtain⟨i,rfl⟩: ∃j,i=j+1:=⟨i-1,by have:=of_decide_eq_true h;omega⟩
  rw[show((i+1:Nat):Int)-1=(i:Int)by omega]at hG⊢
  rw[rd_i,wrap_i64 (by omega) (by omega)]
  have hd:=drop_cons 0 (show i<l.length by omega)
  have hv:=val_in hq (l.drop (i+1)) x
  have e1 : Pl.opV (D.bfn (Fn.method "dauber/field.product") [arD q]) (Pl.val q (l.drop (i + 1)) x) x = Pl.mul q (Pl.val q (l.drop (i + 1)) x) x := opV_mul hq _ _
  rw[e1]
  have e2 : ∀ a b, Pl.opV (D.bfn (Fn.method "dauber/field.sum") [arD q]) a b = Pl.add q a b := opV_sum hq
  rw[e2]
  exact⟨⟨q,hq, .inr rfl,hv,hx⟩,by omega,by omega,⟨q,hq, .inl rfl,mul_inQ hq _ _,getD_inQ hl (by omega)⟩,hG _ ⟨i,rfl,by omega,by rw[hd];rfl⟩ (by simp only;omega)⟩
 ·have h:i=0:=by have:=of_decide_eq_false h;omega
  subst h
  rfl
theorem snd144:Sound Try.prog 144 C144:=fn_sound (T:=T144) (fn:=Try.f144) (tokg (T:=T144) trivial trivial trivial noInv (fun C e=>by injection e with e;subst e;exact sndCop)) Try.func144 (by kernel_rfl) H144 vc144 (by kernel_rfl)
 (hC:=⟨fun x hx=>by
  obtain⟨q,hq,h1,h2,_⟩:=hx
  refine⟨rfl,trivial,trivial, ?_, ?_,trivial⟩
  ·show x.2.2.2.1.nr;rw[h1];exact(⟨okA_nr (okA_ar hq),trivial⟩:D.nrs [arD q])
  ·show x.2.2.2.2.1.nr;rw[h2];exact(⟨okA_nr (okA_ar hq),trivial⟩:D.nrs [arD q]),fun x hx=>⟨trivial,trivial⟩⟩)
theorem vc113: ∀x,C113.pre x→VC T113 H0 Try.f113 C113 x:=by
 rintro⟨v,(l:List Int),(x:Int),⟨⟩⟩ ⟨⟨q,hq,(rfl:v=_)⟩,hP⟩
 have hP:Pl.okPx (Pl.qF (fieldD q)) l x:=hP
 rw[qF_d]at hP
 refine cast (α := Pl.okV (l, x, (0 : Int), D.bfn (Fn.method "dauber/field.sum") [arD q], D.bfn (Fn.method "dauber/field.product") [arD q], ()) ∧ (Pl.val (Pl.qV (D.bfn (Fn.method "dauber/field.sum") [arD q])) l x, ()) = C113.post (fieldD q, l, x, ())) (by kernel_rfl) ?_
 have hp:C113.post (fieldD q,l,x,())=(Pl.val q l x,()):=rfl
 have e : Pl.qV (D.bfn (Fn.method "dauber/field.sum") [arD q]) = q := qV_sum hq
 rw[hp,e]
 exact⟨⟨q,hq,rfl,rfl,hP.1,hP.2.1,hP.2.2,rfl⟩,rfl⟩
theorem snd113:Sound Try.prog 113 C113:=fn_sound (T:=T113) (fn:=Try.f113) (tok0 ⟨snd144,trivial⟩) Try.func113 (by kernel_rfl) H0 vc113 (by kernel_rfl) (hC:=⟨fun x hx=>⟨okF_nr hx.1,rfl,trivial,trivial⟩,fun x hx=>⟨trivial,trivial⟩⟩)
end Fd
end
section
set_option linter.unusedVariables false
set_option linter.unusedSimpArgs false
set_option linter.unusedSectionVars false
set_option maxRecDepth 100000
namespace Fd
open Go Fw Go.Proofs

def C112:Con:=⟨[L],[L],fun(x:List Int×Unit)=>Pl.len9 x.1,fun(x:List Int×Unit)=>(Pl.trim x.1,()),none⟩
def H112:Hints:=lo [(0,⟨[],[(0,sl)]⟩)]
def Pl.top (b:List Int):Int:=b.getD (b.length-1) 0
def Pl.pol (q:Int) (p:List Int):Prop:=(∀x∈p,Pl.inQ q x)∧p.length≤1000000∧(0<p.length→Pl.top p≠0)
end Fd
end
section
set_option linter.unusedVariables false
set_option linter.unusedSimpArgs false
set_option linter.unusedSectionVars false
set_option maxRecDepth 100000
namespace Fd
open Go Fw Go.Proofs

theorem trimN_le (l:List Int): ∀n,Pl.trimN l n≤n
 |0=>Nat.le_refl _
 |n+1=>by
  rw[Pl.trimN]
  cases decide (l.getD n 0=0)with
  |true=>exact Nat.le_succ_of_le (trimN_le l n)
  |false=>exact Nat.le_refl _
theorem trimN_top (l:List Int): ∀n,0<Pl.trimN l n→l.getD (Pl.trimN l n-1) 0≠0
 |0,h=>by simp[Pl.trimN]at h
 |n+1,h=>by
  rw[Pl.trimN]at h⊢
  by_cases e:l.getD n 0=0
  ·rw[decide_eq_true e,cond_true]at h⊢
   exact trimN_top l n h
  ·rw[decide_eq_false e,cond_false];exact e
theorem trimN_zero (l:List Int): ∀n i,Pl.trimN l n≤i→i<n→l.getD i 0=0
 |0,i,_,h=>by omega
 |n+1,i,h,h2=>by
  rw[Pl.trimN]at h
  by_cases e:l.getD n 0=0
  ·rw[decide_eq_true e,cond_true]at h
   by_cases e2:i=n
   ·rw[e2];exact e
   ·exact trimN_zero l n i h (by omega)
  ·rw[decide_eq_false e,cond_false]at h;omega
theorem trim_len (l:List Int):(Pl.trim l).length=Pl.trimN l l.length:=by
 unfold Pl.trim
 rw[List.length_take,Nat.min_eq_left (trimN_le _ _)]
theorem trim_getD (l:List Int) {i:Nat} (h:i<(Pl.trim l).length):(Pl.trim l).getD i 0=l.getD i 0:=by
 have h2:=trim_len l
 unfold Pl.trim at h⊢
 rw[List.getD_eq_getElem?_getD,List.getElem?_take_of_lt (by unfold Pl.trim at h2;omega), ←List.getD_eq_getElem?_getD]
theorem trim_mem {l:List Int} {x:Int} (h:x∈Pl.trim l):x∈l:=List.mem_of_mem_take h
theorem trim_pol {q:Int} {l:List Int} (h: ∀x∈l,Pl.inQ q x) (hl:l.length≤1000000):Pl.pol q (Pl.trim l):=by
 have h2:=trim_len l
 have h3:=trimN_le l l.length
 refine⟨fun x hx=>h x (trim_mem hx),by omega,fun h0=> ?_⟩
 unfold Pl.top
 rw[trim_getD l (by omega),h2]
 exact trimN_top l _ (by omega)
theorem trim_pad (l:List Int):Pl.trim l++List.replicate (l.length-(Pl.trim l).length) 0=l:=by
 have h2:=trim_len l
 have h3:=trimN_le l l.length
 refine List.ext_getElem (by rw[List.length_append,List.length_replicate];omega) fun i i1 i2=> ?_
 have key:(Pl.trim l++List.replicate (l.length-(Pl.trim l).length) 0).getD i 0=l.getD i 0:=by
  rcases Nat.lt_or_ge i (Pl.trim l).length with h|h
  ·rw[List.getD_eq_getElem?_getD,List.getElem?_append_left h, ←List.getD_eq_getElem?_getD];exact trim_getD l h
  ·rw[trimN_zero l l.length i (by omega) i2,List.getD_eq_getElem?_getD,List.getElem?_append_right h,List.getElem?_replicate]
   split<;>rfl
 simpa [List.getD_eq_getElem?_getD,List.getElem?_eq_getElem i1,List.getElem?_eq_getElem i2]using key
section
variable {q : Int} (hq : isQ q)
include hq
theorem pad_in {r:List Int} (hr: ∀x∈r,Pl.inQ q x) (n:Nat): ∀x∈r++List.replicate n 0,Pl.inQ q x:=fun x hx=>by
 rcases List.mem_append.1 hx with h|h
 ·exact hr x h
 ·rw[(List.mem_replicate.1 h).2];exact zero_inQ hq
theorem pad_0 {r:List Int} {n i:Nat} (h:r.length≤i):(r++List.replicate n 0).getD i 0=0:=by
 rw[List.getD_eq_getElem?_getD,List.getElem?_append_right h,List.getElem?_replicate]
 split<;>rfl
end
end Fd
end
section
set_option linter.unusedVariables false
set_option linter.unusedSimpArgs false
set_option linter.unusedSectionVars false
set_option maxRecDepth 100000
namespace Fd
open Go Fw Go.Proofs

theorem sub_take {l:List Int} {n:Nat}:sub l (0:Int) (n:Int)=l.take n:=by
 unfold sub
 rw[Int.toNat_natCast];rfl
theorem trimN_cut {l:List Int} {i:Nat} (h:i≤l.length) (ht:Pl.trimN l l.length≤l.length-i) (hz:Pl.trimN l (l.length-i)=Pl.trimN l l.length):
  (0<l.length-i→l.getD (l.length-i-1) 0=0→Pl.trimN l (l.length-(i+1))=Pl.trimN l l.length∧Pl.trimN l l.length≤l.length-(i+1))∧
  ((l.length-i=0∨l.getD (l.length-i-1) 0≠0)→Pl.trimN l l.length=l.length-i):=by
 refine⟨fun h0 hz0=> ?_,fun h0=> ?_⟩
 ·obtain⟨n,hn⟩: ∃n,l.length-i=n+1:=⟨l.length-i-1,by omega⟩
  rw[hn]at hz hz0
  rw[Pl.trimN,decide_eq_true (by simpa using hz0),cond_true]at hz
  have e:l.length-(i+1)=n:=by omega
  rw[e]
  exact⟨hz,by rw[←hz];exact trimN_le l n⟩
 ·rcases h0 with h0|h0
  ·rw[h0]at ht⊢;omega
  ·by_cases h1:l.length-i=0
   ·rw[h1]at ht⊢;omega
   ·obtain⟨n,hn⟩: ∃n,l.length-i=n+1:=⟨l.length-i-1,by omega⟩
    rw[hn]at hz h0
    rw[Pl.trimN,decide_eq_false (by simpa using h0),cond_false]at hz
    rw[←hz,hn]
theorem vc112: ∀x,C112.pre x→VC (TT []) H112 Try.f112 C112 x:=by
 rintro⟨(l:List Int),⟨⟩⟩ (hl:l.length≤1000000000)
 refine cast (α:= ∃(n:Nat),itl (fun(G:List Int×PUnit→Prop) (x:List Int×PUnit)=>Br (decide ((↑(List.length x.1):Int)>(0:Int))) ((0:Int)≤IntKind.i64.wrap ((↑(List.length x.1):Int)-(1:Int))∧IntKind.i64.wrap ((↑(List.length x.1):Int)-(1:Int))<(↑(List.length x.1):Int)∧Br (rd i64 x.1 (IntKind.i64.wrap ((↑(List.length x.1):Int)-(1:Int)))==(0:Int)) ((0:Int)≤IntKind.i64.wrap ((↑(List.length x.1):Int)-(1:Int))∧IntKind.i64.wrap ((↑(List.length x.1):Int)-(1:Int))≤(↑(List.length x.1):Int)∧G (sub x.1 (0:Int) (IntKind.i64.wrap ((↑(List.length x.1):Int)-(1:Int))),())) (x=C112.post (l,()))) (x=C112.post (l,()))) n (l,())) (by kernel_rfl) ?_
 have hp:C112.post (l,())=(Pl.trim l,()):=rfl
 rw[hp]
 refine itl_rule (fun s=> ∃i:Nat,i≤l.length∧s.1=l.take (l.length-i)∧Pl.trimN l l.length≤l.length-i∧Pl.trimN l (l.length-i)=Pl.trimN l l.length) (fun s=>s.1.length)
  ⟨0,Nat.zero_le _,(List.take_length).symm,trimN_le _ _,rfl⟩ ?_
 rintro⟨p,⟨⟩⟩ G ⟨i,hi,e,h1,h2⟩ hG
 simp only at e hG⊢
 have hpl:p.length=l.length-i:=by rw[e,List.length_take];omega
 obtain⟨c1,c2⟩:=trimN_cut hi h1 h2
 rw[hpl]
 refine Br_of (fun h=> ?_) (fun h=> ?_)
 ·have h:0<l.length-i:=by have:=of_decide_eq_true h;omega
  rw[wrap_i64 (by omega) (by omega),show((l.length-i:Nat):Int)-1=((l.length-i-1:Nat):Int)by omega,rd_i]
  have hg:p.getD (l.length-i-1) 0=l.getD (l.length-i-1) 0:=by
   rw[e,List.getD_eq_getElem?_getD,List.getElem?_take_of_lt (by omega), ←List.getD_eq_getElem?_getD]
  rw[hg]
  refine⟨by omega,by omega,Br_of (fun h3=> ?_) (fun h3=> ?_)⟩
  ·obtain⟨d1,d2⟩:=c1 h (by simpa using h3)
   have hs:sub p (0:Int) ((l.length-i-1:Nat):Int)=l.take (l.length-(i+1)):=by rw[sub_take,e,List.take_take];congr 1;omega
   refine⟨by omega,by omega,hG _ ⟨i+1,by omega,hs,d2,d1⟩ ?_⟩
   simp only
   rw[hs,List.length_take];omega
  ·rw[e, ←c2 (.inr (by simpa using h3))];rfl
 ·have h:l.length-i=0:=by have:=of_decide_eq_false h;omega
  rw[e, ←c2 (.inl h)];rfl
theorem snd112:Sound Try.prog 112 C112:=fn_sound (T:=TT []) (fn:=Try.f112) (tok0 trivial) Try.func112 (by kernel_rfl) H112 vc112 (by kernel_rfl)
end Fd
end
section
set_option linter.unusedVariables false
set_option linter.unusedSimpArgs false
set_option maxRecDepth 100000
namespace Fd
open Go Fw Go.Proofs

def Pl.most (n:Int):Prop:=0≤n∧n≤1000
def C26:Con:=⟨[G4,L,I],[L],fun(x:R4×List Int×Int×Unit)=>Pl.okr x.1∧Pl.most x.2.2.1,fun(x:R4×List Int×Int×Unit)=>((x.2.1.take x.2.2.1.toNat).map (· %x.1.1),()),some 3⟩
def H26:Hints:=⟨[],[(1,[3])],[(0,⟨[1,2,3],[(7,so),(8,si)]⟩)],[],[]⟩
def T26:Ctx:=TT [(29,C29)]
end Fd
end
section
set_option linter.unusedVariables false
set_option linter.unusedSimpArgs false
set_option maxRecDepth 100000
namespace Fd
open Go Fw Go.Proofs

theorem map_snoc {l:List Int} (f:Int→Int) {i k:Nat} (hi:i<l.length) (hk:i<k):((l.take k).take i).map f++[f (l.getD i 0)]=((l.take k).take (i+1)).map f:=by
 have hi':i<(l.take k).length:=by rw[List.length_take];omega
 rw[List.take_succ_eq_append_getElem hi',List.map_append,List.getElem_take,List.getD_eq_getElem?_getD,List.getElem?_eq_getElem hi];rfl
theorem vc26: ∀x,C26.pre x→VC T26 H26 Try.f26 C26 x:=by
 rintro⟨⟨(q:Int),(p:Int),(k:Int),(m0:Int),⟨⟩⟩,(l:List Int),(n:Int),⟨⟩⟩ ⟨(h0:Pl.okr _),(n0:0≤n),(n1:n≤1000)⟩
 obtain⟨hq,_,_,_⟩:=okr_open h0
 refine cast (α:= ∃(n_1:Nat),itl (fun(G:List Int×Int×PUnit→Prop) (x:List Int×Int×PUnit)=>Br (decide (x.2.1<(↑l.length:Int))) (Br (decide (x.2.1<n)) ((0:Int)≤x.2.1∧x.2.1<(↑l.length:Int)∧Pl.okr (q,p,k,m0,())∧((↑(List.length x.1):Int)+(↑[rd i64 l x.2.1%q].length:Int))*(8:Int)≤(140737488355328:Int)∧G (List.append x.1 [rd i64 l x.2.1%q],IntKind.i64.wrap (x.2.1+(1:Int)),())) ((x.1,())=C26.post ((q,p,k,m0,()),l,n,()))) ((x.1,())=C26.post ((q,p,k,m0,()),l,n,()))) n_1 ([],(0:Int),())) (by kernel_rfl) ?_
 obtain⟨u,rfl⟩: ∃u:Nat,n=u:=⟨n.toNat,by omega⟩
 have hp:C26.post ((q,p,k,m0,()),l,(u:Int),())=((l.take u).map (· %q),()):=rfl
 rw[hp]
 refine itl_rule (fun s=> ∃i:Nat,s.2.1=(i:Int)∧i≤l.length∧i≤u∧s.1=((l.take u).take i).map (· %q)) (fun s=>((u:Int)-s.2.1).toNat) ⟨0,rfl,Nat.zero_le _,Nat.zero_le _,rfl⟩ ?_
 rintro⟨out,i0,⟨⟩⟩ G ⟨i,e,hi,hu,ho⟩ hG
 simp only at e ho hG⊢
 subst e ho
 refine Br_of (fun h=>Br_of (fun h1=> ?_) (fun h1=> ?_)) (fun h=> ?_)
 ·have h:i<l.length:=by have:=of_decide_eq_true h;omega
  have h1:i<u:=by have:=of_decide_eq_true h1;omega
  rw[rd_i,wrap_i64 (by omega) (by omega)]
  exact⟨by omega,by omega,h0,by simp only[List.length_singleton,List.length_map,List.length_take];omega,hG _ ⟨i+1,rfl,by omega,by omega,map_snoc (· %q) h h1⟩ (by simp only;omega)⟩
 ·have h1:i=u:=by have:=of_decide_eq_false h1;omega
  subst h1
  rw[List.take_take,Nat.min_self]
 ·have h:i=l.length:=by have:=of_decide_eq_false h;omega
  subst h
  rw[List.take_take,Nat.min_eq_left hu,List.take_length,List.take_of_length_le hu]
theorem snd26:Sound Try.prog 26 C26:=fn_sound (T:=T26) (fn:=Try.f26) (tok0 ⟨snd29,trivial⟩) Try.func26 (by kernel_rfl) H26 vc26 (by kernel_rfl)
end Fd
end
section
set_option linter.unusedVariables false
set_option linter.unusedSimpArgs false
set_option linter.unusedSectionVars false
set_option maxRecDepth 100000
namespace Fd
open Go Fw Go.Proofs

def Pl.plR (q c:Int) (r:List Int):Nat→List Int→List Int
 |0,o=>o
 |i+1,o=>(Pl.plR q c r i o).set i (Pl.add q ((Pl.plR q c r i o).getD i 0) (Pl.mul q c (r.getD i 0)))
def Pl.pls (q:Int) (p:List Int) (c:Int) (r:List Int):List Int:=Pl.trim (Pl.plR q c r r.length (p++List.replicate (max p.length r.length-p.length) 0))
abbrev DLIL:=D×List Int×Int×List Int×Unit
def C118:Con:=⟨[.raw,L,I,L],[L],fun(x:DLIL)=>Pl.okF x.1∧Pl.okPr (Pl.qF x.1) x.2.1 x.2.2.2.1∧Pl.inQ (Pl.qF x.1) x.2.2.1,fun(x:DLIL)=>(Pl.pls (Pl.qF x.1) x.2.1 x.2.2.1 x.2.2.2.1,()),none⟩
def H118:Hints:=⟨[],[(8,[1000009])],[(0,⟨[0,2,21,22],[(9,so),(23,si)]⟩)],[],[]⟩
def T118:Ctx:=TF [(143,C143)]
def C110:Con:=⟨[G4,L,I],[L],fun(x:R4×List Int×Int×Unit)=>Pl.okr x.1∧(∀y∈x.2.1,Pl.inQ x.1.1 y)∧x.2.1.length≤1000000∧Pl.inQ x.1.1 x.2.2.1,fun(x:R4×List Int×Int×Unit)=>(Pl.trim (x.2.1.map fun a=>Pl.mul x.1.1 a x.2.2.1),()),none⟩
def H110:Hints:=⟨[],[(1,[3]),(6,[1000007])],[(0,⟨[1,2,3],[(7,so),(8,si)]⟩)],[],[]⟩
def T110:Ctx:=TT [(35,C35),(112,C112)]
end Fd
end
section
set_option linter.unusedVariables false
set_option linter.unusedSimpArgs false
set_option linter.unusedSectionVars false
set_option maxRecDepth 100000
namespace Fd
open Go Fw Go.Proofs

theorem plR_ok {q:Int} (hq:isQ q) {c:Int} {r:List Int}: ∀(i:Nat) {o:List Int},(∀x∈o,Pl.inQ q x)→(Pl.plR q c r i o).length=o.length∧ ∀x∈Pl.plR q c r i o,Pl.inQ q x
 |0,o,h=>⟨rfl,h⟩
 |i+1,o,h=>by
  obtain⟨h1,h2⟩:=plR_ok hq (c:=c) (r:=r) i h
  rw[Pl.plR]
  refine⟨by rw[List.length_set,h1],fun x hx=> ?_⟩
  rcases List.mem_or_eq_of_mem_set hx with hx|rfl
  ·exact h2 x hx
  ·exact add_inQ hq _ _
theorem pls_in {q:Int} (hq:isQ q) {p r:List Int} (hp: ∀x∈p,Pl.inQ q x) (n:Nat): ∀x∈p++List.replicate n 0,Pl.inQ q x:=pad_in hq hp n
theorem vc118: ∀x,C118.pre x→VC T118 H118 Try.f118 C118 x:=by
 rintro⟨v,(p:List Int),(c:Int),(r:List Int),⟨⟩⟩ ⟨⟨q,hq,(rfl:v=_)⟩,hP,hc⟩
 have hP:Pl.okPr (Pl.qF (fieldD q)) p r:=hP
 have hc:Pl.inQ (Pl.qF (fieldD q)) c:=hc
 rw[qF_d]at hP hc
 obtain⟨hp,hr,lp,lr⟩:=hP
 refine cast (α:=((0:Int)≤if(↑r.length:Int)>(↑p.length:Int)then(↑r.length:Int)else(↑p.length:Int))∧((if(↑r.length:Int)>(↑p.length:Int)then(↑r.length:Int)else(↑p.length:Int))=if(↑r.length:Int)>(↑p.length:Int)then(↑r.length:Int)else(↑p.length:Int))∧(if(↑r.length:Int)>(↑p.length:Int)then(↑r.length:Int)else(↑p.length:Int))*(8:Int)≤(140737488355328:Int)∧ ∃(n:Nat),itl (fun(G:List Int×Int×PUnit→Prop) (x:List Int×Int×PUnit)=>Br (decide (x.2.1<(↑r.length:Int))) ((0:Int)≤x.2.1∧x.2.1<(↑r.length:Int)∧(0:Int)≤x.2.1∧x.2.1<(↑(List.length x.1):Int)∧(0:Int)≤x.2.1∧x.2.1<(↑(List.length x.1):Int)∧(Pl.okM (arD q)∧Pl.inQ (Pl.qA (arD q)) c∧Pl.inQ (Pl.qA (arD q)) (rd i64 r x.2.1))∧(Pl.okA (arD q)∧Pl.inQ (Pl.qA (arD q)) (rd i64 x.1 x.2.1)∧Pl.inQ (Pl.qA (arD q)) (Pl.mul (Pl.qA (arD q)) c (rd i64 r x.2.1)))∧(0:Int)≤x.2.1∧x.2.1<(↑(List.length x.1):Int)∧(0:Int)≤x.2.1∧x.2.1<(↑(List.length x.1):Int)∧G (List.set x.1 (Int.toNat x.2.1) (Pl.add (Pl.qA (arD q)) (rd i64 x.1 x.2.1) (Pl.mul (Pl.qA (arD q)) c (rd i64 r x.2.1))),IntKind.i64.wrap (x.2.1+(1:Int)),())) (x.1.length≤(1000000000:Nat)∧(Pl.trim x.1,())=C118.post (fieldD q,p,c,r,()))) n ((List.take (List.replicate (if(↑r.length:Int)>(↑p.length:Int)then(↑r.length:Int)else(↑p.length:Int)).toNat (0:Int)).length p).append (List.drop p.length (List.replicate (if(↑r.length:Int)>(↑p.length:Int)then(↑r.length:Int)else(↑p.length:Int)).toNat (0:Int))),(0:Int),())) (by kernel_rfl) ?_
 have hpo:C118.post (fieldD q,p,c,r,())=(Pl.pls q p c r,()):=rfl
 rw[hpo,qA_ar hq]
 have oA:=okA_ar hq
 have oM:Pl.okM (arD q):=⟨q,hq, .inl rfl⟩
 have e1:(if(r.length:Int)>(p.length:Int)then(r.length:Int)else(p.length:Int))=((max p.length r.length:Nat):Int):=by split<;>omega
 rw[e1,Int.toNat_natCast]
 have e2:(List.take (List.replicate (max p.length r.length) (0:Int)).length p).append (List.drop p.length (List.replicate (max p.length r.length) (0:Int)))=p++List.replicate (max p.length r.length-p.length) 0:=by
  rw[List.length_replicate,List.take_of_length_le (by omega),List.drop_replicate];rfl
 rw[e2]
 have hin:=pls_in hq (r:=r) hp (max p.length r.length-p.length)
 have hlen:(p++List.replicate (max p.length r.length-p.length) (0:Int)).length=max p.length r.length:=by rw[List.length_append,List.length_replicate];omega
 have hpls:Pl.pls q p c r=Pl.trim (Pl.plR q c r r.length (p++List.replicate (max p.length r.length-p.length) 0)):=rfl
 rw[hpls]
 generalize p++List.replicate (max p.length r.length-p.length) (0:Int)=o at*
 refine⟨by omega,rfl,by omega, ?_⟩
 refine itl_rule (fun s=> ∃i:Nat,s=(Pl.plR q c r i o,(i:Int),())∧i≤r.length) (fun s=>((r.length:Int)-s.2.1).toNat) ⟨0,rfl,Nat.zero_le _⟩ ?_
 rintro x G ⟨i,rfl,hi⟩ hG
 simp only at hG⊢
 obtain⟨d1,d2⟩:=plR_ok hq (c:=c) (r:=r) i hin
 rw[d1]
 refine Br_of (fun h=> ?_) (fun h=> ?_)
 ·have h:i<r.length:=by have:=of_decide_eq_true h;omega
  rw[rd_i,rd_i,Int.toNat_natCast,wrap_i64 (by omega) (by omega)]
  exact⟨by omega,by omega,by omega,by omega,by omega,by omega,⟨oM,hc,getD_inQ hr h⟩,⟨oA,getD_inQ d2 (by omega),mul_inQ hq _ _⟩,by omega,by omega,by omega,by omega,hG _ ⟨i+1,rfl,h⟩ (by simp only;omega)⟩
 ·have h:i=r.length:=by have:=of_decide_eq_false h;omega
  subst h
  exact⟨by omega,rfl⟩
theorem snd118:Sound Try.prog 118 C118:=fn_sound (T:=T118) (fn:=Try.f118) (tokF ⟨snd143,trivial⟩) Try.func118 (by kernel_rfl) H118 vc118 (by kernel_rfl) (hC:=⟨fun x hx=>⟨okF_nr hx.1,rfl,trivial,rfl,trivial⟩,fun x hx=>⟨rfl,trivial⟩⟩)
theorem vc110: ∀x,C110.pre x→VC T110 H110 Try.f110 C110 x:=by
 rintro⟨⟨(q:Int),(p0:Int),(k:Int),(m0:Int),⟨⟩⟩,(p:List Int),(c:Int),⟨⟩⟩ ⟨(h0:Pl.okr _),(hp: ∀y∈p,Pl.inQ q y),(lp:p.length≤1000000),(hc:Pl.inQ q c)⟩
 obtain⟨hq,_,_,_⟩:=okr_open h0
 refine cast (α:= ∃(n:Nat),itl (fun(G:List Int×Int×PUnit→Prop) (x:List Int×Int×PUnit)=>Br (decide (x.2.1<(↑p.length:Int))) ((0:Int)≤x.2.1∧x.2.1<(↑p.length:Int)∧(Pl.okr (q,p0,k,m0,())∧Pl.inQ q (rd i64 p x.2.1)∧Pl.inQ q c)∧((↑(List.length x.1):Int)+(↑[Pl.mul q (rd i64 p x.2.1) c].length:Int))*(8:Int)≤(140737488355328:Int)∧G (List.append x.1 [Pl.mul q (rd i64 p x.2.1) c],IntKind.i64.wrap (x.2.1+(1:Int)),())) (Pl.len9 x.1∧(Pl.trim x.1,())=C110.post ((q,p0,k,m0,()),p,c,()))) n ([],(0:Int),())) (by kernel_rfl) ?_
 have hpo:C110.post ((q,p0,k,m0,()),p,c,())=(Pl.trim (p.map fun a=>Pl.mul q a c),()):=rfl
 rw[hpo]
 refine itl_rule (fun s=> ∃i:Nat,s.2.1=(i:Int)∧i≤p.length∧s.1=(p.take i).map fun a=>Pl.mul q a c) (fun s=>((p.length:Int)-s.2.1).toNat) ⟨0,rfl,Nat.zero_le _,rfl⟩ ?_
 rintro⟨o,i0,⟨⟩⟩ G ⟨i,e,hi,ho⟩ hG
 simp only at e ho hG⊢
 subst e ho
 refine Br_of (fun h=> ?_) (fun h=> ?_)
 ·have h:i<p.length:=by have:=of_decide_eq_true h;omega
  rw[rd_i,wrap_i64 (by omega) (by omega)]
  refine⟨by omega,by omega,⟨h0,getD_inQ hp h,hc⟩,by simp only[List.length_map,List.length_take,List.length_singleton];omega,hG _ ⟨i+1,rfl,h, ?_⟩ (by simp only;omega)⟩
  rw[List.take_succ_eq_append_getElem h,List.map_append,List.getD_eq_getElem?_getD,List.getElem?_eq_getElem h];rfl
 ·have h:i=p.length:=by have:=of_decide_eq_false h;omega
  subst h
  rw[List.take_length]
  exact⟨by unfold Pl.len9;rw[List.length_map];omega,rfl⟩
theorem snd110:Sound Try.prog 110 C110:=fn_sound (T:=T110) (fn:=Try.f110) (tok0 ⟨snd35,snd112,trivial⟩) Try.func110 (by kernel_rfl) H110 vc110 (by kernel_rfl)
end Fd
end
section
set_option linter.unusedVariables false
set_option linter.unusedSimpArgs false
set_option linter.unusedSectionVars false
set_option maxRecDepth 100000
namespace Fd
open Go Fw Go.Proofs

theorem prow_len {q:Int} {a b:List Int} (i:Nat): ∀(k:Nat) (out:List Int),(Pl.prow q a b i k out).length=out.length
 |0,_=>rfl
 |k+1,out=>by rw[Pl.prow,Pl.pst,List.length_set];exact prow_len i k out
theorem same_self (a:List Int):Pl.same a a=true:=decide_eq_true rfl
end Fd
end
section
set_option linter.unusedVariables false
set_option linter.unusedSimpArgs false
set_option linter.unusedSectionVars false
set_option maxRecDepth 100000
namespace Fd
open Go Fw Go.Proofs Go.RowKit Go.Maps

theorem zero4 (w:World):(zeroValue 4).run Try.prog w= .ok (.bool false) w:=by kernel_rfl
theorem keys3:Keyed Try.prog 3:=int_keyed Try.underlying3
noncomputable abbrev PE:Value→Option (DataW Unit×List MemPlace):=plainElem Try.prog 4
def SetOf (D:DataW Unit) (l:List Int):Prop:= ∀x:Int,D.atKey (.int .i64 x) (.lit (.bool false))= .lit (.bool (decide (x∈l)))
theorem SetOf.nil:SetOf (.map []) []:=fun x=>by simp[DataW.atKey]
theorem SetOf.put {D:DataW Unit} {l:List Int} (h:SetOf D l) (hD:IsMap D) (y:Int):SetOf (D.put (.int .i64 y) (.lit (.bool true))) (l++[y]):=fun x=>by
 by_cases e:x=y
 ·subst e
  rw[atKey_put_same hD (by trivial)]
  simp
 ·rw[atKey_put_other (by intro e2;cases e2;exact e rfl),h x]
  simp[e]
theorem wpList_lookup_own_bool {ops:Array Oper} {rest:List Oper} {o:Oper} {a:Act} {Q:Exit→Act→World→Prop} (w:World)
  (hg:o.guard=none) (m x:Operand) (t:TypeId) (hop:o.op=Op.lookup t m x false)
  (ht:Try.prog.underlying t=some (.map 3 4)) (b n:Nat) (D:DataW Unit)
  (hm:a.eval m= .map (some b)) (hown:w.ownsMap Try.prog 3 PE b n D) (y:Int) (l:List Int) (hS:SetOf D l) (hx:a.eval x= .int .i64 y) (hw:(Lit.int .i64 y).wf=true)
  (hK:wpList Try.prog ops Q rest (a.put o.dst (.bool (decide (y∈l)))) w):
  wpList Try.prog ops Q (o::rest) a w:=by
 refine wpList_plain hg fun K' hK'=> ?_
 obtain⟨v,ps,hrun,hv⟩:=hown.lookup keys3 ht (zero4 w) (plainElem_bool Try.underlying4 false) (keyOf_int_mk Try.underlying3 hw)
 rw[hS y]at hv
 have e:v= .bool (decide (y∈l)):=by
  unfold PE plainElem at hv
  rw[Try.underlying4]at hv
  cases v<;>simp at hv
  rw[hv.1]
 subst e
 unfold Oper.wp
 simp[execOp,hop,hm,hx,hrun,Result.andThen]
 exact hK' _ _ hK
noncomputable def Sd (zs:List Int) (k:Nat):DataW Unit:=setOf (.lit (.bool true)) ((zs.take k).map (Lit.int .i64))
theorem Sd_succ {zs:List Int} {k:Nat} (h:k<zs.length):Sd zs (k+1)=(Sd zs k).put (.int .i64 zs[k]) (.lit (.bool true)):=by
 unfold Sd
 rw[List.take_succ_eq_append_getElem h,List.map_append,List.map_singleton,setOf_snoc]
theorem diff_none (a:Option Addr) (cap:Nat) (w:World):Calls Try.prog 108 #[.slice a 0 cap] w fun e w'=>e= .returned (.bool true)∧Below w.heap.size w w':=by
 have hmm:= @run_makeMap Try.prog
 go_enter Try.func108,Try.ntmps108
 go_wp2
 refine wp_loop_rounds 1 ?_
 rw[rounds_succ]
 go_wp2
 go_ret
 exact⟨rfl,(Below.refl _ _).alloc (Nat.le_refl _) _⟩
set_option maxHeartbeats 800000 in
theorem diff_any (b off cap:Nat) (zs:List Int) (w:World) (hreach:zs.length≤1000000) (hb:b<w.heap.size)
  (hc: ∀j,j<zs.length→w.cell? ⟨b,off+j,none⟩=some (.int .i64 (zs.getD j 0))) (hwz: ∀n∈zs,(Lit.int .i64 n).wf=true):
  Calls Try.prog 108 #[.slice (some ⟨b,off,none⟩) zs.length cap] w fun e w'=>e= .returned (.bool (decide zs.Nodup))∧Below w.heap.size w w':=by
 have hmm:= @run_makeMap Try.prog
 go_enter Try.func108,Try.ntmps108
 go_wp2
 go_loopw [9] (fun i wr=> ∃k:Nat,k≤zs.length∧i= .int .i64 k∧wr.ownsMap Try.prog 3 PE w.heap.size k (Sd zs k)∧SetOf (Sd zs k) (zs.take k)∧(zs.take k).Nodup∧
   Below w.heap.size w wr)
  (fun i _=>zs.length-(intOf i).toNat)
 case atStart=>exact⟨0,Nat.zero_le _,rfl,World.ownsMap_made _ _ _ _,SetOf.nil,List.Pairwise.nil,(Below.refl _ _).alloc (Nat.le_refl _) _⟩
 case round=>
  obtain⟨k,hk,rfl,hown,hS,hnd,hnx⟩:=hrel
  have hcx:k<zs.length→wr.cell? ⟨b,off+k,none⟩=some (.int .i64 (zs.getD k 0)):=fun h=>(hnx.cell (by exact hb)).trans (hc k h)
  have hwk:(Lit.int .i64 (zs.getD k 0)).wf=true:=by
   rcases Nat.lt_or_ge k zs.length with h|h
   ·rw[List.getD_eq_getElem?_getD,List.getElem?_eq_getElem h];exact hwz _ (List.getElem_mem h)
   ·rw[List.getD_eq_getElem?_getD,List.getElem?_eq_none h];decide
  have hkey:keyOf Try.prog 3 (.int .i64 (zs.getD k 0))=some (.int .i64 (zs.getD k 0)):=keyOf_int_mk Try.underlying3 hwk
  go_wp2_with (first
   |(at_lookup;refine wpList_lookup_own_bool _ rfl _ _ 145 rfl Try.underlying145 w.heap.size k (Sd zs k) rfl hown _ _ hS rfl (hwz _ (List.getElem_mem _)) ?_)
   |(at_mapUpdate;refine wpList_mapUpdate_own _ rfl _ _ _ 145 rfl 3 4 keys3 Try.underlying145 PE w.heap.size k (Sd zs k) rfl hown (by unfold maxLen;omega) _ _ _ rfl rfl (keyOf_int_mk Try.underlying3 (hwz _ (List.getElem_mem _))) (.lit (.bool true)) [] (plainElem_bool Try.underlying4 true) ?_;intro w1 hown1 hgrow1)
   |go_in)
  ·have hlt:k<zs.length:=by assumption
   have hm:zs[k]∈zs.take k:=by assumption
   have: ¬zs.Nodup:=fun h=>by
    obtain⟨j,hj,e⟩:=List.getElem_of_mem hm
    rw[List.length_take]at hj
    rw[List.getElem_take]at e
    have:=(List.getElem_inj h).1 e
    omega
   go_ret
   exact⟨by simp[this],hnx⟩
  ·have hlt:k<zs.length:=by assumption
   have hm: ¬zs[k]∈zs.take k:=by assumption
   have e1:zs.take (k+1)=zs.take k++[zs[k]]:=by rw[List.take_succ_eq_append_getElem hlt]
   go_roundw
   case rel=>
    refine⟨k+1,by omega,by go_num,by rw[Sd_succ hlt];exact hown1, ?_, ?_,hnx.grown hgrow1 hnx.size (fun j hj=>by cases hj;exact Nat.le_refl _)⟩
    ·rw[e1,Sd_succ hlt];exact hS.put hown.isMap _
    ·rw[e1]
     exact List.nodup_append.2 ⟨hnd,List.pairwise_singleton _ _,fun x hx y hy e=>by rw[List.mem_singleton.1 hy]at e;rw[e]at hx;exact hm hx⟩
   case measure=>simp[intOf];omega
  ·have:k=zs.length:=by omega
   subst this
   rw[List.take_length]at hnd
   go_ret
   exact⟨by simp[hnd],hnx⟩
def C108:Con:=⟨[L],[B],fun(x:List Int×Unit)=>x.1.length≤1000000∧ ∀y∈x.1,0≤y∧y≤65536,fun(x:List Int×Unit)=>(decide x.1.Nodup,()),none⟩
theorem snd108:Sound Try.prog 108 C108:=by
 refine⟨nrc_ty (by rfl),fun x hx w O vs hO hl=> .inl ⟨run_callFunc Try.func108 (by kernel_rfl) (by kernel_rfl) vs, ?_⟩⟩
 obtain⟨l,⟨⟩⟩:=x
 obtain⟨h1,h2⟩:=hx
 obtain⟨v,us,e,⟨hs,_⟩,hu⟩:=hl
 obtain rfl:us=[]:=hu
 obtain⟨a,c,rfl,hc,hd⟩:=hs
 obtain rfl:vs= #[.slice a l.length c]:=by cases vs;simp_all
 have fin: ∀ {e:Ending} {w':World},e= .returned (.bool (decide l.Nodup))∧Below w.heap.size w w'→CPost C108 (l,()) w ⟨O,nn⟩ e w':=by
  rintro e w' ⟨rfl,hb⟩
  exact⟨_,rfl,hb,fun ι=>by rfl,fun e h=>by cases h⟩
 rcases Nat.eq_zero_or_pos l.length with h0|h0
 ·rw[h0]
  refine(diff_none a c w).mono fun e w' h=>fin ?_
  rw[List.length_eq_zero_iff.1 h0]
  exact h
 ·obtain⟨ad,ea,hd2⟩:=hd h0
  subst ea
  obtain⟨b,off,sp⟩:=ad
  have hcell: ∀j,j<l.length→w.cell? ((⟨b,off,sp⟩:Addr).add j)=some (.int .i64 (l.getD j 0)):=fun j h=>by
   have:=(hd2 j h).2
   rw[List.getD_eq_getElem?_getD,List.getElem?_eq_getElem h]
   rw[show j*i64.size=j from Nat.mul_one j]at this
   exact this
  have hsp:sp=none∧b<w.heap.size:=by
   have h3:=hcell 0 h0
   unfold World.cell? at h3
   split at h3
   ·rename_i hb
    refine⟨?_,(Array.getElem?_eq_some_iff.1 hb).1⟩
    cases sp with
    |none=>rfl
    |some s=>simp[Addr.add]at h3
   ·cases h3
  obtain⟨rfl,hb⟩:=hsp
  refine(diff_any b off c l w h1 hb (fun j h=> ?_) ?_).mono fun e w' h=>fin h
  ·have h3:=hcell j h
   unfold Addr.add at h3
   by_cases e:j=0
   ·rw[if_pos e]at h3;rw[e]at h3⊢;exact h3
   ·rw[if_neg e]at h3;exact h3
  ·intro n hn
   obtain⟨n0,n1⟩:=h2 n hn
   show(decide (IntKind.i64.min≤n)&&decide (n≤IntKind.i64.max))=true
   have e1:IntKind.i64.min= -9223372036854775808:=by decide
   have e2:IntKind.i64.max=9223372036854775807:=by decide
   rw[e1,e2,decide_eq_true (by omega),decide_eq_true (by omega)];rfl
end Fd
end
section
set_option linter.unusedVariables false
set_option linter.unusedSimpArgs false
set_option maxRecDepth 100000
namespace Fd
open Go Fw Go.Proofs

def Pl.sml (q:Int) (a b:List Int):List Int:=Pl.trim ((List.range (max a.length b.length)).map fun i=>bif decide (i<b.length)then Pl.add q (a.getD i 0) (b.getD i 0)else a.getD i 0)
def C111:Con:=⟨[G4,L,L],[L],fun(x:R4×List Int×List Int×Unit)=>Pl.okr x.1∧Pl.okPr x.1.1 x.2.1 x.2.2.1,fun(x:R4×List Int×List Int×Unit)=>(Pl.sml x.1.1 x.2.1 x.2.2.1,()),none⟩
def T111:Ctx:=TT [(31,C31),(112,C112)]
def H111:Hints:=⟨[],[(1,[3]),(11,[1000007])],[(0,⟨[1,2,3],[(7,so),(8,si)]⟩)],[],[]⟩
end Fd
end
section
set_option linter.unusedVariables false
set_option linter.unusedSimpArgs false
set_option linter.unusedSectionVars false
set_option maxRecDepth 100000
namespace Fd
open Go Fw Go.Proofs

section
variable {q : Int} (hq : isQ q)
include hq
theorem pol_one:Pl.pol q [1]:=⟨fun x hx=>by rw[List.mem_singleton.1 hx];exact one_inQ hq,by decide,fun _=>by decide⟩
end
theorem sml_eq {q:Int} (a b:List Int):Pl.sml q a b=Pl.trim ((List.range (max a.length b.length)).map fun i=>bif decide (i<b.length)then Pl.add q (a.getD i 0) (b.getD i 0)else a.getD i 0):=rfl
theorem vc111: ∀x,C111.pre x→VC T111 H111 Try.f111 C111 x:=by
 rintro⟨⟨(q:Int),(p0:Int),(k:Int),(m0:Int),⟨⟩⟩,(p:List Int),(r:List Int),⟨⟩⟩ ⟨(h0:Pl.okr _),(hp: ∀y∈p,Pl.inQ q y),(hr: ∀y∈r,Pl.inQ q y),(lp:p.length≤1000000),(lr:r.length≤1000000)⟩
 obtain⟨hq,_,_,_⟩:=okr_open h0
 refine cast (α:= ∃(n:Nat),itl (fun(G:List Int×Int×PUnit→Prop) (x:List Int×Int×PUnit)=>Br (decide (x.2.1<(↑p.length:Int))) (Br (decide (x.2.1<(↑p.length:Int))) ((0:Int)≤x.2.1∧x.2.1<(↑p.length:Int)∧Br (decide (x.2.1<(↑r.length:Int))) ((0:Int)≤x.2.1∧x.2.1<(↑r.length:Int)∧(Pl.okr (q,p0,k,m0,())∧Pl.inQ q (rd i64 p x.2.1)∧Pl.inQ q (rd i64 r x.2.1))∧((↑(List.length x.1):Int)+(↑[Pl.add q (rd i64 p x.2.1) (rd i64 r x.2.1)].length:Int))*(8:Int)≤(140737488355328:Int)∧G (List.append x.1 [Pl.add q (rd i64 p x.2.1) (rd i64 r x.2.1)],IntKind.i64.wrap (x.2.1+(1:Int)),())) (((↑(List.length x.1):Int)+(↑[rd i64 p x.2.1].length:Int))*(8:Int)≤(140737488355328:Int)∧G (List.append x.1 [rd i64 p x.2.1],IntKind.i64.wrap (x.2.1+(1:Int)),()))) (Br (decide (x.2.1<(↑r.length:Int))) ((0:Int)≤x.2.1∧x.2.1<(↑r.length:Int)∧(Pl.okr (q,p0,k,m0,())∧Pl.inQ q (0:Int)∧Pl.inQ q (rd i64 r x.2.1))∧((↑(List.length x.1):Int)+(↑[Pl.add q (0:Int) (rd i64 r x.2.1)].length:Int))*(8:Int)≤(140737488355328:Int)∧G (List.append x.1 [Pl.add q (0:Int) (rd i64 r x.2.1)],IntKind.i64.wrap (x.2.1+(1:Int)),())) (((↑(List.length x.1):Int)+(↑[(0:Int)].length:Int))*(8:Int)≤(140737488355328:Int)∧G (List.append x.1 [(0:Int)],IntKind.i64.wrap (x.2.1+(1:Int)),())))) (Br (decide (x.2.1<(↑r.length:Int))) (Br (decide (x.2.1<(↑p.length:Int))) ((0:Int)≤x.2.1∧x.2.1<(↑p.length:Int)∧Br (decide (x.2.1<(↑r.length:Int))) ((0:Int)≤x.2.1∧x.2.1<(↑r.length:Int)∧(Pl.okr (q,p0,k,m0,())∧Pl.inQ q (rd i64 p x.2.1)∧Pl.inQ q (rd i64 r x.2.1))∧((↑(List.length x.1):Int)+(↑[Pl.add q (rd i64 p x.2.1) (rd i64 r x.2.1)].length:Int))*(8:Int)≤(140737488355328:Int)∧G (List.append x.1 [Pl.add q (rd i64 p x.2.1) (rd i64 r x.2.1)],IntKind.i64.wrap (x.2.1+(1:Int)),())) (((↑(List.length x.1):Int)+(↑[rd i64 p x.2.1].length:Int))*(8:Int)≤(140737488355328:Int)∧G (List.append x.1 [rd i64 p x.2.1],IntKind.i64.wrap (x.2.1+(1:Int)),()))) (Br (decide (x.2.1<(↑r.length:Int))) ((0:Int)≤x.2.1∧x.2.1<(↑r.length:Int)∧(Pl.okr (q,p0,k,m0,())∧Pl.inQ q (0:Int)∧Pl.inQ q (rd i64 r x.2.1))∧((↑(List.length x.1):Int)+(↑[Pl.add q (0:Int) (rd i64 r x.2.1)].length:Int))*(8:Int)≤(140737488355328:Int)∧G (List.append x.1 [Pl.add q (0:Int) (rd i64 r x.2.1)],IntKind.i64.wrap (x.2.1+(1:Int)),())) (((↑(List.length x.1):Int)+(↑[(0:Int)].length:Int))*(8:Int)≤(140737488355328:Int)∧G (List.append x.1 [(0:Int)],IntKind.i64.wrap (x.2.1+(1:Int)),())))) (Pl.len9 x.1∧(Pl.trim x.1,())=C111.post ((q,p0,k,m0,()),p,r,())))) n ([],(0:Int),())) (by kernel_rfl) ?_
 have hpo:C111.post ((q,p0,k,m0,()),p,r,())=(Pl.sml q p r,()):=rfl
 rw[hpo,sml_eq]
 generalize hf:(fun i=>bif decide (i<r.length)then Pl.add q (p.getD i 0) (r.getD i 0)else p.getD i 0)=f
 refine itl_rule (fun s=> ∃i:Nat,s=((List.range i).map f,(i:Int),())∧i≤max p.length r.length) (fun s=>((max p.length r.length:Nat)-s.2.1:Int).toNat) ⟨0,rfl,Nat.zero_le _⟩ ?_
 rintro s G ⟨i,rfl,hi⟩ hG
 simp only at hG⊢
 have hlen:((List.range i).map f).length=i:=by rw[List.length_map,List.length_range]
 have step:i<max p.length r.length→ ∀v,v=f i→G (((List.range i).map f).append [v],IntKind.i64.wrap ((i:Int)+1),()):=fun h v hv=>by
  rw[wrap_i64 (by omega) (by omega)]
  refine hG _ ⟨i+1, ?_,h⟩ (by simp only;omega)
  rw[List.range_succ,List.map_append,hv];rfl
 have A: ∀X Y,(i<p.length→X)→(¬i<p.length→Y)→Br (decide ((i:Int)<(p.length:Int))) X Y:=fun X Y a b=>Br_of (fun h=>a (by have:=of_decide_eq_true h;omega)) (fun h=>b (by have:=of_decide_eq_false h;omega))
 have B: ∀X Y,(i<r.length→X)→(¬i<r.length→Y)→Br (decide ((i:Int)<(r.length:Int))) X Y:=fun X Y a b=>Br_of (fun h=>a (by have:=of_decide_eq_true h;omega)) (fun h=>b (by have:=of_decide_eq_false h;omega))
 have F1:i<r.length→f i=Pl.add q (p.getD i 0) (r.getD i 0):=fun h=>by rw[←hf];simp only;rw[decide_eq_true h,cond_true]
 have F0: ¬i<r.length→f i=p.getD i 0:=fun h=>by rw[←hf];simp only;rw[decide_eq_false h,cond_false]
 have P0: ¬i<p.length→p.getD i 0=0:=fun h=>by rw[List.getD_eq_getElem?_getD,List.getElem?_eq_none (by omega)];rfl
 rw[rd_i,rd_i,hlen]
 simp only[List.length_singleton]
 refine A _ _ (fun h=>A _ _ (fun _=>⟨by omega,by omega,B _ _ (fun h2=>⟨by omega,by omega,⟨h0,getD_inQ hp h,getD_inQ hr h2⟩,by omega,step (by omega) _ (F1 h2).symm⟩) (fun h2=>⟨by omega,step (by omega) _ (F0 h2).symm⟩)⟩) (fun h'=>absurd h h')) (fun h=>B _ _ (fun h2=>A _ _ (fun h'=>absurd h' h) (fun _=>B _ _ (fun _=>⟨by omega,by omega,⟨h0,zero_inQ hq,getD_inQ hr h2⟩,by omega,step (by omega) _ (by rw[F1 h2,P0 h])⟩) (fun h3=>absurd h2 h3))) (fun h2=> ?_))
 obtain rfl:i=max p.length r.length:=by omega
 exact⟨by unfold Pl.len9;omega,rfl⟩
theorem snd111:Sound Try.prog 111 C111:=fn_sound (T:=T111) (fn:=Try.f111) (tok0 ⟨snd31,snd112,trivial⟩) Try.func111 (by kernel_rfl) H111 vc111 (by kernel_rfl)
theorem pol_pls {q:Int} (hq:isQ q) {p r:List Int} {c:Int} (hp: ∀x∈p,Pl.inQ q x) (h1:p.length≤1000000) (h2:r.length≤1000000):Pl.pol q (Pl.pls q p c r):=by
 unfold Pl.pls
 obtain⟨d1,d2⟩:=plR_ok hq (c:=c) (r:=r) r.length (pad_in hq hp (max p.length r.length-p.length))
 exact trim_pol d2 (by rw[d1,List.length_append,List.length_replicate];omega)
theorem pol_sml {q:Int} (hq:isQ q) {p r:List Int} (hp: ∀x∈p,Pl.inQ q x) (h1:p.length≤1000000) (h2:r.length≤1000000):Pl.pol q (Pl.sml q p r):=by
 rw[sml_eq]
 refine trim_pol (fun x hx=> ?_) (by rw[List.length_map,List.length_range];omega)
 obtain⟨i,_,rfl⟩:=List.mem_map.1 hx
 cases decide (i<r.length)with
 |true=>exact add_inQ hq _ _
 |false=>
  rw[cond_false]
  rcases Nat.lt_or_ge i p.length with h|h
  ·exact getD_inQ hp h
  ·rw[List.getD_eq_getElem?_getD,List.getElem?_eq_none h];exact zero_inQ hq
end Fd
end
section
set_option linter.unusedVariables false
set_option linter.unusedSimpArgs false
set_option maxRecDepth 100000
namespace Fd
open Go Fw Go.Proofs
def C62:Con:=⟨[L],[B],fun(x:List Int×Unit)=>x.1.length≤1000000,fun(x:List Int×Unit)=>(!decide x.1.Nodup,()),none⟩
def T62:Ctx:=TT []
def H62:Hints:=lo [(0,⟨[0],[(3,si)]⟩),(2,⟨[0,3],[(4,si)]⟩)]
def Pl.nwt (q:Int) (xs ys:List Int):Nat→List Int×List Int
 |0=>([],[1])
 |i+1=>(Pl.pls q (Pl.nwt q xs ys i).1 (Pl.mul q (Pl.sub q (ys.getD i 0) (Pl.val q (Pl.nwt q xs ys i).1 (xs.getD i 0))) (Pl.inv q (Pl.val q (Pl.nwt q xs ys i).2 (xs.getD i 0)))) (Pl.nwt q xs ys i).2,
   Pl.trim (Pl.prod q (Pl.nwt q xs ys i).2 [Pl.sub q 0 (xs.getD i 0),1]))
def Pl.okTh (q:Int) (xs ys:List Int):Prop:=(∀x∈xs,Pl.inQ q x)∧(∀x∈ys,Pl.inQ q x)∧xs.length=ys.length∧xs.length≤200∧xs.Nodup
def C109:Con:=⟨[.raw,L,L],[L],fun(x:DLL)=>Pl.okF x.1∧Pl.okTh (Pl.qF x.1) x.2.1 x.2.2.1,fun(x:DLL)=>((Pl.nwt (Pl.qF x.1) x.2.1 x.2.2.1 x.2.1.length).1,()),none⟩
def T109:Ctx:=TF [(113,C113),(118,C118),(107,C107)]
def H109:Hints:=lo [(0,⟨[0,2,13,14],[(7,sl),(8,sl),(15,si)]⟩)]
def Pl.thr (q:Int) (xs ys:List Int):List Int×Int:=bif decide (xs.length≠ys.length)then([],7)else bif decide (xs.length>200)then([],2)else
 bif !Pl.els q xs||(!Pl.els q ys|| !decide xs.Nodup)then([],1)else((Pl.nwt q xs ys xs.length).1,0)
def C61:Con:=⟨[.raw,L,L],[L,I],fun(x:DLL)=>Pl.okF x.1,fun(x:DLL)=>((Pl.thr (Pl.qF x.1) x.2.1 x.2.2.1).1,(Pl.thr (Pl.qF x.1) x.2.1 x.2.2.1).2,()),none⟩
def T61:Ctx:=TT [(93,C93),(108,C108),(109,C109)]
def C63:Con:=⟨[G4,L,L],[L],fun(x:R4×List Int×List Int×Unit)=>Pl.okr x.1∧Pl.okTh x.1.1 x.2.1 x.2.2.1,fun(x:R4×List Int×List Int×Unit)=>((Pl.nwt x.1.1 x.2.1 x.2.2.1 x.2.1.length).1,()),none⟩
def T63:Ctx:=TT [(96,C96),(69,C69),(33,C33),(99,C99),(110,C110),(112,C112),(111,C111)]
def H63:Hints:=⟨[],[(1,[3])],[(0,⟨[1,2,3],[(7,sl),(8,si)]⟩),(2,⟨[1,2,3,7,8],[(9,sl),(10,si)]⟩)],[],[]⟩
def C12:Con:=⟨[I,L,L],[B],fun _=>True,fun _=>(true,()),none⟩
def T12:Ctx:=TT [(19,C19),(25,C25),(61,C61),(47,C47),(62,C62),(63,C63),(50,C50),(26,C26),(24,C24)]
def H12:Hints:=⟨[106],[(2,[8]),(19,[1000009]),(21,[106])],[(0,⟨[7,8],[(9,sl),(10,sl),(11,si)]⟩),(3,⟨[7,8,10,11],[(9,so),(15,si)]⟩)],[],[]⟩
end Fd
end
section
set_option linter.unusedVariables false
set_option linter.unusedSectionVars false
namespace La
open Lean.Grind
section
variable {K : Type} [Field K] [DecidableEq K]
structure Ps (K : Type) where
 c:Nat→K
theorem Ps.ext {a b:Ps K} (h: ∀n,a.c n=b.c n):a=b:=by
 obtain⟨a⟩:=a;obtain⟨b⟩:=b
 congr;funext n;exact h n
def cauchy (a b:Nat→K) (n:Nat):K:=sum (n+1) fun i=>a i*b (n-i)
theorem sum_swap (f:Nat→Nat→K): ∀n,sum n (fun i=>sum (i+1) (fun j=>f j i))=sum n (fun j=>sum (n-j) (fun k=>f j (j+k)))
 |0=>rfl
 |n+1=>by
  rw[sum,sum_swap f n]
  have e1:sum (n+1) (fun j=>sum (n+1-j) (fun k=>f j (j+k)))=sum n (fun j=>sum (n-j) (fun k=>f j (j+k))+f j n)+f n n:=by
   rw[sum]
   congr 1
   ·refine sum_congr fun j hj=> ?_
    rw[show n+1-j=(n-j)+1 by omega,sum,show j+(n-j)=n by omega]
   ·rw[show n+1-n=1 by omega];simp only[sum,Nat.add_zero];grind
  rw[e1,sum_add]
  simp only[sum]
  grind
theorem sum_rev (f:Nat→K): ∀n,sum n f=sum n (fun i=>f (n-1-i))
 |0=>rfl
 |n+1=>by
  have h: ∀m,sum (m+1) f=f 0+sum m (fun i=>f (i+1)):=by
   intro m
   induction m with
   |zero=>simp only[sum];grind
   |succ m ih=>rw[sum,ih];simp only[sum];grind
  rw[h n,sum_rev (fun i=>f (i+1)) n,sum]
  simp only[Nat.add_sub_cancel,Nat.sub_self]
  have:sum n (fun i=>f (n-1-i+1))=sum n (fun i=>f (n-i)):=sum_congr fun i hi=>by congr 1;omega
  rw[this];grind
theorem cauchy_comm (a b:Nat→K) (n:Nat):cauchy a b n=cauchy b a n:=by
 unfold cauchy
 rw[sum_rev]
 refine sum_congr fun i hi=> ?_
 rw[show n+1-1-i=n-i by omega,show n-(n-i)=i by omega];grind
theorem cauchy_assoc (a b c:Nat→K) (n:Nat):cauchy (cauchy a b) c n=cauchy a (cauchy b c) n:=by
 unfold cauchy
 have e1:sum (n+1) (fun i=>sum (i+1) (fun i_1=>a i_1*b (i-i_1))*c (n-i))=sum (n+1) (fun i=>sum (i+1) (fun j=>a j*b (i-j)*c (n-i))):=sum_congr fun i hi=>by
  have:sum (i+1) (fun j=>a j*b (i-j)*c (n-i))=c (n-i)*sum (i+1) (fun j=>a j*b (i-j)):=by rw[←sum_smul];exact sum_congr fun j _=>by grind
  rw[this];grind
 rw[e1,sum_swap (fun j i=>a j*b (i-j)*c (n-i))]
 refine sum_congr fun j hj=> ?_
 rw[←sum_smul,show n+1-j=n-j+1 by omega]
 refine sum_congr fun k hk=> ?_
 rw[show j+k-j=k by omega,show n-(j+k)=n-j-k by omega];grind
def Ps.zero:Ps K:=⟨fun _=>0⟩
def Ps.one:Ps K:=⟨fun n=>if n=0 then 1 else 0⟩
def Ps.nat:Nat→Ps K
 |0=>Ps.zero
 |1=>Ps.one
 |n+2=>⟨fun i=>(Ps.nat (n+1)).c i+Ps.one.c i⟩
def Ps.mul (a b:Ps K):Ps K:=⟨cauchy a.c b.c⟩
def Ps.pow (a:Ps K):Nat→Ps K
 |0=>Ps.one
 |n+1=>Ps.mul (Ps.pow a n) a
def Ps.neg (a:Ps K):Ps K:=⟨fun n=> -a.c n⟩
theorem Ps.mul_one' (a:Ps K):Ps.mul a Ps.one=a:=Ps.ext fun n=>by
 show cauchy a.c Ps.one.c n=a.c n
 unfold cauchy
 rw[sum_one (k:=n) (by omega) fun i hi hne=>by
  show a.c i*(if n-i=0 then 1 else 0)=0
  rw[if_neg (by omega)];grind]
 show a.c n*(if n-n=0 then 1 else 0)=_
 rw[if_pos (by omega)];grind
theorem Ps.mul_comm' (a b:Ps K):Ps.mul a b=Ps.mul b a:=Ps.ext fun n=>cauchy_comm _ _ n
theorem Ps.mul_zero' (a:Ps K):Ps.mul a Ps.zero=Ps.zero:=Ps.ext fun n=>sum_zero fun i _=>by show a.c i*(0:K)=0;grind
instance : CommRing (Ps K) :=
  let _ : Add (Ps K) := ⟨fun a b => ⟨fun n => a.c n + b.c n⟩⟩
  let _ : Mul (Ps K) := ⟨Ps.mul⟩
  let _ : NatCast (Ps K) := ⟨Ps.nat⟩
  let _ : (n : Nat) → OfNat (Ps K) n := fun n => ⟨Ps.nat n⟩
  let _ : SMul Nat (Ps K) := ⟨fun n a => Ps.mul (Ps.nat n) a⟩
  let _ : HPow (Ps K) Nat (Ps K) := ⟨Ps.pow⟩
  let _ : Neg (Ps K) := ⟨Ps.neg⟩
  let _ : Sub (Ps K) := ⟨fun a b => ⟨fun n => a.c n - b.c n⟩⟩
  let _ : IntCast (Ps K) := ⟨fun i => match i with
    | .ofNat n => Ps.nat n
    | .negSucc n => Ps.neg (Ps.nat (n + 1))⟩
  let _ : SMul Int (Ps K) := ⟨fun i a => match i with
    | .ofNat n => Ps.mul (Ps.nat n) a
    | .negSucc n => Ps.neg (Ps.mul (Ps.nat (n + 1)) a)⟩
  have nz : Ps.neg (Ps.zero : Ps K) = Ps.zero := Ps.ext fun n => by show -(0 : K) = 0; grind
  have nn : ∀ a : Ps K, Ps.neg (Ps.neg a) = a := fun a => Ps.ext fun n => by show - - a.c n = a.c n; grind
  let sr : Semiring (Ps K) :=
    { add_zero := fun a => Ps.ext fun n => by show a.c n + (0 : K) = a.c n; grind
      add_comm := fun a b => Ps.ext fun n => by show a.c n + b.c n = b.c n + a.c n; grind
      add_assoc := fun a b c => Ps.ext fun n => by show a.c n + b.c n + c.c n = a.c n + (b.c n + c.c n); grind
      mul_assoc := fun a b c => Ps.ext fun n => cauchy_assoc a.c b.c c.c n
      mul_one := Ps.mul_one'
      one_mul := fun a => (Ps.mul_comm' _ _).trans (Ps.mul_one' a)
      left_distrib := fun a b c => Ps.ext fun n => by
        show sum (n + 1) (fun i => a.c i * (b.c (n - i) + c.c (n - i))) = sum (n + 1) (fun i => a.c i * b.c (n - i)) + sum (n + 1) (fun i => a.c i * c.c (n - i))
        rw [← sum_add]; exact sum_congr fun i _ => by grind
      right_distrib := fun a b c => Ps.ext fun n => by
        show sum (n + 1) (fun i => (a.c i + b.c i) * c.c (n - i)) = sum (n + 1) (fun i => a.c i * c.c (n - i)) + sum (n + 1) (fun i => b.c i * c.c (n - i))
        rw [← sum_add]; exact sum_congr fun i _ => by grind
      zero_mul := fun a => (Ps.mul_comm' _ _).trans (Ps.mul_zero' a)
      mul_zero := Ps.mul_zero'
      pow_zero := fun a => rfl
      pow_succ := fun a n => rfl
      ofNat_succ := fun n => match n with
        | 0 => Ps.ext fun n => by show (if n = 0 then (1 : K) else 0) = 0 + (if n = 0 then (1 : K) else 0); grind
        | n + 1 => rfl
      ofNat_eq_natCast := fun n => rfl
      nsmul_eq_natCast_mul := fun n a => rfl }
  let rg : Ring (Ps K) :=
    { sr with
      neg_add_cancel := fun a => Ps.ext fun n => by show - a.c n + a.c n = (0 : K); grind
      sub_eq_add_neg := fun a b => Ps.ext fun n => by show a.c n - b.c n = a.c n + - b.c n; grind
      neg_zsmul := fun i a => match i with
        | .ofNat 0 => by
          show Ps.mul Ps.zero a = Ps.neg (Ps.mul Ps.zero a)
          rw [Ps.mul_comm', Ps.mul_zero', nz]
        | .ofNat (n + 1) => rfl
        | .negSucc n => (nn _).symm
      zsmul_natCast_eq_nsmul := fun n a => rfl
      intCast_ofNat := fun n => rfl
      intCast_neg := fun i => match i with
        | .ofNat 0 => nz.symm
        | .ofNat (n + 1) => rfl
        | .negSucc n => (nn _).symm }
  { rg with mul_comm := Ps.mul_comm' }
theorem Ps.add_c (a b:Ps K) (n:Nat):(a+b).c n=a.c n+b.c n:=rfl
theorem Ps.sub_c (a b:Ps K) (n:Nat):(a-b).c n=a.c n-b.c n:=rfl
theorem Ps.mul_c (a b:Ps K) (n:Nat):(a*b).c n=sum (n+1) fun i=>a.c i*b.c (n-i):=rfl
def C (a:K):Ps K:=⟨fun n=>if n=0 then a else 0⟩
def xp (k:Nat):Ps K:=⟨fun n=>if n=k then 1 else 0⟩
theorem C_mul (a:K) (b:Ps K) (n:Nat):(C a*b).c n=a*b.c n:=by
 rw[Ps.mul_c,sum_one (k:=0) (by omega) fun i hi hne=>by show(if i=0 then a else 0)*_=0;rw[if_neg hne];grind]
 show(if 0=0 then a else 0)*_=_
 rw[if_pos rfl];rfl
theorem xp_mul (k:Nat) (b:Ps K) (n:Nat):(xp k*b).c n=if k≤n then b.c (n-k)else 0:=by
 rw[Ps.mul_c]
 by_cases h:k≤n
 ·rw[if_pos h,sum_one (k:=k) (by omega) fun i hi hne=>by show(if i=k then 1 else 0)*_=_;rw[if_neg hne];grind]
  show(if k=k then(1:K)else 0)*_=_
  rw[if_pos rfl];grind
 ·rw[if_neg h]
  exact sum_zero fun i hi=>by show(if i=k then 1 else 0)*_=_;rw[if_neg (by omega)];grind
theorem C_add (a b:K):C (a+b)=C a+C b:=Ps.ext fun n=>by
 rw[Ps.add_c]
 show(if n=0 then a+b else 0)=(if n=0 then a else 0)+(if n=0 then b else 0)
 grind
theorem C_mulC (a b:K):C (a*b)=C a*C b:=Ps.ext fun n=>by
 rw[C_mul]
 show(if n=0 then a*b else 0)=a*(if n=0 then b else 0)
 grind
theorem C_zero:C (0:K)=0:=Ps.ext fun n=>by show(if n=0 then(0:K)else 0)=0;grind

def Dg (n:Nat) (a:Ps K):Prop:= ∀i,n≤i→a.c i=0
theorem Dg.mono {m n:Nat} {a:Ps K} (h:Dg m a) (hmn:m≤n):Dg n a:=fun i hi=>h i (by omega)
theorem Dg.add {n:Nat} {a b:Ps K} (h:Dg n a) (k:Dg n b):Dg n (a+b):=fun i hi=>by rw[Ps.add_c,h i hi,k i hi];grind
theorem Dg.sub {n:Nat} {a b:Ps K} (h:Dg n a) (k:Dg n b):Dg n (a-b):=fun i hi=>by rw[Ps.sub_c,h i hi,k i hi];grind
theorem Dg.mul {m n:Nat} {a b:Ps K} (h:Dg m a) (k:Dg n b):Dg (m+n) (a*b):=fun i hi=>by
 rw[Ps.mul_c]
 refine sum_zero fun j hj=> ?_
 rcases Nat.lt_or_ge j m with h1|h1
 ·rw[k (i-j) (by omega)];grind
 ·rw[h j h1];grind
theorem Dg.C (a:K):Dg 1 (C a):=fun i hi=>by show(if i=0 then a else 0)=0;rw[if_neg (by omega)]
theorem Dg.xp (k:Nat):Dg (k+1) (xp k:Ps K):=fun i hi=>by show(if i=k then(1:K)else 0)=0;rw[if_neg (by omega)]
theorem Dg.zero {n:Nat}:Dg n (0:Ps K):=fun _ _=>rfl
theorem Dg.one:Dg 1 (1:Ps K):=Dg.C 1
theorem Dg.eq0 {a:Ps K} (h:Dg 0 a):a=0:=Ps.ext fun n=>h n (Nat.zero_le _)
def Pol (a:Ps K):Prop:= ∃n,Dg n a
theorem Pol.add {a b:Ps K}:Pol a→Pol b→Pol (a+b):=fun⟨m,h⟩ ⟨n,k⟩=>⟨max m n,(h.mono (by omega)).add (k.mono (by omega))⟩
theorem Pol.sub {a b:Ps K}:Pol a→Pol b→Pol (a-b):=fun⟨m,h⟩ ⟨n,k⟩=>⟨max m n,(h.mono (by omega)).sub (k.mono (by omega))⟩
theorem Pol.mul {a b:Ps K}:Pol a→Pol b→Pol (a*b):=fun⟨m,h⟩ ⟨n,k⟩=>⟨m+n,h.mul k⟩
structure Mon (e : Nat) (g : Ps K) : Prop where
 dg:Dg (e+1) g
 top:g.c e=1
theorem mul_top {m n:Nat} {a b:Ps K} (h:Dg (m+1) a) (k:Dg (n+1) b):(a*b).c (m+n)=a.c m*b.c n:=by
 rw[Ps.mul_c,sum_one (k:=m) (by omega) fun i hi hne=>by
  rcases Nat.lt_or_ge i m with h1|h1
  ·rw[k (m+n-i) (by omega)];grind
  ·rw[h i (by omega)];grind]
 rw[show m+n-m=n by omega]
theorem div_mon {e:Nat} {g:Ps K} (hg:Mon e g): ∀(n:Nat) (a:Ps K),Dg n a→ ∃u r,a=u*g+r∧Dg e r∧Dg (n-e) u
 |0,a,h=>⟨0,a,by grind,h.mono (Nat.zero_le _),Dg.zero⟩
 |n+1,a,h=>by
  rcases Nat.lt_or_ge n e with h1|h1
  ·exact⟨0,a,by grind,h.mono (by omega),Dg.zero⟩
  ·have hd:Dg n (a-C (a.c n)*xp (n-e)*g):=fun i hi=>by
    have e1:(C (a.c n)*xp (n-e)*g).c i=a.c n*(if n-e≤i then g.c (i-(n-e))else 0):=by
     have:C (a.c n)*xp (n-e)*g=C (a.c n)*(xp (n-e)*g):=by grind
     rw[this,C_mul,xp_mul]
    rw[Ps.sub_c,e1,if_pos (by omega)]
    rcases Nat.eq_or_lt_of_le hi with h2|h2
    ·rw[←h2,show n-(n-e)=e by omega,hg.top];grind
    ·rw[h i (by omega),hg.dg _ (by omega)];grind
   obtain⟨u,r,h2,h3,h4⟩:=div_mon hg n _ hd
   refine⟨u+C (a.c n)*xp (n-e),r,by grind,h3, ?_⟩
   refine Dg.add (h4.mono (by omega)) fun i hi=> ?_
   rw[C_mul]
   show _*(if i=n-e then 1 else 0)=_
   rw[if_neg (by omega)];grind
theorem mon_small {e:Nat} {g:Ps K} (hg:Mon e g): ∀(n:Nat) (u:Ps K),Dg n u→Dg e (u*g)→u=0
 |0,u,h,_=>h.eq0
 |n+1,u,h,hr=>by
  have h1:=mul_top h hg.dg
  rw[hr (n+e) (by omega),hg.top]at h1
  refine mon_small hg n u (fun i hi=> ?_) hr
  rcases Nat.eq_or_lt_of_le hi with h2|h2
  ·rw[←h2];grind
  ·exact h i (by omega)
end
end La
end
section
set_option linter.unusedVariables false
set_option linter.unusedSectionVars false
namespace La
open Lean.Grind
section
variable {K : Type} [Field K] [DecidableEq K]
theorem Pol.C (a:K):Pol (C a):=⟨1,Dg.C a⟩
theorem Pol.one:Pol (1:Ps K):=⟨1,Dg.one⟩
theorem Pol.zero:Pol (0:Ps K):=⟨0,Dg.zero⟩
def lin (a:K):Ps K:=xp 1-C a
theorem lin_mon (a:K):Mon 1 (lin a):=by
 refine⟨((Dg.xp 1).mono (by omega)).sub ((Dg.C a).mono (by omega)), ?_⟩
 show(if 1=1 then(1:K)else 0)-(if 1=0 then a else 0)=1
 rw[if_pos rfl,if_neg (by omega)];grind
theorem Pol.lin (a:K):Pol (lin a):=⟨2,(lin_mon a).dg⟩
theorem mon_quot {e:Nat} {g:Ps K} (hg:Mon e g) (n:Nat): ∀(m:Nat) (u:Ps K),Dg (n+m) u→Dg (e+n) (g*u)→Dg n u
 |0,_,h,_=>h
 |m+1,u,h,hr=>by
  refine mon_quot hg n m u (fun i hi=> ?_) hr
  rcases Nat.eq_or_lt_of_le hi with h2|h2
  ·have h1:=mul_top hg.dg (show Dg (n+m+1) u from h)
   rw[hr (e+(n+m)) (by omega),hg.top]at h1
   rw[←h2];grind
  ·exact h i (by omega)
def Ev (x:K) (a:Ps K) (v:K):Prop:= ∃u,Pol u∧a=lin x*u+C v
theorem Ev.of_C (x v:K):Ev x (C v) v:=⟨0,Pol.zero,by grind⟩
theorem Ev.zero (x:K):Ev x 0 0:=⟨0,Pol.zero,by rw[C_zero];grind⟩
theorem Ev.lin (x y:K):Ev x (lin y) (x-y):=⟨1,Pol.one,by
 have e:C x=C (x-y)+C y:=by rw[←C_add];congr 1;grind
 unfold La.lin;rw[e];grind⟩
theorem Ev.add {x v w:K} {a b:Ps K}:Ev x a v→Ev x b w→Ev x (a+b) (v+w):=fun⟨u,h,e⟩ ⟨u',h',e'⟩=>⟨u+u',h.add h',by rw[C_add,e,e'];grind⟩
theorem C_sub (a b:K):C (a-b)=C a-C b:=by
 have:C a=C (a-b)+C b:=by rw[←C_add];congr 1;grind
 rw[this];grind
theorem Ev.sub {x v w:K} {a b:Ps K}:Ev x a v→Ev x b w→Ev x (a-b) (v-w):=fun⟨u,h,e⟩ ⟨u',h',e'⟩=>⟨u-u',h.sub h',by rw[C_sub,e,e'];grind⟩
theorem Ev.mul {x v w:K} {a b:Ps K}:Ev x a v→Ev x b w→Ev x (a*b) (v*w):=fun⟨u,h,e⟩ ⟨u',h',e'⟩=>
 ⟨u*(La.lin x*u'+C w)+C v*u',(h.mul (((Pol.lin x).mul h').add (Pol.C w))).add ((Pol.C v).mul h'),by rw[C_mulC,e,e'];grind⟩
theorem Ev.uniq {x v w:K} {a:Ps K}:Ev x a v→Ev x a w→v=w:=fun⟨u,⟨m,h⟩,e⟩ ⟨u',⟨n,h'⟩,e'⟩=>by
 have h1:(u-u')*La.lin x=C (w-v):=by rw[C_sub];grind
 have h2:=mon_small (lin_mon x) (max m n) (u-u') ((h.mono (by omega)).sub (h'.mono (by omega))) (by rw[h1];exact Dg.C _)
 have h3:C (w-v)=(0:Ps K):=by rw[←h1,h2];grind
 have h4:(C (w-v):Ps K).c 0=0:=by rw[h3];rfl
 have h5:w-v=0:=by rw[←h4];show _=(if 0=0 then w-v else 0);rw[if_pos rfl]
 grind
theorem Ev.ex {a:Ps K} (h:Pol a) (x:K): ∃v,Ev x a v:=by
 obtain⟨n,h⟩:=h
 obtain⟨u,r,e,hr,hu⟩:=div_mon (lin_mon x) n a h
 refine⟨r.c 0,u,⟨_,hu⟩, ?_⟩
 have:r=C (r.c 0):=Ps.ext fun i=>by
  show r.c i=if i=0 then r.c 0 else 0
  by_cases h0:i=0
  ·rw[if_pos h0,h0]
  ·rw[if_neg h0,hr i (by omega)]
 rw[←this,e];grind
theorem mul_zero' {a b:K} (h:a*b=0) (ha:a≠0):b=0:=by
 have:a⁻¹*(a*b)=0:=by rw[h];grind
 grind
theorem roots0: ∀(xs:List K) (a:Ps K),xs.Nodup→Dg xs.length a→(∀x∈xs,Ev x a 0)→a=0
 |[],a,_,h,_=>h.eq0
 |x::xs,a,hn,h,hr=>by
  obtain⟨u,⟨m,hu⟩,e⟩:=hr x List.mem_cons_self
  rw[C_zero]at e
  have e1:a=lin x*u:=by grind
  have hd:Dg xs.length u:=mon_quot (lin_mon x) xs.length m u (hu.mono (by omega)) (by rw[←e1];exact h.mono (by simp;omega))
  have hn:=List.nodup_cons.1 hn
  have h0:=roots0 xs u hn.2 hd fun y hy=>by
   obtain⟨w,hw⟩:=Ev.ex ⟨m,hu⟩ y
   have h1:=(Ev.lin y x).mul hw
   rw[←e1]at h1
   have h2:=h1.uniq (hr y (List.mem_cons_of_mem _ hy))
   have hne:y-x≠0:=fun h3=>hn.1 (by rw[show x=y by grind];exact hy)
   rw[mul_zero' h2 hne]at hw
   exact hw
  rw[e1,h0];grind
end
end La
end
section
set_option linter.unusedVariables false
set_option linter.unusedSectionVars false
namespace Fd
open Lean.Grind La
section
variable {q : Int} (hq : isQ q)
include hq
def kq (x:Int):KQ hq:=⟨x%q,emod_inQ hq x⟩
theorem kq_val {x:Int} (h:Pl.inQ q x):(kq hq x).1=x:=Int.emod_eq_of_lt h.1 h.2
theorem kq_eq {x:Int} (h:Pl.inQ q x):kq hq x=⟨x,h⟩:=KQ.ext (kq_val hq h)
theorem kq_0:kq hq 0=0:=KQ.ext (Int.zero_emod q)
theorem kq_1:kq hq 1=1:=KQ.ext (kq_val hq (one_inQ hq))
theorem kq_of (a:KQ hq):kq hq a.1=a:=KQ.ext (kq_val hq a.2)
theorem kq_inj {x y:Int} (hx:Pl.inQ q x) (hy:Pl.inQ q y) (h:kq hq x=kq hq y):x=y:=by
 have:=congrArg KQ.v h
 rwa [kq_val hq hx,kq_val hq hy]at this
theorem kq_add {x y:Int} (hx:Pl.inQ q x) (hy:Pl.inQ q y):kq hq (Pl.add q x y)=kq hq x+kq hq y:=by
 rw[kq_eq hq hx,kq_eq hq hy];exact kq_of hq (⟨x,hx⟩+⟨y,hy⟩)
theorem kq_sub {x y:Int} (hx:Pl.inQ q x) (hy:Pl.inQ q y):kq hq (Pl.sub q x y)=kq hq x-kq hq y:=by
 rw[kq_eq hq hx,kq_eq hq hy];exact kq_of hq (⟨x,hx⟩-⟨y,hy⟩)
theorem kq_mul {x y:Int} (hx:Pl.inQ q x) (hy:Pl.inQ q y):kq hq (Pl.mul q x y)=kq hq x*kq hq y:=by
 rw[kq_eq hq hx,kq_eq hq hy];exact kq_of hq (⟨x,hx⟩*⟨y,hy⟩)
theorem kq_inv {x:Int} (hx:Pl.inQ q x) (h:x≠0):kq hq (Pl.inv q x)=(kq hq x)⁻¹:=by
 have hne:(⟨x,hx⟩:KQ hq)≠0:=fun e=>h (KQ.zero_iff.1 e)
 apply KQ.ext
 rw[kq_eq hq hx,KQ.inv_val hne]
 exact kq_val hq (inv_inQ hq x)
theorem kq_ne {x:Int} (hx:Pl.inQ q x) (h:x≠0):kq hq x≠0:=fun e=>h (kq_inj hq hx (zero_inQ hq) (by rw[e,kq_0]))
def psL (l:List Int):Ps (KQ hq):=⟨fun n=>kq hq (l.getD n 0)⟩
theorem psL_c (l:List Int) (n:Nat):(psL hq l).c n=kq hq (l.getD n 0):=rfl
theorem psL_dg (l:List Int):Dg l.length (psL hq l):=fun i hi=>by
 rw[psL_c,List.getD_eq_getElem?_getD,List.getElem?_eq_none hi];exact kq_0 hq
theorem psL_nil:psL hq []=0:=(psL_dg hq []).eq0
theorem psL_pad (l:List Int) (n:Nat):psL hq (l++List.replicate n 0)=psL hq l:=Ps.ext fun i=>by
 rw[psL_c,psL_c]
 congr 1
 rcases Nat.lt_or_ge i l.length with h|h
 ·rw[List.getD_eq_getElem?_getD,List.getElem?_append_left h, ←List.getD_eq_getElem?_getD]
 ·rw[pad_0 hq h,List.getD_eq_getElem?_getD,List.getElem?_eq_none h];rfl
theorem psL_trim (l:List Int):psL hq (Pl.trim l)=psL hq l:=by
 conv=>rhs;rw[←trim_pad l]
 rw[psL_pad]
theorem psL_cons {a:Int} {l:List Int}:psL hq (a::l)=C (kq hq a)+xp 1*psL hq l:=Ps.ext fun n=>by
 rw[Ps.add_c,xp_mul]
 cases n with
 |zero=>show kq hq a=(if 0=0 then kq hq a else 0)+_;rw[if_pos rfl,if_neg (by omega)];grind
 |succ n=>show kq hq (l.getD n 0)=(if n+1=0 then kq hq a else 0)+_;rw[if_neg (by omega),if_pos (by omega),Nat.add_sub_cancel,psL_c];grind
theorem psL_inj {a b:List Int} (ha:Pl.pol q a) (hb:Pl.pol q b) (h:psL hq a=psL hq b):a=b:=by
 have hin: ∀ {l:List Int},Pl.pol q l→ ∀i,Pl.inQ q (l.getD i 0):=fun hl i=>by
  rcases Nat.lt_or_ge i _ with h|h
  ·exact getD_inQ hl.1 h
  ·rw[List.getD_eq_getElem?_getD,List.getElem?_eq_none h];exact zero_inQ hq
 have hg: ∀i,a.getD i 0=b.getD i 0:=fun i=>kq_inj hq (hin ha i) (hin hb i) (congrArg (fun p=>p.c i) h)
 have hle: ∀ {a b:List Int},Pl.pol q a→(∀i,a.getD i 0=b.getD i 0)→a.length≤b.length:=fun {a b} ha hg=>by
  rcases Nat.lt_or_ge b.length a.length with h|h
  ·refine absurd ?_ (ha.2.2 (by omega))
   unfold Pl.top
   rw[hg,List.getD_eq_getElem?_getD,List.getElem?_eq_none (by omega)];rfl
  ·exact h
 have hl:a.length=b.length:=Nat.le_antisymm (hle ha hg) (hle hb fun i=>(hg i).symm)
 refine List.ext_getElem hl fun i h1 h2=> ?_
 have:=hg i
 rwa [List.getD_eq_getElem?_getD,List.getD_eq_getElem?_getD,List.getElem?_eq_getElem h1,List.getElem?_eq_getElem h2]at this
theorem getQ {l:List Int} (h: ∀x∈l,Pl.inQ q x) (i:Nat):Pl.inQ q (l.getD i 0):=by
 rcases Nat.lt_or_ge i l.length with h1|h1
 ·exact getD_inQ h h1
 ·rw[List.getD_eq_getElem?_getD,List.getElem?_eq_none h1];exact zero_inQ hq
theorem psL_set {l:List Int} {i:Nat} (hi:i<l.length) (x:Int):psL hq (l.set i x)=psL hq l+C (kq hq x-kq hq (l.getD i 0))*xp i:=Ps.ext fun n=>by
 rw[Ps.add_c,C_mul,psL_c,psL_c]
 show _=_+_*(if n=i then 1 else 0)
 by_cases e:n=i
 ·subst e
  rw[if_pos rfl,List.getD_eq_getElem?_getD,List.getElem?_set_self hi]
  show kq hq x=_
  grind
 ·rw[if_neg e,List.getD_eq_getElem?_getD,List.getElem?_set_ne (by omega), ←List.getD_eq_getElem?_getD];grind
def psT (l:List Int) (n:Nat):Ps (KQ hq):=psL hq (l.take n)
theorem psT_succ {l:List Int} {n:Nat} (h:n<l.length):psT hq l (n+1)=psT hq l n+C (kq hq (l.getD n 0))*xp n:=Ps.ext fun i=>by
 rw[Ps.add_c,C_mul]
 unfold psT
 rw[psL_c,psL_c]
 show _=_+_*(if i=n then 1 else 0)
 rw[List.getD_eq_getElem?_getD,List.getD_eq_getElem?_getD,List.getD_eq_getElem?_getD,List.getElem?_take,List.getElem?_take]
 by_cases e:i=n
 ·subst e
  rw[if_pos rfl,if_pos (by omega),if_neg (by omega)]
  show _=kq hq 0+_
  rw[kq_0];grind
 ·rw[if_neg e]
  by_cases e2:i<n
  ·rw[if_pos e2,if_pos (by omega)];grind
  ·rw[if_neg e2,if_neg (by omega)];grind
theorem psT_all (l:List Int):psT hq l l.length=psL hq l:=by unfold psT;rw[List.take_length]
theorem psT_0 (l:List Int):psT hq l 0=0:=by unfold psT;rw[List.take_zero,psL_nil]
theorem xp_add (m n:Nat):(xp (m+n):Ps (KQ hq))=xp m*xp n:=Ps.ext fun i=>by
 rw[xp_mul]
 show(if i=m+n then(1:KQ hq)else 0)=if m≤i then(if i-m=n then 1 else 0)else 0
 by_cases h:m≤i
 ·rw[if_pos h]
  by_cases e:i=m+n
  ·rw[if_pos e,if_pos (by omega)]
  ·rw[if_neg e,if_neg (by omega)]
 ·rw[if_neg h,if_neg (by omega)]
theorem psL_prow {a b:List Int} (ha: ∀x∈a,Pl.inQ q x) (hb: ∀x∈b,Pl.inQ q x) (i:Nat): ∀(k:Nat) (o:List Int),(∀x∈o,Pl.inQ q x)→i+k≤o.length→k≤b.length→
  psL hq (Pl.prow q a b i k o)=psL hq o+C (kq hq (a.getD i 0))*xp i*psT hq b k∧ ∀x∈Pl.prow q a b i k o,Pl.inQ q x
 |0,o,ho,_,_=>⟨by rw[psT_0,Pl.prow];grind,ho⟩
 |k+1,o,ho,h,hk=>by
  obtain⟨e,h2⟩:=psL_prow ha hb i k o ho (by omega) (by omega)
  have hl:=prow_len (q:=q) (a:=a) (b:=b) i k o
  rw[Pl.prow,Pl.pst,psL_set hq (by omega),kq_add hq (getQ hq h2 _) (mul_inQ hq _ _),kq_mul hq (getQ hq ha _) (getQ hq hb _),e,psT_succ hq (by omega)]
  refine⟨?_,fun x hx=> ?_⟩
  ·rw[xp_add,show∀x y:KQ hq,x+y-x=y from fun x y=>by grind,C_mulC];grind
  ·rcases List.mem_or_eq_of_mem_set hx with hx|rfl
   ·exact h2 x hx
   ·exact add_inQ hq _ _
theorem psL_prws {a b:List Int} (ha: ∀x∈a,Pl.inQ q x) (hb: ∀x∈b,Pl.inQ q x) (hb0:0<b.length): ∀i,i≤a.length→
  psL hq (Pl.prws q a b i)=psT hq a i*psL hq b∧ ∀x∈Pl.prws q a b i,Pl.inQ q x
 |0,_=>⟨by
   rw[Pl.prws,psT_0]
   have:=psL_pad hq [] (a.length+b.length-1)
   rw[List.nil_append,psL_nil]at this
   rw[this];grind,fun x hx=>by rw[(List.mem_replicate.1 hx).2];exact zero_inQ hq⟩
 |i+1,h=>by
  obtain⟨e,h2⟩:=psL_prws ha hb hb0 i (by omega)
  have hl:=(prws_ok hq (a:=a) (b:=b) i).1
  rw[Pl.prws]
  obtain⟨e3,h3⟩:=psL_prow hq ha hb i b.length (Pl.prws q a b i) h2 (by omega) (Nat.le_refl _)
  exact⟨by rw[e3,e,psT_all,psT_succ hq (by omega)];grind,h3⟩
theorem psL_prod {a b:List Int} (ha: ∀x∈a,Pl.inQ q x) (hb: ∀x∈b,Pl.inQ q x):psL hq (Pl.prod q a b)=psL hq a*psL hq b:=by
 unfold Pl.prod
 by_cases h1:a.length=0
 ·rw[decide_eq_true h1,List.length_eq_zero_iff.1 h1]
  show psL hq []=_
  rw[psL_nil];grind
 by_cases h2:b.length=0
 ·rw[decide_eq_true h2,Bool.or_true,List.length_eq_zero_iff.1 h2]
  show psL hq []=_
  rw[psL_nil];grind
 rw[decide_eq_false h1,decide_eq_false h2]
 show psL hq (Pl.prws q a b a.length)=_
 rw[(psL_prws hq ha hb (by omega) a.length (Nat.le_refl _)).1,psT_all]
theorem psL_plR {c:Int} {r:List Int} (hc:Pl.inQ q c) (hr: ∀x∈r,Pl.inQ q x): ∀(i:Nat) {o:List Int},(∀x∈o,Pl.inQ q x)→i≤o.length→i≤r.length→
  psL hq (Pl.plR q c r i o)=psL hq o+C (kq hq c)*psT hq r i
 |0,o,_,_,_=>by rw[psT_0,Pl.plR];grind
 |i+1,o,ho,h,h2=>by
  obtain⟨l,hi⟩:=plR_ok hq (c:=c) (r:=r) i ho
  rw[Pl.plR,psL_set hq (by omega),kq_add hq (getQ hq hi _) (mul_inQ hq _ _),kq_mul hq hc (getQ hq hr _),psL_plR hc hr i ho (by omega) (by omega),psT_succ hq (by omega),show∀x y:KQ hq,x+y-x=y from fun x y=>by grind,C_mulC]
  grind
theorem psL_pls {p r:List Int} {c:Int} (hp: ∀x∈p,Pl.inQ q x) (hr: ∀x∈r,Pl.inQ q x) (hc:Pl.inQ q c):psL hq (Pl.pls q p c r)=psL hq p+C (kq hq c)*psL hq r:=by
 unfold Pl.pls
 rw[psL_trim,psL_plR hq hc hr r.length (pad_in hq hp _) (by rw[List.length_append,List.length_replicate];omega) (Nat.le_refl _),psL_pad,psT_all]
theorem ev_val: ∀ {l:List Int} {x:Int},(∀y∈l,Pl.inQ q y)→Pl.inQ q x→Ev (kq hq x) (psL hq l) (kq hq (Pl.val q l x))
 |[],x,_,_=>by rw[psL_nil,Pl.val,kq_0];exact Ev.zero _
 |a::l,x,h,hx=>by
  have h1:=ev_val (l:=l) (fun y hy=>h y (List.mem_cons_of_mem _ hy)) hx
  have ha:=h a List.mem_cons_self
  rw[psL_cons,Pl.val,kq_add hq (mul_inQ hq _ _) ha,kq_mul hq (val_in hq l x) hx]
  have h2:=(Ev.of_C (kq hq x) (kq hq a)).add (((Ev.lin (kq hq x) 0).add (Ev.of_C (kq hq x) 0)).mul h1)
  have e:lin (0:KQ hq)+C 0=xp 1:=by unfold lin;grind
  rw[e]at h2
  have e2:kq hq a+(kq hq x-0+0)*kq hq (Pl.val q l x)=kq hq (Pl.val q l x)*kq hq x+kq hq a:=by grind
  rw[e2]at h2
  exact h2
end
end Fd
end
section
set_option linter.unusedVariables false
set_option linter.unusedSimpArgs false
set_option linter.unusedSectionVars false
set_option maxRecDepth 100000
namespace Fd
open Go Fw Go.Proofs
section
open Lean.Grind La
variable {q : Int} (hq : isQ q)
include hq
theorem psL_pol (l:List Int):Pol (psL hq l):=⟨_,psL_dg hq l⟩
theorem psL_one:psL hq [1]=1:=Ps.ext fun n=>by
 cases n with
 |zero=>exact kq_1 hq
 |succ n=>show kq hq (([]:List Int).getD n 0)=if n+1=0 then 1 else 0;rw[if_neg (by omega)];exact kq_0 hq
theorem psL_sml {a b:List Int} (ha: ∀x∈a,Pl.inQ q x) (hb: ∀x∈b,Pl.inQ q x):psL hq (Pl.sml q a b)=psL hq a+psL hq b:=by
 rw[sml_eq,psL_trim]
 refine Ps.ext fun i=> ?_
 rw[Ps.add_c,psL_c,psL_c,psL_c]
 have b0: ∀ {l:List Int}, ¬i<l.length→l.getD i 0=0:=fun h=>by rw[List.getD_eq_getElem?_getD,List.getElem?_eq_none (by omega)];rfl
 by_cases h:i<max a.length b.length
 ·rw[List.getD_eq_getElem?_getD,List.getElem?_map,List.getElem?_range h]
  show kq hq (bif decide (i<b.length)then _ else _)=_
  by_cases h2:i<b.length
  ·rw[_root_.decide_eq_true h2,cond_true,kq_add hq (getQ hq ha i) (getQ hq hb i)]
  ·rw[_root_.decide_eq_false h2,cond_false,b0 h2,kq_0];grind
 ·rw[b0 (l:=(List.range (max a.length b.length)).map _) (by rw[List.length_map,List.length_range];exact h),b0 (l:=a) (by omega),b0 (l:=b) (by omega),kq_0];grind
theorem pls_len (p r:List Int) (c:Int):(Pl.pls q p c r).length≤max p.length r.length:=by
 unfold Pl.pls
 rw[trim_len]
 refine Nat.le_trans (trimN_le _ _) ?_
 have: ∀(i:Nat) (o:List Int),(Pl.plR q c r i o).length=o.length:=by
  intro i
  induction i with
  |zero=>intro o;rfl
  |succ i ih=>intro o;rw[Pl.plR,List.length_set,ih]
 rw[this,List.length_append,List.length_replicate]
 omega
end
end Fd
end
section
set_option linter.unusedVariables false
set_option linter.unusedSimpArgs false
set_option linter.unusedSectionVars false
set_option maxRecDepth 100000
namespace Fd
open Go Fw Go.Proofs
section
open Lean.Grind La
variable {q : Int} (hq : isQ q)
include hq
theorem psL_lin {c:Int} (hc:Pl.inQ q c):psL hq [Pl.neg q c,1]=lin (kq hq c):=by
 rw[psL_cons,psL_one]
 have e:kq hq (Pl.neg q c)=0-kq hq c:=by
  rw[←sub_zero_neg hq,kq_sub hq (zero_inQ hq) hc,kq_0]
 rw[e,C_sub,C_zero];unfold lin;grind
end
section
open Lean.Grind La
variable {q : Int} (hq : isQ q) (hp : isQ (Pl.lpf q)) (he : Pl.lpf (Pl.lpf q) = Pl.lpf q)
include hq hp he
end
end Fd
end
section
set_option linter.unusedVariables false
set_option linter.unusedSimpArgs false
set_option linter.unusedSectionVars false
set_option maxRecDepth 100000
namespace Fd
open Go Fw Go.Proofs
section
open Lean.Grind La
variable {q : Int} (hq : isQ q)
include hq
theorem prod_len1 (a b:List Int):(Pl.prod q a b).length≤a.length+b.length-1:=by
 unfold Pl.prod
 cases h:decide (a.length=0)||decide (b.length=0)with
 |true=>exact Nat.zero_le _
 |false=>exact Nat.le_of_eq (prws_ok hq (a:=a) (b:=b) a.length).1
theorem psL_map {l:List Int} {c:Int} (hl: ∀x∈l,Pl.inQ q x) (hc:Pl.inQ q c):psL hq (l.map fun a=>Pl.mul q a c)=C (kq hq c)*psL hq l:=Ps.ext fun i=>by
 rw[C_mul,psL_c,psL_c,List.getD_eq_getElem?_getD,List.getElem?_map]
 rcases Nat.lt_or_ge i l.length with h|h
 ·rw[List.getElem?_eq_getElem h,List.getD_eq_getElem?_getD,List.getElem?_eq_getElem h]
  show kq hq (Pl.mul q l[i] c)=_*kq hq l[i]
  rw[kq_mul hq (hl _ (List.getElem_mem h)) hc];grind
 ·rw[List.getElem?_eq_none h,List.getD_eq_getElem?_getD,List.getElem?_eq_none h]
  show kq hq 0=_*kq hq 0
  rw[kq_0];grind
theorem sml_len (a b:List Int):(Pl.sml q a b).length≤max a.length b.length:=by
 rw[sml_eq,trim_len]
 refine Nat.le_trans (trimN_le _ _) ?_
 rw[List.length_map,List.length_range];exact Nat.le_refl _
theorem nodup_kq {xs:List Int} (hx: ∀x∈xs,Pl.inQ q x) (hn:xs.Nodup) {i j:Nat} (hi:i<xs.length) (hj:j<xs.length) (e:kq hq (xs.getD i 0)=kq hq (xs.getD j 0)):i=j:=by
 have h:=kq_inj hq (getD_inQ hx hi) (getD_inQ hx hj) e
 rw[List.getD_eq_getElem?_getD,List.getD_eq_getElem?_getD,List.getElem?_eq_getElem hi,List.getElem?_eq_getElem hj]at h
 exact(List.getElem_inj hn).1 h
theorem thr_uniq {xs ys a b:List Int} (hx: ∀x∈xs,Pl.inQ q x) (hn:xs.Nodup) (ha:Pl.pol q a) (hb:Pl.pol q b) (la:a.length≤xs.length) (lb:b.length≤xs.length)
  (ea: ∀j,j<xs.length→Ev (kq hq (xs.getD j 0)) (psL hq a) (kq hq (ys.getD j 0))) (eb: ∀j,j<xs.length→Ev (kq hq (xs.getD j 0)) (psL hq b) (kq hq (ys.getD j 0))):a=b:=by
 refine psL_inj hq ha hb ?_
 have h:=roots0 ((List.range xs.length).map fun j=>kq hq (xs.getD j 0)) (psL hq a-psL hq b) (List.pairwise_map.2 ((List.nodup_range (n:=xs.length)).imp_of_mem fun {i j} hi hj hne e=>hne (nodup_kq hq hx hn (List.mem_range.1 hi) (List.mem_range.1 hj) e))) (by
  rw[List.length_map,List.length_range];exact((psL_dg hq a).mono la).sub ((psL_dg hq b).mono lb)) (fun x hx=>by
  obtain⟨j,hj,rfl⟩:=List.mem_map.1 hx
  have:=(ea j (List.mem_range.1 hj)).sub (eb j (List.mem_range.1 hj))
  rw[show∀y:KQ hq,y-y=0 from fun y=>by grind]at this
  exact this)
 have:psL hq a=psL hq a-psL hq b+psL hq b:=by grind
 rw[this,h];grind
structure Nw (xs ys : List Int) (i : Nat) (o z : List Int) : Prop where
 po:Pl.pol q o
 pz:Pl.pol q z
 lo:o.length≤i
 lz:z.length≤i+1
 eo: ∀j,j<i→Ev (kq hq (xs.getD j 0)) (psL hq o) (kq hq (ys.getD j 0))
 ez: ∀j,j<i→Ev (kq hq (xs.getD j 0)) (psL hq z) 0
 nz: ∀x v,(∀j,j<i→x≠kq hq (xs.getD j 0))→Ev x (psL hq z) v→v≠0
theorem Nw.val {xs ys o z:List Int} {i:Nat} (h:Nw hq xs ys i o z) (hx: ∀x∈xs,Pl.inQ q x) (hn:xs.Nodup) (hi:i<xs.length):Pl.val q z (xs.getD i 0)≠0:=fun e=>by
 have h1:=ev_val hq h.pz.1 (getD_inQ hx hi)
 rw[e,kq_0]at h1
 exact h.nz _ _ (fun j hj e2=>by have:=nodup_kq hq hx hn hi (by omega) e2;omega) h1 rfl
theorem nwt_ok {xs ys:List Int} (hx: ∀x∈xs,Pl.inQ q x) (hy: ∀x∈ys,Pl.inQ q x) (hl:xs.length=ys.length) (h200:xs.length≤200) (hn:xs.Nodup): ∀i,i≤xs.length→Nw hq xs ys i (Pl.nwt q xs ys i).1 (Pl.nwt q xs ys i).2
 |0,_=>⟨⟨fun x hx=>(by cases hx),Nat.zero_le _,fun h=>(by cases h)⟩,pol_one hq,Nat.le_refl _,Nat.le_refl _,fun j hj=>(by omega),fun j hj=>(by omega),fun x v _ h=>by
  show v≠0
  have h:Ev x (psL hq [1]) v:=h
  rw[psL_one]at h
  have:=h.uniq (Ev.of_C x 1)
  rw[this];grind⟩
 |i+1,hi=>by
  have ih:=nwt_ok hx hy hl h200 hn i (by omega)
  have hv:=ih.val hq hx hn (by omega)
  rw[Pl.nwt]
  generalize (Pl.nwt q xs ys i).1=o at*
  generalize (Pl.nwt q xs ys i).2=z at*
  obtain⟨po,pz,lo,lz,eo,ez,nz⟩:=ih
  have hxi:Pl.inQ q (xs.getD i 0):=getD_inQ hx (by omega)
  have hyi:Pl.inQ q (ys.getD i 0):=getD_inQ hy (by omega)
  have vo:=val_in hq o (xs.getD i 0)
  have vz:=val_in hq z (xs.getD i 0)
  have hc:=mul_inQ hq (Pl.sub q (ys.getD i 0) (Pl.val q o (xs.getD i 0))) (Pl.inv q (Pl.val q z (xs.getD i 0)))
  have hin2: ∀x∈[Pl.sub q 0 (xs.getD i 0),1],Pl.inQ q x:=fun x hx=>by
   rcases List.mem_cons.1 hx with rfl|hx
   ·exact sub_inQ hq _ _
   ·rw[List.mem_singleton.1 hx];exact one_inQ hq
  have e2:psL hq (Pl.trim (Pl.prod q z [Pl.sub q 0 (xs.getD i 0),1]))=psL hq z*lin (kq hq (xs.getD i 0)):=by
   rw[psL_trim,psL_prod hq pz.1 hin2,sub_zero_neg hq,psL_lin hq hxi]
  have e1:=psL_pls hq po.1 pz.1 hc
  have hne:=kq_ne hq vz hv
  refine⟨pol_pls hq po.1 po.2.1 pz.2.1,trim_pol (prod_ok hq).2 ?_, ?_, ?_,fun j hj=> ?_,fun j hj=> ?_,fun x v hxx h=> ?_⟩
  ·have:=(prod_ok hq (a:=z) (b:=[Pl.sub q 0 (xs.getD i 0),1])).1
   simp only[List.length_cons,List.length_nil]at this
   omega
  ·refine Nat.le_trans (pls_len hq o z _) ?_
   omega
  ·show(Pl.trim _).length≤_
   rw[trim_len]
   have h1:=prod_len1 hq z [Pl.sub q 0 (xs.getD i 0),1]
   have h2:=trimN_le (Pl.prod q z [Pl.sub q 0 (xs.getD i 0),1]) (Pl.prod q z [Pl.sub q 0 (xs.getD i 0),1]).length
   simp only[List.length_cons,List.length_nil]at h1
   omega
  ·show Ev _ (psL hq (Pl.pls q o _ z)) _
   rw[e1]
   by_cases e:j=i
   ·subst e
    have h1:=(ev_val hq po.1 hxi).add ((Ev.of_C (kq hq (xs.getD j 0)) (kq hq (Pl.mul q (Pl.sub q (ys.getD j 0) (Pl.val q o (xs.getD j 0))) (Pl.inv q (Pl.val q z (xs.getD j 0)))))).mul (ev_val hq pz.1 hxi))
    have h2:kq hq (Pl.val q o (xs.getD j 0))+kq hq (Pl.mul q (Pl.sub q (ys.getD j 0) (Pl.val q o (xs.getD j 0))) (Pl.inv q (Pl.val q z (xs.getD j 0))))*kq hq (Pl.val q z (xs.getD j 0))=kq hq (ys.getD j 0):=by
     rw[kq_mul hq (sub_inQ hq _ _) (inv_inQ hq _),kq_sub hq hyi vo,kq_inv hq vz hv]
     grind
    rw[h2]at h1
    exact h1
   ·have h1:=(eo j (by omega)).add ((Ev.of_C (kq hq (xs.getD j 0)) (kq hq (Pl.mul q (Pl.sub q (ys.getD i 0) (Pl.val q o (xs.getD i 0))) (Pl.inv q (Pl.val q z (xs.getD i 0)))))).mul (ez j (by omega)))
    rw[show∀a b:KQ hq,a+b*0=a from fun a b=>by grind]at h1
    exact h1
  ·show Ev _ (psL hq (Pl.trim _)) _
   rw[e2]
   by_cases e:j=i
   ·subst e
    have h1:=(ev_val hq pz.1 hxi).mul (Ev.lin (kq hq (xs.getD j 0)) (kq hq (xs.getD j 0)))
    rw[show∀a b:KQ hq,a*(b-b)=0 from fun a b=>by grind]at h1
    exact h1
   ·have h1:=(ez j (by omega)).mul (Ev.lin (kq hq (xs.getD j 0)) (kq hq (xs.getD i 0)))
    rw[show∀a:KQ hq,0*a=0 from fun a=>by grind]at h1
    exact h1
  ·have h:Ev x (psL hq (Pl.trim (Pl.prod q z [Pl.sub q 0 (xs.getD i 0),1]))) v:=h
   rw[e2]at h
   obtain⟨w,hw⟩:=Ev.ex (psL_pol hq z) x
   have h1:=h.uniq (hw.mul (Ev.lin x (kq hq (xs.getD i 0))))
   have h2:=nz x w (fun j hj=>hxx j (by omega)) hw
   have h3:=hxx i (by omega)
   rw[h1]
   intro h4
   have h5:=mul_zero' h4 h2
   exact h3 (by grind)
end
theorem vc62: ∀x,C62.pre x→VC T62 H62 Try.f62 C62 x:=by
 rintro⟨(l:List Int),⟨⟩⟩ (hl:l.length≤1000000)
 refine cast (α:= ∃(n:Nat),itl (fun(G:Int×PUnit→Prop) (x:Int×PUnit)=>Br (decide (x.1<(↑l.length:Int))) (∃(n:Nat),itl (fun(G_1:Int×PUnit→Prop) (x_1:Int×PUnit)=>Br (decide (x_1.1<x.1)) ((0:Int)≤x.1∧x.1<(↑l.length:Int)∧(0:Int)≤x_1.1∧x_1.1<(↑l.length:Int)∧Br (rd i64 l x.1==rd i64 l x_1.1) ((true,())=C62.post (l,())) (G_1 (IntKind.i64.wrap (x_1.1+(1:Int)),()))) (G (IntKind.i64.wrap (x.1+(1:Int)),()))) n ((0:Int),())) ((false,())=C62.post (l,()))) n ((0:Int),())) (by kernel_rfl) ?_
 have hpo:C62.post (l,())=(!decide l.Nodup,()):=rfl
 rw[hpo]
 refine itl_rule (fun s=> ∃i:Nat,s=((i:Int),())∧i≤l.length∧ ∀a b,a<b→b<i→l.getD a 0≠l.getD b 0) (fun s=>((l.length:Int)-s.1).toNat) ⟨0,rfl,Nat.zero_le _,fun a b _ h=>by omega⟩ ?_
 rintro s G ⟨i,rfl,hi,hd⟩ hG
 simp only at hG⊢
 refine Br_of (fun h=> ?_) (fun h=> ?_)
 ·have h:i<l.length:=by have:=of_decide_eq_true h;omega
  refine itl_rule (fun s=> ∃k:Nat,s=((k:Int),())∧k≤i∧ ∀a,a<k→l.getD a 0≠l.getD i 0) (fun s=>((i:Int)-s.1).toNat) ⟨0,rfl,Nat.zero_le _,fun a h=>by omega⟩ ?_
  rintro s G2 ⟨k,rfl,hk,hd2⟩ hG2
  simp only at hG2⊢
  refine Br_of (fun h2=> ?_) (fun h2=> ?_)
  ·have h2:k<i:=by have:=of_decide_eq_true h2;omega
   rw[rd_i,rd_i]
   refine⟨by omega,by omega,by omega,by omega,Br_of (fun h3=> ?_) (fun h3=> ?_)⟩
   ·have h3:=eq_of_beq h3
    rw[decide_eq_false]
    ·rfl
    ·intro hn
     rw[List.getD_eq_getElem?_getD,List.getD_eq_getElem?_getD,List.getElem?_eq_getElem h,List.getElem?_eq_getElem (by omega)]at h3
     have:=(List.getElem_inj hn).1 h3
     omega
   ·rw[wrap_i64 (by omega) (by omega)]
    refine hG2 _ ⟨k+1,rfl,h2,fun a ha=> ?_⟩ (by simp only;omega)
    by_cases e:a=k
    ·subst e;intro e2;rw[e2]at h3;simp at h3
    ·exact hd2 a (by omega)
  ·have h2:k=i:=by have:=of_decide_eq_false h2;omega
   subst h2
   rw[wrap_i64 (by omega) (by omega)]
   refine hG _ ⟨k+1,rfl,h,fun a b hab hb=> ?_⟩ (by simp only;omega)
   by_cases e:b=k
   ·subst e;exact hd2 a hab
   ·exact hd a b hab (by omega)
 ·have h:i=l.length:=by have:=of_decide_eq_false h;omega
  subst h
  rw[decide_eq_true]
  ·rfl
  ·rw[List.nodup_iff_pairwise_ne,List.pairwise_iff_getElem]
   intro a b ha hb hab
   have:=hd a b hab hb
   rwa [List.getD_eq_getElem?_getD,List.getD_eq_getElem?_getD,List.getElem?_eq_getElem ha,List.getElem?_eq_getElem hb]at this
theorem snd62:Sound Try.prog 62 C62:=fn_sound (T:=T62) (fn:=Try.f62) (tok0 trivial) Try.func62 (by kernel_rfl) H62 vc62 (by kernel_rfl)
theorem vc109: ∀x,C109.pre x→VC T109 H109 Try.f109 C109 x:=by
 rintro⟨v,(xs:List Int),(ys:List Int),⟨⟩⟩ ⟨⟨q,hq,(rfl:v=_)⟩,hT⟩
 obtain⟨hx,hy,hl,h200,hn⟩:Pl.okTh q xs ys:=hT
 refine cast (α:= ∃(n:Nat),itl (fun(G:List Int×List Int×Int×PUnit→Prop) (x:List Int×List Int×Int×PUnit)=>Br (decide (x.2.2.1<(↑xs.length:Int))) ((0:Int)≤x.2.2.1∧x.2.2.1<(↑xs.length:Int)∧(0:Int)≤x.2.2.1∧x.2.2.1<(↑ys.length:Int)∧(Pl.okF (D.rptr (fieldC q))∧Pl.okPx (Pl.qF (D.rptr (fieldC q))) x.1 (rd i64 xs x.2.2.1))∧(Pl.okA (arD q)∧Pl.inQ (Pl.qA (arD q)) (rd i64 ys x.2.2.1)∧Pl.inQ (Pl.qA (arD q)) (Pl.val (Pl.qF (D.rptr (fieldC q))) x.1 (rd i64 xs x.2.2.1)))∧(Pl.okF (D.rptr (fieldC q))∧Pl.okPx (Pl.qF (D.rptr (fieldC q))) x.2.1 (rd i64 xs x.2.2.1))∧(Pl.okA (arD q)∧Pl.inQ (Pl.qA (arD q)) (Pl.val (Pl.qF (D.rptr (fieldC q))) x.2.1 (rd i64 xs x.2.2.1))∧Pl.val (Pl.qF (D.rptr (fieldC q))) x.2.1 (rd i64 xs x.2.2.1)≠(0:Int))∧(Pl.okM (arD q)∧Pl.inQ (Pl.qA (arD q)) (Pl.sub (Pl.qA (arD q)) (rd i64 ys x.2.2.1) (Pl.val (Pl.qF (D.rptr (fieldC q))) x.1 (rd i64 xs x.2.2.1)))∧Pl.inQ (Pl.qA (arD q)) (Pl.inv (Pl.qA (arD q)) (Pl.val (Pl.qF (D.rptr (fieldC q))) x.2.1 (rd i64 xs x.2.2.1))))∧(Pl.okF (D.rptr (fieldC q))∧Pl.okPr (Pl.qF (D.rptr (fieldC q))) x.1 x.2.1∧Pl.inQ (Pl.qF (D.rptr (fieldC q))) (Pl.mul (Pl.qA (arD q)) (Pl.sub (Pl.qA (arD q)) (rd i64 ys x.2.2.1) (Pl.val (Pl.qF (D.rptr (fieldC q))) x.1 (rd i64 xs x.2.2.1))) (Pl.inv (Pl.qA (arD q)) (Pl.val (Pl.qF (D.rptr (fieldC q))) x.2.1 (rd i64 xs x.2.2.1)))))∧(Pl.okA (arD q)∧Pl.inQ (Pl.qA (arD q)) (0:Int)∧Pl.inQ (Pl.qA (arD q)) (rd i64 xs x.2.2.1))∧(Pl.okF (D.rptr (fieldC q))∧Pl.okPr (Pl.qF (D.rptr (fieldC q))) x.2.1 [Pl.sub (Pl.qA (arD q)) (0:Int) (rd i64 xs x.2.2.1),(1:Int)])∧G (Pl.pls (Pl.qF (D.rptr (fieldC q))) x.1 (Pl.mul (Pl.qA (arD q)) (Pl.sub (Pl.qA (arD q)) (rd i64 ys x.2.2.1) (Pl.val (Pl.qF (D.rptr (fieldC q))) x.1 (rd i64 xs x.2.2.1))) (Pl.inv (Pl.qA (arD q)) (Pl.val (Pl.qF (D.rptr (fieldC q))) x.2.1 (rd i64 xs x.2.2.1)))) x.2.1,Pl.trim (Pl.prod (Pl.qF (D.rptr (fieldC q))) x.2.1 [Pl.sub (Pl.qA (arD q)) (0:Int) (rd i64 xs x.2.2.1),(1:Int)]),IntKind.i64.wrap (x.2.2.1+(1:Int)),())) ((x.1,())=C109.post (fieldD q,xs,ys,()))) n ([],[(1:Int)],(0:Int),())) (by kernel_rfl) ?_
 rw[qF_f,qA_ar hq]
 have hpo:C109.post (fieldD q,xs,ys,())=((Pl.nwt q xs ys xs.length).1,()):=rfl
 rw[hpo]
 have oF:=okF_f hq
 have oA:=okA_ar hq
 have oM:Pl.okM (arD q):=⟨q,hq, .inl rfl⟩
 refine itl_rule (fun s=> ∃i:Nat,s=((Pl.nwt q xs ys i).1,(Pl.nwt q xs ys i).2,(i:Int),())∧i≤xs.length) (fun s=>((xs.length:Int)-s.2.2.1).toNat) ⟨0,rfl,Nat.zero_le _⟩ ?_
 rintro s G ⟨i,rfl,hi⟩ hG
 simp only at hG⊢
 have hw:=nwt_ok hq hx hy hl h200 hn i hi
 refine Br_of (fun h=> ?_) (fun h=> ?_)
 ·have h:i<xs.length:=by have:=of_decide_eq_true h;omega
  have hv:=hw.val hq hx hn h
  have hxi:Pl.inQ q (xs.getD i 0):=getD_inQ hx h
  have hyi:Pl.inQ q (ys.getD i 0):=getD_inQ hy (by omega)
  have hin2: ∀x∈[Pl.sub q 0 (xs.getD i 0),1],Pl.inQ q x:=fun x hx=>by
   rcases List.mem_cons.1 hx with rfl|hx
   ·exact sub_inQ hq _ _
   ·rw[List.mem_singleton.1 hx];exact one_inQ hq
  have l1:=hw.lo
  have l2:=hw.lz
  have hG':=hG ((Pl.nwt q xs ys (i+1)).1,(Pl.nwt q xs ys (i+1)).2,((i+1:Nat):Int),()) ⟨i+1,rfl,h⟩ (by simp only;omega)
  rw[Pl.nwt]at hG'
  rw[rd_i,rd_i,wrap_i64 (by omega) (by omega)]
  exact⟨by omega,by omega,by omega,by omega,⟨oF,hw.po.1,by unfold Pl.len9;omega,hxi⟩,⟨oA,hyi,val_in hq _ _⟩,⟨oF,hw.pz.1,by unfold Pl.len9;omega,hxi⟩,⟨oA,val_in hq _ _,hv⟩,⟨oM,sub_inQ hq _ _,inv_inQ hq _⟩,⟨oF,⟨hw.po.1,hw.pz.1,by omega,by omega⟩,mul_inQ hq _ _⟩,⟨oA,zero_inQ hq,hxi⟩,⟨oF,hw.pz.1,hin2,by omega,by simp⟩,hG'⟩
 ·have h:i=xs.length:=by have:=of_decide_eq_false h;omega
  subst h
  rfl
theorem snd109:Sound Try.prog 109 C109:=fn_sound (T:=T109) (fn:=Try.f109) (tokF ⟨snd113,snd118,snd107,trivial⟩) Try.func109 (by kernel_rfl) H109 vc109 (by kernel_rfl) (hC:=nrcLL (fun x h=>h.1) fun x h=>⟨rfl,trivial⟩)
theorem vc61: ∀x,C61.pre x→VC T61 H0 Try.f61 C61 x:=by
 rintro⟨v,(xs:List Int),(ys:List Int),⟨⟩⟩ ⟨q,hq,(rfl:v=_)⟩
 refine cast (α:=Br ((↑xs.length:Int) !=(↑ys.length:Int)) (([],(7:Int),())=C61.post (fieldD q,xs,ys,())) (Br (decide ((↑xs.length:Int)>(200:Int))) (([],(2:Int),())=C61.post (fieldD q,xs,ys,())) ((Pl.okF (D.rptr (fieldC q))∧xs.length≤(1000000000:Nat))∧Br (!Pl.els (Pl.qF (D.rptr (fieldC q))) xs) (([],(1:Int),())=C61.post (fieldD q,xs,ys,())) ((Pl.okF (D.rptr (fieldC q))∧ys.length≤(1000000000:Nat))∧Br (!Pl.els (Pl.qF (D.rptr (fieldC q))) ys) (([],(1:Int),())=C61.post (fieldD q,xs,ys,())) ((xs.length≤(1000000:Nat)∧ ∀(y:Int),y∈xs→(0:Int)≤y∧y≤(65536:Int))∧Br (!decide xs.Nodup) (([],(1:Int),())=C61.post (fieldD q,xs,ys,())) ((Pl.okF (D.rptr (fieldC q))∧Pl.okTh (Pl.qF (D.rptr (fieldC q))) xs ys)∧((Pl.nwt (Pl.qF (D.rptr (fieldC q))) xs ys xs.length).1,(0:Int),())=C61.post (fieldD q,xs,ys,()))))))) (by kernel_rfl) ?_
 rw[qF_f]
 have hpo:C61.post (fieldD q,xs,ys,())=((Pl.thr q xs ys).1,(Pl.thr q xs ys).2,()):=rfl
 rw[hpo]
 have oF:=okF_f hq
 have q6:=hq.2.1
 unfold Pl.thr
 refine Br_of (fun h=> ?_) (fun h=> ?_)
 ·have h:xs.length≠ys.length:=fun e=>by rw[e]at h;simp at h
  rw[decide_eq_true h];rfl
 ·have h:xs.length=ys.length:=by simp at h;omega
  rw[show decide (xs.length≠ys.length)=false from decide_eq_false (fun h'=>h' h),cond_false]
  refine Br_of (fun h2=> ?_) (fun h2=> ?_)
  ·have h2:xs.length>200:=by have:=of_decide_eq_true h2;omega
   rw[decide_eq_true h2];rfl
  ·have h2: ¬xs.length>200:=by have:=of_decide_eq_false h2;omega
   rw[decide_eq_false h2,cond_false]
   refine⟨⟨oF,by omega⟩, ?_⟩
   cases e1:Pl.els q xs with
   |false=>rfl
   |true=>
    refine⟨⟨oF,by omega⟩, ?_⟩
    cases e2:Pl.els q ys with
    |false=>rfl
    |true=>
     refine⟨⟨by omega,fun y hy=>by have:=els_in e1 y hy;unfold Pl.inQ at this;omega⟩, ?_⟩
     cases e3:decide xs.Nodup with
     |false=>rfl
     |true=>exact⟨⟨oF,els_in e1,els_in e2,h,by omega,of_decide_eq_true e3⟩,rfl⟩
theorem snd61:Sound Try.prog 61 C61:=fn_sound (T:=T61) (fn:=Try.f61) (tok0 ⟨snd93,snd108,snd109,trivial⟩) Try.func61 (by kernel_rfl) H0 vc61 (by kernel_rfl) (hC:=nrcLL (fun x h=>h) fun x h=>⟨rfl,trivial,trivial⟩)
theorem vc63: ∀x,C63.pre x→VC T63 H63 Try.f63 C63 x:=by
 rintro⟨⟨(q:Int),(p0:Int),(k:Int),(m0:Int),⟨⟩⟩,(xs:List Int),(ys:List Int),⟨⟩⟩ ⟨(h0:Pl.okr _),hT⟩
 obtain⟨hx,hy,hl,h200,hn⟩:Pl.okTh q xs ys:=hT
 obtain⟨hq,_,_,_⟩:=okr_open h0
 refine cast (α:= ∃(n:Nat),itl (fun(G:List Int×Int×PUnit→Prop) (x:List Int×Int×PUnit)=>Br (decide (x.2.1<(↑xs.length:Int))) ((0:Int)≤x.2.1∧x.2.1<(↑ys.length:Int)∧ ∃(n:Nat),itl (fun(G_1:List Int×Int×PUnit→Prop) (x_1:List Int×Int×PUnit)=>Br (decide (x_1.2.1<(↑xs.length:Int))) (Br (x_1.2.1 !=x.2.1) ((0:Int)≤x_1.2.1∧x_1.2.1<(↑xs.length:Int)∧(Pl.okr (q,p0,k,m0,())∧Pl.inQ q (rd i64 xs x_1.2.1))∧(Pl.okr (q,p0,k,m0,())∧Pl.okPr q x_1.1 [Pl.neg q (rd i64 xs x_1.2.1),(1:Int)])∧(0:Int)≤x.2.1∧x.2.1<(↑xs.length:Int)∧(0:Int)≤x_1.2.1∧x_1.2.1<(↑xs.length:Int)∧(Pl.okr (q,p0,k,m0,())∧Pl.inQ q (rd i64 xs x.2.1)∧Pl.inQ q (rd i64 xs x_1.2.1))∧(Pl.okr (q,p0,k,m0,())∧Pl.inQ q (Pl.sub q (rd i64 xs x.2.1) (rd i64 xs x_1.2.1)))∧(Pl.okr (q,p0,k,m0,())∧(∀(y:Int),y∈Pl.prod q x_1.1 [Pl.neg q (rd i64 xs x_1.2.1),(1:Int)]→Pl.inQ q y)∧(Pl.prod q x_1.1 [Pl.neg q (rd i64 xs x_1.2.1),(1:Int)]).length≤(1000000:Nat)∧Pl.inQ q (Pl.inv q (Pl.sub q (rd i64 xs x.2.1) (rd i64 xs x_1.2.1))))∧G_1 (Pl.trim (List.map (fun(a:Int)=>Pl.mul q a (Pl.inv q (Pl.sub q (rd i64 xs x.2.1) (rd i64 xs x_1.2.1)))) (Pl.prod q x_1.1 [Pl.neg q (rd i64 xs x_1.2.1),(1:Int)])),IntKind.i64.wrap (x_1.2.1+(1:Int)),())) (G_1 (x_1.1,IntKind.i64.wrap (x_1.2.1+(1:Int)),()))) (Pl.len9 x_1.1∧(Pl.okr (q,p0,k,m0,())∧Pl.okPr q x.1 (Pl.trim x_1.1))∧G (Pl.sml q x.1 (Pl.trim x_1.1),IntKind.i64.wrap (x.2.1+(1:Int)),()))) n ([rd i64 ys x.2.1],(0:Int),())) ((x.1,())=C63.post ((q,p0,k,m0,()),xs,ys,()))) n ([],(0:Int),())) (by kernel_rfl) ?_
 have hpo:C63.post ((q,p0,k,m0,()),xs,ys,())=((Pl.nwt q xs ys xs.length).1,()):=rfl
 rw[hpo]
 refine itl_rule (fun s=> ∃i:Nat,s.2.1=(i:Int)∧i≤xs.length∧Pl.pol q s.1∧s.1.length≤xs.length∧ ∀j,j<xs.length→La.Ev (kq hq (xs.getD j 0)) (psL hq s.1) (if j<i then kq hq (ys.getD j 0)else 0)) (fun s=>((xs.length:Int)-s.2.1).toNat) ⟨0,rfl,Nat.zero_le _,⟨fun x hx=>(by cases hx),by decide,fun h=>(by cases h)⟩,Nat.zero_le _,fun j hj=>by
  rw[psL_nil,if_neg (by omega)];exact La.Ev.zero _⟩ ?_
 rintro⟨o,i0,⟨⟩⟩ G ⟨i,e,hi,po,lo,eo⟩ hG
 simp only at e po lo eo hG⊢
 subst e
 refine Br_of (fun h=> ?_) (fun h=> ?_)
 ·have h:i<xs.length:=by have:=of_decide_eq_true h;omega
  have hxi:Pl.inQ q (xs.getD i 0):=getD_inQ hx h
  have hyi:Pl.inQ q (ys.getD i 0):=getD_inQ hy (by omega)
  rw[rd_i,rd_i]
  refine⟨by omega,by omega, ?_⟩
  refine itl_rule (fun s=> ∃k:Nat,s.2.1=(k:Int)∧k≤xs.length∧(∀x∈s.1,Pl.inQ q x)∧s.1.length≤(if i<k then k else k+1)∧La.Ev (kq hq (xs.getD i 0)) (psL hq s.1) (kq hq (ys.getD i 0))∧ ∀j,j<k→j≠i→La.Ev (kq hq (xs.getD j 0)) (psL hq s.1) 0) (fun s=>((xs.length:Int)-s.2.1).toNat) ⟨0,rfl,Nat.zero_le _,fun x hx=>by rw[List.mem_singleton.1 hx];exact hyi,by simp,by
   have:psL hq [ys.getD i 0]=La.C (kq hq (ys.getD i 0)):=by rw[psL_cons,psL_nil];grind
   rw[this];exact La.Ev.of_C _ _,fun j hj=>by omega⟩ ?_
  rintro⟨l,k0,⟨⟩⟩ G2 ⟨k1,e,hk,il,ll,ei,ej⟩ hG2
  simp only at e il ll ei ej hG2⊢
  subst e
  have ll2:l.length≤201:=by split at ll<;>omega
  refine Br_of (fun h2=> ?_) (fun h2=> ?_)
  ·have h2:k1<xs.length:=by have:=of_decide_eq_true h2;omega
   have hxk:Pl.inQ q (xs.getD k1 0):=getD_inQ hx h2
   rw[wrap_i64 (by omega) (by omega)]
   refine Br_of (fun h3=> ?_) (fun h3=> ?_)
   ·have h3:k1≠i:=fun e=>by rw[e]at h3;simp at h3
    have hpn: ∀x∈[Pl.neg q (xs.getD k1 0),1],Pl.inQ q x:=fun x hx=>by
     rcases List.mem_cons.1 hx with rfl|hx
     ·exact neg_inQ hq _
     ·rw[List.mem_singleton.1 hx];exact one_inQ hq
    have hp2:=(prod_ok hq (a:=l) (b:=[Pl.neg q (xs.getD k1 0),1])).2
    have hp1:=prod_len1 hq l [Pl.neg q (xs.getD k1 0),1]
    simp only[List.length_cons,List.length_nil]at hp1
    have hs:=sub_inQ hq (xs.getD i 0) (xs.getD k1 0)
    have hne:kq hq (xs.getD i 0)≠kq hq (xs.getD k1 0):=fun e=>h3 (nodup_kq hq hx hn h h2 e).symm
    have hs0:Pl.sub q (xs.getD i 0) (xs.getD k1 0)≠0:=fun e=>by
     have h4:=kq_sub hq hxi hxk
     rw[e,kq_0]at h4
     exact hne (by grind)
    have hiv:=inv_inQ hq (Pl.sub q (xs.getD i 0) (xs.getD k1 0))
    have hps:psL hq (Pl.trim ((Pl.prod q l [Pl.neg q (xs.getD k1 0),1]).map fun a=>Pl.mul q a (Pl.inv q (Pl.sub q (xs.getD i 0) (xs.getD k1 0)))))=La.C ((kq hq (xs.getD i 0)-kq hq (xs.getD k1 0))⁻¹)*(psL hq l*La.lin (kq hq (xs.getD k1 0))):=by
     rw[psL_trim,psL_map hq hp2 hiv,psL_prod hq il hpn,psL_lin hq hxk,kq_inv hq hs hs0,kq_sub hq hxi hxk]
    rw[rd_i]
    refine⟨by omega,by omega,⟨h0,hxk⟩,⟨h0,il,hpn,by omega,by simp⟩,by omega,by omega,by omega,by omega,⟨h0,hxi,hxk⟩,⟨h0,hs⟩,⟨h0,hp2,by omega,hiv⟩,hG2 _ ⟨k1+1,rfl,h2,fun x hx=> ?_, ?_, ?_,fun j hj hji=> ?_⟩ (by simp only;omega)⟩
    ·obtain⟨y,_,rfl⟩:=List.mem_map.1 (trim_mem hx)
     exact mul_inQ hq _ _
    ·show(Pl.trim _).length≤_
     rw[trim_len]
     refine Nat.le_trans (trimN_le _ _) ?_
     rw[List.length_map]
     split at ll<;>split<;>omega
    ·show La.Ev _ (psL hq (Pl.trim _)) _
     rw[hps]
     have h4:=(La.Ev.of_C (kq hq (xs.getD i 0)) ((kq hq (xs.getD i 0)-kq hq (xs.getD k1 0))⁻¹)).mul (ei.mul (La.Ev.lin (kq hq (xs.getD i 0)) (kq hq (xs.getD k1 0))))
     have h5:(kq hq (xs.getD i 0)-kq hq (xs.getD k1 0))⁻¹*(kq hq (ys.getD i 0)*(kq hq (xs.getD i 0)-kq hq (xs.getD k1 0)))=kq hq (ys.getD i 0):=by
      have h6:kq hq (xs.getD i 0)-kq hq (xs.getD k1 0)≠0:=fun e=>hne (by grind)
      grind
     rw[h5]at h4
     exact h4
    ·show La.Ev _ (psL hq (Pl.trim _)) _
     rw[hps]
     by_cases ejk:j=k1
     ·subst ejk
      obtain⟨w,hw⟩:=La.Ev.ex (psL_pol hq l) (kq hq (xs.getD j 0))
      have h4:=(La.Ev.of_C (kq hq (xs.getD j 0)) ((kq hq (xs.getD i 0)-kq hq (xs.getD j 0))⁻¹)).mul (hw.mul (La.Ev.lin (kq hq (xs.getD j 0)) (kq hq (xs.getD j 0))))
      rw[show∀a b c:KQ hq,a*(b*(c-c))=0 from fun a b c=>by grind]at h4
      exact h4
     ·have h4:=(La.Ev.of_C (kq hq (xs.getD j 0)) ((kq hq (xs.getD i 0)-kq hq (xs.getD k1 0))⁻¹)).mul ((ej j (by omega) hji).mul (La.Ev.lin (kq hq (xs.getD j 0)) (kq hq (xs.getD k1 0))))
      rw[show∀a b:KQ hq,a*(0*b)=0 from fun a b=>by grind]at h4
      exact h4
   ·have h3:k1=i:=by simp at h3;omega
    subst h3
    refine hG2 _ ⟨k1+1,rfl,h2,il, ?_,ei,fun j hj hji=>ej j (by omega) hji⟩ (by simp only;omega)
    rw[if_neg (by omega)]at ll
    rw[if_pos (by omega)];exact ll
  ·have h2:k1=xs.length:=by have:=of_decide_eq_false h2;omega
   subst h2
   rw[if_pos h]at ll
   rw[wrap_i64 (by omega) (by omega)]
   have pt:=trim_pol il (by omega)
   have lt:(Pl.trim l).length≤xs.length:=by
    rw[trim_len];exact Nat.le_trans (trimN_le _ _) ll
   refine⟨by unfold Pl.len9;omega,⟨h0,po.1,pt.1,po.2.1,pt.2.1⟩,hG _ ⟨i+1,rfl,h,pol_sml hq po.1 po.2.1 pt.2.1,Nat.le_trans (sml_len hq _ _) (by omega),fun j hj=> ?_⟩ (by simp only;omega)⟩
   rw[psL_sml hq po.1 pt.1,psL_trim]
   by_cases eji:j=i
   ·subst eji
    have h4:=(eo j hj).add ei
    rw[if_neg (by omega),show∀a:KQ hq,0+a=a from fun a=>by grind]at h4
    rw[if_pos (by omega)]
    exact h4
   ·have h4:=(eo j hj).add (ej j hj eji)
    rw[show∀a:KQ hq,a+0=a from fun a=>by grind]at h4
    by_cases h5:j<i
    ·rw[if_pos h5]at h4
     rw[if_pos (by omega)];exact h4
    ·rw[if_neg h5]at h4
     rw[if_neg (by omega)];exact h4
 ·have h:i=xs.length:=by have:=of_decide_eq_false h;omega
  subst h
  have hw:=nwt_ok hq hx hy hl h200 hn xs.length (Nat.le_refl _)
  congr 1
  exact thr_uniq hq hx hn po hw.po lo hw.lo (fun j hj=>by have:=eo j hj;rwa [if_pos hj]at this) hw.eo
theorem snd63:Sound Try.prog 63 C63:=fn_sound (T:=T63) (fn:=Try.f63) (tok0 ⟨snd96,snd69,snd33,snd99,snd110,snd112,snd111,trivial⟩) Try.func63 (by kernel_rfl) H63 vc63 (by kernel_rfl)
end Fd
end
section
set_option linter.unusedVariables false
set_option linter.unusedSimpArgs false
set_option linter.unusedSectionVars false
set_option maxRecDepth 100000
namespace Fd
open Go Fw Go.Proofs
theorem vc12: ∀x,C12.pre x→VC T12 H12 Try.f12 C12 x:=by
 rintro⟨(o:Int),(xs:List Int),(ys:List Int),⟨⟩⟩-
 refine cast (α:=True∧((0:Int)≤(12:Int)∧(12:Int)≤(1000:Int))∧((0:Int)≤(12:Int)∧(12:Int)≤(1000:Int))∧ ∃(n:Nat),itl (fun(G:List Int×List Int×Int×PUnit→Prop) (x:List Int×List Int×Int×PUnit)=>Br (decide (x.2.2.1<(2:Int))) (Pl.okF (D.rptr (fieldC (Pl.someQ o (500:Int))))∧Br ((↑(List.length x.1):Int) !=(↑(List.length x.2.1):Int)) (Br ((Pl.thr (Pl.qF (D.rptr (fieldC (Pl.someQ o (500:Int))))) x.1 x.2.1).2 !=(7:Int)) ((false,())=C12.post (o,xs,ys,())) (Br ((↑(Pl.thr (Pl.qF (D.rptr (fieldC (Pl.someQ o (500:Int))))) x.1 x.2.1).1.length:Int) !=(0:Int)) ((false,())=C12.post (o,xs,ys,())) (∃(n:Nat),itl (fun(G_1:List Int×Int×PUnit→Prop) (x_1:List Int×Int×PUnit)=>Br (decide (x_1.2.1<(↑(List.length x.2.1):Int))) (Br (decide (x_1.2.1<Pl.someQ o (500:Int))) (((↑(List.length x_1.1):Int)+(↑[x_1.2.1].length:Int))*(8:Int)≤(140737488355328:Int)∧G_1 (List.append x_1.1 [x_1.2.1],IntKind.i64.wrap (x_1.2.1+(1:Int)),())) ((Pl.okr (Pl.someQ o (500:Int),Pl.lpf (Pl.someQ o (500:Int)),Pl.K (Pl.someQ o (500:Int)),Pl.Mod (Pl.someQ o (500:Int)),())∧Pl.most (↑(List.length x_1.1):Int))∧G (x_1.1,List.map (fun(x:i64.El)=>x%Pl.someQ o (500:Int)) (List.take (↑(List.length x_1.1):Int).toNat x.2.1),IntKind.i64.wrap (x.2.2.1+(1:Int)),()))) ((Pl.okr (Pl.someQ o (500:Int),Pl.lpf (Pl.someQ o (500:Int)),Pl.K (Pl.someQ o (500:Int)),Pl.Mod (Pl.someQ o (500:Int)),())∧Pl.most (↑(List.length x_1.1):Int))∧G (x_1.1,List.map (fun(x:i64.El)=>x%Pl.someQ o (500:Int)) (List.take (↑(List.length x_1.1):Int).toNat x.2.1),IntKind.i64.wrap (x.2.2.1+(1:Int)),()))) n ([],(0:Int),())))) ((Pl.okr (Pl.someQ o (500:Int),Pl.lpf (Pl.someQ o (500:Int)),Pl.K (Pl.someQ o (500:Int)),Pl.Mod (Pl.someQ o (500:Int)),())∧x.1.length≤(1000000000:Nat))∧Br (!Pl.els (Pl.someQ o (500:Int)) x.1) (Br ((Pl.thr (Pl.qF (D.rptr (fieldC (Pl.someQ o (500:Int))))) x.1 x.2.1).2 !=(1:Int)) ((false,())=C12.post (o,xs,ys,())) (Br ((↑(Pl.thr (Pl.qF (D.rptr (fieldC (Pl.someQ o (500:Int))))) x.1 x.2.1).1.length:Int) !=(0:Int)) ((false,())=C12.post (o,xs,ys,())) (∃(n:Nat),itl (fun(G_1:List Int×Int×PUnit→Prop) (x_1:List Int×Int×PUnit)=>Br (decide (x_1.2.1<(↑(List.length x.2.1):Int))) (Br (decide (x_1.2.1<Pl.someQ o (500:Int))) (((↑(List.length x_1.1):Int)+(↑[x_1.2.1].length:Int))*(8:Int)≤(140737488355328:Int)∧G_1 (List.append x_1.1 [x_1.2.1],IntKind.i64.wrap (x_1.2.1+(1:Int)),())) ((Pl.okr (Pl.someQ o (500:Int),Pl.lpf (Pl.someQ o (500:Int)),Pl.K (Pl.someQ o (500:Int)),Pl.Mod (Pl.someQ o (500:Int)),())∧Pl.most (↑(List.length x_1.1):Int))∧G (x_1.1,List.map (fun(x:i64.El)=>x%Pl.someQ o (500:Int)) (List.take (↑(List.length x_1.1):Int).toNat x.2.1),IntKind.i64.wrap (x.2.2.1+(1:Int)),()))) ((Pl.okr (Pl.someQ o (500:Int),Pl.lpf (Pl.someQ o (500:Int)),Pl.K (Pl.someQ o (500:Int)),Pl.Mod (Pl.someQ o (500:Int)),())∧Pl.most (↑(List.length x_1.1):Int))∧G (x_1.1,List.map (fun(x:i64.El)=>x%Pl.someQ o (500:Int)) (List.take (↑(List.length x_1.1):Int).toNat x.2.1),IntKind.i64.wrap (x.2.2.1+(1:Int)),()))) n ([],(0:Int),())))) ((Pl.okr (Pl.someQ o (500:Int),Pl.lpf (Pl.someQ o (500:Int)),Pl.K (Pl.someQ o (500:Int)),Pl.Mod (Pl.someQ o (500:Int)),())∧List.length x.2.1≤(1000000000:Nat))∧Br (!Pl.els (Pl.someQ o (500:Int)) x.2.1) (Br ((Pl.thr (Pl.qF (D.rptr (fieldC (Pl.someQ o (500:Int))))) x.1 x.2.1).2 !=(1:Int)) ((false,())=C12.post (o,xs,ys,())) (Br ((↑(Pl.thr (Pl.qF (D.rptr (fieldC (Pl.someQ o (500:Int))))) x.1 x.2.1).1.length:Int) !=(0:Int)) ((false,())=C12.post (o,xs,ys,())) (∃(n:Nat),itl (fun(G_1:List Int×Int×PUnit→Prop) (x_1:List Int×Int×PUnit)=>Br (decide (x_1.2.1<(↑(List.length x.2.1):Int))) (Br (decide (x_1.2.1<Pl.someQ o (500:Int))) (((↑(List.length x_1.1):Int)+(↑[x_1.2.1].length:Int))*(8:Int)≤(140737488355328:Int)∧G_1 (List.append x_1.1 [x_1.2.1],IntKind.i64.wrap (x_1.2.1+(1:Int)),())) ((Pl.okr (Pl.someQ o (500:Int),Pl.lpf (Pl.someQ o (500:Int)),Pl.K (Pl.someQ o (500:Int)),Pl.Mod (Pl.someQ o (500:Int)),())∧Pl.most (↑(List.length x_1.1):Int))∧G (x_1.1,List.map (fun(x:i64.El)=>x%Pl.someQ o (500:Int)) (List.take (↑(List.length x_1.1):Int).toNat x.2.1),IntKind.i64.wrap (x.2.2.1+(1:Int)),()))) ((Pl.okr (Pl.someQ o (500:Int),Pl.lpf (Pl.someQ o (500:Int)),Pl.K (Pl.someQ o (500:Int)),Pl.Mod (Pl.someQ o (500:Int)),())∧Pl.most (↑(List.length x_1.1):Int))∧G (x_1.1,List.map (fun(x:i64.El)=>x%Pl.someQ o (500:Int)) (List.take (↑(List.length x_1.1):Int).toNat x.2.1),IntKind.i64.wrap (x.2.2.1+(1:Int)),()))) n ([],(0:Int),())))) (x.1.length≤(1000000:Nat)∧Br (!decide x.1.Nodup) (Br ((Pl.thr (Pl.qF (D.rptr (fieldC (Pl.someQ o (500:Int))))) x.1 x.2.1).2 !=(1:Int)) ((false,())=C12.post (o,xs,ys,())) (Br ((↑(Pl.thr (Pl.qF (D.rptr (fieldC (Pl.someQ o (500:Int))))) x.1 x.2.1).1.length:Int) !=(0:Int)) ((false,())=C12.post (o,xs,ys,())) (∃(n:Nat),itl (fun(G_1:List Int×Int×PUnit→Prop) (x_1:List Int×Int×PUnit)=>Br (decide (x_1.2.1<(↑(List.length x.2.1):Int))) (Br (decide (x_1.2.1<Pl.someQ o (500:Int))) (((↑(List.length x_1.1):Int)+(↑[x_1.2.1].length:Int))*(8:Int)≤(140737488355328:Int)∧G_1 (List.append x_1.1 [x_1.2.1],IntKind.i64.wrap (x_1.2.1+(1:Int)),())) ((Pl.okr (Pl.someQ o (500:Int),Pl.lpf (Pl.someQ o (500:Int)),Pl.K (Pl.someQ o (500:Int)),Pl.Mod (Pl.someQ o (500:Int)),())∧Pl.most (↑(List.length x_1.1):Int))∧G (x_1.1,List.map (fun(x:i64.El)=>x%Pl.someQ o (500:Int)) (List.take (↑(List.length x_1.1):Int).toNat x.2.1),IntKind.i64.wrap (x.2.2.1+(1:Int)),()))) ((Pl.okr (Pl.someQ o (500:Int),Pl.lpf (Pl.someQ o (500:Int)),Pl.K (Pl.someQ o (500:Int)),Pl.Mod (Pl.someQ o (500:Int)),())∧Pl.most (↑(List.length x_1.1):Int))∧G (x_1.1,List.map (fun(x:i64.El)=>x%Pl.someQ o (500:Int)) (List.take (↑(List.length x_1.1):Int).toNat x.2.1),IntKind.i64.wrap (x.2.2.1+(1:Int)),()))) n ([],(0:Int),())))) (Br ((Pl.thr (Pl.qF (D.rptr (fieldC (Pl.someQ o (500:Int))))) x.1 x.2.1).2 !=(0:Int)) ((false,())=C12.post (o,xs,ys,())) ((Pl.okr (Pl.someQ o (500:Int),Pl.lpf (Pl.someQ o (500:Int)),Pl.K (Pl.someQ o (500:Int)),Pl.Mod (Pl.someQ o (500:Int)),())∧Pl.okTh (Pl.someQ o (500:Int)) x.1 x.2.1)∧(Pl.thr (Pl.qF (D.rptr (fieldC (Pl.someQ o (500:Int))))) x.1 x.2.1).1.length≤(1000000000:Nat)∧Br (!Pl.same (Pl.thr (Pl.qF (D.rptr (fieldC (Pl.someQ o (500:Int))))) x.1 x.2.1).1 (Pl.nwt (Pl.someQ o (500:Int)) x.1 x.2.1 x.1.length).1) ((false,())=C12.post (o,xs,ys,())) (∃(n:Nat),itl (fun(G_1:List Int×Int×PUnit→Prop) (x_1:List Int×Int×PUnit)=>Br (decide (x_1.2.1<(↑(List.length x.2.1):Int))) (Br (decide (x_1.2.1<Pl.someQ o (500:Int))) (((↑(List.length x_1.1):Int)+(↑[x_1.2.1].length:Int))*(8:Int)≤(140737488355328:Int)∧G_1 (List.append x_1.1 [x_1.2.1],IntKind.i64.wrap (x_1.2.1+(1:Int)),())) ((Pl.okr (Pl.someQ o (500:Int),Pl.lpf (Pl.someQ o (500:Int)),Pl.K (Pl.someQ o (500:Int)),Pl.Mod (Pl.someQ o (500:Int)),())∧Pl.most (↑(List.length x_1.1):Int))∧G (x_1.1,List.map (fun(x:i64.El)=>x%Pl.someQ o (500:Int)) (List.take (↑(List.length x_1.1):Int).toNat x.2.1),IntKind.i64.wrap (x.2.2.1+(1:Int)),()))) ((Pl.okr (Pl.someQ o (500:Int),Pl.lpf (Pl.someQ o (500:Int)),Pl.K (Pl.someQ o (500:Int)),Pl.Mod (Pl.someQ o (500:Int)),())∧Pl.most (↑(List.length x_1.1):Int))∧G (x_1.1,List.map (fun(x:i64.El)=>x%Pl.someQ o (500:Int)) (List.take (↑(List.length x_1.1):Int).toNat x.2.1),IntKind.i64.wrap (x.2.2.1+(1:Int)),()))) n ([],(0:Int),())))))))) ((0:Int)≤(201:Int)∧(201:Int)=(201:Int)∧(201:Int)*(8:Int)≤(140737488355328:Int)∧Pl.okF (D.rptr (fieldC (Pl.someQ o (500:Int))))∧Br ((Pl.thr (Pl.qF (D.rptr (fieldC (Pl.someQ o (500:Int))))) (List.replicate 201 (0:Int)) (List.replicate 201 (0:Int))).2==(2:Int)) (True∧(true,())=C12.post (o,xs,ys,())) ((false,())=C12.post (o,xs,ys,())))) n (List.take (Int.toNat (12:Int)) xs,List.take (Int.toNat (12:Int)) ys,(0:Int),())) (by kernel_rfl) ?_
 have hq:=someQ_isQ o 500
 generalize Pl.someQ o 500=q at*
 rw[qF_f]
 have hr:Pl.okr (q,Pl.lpf q,Pl.K q,Pl.Mod q,()):=okr_RF hq
 have oF:=okF_f hq
 have hp:C12.post (o,xs,ys,())=(true,()):=rfl
 rw[hp]
 have no: ∀ {b:Bool} {X Y:Prop},b=false→Y→Br b X Y:=fun h y=>by subst h;exact y
 have l12: ∀l:List Int,(l.take (Int.toNat 12)).length≤200:=fun l=>by rw[List.length_take];have:Int.toNat 12=12:=rfl;omega
 refine⟨trivial,⟨by decide,by decide⟩,⟨by decide,by decide⟩, ?_⟩
 refine itl_rule (fun s=>s.1.length≤200∧s.2.1.length≤200∧0≤s.2.2.1∧s.2.2.1≤2) (fun s=>(2-s.2.2.1).toNat) ⟨l12 xs,l12 ys,Int.le_refl 0,show(0:Int)≤2 by decide⟩ ?_
 rintro⟨a,b,k,⟨⟩⟩ G ⟨la,lb,k0,k2⟩ hG
 simp only at la lb k0 k2 hG⊢
 refine Br_of (fun h=> ?_) (fun h=> ?_)
 ·have h:=of_decide_eq_true h
  have hk: ∀(a':List Int) (n:Nat),a'.length≤200→G (a',(b.take n).map (fun x=>x%q),IntKind.i64.wrap (k+1),()):=fun a' n ha'=>by
   rw[wrap_i64 (by omega) (by omega)]
   exact hG _ ⟨ha',by simp only[List.length_map,List.length_take];omega,by simp only;omega,by simp only;omega⟩ (by simp only;omega)
  refine⟨oF, ?_⟩
  by_cases h1:a.length=b.length
  ·refine no (by rw[h1];exact bne_self_eq_false _) ⟨⟨hr,by omega⟩, ?_⟩
   have hb:a.length≤200:=la
   cases e1:Pl.els q a with
   |false=>
    have e:Pl.thr q a b=([],1):=by unfold Pl.thr;rw[show decide (a.length≠b.length)=false from decide_eq_false (fun h'=>h' h1),decide_eq_false (show¬a.length>200 by omega),e1];rfl
    rw[e]
    refine Br_of (fun _=>no rfl (no rfl ?_)) (fun h=>by cases h)
    refine itl_rule (fun s=> ∃i:Nat,s.2.1=(i:Int)∧s.1.length=i∧i≤b.length) (fun s=>((b.length:Int)-s.2.1).toNat) ⟨0,rfl,rfl,Nat.zero_le _⟩ ?_
    rintro⟨w,i0,⟨⟩⟩ G2 ⟨i,e2,lw,hi⟩ hG2
    simp only at e2 lw hG2⊢
    subst e2
    have hl:Pl.most (w.length:Int):=⟨by omega,by omega⟩
    have hgo:=hk w w.length (by omega)
    refine Br_of (fun h4=>Br_of (fun _=>⟨by simp only[List.length_singleton];omega, ?_⟩) (fun _=>⟨⟨hr,hl⟩,hgo⟩)) (fun _=>⟨⟨hr,hl⟩,hgo⟩)
    have h4:=of_decide_eq_true h4
    rw[wrap_i64 (by omega) (by omega)]
    exact hG2 _ ⟨i+1,rfl,by simp only[List.append_eq,List.length_append,List.length_singleton];omega,by omega⟩ (by simp only;omega)
   |true=>
    refine no rfl ⟨⟨hr,by omega⟩, ?_⟩
    cases e2:Pl.els q b with
    |false=>
     have e:Pl.thr q a b=([],1):=by unfold Pl.thr;rw[show decide (a.length≠b.length)=false from decide_eq_false (fun h'=>h' h1),decide_eq_false (show¬a.length>200 by omega),e1,e2];rfl
     rw[e]
     refine Br_of (fun _=>no rfl (no rfl ?_)) (fun h=>by cases h)
     refine itl_rule (fun s=> ∃i:Nat,s.2.1=(i:Int)∧s.1.length=i∧i≤b.length) (fun s=>((b.length:Int)-s.2.1).toNat) ⟨0,rfl,rfl,Nat.zero_le _⟩ ?_
     rintro⟨w,i0,⟨⟩⟩ G2 ⟨i,e2,lw,hi⟩ hG2
     simp only at e2 lw hG2⊢
     subst e2
     have hl:Pl.most (w.length:Int):=⟨by omega,by omega⟩
     have hgo:=hk w w.length (by omega)
     refine Br_of (fun h4=>Br_of (fun _=>⟨by simp only[List.length_singleton];omega, ?_⟩) (fun _=>⟨⟨hr,hl⟩,hgo⟩)) (fun _=>⟨⟨hr,hl⟩,hgo⟩)
     have h4:=of_decide_eq_true h4
     rw[wrap_i64 (by omega) (by omega)]
     exact hG2 _ ⟨i+1,rfl,by simp only[List.append_eq,List.length_append,List.length_singleton];omega,by omega⟩ (by simp only;omega)
    |true=>
     refine no rfl ⟨by omega, ?_⟩
     cases e3:decide a.Nodup with
     |false=>
      have e:Pl.thr q a b=([],1):=by unfold Pl.thr;rw[show decide (a.length≠b.length)=false from decide_eq_false (fun h'=>h' h1),decide_eq_false (show¬a.length>200 by omega),e1,e2,e3];rfl
      rw[e]
      refine Br_of (fun _=>no rfl (no rfl ?_)) (fun h=>by cases h)
      refine itl_rule (fun s=> ∃i:Nat,s.2.1=(i:Int)∧s.1.length=i∧i≤b.length) (fun s=>((b.length:Int)-s.2.1).toNat) ⟨0,rfl,rfl,Nat.zero_le _⟩ ?_
      rintro⟨w,i0,⟨⟩⟩ G2 ⟨i,e2,lw,hi⟩ hG2
      simp only at e2 lw hG2⊢
      subst e2
      have hl:Pl.most (w.length:Int):=⟨by omega,by omega⟩
      have hgo:=hk w w.length (by omega)
      refine Br_of (fun h4=>Br_of (fun _=>⟨by simp only[List.length_singleton];omega, ?_⟩) (fun _=>⟨⟨hr,hl⟩,hgo⟩)) (fun _=>⟨⟨hr,hl⟩,hgo⟩)
      have h4:=of_decide_eq_true h4
      rw[wrap_i64 (by omega) (by omega)]
      exact hG2 _ ⟨i+1,rfl,by simp only[List.append_eq,List.length_append,List.length_singleton];omega,by omega⟩ (by simp only;omega)
     |true=>
      have e:Pl.thr q a b=((Pl.nwt q a b a.length).1,0):=by unfold Pl.thr;rw[show decide (a.length≠b.length)=false from decide_eq_false (fun h'=>h' h1),decide_eq_false (show¬a.length>200 by omega),e1,e2,e3];rfl
      have hw:=nwt_ok hq (els_in e1) (els_in e2) h1 la (of_decide_eq_true e3) a.length (Nat.le_refl _)
      have hlo:=hw.lo
      rw[e]
      refine no rfl (no rfl ⟨⟨hr,els_in e1,els_in e2,h1,la,of_decide_eq_true e3⟩,by show(Pl.nwt q a b a.length).1.length≤_;omega,no (by rw[same_self];rfl) ?_⟩)
      refine itl_rule (fun s=> ∃i:Nat,s.2.1=(i:Int)∧s.1.length=i∧i≤b.length) (fun s=>((b.length:Int)-s.2.1).toNat) ⟨0,rfl,rfl,Nat.zero_le _⟩ ?_
      rintro⟨w,i0,⟨⟩⟩ G2 ⟨i,e2,lw,hi⟩ hG2
      simp only at e2 lw hG2⊢
      subst e2
      have hl:Pl.most (w.length:Int):=⟨by omega,by omega⟩
      have hgo:=hk w w.length (by omega)
      refine Br_of (fun h4=>Br_of (fun _=>⟨by simp only[List.length_singleton];omega, ?_⟩) (fun _=>⟨⟨hr,hl⟩,hgo⟩)) (fun _=>⟨⟨hr,hl⟩,hgo⟩)
      have h4:=of_decide_eq_true h4
      rw[wrap_i64 (by omega) (by omega)]
      exact hG2 _ ⟨i+1,rfl,by simp only[List.append_eq,List.length_append,List.length_singleton];omega,by omega⟩ (by simp only;omega)
  ·have e:Pl.thr q a b=([],7):=by unfold Pl.thr;rw[show decide (a.length≠b.length)=true from decide_eq_true h1];rfl
   rw[e]
   refine Br_of (fun _=>no rfl (no rfl ?_)) (fun h=>absurd (Int.ofNat.inj (show((a.length:Nat):Int)=(b.length:Nat)by simpa using h)) h1)
   refine itl_rule (fun s=> ∃i:Nat,s.2.1=(i:Int)∧s.1.length=i∧i≤b.length) (fun s=>((b.length:Int)-s.2.1).toNat) ⟨0,rfl,rfl,Nat.zero_le _⟩ ?_
   rintro⟨w,i0,⟨⟩⟩ G2 ⟨i,e2,lw,hi⟩ hG2
   simp only at e2 lw hG2⊢
   subst e2
   have hl:Pl.most (w.length:Int):=⟨by omega,by omega⟩
   have hgo:=hk w w.length (by omega)
   refine Br_of (fun h4=>Br_of (fun _=>⟨by simp only[List.length_singleton];omega, ?_⟩) (fun _=>⟨⟨hr,hl⟩,hgo⟩)) (fun _=>⟨⟨hr,hl⟩,hgo⟩)
   have h4:=of_decide_eq_true h4
   rw[wrap_i64 (by omega) (by omega)]
   exact hG2 _ ⟨i+1,rfl,by simp only[List.append_eq,List.length_append,List.length_singleton];omega,by omega⟩ (by simp only;omega)
 ·have e:Pl.thr q (List.replicate 201 0) (List.replicate 201 0)=([],2):=by
   unfold Pl.thr
   rw[show decide ((List.replicate 201 (0:Int)).length≠(List.replicate 201 (0:Int)).length)=false from decide_eq_false (fun h'=>h' rfl),List.length_replicate];rfl
  rw[e]
  exact⟨by decide,trivial,by decide,oF,trivial,trivial⟩
theorem snd12:Sound Try.prog 12 C12:=fn_sound (T:=T12) (fn:=Try.f12) (tok0 ⟨snd19,snd25,snd61,snd47,snd62,snd63,snd50,snd26,snd24,trivial⟩) Try.func12 (by kernel_rfl) H12 vc12 (by kernel_rfl)
end Fd
end
section
namespace Go.Proofs.Ytfhlgbgclkahnaa
open Go.ChangeShapes Go.WideShapes Go.ChangeAt Go.RowKit
set_option linter.unusedVariables false
set_option maxRecDepth 100000

theorem laidTry:laidOutB Try.prog=true:=by kernel_rfl
theorem cells3:Try.prog.cellsOf 3=1:=by kernel_rfl
section
variable {H : Type} {enc : TypeId × Value → H} {W : World}
abbrev O0:Fw.OO:=⟨fun _=>False,Fw.nn⟩
theorem srep_ints {b0:Nat} {v:Value} {d:DataW H} {ps:List MemPlace} (hval:Value.okWide Try.prog W .any b0 30 v) (hd:DataW.Trod enc Try.prog W 0 (fun _=>true) true 30 v d ps): ∃l:List Int,Fw.SRep W O0 (.int .i64) l v:=by
 obtain⟨a0,len0,cap0,rfl⟩:=okWide_slice Try.underlying30 hval
 obtain⟨fuel,hf⟩:=hd
 rcases open_ints Try.underlying30 Try.underlying3 cells3 hf with⟨hcs,_⟩|⟨a,len,cap,zs,hcs,_,hl,_,hz,_,hcell,_⟩
 ·simp[Value.cells]at hcs
  obtain⟨rfl,rfl,rfl⟩:=hcs
  exact⟨[],none,0,rfl,Nat.le_refl _,fun h=>absurd h (Nat.lt_irrefl 0)⟩
 ·simp[Value.cells]at hcs
  obtain⟨rfl,rfl,rfl⟩:=hcs
  simp only[if_true]at hz
  have hlen:(zs.take len0).length=len0:=by rw[List.length_take];omega
  refine⟨zs.take len0,some a,cap0,by rw[hlen],by rw[hlen];exact hl,fun _=>⟨a,rfl,fun j hj=>⟨fun h=>h, ?_⟩⟩⟩
  have hj':j<len0:=by rw[hlen]at hj;exact hj
  have h1:=hcell j (by omega)
  show W.cell? (a.add (j*1))=some (.int .i64 (zs.take len0)[j])
  rw[Nat.mul_one,h1,List.getElem_take,List.getD_eq_getElem?_getD,List.getElem?_eq_getElem (by omega)];rfl
end
end Go.Proofs.Ytfhlgbgclkahnaa
end
