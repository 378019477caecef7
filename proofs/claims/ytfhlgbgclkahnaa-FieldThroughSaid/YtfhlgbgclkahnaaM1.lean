import Derived.Below
import Derived.WalkKit
import Derived.KernelRfl
import Derived.Laws.AppendOwn
import Derived.Laws.OwnMore
import Derived.Laws.MakeOwn
import Derived.Deep.Draws
import Derived.Great.BuildSlice
section
set_option linter.unusedVariables false
namespace Fw
open Go Go.RowKit

def GOK (w:World):Prop:=True
theorem GOK.below {w w':World} (h:GOK w) (hb:Below w.heap.size w w'):GOK w':=trivial
def OKO (O:Nat→Prop) (w:World):Prop:=(∀b,O b→b<w.heap.size)∧GOK w

end Fw
end
section
set_option linter.unusedVariables false
set_option linter.unusedSimpArgs false
namespace Fw
open Go

structure OO where
 p:Nat→Prop
 nm:Nat→Nat→Option Value
instance : CoeFun OO fun _ => Nat → Prop := ⟨OO.p⟩
def nn:Nat→Nat→Option Value:=fun _ _=>none
def OO.bare (O:OO):OO:=⟨fun _=>False,O.nm⟩
def evenB:Nat→Bool
 |0=>true
 |n+1=> !evenB n
def nilK (K:Nat):Value:=match evenB K with
 |true=> .slice none 0 0
 |false=> .pointer none
def OO.nmv (O:OO) (K j:Nat):Option Value:=match j with
 |0=>some (nilK K)
 |j+1=>O.nm K j

def OO.is (O:OO) (K j:Nat) (v:Value):Prop:=O.nmv K j=some v∧v.oneCell'=true

inductive Ty where
 |int (k:IntKind)|bool|str|slc (t:Ty)|pair (a b:Ty)|unit
 | ref (K : Nat)          -- a slice or a pointer: a member of the arena K

@[reducible] def Ty.El : Ty → Type
 | .int _=>Int
 | .bool=>Bool
 | .str=>ByteArray
 | .slc t=>List t.El
 | .pair a b=>a.El×b.El
 | .unit=>Unit
 | .ref _=>Nat

def Ty.size:Ty→Nat
 | .int _=>1| .bool=>1| .str=>1| .slc _=>1| .ref _=>1
 | .pair a b=>a.size+b.size
 | .unit=>0

def Ty.dflt:(t:Ty)→t.El
 | .int _=>(0:Int)
 | .bool=>false
 | .str=>(⟨#[]⟩:ByteArray)
 | .slc _=>[]
 | .pair a b=>(a.dflt,b.dflt)
 | .unit=>()
 | .ref _=>(0:Nat)

def ikb:IntKind→IntKind→Bool
 | .i8, .i8=>true| .i16, .i16=>true| .i32, .i32=>true| .i64, .i64=>true
 | .u8, .u8=>true| .u16, .u16=>true| .u32, .u32=>true| .u64, .u64=>true
 |_,_=>false
theorem ikb_eq {a b:IntKind} (h:ikb a b=true):a=b:=by
 cases a<;>cases b<;>first|rfl|cases h

def Ty.beq:Ty→Ty→Bool
 | .int k, .int k'=>ikb k k'
 | .bool, .bool=>true
 | .str, .str=>true
 | .slc t, .slc t'=>Ty.beq t t'
 | .pair a b, .pair a' b'=>Ty.beq a a'&&Ty.beq b b'
 | .unit, .unit=>true
 | .ref K, .ref K'=>Nat.beq K K'
 |_,_=>false
theorem Ty.eq_of_beq: ∀ {a b:Ty},Ty.beq a b=true→a=b:=by
 intro a
 induction a with
 |int k=>intro b h;cases b<;>first|(rw[ikb_eq h])|cases h
 |bool=>intro b h;cases b<;>first|rfl|cases h
 |str=>intro b h;cases b<;>first|rfl|cases h
 |slc t ih=>
  intro b h
  cases b with
  |slc t'=>rw[ih (b:=t') h]
  |_=>cases h
 |pair x y ihx ihy=>
  intro b h
  cases b with
  |pair x' y'=>
   simp only[Ty.beq,Bool.and_eq_true]at h
   rw[ihx h.1,ihy h.2]
  |_=>cases h
 |unit=>intro b h;cases b<;>first|rfl|cases h
 |ref K=>
  intro b h
  cases b with
  |ref K'=>rw[Nat.eq_of_beq_eq_true h]
  |_=>cases h

def castL (t t':Ty) (xs:List t.El):Option (List t'.El):=
 if h:Ty.beq t t'=true then some (Ty.eq_of_beq h▸xs)else none

def castM (t t':Ty) (xs:List (Option (List t.El))):Option (List (Option (List t'.El))):=
 if h:Ty.beq t t'=true then some (Ty.eq_of_beq h▸xs)else none

inductive D where
 |int (k:IntKind) (n:Int)
 |bool (b:Bool)
 |str (s:ByteArray)
 |slc (f:Bool) (t:Ty) (xs:List t.El)
 |agg (cs:List D)
 |iface (t:TypeId) (d:D)
 |rptr (cs:List D)
 |clo (f:FuncId) (cs:List D)
 | bfn (f : Fn) (cs : List D)    -- a function or a method with its first arguments
 | ref (K j : Nat)       -- the member j of the arena K; 0: nil
 |val (v:Value)
 |top

def D.cells:D→List D
 | .agg cs=>cs
 |d=>[d]

def Ty.cells:(t:Ty)→t.El→List D
 | .int k,n=>[.int k n]
 | .bool,b=>[.bool b]
 | .str,s=>[.str s]
 | .slc t,xs=>[.slc false t xs]
 | .pair a b,x=>a.cells x.1++b.cells x.2
 | .unit,_=>[]
 | .ref K,j=>[.ref K j]

def Ty.toD:(t:Ty)→t.El→D
 | .int k,n=> .int k n
 | .bool,b=> .bool b
 | .str,s=> .str s
 | .slc t,xs=> .slc false t xs
 | .pair a b,x=> .agg (a.cells x.1++b.cells x.2)
 | .unit,_=> .agg []
 | .ref K,j=> .ref K j

def Ty.ofCells:(t:Ty)→List D→Option (t.El×List D)
 | .int k, .int k' n::r=>bif ikb k k' then some (n,r)else none
 | .bool, .bool b::r=>some (b,r)
 | .str, .str s::r=>some (s,r)
 | .slc t, .slc _ t' xs::r=>match castL t' t xs with|some ys=>some (ys,r)|none=>none
 | .slc _, .val (.slice none 0 0)::r=>some ([],r)
 | .pair a b,cs=>match a.ofCells cs with
  |some (x,r)=>match b.ofCells r with
   |some (y,r')=>some ((x,y),r')
   |none=>none
  |none=>none
 | .unit,cs=>some ((),cs)
 | .ref K, .ref K' j::r=>bif Nat.beq K K' then some (j,r)else none
 | .ref K, .val (.slice none 0 0)::r=>bif evenB K then some ((0:Nat),r)else none
 | .ref K, .val (.pointer none)::r=>bif evenB K then none else some ((0:Nat),r)
 |_,_=>none

def Ty.isAgg:Ty→Bool
 | .pair _ _=>true
 | .unit=>true
 |_=>false
def fin {α:Type}:Option (α×List D)→Option α
 |some (x,[])=>some x
 |_=>none
def Ty.ofD (t:Ty) (d:D):Option t.El:=
 bif t.isAgg then(match d with
  | .agg cs=>fin (t.ofCells cs)
  |_=>none)else fin (t.ofCells [d])

def Rd (w:World) (O:OO) (a:Addr) (u:Value):Prop:= ¬O a.block∧w.cell? a=some u

def ERep (w:World) (O:OO):(t:Ty)→t.El→(Nat→Value→Prop)→Nat→Prop
 | .int k,n,f,i=>f i (.int k n)
 | .bool,b,f,i=>f i (.bool b)
 | .str,s,f,i=>f i (.string s)
 | .slc t,xs,f,i=> ∃a c,f i (.slice a xs.length c)∧xs.length≤c∧
   (0<xs.length→ ∃ad,a=some ad∧ ∀j (h:j<xs.length),ERep w O t xs[j] (fun i u=>Rd w O (ad.add i) u) (j*t.size))
 | .pair a b,x,f,i=>ERep w O a x.1 f i∧ERep w O b x.2 f (i+a.size)
 | .unit,_,_,_=>True
 | .ref K,j,f,i=> ∃v,O.is K j v∧f i v

def SRep (w:World) (O:OO) (t:Ty) (xs:List t.El) (v:Value):Prop:=
 ∃a c,v= .slice a xs.length c∧xs.length≤c∧
   (0<xs.length→ ∃ad,a=some ad∧ ∀j (h:j<xs.length),ERep w O t xs[j] (fun i u=>Rd w O (ad.add i) u) (j*t.size))

mutual
def VRep (w : World) (O : OO) : D → Value → Prop
  | .int k n, v => v = .int k n
  | .bool b, v => v = .bool b
  | .str s, v => v = .string s
  | .slc f t xs, v => SRep w O t xs v ∧ (f = true → ∃ a n, v = .slice a n n)
  | .agg cs, v => ∃ vs : Array Value, v = .agg vs ∧ LRep w O cs vs.toList
  | .iface t d, v => ∃ u, v = .iface t u ∧ VRep w O d u
  | .rptr cs, v => ∃ ad, v = .pointer (some ad) ∧ PRep w O cs ad 0
  | .clo f cs, v => ∃ vs : Array Value, v = .func (.func f) #[] vs ∧ LRep w O cs vs.toList
  | .bfn f cs, v => ∃ vs : Array Value, v = .func f vs #[] ∧ LRep w O cs vs.toList
  | .ref K j, v => O.is K j v
  | .val u, v => v = u
  | .top, _ => True
def LRep (w : World) (O : OO) : List D → List Value → Prop
  | [], vs => vs = []
  | d :: ds, vs => ∃ u us, vs = u :: us ∧ VRep w O d u ∧ LRep w O ds us
def PRep (w : World) (O : OO) : List D → Addr → Nat → Prop
  | [], _, _ => True
  | d :: ds, ad, i => (∃ u, Rd w O (ad.add i) u ∧ VRep w O d u) ∧ PRep w O ds ad (i + 1)
end

structure Keeps (w : World) (O : OO) (w' : World) (O' : OO) : Prop where
 same: ∀b,b<w.heap.size→ ¬O b→w'.heap[b]? =w.heap[b]?
 out: ∀b,b<w.heap.size→ ¬O b→ ¬O' b
 nm: ∀K j v,O.nm K j=some v→O'.nm K j=some v
theorem Keeps.nmv {w w':World} {O O':OO} (k:Keeps w O w' O') {K j:Nat} {v:Value} (h:O.is K j v):O'.is K j v:=by
 cases j with
 |zero=>exact h
 |succ j=>exact⟨k.nm K j v h.1,h.2⟩
theorem OO.nil (O:OO) (K:Nat):O.is K 0 (nilK K):=⟨rfl,by unfold nilK;cases evenB K<;>rfl⟩

theorem cell_lt {w:World} {a:Addr} {u:Value} (h:w.cell? a=some u):a.block<w.heap.size:=by
 unfold World.cell? at h
 rcases Nat.lt_or_ge a.block w.heap.size with h'|h'
 ·exact h'
 ·simp[Array.getElem?_eq_none h']at h

theorem Rd.keeps {w w':World} {O O':OO} {a:Addr} {u:Value} (k:Keeps w O w' O') (h:Rd w O a u):Rd w' O' a u:=by
 have hl:=cell_lt h.2
 refine⟨k.out _ hl h.1, ?_⟩
 have:=k.same _ hl h.1
 have h2:=h.2
 unfold World.cell? at h2⊢
 rw[this];exact h2

theorem ERep.imp {w:World} {O:OO} {w':World} {O':OO} (k:Keeps w O w' O'): ∀(t:Ty) (x:t.El) (f g:Nat→Value→Prop) (i i':Nat),
  (∀j u,j<t.size→f (i+j) u→g (i'+j) u)→ERep w O t x f i→ERep w' O' t x g i'
 | .int _,_,f,g,i,i',hg,h=>by have:=hg 0 _ (by simp[Ty.size]) (by simpa [ERep]using h);simpa [ERep]using this
 | .bool,_,f,g,i,i',hg,h=>by have:=hg 0 _ (by simp[Ty.size]) (by simpa [ERep]using h);simpa [ERep]using this
 | .str,_,f,g,i,i',hg,h=>by have:=hg 0 _ (by simp[Ty.size]) (by simpa [ERep]using h);simpa [ERep]using this
 | .slc t,xs,f,g,i,i',hg,h=>by
  obtain⟨a,c,h1,h2,h3⟩:=h
  refine⟨a,c,by simpa using hg 0 _ (by simp[Ty.size]) (by simpa using h1),h2,fun h0=> ?_⟩
  obtain⟨ad,ha,h4⟩:=h3 h0
  exact⟨ad,ha,fun j hj=>ERep.imp k t _ _ _ _ _ (fun j u _ hu=>hu.keeps k) (h4 j hj)⟩
 | .pair a b,x,f,g,i,i',hg,h=>by
  refine⟨ERep.imp k a x.1 f g i i' (fun j u hj hu=>hg j u (by simp[Ty.size];omega) hu) h.1, ?_⟩
  refine ERep.imp k b x.2 f g (i+a.size) (i'+a.size) (fun j u hj hu=> ?_) h.2
  have:=hg (a.size+j) u (by simp[Ty.size];omega) (by rw[←Nat.add_assoc];exact hu)
  rw[←Nat.add_assoc]at this;exact this
 | .unit,_,_,_,_,_,_,_=>trivial
 | .ref K,j,f,g,i,i',hg,h=>by
  obtain⟨v,h1,h2⟩:=h
  exact⟨v,k.nmv h1,by simpa using hg 0 _ (by simp[Ty.size]) (by simpa using h2)⟩

theorem Keeps.refl (w:World) (O:OO):Keeps w O w O:=⟨fun _ _ _=>rfl,fun _ _ h=>h,fun _ _ _ h=>h⟩

theorem SRep.keeps {w w':World} {O O':OO} (k:Keeps w O w' O') {t:Ty} {xs:List t.El} {v:Value} (h:SRep w O t xs v):SRep w' O' t xs v:=by
 obtain⟨a,c,h1,h2,h3⟩:=h
 refine⟨a,c,h1,h2,fun h0=> ?_⟩
 obtain⟨ad,ha,h4⟩:=h3 h0
 exact⟨ad,ha,fun j hj=>ERep.imp k t _ _ _ _ _ (fun j u _ hu=>hu.keeps k) (h4 j hj)⟩

mutual
theorem VRep.keeps {w w' : World} {O O' : OO} (k : Keeps w O w' O') : ∀ (d : D) (v : Value), VRep w O d v → VRep w' O' d v
  | .int _ _, _, h => h
  | .bool _, _, h => h
  | .str _, _, h => h
  | .slc _ _ _, _, h => ⟨h.1.keeps k, h.2⟩
  | .agg cs, _, ⟨vs, h1, h2⟩ => ⟨vs, h1, LRep.keeps k cs _ h2⟩
  | .iface _ d, _, ⟨u, h1, h2⟩ => ⟨u, h1, VRep.keeps k d _ h2⟩
  | .rptr cs, _, ⟨ad, h1, h2⟩ => ⟨ad, h1, PRep.keeps k cs _ _ h2⟩
  | .clo _ cs, _, ⟨vs, h1, h2⟩ => ⟨vs, h1, LRep.keeps k cs _ h2⟩
  | .bfn _ cs, _, ⟨vs, h1, h2⟩ => ⟨vs, h1, LRep.keeps k cs _ h2⟩
  | .ref _ _, _, h => k.nmv h
  | .val _, _, h => h
  | .top, _, h => h
theorem LRep.keeps {w w' : World} {O O' : OO} (k : Keeps w O w' O') : ∀ (ds : List D) (vs : List Value), LRep w O ds vs → LRep w' O' ds vs
  | [], _, h => h
  | d :: ds, _, ⟨u, us, h1, h2, h3⟩ => ⟨u, us, h1, VRep.keeps k d _ h2, LRep.keeps k ds _ h3⟩
theorem PRep.keeps {w w' : World} {O O' : OO} (k : Keeps w O w' O') : ∀ (ds : List D) (ad : Addr) (i : Nat), PRep w O ds ad i → PRep w' O' ds ad i
  | [], _, _, _ => trivial
  | d :: ds, ad, i, ⟨⟨u, h1, h2⟩, h3⟩ => ⟨⟨u, h1.keeps k, VRep.keeps k d _ h2⟩, PRep.keeps k ds ad _ h3⟩
end

theorem LRep.length {w:World} {O:OO}: ∀ {ds:List D} {vs:List Value},LRep w O ds vs→vs.length=ds.length
 |[],_,h=>by cases h;rfl
 |_::_,_,⟨_,_,h1,_,h3⟩=>by subst h1;simp[LRep.length h3]

theorem LRep.append {w:World} {O:OO}: ∀ {ds es:List D} {vs us:List Value},LRep w O ds vs→LRep w O es us→LRep w O (ds++es) (vs++us)
 |[],_,_,_,h,k=>by cases h;exact k
 |d::ds,es,_,us,⟨u,vs',h1,h2,h3⟩,k=>by subst h1;exact⟨u,vs'++us,rfl,h2,LRep.append h3 k⟩

theorem LRep.get {w:World} {O:OO}: ∀ {ds:List D} {vs:List Value} {i:Nat} {d:D},LRep w O ds vs→ds[i]? =some d→ ∃u,vs[i]? =some u∧VRep w O d u
 |[],_,i,d,_,h=>by simp at h
 |d::ds,_,0,d',⟨u,us,h1,h2,h3⟩,h=>by subst h1;simp at h;subst h;exact⟨u,rfl,h2⟩
 |d::ds,_,i+1,d',⟨u,us,h1,h2,h3⟩,h=>by subst h1;simp at h;simpa using LRep.get h3 h

theorem LRep.drop {w:World} {O:OO}: ∀ {ds:List D} {vs:List Value} (n:Nat),LRep w O ds vs→LRep w O (ds.drop n) (vs.drop n)
 |_,_,0,h=>by simpa using h
 |[],_,n+1,h=>by cases h;rfl
 |d::ds,_,n+1,⟨u,us,h1,h2,h3⟩=>by subst h1;simpa using LRep.drop n h3

theorem LRep.take {w:World} {O:OO}: ∀ {ds:List D} {vs:List Value} (n:Nat),LRep w O ds vs→LRep w O (ds.take n) (vs.take n)
 |_,_,0,h=>by simp[LRep]
 |[],_,n+1,h=>by cases h;rfl
 |d::ds,_,n+1,⟨u,us,h1,h2,h3⟩=>by subst h1;exact⟨u,us.take n,rfl,h2,LRep.take n h3⟩

def lat (vs:List Value) (i:Nat) (u:Value):Prop:=vs[i]? =some u

theorem castL_spec {t t':Ty} {xs:List t.El} {ys:List t'.El} (h:castL t t' xs=some ys): ∃e:t=t',ys=e▸xs:=by
 unfold castL at h
 split at h
 ·rename_i hb;exact⟨Ty.eq_of_beq hb,by injection h with h;exact h.symm⟩
 ·cases h

def Ty.nr:Ty→Bool
 | .slc t=>t.nr
 | .pair a b=>a.nr&&b.nr
 | .ref _=>false
 |_=>true
mutual
def D.nr : D → Prop
  | .slc _ t _ => t.nr = true
  | .agg cs => D.nrs cs
  | .iface _ d => D.nr d
  | .rptr cs => D.nrs cs
  | .clo _ cs => D.nrs cs
  | .bfn _ cs => D.nrs cs
  | .ref _ _ => False
  | _ => True
def D.nrs : List D → Prop
  | [] => True
  | d :: ds => D.nr d ∧ D.nrs ds
end
structure Kp (w : World) (O : OO) (w' : World) (O' : OO) : Prop where
 same: ∀b,b<w.heap.size→ ¬O b→w'.heap[b]? =w.heap[b]?
 out: ∀b,b<w.heap.size→ ¬O b→ ¬O' b
theorem Rd.kp {w w':World} {O O':OO} {a:Addr} {u:Value} (k:Kp w O w' O') (h:Rd w O a u):Rd w' O' a u:=by
 have hl:=cell_lt h.2
 refine⟨k.out _ hl h.1, ?_⟩
 have:=k.same _ hl h.1
 have h2:=h.2
 unfold World.cell? at h2⊢
 rw[this];exact h2
theorem ERep.nr {w:World} {O:OO} {w':World} {O':OO} (k:Kp w O w' O'): ∀(t:Ty) (x:t.El) (f g:Nat→Value→Prop) (i i':Nat),t.nr=true→
  (∀j u,j<t.size→f (i+j) u→g (i'+j) u)→ERep w O t x f i→ERep w' O' t x g i'
 | .int _,_,f,g,i,i',_,hg,h=>by have:=hg 0 _ (by simp[Ty.size]) (by simpa [ERep]using h);simpa [ERep]using this
 | .bool,_,f,g,i,i',_,hg,h=>by have:=hg 0 _ (by simp[Ty.size]) (by simpa [ERep]using h);simpa [ERep]using this
 | .str,_,f,g,i,i',_,hg,h=>by have:=hg 0 _ (by simp[Ty.size]) (by simpa [ERep]using h);simpa [ERep]using this
 | .slc t,xs,f,g,i,i',ht,hg,h=>by
  obtain⟨a,c,h1,h2,h3⟩:=h
  refine⟨a,c,by simpa using hg 0 _ (by simp[Ty.size]) (by simpa using h1),h2,fun h0=> ?_⟩
  obtain⟨ad,ha,h4⟩:=h3 h0
  exact⟨ad,ha,fun j hj=>ERep.nr k t _ _ _ _ _ (by simpa [Ty.nr]using ht) (fun j u _ hu=>hu.kp k) (h4 j hj)⟩
 | .pair a b,x,f,g,i,i',ht,hg,h=>by
  simp only[Ty.nr,Bool.and_eq_true]at ht
  refine⟨ERep.nr k a x.1 f g i i' ht.1 (fun j u hj hu=>hg j u (by simp[Ty.size];omega) hu) h.1, ?_⟩
  refine ERep.nr k b x.2 f g (i+a.size) (i'+a.size) ht.2 (fun j u hj hu=> ?_) h.2
  have:=hg (a.size+j) u (by simp[Ty.size];omega) (by rw[←Nat.add_assoc];exact hu)
  rw[←Nat.add_assoc]at this;exact this
 | .unit,_,_,_,_,_,_,_,_=>trivial
 | .ref K,j,f,g,i,i',ht,hg,h=>by cases ht
mutual
theorem VRep.nr {w w' : World} {O O' : OO} (k : Kp w O w' O') : ∀ (d : D) (v : Value), d.nr → VRep w O d v → VRep w' O' d v
  | .int _ _, _, _, h => h
  | .bool _, _, _, h => h
  | .str _, _, _, h => h
  | .slc _ t xs, _, hn, h => by
    obtain ⟨a, c, h1, h2, h3⟩ := h.1
    refine ⟨⟨a, c, h1, h2, fun h0 => ?_⟩, h.2⟩
    obtain ⟨ad, ha, h4⟩ := h3 h0
    exact ⟨ad, ha, fun j hj => ERep.nr k t _ _ _ _ _ (by simpa [D.nr] using hn) (fun j u _ hu => hu.kp k) (h4 j hj)⟩
  | .agg cs, _, hn, ⟨vs, h1, h2⟩ => ⟨vs, h1, LRep.nr k cs _ (by simpa [D.nr] using hn) h2⟩
  | .iface _ d, _, hn, ⟨u, h1, h2⟩ => ⟨u, h1, VRep.nr k d _ (by simpa [D.nr] using hn) h2⟩
  | .rptr cs, _, hn, ⟨ad, h1, h2⟩ => ⟨ad, h1, PRep.nr k cs _ _ (by simpa [D.nr] using hn) h2⟩
  | .clo _ cs, _, hn, ⟨vs, h1, h2⟩ => ⟨vs, h1, LRep.nr k cs _ (by simpa [D.nr] using hn) h2⟩
  | .bfn _ cs, _, hn, ⟨vs, h1, h2⟩ => ⟨vs, h1, LRep.nr k cs _ (by simpa [D.nr] using hn) h2⟩
  | .ref _ _, _, hn, _ => by simp [D.nr] at hn
  | .val _, _, _, h => h
  | .top, _, _, h => h
theorem LRep.nr {w w' : World} {O O' : OO} (k : Kp w O w' O') : ∀ (ds : List D) (vs : List Value), D.nrs ds → LRep w O ds vs → LRep w' O' ds vs
  | [], _, _, h => h
  | d :: ds, _, hn, ⟨u, us, h1, h2, h3⟩ => ⟨u, us, h1, VRep.nr k d _ (by simp [D.nrs] at hn; exact hn.1) h2, LRep.nr k ds _ (by simp [D.nrs] at hn; exact hn.2) h3⟩
theorem PRep.nr {w w' : World} {O O' : OO} (k : Kp w O w' O') : ∀ (ds : List D) (ad : Addr) (i : Nat), D.nrs ds → PRep w O ds ad i → PRep w' O' ds ad i
  | [], _, _, _, _ => trivial
  | d :: ds, ad, i, hn, ⟨⟨u, h1, h2⟩, h3⟩ => ⟨⟨u, h1.kp k, VRep.nr k d _ (by simp [D.nrs] at hn; exact hn.1) h2⟩, PRep.nr k ds ad _ (by simp [D.nrs] at hn; exact hn.2) h3⟩
end
theorem Ty.cells_nr: ∀(t:Ty) (x:t.El),t.nr=true→ ∀d∈t.cells x,d.nr
 | .int _,_,_,d,hd=>by simp[Ty.cells]at hd;subst hd;simp[D.nr]
 | .bool,_,_,d,hd=>by simp[Ty.cells]at hd;subst hd;simp[D.nr]
 | .str,_,_,d,hd=>by simp[Ty.cells]at hd;subst hd;simp[D.nr]
 | .slc t,_,h,d,hd=>by simp[Ty.cells]at hd;subst hd;simpa [D.nr,Ty.nr]using h
 | .pair a b,x,h,d,hd=>by
  simp only[Ty.nr,Bool.and_eq_true]at h
  simp only[Ty.cells,List.mem_append]at hd
  exact hd.elim (Ty.cells_nr a x.1 h.1 d) (Ty.cells_nr b x.2 h.2 d)
 | .unit,_,_,d,hd=>by simp[Ty.cells]at hd
 | .ref _,_,h,_,_=>by cases h
theorem D.nrs_iff: ∀ {ds:List D},D.nrs ds↔ ∀d∈ds,d.nr
 |[]=>by simp[D.nrs]
 |d::ds=>by simp[D.nrs,D.nrs_iff (ds:=ds)]
theorem Ty.toD_nr (t:Ty) (x:t.El) (h:t.nr=true):(t.toD x).nr:=by
 have hc:=Ty.cells_nr t x h
 cases t with
 |int k=>simp[Ty.toD,D.nr]
 |bool=>simp[Ty.toD,D.nr]
 |str=>simp[Ty.toD,D.nr]
 |slc t=>simpa [Ty.toD,D.nr,Ty.nr]using h
 |pair a b=>simpa [Ty.toD,D.nr,D.nrs_iff,Ty.cells]using hc
 |unit=>simp[Ty.toD,D.nr,D.nrs]
 |ref K=>cases h

end Fw
end
section
set_option linter.unusedVariables false
set_option linter.unusedSimpArgs false
namespace Fw
open Go

inductive TD where
 |int (k:IntKind)|bool|str|slice (e:Nat)|ptr (e:Nat)|struct (fs:List (Nat×Nat))|array (n e:Nat)|iface|map (k e:Nat)|func|other

structure TInf where
 size:Nat
 bytes:Nat
 desc:TD
 zero:List D

def TD.agg:TD→Bool
 | .struct _=>true
 | .array _ _=>true
 |_=>false

def tdOf:TypeDesc→TD
 | .int k=> .int k
 | .bool=> .bool
 | .string=> .str
 | .slice e=> .slice e
 | .pointer e=> .ptr e
 | .struct fs=> .struct (fs.toList.map fun f=>(f.offset,f.type))
 | .array n e=> .array n e
 | .interface _=> .iface
 | .map k e=> .map k e
 | .func .. => .func
 |_=> .other

def constD0:Value→D
 | .int k n=> .int k n
 | .bool b=> .bool b
 | .string s=> .str s
 |v=> .val v
def constD:Value→D
 | .agg cs=> .agg (cs.toList.map constD0)
 |v=>constD0 v
def D.solid:D→Bool
 | .top=>false
 | .val (.agg _)=>false
 |_=>true

def mkTI (P:Program) (t:Nat):Option TInf:=
 match P.info? t with
 |some i=>match P.underlying t with
  |some d=>match i.zero with
   |some z=>bif Nat.beq z.cells.size i.size then some ⟨i.size,i.bytes,tdOf d,z.cells.toList.map constD0⟩else none
   |none=>none
  |none=>none
 |none=>none

def D.one:D→Bool
 | .agg _=>false
 | .top=>false
 | .val (.agg _)=>false
 | .val (.tuple _)=>false
 |_=>true

inductive Ar where
 |ty (t:Ty)|raw
@[reducible] def Ar.El : Ar → Type
 | .ty t=>t.El
 | .raw=>D
@[reducible] def Ars : List Ar → Type
 |[]=>Unit
 |a::l=>a.El×Ars l
def Ar.dec:(a:Ar)→D→Option a.El
 | .ty t,d=>t.ofD d
 | .raw,d=>some d
def Ar.enc:(a:Ar)→a.El→D
 | .ty t,x=>t.toD x
 | .raw,d=>d
def decs:(l:List Ar)→List D→Option (Ars l)
 |[],[]=>some ()
 |a::l,d::ds=>match a.dec d with
  |some x=>match decs l ds with
   |some xs=>some (x,xs)
   |none=>none
  |none=>none
 |_,_=>none
def encs:(l:List Ar)→Ars l→List D
 |[],_=>[]
 |a::l,x=>a.enc x.1::encs l x.2
def Ar.scalar:Ar→Bool
 | .ty (.int _)=>true
 | .ty .bool=>true
 | .ty .str=>true
 |_=>false

structure Con where
 args:List Ar
 res:List Ar
 pre:Ars args→Prop
 post:Ars args→Ars res
 fresh : Option Nat := none      -- the one result is a new row of this element type, of nobody else's

inductive AV where
 |d (x:D)
 |own (id:Nat)
 |ptr (id off:Nat)
 |eptr (id:Nat) (sz:Nat) (i:Int) (off:Nat)
 | win (id sz : Nat) (lo n : Int)      -- a part of a row, by reference
 | bnd (f : FuncId) (l : List D)       -- a function with its first arguments
 | mptr (K j sz : Nat) (i : Int) (off : Nat)   -- into the member j of an arena of rows
 | bptr (K j off : Nat)                -- into the member j of an arena of boxes
 |clo (f:FuncId) (caps:List (D ⊕ (Nat×Nat)))
 |tup (l:List D)

inductive Obj where
 |row (e:Nat) (t:Ty) (xs:List t.El)
 |box (cs:List D)
 |iter (s:ByteArray) (pos:Nat)
 | aren (e : Nat) (t : Ty) (ms : List (Option (List t.El)))   -- rows that data refer to by name
 | abox (s : Nat) (ms : List (Option (List D)))       -- boxes that data refer to by name; none: a box that is no more

def mrow {α:Type} (ms:List (Option (List α))) (j:Nat):List α:=match j with
 |0=>[]
 |j+1=>(ms.getD j none).getD []
def mal {α:Type} (ms:List (Option (List α))) (j:Nat):Prop:=match j with
 |0=>True
 |j+1=> ∃xs,ms[j]? =some (some xs)
def mset {α:Type} (ms:List (Option (List α))) (j:Nat) (xs:List α):List (Option (List α)):=match j with
 |0=>ms
 |j+1=>ms.set j (some xs)
def mkill {α:Type} (ms:List (Option (List α))) (j:Nat):List (Option (List α)):=match j with
 |0=>ms
 |j+1=>ms.set j none
def mnew {α:Type} (ms:List (Option (List α))) (xs:List α):List (Option (List α)):=ms++[some xs]
def mbox (ms:List (Option (List D))) (j:Nat):Option (List D):=match j with
 |0=>none
 |j+1=>(match ms[j]? with
  |some (some cs)=>some cs
  |_=>none)

def AV.flat:AV→Bool
 | .d _=>true
 | .tup _=>true
 |_=>false

structure AState where
 env:Nat→AV
 heap:Nat→Option Obj

def upd {α:Type} (f:Nat→α) (d:Nat) (v:α):Nat→α:=fun t=>bif Nat.beq t d then v else f t
def AState.put (A:AState) (d:Option Nat) (v:AV):AState:=
 match d with
 |some d=> { A with env:=upd A.env d v }
 |none=>A
def aundef:AV:= .d (.val (.tuple #[]))
def AState.ev (A:AState):Operand→AV
 | .tmp t=>A.env t
 | .const v=> .d (constD v)
 | .global g=> .d (.val (.pointer (some ⟨g,0,none⟩)))
 | .func f=> .d (.clo f [])

structure ConP where
 con:Con
 pan:Ars con.args→Bool

def Obj.isA:Obj→Bool
 | .aren .. =>true
 | .abox .. =>true
 |_=>false
def isArH (h:Nat→Option Obj) (K:Nat):Prop:= ∃o,h K=some o∧o.isA=true
structure PT where
 base:Nat
 mods:List Nat
 fn:List AV→(Nat→Option Obj)→Option (Prop×AV×(Nat→Option Obj))
 ok: ∀avs h p v h',fn avs h=some (p,v,h')→(∀id,h' id≠none↔h id≠none)∧(∀id,id∉mods→h' id=h id)∧v.flat=true∧(∀id∈mods,h id≠none)∧(∀K,isArH h' K→isArH h K)

structure Ctx where
 tt:List (Nat×TInf)
 fs:List (Nat×Con)
 invs:List (String×Con)
 cv:Option Con
 pts:List (Nat×PT)
 base:Nat
 mods:List Nat
 pan:List (Nat×ConP)
 pt : Nat              -- the type of the panic's value
 am : List (Nat × Nat) := []    -- slots whose new objects come into an arena
 ars : List (Nat × Obj) := []   -- the arenas of the call's own, empty
 rt : List (Nat × Nat) := []    -- types whose values in new rows are references, and their arenas
 rb : List (Nat × List Ar) := [] -- how new boxes of a type in an arena are told
 alts : List (Nat × Con) := []   -- second contracts: a call may be told by either

def look {α:Type}:List (Nat×α)→Nat→Option α
 |[],_=>none
 |(m,x)::l,n=>bif Nat.beq m n then some x else look l n
def looks {α:Type}:List (String×α)→String→Option α
 |[],_=>none
 |(m,x)::l,n=>match instDecidableEqString m n with
  | .isTrue _=>some x
  | .isFalse _=>looks l n

def Br (b:Bool) (X Y:Prop):Prop:=match b with
 |true=>X
 |false=>Y

abbrev Env:=Operand→AV
abbrev Hp:=Nat→Option Obj

def capD (h:Hp):(D ⊕ (Nat×Nat))→Option D
 | .inl d=>some d
 | .inr (id,off)=>match h id with
  |some (.box cs)=>some (.rptr (cs.drop off))
  |_=>none
def sub {α:Type} (xs:List α) (l h:Int):List α:=(xs.take h.toNat).drop l.toNat
def optAll {α:Type}:List (Option α)→Option (List α)
 |[]=>some []
 |some x::l=>match optAll l with
  |some xs=>some (x::xs)
  |none=>none
 |none::_=>none
def viewD (h:Hp):AV→Option D
 | .d x=>some x
 | .own id=>match h id with
  |some (.row _ t xs)=>some (.slc false t xs)
  |_=>none
 | .win id sz lo n=>match h id with
  |some (.row _ t xs)=>bif Nat.beq sz t.size then some (.slc false t (sub xs lo (lo+n)))else none
  |_=>none
 | .ptr id off=>match h id with
  |some (.box cs)=>some (.rptr (cs.drop off))
  |_=>none
 | .clo f caps=>match optAll (caps.map (capD h))with
  |some cs=>some (.clo f cs)
  |none=>none
 |_=>none
def AV.isD:AV→Bool
 | .d _=>true
 |_=>false

def inlAll:List (D ⊕ (Nat×Nat))→Bool
 |[]=>true
 | .inl _::l=>inlAll l
 | .inr _::_=>false
def AV.isA:AV→Bool
 | .d (.ref _ _)=>false
 | .d _=>true
 | .clo _ caps=>inlAll caps
 |_=>false

def resAV:List D→AV
 |[d]=> .d d
 |ds=> .tup ds

def viewR (h:Hp) (K:Nat) (t:Ty) (ms:List (Option (List t.El))) (j:Nat) (k:D→Prop):Prop:=
 match t,ms with
 | .ref K',ms=>(match h K' with
  |some (.aren _ t' ms')=>bif (evenB K&&evenB K'&&t'.nr)then mal ms j∧(∀i∈mrow ms j,mal ms' i)∧k (.slc false (.slc t') ((mrow ms j).map (mrow ms')))else False
  |_=>False)
 |t,ms=>bif (evenB K&&t.nr)then mal ms j∧k (.slc false t (mrow ms j))else False
def view1 (h:Hp) (x:AV) (k:D→Prop):Prop:=
 match x with
 | .d (.ref K j)=>(match h K with
  |some (.aren _ t ms)=>viewR h K t ms j k
  |_=>False)
 |x=>(match viewD h x with
  |some d=>k d
  |none=>False)
def views (h:Hp):List AV→(List D→Prop)→Prop
 |[],k=>k []
 |x::l,k=>view1 h x (fun d=>views h l (fun ds=>k (d::ds)))
def qargs (C:Con) (h:Hp) (args:List AV) (p:Ars C.args→Prop):Prop:=
 views h args fun ds=>match decs C.args ds with
  |some x=>bif (args.all AV.isA||C.res.all Ar.scalar)then p x else False
  |none=>False
def qconP (C:ConP) (h:Hp) (args:List AV) (kp:Prop) (k:AV→Prop):Prop:=
 qargs C.con h args fun x=>C.con.pre x∧Br (C.pan x) kp (k (resAV (encs C.con.res (C.con.post x))))
def qcon (C:Con) (h:Hp) (args:List AV) (k:AV→Prop):Prop:=
 qargs C h args fun x=>C.pre x∧k (resAV (encs C.res (C.post x)))

def bitsv (op:BinOp) (k:IntKind) (x y:Int):Int:=
 let a:=BitVec.ofInt k.bits x
 let b:=BitVec.ofInt k.bits y
 match op with
 | .and=>k.wrap (a&&&b).toNat
 | .or=>k.wrap (a|||b).toNat
 | .xor=>k.wrap (a^^^b).toNat
 |_=>k.wrap (a&&& ~~~b).toNat

def qint (op:BinOp) (kd:IntKind) (x y:Int) (k:D→Prop):Prop:=
 match op with
 | .add=>k (.int kd (kd.wrap (x+y)))
 | .sub=>k (.int kd (kd.wrap (x-y)))
 | .mul=>k (.int kd (kd.wrap (x*y)))
 | .quo=>y≠0∧k (.int kd (kd.wrap (x.tdiv y)))
 | .rem=>y≠0∧k (.int kd (x.tmod y))
 | .and=>k (.int kd (bitsv .and kd x y))
 | .or=>k (.int kd (bitsv .or kd x y))
 | .xor=>k (.int kd (bitsv .xor kd x y))
 | .andNot=>k (.int kd (bitsv .andNot kd x y))
 | .shl=>0≤y∧k (.int kd (kd.wrap (x*2^(min y.toNat kd.bits))))
 | .shr=>0≤y∧k (.int kd (x.fdiv (2^(min y.toNat kd.bits))))
 | .eql=>k (.bool (x==y))
 | .neq=>k (.bool (x !=y))
 | .lss=>k (.bool (decide (x<y)))
 | .leq=>k (.bool (decide (x≤y)))
 | .gtr=>k (.bool (decide (x>y)))
 | .geq=>k (.bool (decide (x≥y)))
def isShift:BinOp→Bool
 | .shl=>true
 | .shr=>true
 |_=>false
def nilOf:AV→Option Bool
 | .own _=>none
 | .ptr _ _=>some false
 | .eptr .. =>some false
 | .mptr .. =>some false
 | .bptr .. =>some false
 | .clo _ _=>some false
 | .tup _=>none
 | .d (.rptr _)=>some false
 | .d (.iface _ _)=>some false
 | .d (.clo _ _)=>some false
 | .d (.val (.pointer none))=>some true
 | .d (.val .nilIface)=>some true
 | .d (.val .nilFunc)=>some true
 | .d (.val (.slice none 0 0))=>some true
 | .d (.val (.map none))=>some true
 |_=>none
def eqNil:TD→AV→AV→Option Bool
 | .ptr _,x, .d (.val (.pointer none))=>(match x with
  | .ptr _ _=>some false
  | .eptr .. =>some false
  | .d (.rptr _)=>some false
  | .d (.val (.pointer none))=>some true
  |_=>none)
 | .iface, .d (.iface _ _), .d (.val .nilIface)=>some false
 | .func,x, .d (.val .nilFunc)=>(match x with
  | .clo _ _=>some false
  | .d (.clo _ _)=>some false
  | .d (.val .nilFunc)=>some true
  |_=>none)
 | .slice _, .d (.val (.slice none 0 0)), .d (.val (.slice none 0 0))=>some true
 |_,_,_=>none

def qbin (T:Ctx) (op:BinOp) (t:Nat) (x y:AV) (k:AV→Prop):Prop:=
 match x,y with
 | .d (.int kd a), .d (.int kd' b)=>bif (isShift op||ikb kd kd')then qint op kd a b (fun d=>k (.d d))else False
 | .d (.str a), .d (.str b)=>(match op with
  | .add=>((a.size+b.size:Nat):Int)≤9223372036854775807∧k (.d (.str (a++b)))
  | .eql=>k (.d (.bool (a.toList==b.toList)))
  | .neq=>k (.d (.bool (!(a.toList==b.toList))))
  |_=>False)
 |x,y=>(match look T.tt t with
  |some i=>(match i.desc,x,y with
   | .bool, .d (.bool a), .d (.bool b)=>(match op with
    | .eql=>k (.d (.bool (a==b)))
    | .neq=>k (.d (.bool (!(a==b))))
    |_=>False)
   | .slice _, .d (.slc _ _ xs), .d (.val (.slice none 0 0))=>(match op with
    | .eql=>0<xs.length∧k (.d (.bool false))
    | .neq=>0<xs.length∧k (.d (.bool true))
    |_=>False)
   |dsc,x,y=>(match eqNil dsc x y,op with
    |some b, .eql=>k (.d (.bool b))
    |some b, .neq=>k (.d (.bool (!b)))
    |_,_=>False))
  |none=>False)

def qpick (c a b:AV) (k:AV→Prop):Prop:=
 match c with
 | .d (.bool c)=>(match a,b with
  | .d (.bool x), .d (.bool y)=>k (.d (.bool (cond c x y)))
  |a,b=>Br c (k a) (k b))
 |_=>False

def cellsAt (i:TInf) (cs:List D) (k:AV→Prop):Prop:=
 bif i.desc.agg then(bif Nat.ble i.size cs.length then k (.d (.agg (cs.take i.size)))else False)
 else(match cs with
  |c::_=>k (.d c)
  |[]=>False)

def rd (t:Ty) (xs:List t.El) (i:Int):t.El:=xs.getD i.toNat t.dflt

def qload (T:Ctx) (t:Nat) (a:AV) (h:Hp) (k:AV→Prop):Prop:=
 match look T.tt t with
 |some i=>(match a with
  | .d (.rptr cs)=>cellsAt i cs k
  | .ptr id off=>(match h id with
   |some (.box cs)=>cellsAt i (cs.drop off) k
   |_=>False)
  | .eptr id sz ix off=>(match h id with
   |some (.row _ t' xs)=>bif Nat.beq sz t'.size then 0≤ix∧ix<xs.length∧cellsAt i ((t'.cells (rd t' xs ix)).drop off) k else False
   |_=>False)
  | .mptr K j sz ix off=>(match h K with
   |some (.aren _ t' ms)=>bif Nat.beq sz t'.size then mal ms j∧0≤ix∧ix<(mrow ms j).length∧cellsAt i ((t'.cells (rd t' (mrow ms j) ix)).drop off) k else False
   |_=>False)
  | .bptr K j off=>(match h K with
   |some (.abox _ ms)=>(match mbox ms j with
    |some cs=>cellsAt i (cs.drop off) k
    |none=>False)
   |_=>False)
  | .d (.ref K j)=>(match h K with
   |some (.abox _ ms)=>(match mbox ms j with
    |some cs=>cellsAt i cs k
    |none=>False)
   |_=>False)
  |_=>False)
 |none=>False

def qnil (x:AV) (h:Hp) (k:AV→Prop):Prop:=
 match x with
 | .d (.ref K j)=>(match h K with
  |some (.abox _ ms)=>(match mbox ms j with
   |some _=>k (.d (.ref K j))
   |none=>False)
  |_=>False)
 |x=>(match nilOf x with
  |some false=>k x
  |_=>False)

def sliceE (T:Ctx) (t:Nat):Option (Nat×TInf):=
 match look T.tt t with
 |some i=>(match i.desc with
  | .slice e=>(match look T.tt e with
   |some ie=>some (e,ie)
   |none=>none)
  |_=>none)
 |none=>none

def arrBr:Nat→Nat→Int→(Nat→Prop)→Prop
 |0,_,_,_=>False
 |n+1,j,i,f=>Br (decide (i=(j:Int))) (f j) (arrBr n (j+1) i f)
def arrayE (T:Ctx) (t:Nat):Option (Nat×Nat×TInf):=
 match look T.tt t with
 |some i=>(match i.desc with
  | .array n e=>(match look T.tt e with
   |some ie=>some (n,e,ie)
   |none=>none)
  |_=>none)
 |none=>none

def qindexAddr (T:Ctx) (t:Nat) (x ix:AV) (h:Hp) (k:AV→Prop):Prop:=
 match ix with
 | .d (.int _ i)=>(match sliceE T t with
  |some (e,ie)=>(match x with
   | .own id=>(match h id with
    |some (.row _ t' xs)=>bif Nat.beq ie.size t'.size then 0≤i∧i<xs.length∧k (.eptr id t'.size i 0)else False
    |_=>False)
   | .win id sz lo n=>(match h id with
    |some (.row _ t' xs)=>bif (Nat.beq ie.size t'.size&&Nat.beq sz t'.size)then 0≤i∧i<n∧k (.eptr id t'.size (lo+i) 0)else False
    |_=>False)
   | .d (.slc _ t' xs)=>bif Nat.beq ie.size t'.size then 0≤i∧i<xs.length∧k (.d (.rptr (t'.cells (rd t' xs i))))else False
   | .d (.ref K j)=>(match h K with
    |some (.aren _ t' ms)=>bif Nat.beq ie.size t'.size then mal ms j∧0≤i∧i<(mrow ms j).length∧k (.mptr K j t'.size i 0)else False
    |_=>False)
   |_=>False)
  |none=>(match arrayE T t with
   |some (n,_,ie)=>(match x with
    | .ptr id off=>arrBr n 0 i (fun j=>k (.ptr id (off+j*ie.size)))
    | .bptr K b off=>arrBr n 0 i (fun j=>k (.bptr K b (off+j*ie.size)))
    | .d (.rptr cs)=>arrBr n 0 i (fun j=>k (.d (.rptr (cs.drop (j*ie.size)))))
    |_=>False)
   |none=>False))
 |_=>False

def bt (s:ByteArray) (i:Int):Int:=if h:i.toNat<s.size then((s[i.toNat]'h).toNat:Int)else 0

def qindex (T:Ctx) (t:Nat) (x ix:AV) (k:AV→Prop):Prop:=
 match ix with
 | .d (.int _ i)=>(match look T.tt t with
  |some inf=>(match inf.desc,x with
   | .str, .d (.str s)=>0≤i∧i<s.size∧k (.d (.int .u8 (bt s i)))
   |_,_=>False)
  |none=>False)
 |_=>False

def structF (T:Ctx) (s f:Nat):Option (Nat×TInf):=
 match look T.tt s with
 |some i=>(match i.desc with
  | .struct fs=>(match fs[f]? with
   |some (off,ft)=>(match look T.tt ft with
    |some fi=>bif Nat.blt 0 fi.size then some (off,fi)else none
    |none=>none)
   |none=>none)
  |_=>none)
 |none=>none

def qfieldAddr (T:Ctx) (s:Nat) (x:AV) (f:Nat) (h:Hp) (k:AV→Prop):Prop:=
 match structF T s f with
 |some (off,_)=>(match x with
  | .d (.rptr cs)=>k (.d (.rptr (cs.drop off)))
  | .ptr id o=>k (.ptr id (o+off))
  | .eptr id sz i o=>k (.eptr id sz i (o+off))
  | .mptr K j sz i o=>k (.mptr K j sz i (o+off))
  | .bptr K j o=>k (.bptr K j (o+off))
  | .d (.ref K j)=>(match h K with
   |some (.abox _ ms)=>(match mbox ms j with
    |some _=>k (.bptr K j off)
    |none=>False)
   |_=>False)
  |_=>False)
 |none=>False

def qfield (T:Ctx) (s:Nat) (x:AV) (f:Nat) (k:AV→Prop):Prop:=
 match structF T s f with
 |some (off,fi)=>(match x with
  | .d (.agg cs)=>cellsAt fi (cs.drop off) k
  |_=>False)
 |none=>False

def cutOf (lo hi:Option AV) (n:Int) (k:Int→Int→Prop):Prop:=
 match lo,hi with
 |none,none=>k 0 n
 |some (.d (.int _ l)),none=>0≤l∧l≤n∧k l n
 |none,some (.d (.int _ h))=>0≤h∧h≤n∧k 0 h
 |some (.d (.int _ l)),some (.d (.int _ h))=>0≤l∧l≤h∧h≤n∧k l h
 |_,_=>False

def cutOf3 (lo hi:Option AV) (n:Int) (k:Int→Int→Prop):Prop:=
 match lo,hi with
 |none,some (.d (.int _ h))=>0≤h∧h≤n∧k 0 h
 |some (.d (.int _ l)),some (.d (.int _ h))=>0≤l∧l≤h∧h≤n∧k l h
 |_,_=>False

def qslice (T:Ctx) (t:Nat) (x:AV) (lo hi mx:Option AV) (k:AV→Prop):Prop:=
 match look T.tt t with
 |some inf=>(match inf.desc,x with
  | .str, .d (.str s)=>(match mx with
   |none=>cutOf lo hi s.size (fun l h=>k (.d (.str (s.extract l.toNat h.toNat))))
   |some _=>False)
  | .slice e, .d (.slc f t' xs)=>(match look T.tt e with
   |some ie=>bif Nat.beq ie.size t'.size then(match mx with
    |none=>cutOf lo hi xs.length (fun l h=>k (.d (.slc false t' (sub xs l h))))
    |some (.d (.int _ m))=>cutOf3 lo hi xs.length (fun l h=>m=h∧k (.d (.slc true t' (sub xs l h))))
    |some _=>False)else False
   |none=>False)
  |_,_=>False)
 |none=>False

def qwin (T:Ctx) (t:Nat) (id:Nat) (lo hi mx:Option AV) (h:Hp) (k:AV→Prop):Prop:=
 match h id,lo,hi,mx with
 |some (.row _ t' xs),some (.d (.int _ l)),some (.d (.int _ r)),none=>(match sliceE T t with
  |some (_,ie)=>bif Nat.beq ie.size t'.size then 0≤l∧l<r∧r≤xs.length∧k (.win id t'.size l (r-l))else False
  |none=>False)
 |_,_,_,_=>False

def sizesF (tt:List (Nat×TInf)):List (Nat×Nat)→Option (List (Nat×Nat))
 |[]=>some []
 |(off,ft)::l=>(match look tt ft,sizesF tt l with
  |some i,some r=>some ((off,i.size)::r)
  |_,_=>none)
def overD:List D→List D→List D
 |[],cs=>cs
 |x::new,[]=>x::overD new []
 |x::new,_::cs=>x::overD new cs
def splice:List D→Nat→List D→List D
 |cs,0,new=>overD new cs
 |[],_+1,new=>new
 |c::cs,n+1,new=>c::splice cs n new
theorem overD_eq: ∀(new cs:List D),overD new cs=new++cs.drop new.length
 |[],cs=>by simp[overD]
 |x::new,[]=>by simp[overD,overD_eq new []]
 |x::new,_::cs=>by simp[overD,overD_eq new cs]
theorem splice_eq: ∀(cs:List D) (off:Nat) (new:List D),splice cs off new=cs.take off++new++cs.drop (off+new.length)
 |cs,0,new=>by cases cs<;>simp[splice,overD_eq]
 |[],_+1,new=>by simp[splice]
 |c::cs,n+1,new=>by
  rw[splice,splice_eq cs n new]
  simp[Nat.add_right_comm]
def fillD (pl:List (Nat×Nat)) (cs:List D):List (Nat×D)→Option (List D)
 |[]=>some cs
 |(i,d)::rest=>match pl[i]? with
  |some (off,sz)=>bif (d.solid&&Nat.beq d.cells.length sz&&Nat.ble (off+d.cells.length) cs.length)then fillD pl (splice cs off d.cells) rest else none
  |none=>none

def partsD:List (Nat×AV)→Option (List (Nat×D))
 |[]=>some []
 |(i, .d x)::l=>(match partsD l with
  |some ds=>some ((i,x)::ds)
  |none=>none)
 |_::_=>none

def qbuild (T:Ctx) (t:Nat) (parts:List (Nat×AV)) (k:AV→Prop):Prop:=
 match look T.tt t with
 |some i=>(match i.desc with
  | .struct fs=>(match partsD parts with
   |some ds=>(match sizesF T.tt fs with
    |some pl=>(match fillD pl i.zero ds with
     |some cs=>k (.d (.agg cs))
     |none=>False)
    |none=>False)
   |none=>False)
  | .array n e=>(match partsD parts with
   |some ds=>(match look T.tt e with
    |some ie=>(match fillD ((List.range n).map fun j=>(j*ie.size,ie.size)) i.zero ds with
     |some cs=>k (.d (.agg cs))
     |none=>False)
    |none=>False)
   |none=>False)
  |_=>False)
 |none=>False

def fillE (t:Ty) (xs:List t.El):List (Nat×D)→Option (List t.El)
 |[]=>some xs
 |(i,d)::rest=>match t.ofD d with
  |some x=>bif Nat.blt i xs.length then fillE t (xs.set i x) rest else none
  |none=>none

def tyOf (tt:List (Nat×TInf)):Nat→Nat→Ty
 |0,_=> .unit
 |n+1,t=>match look tt t with
  |some i=>(match i.desc with
   | .int k=> .int k
   | .bool=> .bool
   | .str=> .str
   | .slice e=> .slc (tyOf tt n e)
   | .struct fs=>fs.foldr (fun f r=> .pair (tyOf tt n f.2) r) .unit
   |_=> .unit)
  |none=> .unit

def tyE (T:Ctx) (e:Nat):Ty:=match look T.rt e with
 |some K=> .ref K
 |none=>tyOf T.tt 6 e
def qbs (ty:Ty) (ie:TInf) (len:Nat) (parts:List (Nat×AV)) (k:AV→Prop):Prop:=
 match ty.ofCells ie.zero with
 |some (z,[])=>bif (Nat.beq ie.size ty.size&&Nat.blt 0 (len*ie.size)&&Nat.ble (len*ie.size) 1000000)then(match partsD parts with
  |some ds=>(match fillE ty (List.replicate len z) ds with
   |some xs=>k (.d (.slc true ty xs))
   |none=>False)
  |none=>False)else False
 |_=>False
def qbuildSlice (T:Ctx) (t:Nat) (len:Nat) (parts:List (Nat×AV)) (k:AV→Prop):Prop:=
 match sliceE T t with
 |some (e,ie)=>qbs (tyE T e) ie len parts k
 |none=>False

def qmakeFunc (fn:Fn) (first:List AV) (caps:List AV) (k:AV→Prop):Prop:=
 match fn,first with
 |fn,x::l=>(match caps,datas (x::l)with
  |[],some ds=>k (.d (.bfn fn ds))
  |_,_=>False)
 | .func f,[]=>(match optAll (caps.map capOf)with
  |some cs=>k (pack f cs)
  |none=>False)
 |_,_=>False
where
 datas:List AV→Option (List D)
  |[]=>some []
  | .d x::l=>(match datas l with
   |some ds=>some (x::ds)
   |none=>none)
  |_=>none
 capOf:AV→Option (D ⊕ (Nat×Nat))
  | .d x=>some (.inl x)
  | .ptr id off=>some (.inr (id,off))
  |_=>none
 pack (f:FuncId) (cs:List (D ⊕ (Nat×Nat))):AV:=
  match optAll (cs.map fun| .inl d=>some d| .inr _=>none)with
  |some ds=> .d (.clo f ds)
  |none=> .clo f cs

def qun (op:UnOp) (x:AV) (k:AV→Prop):Prop:=
 match op,x with
 | .neg, .d (.int kd n)=>k (.d (.int kd (kd.wrap (0-n))))
 | .not, .d (.bool b)=>k (.d (.bool (!b)))
 | .xor, .d (.int kd n)=>k (.d (.int kd (bitsv .xor kd (if kd.signed then-1 else kd.max) n)))
 |_,_=>False

def baOf (l:List Int):ByteArray:=l.foldl (fun r n=>r.push (UInt8.ofNat n.toNat)) ByteArray.empty
def qconv (T:Ctx) (src dst:Nat) (x:AV) (vx:Option D) (k:AV→Prop):Prop:=
 match look T.tt src,look T.tt dst with
 |some s,some d=>(match s.desc,d.desc,x with
  |_, .int kd, .d (.int _ n)=>k (.d (.int kd (kd.wrap n)))
  | .slice e, .str,_=>(match look T.tt e,vx with
   |some ie,some (.slc _ t' xs)=>(match ie.desc,castL t' (.int .u8) xs with
    | .int .u8,some ns=>k (.d (.str (baOf ns)))
    |_,_=>False)
   |_,_=>False)
  |_,_,_=>False)
 |_,_=>False

def lenD (t:TD) (x:Option D):Option Int:=
 match t,x with
 | .str,some (.str s)=>some s.size
 | .slice _,some (.slc _ _ xs)=>some xs.length
 | .slice _,some (.val (.slice none 0 0))=>some 0
 |_,_=>none

def isSliceT (T:Ctx) (t:Nat):Bool:=
 match look T.tt t with
 |some i=>(match i.desc with
  | .slice _=>true
  |_=>false)
 |none=>false
def Ty.flat:Ty→Bool
 | .int _=>true
 | .bool=>true
 | .str=>true
 | .slc _=>false
 | .pair a b=>a.flat&&b.flat
 | .unit=>true
 | .ref _=>false
def flatL (t:Ty) (y:Option D):Option (List t.El):=
 match y with
 |some (.slc _ t' ys)=>castL t' t ys
 |some (.val (.slice none 0 0))=>some []
 |_=>none
def qapf (T:Ctx) (ts tx:Nat) (t:Ty) (xs:List t.El) (y:Option D) (k:AV→Prop):Prop:=
 match sliceE T ts,flatL t y with
 |some (_,ie),some ys=>bif (isSliceT T tx&&t.flat&&Nat.beq ie.size t.size&&Nat.blt 0 ie.size&&Nat.blt 0 ie.bytes)then((xs.length:Int)+ys.length)*ie.bytes≤140737488355328∧k (.d (.slc false t (xs++ys)))else False
 |_,_=>False

def qbuiltin (T:Ctx) (b:Builtin) (ts:List Nat) (args:List (Option D)) (k:AV→Prop):Prop:=
 match b,ts,args with
 | .len,[t],[x]=>(match look T.tt t with
  |some i=>(match lenD i.desc x with
   |some n=>k (.d (.int .i64 n))
   |none=>False)
  |none=>False)
 | .min,_,[some (.int kd x),some (.int kd' y)]=>bif ikb kd kd' then k (.d (.int kd (if y<x then y else x)))else False
 | .max,_,[some (.int kd x),some (.int kd' y)]=>bif ikb kd kd' then k (.d (.int kd (if y>x then y else x)))else False
 | .append,[ts,tx],[some (.slc true t xs),y]=>qapf T ts tx t xs y k
 |_,_,_=>False

def capAV:(D ⊕ (Nat×Nat))→AV
 | .inl d=> .d d
 | .inr (id,off)=> .ptr id off

def qcallv (T:Ctx) (f:AV) (args:List AV) (h:Hp) (k:AV→Prop):Prop:=
 match f with
 | .clo f caps=>(match look T.fs f with
  |some C=>qcon C h (args++caps.map capAV) k
  |none=>False)
 | .d dv=>(match T.cv with
  |some C=>qcon C h (.d dv::args) k
  |none=>(match dv with
   | .clo f caps=>(match look T.fs f with
    |some C=>qcon C h (args++caps.map .d) k
    |none=>False)
   |_=>False))
 |_=>False

def qcall (T:Ctx) (c:Call) (ρ:Env) (h:Hp) (k:AV→Prop):Prop:=
 match c.callee with
 | .value (.func f)=>(match look T.fs f with
  |some C=>(match look T.alts f with
   |some C'=>bif T.pan.isEmpty then qcon C h (c.args.toList.map ρ) k∨qcon C' h (c.args.toList.map ρ) k else qcon C h (c.args.toList.map ρ) k
   |none=>qcon C h (c.args.toList.map ρ) k)
  |none=>False)
 | .value x=>qcallv T (ρ x) (c.args.toList.map ρ) h k
 | .invoke r name=>(match looks T.invs name with
  |some C=>qcon C h (ρ r::c.args.toList.map ρ) k
  |none=>False)
 | .builtin b=>(match b,c.args.toList.map ρ with
  | .len,[.d (.ref K j)]=>(match h K,c.argTypes.toList with
   |some (.aren _ _ ms),[t]=>bif (isSliceT T t&&evenB K)then mal ms j∧k (.d (.int .i64 (mrow ms j).length))else False
   |_,_=>False)
  |b,l=>qbuiltin T b c.argTypes.toList (l.map (viewD h)) k)

def qstep (T:Ctx) (op:Op) (ρ:Env) (h:Hp) (k:AV→Prop):Prop:=
 match op with
 | .move x=>k (ρ x)
 | .assign x=>k (ρ x)
 | .pick c a b=>qpick (ρ c) (ρ a) (ρ b) k
 | .load t a=>qload T t (ρ a) h k
 | .nilCheck x=>qnil (ρ x) h k
 | .binOp op t x y _=>qbin T op t (ρ x) (ρ y) k
 | .unOp op _ x=>qun op (ρ x) k
 | .convert s t x=>qconv T s t (ρ x) (viewD h (ρ x)) k
 | .makeInterface t x=>(match ρ x,look T.tt t with
  | .d v,some i=>(match i.desc with
   | .iface=>False
   |_=>k (.d (.iface t v)))
  |_,_=>False)
 | .makeFunc fn first caps=>qmakeFunc fn (first.toList.map ρ) (caps.toList.map ρ) k
 | .build t parts=>qbuild T t (parts.toList.map fun p=>(p.1,ρ p.2)) k
 | .buildSlice t len parts=>qbuildSlice T t len (parts.toList.map fun p=>(p.1,ρ p.2)) k
 | .slice t x lo hi mx=>(match ρ x with
  | .own id=>qwin T t id (lo.map ρ) (hi.map ρ) (mx.map ρ) h k
  |y=>qslice T t y (lo.map ρ) (hi.map ρ) (mx.map ρ) k)
 | .fieldAddr s x f=>qfieldAddr T s (ρ x) f h k
 | .field t x f=>qfield T t (ρ x) f k
 | .indexAddr t x ix=>qindexAddr T t (ρ x) (ρ ix) h k
 | .index t x ix=>qindex T t (ρ x) (ρ ix) k
 | .extract t ix=>(match ρ t with
  | .tup l=>(match l[ix]? with
   |some d=>k (.d d)
   |none=>False)
  |_=>False)
 | .call c=>qcall T c ρ h k
 |_=>False

end Fw
end
section
set_option linter.unusedVariables false
set_option linter.unusedSimpArgs false
namespace Fw
open Go

inductive Sh where
 | ty (t : Ty)                 -- the slot holds data
 | own (e : Nat) (t : Ty)      -- the slot holds a row of its own
 | box (l : List Ar)           -- the slot holds a pointer to a box of its own
 | iter                        -- the slot holds an iterator over a string
 | obj (e : Nat) (t : Ty)      -- no slot, but an object of the caller's: a row that changes in its place
 | ar (e : Nat) (t : Ty)       -- no slot, but an arena of rows
 | ab (s : Nat) (l : List Ar)  -- no slot, but an arena of boxes that has one
 | ad (s : Nat)                -- no slot, but an arena of boxes that had one
@[reducible] def Sh.El : Sh → Type
 | .ty t=>t.El
 | .own _ t=>List t.El
 | .box l=>Ars l
 | .obj _ t=>List t.El
 | .iter=>ByteArray×Nat
 | .ar _ t=>List (Option (List t.El))
 | .ab _ l=>Ars l
 | .ad _=>Unit
@[reducible] def Shs : List (Nat × Sh) → Type
 |[]=>Unit
 |(_,a)::l=>a.El×Shs l

structure LH where
 keep:List Nat
 vars:List (Nat×Sh)

structure Hints where
 dm : List Nat                    -- makes and appends (by their slot) that make data
 fz : List (Nat × List Nat)       -- ids that become data ahead of a region
 lh : List (Nat × LH)             -- loops, by the block around them
 pf : List Nat := []              -- functions that are called by reference
 ag : List (Nat × (List Nat × List Nat)) := []   -- ahead of a region: slots whose references become data; arenas that end

def memN:Nat→List Nat→Bool
 |_,[]=>false
 |n,m::l=>bif Nat.beq n m then true else memN n l

structure WRes where
 kill:Option Nat
 heap:Hp
 val:AV

def allA:Nat:=5000000000
def scrub1 (id:Nat):AV→AV
 | .own i=>bif Nat.beq i id then .d .top else .own i
 | .ptr i o=>bif Nat.beq i id then .d .top else .ptr i o
 | .eptr i s ix o=>bif Nat.beq i id then .d .top else .eptr i s ix o
 | .win i s lo n=>bif Nat.beq i id then .d .top else .win i s lo n
 | .mptr K j s i o=>bif (Nat.beq K id||Nat.beq id allA)then .d .top else .mptr K j s i o
 | .bptr K j o=>bif (Nat.beq K id||Nat.beq id allA)then .d .top else .bptr K j o
 | .clo _ _=> .d .top
 |x=>x
def scrub (kill:Option Nat) (env:Nat→AV):Nat→AV:=
 match kill with
 |some id=>fun t=>scrub1 id (env t)
 |none=>env


def wmk (ty:Ty) (e:Nat) (ie:TInf) (n m:Int) (h:Hp) (d:Nat) (k:WRes→Prop):Prop:=
 match ty.ofCells ie.zero with
 |some (z,[])=>bif (Nat.beq ie.size ty.size&&Nat.blt 0 ie.size&&Nat.blt 0 ie.bytes)then 0≤n∧n=m∧m*ie.bytes≤140737488355328∧k ⟨none,upd h d (some (.row e ty (List.replicate n.toNat z))), .own d⟩else False
 |_=>False
def okM (T:Ctx) (id:Nat):Bool:=bif Nat.ble T.base id then true else memN id T.mods

def amOf (T:Ctx) (d:Nat):Option Nat:=look T.am (Nat.sub d T.base)
def wmember (T:Ctx) (K e:Nat) (t:Ty) (h:Hp) (k:WRes→Prop) (f:List (Option (List t.El))→(Option Nat×List (Option (List t.El))×List t.El→Prop)→Prop):Prop:=
 match h K with
 |some (.aren e' t' ms)=>(match castM t' t ms with
  |some ms=>bif (okM T K&&evenB K&&Nat.beq e e')then f ms (fun r=>k ⟨r.1,upd h K (some (.aren e t (mnew r.2.1 r.2.2))), .d (.ref K (ms.length+1))⟩)else False
  |none=>False)
 |_=>False
def wmkM (T:Ctx) (K:Nat) (ty:Ty) (e:Nat) (ie:TInf) (n m:Int) (h:Hp) (k:WRes→Prop):Prop:=
 match ty.ofCells ie.zero with
 |some (z,[])=>bif (Nat.beq ie.size ty.size&&Nat.blt 0 ie.size&&Nat.blt 0 ie.bytes)then
   wmember T K e ty h k (fun ms g=>0≤n∧n=m∧m*ie.bytes≤140737488355328∧g (none,ms,List.replicate n.toNat z))else False
 |_=>False
def wmakeM (T:Ctx) (K t:Nat) (l c:AV) (h:Hp) (k:WRes→Prop):Prop:=
 match l,c,sliceE T t,h K with
 | .d (.int _ n), .d (.int _ m),some (e,ie),some (.aren _ ty _)=>wmkM T K ty e ie n m h k
 |_,_,_,_=>False
def wmake (T:Ctx) (t:Nat) (l c:AV) (h:Hp) (d:Nat) (k:WRes→Prop):Prop:=
 match h d,l,c,sliceE T t with
 |none, .d (.int _ n), .d (.int _ m),some (e,ie)=>wmk (tyE T e) e ie n m h d k
 |_,_,_,_=>False

def okId (h:Hp) (id d:Nat):Bool:=bif Nat.beq d id then true else(match h d with
 |none=>true
 |some _=>false)

def AV.isWin:AV→Bool
 | .win .. =>true
 |_=>false
def elems (h:Hp) (t:Ty) (x:AV) (k:List t.El→Prop):Prop:=
 match(bif x.isWin then none else viewD h x)with
 |some (.slc _ t' ys)=>(match castL t' t ys with
  |some zs=>k zs
  |none=>False)
 |some (.val (.slice none 0 0))=>k []
 |_=>False

def wapn (ty:Ty) (e:Nat) (ie:TInf) (x:AV) (h:Hp) (d:Nat) (k:WRes→Prop):Prop:=
 bif (Nat.beq ie.size ty.size&&Nat.blt 0 ie.size&&Nat.blt 0 ie.bytes)then
  elems h ty x (fun ys=>(ys.length:Int)*ie.bytes≤140737488355328∧k ⟨none,upd h d (some (.row e ty ys)), .own d⟩)else False

def wappend (T:Ctx) (ts tx:Nat) (s x:AV) (h:Hp) (d:Nat) (k:WRes→Prop):Prop:=
 match sliceE T ts with
 |some (e,ie)=>bif isSliceT T tx then(match s with
  | .own id=>(match h id with
   |some (.row e' t xs)=>bif (Nat.ble T.base id&&okId h id d&&Nat.beq e e'&&Nat.beq ie.size t.size&&Nat.blt 0 ie.size&&Nat.blt 0 ie.bytes)then
     elems h t x (fun ys=>((xs.length:Int)+ys.length)*ie.bytes≤140737488355328∧k ⟨some id,upd (upd h id none) d (some (.row e t (xs++ys))), .own d⟩)else False
   |_=>False)
  | .d (.val (.slice none 0 0))=>(match h d with
   |none=>wapn (tyE T e) e ie x h d k
   |_=>False)
  |_=>False)else False
 |none=>False

def wcopy (T:Ctx) (ts tx:Nat) (s x:AV) (h:Hp) (k:WRes→Prop):Prop:=
 match sliceE T ts with
 |some (e,ie)=>bif isSliceT T tx then(match s with
  | .own id=>(match h id with
   |some (.row e' t xs)=>bif (okM T id&&Nat.beq ie.size t.size&&Nat.blt 0 ie.size)then
     elems h t x (fun ys=>k ⟨none,upd h id (some (.row e' t (ys.take xs.length++xs.drop ys.length))), .d (.int .i64 (if ys.length≤xs.length then ys.length else xs.length))⟩)else False
   |_=>False)
  |_=>False)else False
 |none=>False

def wstore (T:Ctx) (a x:AV) (h:Hp) (sz:Nat) (k:WRes→Prop):Prop:=
 match x with
 | .d v=>(match a with
  | .ptr id off=>(match h id with
   |some (.box cs)=>bif (okM T id&&v.solid&&v.cells.all D.one&&Nat.beq v.cells.length sz&&Nat.ble (off+v.cells.length) cs.length)then k ⟨none,upd h id (some (.box (splice cs off v.cells))),aundef⟩else False
   |_=>False)
  | .eptr id s ix off=>(match h id with
   |some (.row e t xs)=>bif (okM T id&&v.solid&&v.cells.all D.one&&Nat.beq s t.size&&Nat.beq v.cells.length sz&&Nat.ble (off+v.cells.length) t.size)then
     0≤ix∧ix<xs.length∧(match(bif Nat.beq sz t.size then t.ofCells v.cells else t.ofCells (splice (t.cells (rd t xs ix)) off v.cells))with
      |some (y,[])=>k ⟨none,upd h id (some (.row e t (xs.set ix.toNat y))),aundef⟩
      |_=>False)else False
   |_=>False)
  | .mptr K j s ix off=>(match h K with
   |some (.aren e t ms)=>bif (okM T K&&v.solid&&v.cells.all D.one&&Nat.beq s t.size&&Nat.beq v.cells.length sz&&Nat.ble (off+v.cells.length) t.size)then
     mal ms j∧0≤ix∧ix<(mrow ms j).length∧(match(bif Nat.beq sz t.size then t.ofCells v.cells else t.ofCells (splice (t.cells (rd t (mrow ms j) ix)) off v.cells))with
      |some (y,[])=>k ⟨none,upd h K (some (.aren e t (mset ms j ((mrow ms j).set ix.toNat y)))),aundef⟩
      |_=>False)else False
   |_=>False)
  | .bptr K j off=>(match h K with
   |some (.abox s ms)=>(match mbox ms j with
    |some cs=>bif (okM T K&&v.solid&&v.cells.all D.one&&Nat.beq v.cells.length sz&&Nat.ble (off+v.cells.length) cs.length)then k ⟨none,upd h K (some (.abox s (mset ms j (splice cs off v.cells)))),aundef⟩else False
    |none=>False)
   |_=>False)
  |_=>False)
 |_=>False

def wapM (T:Ctx) (K:Nat) (t:Ty) (e:Nat) (ie:TInf) (j:Nat) (x:AV) (h:Hp) (k:WRes→Prop):Prop:=
 bif (Nat.beq ie.size t.size&&Nat.blt 0 ie.size&&Nat.blt 0 ie.bytes)then
  wmember T K e t h k (fun ms g=>elems h t x (fun ys=>mal ms j∧(((mrow ms j).length:Int)+ys.length)*ie.bytes≤140737488355328∧g (some K,mkill ms j,mrow ms j++ys)))else False
def wappM (T:Ctx) (K ts tx:Nat) (s x:AV) (h:Hp) (k:WRes→Prop):Prop:=
 match sliceE T ts,h K with
 |some (e,ie),some (.aren _ t _)=>bif isSliceT T tx then(match s with
  | .d (.ref K' j)=>bif Nat.beq K' K then wapM T K t e ie j x h k else False
  | .d (.val (.slice none 0 0))=>wapM T K t e ie 0 x h k
  |_=>False)else False
 |_,_=>False

def wcut (T:Ctx) (t:Nat) (x:AV) (lo hi mx:Option AV) (h:Hp) (d:Nat) (k:WRes→Prop):Prop:=
 match lo,hi,mx with
 |none,some (.d (.int _ n)),none=>(match x with
  | .own id=>(match h id with
   |some (.row e ty xs)=>(match sliceE T t with
    |some _=>bif (Nat.ble T.base id&&okId h id d)then 0≤n∧n≤xs.length∧k ⟨some id,upd (upd h id none) d (some (.row e ty (xs.take n.toNat))), .own d⟩else False
    |none=>False)
   |_=>False)
  |_=>False)
 |_,_,_=>False

def wcutM (T:Ctx) (K t:Nat) (x:AV) (lo hi mx:Option AV) (h:Hp) (k:WRes→Prop):Prop:=
 match lo,hi,mx with
 |none,some (.d (.int _ n)),none=>(match x with
  | .d (.ref K' j)=>(match sliceE T t,h K with
   |some (e,_),some (.aren _ ty _)=>bif Nat.beq K' K then wmember T K e ty h k (fun ms g=>mal ms j∧0≤n∧n≤(mrow ms j).length∧g (some K,mkill ms j,(mrow ms j).take n.toNat))else False
   |_,_=>False)
  |_=>False)
 |_,_,_=>False

def canB (T:Ctx) (s:Nat) (cs:List D):Option (List D):=match look T.rb s with
 |some l=>(match decs l cs with
  |some x=>some (encs l x)
  |none=>none)
 |none=>some cs
def wboxM (T:Ctx) (K s:Nat) (cs:List D) (h:Hp) (k:WRes→Prop):Prop:=
 match h K with
 |some (.abox s' ms)=>bif (okM T K&& !(evenB K)&&Nat.beq s s')then(match canB T s cs with
  |some cs=>k ⟨none,upd h K (some (.abox s (mnew ms cs))), .d (.ref K (ms.length+1))⟩
  |none=>False)else False
 |_=>False
def wbsM (T:Ctx) (K:Nat) (ty:Ty) (e:Nat) (ie:TInf) (len:Nat) (parts:List (Nat×AV)) (h:Hp) (k:WRes→Prop):Prop:=
 match ty.ofCells ie.zero with
 |some (z,[])=>bif (Nat.beq ie.size ty.size&&Nat.blt 0 (len*ie.size)&&Nat.ble (len*ie.size) 1000000)then(match partsD parts with
  |some ds=>(match fillE ty (List.replicate len z) ds with
   |some xs=>wmember T K e ty h k (fun ms g=>g (none,ms,xs))
   |none=>False)
  |none=>False)else False
 |_=>False
def wbuildM (T:Ctx) (K t len:Nat) (parts:List (Nat×AV)) (h:Hp) (k:WRes→Prop):Prop:=
 match sliceE T t,h K with
 |some (e,ie),some (.aren _ ty _)=>wbsM T K ty e ie len parts h k
 |_,_=>False

def wbs (ty:Ty) (e:Nat) (ie:TInf) (len:Nat) (parts:List (Nat×AV)) (h:Hp) (d:Nat) (k:WRes→Prop):Prop:=
 match ty.ofCells ie.zero with
 |some (z,[])=>bif (Nat.beq ie.size ty.size&&Nat.blt 0 ie.size&&Nat.ble (len*ie.size) 1000000)then(match partsD parts with
  |some ds=>(match fillE ty (List.replicate len z) ds with
   |some xs=>k ⟨none,upd h d (some (.row e ty xs)), .own d⟩
   |none=>False)
  |none=>False)else False
 |_=>False
def wnext (T:Ctx) (x:AV) (h:Hp) (k:WRes→Prop):Prop:=
 match x with
 | .own id=>(match h id with
  |some (.iter s pos)=>bif okM T id then
    Br (decide (pos<s.size)) (bt s pos<128∧k ⟨none,upd h id (some (.iter s (pos+1))), .tup [.bool true, .int .i64 pos, .int .i32 (bt s pos)]⟩)
     (k ⟨none,upd h id (some (.iter s pos)), .tup [.bool false]⟩)else False
  |_=>False)
 |_=>False

def wfreshM (T:Ctx) (K:Nat) (C:Con) (args:List AV) (h:Hp) (k:WRes→Prop):Prop:=
 views h args fun ds=>match decs C.args ds,C.fresh with
  |some x,some e=>(match encs C.res (C.post x)with
   |[.slc false t xs]=>bif t.flat then wmember T K e t h k (fun ms g=>C.pre x∧g (none,ms,xs))else False
   |_=>False)
  |_,_=>False
def wfreshO (T:Ctx) (C:Con) (args:List AV) (h:Hp) (d:Nat) (k:WRes→Prop):Prop:=
 views h args fun ds=>match h d,decs C.args ds,C.fresh with
  |none,some x,some e=>(match encs C.res (C.post x)with
   |[.slc false t xs]=>bif t.flat then C.pre x∧k ⟨none,upd h d (some (.row e t xs)), .own d⟩else False
   |_=>False)
  |_,_,_=>False
def wcallp (T:Ctx) (pt:PT) (avs:List AV) (h:Hp) (k:WRes→Prop):Prop:=
 bif (Nat.ble (Nat.add T.base 2000000) pt.base&&(Nat.ble pt.base 1000000000&&pt.mods.all (okM T)))then(match pt.fn avs h with
  |some (p,v,h')=>p∧k ⟨some allA,h',v⟩
  |none=>False)else False

def stA:AV→AV
 | .d (.ref K j)=> .bptr K j 0
 |a=>a
def wstep (T:Ctx) (op:Op) (d:Nat) (ρ:Env) (h:Hp) (k:WRes→Prop):Prop:=
 match op with
 | .alloc t=>(match amOf T d with
  |some K=>(match look T.tt t with
   |some i=>wboxM T K t i.zero h k
   |none=>False)
  |none=>(match h d,look T.tt t with
   |none,some i=>k ⟨none,upd h d (some (.box i.zero)), .ptr d 0⟩
   |_,_=>False))
 | .box t x=>(match amOf T d with
  |some K=>(match ρ x with
   | .d v=>bif v.solid then wboxM T K t v.cells h k else False
   |_=>False)
  |none=>(match h d,ρ x with
   |none, .d v=>bif v.solid then k ⟨none,upd h d (some (.box v.cells)), .ptr d 0⟩else False
   |_,_=>False))
 | .makeSlice t l c=>(match amOf T d with
  |some K=>wmakeM T K t (ρ l) (ρ c) h k
  |none=>wmake T t (ρ l) (ρ c) h d k)
 | .store t a x=>(match look T.tt t with
  |some i=>wstore T (stA (ρ a)) (ρ x) h i.size k
  |none=>False)
 | .buildSlice t len parts=>(match amOf T d with
  |some K=>wbuildM T K t len (parts.toList.map fun p=>(p.1,ρ p.2)) h k
  |none=>(match h d,sliceE T t with
   |none,some (e,ie)=>wbs (tyE T e) e ie len (parts.toList.map fun p=>(p.1,ρ p.2)) h d k
   |_,_=>False))
 | .range t x=>(match h d,look T.tt t,ρ x with
  |none,some i, .d (.str s)=>(match i.desc with
   | .str=>k ⟨none,upd h d (some (.iter s 0)), .own d⟩
   |_=>False)
  |_,_,_=>False)
 | .next x b=>bif b then wnext T (ρ x) h k else False
 | .slice t x lo hi mx=>(match amOf T d with
  |some K=>wcutM T K t (ρ x) (lo.map ρ) (hi.map ρ) (mx.map ρ) h k
  |none=>wcut T t (ρ x) (lo.map ρ) (hi.map ρ) (mx.map ρ) h d k)
 | .call c=>(match c.callee,c.args.toList,c.argTypes.toList with
  | .builtin .append,[s,x],[ts,tx]=>(match amOf T d with
   |some K=>wappM T K ts tx (ρ s) (ρ x) h k
   |none=>wappend T ts tx (ρ s) (ρ x) h d k)
  | .builtin .copy,[s,x],[ts,tx]=>wcopy T ts tx (ρ s) (ρ x) h k
  | .value (.func f),args,_=>(match look T.pts f with
   |some pt=>wcallp T pt (args.map ρ) h k
   |none=>(match amOf T d,look T.fs f with
    |some K,some C=>wfreshM T K C (args.map ρ) h k
    |none,some C=>wfreshO T C (args.map ρ) h d k
    |_,_=>False))
  | .value (.tmp t),args,_=>(match ρ (.tmp t)with
   | .d (.clo f caps)=>(match look T.pts f with
    |some pt=>wcallp T pt (args.map ρ++caps.map .d) h k
    |none=>False)
   |_=>False)
  |_,_,_=>False)
 |_=>False

def cls (H:Hints) (o:Oper):Nat:=
 match o.op with
 | .move _=>0
 | .assign _=>0
 | .extract _ _=>0
 | .alloc _=>mk o.dst
 | .box _ _=>mk o.dst
 | .makeSlice _ _ _=>mk o.dst
 | .store _ _ _=>3
 | .range _ _=>3
 | .next _ _=>3
 | .buildSlice _ _ _=>(match o.dst with
  |some d=>bif memN d H.dm then 3 else 1
  |none=>1)
 | .slice _ _ _ _ _=>(match o.dst with
  |some d=>bif memN d H.dm then 3 else 1
  |none=>1)
 | .call c=>(match c.callee with
  | .builtin .append=>(match o.dst with
   |some d=>bif memN d H.dm then 1 else 3
   |none=>3)
  | .builtin .copy=>3
  | .value (.func f)=>bif memN f H.pf then 3 else(match o.dst with
   |some d=>bif memN d H.dm then 3 else 1
   |none=>1)
  | .value (.tmp _)=>(match o.dst with
   |some d=>bif memN d H.dm then 3 else 1
   |none=>1)
  |_=>1)
 |_=>1
where
 mk:Option Nat→Nat
  |some d=>bif memN d H.dm then 3 else 2
  |none=>3

def dstN (o:Oper):Nat:=match o.dst with
 |some d=>d
 |none=>0

def WRes.act (r:WRes) (A:AState) (d:Option Nat):AState:=
 match d with
 |some d=>⟨upd (scrub r.kill A.env) d r.val,r.heap⟩
 |none=>⟨scrub r.kill A.env,r.heap⟩

def nid (T:Ctx) (o:Oper):Nat:=Nat.add T.base (dstN o)

def okAm (T:Ctx) (H:Hints) (o:Oper):Bool:= !(Nat.beq (cls H o) 2&&(amOf T (nid T o)).isSome)
def step (T:Ctx) (H:Hints) (o:Oper) (A:AState) (K:AState→Prop):Prop:=
 bif Nat.ble 2 (cls H o)then(bif (Nat.blt (dstN o) 1000000&&okAm T H o)then wstep T o.op (nid T o) A.ev A.heap (fun r=>K (r.act A o.dst))else False)
 else qstep T o.op A.ev A.heap (fun v=>K (A.put o.dst v))

def isUndef:AV→Bool
 | .d (.val (.tuple vs))=>vs.toList.isEmpty
 |_=>false

def gstep (T:Ctx) (H:Hints) (ops:Array Oper) (o:Oper) (A:AState) (K:AState→Prop):Prop:=
 match o.guard with
 |none=>step T H o A K
 |some (j,want)=>(match(ops[j]?).bind (·.dst)with
  |some dj=>(match A.env dj with
   | .d (.bool b)=>Br b
     (bif want then step T H o (A.put (some dj) (.d (.bool true))) K else K ((A.put (some dj) (.d (.bool true))).put o.dst aundef))
     (bif want then K ((A.put (some dj) (.d (.bool false))).put o.dst aundef)else step T H o (A.put (some dj) (.d (.bool false))) K)
   |x=>bif isUndef x then K (A.put o.dst aundef)else False)
  |none=>False)

def aops (T:Ctx) (H:Hints) (ops:Array Oper):List Oper→AState→(AState→Prop)→Prop
 |[],A,K=>K A
 |o::l,A,K=>gstep T H ops o A (fun A'=>aops T H ops l A' K)

def memT (d:Nat):List Operand→Bool
 |[]=>false
 | .tmp t::l=>bif Nat.beq t d then true else memT d l
 |_::l=>memT d l
def looksN (ops : Array Oper) (o : Oper) (d : Nat) : Bool :=
  memT d o.op.operands.toList ||
  (match o.guard with
   | some (g, _) => (match (ops[g]?).bind (·.dst) with
     | some t => Nat.beq t d
     | none => false)
   | none => false)
def apart1 (ops:Array Oper) (x y:Oper):Bool:=
 match x.dst with
 |some d=> !looksN ops y d&&(match y.dst with
  |some e=> !Nat.beq d e
  |none=>true)
 |none=>true
def clsOK (i j:Nat):Bool:=
 (Nat.ble i 2&&Nat.ble j 2)||(Nat.beq i 0&&Nat.beq j 3)||(Nat.beq i 3&&Nat.beq j 0)
def pairOK (H:Hints) (ops:Array Oper) (x y:Oper):Bool:=
 apart1 ops x y&&apart1 ops y x&&clsOK (cls H x) (cls H y)
def waits (o:Oper) (i:Nat):Bool:=o.after.toList.any fun e=>Region.binds .any e&&Nat.beq e.on i
def waitsT (ops:Array Oper):Nat→Oper→Nat→Bool
 |0,o,i=>waits o i
 |f+1,o,i=>waits o i||o.after.toList.any fun e=>Region.binds .any e&&(match ops[e.on]? with
  |some o'=>waitsT ops f o' i
  |none=>false)
def ptrId (v:AV):Option Nat:=match v with
 | .ptr i _=>some i
 |_=>none
def notDst (ops:Array Oper):Operand→Bool
 | .tmp t=>ops.toList.all fun o=>(match o.dst with
  |some d=> !Nat.beq d t
  |none=>true)
 |_=>false
def farPQ (ops:Array Oper) (A:AState) (p q:Operand):Bool:=notDst ops p&&notDst ops q&&(match ptrId (A.ev p),ptrId (A.ev q)with
 |some i,some j=> !Nat.beq i j
 |_,_=>false)
def noHeap:Op→Bool
 | .pick _ _ _=>true
 | .nilCheck _=>true
 | .binOp _ _ _ _ _=>true
 | .unOp _ _ _=>true
 | .makeInterface _ _=>true
 | .build _ _=>true
 | .fieldAddr _ _ _=>true
 | .field _ _ _=>true
 | .index _ _ _=>true
 |_=>false
def isLoad:Op→Bool
 | .load _ _=>true
 |_=>false
def growOp (T:Ctx) (y:Oper):Bool:=match y.op with
 | .call c=>(match c.callee with
  | .value (.func f)=>(match look T.pts f,amOf T (nid T y)with
   |none,some _=>true
   |_,_=>false)
  |_=>false)
 |_=>false
def calmOp (ops:Array Oper) (A:AState) (op:Op):Bool:=match op with
 | .load _ p=>notDst ops p&&(ptrId (A.ev p)).isSome
 |_=>false
def nref:AV→Bool
 | .d (.ref _ _)=>false
 |_=>true
def okN (ops:Array Oper) (A:AState) (t:Nat):Bool:=nref (A.env t)&&ops.toList.all fun o=>(match o.dst with
 |some d=>bif Nat.beq d t then(match o.op with
  | .move s=>notDst ops s&&nref (A.ev s)
  |_=>false)else true
 |none=>true)
def lenOK (ops:Array Oper) (A:AState) (op:Op):Bool:=match op with
 | .call c=>(match c.callee,c.args.toList with
  | .builtin .len,[.tmp t]=>okN ops A t
  |_,_=>false)
 |_=>false
def farOK (T:Ctx) (ops:Array Oper) (A:AState) (x y:Oper):Bool:=apart1 ops x y&&apart1 ops y x&&(match x.op,y.op with
 | .load _ p, .store _ q _=>farPQ ops A p q
 | .store _ q _, .load _ p=>farPQ ops A p q
 | .store _ _ _,op=>noHeap op
 |op, .store _ _ _=>noHeap op
 |op,op'=>((noHeap op||isLoad op)&&growOp T y)||(growOp T x&&((noHeap op'||calmOp ops A op')||lenOK ops A op')))
def lexL (T:Ctx) (H:Hints) (ops:Array Oper) (A:AState):Nat→List Oper→Bool
 |_,[]=>true
 |k,o::l=>(o.after.toList.all fun e=> !Region.binds .any e||Nat.blt e.on k)&&(l.all fun p=>waits p k||((pairOK H ops o p||farOK T ops A o p)||waitsT ops 14 p k))&&lexL T H ops A (k+1) l

def panOp (T:Ctx) (o:Oper):Bool:=
 match o.guard,o.op with
 |none, .panic _=>true
 |none, .call c=>(match c.callee with
  | .value (.func f)=>(match look T.pan f with
   |some _=>true
   |none=>false)
  |_=>false)
 |_,_=>false
def pstep (T:Ctx) (o:Oper) (A:AState) (kp:Prop) (k:AV→Prop):Prop:=
 match o.op with
 | .panic x=>(match A.ev x with
  | .d (.iface t (.agg []))=>bif Nat.beq t T.pt then kp else False
  |_=>False)
 | .call c=>(match c.callee with
  | .value (.func f)=>(match look T.pan f with
   |some C=>qconP C A.heap (c.args.toList.map A.ev) kp k
   |none=>False)
  |_=>False)
 |_=>False

def panAll (C:ConP):Con:= { C.con with pre:=fun x=>C.con.pre x∧C.pan x=true }
def panNone (C:ConP):Con:= { C.con with pre:=fun x=>C.con.pre x∧C.pan x=false }
def withFs (T:Ctx) (l:List (Nat×Con)):Ctx:=⟨T.tt,l++T.fs,T.invs,T.cv,T.pts,T.base,T.mods,T.pan,T.pt,T.am,T.ars,T.rt,T.rb,T.alts⟩
def Tall (T:Ctx):Ctx:=withFs T (T.pan.map fun p=>(p.1,panAll p.2))
def Tnone (T:Ctx):Ctx:=withFs T (T.pan.map fun p=>(p.1,panNone p.2))
def okPan (T:Ctx) (H:Hints) (o:Oper):Bool:=
 match o.op with
 | .call c=>(match c.callee with
  | .value (.func f)=>(match look T.pan f with
   |some _=>o.guard.isNone&&(!memN f H.pf&&(match o.dst with
    |some d=> !memN d H.dm
    |none=>true))
   |none=>true)
  | .builtin _=>true
  |_=>false)
 |_=>true

inductive AX where
 |normal|exit (id:Nat)|ret|pan

def freeze1 (A:AState) (id:Nat):AState:=
 match A.heap id with
 |some (.row _ t xs)=>⟨fun s=>fz1 id (.slc false t xs) .top (A.env s),upd A.heap id none⟩
 |some (.box cs)=>⟨fun s=>fz2 id cs (A.env s),upd A.heap id none⟩
 |_=>A
where
 fz1 (id:Nat) (x y:D):AV→AV
  | .own i=>bif Nat.beq i id then .d x else .own i
  | .ptr i o=>bif Nat.beq i id then .d y else .ptr i o
  | .eptr i s ix o=>bif Nat.beq i id then .d y else .eptr i s ix o
  | .win i s lo n=>bif Nat.beq i id then .d y else .win i s lo n
  | .mptr K j s i o=>bif Nat.beq K id then .d y else .mptr K j s i o
  | .bptr K j o=>bif Nat.beq K id then .d y else .bptr K j o
  | .clo f cs=> .d .top
  |a=>a
 fz2 (id:Nat) (cs:List D):AV→AV
  | .own i=>bif Nat.beq i id then .d .top else .own i
  | .ptr i o=>bif Nat.beq i id then .d (.rptr (cs.drop o))else .ptr i o
  | .eptr i s ix o=>bif Nat.beq i id then .d .top else .eptr i s ix o
  | .win i s lo n=>bif Nat.beq i id then .d .top else .win i s lo n
  | .mptr K j s i o=>bif Nat.beq K id then .d .top else .mptr K j s i o
  | .bptr K j o=>bif Nat.beq K id then .d .top else .bptr K j o
  | .clo f cs=> .d .top
  |a=>a
def freezeAll (T:Ctx) (A:AState):List Nat→AState
 |[]=>A
 |id::l=>freezeAll T (bif Nat.ble T.base id then freeze1 A id else A) l
def frozenAt (T:Ctx) (H:Hints) (A:AState) (id:Nat):AState:=
 match look H.fz id with
 |some l=>freezeAll T A l
 |none=>A
def meltR (dr:List Nat) (h:Hp) (t:Ty) (ms:List (Option (List t.El))) (j:Nat) (k:D→Prop):Prop:=
 match t,ms with
 | .ref K',ms=>(match h K' with
  |some (.aren _ t' ms')=>bif (memN K' dr&&(evenB K'&&t'.nr))then mal ms j∧(∀i∈mrow ms j,mal ms' i)∧k (.slc false (.slc t') ((mrow ms j).map (mrow ms')))else False
  |_=>False)
 |t,ms=>bif t.nr then mal ms j∧k (.slc false t (mrow ms j))else False
def meltK (dr:List Nat) (h:Hp) (K j:Nat) (k:D→Prop):Prop:=
 match h K with
 |some (.aren _ t ms)=>bif (memN K dr&&evenB K)then meltR dr h t ms j k else False
 |_=>False
def meltC (dr:List Nat) (h:Hp):List D→(List D→Prop)→Prop
 |[],k=>k []
 | .ref K j::l,k=>meltK dr h K j (fun d=>meltC dr h l (fun ds=>k (d::ds)))
 |c::l,k=>meltC dr h l (fun ds=>k (c::ds))
def meltB (dr:List Nat) (h:Hp) (K j:Nat) (k:D→Prop):Prop:=
 match h K with
 |some (.abox _ ms)=>(match mbox ms j with
  |some cs=>bif memN K dr then meltC dr h cs (fun ds=>k (.rptr ds))else False
  |none=>False)
 |_=>False
def melt1 (dr:List Nat) (h:Hp) (x:AV) (k:D→Prop):Prop:=
 match x with
 | .d (.ref K j)=>bif evenB K then meltK dr h K j k else meltB dr h K j k
 |_=>False
def melt (dr:List Nat) (h:Hp):List Nat→(Nat→AV)→((Nat→AV)→Prop)→Prop
 |[],env,k=>k env
 |s::l,env,k=>melt1 dr h (env s) (fun d=>melt dr h l (upd env s (.d d)) k)
def endAr {α:Type} (ms:List (Option (List α))):List (Option (List α)):=ms.map fun _=>none
def dropO:Option Obj→Option Obj
 |some (.aren e t ms)=>some (.aren e t (endAr ms))
 |some (.abox s ms)=>some (.abox s (endAr ms))
 |o=>o
def dropAr:List Nat→Hp→Hp
 |[],h=>h
 |K::l,h=>dropAr l (upd h K (dropO (h K)))
def topAr (l:List Nat):AV→AV
 | .mptr K j s i o=>bif memN K l then .d .top else .mptr K j s i o
 | .bptr K j o=>bif memN K l then .d .top else .bptr K j o
 |a=>a
def startAt (T:Ctx) (H:Hints) (A:AState) (id:Nat) (K:AState→Prop):Prop:=
 match look H.ag id with
 |some p=>bif (p.2.all (okM T)&&p.1.Nodup)then melt p.2 A.heap p.1 A.env (fun env=>K ⟨fun s=>topAr p.2 (env s),dropAr p.2 A.heap⟩)else False
 |none=>K (frozenAt T H A id)

def aopsP (T:Ctx) (H:Hints) (ops:Array Oper):List Oper→AState→(AX→AState→Prop)→Prop
 |[],A,K=>K .normal A
 |o::l,A,K=>bif panOp T o then pstep T o A (K .pan A) (fun v=>aopsP T H ops l (A.put o.dst v) K)
   else gstep T H ops o A (fun A'=>aopsP T H ops l A' K)

def dstsIn (N:Nat):List Oper→Bool
 |[]=>true
 |o::l=>(match o.dst with
  |some d=>Nat.blt d N
  |none=>true)&&dstsIn N l

def hid (b s:Nat):Nat:=Nat.add (Nat.add b 1000000) s
def varsOf (b:Nat) (vars:List (Nat×Sh)) (x:Shs vars) (s:Nat) (els:AV):AV:=
 match vars,x with
 |[],_=>els
 |(t, .ty ty)::l,x=>bif Nat.beq t s then .d (ty.toD x.1)else varsOf b l x.2 s els
 |(t, .own _ _)::l,x=>bif Nat.beq t s then .own (hid b t)else varsOf b l x.2 s els
 |(t, .box _)::l,x=>bif Nat.beq t s then .ptr (hid b t) 0 else varsOf b l x.2 s els
 |(_, .obj _ _)::l,x=>varsOf b l x.2 s els
 |(_, .ar _ _)::l,x=>varsOf b l x.2 s els
 |(_, .ab _ _)::l,x=>varsOf b l x.2 s els
 |(_, .ad _)::l,x=>varsOf b l x.2 s els
 |(t, .iter)::l,x=>bif Nat.beq t s then .own (hid b t)else varsOf b l x.2 s els
def heapOf (vars:List (Nat×Sh)) (x:Shs vars) (id:Nat):Option Obj:=
 match vars,x with
 |[],_=>none
 |(_, .ty _)::l,x=>heapOf l x.2 id
 |(t, .own e ty)::l,x=>bif Nat.beq t id then some (.row e ty x.1)else heapOf l x.2 id
 |(t, .box cs)::l,x=>bif Nat.beq t id then some (.box (encs cs x.1))else heapOf l x.2 id
 |(_, .obj _ _)::l,x=>heapOf l x.2 id
 |(_, .ar _ _)::l,x=>heapOf l x.2 id
 |(_, .ab _ _)::l,x=>heapOf l x.2 id
 |(_, .ad _)::l,x=>heapOf l x.2 id
 |(t, .iter)::l,x=>bif Nat.beq t id then some (.iter x.1.1 x.1.2)else heapOf l x.2 id
def objOf (vars:List (Nat×Sh)) (x:Shs vars) (id:Nat) (els:Option Obj):Option Obj:=
 match vars,x with
 |[],_=>els
 |(_, .ty _)::l,x=>objOf l x.2 id els
 |(_, .own _ _)::l,x=>objOf l x.2 id els
 |(_, .box _)::l,x=>objOf l x.2 id els
 |(_, .iter)::l,x=>objOf l x.2 id els
 |(t, .obj e ty)::l,x=>bif Nat.beq t id then some (.row e ty x.1)else objOf l x.2 id els
 |(t, .ar e ty)::l,x=>bif Nat.beq t id then some (.aren e ty x.1)else objOf l x.2 id els
 |(t, .ab e ty)::l,x=>bif Nat.beq t id then some (.abox e [some (encs ty x.1)])else objOf l x.2 id els
 |(t, .ad e)::l,x=>bif Nat.beq t id then some (.abox e [none])else objOf l x.2 id els
def keepV (b:Nat) (mods:List Nat):AV→AV
 | .d x=> .d x
 | .own id=>bif Nat.blt id b then .own id else .d .top
 | .ptr id o=>bif Nat.blt id b then .ptr id o else .d .top
 | .win id s lo n=>bif Nat.blt id b then .win id s lo n else .d .top
 | .bptr K j o=>bif (Nat.blt K b&& !(memN K mods))then .bptr K j o else .d .top
 |_=> .d .top
def keepOf (b:Nat) (mods:List Nat) (keep:List Nat) (S:AState) (s:Nat):AV:=
 bif memN s keep then keepV b mods (S.env s)else .d .top
def mkState (T:Ctx) (S:AState) (L:LH) (x:Shs L.vars):AState:=
 ⟨fun s=>varsOf T.base L.vars x s (keepOf T.base T.mods L.keep S s),fun id=>bif Nat.ble (Nat.add T.base 1000000) id then heapOf L.vars x (Nat.sub id (Nat.add T.base 1000000))else(bif Nat.blt id T.base then objOf L.vars x id (S.heap id)else none)⟩
def modsIn (vars:List (Nat×Sh)):List Nat→Bool
 |[]=>true
 |m::l=>(vars.any fun|(t, .obj _ _)=>Nat.beq t m|(t, .ar _ _)=>Nat.beq t m|(t, .ab _ _)=>Nat.beq t m|(t, .ad _)=>Nat.beq t m|_=>false)&&modsIn vars l
def slotsOK:List (Nat×Sh)→Bool
 |[]=>true
 |(s, .obj _ _)::l=>slotsOK l
 |(s, .ar _ _)::l=>slotsOK l
 |(s, .ab _ _)::l=>slotsOK l
 |(s, .ad _)::l=>slotsOK l
 |(s,_)::l=>Nat.blt s 1000000&&slotsOK l

def ext (b:Nat) (S:AState):(vars:List (Nat×Sh))→List Nat→(Shs vars→Prop)→Prop
 |[],_,k=>k ()
 |(s, .ty t)::l,used,k=>(match viewD S.heap (S.env s)with
  |some d=>(match t.ofD d with
   |some x=>(bif AV.isD (S.env s)then ext b S l used (fun xs=>k (x,xs))else False)
   |none=>False)
  |none=>False)
 |(s, .own e t)::l,used,k=>(match S.env s with
  | .own id=>(match S.heap id with
   |some (.row e' t' xs)=>(match castL t' t xs with
    |some ys=>bif (Nat.beq e e'&&Nat.ble b id&& !memN id used)then ext b S l (id::used) (fun zs=>k (ys,zs))else False
    |none=>False)
   |_=>False)
  | .d (.val (.slice none 0 0))=>ext b S l used (fun zs=>k ([],zs))
  |_=>False)
 |(s, .box t)::l,used,k=>(match S.env s with
  | .ptr id 0=>(match S.heap id with
   |some (.box cs)=>(match decs t cs with
    |some x=>bif (Nat.ble b id&& !memN id used)then ext b S l (id::used) (fun zs=>k (x,zs))else False
    |none=>False)
   |_=>False)
  |_=>False)
 |(s, .iter)::l,used,k=>(match S.env s with
  | .own id=>(match S.heap id with
   |some (.iter str pos)=>bif (Nat.ble b id&& !memN id used)then ext b S l (id::used) (fun zs=>k ((str,pos),zs))else False
   |_=>False)
  |_=>False)
 |(g, .obj e t)::l,used,k=>(match S.heap g with
  |some (.row e' t' xs)=>(match castL t' t xs with
   |some ys=>bif Nat.beq e e' then ext b S l used (fun zs=>k (ys,zs))else False
   |none=>False)
  |_=>False)
 |(g, .ar e t)::l,used,k=>(match S.heap g with
  |some (.aren e' t' xs)=>(match castM t' t xs with
   |some ys=>bif Nat.beq e e' then ext b S l used (fun zs=>k (ys,zs))else False
   |none=>False)
  |_=>False)
 |(g, .ab e t)::l,used,k=>(match S.heap g with
  |some (.abox e' [some cs])=>(match decs t cs with
   |some x=>bif Nat.beq e e' then encs t x=cs∧ext b S l used (fun zs=>k (x,zs))else False
   |none=>False)
  |_=>False)
 |(g, .ad e)::l,used,k=>(match S.heap g with
  |some (.abox e' [none])=>bif Nat.beq e e' then ext b S l used (fun zs=>k ((),zs))else False
  |_=>False)

def rdy (ops:Array Oper) (l:List Nat) (i:Nat):Bool:=
 !memN i l&&(match ops[i]? with
  |some o=>o.after.toList.all fun e=> !Region.binds .any e||memN e.on l
  |none=>false)
def allR:List Nat→(Nat→Prop)→Prop
 |[],_=>True
 |[i],k=>k i
 |i::l,k=>k i∧allR l k
def aAnyC (T:Ctx) (H:Hints) (ops:Array Oper) (K:AState→Prop):Nat→List Nat→AState→Prop
 |0,l,A=>bif (List.range ops.size).any (rdy ops l)then False else K A
 |f+1,l,A=>bif (List.range ops.size).any (rdy ops l)then
   allR ((List.range ops.size).filter (rdy ops l)) (fun i=>match ops[i]? with
    |some o=>gstep T H ops o A (aAnyC T H ops K f (i::l))
    |none=>False)else K A

def itl {σ:Type} (F:(σ→Prop)→σ→Prop):Nat→σ→Prop
 |0=>fun _=>False
 |n+1=>F (itl F n)

def writes:Code→List Nat
 | .region _ ops _=>ops.toList.filterMap (·.dst)
 | .seq a b=>writes a++writes b
 | .cond _ a b=>writes a++writes b
 | .block _ c=>writes c
 | .loop c=>writes c
 | .rangeFunc _ _ a c=>writes a++writes c
 | .scope c=>writes c
 |_=>[]
def noneIn (keep:List Nat):List Nat→Bool
 |[]=>true
 |d::l=> !memN d keep&&noneIn keep l

def awp (T:Ctx) (H:Hints) (N:Nat):Code→Nat→(AX→AState→Prop)→AState→Prop
 | .skip,_,K,A=>K .normal A
 | .label _,_,K,A=>K .normal A
 | .region id ops draw,_,K,A=>bif dstsIn N ops.toList then startAt T H A id (fun B=>bif draw then(bif lexL T H ops B 0 ops.toList then(bif ops.toList.any (panOp T)then(bif ops.toList.all (okPan T H)then
    (((∀A',K .pan A')∧aops (Tall T) H ops ops.toList B (fun _=>True))∨aops (Tnone T) H ops ops.toList B (K .normal))else False)
    else aops T H ops ops.toList B (K .normal))else(bif ops.toList.any (panOp T)then False else aAnyC T H ops (K .normal) ops.size [] B))else aopsP T H ops ops.toList B K)else False
 | .seq a b,blk,K,A=>awp T H N a blk (fun e A'=>match e with
  | .normal=>awp T H N b blk K A'
  |e=>K e A') A
 | .cond c a b,blk,K,A=>(match A.ev c with
  | .d (.bool x)=>Br x (awp T H N a blk K A) (awp T H N b blk K A)
  |_=>False)
 | .block id c,_,K,A=>awp T H N c id (fun e A'=>match e with
  | .exit i=>bif Nat.beq i id then K .normal A' else K (.exit i) A'
  |e=>K e A') A
 | .loop c,blk,K,A=>(match look H.lh blk with
  |some L=>bif (noneIn L.keep (writes c)&&(modsIn L.vars T.mods&&slotsOK L.vars))then
    ext T.base A L.vars [] (fun x=> ∃n,itl (fun G x=>awp T H N c blk (fun e A'=>match e with
     | .normal=>ext T.base A' L.vars [] G
     |e=>K e A') (mkState T A L x)) n x)else False
  |none=>False)
 | .exit id,_,K,A=>K (.exit id) A
 | .ret,_,K,A=>K .ret A
 | .scope c,blk,K,A=>awp T H N c blk K A
 |_,_,_,_=>False

def resD (T:Ctx) (A:AState):List ResultVar→(List D→Prop)→Prop
 |[],k=>k []
 | .tmp t::l,k=>view1 A.heap (A.env t) (fun d=>resD T A l (fun ds=>k (d::ds)))
 | .cell a t::l,k=>(match A.env a,look T.tt t with
  | .ptr id off,some i=>(match A.heap id with
   |some (.box cs)=>(match(bif i.desc.agg then(bif Nat.ble i.size (cs.drop off).length then some (D.agg ((cs.drop off).take i.size))else none)else(cs.drop off)[0]?)with
    |some d=>resD T A l (fun ds=>k (d::ds))
    |none=>False)
   |_=>False)
  |_,_=>False)

def arsH:List (Nat×Obj)→Hp
 |[],_=>none
 |(K,o)::l,id=>bif Nat.beq K id then some o else arsH l id
def start (T:Ctx) (ds:List D):AState:=⟨fun t=>match ds[t]? with
 |some d=> .d d
 |none=>aundef,arsH T.ars⟩

def finishF (e:Nat) (res:List ResultVar) (C:Con) (x:Ars C.args) (A:AState):Prop:=
 match res with
 |[.tmp t]=>(match A.env t with
  | .own id=>(match A.heap id with
   |some (.row e' ty xs)=>bif Nat.beq e e' then(match decs C.res [.slc false ty xs]with
    |some y=>y=C.post x
    |none=>False)else False
   |_=>False)
  | .d (.val (.slice none 0 0))=>(match decs C.res [.val (.slice none 0 0)]with
   |some y=>y=C.post x
   |none=>False)
  |_=>False)
 |_=>False

def finish (T:Ctx) (res:List ResultVar) (C:Con) (x:Ars C.args) (e:AX) (A:AState):Prop:=
 match e with
 | .exit _=>False
 | .pan=>False
 |_=>(match C.fresh with
  |some e=>finishF e res C x A
  |none=>resD T A res fun ds=>match decs C.res ds with
    |some y=>y=C.post x
    |none=>False)

def VC (T:Ctx) (H:Hints) (fn:Func) (C:Con) (x:Ars C.args):Prop:=
 match fn.body with
 |some c=>bif Nat.ble C.args.length fn.ntmps then awp T H fn.ntmps c 0 (finish T fn.results.toList C x) (start T (encs C.args x))else False
 |none=>False

def startP (avs:List AV) (h:Hp):AState:=⟨fun t=>match avs[t]? with
 |some v=>v
 |none=>aundef,h⟩
def D.scalar:D→Bool
 | .int _ _=>true
 | .bool _=>true
 | .str _=>true
 | .ref _ _=>true
 | .val _=>true
 |_=>false
def resS (A:AState):List ResultVar→Option (List D)
 |[]=>some []
 | .tmp t::l=>(match A.env t,resS A l with
  | .d d,some ds=>bif d.scalar then some (d::ds)else none
  |_,_=>none)
 |_=>none
def sameO:Option Obj→Option Obj→Prop
 |some (.row e t xs),some (.row e' t' ys)=>(match castL t t' xs with
  |some zs=>bif Nat.beq e e' then zs=ys else False
  |none=>False)
 |some (.aren e t xs),some (.aren e' t' ys)=>(match castM t t' xs with
  |some zs=>bif Nat.beq e e' then zs=ys else False
  |none=>False)
 |some (.abox e xs),some (.abox e' ys)=>bif Nat.beq e e' then xs=ys else False
 |_,_=>False
def resIs:List D→AV→Prop
 |[.int k n], .d (.int k' m)=>bif ikb k k' then n=m else False
 |[.bool b], .d (.bool c)=>b=c
 |[.ref K j], .d (.ref K' j')=>bif Nat.beq K K' then j=j' else False
 |[.val (.slice none 0 0)], .d (.ref K' j')=>bif evenB K' then 0=j' else False
 |[.val (.pointer none)], .d (.ref K' j')=>bif evenB K' then False else 0=j'
 |[], .tup []=>True
 |_,_=>False
def sameAt (h h':Hp):List Nat→Prop
 |[]=>True
 |m::l=>sameO (h m) (h' m)∧sameAt h h' l
def finishP (res:List ResultVar) (pt:PT) (v:AV) (h':Hp) (e:AX) (A:AState):Prop:=
 match e with
 | .exit _=>False
 | .pan=>False
 |_=>(match resS A res with
  |some ds=>resIs ds v∧sameAt A.heap h' pt.mods
  |none=>False)
def VCP (T:Ctx) (H:Hints) (fn:Func) (pt:PT) (avs:List AV) (h:Hp) (v:AV) (h':Hp):Prop:=
 match fn.body with
 |some c=>bif Nat.ble avs.length fn.ntmps then awp T H fn.ntmps c 0 (finishP fn.results.toList pt v h') (startP avs h)else False
 |none=>False

end Fw
end
section
set_option linter.unusedVariables false
set_option linter.unusedSimpArgs false
namespace Fw
open Go Go.RowKit

theorem mkTI_spec {P:Program} {t:Nat} {i:TInf} (h:mkTI P t=some i):
  ∃inf d z,P.info? t=some inf∧P.underlying t=some d∧inf.zero=some z∧inf.size=i.size∧inf.bytes=i.bytes∧tdOf d=i.desc∧z.cells.toList.map constD0=i.zero:=by
 unfold mkTI at h
 split at h
 ·rename_i inf hi
  split at h
  ·rename_i d hd
   split at h
   ·rename_i z hz
    cases hb:Nat.beq z.cells.size inf.size with
    |false=>rw[hb]at h;cases h
    |true=>
     rw[hb]at h
     injection h with h
     subst h
     exact⟨inf,d,z,hi,hd,hz,rfl,rfl,rfl,rfl⟩
   ·cases h
  ·cases h
 ·cases h
theorem mkTI_zero {P:Program} {t:Nat} {i:TInf} (h:mkTI P t=some i) {inf:TypeInfo} {z:Value} (h1:P.info? t=some inf) (h2:inf.zero=some z):z.cells.size=inf.size:=by
 unfold mkTI at h
 rw[h1]at h
 simp only[h2]at h
 split at h
 ·cases hb:Nat.beq z.cells.size inf.size with
  |false=>rw[hb]at h;cases h
  |true=>exact Nat.eq_of_beq_eq_true hb
 ·cases h

theorem tdOf_slice {d:TypeDesc} {e:Nat} (h:tdOf d= .slice e):d= .slice e:=by
 cases d<;>simp[tdOf]at h;subst h;rfl
theorem tdOf_str {d:TypeDesc} (h:tdOf d= .str):d= .string:=by
 cases d<;>simp[tdOf]at h;rfl
theorem tdOf_int {d:TypeDesc} {k:IntKind} (h:tdOf d= .int k):d= .int k:=by
 cases d<;>simp[tdOf]at h;subst h;rfl
theorem tdOf_struct {d:TypeDesc} {fs:List (Nat×Nat)} (h:tdOf d= .struct fs): ∃fa:Array Field,d= .struct fa∧fs=fa.toList.map fun f=>(f.offset,f.type):=by
 cases d<;>simp[tdOf]at h;exact⟨_,rfl,h.symm⟩
theorem tdOf_array {d:TypeDesc} {n e:Nat} (h:tdOf d= .array n e):d= .array n e:=by
 cases d<;>simp[tdOf]at h;obtain⟨rfl,rfl⟩:=h;rfl
theorem tdOf_agg {d:TypeDesc}:(tdOf d).agg=(match d with| .struct _| .array _ _=>true|_=>false):=by
 cases d<;>rfl

theorem add_add (a:Addr) (i j:Nat):(a.add i).add j=a.add (i+j):=by
 unfold Addr.add
 by_cases hi:i=0
 ·subst hi;simp
 ·by_cases hj:j=0
  ·subst hj;simp[hi]
  ·have:i+j≠0:=by omega
   simp[hi,hj,this];omega
theorem add_zero' (a:Addr):a.add 0=a:=by simp[Addr.add]
theorem add_block (a:Addr) (i:Nat):(a.add i).block=a.block:=by unfold Addr.add;split<;>rfl
theorem add_plain (g i j:Nat):(⟨g,i,none⟩:Addr).add j=⟨g,i+j,none⟩:=by
 unfold Addr.add
 split
 ·rename_i h;subst h;rfl
 ·rfl

theorem cells_length: ∀(t:Ty) (x:t.El),(t.cells x).length=t.size
 | .int _,_=>rfl
 | .bool,_=>rfl
 | .str,_=>rfl
 | .slc _,_=>rfl
 | .pair a b,x=>by simp[Ty.cells,Ty.size,cells_length a,cells_length b]
 | .unit,_=>rfl
 | .ref _,_=>rfl

theorem ERep.cells {w:World} {O:OO}: ∀(t:Ty) (x:t.El) (f:Nat→Value→Prop) (i:Nat),ERep w O t x f i→
  ∃us,LRep w O (t.cells x) us∧ ∀j u,us[j]? =some u→f (i+j) u
 | .int k,n,f,i,h=>⟨[.int k n],⟨_,[],rfl,rfl,rfl⟩,fun j u hu=>by
   cases j with
   |zero=>simp at hu;subst hu;exact h
   |succ j=>simp at hu⟩
 | .bool,n,f,i,h=>⟨[.bool n],⟨_,[],rfl,rfl,rfl⟩,fun j u hu=>by
   cases j with
   |zero=>simp at hu;subst hu;exact h
   |succ j=>simp at hu⟩
 | .str,n,f,i,h=>⟨[.string n],⟨_,[],rfl,rfl,rfl⟩,fun j u hu=>by
   cases j with
   |zero=>simp at hu;subst hu;exact h
   |succ j=>simp at hu⟩
 | .slc t,xs,f,i,⟨a,c,h1,h2,h3⟩=>⟨[.slice a xs.length c],⟨_,[],rfl,⟨⟨a,c,rfl,h2,h3⟩,fun h=>by cases h⟩,rfl⟩,fun j u hu=>by
   cases j with
   |zero=>simp at hu;subst hu;exact h1
   |succ j=>simp at hu⟩
 | .pair a b,x,f,i,⟨h1,h2⟩=>by
  obtain⟨us,k1,k2⟩:=ERep.cells a x.1 f i h1
  obtain⟨ws,l1,l2⟩:=ERep.cells b x.2 f (i+a.size) h2
  have hl:us.length=a.size:=by rw[k1.length,cells_length]
  refine⟨us++ws,k1.append l1,fun j u hu=> ?_⟩
  rcases Nat.lt_or_ge j us.length with hj|hj
  ·rw[List.getElem?_append_left hj]at hu;exact k2 j u hu
  ·rw[List.getElem?_append_right hj]at hu
   have:=l2 _ u hu
   rw[hl]at this hj
   have e:i+a.size+(j-a.size)=i+j:=by omega
   rw[e]at this;exact this
 | .unit,_,f,i,_=>⟨[],rfl,fun j u hu=>by simp at hu⟩
 | .ref K,n,f,i,⟨v,h1,h2⟩=>⟨[v],⟨_,[],rfl,h1,rfl⟩,fun j u hu=>by
   cases j with
   |zero=>simp at hu;subst hu;exact h2
   |succ j=>simp at hu⟩

theorem LRep.prep {w:World} {O:OO}: ∀ {ds:List D} {us:List Value} {ad:Addr} {i:Nat},LRep w O ds us→(∀j u,us[j]? =some u→Rd w O (ad.add (i+j)) u)→PRep w O ds ad i
 |[],_,_,_,_,_=>trivial
 |d::ds,_,ad,i,⟨u,us,h1,h2,h3⟩,h=>by
  subst h1
  refine⟨⟨u,by simpa using h 0 u rfl,h2⟩,LRep.prep h3 fun j v hv=> ?_⟩
  have:=h (j+1) v (by simpa using hv)
  have e:i+(j+1)=i+1+j:=by omega
  rw[e]at this;exact this
theorem PRep.lrep {w:World} {O:OO}: ∀ {ds:List D} {ad:Addr} {i:Nat},PRep w O ds ad i→ ∃us,LRep w O ds us∧ ∀j u,us[j]? =some u→Rd w O (ad.add (i+j)) u
 |[],_,_,_=>⟨[],rfl,fun j u h=>by simp at h⟩
 |d::ds,ad,i,⟨⟨u,h1,h2⟩,h3⟩=>by
  obtain⟨us,k1,k2⟩:=PRep.lrep h3
  refine⟨u::us,⟨u,us,rfl,h2,k1⟩,fun j v hv=> ?_⟩
  cases j with
  |zero=>simp at hv;subst hv;simpa using h1
  |succ j=>
   have:=k2 j v (by simpa using hv)
   have e:i+1+j=i+(j+1):=by omega
   rw[e]at this;exact this
theorem PRep.drop {w:World} {O:OO} {ds:List D} {ad:Addr} {i:Nat} (h:PRep w O ds ad i) (n:Nat):PRep w O (ds.drop n) (ad.add n) i:=by
 obtain⟨us,k1,k2⟩:=h.lrep
 refine(k1.drop n).prep fun j u hu=> ?_
 rw[List.getElem?_drop]at hu
 have:=k2 _ u hu
 rw[add_add]
 have e:n+(i+j)=i+(n+j):=by omega
 rw[e];exact this

theorem ofCells_spec {w:World} {O:OO}: ∀(t:Ty) (ds r:List D) (x:t.El) (vs:List Value),t.ofCells ds=some (x,r)→LRep w O ds vs→
  ∃us ws,vs=us++ws∧us.length=t.size∧ERep w O t x (lat us) 0∧LRep w O r ws
 | .int k,ds,r,x,vs,h,hl=>by
  cases ds with
  |nil=>simp[Ty.ofCells]at h
  |cons d ds=>
   cases d<;>simp only[Ty.ofCells]at h<;>try (cases h;done)
   rename_i k' n
   cases hk:ikb k k'<;>rw[hk]at h
   ·cases h
   ·simp only[cond_true,Option.some.injEq,Prod.mk.injEq]at h
    obtain⟨rfl,rfl⟩:=h
    obtain⟨u,us,h1,h2,h3⟩:=hl
    have:=ikb_eq hk
    subst this h1 h2
    exact⟨[_],us,rfl,rfl,rfl,h3⟩
 | .bool,ds,r,x,vs,h,hl=>by
  cases ds with
  |nil=>simp[Ty.ofCells]at h
  |cons d ds=>
   cases d<;>simp only[Ty.ofCells]at h<;>try (cases h;done)
   simp only[Option.some.injEq,Prod.mk.injEq]at h
   obtain⟨rfl,rfl⟩:=h
   obtain⟨u,us,h1,h2,h3⟩:=hl
   subst h1 h2
   exact⟨[_],us,rfl,rfl,rfl,h3⟩
 | .str,ds,r,x,vs,h,hl=>by
  cases ds with
  |nil=>simp[Ty.ofCells]at h
  |cons d ds=>
   cases d<;>simp only[Ty.ofCells]at h<;>try (cases h;done)
   simp only[Option.some.injEq,Prod.mk.injEq]at h
   obtain⟨rfl,rfl⟩:=h
   obtain⟨u,us,h1,h2,h3⟩:=hl
   subst h1 h2
   exact⟨[_],us,rfl,rfl,rfl,h3⟩
 | .slc t,ds,r,x,vs,h,hl=>by
  cases ds with
  |nil=>simp[Ty.ofCells]at h
  |cons d ds=>
   cases d with
   |slc f t' xs=>
    simp only[Ty.ofCells]at h
    cases hc:castL t' t xs with
    |none=>rw[hc]at h;cases h
    |some ys=>
     rw[hc]at h
     simp only[Option.some.injEq,Prod.mk.injEq]at h
     obtain⟨rfl,rfl⟩:=h
     obtain⟨e,rfl⟩:=castL_spec hc
     subst e
     obtain⟨u,us,h1,h2,h3⟩:=hl
     subst h1
     obtain⟨⟨a,c,h4,h5,h6⟩,_⟩:=h2
     subst h4
     exact⟨[_],us,rfl,rfl,⟨a,c,rfl,h5,h6⟩,h3⟩
   |val v=>
    cases v with
    |slice a n c=>
     cases a<;>cases n<;>cases c<;>simp[Ty.ofCells]at h
     obtain⟨rfl,rfl⟩:=h
     obtain⟨u,us,h1,h2,h3⟩:=hl
     subst h1 h2
     exact⟨[_],us,rfl,rfl,⟨none,0,rfl,Nat.le_refl _,fun h=>absurd h (by simp)⟩,h3⟩
    |_=>simp[Ty.ofCells]at h
   |_=>simp only[Ty.ofCells]at h;cases h
 | .pair a b,ds,r,x,vs,h,hl=>by
  simp only[Ty.ofCells]at h
  cases ha:a.ofCells ds with
  |none=>simp[ha]at h
  |some p=>
   obtain⟨x1,r1⟩:=p
   rw[ha]at h
   simp only at h
   cases hb:b.ofCells r1 with
   |none=>simp[hb]at h
   |some q=>
    obtain⟨x2,r2⟩:=q
    rw[hb]at h
    simp only[Option.some.injEq,Prod.mk.injEq]at h
    obtain⟨rfl,rfl⟩:=h
    obtain⟨us,ws,e1,e2,e3,e4⟩:=ofCells_spec a ds r1 x1 vs ha hl
    obtain⟨us',ws',f1,f2,f3,f4⟩:=ofCells_spec b r1 r2 x2 ws hb e4
    refine⟨us++us',ws',by rw[e1,f1,List.append_assoc],by simp[e2,f2,Ty.size],⟨?_, ?_⟩,f4⟩
    ·refine ERep.imp (Keeps.refl w O) a x1 _ _ 0 0 (fun j u hj hu=> ?_) e3
     simp only[lat,Nat.zero_add]at hu⊢
     rw[List.getElem?_append_left (by omega)];exact hu
    ·refine ERep.imp (Keeps.refl w O) b x2 _ _ 0 _ (fun j u hj hu=> ?_) f3
     simp only[lat,Nat.zero_add]at hu⊢
     rw[List.getElem?_append_right (by omega),e2]
     have e:a.size+j-a.size=j:=by omega
     rw[e];exact hu
 | .unit,ds,r,x,vs,h,hl=>by
  simp only[Ty.ofCells,Option.some.injEq,Prod.mk.injEq]at h
  obtain⟨_,rfl⟩:=h
  exact⟨[],vs,rfl,rfl,trivial,hl⟩
 | .ref K,ds,r,x,vs,h,hl=>by
  cases ds with
  |nil=>simp[Ty.ofCells]at h
  |cons d ds=>
   cases d with
   |ref K' j=>
    simp only[Ty.ofCells]at h
    cases hb:Nat.beq K K' with
    |false=>rw[hb]at h;cases h
    |true=>
     rw[hb]at h
     simp only[cond_true,Option.some.injEq,Prod.mk.injEq]at h
     obtain⟨rfl,rfl⟩:=h
     have:=Nat.eq_of_beq_eq_true hb
     subst this
     obtain⟨u,us,h1,h2,h3⟩:=hl
     subst h1
     exact⟨[u],us,rfl,rfl,⟨u,h2,rfl⟩,h3⟩
   |val v=>
    cases v with
    |slice a n c=>
     cases a<;>cases n<;>cases c<;>simp[Ty.ofCells]at h
     cases hb:evenB K with
     |false=>rw[hb]at h;cases h
     |true=>
      rw[hb]at h
      simp only[cond_true,Option.some.injEq,Prod.mk.injEq]at h
      obtain⟨rfl,rfl⟩:=h
      obtain⟨u,us,h1,h2,h3⟩:=hl
      have h2':u= .slice none 0 0:=h2
      subst h1 h2'
      exact⟨[_],us,rfl,rfl,⟨_,⟨by simp[OO.nmv,nilK,hb],rfl⟩,rfl⟩,h3⟩
    |pointer a=>
     cases a<;>simp[Ty.ofCells]at h
     cases hb:evenB K with
     |true=>rw[hb]at h;cases h
     |false=>
      rw[hb]at h
      simp only[cond_false,Option.some.injEq,Prod.mk.injEq]at h
      obtain⟨rfl,rfl⟩:=h
      obtain⟨u,us,h1,h2,h3⟩:=hl
      have h2':u= .pointer none:=h2
      subst h1 h2'
      exact⟨[_],us,rfl,rfl,⟨_,⟨by simp[OO.nmv,nilK,hb],rfl⟩,rfl⟩,h3⟩
    |_=>simp[Ty.ofCells]at h
   |_=>simp only[Ty.ofCells]at h;cases h

end Fw
end
section
set_option linter.unusedVariables false
set_option linter.unusedSimpArgs false
namespace Fw
open Go Go.RowKit

def hblk:Value→Option Nat
 | .slice (some a) _ _=>some a.block
 | .pointer (some a)=>some a.block
 |_=>none
def phi (K j:Nat):Nat:=10000000000+(2*j+1)*2^K
theorem phi_ge (K j:Nat):10000000000<phi K j:=by
 have h1:0<2^K:=Nat.two_pow_pos K
 have h2:0<(2*j+1)*2^K:=Nat.mul_pos (by omega) h1
 unfold phi
 omega
theorem phi_inj0: ∀(K K' a b:Nat),(2*a+1)*2^K=(2*b+1)*2^K'→K=K'∧a=b
 |0,0,a,b,h=>by simp at h;exact⟨rfl,by omega⟩
 |0,K'+1,a,b,h=>by
  exfalso
  rw[Nat.pow_succ, ←Nat.mul_assoc]at h
  simp only[Nat.pow_zero,Nat.mul_one]at h
  generalize (2*b+1)*2^K'=m at h
  omega
 |K+1,0,a,b,h=>by
  exfalso
  rw[Nat.pow_succ, ←Nat.mul_assoc]at h
  simp only[Nat.pow_zero,Nat.mul_one]at h
  generalize (2*a+1)*2^K=m at h
  omega
 |K+1,K'+1,a,b,h=>by
  rw[Nat.pow_succ,Nat.pow_succ, ←Nat.mul_assoc, ←Nat.mul_assoc]at h
  have:=phi_inj0 K K' a b (by omega)
  exact⟨by omega,this.2⟩
theorem phi_inj {K K' a b:Nat} (h:phi K a=phi K' b):K=K'∧a=b:=phi_inj0 K K' a b (by unfold phi at h;omega)
def member (h:Hp) (K j:Nat):Option Obj:=match h K,j with
 |some (.aren e t ms),j+1=>(match ms[j]? with
  |some (some xs)=>some (.row e t xs)
  |_=>none)
 |some (.abox _ ms),j+1=>(match ms[j]? with
  |some (some cs)=>some (.box cs)
  |_=>none)
 |_,_=>none
open Classical in
noncomputable def memAt (h:Hp) (id:Nat):Option Obj:=if hx: ∃p:Nat×Nat,id=phi p.1 p.2 then member h hx.choose.1 hx.choose.2 else none
theorem memAt_phi (h:Hp) (K j:Nat):memAt h (phi K j)=member h K j:=by
 unfold memAt
 have hx: ∃p:Nat×Nat,phi K j=phi p.1 p.2:=⟨(K,j),rfl⟩
 rw[dif_pos hx]
 obtain⟨h1,h2⟩:=phi_inj hx.choose_spec
 rw[←h1, ←h2]
theorem memAt_not {h:Hp} {id:Nat} (hn: ∀K j,id≠phi K j):memAt h id=none:=by
 unfold memAt
 rw[dif_neg (fun⟨p,e⟩=>hn _ _ e)]
noncomputable def ex (h:Hp) (id:Nat):Option Obj:=match h id with
 |some o=>bif o.isA then none else some o
 |none=>memAt h id
theorem ex_some {h:Hp} {id:Nat} {o:Obj} (ho:h id=some o) (ha:o.isA=false):ex h id=some o:=by
 unfold ex;rw[ho];simp[ha]
theorem ex_mem {h:Hp} {K j:Nat} (ho:h (phi K j)=none):ex h (phi K j)=member h K j:=by
 unfold ex;rw[ho];exact memAt_phi h K j
theorem ex_cases {h:Hp} {id:Nat} {o:Obj} (he:ex h id=some o):(h id=some o∧o.isA=false)∨(h id=none∧ ∃K j,id=phi K j∧member h K j=some o):=by
 unfold ex at he
 cases hid:h id with
 |some o'=>
  rw[hid]at he
  simp only at he
  cases ha:o'.isA with
  |true=>rw[ha]at he;cases he
  |false=>rw[ha]at he;injection he with he;subst he;exact .inl ⟨rfl,ha⟩
 |none=>
  rw[hid]at he
  simp only at he
  refine .inr ⟨rfl, ?_⟩
  by_cases hx: ∃p:Nat×Nat,id=phi p.1 p.2
  ·obtain⟨⟨K,j⟩,rfl⟩:=hx
   rw[memAt_phi]at he
   exact⟨K,j,rfl,he⟩
  ·rw[memAt_not (fun K j e=>hx ⟨(K,j),e⟩)]at he;cases he
def arLen (h:Hp) (K:Nat):Nat:=match h K with
 |some (.aren _ _ ms)=>ms.length
 |some (.abox _ ms)=>ms.length
 |_=>0
def nmOf (h:Hp) (ι:Nat→Value) (K j:Nat):Option Value:=if j<arLen h K then some (ι (phi K (j+1)))else none

def OwnB (h:Hp) (ι:Nat→Value) (b:Nat):Prop:= ∃id,ex h id≠none∧hblk (ι id)=some b
def Own (O0:Nat→Prop) (h:Hp) (ι:Nat→Value):OO:=⟨fun b=>O0 b∨OwnB h ι b,nmOf h ι⟩

def ObjRep (w:World) (O:OO) (base:Nat):Obj→Value→Prop
 | .row e t xs,v=> ∃vs,w.ownsRow base e t.size v xs.length vs∧ ∀j (hj:j<xs.length),ERep w O t xs[j] (lat vs) (j*t.size)
 | .box cs,v=> ∃b vs e,v= .pointer (some ⟨b,0,none⟩)∧base≤b∧w.heap[b]? =some (.cells vs e (0,0))∧LRep w O cs vs.toList
 | .iter s pos,v=> ∃b,v= .pointer (some ⟨b,0,none⟩)∧base≤b∧w.heap[b]? =some (.stringIter s pos)
 | .aren ..,_=>True
 | .abox ..,_=>True
structure MR (w : World) (O : OO) (h : Hp) (ι : Nat → Value) (base : Nat) : Prop where
 ho: ∀id o,h id=some o→ObjRep w O base o (ι id)
 mem: ∀K j o,member h K j=some o→ObjRep w O base o (ι (phi K j))
 nm:O.nm=nmOf h ι
 free: ∀K j,h (phi K j)=none

def capRep (w:World) (O:OO) (ι:Nat→Value):(D ⊕ (Nat×Nat))→Value→Prop
 | .inl d,v=>VRep w O d v
 | .inr (id,off),v=> ∃b,ι id= .pointer (some ⟨b,0,none⟩)∧v= .pointer (some ⟨b,off,none⟩)
def capsRep (w:World) (O:OO) (ι:Nat→Value):List (D ⊕ (Nat×Nat))→List Value→Prop
 |[],vs=>vs=[]
 |c::cs,vs=> ∃u us,vs=u::us∧capRep w O ι c u∧capsRep w O ι cs us

def ARep (w:World) (O:OO) (ι:Nat→Value):AV→Value→Prop
 | .d x,v=>VRep w O x v
 | .own id,v=>v=ι id
 | .ptr id off,v=> ∃b,ι id= .pointer (some ⟨b,0,none⟩)∧v= .pointer (some ⟨b,off,none⟩)
 | .eptr id sz i off,v=> ∃b n c,ι id= .slice (some ⟨b,0,none⟩) n c∧v= .pointer (some ⟨b,i.toNat*sz+off,none⟩)
 | .win id sz lo n,v=> ∃b m c c',ι id= .slice (some ⟨b,0,none⟩) m c∧v= .slice (some ⟨b,lo.toNat*sz,none⟩) n.toNat c'∧n.toNat≤c'∧0≤lo∧0<n∧lo.toNat+n.toNat≤m
 | .bnd f l,v=> ∃vs:Array Value,v= .func (.func f) vs #[]∧LRep w O l vs.toList
 | .mptr K j sz i off,v=> ∃b n c,ι (phi K j)= .slice (some ⟨b,0,none⟩) n c∧v= .pointer (some ⟨b,i.toNat*sz+off,none⟩)
 | .bptr K j off,v=> ∃b,ι (phi K j)= .pointer (some ⟨b,0,none⟩)∧v= .pointer (some ⟨b,off,none⟩)
 | .clo f caps,v=> ∃vs:Array Value,v= .func (.func f) #[] vs∧capsRep w O ι caps vs.toList
 | .tup l,v=> ∃vs:Array Value,v= .tuple vs∧LRep w O l vs.toList
def ALRep (w:World) (O:OO) (ι:Nat→Value):List AV→List Value→Prop
 |[],vs=>vs=[]
 |c::cs,vs=> ∃u us,vs=u::us∧ARep w O ι c u∧ALRep w O ι cs us

def capIds:List (D ⊕ (Nat×Nat))→List Nat
 |[]=>[]
 | .inl _::l=>capIds l
 | .inr (id,_)::l=>id::capIds l
def AV.ids:AV→List Nat
 | .own id=>[id]
 | .ptr id _=>[id]
 | .eptr id _ _ _=>[id]
 | .win id _ _ _=>[id]
 | .clo _ caps=>capIds caps
 |_=>[]

def AV.mids:AV→List (Nat×Nat)
 | .mptr K j _ _ _=>[(K,j)]
 | .bptr K j _=>[(K,j)]
 |_=>[]
def AV.live (h:Hp) (x:AV):Prop:=(∀id∈x.ids,h id≠none)∧ ∀p∈x.mids,member h p.1 p.2≠none

def Names (h:Hp) (ι:Nat→Value) (h':Hp) (ι':Nat→Value):Prop:=
 ∀K,arLen h K≤arLen h' K∧ ∀j,j<arLen h K→ι' (phi K (j+1))=ι (phi K (j+1))
theorem Names.refl (h:Hp) (ι:Nat→Value):Names h ι h ι:=fun _=>⟨Nat.le_refl _,fun _ _=>rfl⟩
theorem Names.trans {h1 h2 h3:Hp} {ι1 ι2 ι3:Nat→Value} (a:Names h1 ι1 h2 ι2) (b:Names h2 ι2 h3 ι3):Names h1 ι1 h3 ι3:=
 fun K=>⟨Nat.le_trans (a K).1 (b K).1,fun j hj=>((b K).2 j (Nat.lt_of_lt_of_le hj (a K).1)).trans ((a K).2 j hj)⟩
theorem Names.nm {h h':Hp} {ι ι':Nat→Value} (a:Names h ι h' ι'): ∀K j v,nmOf h ι K j=some v→nmOf h' ι' K j=some v:=by
 intro K j v hv
 unfold nmOf at hv⊢
 split at hv
 ·rename_i hlt
  rw[if_pos (Nat.lt_of_lt_of_le hlt (a K).1),(a K).2 j hlt]
  exact hv
 ·cases hv
structure Fr where
 h0:Hp
 ι0:Nat→Value

structure Rel (T : Ctx) (F : Fr) (w0 : World) (O0 : Nat → Prop) (N : Nat) (A : AState) (ι : Nat → Value) (a : Act) (w : World) : Prop where
 below:Below w0.heap.size w0 w
 o0:OKO O0 w0
 env: ∀t,ARep w (Own O0 A.heap ι) ι (A.env t) (a.tmps.getD t undef)
 obj: ∀id o,ex A.heap id=some o→ObjRep w (Own O0 A.heap ι) w0.heap.size o (ι id)
 dist: ∀id id',ex A.heap id≠none→ex A.heap id'≠none→id≠id'→hblk (ι id)=none∨hblk (ι id)≠hblk (ι id')
 wf: ∀t,(A.env t).live A.heap
 size:a.tmps.size=N
 defers:a.defers=[]
 lim: ∀id,A.heap id≠none→id<T.base+2000000
 fr: ∀id,id<T.base→id∉T.mods→A.heap id=F.h0 id
 st: ∀id,id<T.base→F.h0 id≠none→A.heap id≠none∧ι id=F.ι0 id
 nw: ∀id,id<T.base→id∈T.mods→F.h0 id≠none
 ln:Names F.h0 F.ι0 A.heap ι
 bs:T.base≤1000000000
 bh: ∀id,F.h0 id≠none→id<T.base
 ab: ∀K,isArH A.heap K→K<T.base

theorem Keeps.of_below {w w':World} {O:OO} (h:Below w.heap.size w w'):Keeps w O w' O:=
 ⟨fun b hb _=>h.block b hb,fun _ _ h=>h,fun _ _ _ h=>h⟩
theorem Keeps.weaken {w:World} {O O':OO} (h: ∀b,O' b→O b) (hn: ∀K j v,O.nm K j=some v→O'.nm K j=some v):Keeps w O w O':=⟨fun _ _ _=>rfl,fun b _ hn ho=>hn (h b ho),hn⟩
theorem Keeps.bare (w:World) (O:OO):Keeps w O w O.bare:=Keeps.weaken (fun _ h=>h.elim) fun _ _ _ h=>h
theorem Keeps.trans {w1 w2 w3:World} {O1 O2 O3:OO} (h:Keeps w1 O1 w2 O2) (k:Keeps w2 O2 w3 O3) (hs:w1.heap.size≤w2.heap.size):Keeps w1 O1 w3 O3:=
 ⟨fun b hb hn=>(k.same b (Nat.lt_of_lt_of_le hb hs) (h.out b hb hn)).trans (h.same b hb hn),fun b hb hn=>k.out b (Nat.lt_of_lt_of_le hb hs) (h.out b hb hn),fun K j v hv=>k.nm K j v (h.nm K j v hv)⟩

theorem capRep.keeps {w w':World} {O O':OO} {ι:Nat→Value} (k:Keeps w O w' O'): ∀(c:D ⊕ (Nat×Nat)) (v:Value),capRep w O ι c v→capRep w' O' ι c v
 | .inl d,_,h=>VRep.keeps k d _ h
 | .inr _,_,h=>h
theorem capsRep.keeps {w w':World} {O O':OO} {ι:Nat→Value} (k:Keeps w O w' O'): ∀(c:List (D ⊕ (Nat×Nat))) (vs:List Value),capsRep w O ι c vs→capsRep w' O' ι c vs
 |[],_,h=>h
 |c::cs,_,⟨u,us,h1,h2,h3⟩=>⟨u,us,h1,capRep.keeps k c _ h2,capsRep.keeps k cs _ h3⟩
theorem ARep.keeps {w w':World} {O O':OO} {ι:Nat→Value} (k:Keeps w O w' O'): ∀(x:AV) (v:Value),ARep w O ι x v→ARep w' O' ι x v
 | .d x,_,h=>VRep.keeps k x _ h
 | .own _,_,h=>h
 | .ptr _ _,_,h=>h
 | .eptr ..,_,h=>h
 | .win ..,_,h=>h
 | .mptr ..,_,h=>h
 | .bptr ..,_,h=>h
 | .clo f caps,_,⟨vs,h1,h2⟩=>⟨vs,h1,capsRep.keeps k caps _ h2⟩
 | .bnd f l,_,⟨vs,h1,h2⟩=>⟨vs,h1,LRep.keeps k l _ h2⟩
 | .tup l,_,⟨vs,h1,h2⟩=>⟨vs,h1,LRep.keeps k l _ h2⟩

theorem capRep.iota {w:World} {O:OO} {ι ι':Nat→Value}: ∀(c:List (D ⊕ (Nat×Nat))) (vs:List Value),(∀id∈capIds c,ι' id=ι id)→capsRep w O ι c vs→capsRep w O ι' c vs
 |[],_,_,h=>h
 | .inl d::cs,_,hi,⟨u,us,h1,h2,h3⟩=>⟨u,us,h1,h2,capRep.iota cs _ hi h3⟩
 | .inr (id,off)::cs,_,hi,⟨u,us,h1,⟨b,h4,h5⟩,h3⟩=>
  ⟨u,us,h1,⟨b,by rw[hi id (by simp[capIds])];exact h4,h5⟩,capRep.iota cs _ (fun i hi'=>hi i (by simp[capIds,hi'])) h3⟩
theorem ARep.iota {w:World} {O:OO} {ι ι':Nat→Value} (x:AV) (v:Value) (hi: ∀id∈x.ids,ι' id=ι id) (hm: ∀p∈x.mids,ι' (phi p.1 p.2)=ι (phi p.1 p.2)) (hr:ARep w O ι x v):ARep w O ι' x v:=match x,v,hi,hr with
 | .d x,_,_,h=>h
 | .own id,_,hi,h=>by rw[show ARep w O ι' (.own id) _↔_=ι' id from Iff.rfl,hi id (by simp[AV.ids])];exact h
 | .ptr id _,_,hi,⟨b,h1,h2⟩=>⟨b,by rw[hi id (by simp[AV.ids])];exact h1,h2⟩
 | .eptr id ..,_,hi,⟨b,n,c,h1,h2⟩=>⟨b,n,c,by rw[hi id (by simp[AV.ids])];exact h1,h2⟩
 | .win id ..,_,hi,⟨b,n,c,c',h1,h2⟩=>⟨b,n,c,c',by rw[hi id (by simp[AV.ids])];exact h1,h2⟩
 | .mptr K j ..,_,hi,⟨b,n,c,h1,h2⟩=>⟨b,n,c,by rw[hm (K,j) (by simp[AV.mids])];exact h1,h2⟩
 | .bptr K j ..,_,hi,⟨b,h1,h2⟩=>⟨b,by rw[hm (K,j) (by simp[AV.mids])];exact h1,h2⟩
 | .clo f caps,_,hi,⟨vs,h1,h2⟩=>⟨vs,h1,capRep.iota caps _ hi h2⟩
 | .tup l,_,_,h=>h
 | .bnd f l,_,_,h=>h

def FreshR (C:Con) (x:Ars C.args) (w w':World) (O:OO) (v:Value):Prop:=
 ∀e,C.fresh=some e→ ∀t xs,encs C.res (C.post x)=[.slc false t xs]→
  ∃vs,w'.ownsRow w.heap.size e t.size v xs.length vs∧ ∀j (hj:j<xs.length),ERep w' O t xs[j] (lat vs) (j*t.size)
def CPost (C:Con) (x:Ars C.args) (w:World) (O:OO) (e:Ending) (w':World):Prop:=
 ∃v,e= .returned v∧Below w.heap.size w w'∧(∀ι,ARep w' O ι (resAV (encs C.res (C.post x))) v)∧FreshR C x w w' O v

structure NRC (C : Con) : Prop where
 a: ∀x,C.pre x→D.nrs (encs C.args x)
 r: ∀x,C.pre x→D.nrs (encs C.res (C.post x))
def Ar.nr:Ar→Bool
 | .ty t=>t.nr
 | .raw=>false
theorem encs_nr: ∀ {l:List Ar} (x:Ars l),l.all Ar.nr=true→D.nrs (encs l x)
 |[],_,_=>by simp[encs,D.nrs]
 | .ty t::l,x,h=>by
  simp only[List.all_cons,Bool.and_eq_true]at h
  simp only[encs,D.nrs]
  exact⟨Ty.toD_nr t x.1 h.1,encs_nr x.2 h.2⟩
 | .raw::l,x,h=>by simp[Ar.nr]at h
theorem nrc_ty {C:Con} (h:(C.args.all Ar.nr&&C.res.all Ar.nr)=true):NRC C:=by
 simp only[Bool.and_eq_true]at h
 exact⟨fun x _=>encs_nr x h.1,fun x _=>encs_nr (C.post x) h.2⟩
def Sound (P:Program) (f:FuncId) (C:Con):Prop:=NRC C∧
 ∀x,C.pre x→ ∀(w:World) (O:Nat→Prop) (vs:Array Value),OKO O w→LRep w ⟨O,nn⟩ (encs C.args x) vs.toList→
  ((callFunc f vs).run P w= .ok (.enter f vs) w∧Calls P f vs w (CPost C x w ⟨O,nn⟩))∨(∃v w',(callFunc f vs).run P w= .ok (.value v) w'∧CPost C x w ⟨O,nn⟩ (.returned v) w')
def panChain (t:Nat):List PanicEntry:=[{ v:= .iface t (.agg #[]),recovered:=false }]
def XPost (pt:Nat) (C:ConP) (x:Ars C.con.args) (w:World) (O:OO) (e:Ending) (w':World):Prop:=
 (C.pan x=true∧e= .panicked (panChain pt)∧Below w.heap.size w w')∨(C.pan x=false∧CPost C.con x w O e w')
def SoundX (P:Program) (pt:Nat) (f:FuncId) (C:ConP):Prop:=NRC C.con∧
 ∀x,C.con.pre x→ ∀(w:World) (O:Nat→Prop) (vs:Array Value),OKO O w→LRep w ⟨O,nn⟩ (encs C.con.args x) vs.toList→
  (callFunc f vs).run P w= .ok (.enter f vs) w∧Calls P f vs w (XPost pt C x w ⟨O,nn⟩)
def SoundInv (P:Program) (name:String) (C:Con):Prop:=NRC C∧
 ∀x,C.pre x→ ∀(w:World) (O:Nat→Prop) (r:Value) (vs:List Value),OKO O w→LRep w ⟨O,nn⟩ (encs C.args x) (r::vs)→
  (∃f args',(callMethod r name vs.toArray).run P w= .ok (.enter f args') w∧Calls P f args' w (CPost C x w ⟨O,nn⟩))∨(∃v w',(callMethod r name vs.toArray).run P w= .ok (.value v) w'∧CPost C x w ⟨O,nn⟩ (.returned v) w')
def SoundCv (P:Program) (C:Con):Prop:=NRC C∧
 ∀x,C.pre x→ ∀(w:World) (O:Nat→Prop) (r:Value) (vs:List Value),OKO O w→LRep w ⟨O,nn⟩ (encs C.args x) (r::vs)→
  (∃f args',(do let d←Deferred.ofValue r vs.toArray;invoke d.target d.args:Sem Next).run P w= .ok (.enter f args') w∧Calls P f args' w (CPost C x w ⟨O,nn⟩))∨(∃v w',(do let d←Deferred.ofValue r vs.toArray;invoke d.target d.args:Sem Next).run P w= .ok (.value v) w'∧CPost C x w ⟨O,nn⟩ (.returned v) w')

structure HR (w0 : World) (O0 : Nat → Prop) (h : Hp) (ι : Nat → Value) (w : World) : Prop where
 below:Below w0.heap.size w0 w
 o0:OKO O0 w0
 obj: ∀id o,ex h id=some o→ObjRep w (Own O0 h ι) w0.heap.size o (ι id)
 dist: ∀id id',ex h id≠none→ex h id'≠none→id≠id'→hblk (ι id)=none∨hblk (ι id)≠hblk (ι id')
def SoundPT (P:Program) (f:FuncId) (pt:PT):Prop:=
 (∃ fn, P.funcs[f]? = some fn ∧ fn.body.isNone = false ∧ (fn.name == "runtime.NumGoroutine") = false) ∧
 ∀(w0:World) (O0:Nat→Prop) (h:Hp) (ι:Nat→Value) (w:World),HR w0 O0 h ι w→(∀id,h id≠none→id<pt.base)→pt.base≤1000000000→
  ∀(avs:List AV) (vs:Array Value),ALRep w (Own O0 h ι) ι avs vs.toList→(∀av∈avs,av.live h)→
  ∀p v h',pt.fn avs h=some (p,v,h')→p→
   Calls P f vs w fun e w'=> ∃u ι',e= .returned u∧HR w0 O0 h' ι' w'∧ARep w' (Own O0 h' ι') ι' v u∧Keeps w (Own O0 h ι) w' (Own O0 h' ι')∧w.heap.size≤w'.heap.size∧
    (∀id,h id≠none→ι' id=ι id)∧Names h ι h' ι'

structure Tok (P : Program) (T : Ctx) : Prop where
 mixed:P.follows .mixedOrders=true
 tt: ∀t i,look T.tt t=some i→mkTI P t=some i
 fs: ∀f C,look T.fs f=some C→Sound P f C
 invs: ∀n C,looks T.invs n=some C→SoundInv P n C
 cv: ∀C,T.cv=some C→SoundCv P C
 pts: ∀f pt,look T.pts f=some pt→SoundPT P f pt
 pan: ∀f C,look T.pan f=some C→SoundX P T.pt f C
 alts: ∀f C,look T.alts f=some C→Sound P f C

theorem weakO {w:World} {O:OO} {d:D} {v:Value} (h:VRep w O d v):VRep w O.bare d v:=VRep.keeps (Keeps.bare w O) d v h

theorem row_srep {w:World} {O:OO} {base e:Nat} {t:Ty} {xs:List t.El} {v:Value} {vs:List Value}
  (h:w.ownsRow base e t.size v xs.length vs) (he: ∀j (hj:j<xs.length),ERep w O t xs[j] (lat vs) (j*t.size)):SRep w O.bare t xs v:=by
 rcases h.2 with⟨rfl,h0⟩|⟨g,cap,cur,rfl,hg,hh,hnc,hcm,hcs,ht⟩
 ·exact⟨none,0,by rw[h0],by omega,fun hp=>by omega⟩
 ·refine⟨_,cap,rfl,hnc,fun hp=>⟨_,rfl,fun j hj=> ?_⟩⟩
  refine ERep.imp (w:=w) (O:=O) (Keeps.bare w O) t _ _ _ _ _ (fun i u hi hu=> ?_) (he j hj)
  exact⟨fun h=>h,h.cells (g:=g) rfl _ _ hu⟩

theorem sub_length {α:Type} {xs:List α} {lo n:Int} (h0:0≤lo) (hn:0<n) (hm:lo.toNat+n.toNat≤xs.length):(sub xs lo (lo+n)).length=n.toNat:=by
 unfold sub
 rw[List.length_drop,List.length_take]
 omega
theorem sub_get {α:Type} {xs:List α} {lo n:Int} (h0:0≤lo) (hn:0<n) (hm:lo.toNat+n.toNat≤xs.length) {j:Nat} (hj:j<(sub xs lo (lo+n)).length):
  (sub xs lo (lo+n))[j]=xs[lo.toNat+j]'(by rw[sub_length h0 hn hm]at hj;omega):=by
 have hj':j<((xs.take (lo+n).toNat).drop lo.toNat).length:=hj
 have h:((xs.take (lo+n).toNat).drop lo.toNat)[j]=xs[lo.toNat+j]'(by rw[sub_length h0 hn hm]at hj;omega):=by
  rw[List.getElem_drop,List.getElem_take]
 exact h
theorem win_srep {w:World} {O:OO} {base e sz:Nat} {t:Ty} {xs:List t.El} {iv v:Value} {vs:List Value} {lo n:Int} (hsz:sz=t.size)
  (h:w.ownsRow base e t.size iv xs.length vs) (he: ∀j (hj:j<xs.length),ERep w O t xs[j] (lat vs) (j*t.size))
  (hr: ∃b m c c',iv= .slice (some ⟨b,0,none⟩) m c∧v= .slice (some ⟨b,lo.toNat*sz,none⟩) n.toNat c'∧n.toNat≤c'∧0≤lo∧0<n∧lo.toNat+n.toNat≤m):
  (∃b,hblk iv=some b∧ ∃m c,v= .slice (some ⟨b,m,none⟩) n.toNat c)∧lo.toNat+n.toNat≤xs.length∧
  ∀O':OO,(∀b,hblk iv=some b→ ¬O' b)→Keeps w O w O'→SRep w O' t (sub xs lo (lo+n)) v:=by
 obtain⟨b,m,c,c',h1,h2,h3,h4,h5,h6⟩:=hr
 subst h1 h2 hsz
 rcases h.2 with⟨h7,_⟩|⟨g,cap,cur,h7,hg,hh,hnc,hcm,hcs,ht⟩
 ·cases h7
 ·injection h7 with h7 h8 h9
  injection h7 with h7
  injection h7 with h7
  subst h7 h8 h9
  refine⟨⟨b,rfl,_,_,rfl⟩,h6,fun O' hO' hk=> ?_⟩
  have hl:=sub_length (xs:=xs) h4 h5 h6
  refine⟨_,c',by rw[hl],by rw[hl];exact h3,fun _=>⟨_,rfl,fun j hj=> ?_⟩⟩
  rw[sub_get h4 h5 h6 hj]
  have hj':j<n.toNat:=by rw[hl]at hj;exact hj
  refine ERep.imp (w:=w) (O:=O) hk t _ _ _ _ _ (fun i u hi hu=>⟨?_, ?_⟩) (he (lo.toNat+j) (by omega))
  ·rw[add_block];exact hO' _ rfl
  ·have:=h.cells (g:=b) rfl _ _ hu
   rw[add_plain]at this⊢
   rw[show lo.toNat*t.size+(j*t.size+i)=0+((lo.toNat+j)*t.size+i)by rw[Nat.add_mul];omega]
   exact this

theorem box_prep {w:World} {O:OO} {b:Nat} {vs:Array Value} {e:TypeId} {fr:Nat×Nat} {cs:List D} (h:w.heap[b]? =some (.cells vs e fr)) (hl:LRep w O cs vs.toList) (off:Nat):
  PRep w O.bare (cs.drop off) ⟨b,off,none⟩ 0:=by
 have hl':=LRep.keeps (Keeps.bare w O) cs _ hl
 refine(hl'.drop off).prep fun j u hu=>⟨fun h=>h, ?_⟩
 rw[List.getElem?_drop]at hu
 rw[add_plain]
 simp only[World.cell?,h,Nat.zero_add]
 simpa using hu

theorem optAll_cons {α:Type} {o:Option α} {l:List (Option α)} {xs:List α} (h:optAll (o::l)=some xs): ∃x ys,o=some x∧optAll l=some ys∧xs=x::ys:=by
 cases o with
 |none=>cases h
 |some x=>
  simp only[optAll]at h
  cases hl:optAll l with
  |none=>rw[hl]at h;cases h
  |some ys=>rw[hl]at h;simp at h;exact⟨x,ys,rfl,rfl,h.symm⟩

theorem cap_view {w:World} {O:OO} {h:Hp} {ι:Nat→Value} {base:Nat} (ho:MR w O h ι base):
  ∀(caps:List (D ⊕ (Nat×Nat))) (cs:List D) (vs:List Value),optAll (caps.map (capD h))=some cs→capsRep w O ι caps vs→LRep w O.bare cs vs
 |[],cs,vs,hc,hr=>by simp[optAll]at hc;subst hc;exact hr
 |c::caps,cs,_,hc,⟨u,us,h1,h2,h3⟩=>by
  rw[List.map_cons]at hc
  obtain⟨x,ys,e1,e2,e3⟩:=optAll_cons hc
  subst h1 e3
  refine⟨u,us,rfl, ?_,cap_view ho caps ys us e2 h3⟩
  cases c with
  |inl d=>simp[capD]at e1;subst e1;exact weakO h2
  |inr p=>
   obtain⟨id,off⟩:=p
   obtain⟨b,hb,rfl⟩:=h2
   simp only[capD]at e1
   cases hid:h id with
   |none=>simp[hid]at e1
   |some o=>
    cases o with
    |box cs=>
     simp[hid]at e1
     subst e1
     obtain⟨b',vs',e,h4,_,h5,h6⟩:=ho.ho id _ hid
     rw[hb]at h4
     injection h4 with h4
     injection h4 with h4
     injection h4 with h4
     subst h4
     exact⟨_,rfl,box_prep h5 h6 off⟩
    |_=>simp[hid]at e1

theorem view_rep {w:World} {O:OO} {h:Hp} {ι:Nat→Value} {base:Nat} (ho:MR w O h ι base):
  ∀ {x:AV} {d:D} {v:Value},viewD h x=some d→ARep w O ι x v→VRep w O.bare d v
 | .d x,d,v,hv,hr=>by simp[viewD]at hv;subst hv;exact weakO hr
 | .own id,d,v,hv,hr=>by
  simp only[viewD]at hv
  cases hid:h id with
  |none=>simp[hid]at hv
  |some o=>
   cases o with
   |row e t xs=>
    simp[hid]at hv
    subst hv
    obtain⟨vs,h1,h2⟩:=ho.ho id _ hid
    have hr':v=ι id:=hr
    subst hr'
    exact⟨row_srep h1 h2,fun h=>by cases h⟩
   |_=>simp[hid]at hv
 | .ptr id off,d,v,hv,hr=>by
  simp only[viewD]at hv
  cases hid:h id with
  |none=>simp[hid]at hv
  |some o=>
   cases o with
   |box cs=>
    simp[hid]at hv
    subst hv
    obtain⟨b,hb,rfl⟩:=hr
    obtain⟨b',vs',e,h4,_,h5,h6⟩:=ho.ho id _ hid
    rw[hb]at h4
    injection h4 with h4
    injection h4 with h4
    injection h4 with h4
    subst h4
    exact⟨_,rfl,box_prep h5 h6 off⟩
   |_=>simp[hid]at hv
 | .eptr ..,d,v,hv,hr=>by simp[viewD]at hv
 | .win id sz lo n,d,v,hv,hr=>by
  simp only[viewD]at hv
  cases hid:h id with
  |none=>simp[hid]at hv
  |some o=>
   cases o with
   |row e t xs=>
    simp only[hid]at hv
    cases hb:Nat.beq sz t.size with
    |false=>rw[hb]at hv;cases hv
    |true=>
     rw[hb]at hv
     simp only[cond_true,Option.some.injEq]at hv
     subst hv
     obtain⟨vs,h1,h2⟩:=ho.ho id _ hid
     exact⟨(win_srep (Nat.eq_of_beq_eq_true hb) h1 h2 hr).2.2 _ (fun _ _ h=>h) (Keeps.bare w O),fun h=>by cases h⟩
   |_=>simp[hid]at hv
 | .clo f caps,d,v,hv,hr=>by
  simp only[viewD]at hv
  cases hc:optAll (caps.map (capD h))with
  |none=>rw[hc]at hv;cases hv
  |some cs=>
   rw[hc]at hv
   injection hv with hv
   subst hv
   obtain⟨vs,rfl,h2⟩:=hr
   exact⟨vs,rfl,cap_view ho caps cs _ hc h2⟩
 | .tup l,d,v,hv,hr=>by simp[viewD]at hv
 | .bnd f l,d,v,hv,hr=>by simp[viewD]at hv
 | .mptr ..,d,v,hv,hr=>by simp[viewD]at hv
 | .bptr ..,d,v,hv,hr=>by simp[viewD]at hv

theorem mal_row {h:Hp} {K e j:Nat} {t:Ty} {ms:List (Option (List t.El))} (hK:h K=some (.aren e t ms)) (hm:mal ms j) (h0:0<j):
  member h K j=some (.row e t (mrow ms j))∧j-1<arLen h K:=by
 cases j with
 |zero=>omega
 |succ j=>
  obtain⟨xs,hx⟩:=hm
  have hlt:j<ms.length:=(List.getElem?_eq_some_iff.1 hx).1
  refine⟨by simp[member,hK,hx,mrow,List.getD_eq_getElem?_getD],by simp[arLen,hK,hlt]⟩
theorem mbox_spec {ms:List (Option (List D))} {j:Nat} {cs:List D} (hm:mbox ms j=some cs): ∃i,j=i+1∧ms[i]? =some (some cs):=by
 cases j with
 |zero=>cases hm
 |succ j=>
  unfold mbox at hm
  split at hm
  ·cases hm
  ·rename_i i h0
   injection h0 with h0
   subst h0
   split at hm
   ·rename_i cs' h1
    injection hm with hm
    subst hm
    exact⟨_,rfl,h1⟩
   ·cases hm
theorem bal_box {h:Hp} {K s j:Nat} {ms:List (Option (List D))} {cs:List D} (hK:h K=some (.abox s ms)) (hm:mbox ms j=some cs):
  member h K j=some (.box cs)∧0<j∧j-1<arLen h K:=by
 obtain⟨i,rfl,hi⟩:=mbox_spec hm
 have hlt:i<ms.length:=(List.getElem?_eq_some_iff.1 hi).1
 exact⟨by simp[member,hK,hi],by omega,by simp[arLen,hK,hlt]⟩
theorem MR.is {w:World} {O:OO} {h:Hp} {ι:Nat→Value} {base:Nat} (ho:MR w O h ι base) {K j:Nat} {v:Value} (hv:O.is K j v) (h0:0<j) (hj:j-1<arLen h K):v=ι (phi K j):=by
 cases j with
 |zero=>omega
 |succ j=>
  have h1:=hv.1
  simp only[OO.nmv,ho.nm,nmOf]at h1
  rw[if_pos (by omega)]at h1
  injection h1 with h1
  exact h1.symm
theorem ref_row {w:World} {O:OO} {h:Hp} {ι:Nat→Value} {base:Nat} (ho:MR w O h ι base) {K e j:Nat} {t:Ty} {ms:List (Option (List t.El))} (hev:evenB K=true)
  (hK:h K=some (.aren e t ms)) (hm:mal ms j) {v:Value} (hv:O.is K j v):ObjRep w O base (.row e t (mrow ms j)) v∧(0<j→v=ι (phi K j)):=by
 by_cases h0:0<j
 ·obtain⟨h1,h2⟩:=mal_row hK hm h0
  have:=ho.is hv h0 h2
  subst this
  exact⟨ho.mem K j _ h1,fun _=>rfl⟩
 ·have:j=0:=by omega
  subst this
  have h1:=hv.1
  simp only[OO.nmv,nilK,hev,Option.some.injEq]at h1
  subst h1
  exact⟨⟨[],⟨by simp[mrow], .inl ⟨rfl,rfl⟩⟩,fun j hj=>by simp[mrow]at hj⟩,fun h=>absurd h (by omega)⟩
theorem ref_box {w:World} {O:OO} {h:Hp} {ι:Nat→Value} {base:Nat} (ho:MR w O h ι base) {K s j:Nat} {ms:List (Option (List D))} {cs:List D}
  (hK:h K=some (.abox s ms)) (hm:mbox ms j=some cs) {v:Value} (hv:O.is K j v):v=ι (phi K j)∧ ∃b,v= .pointer (some ⟨b,0,none⟩):=by
 obtain⟨h1,h0,h2⟩:=bal_box hK hm
 have:=ho.is hv h0 h2
 subst this
 obtain⟨b,_,_,hb,_⟩:=ho.mem K j _ h1
 exact⟨rfl,b,hb⟩
theorem mem_box_cells {w:World} {O:OO} {h:Hp} {ι:Nat→Value} {base:Nat} (ho:MR w O h ι base) {K s j:Nat} {ms:List (Option (List D))} {cs:List D}
  (hK:h K=some (.abox s ms)) (hm:mbox ms j=some cs) {b:Nat} (hb:ι (phi K j)= .pointer (some ⟨b,0,none⟩)) (off:Nat):
  ∃us,LRep w O (cs.drop off) us∧ ∀j u,us[j]? =some u→w.cell? ((⟨b,off,none⟩:Addr).add j)=some u:=by
 obtain⟨h1,_⟩:=bal_box hK hm
 obtain⟨b',vs,e,g1,g2,g3,g4⟩:=ho.mem K j _ h1
 rw[hb]at g1
 injection g1 with g1
 injection g1 with g1
 injection g1 with g1
 subst g1
 refine⟨vs.toList.drop off,g4.drop off,fun j u hu=> ?_⟩
 rw[List.getElem?_drop]at hu
 rw[add_plain]
 simp only[World.cell?,g3]
 simpa using hu
theorem view1_rep {w:World} {O:OO} {h:Hp} {ι:Nat→Value} {base:Nat} (ho:MR w O h ι base) {x:AV} {v:Value} {k:D→Prop} (hv:view1 h x k) (hr:ARep w O ι x v):
  ∃d,k d∧VRep w O.bare d v∧(x.isA=true→viewD h x=some d):=by
 have old:(match viewD h x with
  |some d=>k d
  |none=>False)→ ∃d,k d∧VRep w O.bare d v∧(x.isA=true→viewD h x=some d):=by
  intro hk
  split at hk
  ·rename_i d hd
   exact⟨d,hk,view_rep ho hd hr,fun _=>hd⟩
  ·exact hk.elim
 unfold view1 at hv
 split at hv
 ·rename_i K j
  split at hv
  ·rename_i e t ms hK
   unfold viewR at hv
   split at hv
   ·rename_i K' ms
    split at hv
    ·rename_i e' t' ms' hK'
     cases hb:(evenB K&&evenB K'&&t'.nr)with
     |false=>rw[hb]at hv;exact hv.elim
     |true=>
      rw[hb]at hv
      simp only[cond_true]at hv
      simp only[Bool.and_eq_true]at hb
      obtain⟨h1,h2,h3⟩:=hv
      refine⟨_,h3, ?_,fun h=>by cases h⟩
      obtain⟨⟨vs,g1,g2⟩,_⟩:=ref_row ho hb.1.1 hK h1 hr
      refine⟨?_,fun h=>by cases h⟩
      have hrow:=row_srep g1 g2
      obtain⟨a,c,e1,e2,e3⟩:=hrow
      refine⟨a,c,by simpa using e1,by simpa using e2,fun h0=> ?_⟩
      obtain⟨ad,ea,e4⟩:=e3 (by simpa using h0)
      refine⟨ad,ea,fun i hi=> ?_⟩
      have hi':i<(mrow ms j).length:=by simpa using hi
      obtain⟨u,u1,u2⟩:=e4 i hi'
      have hmem:mal ms' (mrow ms j)[i]:=h2 _ (List.getElem_mem hi')
      obtain⟨⟨vs',g3,g4⟩,_⟩:=ref_row ho hb.1.2 hK' hmem (show O.is K' ((mrow ms j)[i]) u from u1)
      have hrow':=row_srep g3 g4
      obtain⟨a',c',e1',e2',e3'⟩:=hrow'
      rw[List.getElem_map]
      refine⟨a',c', ?_,e2',e3'⟩
      rw[←e1']
      exact u2
    ·exact hv.elim
   ·cases hb:(evenB K&&t.nr)with
    |false=>rw[hb]at hv;exact hv.elim
    |true=>
     rw[hb]at hv
     simp only[cond_true]at hv
     simp only[Bool.and_eq_true]at hb
     obtain⟨⟨vs,g1,g2⟩,_⟩:=ref_row ho hb.1 hK hv.1 hr
     exact⟨_,hv.2,⟨row_srep g1 g2,fun h=>by cases h⟩,fun h=>by cases h⟩
  ·exact hv.elim
 ·exact old hv

theorem views_rep {w:World} {O:OO} {h:Hp} {ι:Nat→Value} {base:Nat} (ho:MR w O h ι base):
  ∀(xs:List AV) (vs:List Value) {k:List D→Prop},views h xs k→ALRep w O ι xs vs→ ∃ds,k ds∧LRep w O.bare ds vs∧(xs.all AV.isA=true→optAll (xs.map (viewD h))=some ds)
 |[],vs,k,hc,hr=>⟨[],hc,hr,fun _=>rfl⟩
 |c::caps,_,k,hc,⟨u,us,h1,h2,h3⟩=>by
  subst h1
  obtain⟨d,k1,k2,k3⟩:=view1_rep ho hc h2
  obtain⟨ds,k4,k5,k6⟩:=views_rep ho caps us k1 h3
  refine⟨d::ds,k4,⟨u,us,rfl,k2,k5⟩,fun ha=> ?_⟩
  simp only[List.all_cons,Bool.and_eq_true]at ha
  rw[List.map_cons]
  simp only[optAll,k3 ha.1,k6 ha.2]
theorem caps_data {w:World} {O:OO} {h:Hp} {ι:Nat→Value}: ∀ {caps:List (D ⊕ (Nat×Nat))} {cs:List D} {vs:List Value},inlAll caps=true→optAll (caps.map (capD h))=some cs→capsRep w O ι caps vs→LRep w O cs vs
 |[],cs,vs,_,hc,hr=>by simp[optAll]at hc;subst hc;exact hr
 | .inr _::_,_,_,ha,_,_=>by cases ha
 | .inl d::caps,cs,_,ha,hc,⟨u,us,h1,h2,h3⟩=>by
  rw[List.map_cons]at hc
  obtain⟨x,ys,e1,e2,e3⟩:=optAll_cons hc
  subst h1 e3
  have e4:x=d:=by
   unfold capD at e1
   injection e1 with e1;exact e1.symm
  subst e4
  exact⟨u,us,rfl,h2,caps_data (caps:=caps) ha e2 h3⟩
theorem views_data {w:World} {O:OO} {h:Hp} {ι:Nat→Value}:
  ∀(xs:List AV) (ds:List D) (vs:List Value),xs.all AV.isA=true→optAll (xs.map (viewD h))=some ds→ALRep w O ι xs vs→LRep w O ds vs
 |[],ds,vs,_,hc,hr=>by simp[optAll]at hc;subst hc;exact hr
 |c::caps,cs,_,ha,hc,⟨u,us,h1,h2,h3⟩=>by
  rw[List.map_cons]at hc
  obtain⟨x,ys,e1,e2,e3⟩:=optAll_cons hc
  simp only[List.all_cons,Bool.and_eq_true]at ha
  subst h1 e3
  refine⟨u,us,rfl, ?_,views_data caps ys us ha.2 e2 h3⟩
  cases c with
  |d y=>
   simp[viewD]at e1
   subst e1
   exact h2
  |clo f cp=>
   obtain⟨vs,hv,hcp⟩:=h2
   have e3:(match optAll (cp.map (capD h))with
    |some cs=>some (D.clo f cs)
    |none=>none)=some x:=e1
   split at e3
   ·rename_i cs hcs
    injection e3 with e3
    subst e3
    exact⟨vs,hv,caps_data ha.1 hcs hcp⟩
   ·cases e3
  |_=>simp[AV.isA]at ha

theorem fin_spec {α:Type} {o:Option (α×List D)} {x:α} (h:fin o=some x):o=some (x,[]):=by
 unfold fin at h
 split at h
 ·injection h with h;subst h;rfl
 ·cases h

theorem ERep.toD {w:World} {O:OO} {t:Ty} {x:t.El} {v:Value} (ha:t.isAgg=false) (h:ERep w O t x (lat [v]) 0):VRep w O (t.toD x) v:=by
 cases t with
 |int k=>simpa [ERep,lat,Ty.toD,VRep]using h
 |bool=>simpa [ERep,lat,Ty.toD,VRep]using h
 |str=>simpa [ERep,lat,Ty.toD,VRep]using h
 |slc t=>
  obtain⟨a,c,h1,h2,h3⟩:=h
  simp only[lat,List.getElem?_cons_zero,Option.some.injEq]at h1
  exact⟨⟨a,c,h1,h2,h3⟩,fun h=>by cases h⟩
 |pair a b=>cases ha
 |unit=>cases ha
 |ref K=>
  obtain⟨u,h1,h2⟩:=h
  simp only[lat,List.getElem?_cons_zero,Option.some.injEq]at h2
  subst h2
  exact h1

theorem one_cells {v:Value} (h:v.oneCell'=true):v.cells.toList=[v]:=by
 cases v<;>first|rfl|(simp[Value.oneCell']at h)
theorem toD_agg {t:Ty} (ha:t.isAgg=true) (x:t.El):t.toD x= .agg (t.cells x):=by
 cases t<;>first|rfl|cases ha

theorem ERep.lrep {w:World} {O:OO} {t:Ty} {x:t.El} {vs:List Value} (h:ERep w O t x (lat vs) 0) (hl:vs.length=t.size):LRep w O (t.cells x) vs:=by
 obtain⟨us,k1,k2⟩:=ERep.cells t _ _ _ h
 have hlen:us.length=vs.length:=by rw[k1.length,cells_length,hl]
 have:us=vs:=by
  refine List.ext_getElem? fun i=> ?_
  rcases Nat.lt_or_ge i us.length with hi|hi
  ·have:=k2 i us[i] (List.getElem?_eq_getElem hi)
   simp only[lat,Nat.zero_add]at this
   rw[this,List.getElem?_eq_getElem hi]
  ·rw[List.getElem?_eq_none hi,List.getElem?_eq_none (by omega)]
 subst this
 exact k1

theorem ofD_spec {w:World} {O:OO} {t:Ty} {d:D} {x:t.El} {v:Value} (h:t.ofD d=some x) (hr:VRep w O d v):
  VRep w O (t.toD x) v∧ ∃vs:List Value,vs=v.cells.toList∧vs.length=t.size∧ERep w O t x (lat vs) 0:=by
 unfold Ty.ofD at h
 cases ha:t.isAgg with
 |true=>
  rw[ha]at h
  cases d<;>simp only[cond_true]at h<;>try (cases h;done)
  rename_i cs
  obtain⟨vs,rfl,h2⟩:=hr
  obtain⟨us,ws,e1,e2,e3,e4⟩:=ofCells_spec t _ _ _ _ (fin_spec h) h2
  have ew:ws=[]:=by simpa [LRep]using e4
  subst ew
  simp only[List.append_nil]at e1
  subst e1
  rw[toD_agg ha]
  exact⟨⟨vs,rfl,e3.lrep e2⟩,vs.toList,rfl,e2,e3⟩
 |false=>
  rw[ha]at h
  simp only[cond_false]at h
  obtain⟨us,ws,e1,e2,e3,e4⟩:=ofCells_spec t _ _ _ [v] (fin_spec h) ⟨v,[],rfl,hr,rfl⟩
  have ew:ws=[]:=by simpa [LRep]using e4
  subst ew
  simp only[List.append_nil]at e1
  subst e1
  have hv:=e3.toD ha
  refine⟨hv,[v], ?_,e2,e3⟩
  cases t<;>simp[Ty.isAgg]at ha<;>simp[Ty.toD,VRep]at hv
  ·subst hv;rfl
  ·subst hv;rfl
  ·subst hv;rfl
  ·obtain⟨a,c,rfl,_⟩:=hv;rfl
  ·exact(one_cells hv.2).symm

theorem dec_enc {w:World} {O:OO} (a:Ar) (d:D) (x:a.El) (v:Value) (h:a.dec d=some x) (hr:VRep w O d v):VRep w O (a.enc x) v:=by
 cases a with
 |raw=>simp only[Ar.dec,Option.some.injEq]at h;subst h;exact hr
 |ty t=>exact(ofD_spec h hr).1
theorem decs_encs {w:World} {O:OO}: ∀(l:List Ar) (ds:List D) (x:Ars l) (vs:List Value),decs l ds=some x→LRep w O ds vs→LRep w O (encs l x) vs
 |[],[],x,vs,_,hr=>hr
 |[],_::_,x,vs,h,_=>by simp[decs]at h
 |_::_,[],x,vs,h,_=>by simp[decs]at h
 |a::l,d::ds,x,vs,h,⟨u,us,h1,h2,h3⟩=>by
  simp only[decs]at h
  cases hd:a.dec d with
  |none=>rw[hd]at h;cases h
  |some y=>
   rw[hd]at h
   simp only at h
   cases hl:decs l ds with
   |none=>rw[hl]at h;cases h
   |some ys=>
    rw[hl]at h
    injection h with h
    subst h
    exact⟨u,us,h1,dec_enc a d y u hd h2,decs_encs l ds ys us hl h3⟩

theorem scalar_rep {w:World} {O O':OO}: ∀(l:List Ar) (x:Ars l) (vs:List Value),l.all Ar.scalar=true→LRep w O (encs l x) vs→LRep w O' (encs l x) vs
 |[],x,vs,_,h=>h
 |a::l,x,vs,hs,⟨u,us,h1,h2,h3⟩=>by
  simp only[List.all_cons,Bool.and_eq_true]at hs
  refine⟨u,us,h1, ?_,scalar_rep l x.2 us hs.2 h3⟩
  cases a with
  |raw=>simp[Ar.scalar]at hs
  |ty t=>cases t<;>simp[Ar.scalar]at hs<;>exact h2

theorem Kp.of {w:World} {O O':OO} (h: ∀b,O' b→O b):Kp w O w O':=⟨fun _ _ _=>rfl,fun b _ hn ho=>hn (h b ho)⟩
theorem ARep.nr {w:World} {O O':OO} {ι ι':Nat→Value} (h: ∀b,O' b→O b) {ds:List D} (hn:D.nrs ds) {v:Value} (hr:ARep w O ι (resAV ds) v):ARep w O' ι' (resAV ds) v:=by
 cases ds with
 |nil=>obtain⟨vs,h1,h2⟩:=hr;exact⟨vs,h1,LRep.nr (Kp.of h) _ _ hn h2⟩
 |cons d l=>
  cases l with
  |nil=>exact VRep.nr (Kp.of h) d v (by simp[D.nrs]at hn;exact hn) hr
  |cons d' l=>obtain⟨vs,h1,h2⟩:=hr;exact⟨vs,h1,LRep.nr (Kp.of h) _ _ hn h2⟩

theorem views_spec {w:World} {O0:Nat→Prop} {h:Hp} {ι:Nat→Value} {base:Nat} (ho:MR w (Own O0 h ι) h ι base)
  {C:Con} (hC:NRC C) {args:List AV} {vs:List Value} {p:Ars C.args→Prop}
  (hq:qargs C h args p) (hr:ALRep w (Own O0 h ι) ι args vs) (hlt:OKO (Own O0 h ι) w):
  ∃x:Ars C.args,p x∧(C.pre x→
   ∃O:Nat→Prop,OKO O w∧LRep w ⟨O,nn⟩ (encs C.args x) vs∧
    ∀v w',(∀ι',ARep w' ⟨O,nn⟩ ι' (resAV (encs C.res (C.post x))) v)→ARep w' (Own O0 h ι) ι (resAV (encs C.res (C.post x))) v):=by
 obtain⟨ds,hq,hds,hda⟩:=views_rep ho args vs hq hr
 split at hq
 ·rename_i x hx
  cases hc:(args.all AV.isA||C.res.all Ar.scalar)with
  |false=>rw[hc]at hq;exact hq.elim
  |true=>
   rw[hc]at hq
   simp only[cond_true]at hq
   refine⟨x,hq,fun hpre=> ?_⟩
   simp only[Bool.or_eq_true]at hc
   by_cases hd:args.all AV.isA=true
   ·exact⟨(Own O0 h ι).p,hlt,LRep.nr (Kp.of (O:=Own O0 h ι) (O':=⟨(Own O0 h ι).p,nn⟩) fun _ h=>h) _ _ (hC.a x hpre) (decs_encs _ _ _ _ hx (views_data args ds vs hd (hda hd) hr)),fun v w' hv=>ARep.nr (ι:=ι) (O:=⟨(Own O0 h ι).p,nn⟩) (O':=Own O0 h ι) (fun _ h=>h) (hC.r x hpre) (hv ι)⟩
   ·refine⟨fun _=>False,⟨fun _ h=>h.elim,hlt.2⟩,LRep.nr (Kp.of (O:=(Own O0 h ι).bare) (O':=⟨fun _=>False,nn⟩) fun _ h=>h) _ _ (hC.a x hpre) (decs_encs _ _ _ _ hx hds),fun v w' hv=> ?_⟩
    have hs:=hc.resolve_left hd
    have hv':=hv ι
    revert hv'
    have key:=fun vs=>scalar_rep (w:=w') (O:=⟨fun _=>False,nn⟩) (O':=Own O0 h ι) C.res (C.post x) vs hs
    generalize encs C.res (C.post x)=l at key
    intro hv'
    cases l with
    |nil=>obtain⟨us,e1,e2⟩:=hv';exact⟨us,e1,key _ e2⟩
    |cons d l=>
     cases l with
     |nil=>
      obtain⟨u,us,e,e1,e2⟩:=key [v] ⟨v,[],rfl,hv',rfl⟩
      injection e with e3 e4
      subst e3
      exact e1
     |cons d' l=>obtain⟨us,e1,e2⟩:=hv';exact⟨us,e1,key _ e2⟩
 ·exact hq.elim

theorem qcon_spec {w:World} {O0:Nat→Prop} {h:Hp} {ι:Nat→Value} {base:Nat} (ho:MR w (Own O0 h ι) h ι base)
  {C:Con} (hC:NRC C) {args:List AV} {vs:List Value} {k:AV→Prop} (hq:qcon C h args k) (hr:ALRep w (Own O0 h ι) ι args vs) (hlt:OKO (Own O0 h ι) w):
  ∃x:Ars C.args,C.pre x∧k (resAV (encs C.res (C.post x)))∧
   ∃O:Nat→Prop,OKO O w∧LRep w ⟨O,nn⟩ (encs C.args x) vs∧
    ∀v w',(∀ι',ARep w' ⟨O,nn⟩ ι' (resAV (encs C.res (C.post x))) v)→ARep w' (Own O0 h ι) ι (resAV (encs C.res (C.post x))) v:=by
 obtain⟨x,⟨h1,h2⟩,h3⟩:=views_spec ho hC hq hr hlt
 exact⟨x,h1,h2,h3 h1⟩

theorem qconP_spec {w:World} {O0:Nat→Prop} {h:Hp} {ι:Nat→Value} {base:Nat} (ho:MR w (Own O0 h ι) h ι base)
  {C:ConP} (hC:NRC C.con) {args:List AV} {vs:List Value} {kp:Prop} {k:AV→Prop} (hq:qconP C h args kp k) (hr:ALRep w (Own O0 h ι) ι args vs) (hlt:OKO (Own O0 h ι) w):
  ∃x:Ars C.con.args,C.con.pre x∧Br (C.pan x) kp (k (resAV (encs C.con.res (C.con.post x))))∧
   ∃O:Nat→Prop,OKO O w∧LRep w ⟨O,nn⟩ (encs C.con.args x) vs∧
    ∀v w',(∀ι',ARep w' ⟨O,nn⟩ ι' (resAV (encs C.con.res (C.con.post x))) v)→ARep w' (Own O0 h ι) ι (resAV (encs C.con.res (C.con.post x))) v:=by
 obtain⟨x,⟨h1,h2⟩,h3⟩:=views_spec (C:=C.con) ho hC (p:=fun x=>C.con.pre x∧Br (C.pan x) kp (k (resAV (encs C.con.res (C.con.post x))))) hq hr hlt
 exact⟨x,h1,h2,h3 h1⟩

end Fw
end
section
set_option linter.unusedVariables false
set_option linter.unusedSimpArgs false
namespace Fw
open Go Go.RowKit

section
variable {P : Program} {T : Ctx} {w : World} {O : OO} {h : Hp} {ι : Nat → Value} {base : Nat}

def Yields (P:Program) (w:World) (O:OO) (h:Hp) (ι:Nat→Value) (s:Sem Value) (k:AV→Prop):Prop:=
 ∃av v w',k av∧(av.live h)∧s.run P w= .ok v w'∧ARep w' O ι av v∧Below w.heap.size w w'

theorem Yields.same {s:Sem Value} {k:AV→Prop} {av:AV} {v:Value} (hk:k av) (hi:av.live h) (hr:s.run P w= .ok v w) (ha:ARep w O ι av v):Yields P w O h ι s k:=
 ⟨av,v,w,hk,hi,hr,ha,Below.refl _ _⟩
theorem Yields.data {s:Sem Value} {k:AV→Prop} {d:D} {v:Value} (hk:k (.d d)) (hr:s.run P w= .ok v w) (ha:VRep w O d v):Yields P w O h ι s k:=
 ⟨.d d,v,w,hk,by simp[AV.live,AV.ids,AV.mids],hr,ha,Below.refl _ _⟩

theorem constD0_rep (w:World) (O:OO) (v:Value):VRep w O (constD0 v) v:=by
 cases v<;>simp[constD0,VRep]
theorem constDs_rep (w:World) (O:OO): ∀vs:List Value,LRep w O (vs.map constD0) vs
 |[]=>rfl
 |v::vs=>⟨v,vs,rfl,constD0_rep w O v,constDs_rep w O vs⟩
theorem constD_rep (w:World) (O:OO) (v:Value):VRep w O (constD v) v:=by
 cases v with
 |agg cs=>exact⟨cs,rfl,constDs_rep w O _⟩
 |_=>simp[constD,constD0,VRep]

theorem run_load_cells {P:Program} {w:World} {t:Nat} {i:TInf} (hi:mkTI P t=some i) {ad:Addr} {us:List Value} {ds:List D} {O':OO}
  (hl:LRep w O ds us) (hc: ∀j u,us[j]? =some u→w.cell? (ad.add j)=some u) {k:AV→Prop} (hk:cellsAt i ds k):
  Yields P w O h ι (loadVar t ad) k:=by
 obtain⟨inf,d,z,h1,h2,h3,h4,h5,h6,h7⟩:=mkTI_spec hi
 unfold cellsAt at hk
 have hagg:(isAgg t).run P w= .ok i.desc.agg w:=by
  rw[←h6,tdOf_agg]
  unfold isAgg
  simp only[Sem.run_bind,run_underlying h2]
  cases d<;>rfl
 cases ha:i.desc.agg with
 |true=>
  rw[ha]at hk hagg
  simp only[cond_true]at hk
  cases hb:Nat.ble i.size ds.length with
  |false=>rw[hb]at hk;exact hk.elim
  |true=>
   rw[hb]at hk
   simp only[cond_true]at hk
   have hle:=Nat.le_of_ble_eq_true hb
   have hlen:us.length=ds.length:=hl.length
   refine Yields.data (v:= .agg (us.take i.size).toArray) hk ?_ ⟨_,rfl,by simpa using hl.take i.size⟩
   have hlc:=run_loadCells_list (P:=P) (w:=w) ad (us.take i.size) (fun j v hj=>hc j v (by rw[List.getElem?_take]at hj;split at hj<;>simp_all))
   have hn:(us.take i.size).length=i.size:=by simp;omega
   rw[hn]at hlc
   unfold loadVar
   simp[hagg,Go.sizeOf,typeInfo,h1,h4,hlc]
 |false=>
  rw[ha]at hk hagg
  simp only[cond_false]at hk
  cases ds with
  |nil=>exact hk.elim
  |cons d ds=>
   obtain⟨u,us',e1,e2,e3⟩:=hl
   subst e1
   have h0:=hc 0 u rfl
   rw[add_zero']at h0
   refine Yields.data (v:=u) hk ?_ e2
   unfold loadVar
   simp[hagg,load,Sem.run,h0]

theorem run_size {t:Nat} {inf:TypeInfo} (h:P.info? t=some inf) (w:World):(Go.sizeOf t).run P w= .ok inf.size w:=by simp[Go.sizeOf,typeInfo,h]

theorem ptr_inj {b b':Nat} {x:Value} (h:x= .pointer (some ⟨b,0,none⟩)) (h':x= .pointer (some ⟨b',0,none⟩)):b=b':=by
 rw[h]at h';injection h' with h';injection h' with h';injection h' with h'

theorem ptr_cells (ho:MR w O h ι base) {id off b:Nat} {cs:List D} (hid:h id=some (.box cs)) (hb:ι id= .pointer (some ⟨b,0,none⟩)):
  ∃us,LRep w O (cs.drop off) us∧ ∀j u,us[j]? =some u→w.cell? ((⟨b,off,none⟩:Addr).add j)=some u:=by
 obtain⟨b',vs,e,h1,h2,h3,h4⟩:=ho.ho id _ hid
 have:=ptr_inj hb h1
 subst this
 refine⟨vs.toList.drop off,h4.drop off,fun j u hu=> ?_⟩
 rw[List.getElem?_drop]at hu
 rw[add_plain]
 simp only[World.cell?,h3]
 simpa using hu

theorem obj_cells {id e:Nat} {t:Ty} {xs:List t.El} {b n c:Nat} (ho:ObjRep w O base (.row e t xs) (ι id))
  (hb:ι id= .slice (some ⟨b,0,none⟩) n c) {j:Nat} (hj:j<xs.length) (off:Nat):
  ∃us,LRep w O ((t.cells xs[j]).drop off) us∧ ∀i u,us[i]? =some u→w.cell? ((⟨b,j*t.size+off,none⟩:Addr).add i)=some u:=by
 obtain⟨vs,h1,h2⟩:=ho
 obtain⟨us,k1,k2⟩:=ERep.cells t _ _ _ (h2 j hj)
 refine⟨us.drop off,k1.drop off,fun i u hu=> ?_⟩
 rw[List.getElem?_drop]at hu
 have h3:=k2 _ u hu
 simp only[lat]at h3
 rw[hb]at h1
 have:=h1.cells (g:=b) rfl _ u h3
 rw[add_plain]at this⊢
 have e:0+(j*t.size+(off+i))=j*t.size+off+i:=by omega
 rw[e]at this;exact this
theorem row_cells (ho:MR w O h ι base) {id e:Nat} {t:Ty} {xs:List t.El} {b n c:Nat} (hid:h id=some (.row e t xs))
  (hb:ι id= .slice (some ⟨b,0,none⟩) n c) {j:Nat} (hj:j<xs.length) (off:Nat):
  ∃us,LRep w O ((t.cells xs[j]).drop off) us∧ ∀i u,us[i]? =some u→w.cell? ((⟨b,j*t.size+off,none⟩:Addr).add i)=some u:=
 obj_cells (ho.ho id _ hid) hb hj off

theorem q_load (tt: ∀t i,look T.tt t=some i→mkTI P t=some i) (ho:MR w O h ι base) {t:Nat} {x:AV} {v:Value} {k:AV→Prop}
  (hr:ARep w O ι x v) (hk:qload T t x h k):Yields P w O h ι (Instr.loadAt t v) k:=by
 unfold qload at hk
 cases hi:look T.tt t with
 |none=>rw[hi]at hk;exact hk.elim
 |some i=>
  rw[hi]at hk
  have hm:=tt t i hi
  cases x with
  |d x=>
   cases x<;>simp only at hk
   case rptr cs=>
    obtain⟨ad,rfl,hp⟩:=hr
    obtain⟨us,k1,k2⟩:=hp.lrep
    have:=run_load_cells (h:=h) (O:=O) (ι:=ι) (O':=O) hm k1 (ad:=ad) (fun j u hu=>by simpa using (k2 j u hu).2) hk
    simpa [Instr.loadAt,Instr.sureAddr,Yields]using this
   case ref K j=>
    cases hid:h K with
    |none=>rw[hid]at hk;exact hk.elim
    |some o=>
     rw[hid]at hk
     cases o with
     |abox s ms=>
      simp only at hk
      split at hk
      ·rename_i cs hal
       obtain⟨e1,b,e2⟩:=ref_box ho hid hal hr
       obtain⟨us,k1,k2⟩:=mem_box_cells ho hid hal (e1.symm.trans e2) 0
       subst e2
       have:=run_load_cells (h:=h) (O:=O) (ι:=ι) (O':=O) hm k1 k2 (by simpa using hk)
       simpa [Instr.loadAt,Instr.sureAddr,Yields]using this
      ·exact hk.elim
     |_=>exact hk.elim
  |ptr id off=>
   obtain⟨b,hb,rfl⟩:=hr
   simp only at hk
   cases hid:h id with
   |none=>rw[hid]at hk;exact hk.elim
   |some o=>
    rw[hid]at hk
    cases o with
    |box cs=>
     obtain⟨us,k1,k2⟩:=ptr_cells ho (off:=off) hid hb
     have:=run_load_cells (h:=h) (O:=O) (ι:=ι) (O':=O) hm k1 k2 hk
     simpa [Instr.loadAt,Instr.sureAddr,Yields]using this
    |_=>exact hk.elim
  |eptr id sz ix off=>
   obtain⟨b,n,c,hb,rfl⟩:=hr
   simp only at hk
   cases hid:h id with
   |none=>rw[hid]at hk;exact hk.elim
   |some o=>
    rw[hid]at hk
    cases o with
    |row e t' xs=>
     simp only at hk
     cases hs:Nat.beq sz t'.size with
     |false=>rw[hs]at hk;exact hk.elim
     |true=>
      rw[hs]at hk
      have hsz:=Nat.eq_of_beq_eq_true hs
      subst hsz
      obtain⟨h0,h1,hk⟩:=hk
      have hj:ix.toNat<xs.length:=by omega
      have hrd:rd t' xs ix=xs[ix.toNat]:=by simp[rd,List.getD_eq_getElem?_getD,List.getElem?_eq_getElem hj]
      rw[hrd]at hk
      obtain⟨us,k1,k2⟩:=row_cells ho hid hb hj off
      have:=run_load_cells (h:=h) (O:=O) (ι:=ι) (O':=O) hm k1 k2 hk
      simpa [Instr.loadAt,Instr.sureAddr,Yields]using this
    |_=>exact hk.elim
  |mptr K j sz ix off=>
   obtain⟨b,n,c,hb,rfl⟩:=hr
   simp only at hk
   cases hid:h K with
   |none=>rw[hid]at hk;exact hk.elim
   |some o=>
    rw[hid]at hk
    cases o with
    |aren e t' ms=>
     simp only at hk
     cases hs:Nat.beq sz t'.size with
     |false=>rw[hs]at hk;exact hk.elim
     |true=>
      rw[hs]at hk
      have hsz:=Nat.eq_of_beq_eq_true hs
      subst hsz
      obtain⟨hal,h0,h1,hk⟩:=hk
      have hj0:0<j:=by
       rcases Nat.eq_zero_or_pos j with e|e
       ·subst e;simp[mrow]at h1;omega
       ·exact e
      have hj:ix.toNat<(mrow ms j).length:=by omega
      have hrd:rd t' (mrow ms j) ix=(mrow ms j)[ix.toNat]:=by simp[rd,List.getD_eq_getElem?_getD,List.getElem?_eq_getElem hj]
      rw[hrd]at hk
      obtain⟨us,k1,k2⟩:=obj_cells (ho.mem K j _ (mal_row hid hal hj0).1) hb hj off
      have:=run_load_cells (h:=h) (O:=O) (ι:=ι) (O':=O) hm k1 k2 hk
      simpa [Instr.loadAt,Instr.sureAddr,Yields]using this
    |_=>exact hk.elim
  |bptr K j off=>
   obtain⟨b,hb,rfl⟩:=hr
   simp only at hk
   cases hid:h K with
   |none=>rw[hid]at hk;exact hk.elim
   |some o=>
    rw[hid]at hk
    cases o with
    |abox s ms=>
     simp only at hk
     split at hk
     ·rename_i cs hal
      obtain⟨us,k1,k2⟩:=mem_box_cells ho hid hal hb off
      have:=run_load_cells (h:=h) (O:=O) (ι:=ι) (O':=O) hm k1 k2 hk
      simpa [Instr.loadAt,Instr.sureAddr,Yields]using this
     ·exact hk.elim
    |_=>exact hk.elim
  |_=>simp only at hk

theorem nil_false {x:AV} {v:Value} (hr:ARep w O ι x v) (hn:nilOf x=some false):
  (∃a,v= .pointer (some a))∨(∃f vs,v= .func (.func f) #[] vs)∨(∃t u,v= .iface t u):=by
 cases x with
 |d x=>
  cases x<;>simp only[nilOf]at hn<;>try (cases hn;done)
  ·obtain⟨u,rfl,_⟩:=hr;exact .inr (.inr ⟨_,_,rfl⟩)
  ·obtain⟨a,rfl,_⟩:=hr;exact .inl ⟨_,rfl⟩
  ·obtain⟨a,rfl,_⟩:=hr;exact .inr (.inl ⟨_,_,rfl⟩)
  ·split at hn<;>simp_all
 |own id=>simp[nilOf]at hn
 |ptr id off=>obtain⟨b,_,rfl⟩:=hr;exact .inl ⟨_,rfl⟩
 |eptr id sz i off=>obtain⟨b,n,c,_,rfl⟩:=hr;exact .inl ⟨_,rfl⟩
 |win id sz lo n=>simp[nilOf]at hn
 |bnd f l=>simp[nilOf]at hn
 |mptr K j sz i off=>obtain⟨b,n,c,_,rfl⟩:=hr;exact .inl ⟨_,rfl⟩
 |bptr K j off=>obtain⟨b,_,rfl⟩:=hr;exact .inl ⟨_,rfl⟩
 |clo f caps=>obtain⟨a,rfl,_⟩:=hr;exact .inr (.inl ⟨_,_,rfl⟩)
 |tup l=>simp[nilOf]at hn


theorem q_int {op:BinOp} {kd kd':IntKind} {x y:Int} {k:D→Prop} {t:TypeId} (hkd:(isShift op||ikb kd kd')=true) (hk:qint op kd x y k):
  ∃d v,k d∧VRep w O d v∧(binOp op t (.int kd x) (.int kd' y)).run P w= .ok v w:=by
 have hsh:isShift op=true∨kd=kd':=by
  simp only[Bool.or_eq_true]at hkd
  exact hkd.imp id ikb_eq
 cases op<;>simp only[qint]at hk
 case shl=>exact⟨_,_,hk.2,rfl,by simp[binOp,Op.shift,Int.not_lt.mpr hk.1]⟩
 case shr=>exact⟨_,_,hk.2,rfl,by simp[binOp,Op.shift,Int.not_lt.mpr hk.1]⟩
 all_goals (have hkk:kd=kd':=hsh.resolve_left (by simp[isShift]);subst hkk)
 case quo=>exact⟨_,_,hk.2,rfl,by simp[binOp,Op.intDiv,hk.1]⟩
 case rem=>exact⟨_,_,hk.2,rfl,by simp[binOp,Op.intDiv,hk.1]⟩
 case and=>exact⟨_,_,hk,rfl,by simp[binOp,Op.intBits,bitsv]⟩
 case or=>exact⟨_,_,hk,rfl,by simp[binOp,Op.intBits,bitsv]⟩
 case xor=>exact⟨_,_,hk,rfl,by simp[binOp,Op.intBits,bitsv]⟩
 case andNot=>exact⟨_,_,hk,rfl,by simp[binOp,Op.intBits,bitsv]⟩
 all_goals exact⟨_,_,hk,rfl,by simp[binOp,Op.intArith,Op.intCmp]⟩

theorem q_un {op:UnOp} {x:AV} {v:Value} {k:AV→Prop} (hr:ARep w O ι x v) (hk:qun op x k):Yields P w O h ι (Op.unary op v) k:=by
 unfold qun at hk
 split at hk
 ·have hr':v=_:=hr
  subst hr'
  exact Yields.data hk (v:= .int _ _) (by simp[Op.unary,Op.intArith]) rfl
 ·have hr':v=_:=hr
  subst hr'
  exact Yields.data hk (v:= .bool _) (by simp[Op.unary]) rfl
 ·have hr':v=_:=hr
  subst hr'
  exact Yields.data hk (v:= .int _ _) (by simp[Op.unary,Op.intBits,bitsv]) rfl
 ·exact hk.elim

theorem q_conv (tt: ∀t i,look T.tt t=some i→mkTI P t=some i) {src dst:Nat} {x:AV} {v:Value} {k:AV→Prop} (ho:MR w O h ι base) (hr:ARep w O ι x v) (hk:qconv T src dst x (viewD h x) k):
  Yields P w O h ι (convert src dst v) k:=by
 unfold qconv at hk
 split at hk
 ·rename_i i j hi hj
  obtain⟨inf,d,z,h1,h2,h3,h4,h5,h6,h7⟩:=mkTI_spec (tt _ _ hi)
  obtain⟨inf',d',z',g1,g2,g3,g4,g5,g6,g7⟩:=mkTI_spec (tt _ _ hj)
  split at hk
  ·rename_i kd kx n hd
   have hr':v=_:=hr
   subst hr'
   rw[hd]at g6
   have e:=tdOf_int g6
   subst e
   exact Yields.data hk (v:= .int _ _) (by simp[convert,run_underlying h2,run_underlying g2,Conv.intToInt]) rfl
  ·rename_i e hd1 hd2
   split at hk
   ·rename_i ie f t' xs he hv
    split at hk
    ·rename_i ns hie hc
     obtain⟨e9,rfl⟩:=castL_spec hc
     subst e9
     obtain⟨infe,de,ze,k1,k2,k3,k4,k5,k6,k7⟩:=mkTI_spec (tt _ _ he)
     rw[hd1]at h6
     rw[tdOf_slice h6]at h2
     rw[hd2]at g6
     rw[tdOf_str g6]at g2
     rw[hie]at k6
     have:=tdOf_int k6
     subst this
     obtain⟨⟨a,c,hva,hlen,hcell⟩,_⟩:=view_rep ho hv hr
     subst hva
     refine Yields.data hk (v:= .string (baOf xs)) ?_ rfl
     rw[run_convert_bytes_string w src dst e _ _ _ h2 k2 g2]
     by_cases h0:0<xs.length
     ·obtain⟨ad,ha,hcell2⟩:=hcell h0
      subst ha
      have hl:=run_loadCells_list (P:=P) (w:=w) ad (xs.map (Value.int .u8)) (fun j v hj=>by
       rw[List.getElem?_map]at hj
       obtain⟨n,hn,rfl⟩:=Option.map_eq_some_iff.1 hj
       obtain⟨hj',rfl⟩:=List.getElem?_eq_some_iff.1 hn
       have:=hcell2 j hj'
       simpa [ERep,Ty.size]using this.2)
      rw[List.length_map]at hl
      exact run_bytesToString w ad xs.length c xs hl
     ·have:xs=[]:=List.eq_nil_of_length_eq_zero (by omega)
      subst this
      cases a with
      |none=>simp[Conv.bytesToString,baOf]
      |some ad=>
       have hl:=run_loadCells_list (P:=P) (w:=w) ad [] (fun j v hj=>by simp at hj)
       exact run_bytesToString w ad 0 c [] hl
    ·exact hk.elim
   ·exact hk.elim
  ·exact hk.elim
 ·exact hk.elim

theorem q_pick {c a b:AV} {vc va vb:Value} {k:AV→Prop} (hc:ARep w O ι c vc) (ha:ARep w O ι a va) (hb:ARep w O ι b vb)
  (hai:a.live h) (hbi:b.live h) (hk:qpick c a b k):
  Yields P w O h ι (do pure (if←asBool vc then va else vb)) k:=by
 unfold qpick at hk
 split at hk
 ·rename_i cb
  have hc':vc= .bool cb:=hc
  subst hc'
  have run: ∀w:World,(do pure (if←asBool (.bool cb)then va else vb):Sem Value).run P w= .ok (if cb=true then va else vb) w:=fun w=>by simp[asBool]
  split at hk
  ·rename_i x y
   have ha':va= .bool x:=ha
   have hb':vb= .bool y:=hb
   subst ha' hb'
   exact Yields.data hk (run w) (by cases cb<;>rfl)
  ·cases cb with
   |true=>exact Yields.same hk hai (run w) ha
   |false=>exact Yields.same hk hbi (run w) hb
 ·exact hk.elim

theorem sliceE_spec (tt: ∀t i,look T.tt t=some i→mkTI P t=some i) {t e:Nat} {ie:TInf} (h:sliceE T t=some (e,ie)):
  P.underlying t=some (.slice e)∧mkTI P e=some ie:=by
 unfold sliceE at h
 split at h
 ·rename_i i hi
  obtain⟨inf,d,z,h1,h2,h3,h4,h5,h6,h7⟩:=mkTI_spec (tt _ _ hi)
  split at h
  ·rename_i e' hd
   split at h
   ·rename_i ie' he
    injection h with h
    injection h with h8 h9
    subst h8 h9
    rw[hd]at h6
    rw[tdOf_slice h6]at h2
    exact⟨h2,tt _ _ he⟩
   ·cases h
  ·cases h
 ·cases h

theorem info_of {P:Program} {t:Nat} {i:TInf} (h:mkTI P t=some i): ∃inf,P.info? t=some inf∧inf.size=i.size∧inf.bytes=i.bytes∧ ∃z,inf.zero=some z∧z.cells.toList.map constD0=i.zero:=by
 obtain⟨inf,d,z,h1,h2,h3,h4,h5,h6,h7⟩:=mkTI_spec h
 exact⟨inf,h1,h4,h5,z,h3,h7⟩

theorem arrBr_spec {i:Int} {f:Nat→Prop}: ∀ {n j:Nat},arrBr n j i f→ ∃m,m<j+n∧i=m∧f m
 |0,j,h=>h.elim
 |n+1,j,h=>by
  unfold arrBr at h
  by_cases e:i=(j:Int)
  ·rw[decide_eq_true e]at h
   exact⟨j,by omega,e,h⟩
  ·rw[decide_eq_false e]at h
   obtain⟨m,h1,h2,h3⟩:=arrBr_spec (n:=n) (j:=j+1) h
   exact⟨m,by omega,h2,h3⟩
theorem arrayE_spec (tt: ∀t i,look T.tt t=some i→mkTI P t=some i) {t n e:Nat} {ie:TInf} (h:arrayE T t=some (n,e,ie)):
  P.underlying t=some (.array n e)∧mkTI P e=some ie:=by
 unfold arrayE at h
 split at h
 ·rename_i i hs
  split at h
  ·rename_i n' e' hd
   split at h
   ·rename_i ie' he
    simp only[Option.some.injEq,Prod.mk.injEq]at h
    obtain⟨rfl,rfl,rfl⟩:=h
    obtain⟨inf,d,z,h1,h2,h3,h4,h5,h6,h7⟩:=mkTI_spec (tt _ _ hs)
    rw[hd]at h6
    rw[tdOf_array h6]at h2
    exact⟨h2,tt _ _ he⟩
   ·cases h
  ·cases h
 ·cases h

theorem q_indexAddr (tt: ∀t i,look T.tt t=some i→mkTI P t=some i) (ho:MR w O h ι base) {t:Nat} {x ix:AV} {v vi:Value} {k:AV→Prop}
  (hr:ARep w O ι x v) (hi:ARep w O ι ix vi) (hal:x.live h) (hk:qindexAddr T t x ix h k):Yields P w O h ι (Instr.indexAt t v vi) k:=by
 unfold qindexAddr at hk
 split at hk
 ·rename_i kd i
  have hi':vi= .int kd i:=hi
  subst hi'
  split at hk
  ·rename_i e ie hs
   obtain⟨hu,hm⟩:=sliceE_spec tt hs
   obtain⟨inf,h1,h2,h3,_⟩:=info_of hm
   have run: ∀(a:Addr) (n c:Nat),0≤i→i<n→(Instr.indexAt t (.slice (some a) n c) (.int kd i)).run P w= .ok (.pointer (some (a.add (i.toNat*inf.size)))) w:=by
    intro a n c h0 hn
    simp[Instr.indexAt,asIntOf,run_underlying hu,h0,hn,run_size h1]
   split at hk
   ·rename_i id
    split at hk
    ·rename_i e' t' xs hid
     cases hb:Nat.beq ie.size t'.size with
     |false=>rw[hb]at hk;exact hk.elim
     |true=>
      rw[hb]at hk
      obtain⟨h0,hl,hk⟩:=hk
      have hsz:=Nat.eq_of_beq_eq_true hb
      obtain⟨vs,ho1,ho2⟩:=ho.ho id _ hid
      have hr':v=ι id:=hr
      subst hr'
      obtain⟨g,cap,hv⟩: ∃g cap,ι id= .slice (some ⟨g,0,none⟩) xs.length cap:=by
       rcases ho1.2 with⟨_,h0'⟩|⟨g,cap,cur,hv,_⟩
       ·omega
       ·exact⟨g,cap,hv⟩
      refine Yields.same (av:= .eptr id t'.size i 0) hk (by simp[AV.live,AV.ids,AV.mids,hid]) (by rw[hv];exact run _ _ _ h0 hl) ⟨g,_,_,hv, ?_⟩
      rw[add_plain,h2,hsz]
      simp
    ·exact hk.elim
   ·rename_i id sz lo n
    split at hk
    ·rename_i e' t' xs hid
     cases hb:(Nat.beq ie.size t'.size&&Nat.beq sz t'.size)with
     |false=>rw[hb]at hk;exact hk.elim
     |true=>
      rw[hb]at hk
      obtain⟨h0,hl,hk⟩:=hk
      simp only[Bool.and_eq_true]at hb
      have hsz:=Nat.eq_of_beq_eq_true hb.1
      have hsz':=Nat.eq_of_beq_eq_true hb.2
      obtain⟨b,m,c,c',hv,rfl,h3,h4,h5,h6⟩:=hr
      refine Yields.same (av:= .eptr id t'.size (lo+i) 0) hk (by simp[AV.live,AV.ids,AV.mids,hid]) (run _ _ _ h0 (by omega)) ⟨b,_,_,hv, ?_⟩
      rw[add_plain,h2,hsz,hsz',Int.toNat_add h4 h0,Nat.add_mul]
      simp
    ·exact hk.elim
   ·rename_i f t' xs
    cases hb:Nat.beq ie.size t'.size with
    |false=>rw[hb]at hk;exact hk.elim
    |true=>
     rw[hb]at hk
     obtain⟨h0,hl,hk⟩:=hk
     have hsz:=Nat.eq_of_beq_eq_true hb
     obtain⟨⟨a,c,hv,hc,hcell⟩,_⟩:=hr
     obtain⟨ad,ha,hcell2⟩:=hcell (by omega)
     subst ha hv
     have hj:i.toNat<xs.length:=by omega
     have hrd:rd t' xs i=xs[i.toNat]:=by simp[rd,List.getD_eq_getElem?_getD,List.getElem?_eq_getElem hj]
     rw[hrd]at hk
     obtain⟨us,k1,k2⟩:=ERep.cells _ _ _ _ (hcell2 _ hj)
     refine Yields.data hk (run _ _ _ h0 hl) ⟨_,rfl,k1.prep fun j u hu=> ?_⟩
     rw[add_add,h2,hsz,Nat.zero_add]
     exact k2 j u hu
   ·rename_i K j
    split at hk
    ·rename_i e' t' ms hid
     cases hb:Nat.beq ie.size t'.size with
     |false=>rw[hb]at hk;exact hk.elim
     |true=>
      rw[hb]at hk
      obtain⟨hal2,h0,hl,hk⟩:=hk
      have hsz:=Nat.eq_of_beq_eq_true hb
      have hj0:0<j:=by
       rcases Nat.eq_zero_or_pos j with e|e
       ·subst e;simp[mrow]at hl;omega
       ·exact e
      obtain⟨m1,m2⟩:=mal_row hid hal2 hj0
      have hvv:=ho.is hr hj0 m2
      subst hvv
      obtain⟨vs,ho1,ho2⟩:=ho.mem K j _ m1
      obtain⟨g,cap,hv⟩: ∃g cap,ι (phi K j)= .slice (some ⟨g,0,none⟩) (mrow ms j).length cap:=by
       rcases ho1.2 with⟨_,h0'⟩|⟨g,cap,cur,hv,_⟩
       ·omega
       ·exact⟨g,cap,hv⟩
      refine Yields.same (av:= .mptr K j t'.size i 0) hk ?_ (by rw[hv];exact run _ _ _ h0 hl) ⟨g,_,_,hv, ?_⟩
      ·simp[AV.live,AV.ids,AV.mids,m1]
      rw[add_plain,h2,hsz]
      simp
    ·exact hk.elim
   ·exact hk.elim
  ·split at hk
   ·rename_i n e ie hae
    obtain⟨hu,hm⟩:=arrayE_spec tt hae
    obtain⟨inf,h1,h2,h3,_⟩:=info_of hm
    have run: ∀(a:Addr) (m:Nat),m<n→i=m→(Instr.indexAt t (.pointer (some a)) (.int kd i)).run P w= .ok (.pointer (some (a.add (m*ie.size)))) w:=by
     intro a m hm hi
     subst hi
     have h0:(0:Int)≤(m:Int):=by omega
     have hn:(m:Int)<(n:Int):=by omega
     simp[Instr.indexAt,asIntOf,run_underlying hu,Instr.sureAddr,h0,hn,run_size h1,h2]
     intro h9
     omega
    split at hk
    ·rename_i id off
     obtain⟨m,hm1,hm2,hk⟩:=arrBr_spec hk
     obtain⟨b,hb,rfl⟩:=hr
     refine Yields.same (av:= .ptr id (off+m*ie.size)) hk ?_ (run _ m (by omega) hm2) ⟨b,hb,by rw[add_plain]⟩
     exact hal
    ·rename_i K b off
     obtain⟨m,hm1,hm2,hk⟩:=arrBr_spec hk
     obtain⟨b,hb,rfl⟩:=hr
     refine Yields.same (av:= .bptr K _ (off+m*ie.size)) hk ?_ (run _ m (by omega) hm2) ⟨b,hb,by rw[add_plain]⟩
     exact hal
    ·rename_i cs
     obtain⟨m,hm1,hm2,hk⟩:=arrBr_spec hk
     obtain⟨ad,rfl,hc⟩:=hr
     exact Yields.data hk (run _ m (by omega) hm2) ⟨_,rfl,hc.drop _⟩
    ·exact hk.elim
   ·exact hk.elim
 ·exact hk.elim

theorem q_index (tt: ∀t i,look T.tt t=some i→mkTI P t=some i) {t:Nat} {x ix:AV} {v vi:Value} {k:AV→Prop}
  (hr:ARep w O ι x v) (hi:ARep w O ι ix vi) (hk:qindex T t x ix k):Yields P w O h ι (Instr.index t v vi) k:=by
 unfold qindex at hk
 split at hk
 ·rename_i kd i
  have hi':vi= .int kd i:=hi
  subst hi'
  split at hk
  ·rename_i inf hs
   obtain⟨inf',d,z,h1,h2,h3,h4,h5,h6,h7⟩:=mkTI_spec (tt _ _ hs)
   split at hk
   ·rename_i s hd
    rw[hd]at h6
    rw[tdOf_str h6]at h2
    obtain⟨h0,hl,hk⟩:=hk
    have hr':v= .string s:=hr
    subst hr'
    have hj:i.toNat<s.size:=by omega
    refine Yields.data hk (v:= .int .u8 (bt s i)) ?_ rfl
    simp[Instr.index,asIntOf,run_underlying h2,h0,bt,hj]
   ·exact hk.elim
  ·exact hk.elim
 ·exact hk.elim

theorem blt_pos {n:Nat} (h:Nat.blt 0 n=true):0<n:=by
 have:1≤n:=by simpa [Nat.blt,Nat.ble_eq]using h
 exact this

theorem structF_spec (tt: ∀t i,look T.tt t=some i→mkTI P t=some i) {s f off:Nat} {fi:TInf} (h:structF T s f=some (off,fi)):
  ∃(fa:Array Field) (fl:Field),P.underlying s=some (.struct fa)∧fa[f]? =some fl∧fl.offset=off∧mkTI P fl.type=some fi∧0<fi.size:=by
 unfold structF at h
 split at h
 ·rename_i i hi
  obtain⟨inf,d,z,h1,h2,h3,h4,h5,h6,h7⟩:=mkTI_spec (tt _ _ hi)
  split at h
  ·rename_i fs hd
   rw[hd]at h6
   obtain⟨fa,rfl,hfs⟩:=tdOf_struct h6
   subst hfs
   split at h
   ·rename_i o ft hf
    split at h
    ·rename_i fi' hfi
     cases hpos:Nat.blt 0 fi'.size with
     |false=>rw[hpos]at h;cases h
     |true=>
     rw[hpos]at h
     have hpos':0<fi'.size:=blt_pos hpos
     injection h with h
     injection h with h8 h9
     subst h8 h9
     rw[List.getElem?_map]at hf
     cases hx:fa.toList[f]? with
     |none=>rw[hx]at hf;cases hf
     |some fl=>
      rw[hx]at hf
      simp only[Option.map_some,Option.some.injEq,Prod.mk.injEq]at hf
      obtain⟨rfl,rfl⟩:=hf
      exact⟨fa,fl,h2,by simpa using hx,rfl,tt _ _ hfi,hpos'⟩
    ·cases h
   ·cases h
  ·cases h
 ·cases h


theorem q_fieldAddr (tt: ∀t i,look T.tt t=some i→mkTI P t=some i) {s f:Nat} {x:AV} {v:Value} {k:AV→Prop}
  (ho:MR w O h ι base) (hr:ARep w O ι x v) (hx:x.live h) (hk:qfieldAddr T s x f h k):Yields P w O h ι (Instr.fieldAt s v f) k:=by
 unfold qfieldAddr at hk
 split at hk
 ·rename_i off fi hs
  obtain⟨fa,fl,h1,h2,h3,h4,h5⟩:=structF_spec tt hs
  obtain⟨inf,g1,g2,g3,_⟩:=info_of h4
  have run: ∀a:Addr,(Instr.fieldAt s (.pointer (some a)) f).run P w= .ok (.pointer (some (a.add off))) w:=by
   intro a
   simp[Instr.fieldAt,run_underlying h1,h2,Instr.sureAddr,fieldPlace,run_size g1,h3]
   intro hz;omega
  split at hk
  ·obtain⟨a,rfl,hp⟩:=hr
   exact Yields.data hk (run a) ⟨_,rfl,hp.drop off⟩
  ·obtain⟨b,hb,rfl⟩:=hr
   exact Yields.same hk (by exact hx) (run _) ⟨b,hb,by rw[add_plain]⟩
  ·obtain⟨b,n,c,hb,rfl⟩:=hr
   exact Yields.same hk (by exact hx) (run _) ⟨b,n,c,hb,by rw[add_plain,Nat.add_assoc]⟩
  ·obtain⟨b,n,c,hb,rfl⟩:=hr
   exact Yields.same hk (by exact hx) (run _) ⟨b,n,c,hb,by rw[add_plain,Nat.add_assoc]⟩
  ·obtain⟨b,hb,rfl⟩:=hr
   exact Yields.same hk (by exact hx) (run _) ⟨b,hb,by rw[add_plain]⟩
  ·split at hk
   ·rename_i K j _ s' ms hid
    split at hk
    ·rename_i cs hal
     obtain⟨e1,b,e2⟩:=ref_box ho hid hal hr
     subst e2
     refine Yields.same hk ?_ (run _) ⟨b,e1.symm,by rw[add_plain,Nat.zero_add]⟩
     simp[AV.live,AV.ids,AV.mids,(bal_box hid hal).1]
    ·exact hk.elim
   ·exact hk.elim
  ·exact hk.elim
 ·exact hk.elim

theorem run_part {t:Nat} {i:TInf} (hi:mkTI P t=some i) {ds:List D} {us:Array Value} {off:Nat} (hl:LRep w O ds us.toList) {k:AV→Prop} (hk:cellsAt i (ds.drop off) k):
  Yields P w O h ι (part t us off) k:=by
 obtain⟨inf,d,z,h1,h2,h3,h4,h5,h6,h7⟩:=mkTI_spec hi
 unfold cellsAt at hk
 have hagg:(isAgg t).run P w= .ok i.desc.agg w:=by
  rw[←h6,tdOf_agg]
  unfold isAgg
  simp only[Sem.run_bind,run_underlying h2]
  cases d<;>rfl
 cases ha:i.desc.agg with
 |true=>
  rw[ha]at hk hagg
  simp only[cond_true]at hk
  cases hb:Nat.ble i.size (ds.drop off).length with
  |false=>rw[hb]at hk;exact hk.elim
  |true=>
   rw[hb]at hk
   simp only[cond_true]at hk
   refine Yields.data (v:= .agg (us.extract off (off+i.size))) hk ?_ ⟨_,rfl, ?_⟩
   ·unfold part
    simp[hagg,run_size h1,h4]
   ·have:=(hl.drop off).take i.size
    simpa [List.extract_eq_take_drop]using this
 |false=>
  rw[ha]at hk hagg
  simp only[cond_false]at hk
  cases hds:ds.drop off with
  |nil=>rw[hds]at hk;exact hk.elim
  |cons d ds'=>
   rw[hds]at hk
   have:=hl.drop off
   rw[hds]at this
   obtain⟨u,us',e1,e2,e3⟩:=this
   have hu:us[off]? =some u:=by
    have:=congrArg (fun l=>l[0]?) e1
    simp at this
    exact this
   refine Yields.data (v:=u) hk ?_ e2
   unfold part
   simp[hagg,hu]

theorem q_field (tt: ∀t i,look T.tt t=some i→mkTI P t=some i) {s f:Nat} {x:AV} {v:Value} {k:AV→Prop}
  (hr:ARep w O ι x v) (hk:qfield T s x f k):Yields P w O h ι (Instr.field s v f) k:=by
 unfold qfield at hk
 split at hk
 ·rename_i off fi hs
  obtain⟨fa,fl,h1,h2,h3,h4,h5⟩:=structF_spec tt hs
  split at hk
  ·obtain⟨us,rfl,hl⟩:=hr
   have:=run_part (h:=h) (O:=O) (ι:=ι) h4 hl hk
   simpa [Instr.field,run_underlying h1,h2,asAgg,h3,Yields]using this
  ·exact hk.elim
 ·exact hk.elim


theorem SRep.cut {t:Ty} {xs:List t.El} {a:Option Addr} {c:Nat} (hs:SRep w O t xs (.slice a xs.length c)) {l r:Int} (h0:0≤l) (h1:l≤r) (h2:r≤xs.length) (m:Nat) (hm:r≤m):
  SRep w O t (sub xs l r) (.slice (if m=l.toNat then a else a.map (·.add (l.toNat*t.size))) (r.toNat-l.toNat) (m-l.toNat)):=by
 obtain⟨a',c',e,hc,hcell⟩:=hs
 injection e with e1 e2 e3
 subst e1 e3
 have hlen:(sub xs l r).length=r.toNat-l.toNat:=by simp[sub];omega
 refine⟨_,_,by rw[hlen],by rw[hlen];omega,fun hp=> ?_⟩
 rw[hlen]at hp
 obtain⟨ad,ha,hcell2⟩:=hcell (by omega)
 subst ha
 rw[if_neg (by omega)]
 refine⟨ad.add (l.toNat*t.size),rfl,fun j hj=> ?_⟩
 rw[hlen]at hj
 have hx:(sub xs l r)[j]=xs[l.toNat+j]'(by omega):=by simp[sub]
 rw[hx]
 refine ERep.imp (Keeps.refl w O) t _ _ _ _ _ (fun i u hi hu=> ?_) (hcell2 (l.toNat+j) (by omega))
 rw[add_add]
 have e:l.toNat*t.size+(j*t.size+i)=(l.toNat+j)*t.size+i:=by rw[Nat.add_mul];omega
 rw[e];exact hu

theorem run_bound {kd:IntKind} {i:Int} {y:Nat} {code:BoundsCode} (h0:0≤i) (h1:i≤y):(Instr.sliceBound (.int kd i) y code).run P w= .ok i.toNat w:=by
 simp[Instr.sliceBound,asIntOf,h0,h1]

theorem q_slice (tt: ∀t i,look T.tt t=some i→mkTI P t=some i) {t:Nat} {x:AV} {v:Value} {lo hi mx:Option AV} {vlo vhi vmx:Option Value} {k:AV→Prop}
  (hr:ARep w O ι x v) (hlo: ∀a,lo=some a→ ∃u,vlo=some u∧ARep w O ι a u) (hlo':lo=none→vlo=none)
  (hhi: ∀a,hi=some a→ ∃u,vhi=some u∧ARep w O ι a u) (hhi':hi=none→vhi=none)
  (hmx: ∀a,mx=some a→ ∃u,vmx=some u∧ARep w O ι a u) (hmx':mx=none→vmx=none)
  (hk:qslice T t x lo hi mx k):Yields P w O h ι (Instr.sliceAt t v vlo vhi vmx) k:=by
 unfold qslice at hk
 split at hk
 ·rename_i inf hs
  obtain⟨inf',d,z,h1,h2,h3,h4,h5,h6,h7⟩:=mkTI_spec (tt _ _ hs)
  split at hk
  ·rename_i s hd
   rw[hd]at h6
   rw[tdOf_str h6]at h2
   have hr':v= .string s:=hr
   subst hr'
   split at hk
   ·have:=hmx' rfl
    subst this
    unfold cutOf at hk
    split at hk
    ·obtain rfl:=hlo' rfl
     obtain rfl:=hhi' rfl
     refine Yields.data hk (v:= .string (s.extract 0 s.size)) ?_ (by simp[VRep])
     simp[Instr.sliceAt,run_underlying h2,Instr.slice,Instr.sliceBounds]
    ·rename_i kd l
     obtain⟨u,rfl,hu⟩:=hlo _ rfl
     have hu':u= .int kd l:=hu
     subst hu'
     obtain rfl:=hhi' rfl
     obtain⟨h0,h9,hk⟩:=hk
     refine Yields.data hk (v:= .string (s.extract l.toNat s.size)) ?_ (by simp[VRep])
     simp[Instr.sliceAt,run_underlying h2,Instr.slice,Instr.sliceBounds,run_bound h0 h9]
    ·rename_i kd r
     obtain⟨u,rfl,hu⟩:=hhi _ rfl
     have hu':u= .int kd r:=hu
     subst hu'
     obtain rfl:=hlo' rfl
     obtain⟨h0,h9,hk⟩:=hk
     refine Yields.data hk (v:= .string (s.extract 0 r.toNat)) ?_ (by simp[VRep])
     simp[Instr.sliceAt,run_underlying h2,Instr.slice,Instr.sliceBounds,run_bound h0 h9]
    ·rename_i kd l kd' r
     obtain⟨u,rfl,hu⟩:=hlo _ rfl
     have hu':u= .int kd l:=hu
     subst hu'
     obtain⟨u,rfl,hu⟩:=hhi _ rfl
     have hu':u= .int kd' r:=hu
     subst hu'
     obtain⟨h0,h9,h10,hk⟩:=hk
     refine Yields.data hk (v:= .string (s.extract l.toNat r.toNat)) ?_ (by simp[VRep])
     have hr0:0≤r:=by omega
     have hl':l≤(r.toNat:Int):=by omega
     simp[Instr.sliceAt,run_underlying h2,Instr.slice,Instr.sliceBounds,run_bound hr0 h10,run_bound h0 hl']
    ·exact hk.elim
   ·exact hk.elim
  ·rename_i e f t' xs hd
   rw[hd]at h6
   rw[tdOf_slice h6]at h2
   split at hk
   ·rename_i ie he
    obtain⟨infe,g1,g2,g3,_⟩:=info_of (tt _ _ he)
    cases hb:Nat.beq ie.size t'.size with
    |false=>rw[hb]at hk;exact hk.elim
    |true=>
     rw[hb]at hk
     simp only[cond_true]at hk
     have hsz:=Nat.eq_of_beq_eq_true hb
     obtain⟨hsr,hfull⟩:=hr
     obtain⟨a,c,rfl,hc,hcell⟩:=hsr
     have hsr:SRep w O t' xs (.slice a xs.length c):=⟨a,c,rfl,hc,hcell⟩
     have run: ∀(l r m:Int),0≤l→l≤r→r≤m→m≤c→ ∀(vlo vhi vmx:Option Value),
       ((Instr.sliceBounds true xs.length c vlo vhi vmx).run P w= .ok (l.toNat,r.toNat,m.toNat) w)→
       (Instr.sliceAt t (.slice a xs.length c) vlo vhi vmx).run P w= .ok (.slice (if m.toNat=l.toNat then a else a.map (·.add (l.toNat*t'.size))) (r.toNat-l.toNat) (m.toNat-l.toNat)) w:=by
      intro l r m _ _ _ _ vlo vhi vmx hb
      simp[Instr.sliceAt,run_underlying h2,Instr.slice,hb,run_size g1,g2,hsz]
     split at hk
     ·have:=hmx' rfl
      subst this
      unfold cutOf at hk
      split at hk
      ·obtain rfl:=hlo' rfl
       obtain rfl:=hhi' rfl
       have hcut:=hsr.cut (l:=0) (r:=xs.length) (by omega) (by omega) (by omega) c (by omega)
       refine Yields.data hk (run 0 xs.length c (by omega) (by omega) (by omega) (by omega) _ _ _ (by simp[Instr.sliceBounds])) ⟨by simpa using hcut,fun h=>by cases h⟩
      ·rename_i kd l
       obtain⟨u,rfl,hu⟩:=hlo _ rfl
       have hu':u= .int kd l:=hu
       subst hu'
       obtain rfl:=hhi' rfl
       obtain⟨h0,h9,hk⟩:=hk
       have hcut:=hsr.cut (l:=l) (r:=xs.length) h0 h9 (by omega) c (by omega)
       refine Yields.data hk (run l xs.length c h0 h9 (by omega) (by omega) _ _ _ (by simp[Instr.sliceBounds,run_bound h0 h9])) ⟨by simpa using hcut,fun h=>by cases h⟩
      ·rename_i kd r
       obtain⟨u,rfl,hu⟩:=hhi _ rfl
       have hu':u= .int kd r:=hu
       subst hu'
       obtain rfl:=hlo' rfl
       obtain⟨h0,h9,hk⟩:=hk
       have hcut:=hsr.cut (l:=0) (r:=r) (by omega) h0 h9 c (by omega)
       refine Yields.data hk (run 0 r c (by omega) h0 (by omega) (by omega) _ _ _ (by simp[Instr.sliceBounds,run_bound (P:=P) (w:=w) (kd:=kd) h0 (show r≤(c:Int)by omega)])) ⟨by simpa using hcut,fun h=>by cases h⟩
      ·rename_i kd l kd' r
       obtain⟨u,rfl,hu⟩:=hlo _ rfl
       have hu':u= .int kd l:=hu
       subst hu'
       obtain⟨u,rfl,hu⟩:=hhi _ rfl
       have hu':u= .int kd' r:=hu
       subst hu'
       obtain⟨h0,h9,h10,hk⟩:=hk
       have hcut:=hsr.cut (l:=l) (r:=r) h0 h9 h10 c (by omega)
       have hr0:0≤r:=by omega
       have hl':l≤(r.toNat:Int):=by omega
       refine Yields.data hk (run l r c h0 h9 (by omega) (by omega) _ _ _ (by simp[Instr.sliceBounds,run_bound (P:=P) (w:=w) (kd:=kd') hr0 (show r≤(c:Int)by omega),run_bound h0 hl'])) ⟨by simpa using hcut,fun h=>by cases h⟩
      ·exact hk.elim
     ·rename_i kdm m
      obtain⟨u,rfl,hu⟩:=hmx _ rfl
      have hu':u= .int kdm m:=hu
      subst hu'
      unfold cutOf3 at hk
      have fullc: ∀l r:Int,0≤l→l≤r→m=r→ ∃a' n,Value.slice (if m.toNat=l.toNat then a else a.map (·.add (l.toNat*t'.size))) (r.toNat-l.toNat) (m.toNat-l.toNat)= .slice a' n n:=
       fun l r _ _ e=>⟨_,_,by rw[e]⟩
      split at hk
      ·rename_i kd r
       obtain⟨u,rfl,hu⟩:=hhi _ rfl
       have hu':u= .int kd r:=hu
       subst hu'
       obtain rfl:=hlo' rfl
       obtain⟨h0,h9,hmr,hk⟩:=hk
       subst hmr
       have hcut:=hsr.cut (l:=0) (r:=m) (by omega) h0 h9 m.toNat (by omega)
       refine Yields.data hk (run 0 m m (by omega) h0 (by omega) (by omega) _ _ _ (by simp[Instr.sliceBounds,run_bound (P:=P) (w:=w) (kd:=kdm) h0 (show m≤(c:Int)by omega),run_bound (P:=P) (w:=w) (kd:=kd) h0 (show m≤(m.toNat:Int)by omega)])) ⟨by simpa using hcut,fun _=>fullc 0 m (by omega) h0 rfl⟩
      ·rename_i kd l kd' r
       obtain⟨u,rfl,hu⟩:=hlo _ rfl
       have hu':u= .int kd l:=hu
       subst hu'
       obtain⟨u,rfl,hu⟩:=hhi _ rfl
       have hu':u= .int kd' r:=hu
       subst hu'
       obtain⟨h0,h9,h10,hmr,hk⟩:=hk
       subst hmr
       have hcut:=hsr.cut (l:=l) (r:=m) h0 h9 h10 m.toNat (by omega)
       have hr0:0≤m:=by omega
       have hl':l≤(m.toNat:Int):=by omega
       refine Yields.data hk (run l m m h0 h9 (by omega) (by omega) _ _ _ (by simp[Instr.sliceBounds,run_bound (P:=P) (w:=w) (kd:=kdm) hr0 (show m≤(c:Int)by omega),run_bound (P:=P) (w:=w) (kd:=kd') hr0 (show m≤(m.toNat:Int)by omega),run_bound h0 hl'])) ⟨by simpa using hcut,fun _=>fullc l m h0 h9 rfl⟩
      ·exact hk.elim
     ·exact hk.elim
   ·exact hk.elim
  ·exact hk.elim
 ·exact hk.elim

theorem q_win (tt: ∀t i,look T.tt t=some i→mkTI P t=some i) (ho:MR w O h ι base) {t id:Nat} {v:Value} {lo hi mx:Option AV} {vlo vhi vmx:Option Value} {k:AV→Prop}
  (hr:v=ι id) (hlo: ∀a,lo=some a→ ∃u,vlo=some u∧ARep w O ι a u) (hhi: ∀a,hi=some a→ ∃u,vhi=some u∧ARep w O ι a u) (hmx':mx=none→vmx=none)
  (hk:qwin T t id lo hi mx h k):Yields P w O h ι (Instr.sliceAt t v vlo vhi vmx) k:=by
 unfold qwin at hk
 split at hk
 ·rename_i e t' xs kd l kd' r hid
  split at hk
  ·rename_i e' ie hs
   obtain⟨hu,hm⟩:=sliceE_spec tt hs
   obtain⟨inf,h1,h2,h3,_⟩:=info_of hm
   cases hb:Nat.beq ie.size t'.size with
   |false=>rw[hb]at hk;exact hk.elim
   |true=>
    rw[hb]at hk
    obtain⟨h0,h9,h10,hk⟩:=hk
    have hsz:=Nat.eq_of_beq_eq_true hb
    obtain rfl:=hmx' rfl
    obtain⟨u,rfl,hu1⟩:=hlo _ rfl
    have hu1':u= .int kd l:=hu1
    subst hu1'
    obtain⟨u,rfl,hu2⟩:=hhi _ rfl
    have hu2':u= .int kd' r:=hu2
    subst hu2'
    obtain⟨vs,ho1,ho2⟩:=ho.ho id _ hid
    rcases ho1.2 with⟨_,h0'⟩|⟨g,cap,cur,hv,hg,hh,hnc,_⟩
    ·omega
    ·have hr0:0≤r:=by omega
     have hl':l≤(r.toNat:Int):=by omega
     refine Yields.same (av:= .win id t'.size l (r-l)) (v:= .slice (if cap=l.toNat then some ⟨g,0,none⟩else some ⟨g,l.toNat*t'.size,none⟩) (r-l).toNat (cap-l.toNat)) hk (by simp[AV.live,AV.ids,AV.mids,hid]) ?_ ?_
     ·subst hr
      rw[hv]
      simp[Instr.sliceAt,run_underlying hu,Instr.slice,Instr.sliceBounds,run_bound (P:=P) (w:=w) (kd:=kd') hr0 (show r≤(cap:Int)by omega),run_bound (P:=P) (w:=w) (kd:=kd) h0 hl',run_size h1,h2,hsz,add_plain]
      have:r.toNat-l.toNat=(r-l).toNat:=by omega
      rw[this]
     ·refine⟨g,xs.length,cap,cap-l.toNat,hv, ?_,by omega,h0,by omega,by omega⟩
      rw[if_neg (by omega)]
  ·exact hk.elim
 ·exact hk.elim

end
end Fw
end
section
set_option linter.unusedVariables false
set_option linter.unusedSimpArgs false
namespace Fw
open Go Go.RowKit

section
variable {P : Program} {T : Ctx} {w : World} {O : OO} {h : Hp} {ι : Nat → Value} {base : Nat}

theorem equalIn_ptr (n:Nat) {t e:TypeId} (p:Option Addr) (hu:P.underlying t=some (.pointer e)):(Op.equalIn (n+1) t (.pointer p) (.pointer none)).run P w= .ok p.isNone w:=by
 cases p<;>simp[Op.equalIn,run_underlying hu]
theorem equal_ptr {t e:TypeId} (p:Option Addr) (hu:P.underlying t=some (.pointer e)):(Op.equal t (.pointer p) (.pointer none)).run P w= .ok p.isNone w:=equalIn_ptr 9999 p hu
theorem equalIn_iface (n:Nat) {t t':TypeId} {ms:Array (String×TypeId)} (u:Value) (hu:P.underlying t=some (.interface ms)):(Op.equalIn (n+1) t (.iface t' u) .nilIface).run P w= .ok false w:=by
 simp[Op.equalIn,run_underlying hu]
theorem equal_iface {t t':TypeId} {ms:Array (String×TypeId)} (u:Value) (hu:P.underlying t=some (.interface ms)):(Op.equal t (.iface t' u) .nilIface).run P w= .ok false w:=equalIn_iface 9999 u hu
theorem equalIn_func (n:Nat) {t:TypeId} {ps rs:Array TypeId} {va:Bool} (f:Fn) (a b:Array Value) (hu:P.underlying t=some (.func ps rs va)):(Op.equalIn (n+1) t (.func f a b) .nilFunc).run P w= .ok false w:=by
 simp[Op.equalIn,run_underlying hu]
theorem equal_func {t:TypeId} {ps rs:Array TypeId} {va:Bool} (f:Fn) (a b:Array Value) (hu:P.underlying t=some (.func ps rs va)):(Op.equal t (.func f a b) .nilFunc).run P w= .ok false w:=equalIn_func 9999 f a b hu
theorem equalIn_func0 (n:Nat) {t:TypeId} {ps rs:Array TypeId} {va:Bool} (hu:P.underlying t=some (.func ps rs va)):(Op.equalIn (n+1) t .nilFunc .nilFunc).run P w= .ok true w:=by
 simp[Op.equalIn,run_underlying hu]
theorem equal_func0 {t:TypeId} {ps rs:Array TypeId} {va:Bool} (hu:P.underlying t=some (.func ps rs va)):(Op.equal t .nilFunc .nilFunc).run P w= .ok true w:=equalIn_func0 9999 hu
theorem equalIn_slice0 (n:Nat) {t e:TypeId} (hu:P.underlying t=some (.slice e)):(Op.equalIn (n+1) t (.slice none 0 0) (.slice none 0 0)).run P w= .ok true w:=by
 simp[Op.equalIn,run_underlying hu]
theorem equal_slice0 {t e:TypeId} (hu:P.underlying t=some (.slice e)):(Op.equal t (.slice none 0 0) (.slice none 0 0)).run P w= .ok true w:=equalIn_slice0 9999 hu
theorem equalIn_slice1 (f:Nat) {t e:TypeId} {ad:Addr} {n c:Nat} (hu:P.underlying t=some (.slice e)):(Op.equalIn (f+1) t (.slice (some ad) n c) (.slice none 0 0)).run P w= .ok false w:=by
 simp[Op.equalIn,run_underlying hu]
theorem equal_slice1 {t e:TypeId} {ad:Addr} {n c:Nat} (hu:P.underlying t=some (.slice e)):(Op.equal t (.slice (some ad) n c) (.slice none 0 0)).run P w= .ok false w:=equalIn_slice1 9999 hu

def Cmps (P:Program) (w:World) (t:Nat) (vx vy:Value) (b:Bool):Prop:=
 ∀xo yo:Operand,(do eqGuard .eql t xo yo vx vy;binOp .eql t vx vy:Sem Value).run P w= .ok (.bool b) w∧
  (do eqGuard .neq t xo yo vx vy;binOp .neq t vx vy:Sem Value).run P w= .ok (.bool (!b)) w
theorem cmps_ptr {t e:TypeId} (p:Option Addr) (hu:P.underlying t=some (.pointer e)):Cmps P w t (.pointer p) (.pointer none) p.isNone:=by
 intro xo yo
 have hk:=equal_ptr (P:=P) (w:=w) p hu
 constructor<;>cases p<;>simp[eqGuard,binOp]<;>simp_all
theorem cmps_iface {t t':TypeId} {ms:Array (String×TypeId)} (u:Value) (hu:P.underlying t=some (.interface ms)):Cmps P w t (.iface t' u) .nilIface false:=by
 intro xo yo
 have hk:=equal_iface (P:=P) (w:=w) (t':=t') u hu
 constructor<;>simp[eqGuard,binOp,hk]
theorem cmps_func {t:TypeId} {ps rs:Array TypeId} {va:Bool} (f:Fn) (a b:Array Value) (hu:P.underlying t=some (.func ps rs va)):Cmps P w t (.func f a b) .nilFunc false:=by
 intro xo yo
 have hk:=equal_func (P:=P) (w:=w) f a b hu
 constructor<;>simp[eqGuard,binOp,hk]
theorem cmps_func0 {t:TypeId} {ps rs:Array TypeId} {va:Bool} (hu:P.underlying t=some (.func ps rs va)):Cmps P w t .nilFunc .nilFunc true:=by
 intro xo yo
 have hk:=equal_func0 (P:=P) (w:=w) hu
 constructor<;>simp[eqGuard,binOp,hk]
theorem cmps_slice0 {t e:TypeId} (hu:P.underlying t=some (.slice e)):Cmps P w t (.slice none 0 0) (.slice none 0 0) true:=by
 intro xo yo
 have hk:=equal_slice0 (P:=P) (w:=w) hu
 constructor<;>simp[eqGuard,binOp,hk]

theorem cmps_slice1 {t e:TypeId} {ad:Addr} {n c:Nat} (hu:P.underlying t=some (.slice e)):Cmps P w t (.slice (some ad) n c) (.slice none 0 0) false:=by
 intro xo yo
 have hk:=equal_slice1 (P:=P) (w:=w) (ad:=ad) (n:=n) (c:=c) hu
 constructor<;>simp[eqGuard,binOp,hk]
theorem eqNil_spec {d:TypeDesc} {t:Nat} (hu:P.underlying t=some d) {x y:AV} {b:Bool} (h:eqNil (tdOf d) x y=some b) {vx vy:Value}
  (hx:ARep w O ι x vx) (hy:ARep w O ι y vy):Cmps P w t vx vy b:=by
 cases d with
 |pointer e=>
  simp only[tdOf]at h
  unfold eqNil at h
  split at h<;>(try (rename_i h1;cases h1;done))<;>(try (cases h;done))
  ·have hy':vy= .pointer none:=hy
   subst hy'
   have key:=fun p=>cmps_ptr (P:=P) (w:=w) (t:=t) (e:=e) p hu
   split at h<;>(try (cases h;done))<;>injection h with h<;>subst h
   ·obtain⟨b,_,rfl⟩:=hx;exact key _
   ·obtain⟨b,n,c,_,rfl⟩:=hx;exact key _
   ·obtain⟨b,rfl,_⟩:=hx;exact key _
   ·have hx':vx= .pointer none:=hx
    subst hx';exact key _
 |interface ms=>
  simp only[tdOf]at h
  unfold eqNil at h
  split at h<;>(try (rename_i h1;cases h1;done))<;>(try (cases h;done))
  ·injection h with h
   subst h
   obtain⟨u,rfl,_⟩:=hx
   have hy':vy= .nilIface:=hy
   subst hy'
   exact cmps_iface _ hu
 |func ps rs v=>
  simp only[tdOf]at h
  unfold eqNil at h
  split at h<;>(try (rename_i h1;cases h1;done))<;>(try (cases h;done))
  ·have hy':vy= .nilFunc:=hy
   subst hy'
   split at h<;>(try (cases h;done))<;>injection h with h<;>subst h
   ·obtain⟨b,rfl,_⟩:=hx;exact cmps_func _ _ _ hu
   ·obtain⟨b,rfl,_⟩:=hx;exact cmps_func _ _ _ hu
   ·have hx':vx= .nilFunc:=hx
    subst hx';exact cmps_func0 hu
 |slice e=>
  simp only[tdOf]at h
  unfold eqNil at h
  split at h<;>(try (rename_i h1;cases h1;done))<;>(try (cases h;done))
  ·injection h with h
   subst h
   have hx':vx= .slice none 0 0:=hx
   have hy':vy= .slice none 0 0:=hy
   subst hx' hy'
   exact cmps_slice0 hu
 |_=>simp[tdOf,eqNil]at h

theorem q_bin (tt: ∀t i,look T.tt t=some i→mkTI P t=some i) {op:BinOp} {t:Nat} {x y:AV} {xo yo:Operand} {vx vy:Value} {k:AV→Prop}
  (hx:ARep w O ι x vx) (hy:ARep w O ι y vy) (hk:qbin T op t x y k):
  Yields P w O h ι (do eqGuard op t xo yo vx vy;binOp op t vx vy) k:=by
 unfold qbin at hk
 split at hk
 ·rename_i kd a kd' b
  have hx':vx= .int kd a:=hx
  have hy':vy= .int kd' b:=hy
  subst hx' hy'
  cases hb:(isShift op||ikb kd kd')with
  |false=>rw[hb]at hk;exact hk.elim
  |true=>
   rw[hb]at hk
   simp only[cond_true]at hk
   obtain⟨d,v,h1,h2,h3⟩:=q_int (w:=w) (O:=O) (P:=P) (t:=t) hb hk
   refine Yields.data h1 (v:=v) ?_ h2
   have hg:(eqGuard op t xo yo (.int kd a) (.int kd' b)).run P w= .ok () w:=by
    unfold eqGuard
    cases op<;>simp
   simp[hg,h3]
 ·rename_i a b
  have hx':vx= .string a:=hx
  have hy':vy= .string b:=hy
  subst hx' hy'
  have hg:(eqGuard op t xo yo (.string a) (.string b)).run P w= .ok () w:=by
   unfold eqGuard
   cases op<;>simp
  split at hk
  ·refine Yields.data hk.2 (v:= .string (a++b)) ?_ rfl
   have: ¬(((a.size+b.size:Nat):Int)>IntKind.i64.max):=by
    have:=hk.1
    simp[IntKind.max,IntKind.signed,IntKind.bits];omega
   simp only[Sem.run_bind,hg,Result.andThen,binOp,Op.stringOp,this,if_false,Sem.run_pure]
  ·exact Yields.data hk (v:= .bool _) (by simp[hg,binOp,Op.stringOp]) rfl
  ·exact Yields.data hk (v:= .bool _) (by simp[hg,binOp,Op.stringOp]) rfl
  ·exact hk.elim
 ·split at hk
  ·rename_i i hs
   obtain⟨inf,d,z,h1,h2,h3,h4,h5,h6,h7⟩:=mkTI_spec (tt _ _ hs)
   split at hk
   ·rename_i a b hd _ _
    have hx':vx= .bool a:=hx
    have hy':vy= .bool b:=hy
    subst hx' hy'
    have hg:(eqGuard op t xo yo (.bool a) (.bool b)).run P w= .ok () w:=by
     unfold eqGuard
     cases op<;>simp
    have hdb:d= .bool:=by
     rw[hd]at h6
     cases d<;>simp[tdOf]at h6;rfl
    subst hdb
    have he:=run_equal_bool (P:=P) w t a b h2
    split at hk
    ·exact Yields.data hk (v:= .bool _) (by simp[hg,binOp,he]) rfl
    ·exact Yields.data hk (v:= .bool _) (by simp[hg,binOp,he]) rfl
    ·exact hk.elim
   ·rename_i e f t' xs hd _ _
    obtain⟨⟨a,c,rfl,hc,hr⟩,_⟩:=(show SRep w O t' xs vx∧_ from hx)
    have hy':vy= .slice none 0 0:=hy
    subst hy'
    have hu:P.underlying t=some (.slice e):=by
     rw[h2];congr 1
     rw[hd]at h6
     cases d<;>simp[tdOf]at h6
     rw[h6]
    split at hk
    ·obtain⟨hl,hk⟩:=hk
     obtain⟨ad,rfl,_⟩:=hr hl
     exact Yields.data hk (v:= .bool false) (cmps_slice1 hu xo yo).1 rfl
    ·obtain⟨hl,hk⟩:=hk
     obtain⟨ad,rfl,_⟩:=hr hl
     exact Yields.data hk (v:= .bool true) (cmps_slice1 hu xo yo).2 rfl
    ·exact hk.elim
   ·rw[←h6]at hk
    split at hk
    ·rename_i b he
     exact Yields.data hk (v:= .bool b) (eqNil_spec (P:=P) h2 he hx hy xo yo).1 rfl
    ·rename_i b he
     exact Yields.data hk (v:= .bool (!b)) (eqNil_spec (P:=P) h2 he hx hy xo yo).2 rfl
    ·exact hk.elim
  ·exact hk.elim


def spl (vs:List Value) (off:Nat) (us:List Value):List Value:=vs.take off++us++vs.drop (off+us.length)

theorem spl_nil (vs:List Value) (off:Nat):spl vs off []=vs:=by simp[spl]
theorem spl_length {vs:List Value} {off:Nat} {us:List Value} (h:off+us.length≤vs.length):(spl vs off us).length=vs.length:=by simp[spl];omega
theorem spl_cons {vs:List Value} {off:Nat} {u:Value} {us:List Value} (h:off+us.length+1≤vs.length):spl (vs.set off u) (off+1) us=spl vs off (u::us):=by
 refine List.ext_getElem? fun i=> ?_
 simp only[spl,List.length_cons,List.getElem?_append,List.getElem?_take,List.getElem?_drop,List.getElem?_set,List.length_append,List.length_take,List.length_set]
 have e1:min (off+1) vs.length=off+1:=by omega
 have e2:min off vs.length=off:=by omega
 rw[e1,e2]
 rcases Nat.lt_trichotomy i off with h1|h1|h1
 ·simp[show i<off+1+us.length by omega,show i<off+1 by omega,show i<off+(us.length+1)by omega,h1,show off≠i by omega]
 ·subst h1
  simp[show i<i+1+us.length by omega,show i<i+(us.length+1)by omega,show i<vs.length by omega]
 ·by_cases h2:i<off+1+us.length
  ·have e3:i-off=(i-(off+1))+1:=by omega
   simp[h2,show¬i<off+1 by omega,show i<off+(us.length+1)by omega,show¬i<off by omega,e3]
  ·simp[h2,show¬i<off+(us.length+1)by omega,show off≠off+1+us.length+(i-(off+1+us.length))by omega]
   congr 1
   omega

theorem fold_spl: ∀(us:List Value) (k off:Nat) (cells:Array Value),off+k+us.length≤cells.size→
  ((us.zipIdx k).foldl (fun(cs:Array Value) (c:Value×Nat)=>cs.setIfInBounds (off+c.2) c.1) cells).toList=spl cells.toList (off+k) us
 |[],k,off,cells,_=>by simp[spl_nil]
 |u::us,k,off,cells,h=>by
  simp only[List.zipIdx_cons,List.foldl_cons]
  rw[fold_spl us (k+1) off _ (by simp at h⊢;omega)]
  rw[Array.toList_setIfInBounds, ←Nat.add_assoc]
  exact spl_cons (by simp at h⊢;omega)

theorem LRep.splice {ds es:List D} {vs us:List Value} (h:LRep w O ds vs) (k:LRep w O es us) (off:Nat):
  LRep w O (ds.take off++es++ds.drop (off+es.length)) (spl vs off us):=by
 unfold spl
 rw[k.length]
 exact((h.take off).append k).append (h.drop _)

theorem D.cells_rep {d:D} {v:Value} (h:VRep w O d v) (hn: ∀a,v= .agg a→ ∃cs,d= .agg cs):LRep w O d.cells v.cells.toList:=by
 cases d with
 |agg cs=>obtain⟨vs,rfl,h2⟩:=h;exact h2
 |_=>
  have e:v.cells= #[v]:=by
   cases v<;>try rfl
   obtain⟨cs,hc⟩:=hn _ rfl
   cases hc
  rw[e]
  exact⟨v,[],rfl,h,rfl⟩

theorem solid_agg {d:D} {v:Value} (h:VRep w O d v) (hs:d.solid=true): ∀a,v= .agg a→ ∃cs,d= .agg cs:=by
 intro a ha
 subst ha
 cases d with
 |agg cs=>exact⟨cs,rfl⟩
 |slc f t xs=>obtain⟨⟨a,c,h1,_⟩,_⟩:=h;cases h1
 |iface t d=>obtain⟨u,h1,_⟩:=h;cases h1
 |rptr cs=>obtain⟨u,h1,_⟩:=h;cases h1
 |clo f cs=>obtain⟨u,h1,_⟩:=h;cases h1
 |bfn f cs=>obtain⟨u,h1,_⟩:=h;cases h1
 |val u=>have h':Value.agg a=u:=h;subst h';simp[D.solid]at hs
 |top=>simp[D.solid]at hs
 |ref K j=>have:=h.2;simp[Value.oneCell']at this
 |_=>cases h

theorem D.cells_solid {d:D} {v:Value} (h:VRep w O d v) (hs:d.solid=true):LRep w O d.cells v.cells.toList:=D.cells_rep h (solid_agg h hs)

theorem fill_spec {pl:List (Nat×Nat)} {places:Nat→Option (Nat×Nat)} (hpl: ∀i p,pl[i]? =some p→places i=some p): ∀(ps:List (Nat×D)) (vs:List (Nat×Value)) (cs cs':List D) (cells:Array Value),
  fillD pl cs ps=some cs'→LRep w O cs cells.toList→(ps.length=vs.length∧ ∀(i:Nat) (p:Nat×D) (q:Nat×Value),ps[i]? =some p→vs[i]? =some q→p.1=q.1∧VRep w O p.2 q.2)→
  ∃cells',Instr.fill places cells vs=some cells'∧LRep w O cs' cells'.toList
 |[],vs,cs,cs',cells,h,hl,hp=>by
  have:vs=[]:=List.eq_nil_of_length_eq_zero hp.1.symm
  subst this
  simp only[fillD,Option.some.injEq]at h
  subst h
  exact⟨cells,rfl,hl⟩
 |(i,d)::ps,vs,cs,cs',cells,h,hl,hp=>by
  cases vs with
  |nil=>simp at hp
  |cons q vs=>
   obtain⟨h1,h2⟩:=hp.2 0 _ _ rfl rfl
   obtain⟨i',v⟩:=q
   simp only at h1 h2
   subst h1
   simp only[fillD]at h
   cases hi:pl[i]? with
   |none=>rw[hi]at h;cases h
   |some p=>
    obtain⟨off,sz⟩:=p
    rw[hi]at h
    simp only at h
    cases hc:(d.solid&&Nat.beq d.cells.length sz&&Nat.ble (off+d.cells.length) cs.length)with
    |false=>rw[hc]at h;cases h
    |true=>
     rw[hc]at h
     simp only[cond_true]at h
     simp only[Bool.and_eq_true]at hc
     have hsz:=Nat.eq_of_beq_eq_true hc.1.2
     have hle:=Nat.le_of_ble_eq_true hc.2
     rw[splice_eq]at h
     have hdc:=D.cells_solid h2 hc.1.1
     have hlen:v.cells.size=d.cells.length:=by have:=hdc.length;simpa using this
     have hcl:cells.size=cs.length:=by have:=hl.length;simpa using this
     have hf:(v.cells.zipIdx.foldl (fun cs (c,j)=>cs.setIfInBounds (off+j) c) cells).toList=spl cells.toList off v.cells.toList:=by
      have:=fold_spl v.cells.toList 0 off cells (by simp;omega)
      rw[←Array.foldl_toList,Array.toList_zipIdx]
      simpa using this
     have hl':LRep w O (cs.take off++d.cells++cs.drop (off+d.cells.length)) (v.cells.zipIdx.foldl (fun cs (c,j)=>cs.setIfInBounds (off+j) c) cells).toList:=by
      rw[hf];exact hl.splice hdc off
     obtain⟨cells',e1,e2⟩:=fill_spec hpl ps vs _ cs' _ h hl' ⟨by simpa using hp.1,fun j p q hj hq=>hp.2 (j+1) p q (by simpa using hj) (by simpa using hq)⟩
     refine⟨cells', ?_,e2⟩
     unfold Instr.fill
     simp only[hpl _ _ hi]
     have hno: ¬(v.cells.size≠sz∨off+v.cells.size>cells.size):=by
      rw[hlen,hcl, ←hsz];omega
     rw[if_neg (by simpa using hno)]
     simpa using e1

theorem partsD_spec {env:Operand→AV} {ev:Operand→Value} (he: ∀x,ARep w O ι (env x) (ev x)): ∀(ps:List (Nat×Operand)) (ds:List (Nat×D)),partsD (ps.map fun p=>(p.1,env p.2))=some ds→
  ds.length=ps.length∧ ∀(i:Nat) (p:Nat×D) (q:Nat×Value),ds[i]? =some p→(ps.map fun p=>(p.1,ev p.2))[i]? =some q→p.1=q.1∧VRep w O p.2 q.2
 |[],ds,h=>by simp[partsD]at h;subst h;exact⟨rfl,fun i p q h=>by simp at h⟩
 |(i,x)::ps,ds,h=>by
  simp only[List.map_cons]at h
  cases hx:env x with
  |d y=>
   rw[hx]at h
   simp only[partsD]at h
   cases hr:partsD (ps.map fun p=>(p.1,env p.2))with
   |none=>rw[hr]at h;cases h
   |some r=>
    rw[hr]at h
    injection h with h
    subst h
    obtain⟨h1,h2⟩:=partsD_spec he ps r hr
    refine⟨by simp[h1],fun j p q hj hq=> ?_⟩
    cases j with
    |zero=>
     simp at hj hq
     subst hj hq
     have:=he x
     rw[hx]at this
     exact⟨rfl,this⟩
    |succ j=>exact h2 j p q (by simpa using hj) (by simpa using hq)
  |_=>rw[hx]at h;simp[partsD]at h

theorem sizesF_spec (tt: ∀t i,look T.tt t=some i→mkTI P t=some i): ∀(fa:List Field) (pl:List (Nat×Nat)),sizesF T.tt (fa.map fun f=>(f.offset,f.type))=some pl→
  fa.mapM (fun f=>(P.info? f.type).map fun i=>(f.offset,i.size))=some pl
 |[],pl,h=>by simp[sizesF]at h;subst h;rfl
 |f::fa,pl,h=>by
  simp only[List.map_cons,sizesF]at h
  cases hi:look T.tt f.type with
  |none=>rw[hi]at h;cases h
  |some i=>
   cases hr:sizesF T.tt (fa.map fun f=>(f.offset,f.type))with
   |none=>rw[hi,hr]at h;cases h
   |some r=>
    rw[hi,hr]at h
    injection h with h
    subst h
    obtain⟨inf,g1,g2,g3,_⟩:=info_of (tt _ _ hi)
    have:=sizesF_spec tt fa r hr
    simp[List.mapM_cons,g1,this,g2]

theorem q_build (tt: ∀t i,look T.tt t=some i→mkTI P t=some i) {env:Operand→AV} {ev:Operand→Value} (he: ∀x,ARep w O ι (env x) (ev x)) {t:Nat} {parts:Array (Nat×Operand)} {k:AV→Prop}
  (hk:qbuild T t (parts.toList.map fun p=>(p.1,env p.2)) k):Yields P w O h ι (Instr.build t (parts.map fun(i,x)=>(i,ev x))) k:=by
 unfold qbuild at hk
 split at hk
 ·rename_i i hs
  obtain⟨inf,d,z,h1,h2,h3,h4,h5,h6,h7⟩:=mkTI_spec (tt _ _ hs)
  split at hk
  ·rename_i fs hd
   rw[hd]at h6
   obtain⟨fa,rfl,hfs⟩:=tdOf_struct h6
   subst hfs
   split at hk
   ·rename_i ds hds
    split at hk
    ·rename_i pl hpl
     split at hk
     ·rename_i cs hcs
      obtain⟨p1,p2⟩:=partsD_spec he _ _ hds
      have hz:LRep w O i.zero z.cells.toList:=by rw[←h7];exact constDs_rep w O _
      obtain⟨cells,c1,c2⟩:=fill_spec (w:=w) (O:=O) (pl:=pl) (places:=(pl.toArray[·]?)) (fun i p h=>by simpa using h) ds (parts.toList.map fun p=>(p.1,ev p.2)) i.zero cs z.cells hcs hz ⟨by simp[p1],p2⟩
      refine Yields.data hk (v:= .agg cells) (run_build w t _ cells ?_) ⟨cells,rfl,c2⟩
      unfold Program.built
      have hm:=sizesF_spec (P:=P) tt _ _ hpl
      simp only[h1,h2,h3,hm]
      rw[show(parts.map fun(i,x)=>(i,ev x)).toList=parts.toList.map fun p=>(p.1,ev p.2)by simp]
      exact c1
     ·exact hk.elim
    ·exact hk.elim
   ·exact hk.elim
  ·rename_i n e hd
   rw[hd]at h6
   have hd':=tdOf_array h6
   subst hd'
   split at hk
   ·rename_i ds hds
    split at hk
    ·rename_i ie hie
     split at hk
     ·rename_i cs hcs
      obtain⟨p1,p2⟩:=partsD_spec he _ _ hds
      have hz:LRep w O i.zero z.cells.toList:=by rw[←h7];exact constDs_rep w O _
      obtain⟨infe,g1,g2,g3,_⟩:=info_of (tt _ _ hie)
      obtain⟨cells,c1,c2⟩:=fill_spec (w:=w) (O:=O) (places:=fun j=>some (j*infe.size,infe.size)) (fun j p hj=>by
       rw[List.getElem?_map]at hj
       rcases Nat.lt_or_ge j n with hlt|hge
       ·rw[List.getElem?_range hlt]at hj
        simp only[Option.map_some,Option.some.injEq]at hj
        rw[←hj,g2]
       ·rw[List.getElem?_eq_none (by simpa using hge)]at hj
        cases hj) ds (parts.toList.map fun p=>(p.1,ev p.2)) i.zero cs z.cells hcs hz ⟨by simp[p1],p2⟩
      refine Yields.data hk (v:= .agg cells) (run_build w t _ cells ?_) ⟨cells,rfl,c2⟩
      unfold Program.built
      simp only[h1,h2,h3,g1]
      rw[show(parts.map fun(i,x)=>(i,ev x)).toList=parts.toList.map fun p=>(p.1,ev p.2)by simp]
      exact c1
     ·exact hk.elim
    ·exact hk.elim
   ·exact hk.elim
  ·exact hk.elim
 ·exact hk.elim

end
end Fw
end
section
set_option linter.unusedVariables false
set_option linter.unusedSimpArgs false
namespace Fw
open Go Go.RowKit

section
variable {P : Program} {T : Ctx} {w : World} {O : OO} {h : Hp} {ι : Nat → Value} {base : Nat}

def RowRep (w:World) (O:OO) (t:Ty) (xs:List t.El) (vs:List Value):Prop:=
 vs.length=xs.length*t.size∧ ∀j (hj:j<xs.length),ERep w O t xs[j] (lat vs) (j*t.size)

theorem ERep.lat {t:Ty} {x:t.El} {us vs:List Value} {i i':Nat} (h:ERep w O t x (lat us) i) (he: ∀j,j<t.size→vs[i'+j]? =us[i+j]?):ERep w O t x (lat vs) i':=
 ERep.imp (Keeps.refl w O) t x _ _ _ _ (fun j u hj hu=>by unfold Fw.lat at hu⊢;rw[he j hj];exact hu) h

theorem mul_lt {i j n s:Nat} (h:i<n) (hj:j<s):i*s+j<n*s:=by
 have:(i+1)*s≤n*s:=Nat.mul_le_mul_right s h
 rw[Nat.add_mul]at this
 omega

theorem RowRep.append {t:Ty} {xs ys:List t.El} {vs us:List Value} (h:RowRep w O t xs vs) (k:RowRep w O t ys us):RowRep w O t (xs++ys) (vs++us):=by
 refine⟨by simp[h.1,k.1,Nat.add_mul],fun j hj=> ?_⟩
 rcases Nat.lt_or_ge j xs.length with hl|hl
 ·rw[List.getElem_append_left hl]
  refine(h.2 j hl).lat fun i hi=> ?_
  rw[List.getElem?_append_left (by rw[h.1];exact mul_lt hl hi)]
 ·rw[List.getElem_append_right hl]
  have hj':j-xs.length<ys.length:=by simp at hj;omega
  refine(k.2 _ hj').lat fun i hi=> ?_
  have e:xs.length*t.size≤j*t.size:=Nat.mul_le_mul_right _ hl
  rw[List.getElem?_append_right (by rw[h.1];omega),h.1]
  congr 1
  rw[Nat.sub_mul];omega

theorem RowRep.take {t:Ty} {xs:List t.El} {vs:List Value} (h:RowRep w O t xs vs) (n:Nat) (hn:n≤xs.length):RowRep w O t (xs.take n) (vs.take (n*t.size)):=by
 have hle:n*t.size≤vs.length:=by rw[h.1];exact Nat.mul_le_mul_right _ hn
 refine⟨by simp;rw[Nat.min_eq_left hle,Nat.min_eq_left hn],fun j hj=> ?_⟩
 have hj':j<n:=by simp at hj;omega
 rw[List.getElem_take]
 refine(h.2 j (by omega)).lat fun i hi=> ?_
 rw[List.getElem?_take,if_pos (mul_lt hj' hi)]

theorem RowRep.set {t:Ty} {xs:List t.El} {vs us:List Value} {y:t.El} {i:Nat} (h:RowRep w O t xs vs) (hi:i<xs.length) (hu:us.length=t.size) (hy:ERep w O t y (lat us) 0):
  RowRep w O t (xs.set i y) (spl vs (i*t.size) us):=by
 have hle:i*t.size+us.length≤vs.length:=by
  rw[h.1,hu]
  have:(i+1)*t.size≤xs.length*t.size:=Nat.mul_le_mul_right _ hi
  rw[Nat.add_mul]at this;omega
 refine⟨by rw[spl_length hle,h.1];simp,fun j hj=> ?_⟩
 have hj':j<xs.length:=by simpa using hj
 by_cases e:i=j
 ·subst e
  rw[List.getElem_set_self]
  refine hy.lat fun k hk=> ?_
  simp only[spl,List.append_assoc,Nat.zero_add]
  have ht:(vs.take (i*t.size)).length=i*t.size:=by simp;omega
  rw[List.getElem?_append_right (by rw[ht];omega),ht,List.getElem?_append_left (by omega)]
  congr 1;omega
 ·rw[List.getElem_set_ne e]
  refine(h.2 j hj').lat fun k hk=> ?_
  have ht:(vs.take (i*t.size)).length=i*t.size:=by simp;omega
  simp only[spl,List.append_assoc]
  rcases Nat.lt_or_gt_of_ne e with hlt|hgt
  ·have:(i+1)*t.size≤j*t.size:=Nat.mul_le_mul_right _ hlt
   rw[Nat.add_mul]at this
   rw[List.getElem?_append_right (by rw[ht];omega),List.getElem?_append_right (by rw[ht,hu];omega),List.getElem?_drop,ht,hu]
   congr 1;omega
  ·have:=mul_lt hgt hk
   rw[List.getElem?_append_left (by rw[ht];exact this),List.getElem?_take,if_pos this]

theorem madeCells_get (z:Array Value) (m i:Nat) (hi:i<m) (hz:0<z.size):(madeCells z m).toList[i]? =z.toList[i%z.size]? :=by
 have hlt:i%z.size<z.size:=Nat.mod_lt _ hz
 simp[madeCells,hi,hlt]

theorem RowRep.replicate {t:Ty} {z:t.El} {zs:Array Value} (hz:zs.size=t.size) (hp:0<t.size) (h:ERep w O t z (lat zs.toList) 0) (n:Nat):
  RowRep w O t (List.replicate n z) (madeCells zs (n*t.size)).toList:=by
 refine⟨by simp[size_madeCells],fun j hj=> ?_⟩
 have hj':j<n:=by simpa using hj
 rw[List.getElem_replicate]
 refine h.lat fun k hk=> ?_
 rw[madeCells_get _ _ _ (mul_lt hj' hk) (by omega),hz]
 congr 1
 rw[Nat.add_comm,Nat.add_mul_mod_self_right,Nat.mod_eq_of_lt hk]
 omega

theorem RowRep.srep {t:Ty} {xs:List t.El} {vs:List Value} (h:RowRep w O t xs vs) {g c:Nat} (hc:xs.length≤c) (hg: ¬O g) (hcell: ∀i u,vs[i]? =some u→w.cell? ⟨g,i,none⟩=some u):
  SRep w O t xs (.slice (some ⟨g,0,none⟩) xs.length c):=by
 refine⟨_,c,rfl,hc,fun _=>⟨_,rfl,fun j hj=> ?_⟩⟩
 refine ERep.imp (Keeps.refl w O) t _ _ _ _ _ (fun i u hi hu=> ?_) (h.2 j hj)
 rw[add_plain]
 refine⟨hg, ?_⟩
 rw[Nat.zero_add]
 exact hcell _ _ hu

theorem fillE_spec {t:Ty}: ∀(ps:List (Nat×D)) (vs:List (Nat×Value)) (xs xs':List t.El) (cells:Array Value),
  fillE t xs ps=some xs'→RowRep w O t xs cells.toList→(ps.length=vs.length∧ ∀(i:Nat) (p:Nat×D) (q:Nat×Value),ps[i]? =some p→vs[i]? =some q→p.1=q.1∧VRep w O p.2 q.2)→
  ∃cells',Instr.fill (fun i=>some (i*t.size,t.size)) cells vs=some cells'∧RowRep w O t xs' cells'.toList∧xs'.length=xs.length
 |[],vs,xs,xs',cells,h,hl,hp=>by
  have:vs=[]:=List.eq_nil_of_length_eq_zero hp.1.symm
  subst this
  simp only[fillE,Option.some.injEq]at h
  subst h
  exact⟨cells,rfl,hl,rfl⟩
 |(i,d)::ps,vs,xs,xs',cells,h,hl,hp=>by
  cases vs with
  |nil=>simp at hp
  |cons q vs=>
   obtain⟨h1,h2⟩:=hp.2 0 _ _ rfl rfl
   obtain⟨i',v⟩:=q
   simp only at h1 h2
   subst h1
   simp only[fillE]at h
   cases hd:t.ofD d with
   |none=>rw[hd]at h;cases h
   |some x=>
    rw[hd]at h
    simp only at h
    cases hb:Nat.blt i xs.length with
    |false=>rw[hb]at h;cases h
    |true=>
     rw[hb]at h
     simp only[cond_true]at h
     have hi:i<xs.length:=by
      have:i+1≤xs.length:=by simpa [Nat.blt,Nat.ble_eq]using hb
      exact this
     obtain⟨_,us,e1,e2,e3⟩:=ofD_spec hd h2
     subst e1
     have hlen:v.cells.size=t.size:=by simpa using e2
     have hcl:cells.size=xs.length*t.size:=by have:=hl.1;simpa using this
     have hle:i*t.size+t.size≤xs.length*t.size:=by
      have:(i+1)*t.size≤xs.length*t.size:=Nat.mul_le_mul_right _ hi
      rw[Nat.add_mul]at this;omega
     have hf:(v.cells.zipIdx.foldl (fun cs (c,j)=>cs.setIfInBounds (i*t.size+j) c) cells).toList=spl cells.toList (i*t.size) v.cells.toList:=by
      have:=fold_spl v.cells.toList 0 (i*t.size) cells (by simp;omega)
      rw[←Array.foldl_toList,Array.toList_zipIdx]
      simpa using this
     have hl':RowRep w O t (xs.set i x) (v.cells.zipIdx.foldl (fun cs (c,j)=>cs.setIfInBounds (i*t.size+j) c) cells).toList:=by
      rw[hf];exact hl.set hi e2 e3
     obtain⟨cells',f1,f2,f3⟩:=fillE_spec ps vs _ xs' _ h hl' ⟨by simpa using hp.1,fun j p q hj hq=>hp.2 (j+1) p q (by simpa using hj) (by simpa using hq)⟩
     refine⟨cells', ?_,f2,by simpa using f3⟩
     unfold Instr.fill
     simp only
     have hno: ¬(v.cells.size≠t.size∨i*t.size+v.cells.size>cells.size):=by
      rw[hlen,hcl];omega
     rw[if_neg (by simpa using hno)]
     exact f1

theorem below_alloc' (w:World) (o:Go.Obj):Below w.heap.size w (w.alloc o):=(Below.refl _ _).alloc (Nat.le_refl _) o
theorem cell_new (w:World) (cells:Array Value) (e:TypeId) (i:Nat):(w.alloc (.cells cells e)).cell? ⟨w.heap.size,i,none⟩=cells[i]? :=by
 exact World.cell?_alloc_at cells e w.heap.size i rfl

theorem q_buildSlice (tt: ∀t i,look T.tt t=some i→mkTI P t=some i) {env:Operand→AV} {ev:Operand→Value} (he: ∀x,ARep w O ι (env x) (ev x)) {t len:Nat} {parts:Array (Nat×Operand)} {k:AV→Prop}
  (hO: ∀b,O b→b<w.heap.size) (hk:qbuildSlice T t len (parts.toList.map fun p=>(p.1,env p.2)) k):Yields P w O h ι (Instr.buildSlice t len (parts.map fun(i,x)=>(i,ev x))) k:=by
 unfold qbuildSlice at hk
 split at hk
 ·rename_i e ie hs
  obtain⟨hu,hm⟩:=sliceE_spec tt hs
  obtain⟨inf,h1,h2,h3,z,h4,h5⟩:=info_of hm
  generalize tyE T e=ty at hk
  unfold qbs at hk
  split at hk
  ·rename_i z0 hz0
   cases hc:(Nat.beq ie.size ty.size&&Nat.blt 0 (len*ie.size)&&Nat.ble (len*ie.size) 1000000)with
   |false=>rw[hc]at hk;exact hk.elim
   |true=>
    rw[hc]at hk
    simp only[cond_true]at hk
    simp only[Bool.and_eq_true]at hc
    have hsz:=Nat.eq_of_beq_eq_true hc.1.1
    have hpos:=blt_pos hc.1.2
    have hsm:=Nat.le_of_ble_eq_true hc.2
    split at hk
    ·rename_i ds hds
     split at hk
     ·rename_i xs hxs
      obtain⟨p1,p2⟩:=partsD_spec he _ _ hds
      have hz:LRep w O ie.zero z.cells.toList:=by rw[←h5];exact constDs_rep w O _
      obtain⟨us,ws,e1,e2,e3,e4⟩:=ofCells_spec ty _ _ _ _ hz0 hz
      have ew:ws=[]:=by simpa [LRep]using e4
      subst ew
      simp only[List.append_nil]at e1
      subst e1
      have hzs:z.cells.size=ty.size:=by simpa using e2
      have hpos':0<ty.size:=by rw[←hsz];exact Nat.pos_of_ne_zero fun h=>by rw[h]at hpos;simp at hpos
      have hrow:=RowRep.replicate (n:=len) hzs hpos' e3
      obtain⟨cells,c1,c2,c3⟩:=fillE_spec (w:=w) (O:=O) ds (parts.toList.map fun p=>(p.1,ev p.2)) _ xs (madeCells z.cells (len*ty.size)) hxs hrow ⟨by simp[p1],p2⟩
      have hlen:xs.length=len:=by simpa using c3
      have hrun:=run_buildSlice (P:=P) w t e len (parts.map fun(i,x)=>(i,ev x)) cells inf z hu h1 h4 (by rw[h2];omega) (by rw[h2];omega) (by
       rw[show(parts.map fun(i,x)=>(i,ev x)).toList=parts.toList.map fun p=>(p.1,ev p.2)by simp,h2,hsz]
       exact c1)
      refine⟨.d (.slc true ty xs),_,_,hk,by simp[AV.live,AV.ids,AV.mids],hrun, ?_,below_alloc' w _⟩
      have hb:=below_alloc' w (.cells cells e)
      have c2':RowRep (w.alloc (.cells cells e)) O ty xs cells.toList:=
       ⟨c2.1,fun j hj=>ERep.imp (Keeps.of_below hb) ty _ _ _ _ _ (fun _ _ _ h=>h) (c2.2 j hj)⟩
      have hs:=c2'.srep (g:=w.heap.size) (c:=len) (by omega) (fun h=>Nat.lt_irrefl _ (hO _ h)) (fun i u hu=>by rw[cell_new];simpa using hu)
      rw[hlen]at hs
      exact⟨hs,fun _=>⟨_,_,rfl⟩⟩
     ·exact hk.elim
    ·exact hk.elim
  ·exact hk.elim
 ·exact hk.elim

end
end Fw
end
section
set_option linter.unusedVariables false
set_option linter.unusedSimpArgs false
namespace Fw
open Go Go.RowKit

section
variable {P : Program} {T : Ctx} {w : World} {O : OO} {h : Hp} {ι : Nat → Value} {base : Nat}

theorem q_makeInterface (tt: ∀t i,look T.tt t=some i→mkTI P t=some i) {t:Nat} {i:TInf} {x:D} {v:Value} {k:AV→Prop}
  (hs:look T.tt t=some i) (hd: ∀z:Unit,i.desc= .iface→False) (hr:VRep w O x v) (hk:k (.d (.iface t x))):Yields P w O h ι (Instr.makeInterface t v) k:=by
 obtain⟨inf,d,z,h1,h2,h3,h4,h5,h6,h7⟩:=mkTI_spec (tt _ _ hs)
 refine Yields.data hk (v:= .iface t v) ?_ ⟨v,rfl,hr⟩
 unfold Instr.makeInterface
 simp only[Sem.run_bind,run_underlying h2,Result.andThen]
 cases d<;>first|rfl|(exfalso;exact hd () h6.symm)

theorem q_extract {l:List D} {ix:Nat} {v:Value} {k:AV→Prop} {d:D} (hr:ARep w O ι (.tup l) v) (hl:l[ix]? =some d) (hk:k (.d d)):Yields P w O h ι (Instr.extract v ix) k:=by
 obtain⟨vs,rfl,h2⟩:=hr
 obtain⟨u,h3,h4⟩:=h2.get hl
 refine Yields.data hk (v:=u) ?_ h4
 have:vs[ix]? =some u:=by simpa using h3
 simp[Instr.extract,this]


theorem mk_caps {env:Operand→AV} {ev:Operand→Value} (he: ∀x,ARep w O ι (env x) (ev x)) (hal: ∀x,(env x).live h):
  ∀(xs:List Operand) (cs:List (D ⊕ (Nat×Nat))),optAll ((xs.map env).map qmakeFunc.capOf)=some cs→
   capsRep w O ι cs (xs.map ev)∧(∀id∈capIds cs,h id≠none)∧ ∀ds,optAll (cs.map fun| .inl d=>some d| .inr _=>none)=some ds→LRep w O ds (xs.map ev)
 |[],cs,hc=>by simp[optAll]at hc;subst hc;exact⟨rfl,by simp[capIds],fun ds hd=>by simp[optAll]at hd;subst hd;rfl⟩
 |x::xs,cs,hc=>by
  simp only[List.map_cons]at hc
  obtain⟨c,ys,e1,e2,e3⟩:=optAll_cons hc
  subst e3
  obtain⟨k1,k2,k3⟩:=mk_caps he hal xs ys e2
  have hx:=he x
  have hax:=hal x
  cases hv:env x with
  |d y=>
   rw[hv]at e1 hx
   simp only[qmakeFunc.capOf,Option.some.injEq]at e1
   subst e1
   refine⟨⟨_,_,rfl,hx,k1⟩,k2,fun ds hd=> ?_⟩
   simp only[List.map_cons]at hd
   obtain⟨d',ds',f1,f2,f3⟩:=optAll_cons hd
   injection f1 with f1
   subst f1 f3
   exact⟨_,_,rfl,hx,k3 ds' f2⟩
  |ptr id off=>
   rw[hv]at e1 hx hax
   simp only[qmakeFunc.capOf,Option.some.injEq]at e1
   subst e1
   refine⟨⟨_,_,rfl,hx,k1⟩, ?_,fun ds hd=> ?_⟩
   ·intro i hi
    simp only[capIds,List.mem_cons]at hi
    rcases hi with rfl|hi
    ·exact hax.1 _ (by simp[AV.live,AV.ids,AV.mids])
    ·exact k2 i hi
   ·simp only[List.map_cons]at hd
    obtain⟨d',ds',f1,f2,f3⟩:=optAll_cons hd
    cases f1
  |_=>rw[hv]at e1;simp[qmakeFunc.capOf]at e1

theorem q_makeFunc {env:Operand→AV} {ev:Operand→Value} (he: ∀x,ARep w O ι (env x) (ev x)) (hal: ∀x,(env x).live h) {fn:Fn} {first caps:Array Operand} {k:AV→Prop}
  (hk:qmakeFunc fn (first.toList.map env) (caps.toList.map env) k):Yields P w O h ι (Instr.makeFunc fn (first.map ev) (caps.map ev)) k:=by
 unfold qmakeFunc at hk
 split at hk
 ·rename_i fn _ _ x l hf
  split at hk
  ·rename_i ds hcaps hds
   have hc0:caps.map ev= #[]:=by
    have:caps.toList=[]:=by simpa using hcaps
    have:caps= #[]:=by simpa using this
    subst this;simp
   have key: ∀(xs:List Operand) (ds:List D),qmakeFunc.datas (xs.map env)=some ds→LRep w O ds (xs.map ev):=by
    intro xs
    induction xs with
    |nil=>intro ds h;simp[qmakeFunc.datas]at h;subst h;rfl
    |cons y ys ih=>
     intro ds h
     rw[List.map_cons]at h
     unfold qmakeFunc.datas at h
     have hy:=he y
     split at h
     ·cases ‹_=[]›
     ·rename_i z l' heq
      injection heq with h1 h2
      rw[h1]at hy
      split at h
      ·rename_i ds' hds'
       simp only[Option.some.injEq]at h
       subst h h2
       exact⟨_,_,rfl,hy,ih _ hds'⟩
      ·cases h
     ·cases h
   refine Yields.data hk (v:= .func fn (first.map ev) (caps.map ev)) (by simp[Instr.makeFunc]) ⟨_,by rw[hc0], ?_⟩
   have:=key first.toList ds (by rw[hf];exact hds)
   simpa using this
  ·exact hk.elim
 ·rename_i f hf
  have hf0:first.map ev= #[]:=by
   have:first.toList=[]:=by simpa using hf
   have:first= #[]:=by simpa using this
   subst this;simp
  split at hk
  ·rename_i cs hcs
   obtain⟨k1,k2,k3⟩:=mk_caps he hal _ _ hcs
   unfold qmakeFunc.pack at hk
   split at hk
   ·rename_i ds hds
    refine Yields.data hk (v:= .func (.func f) (first.map ev) (caps.map ev)) (by simp[Instr.makeFunc]) ⟨_,by rw[hf0], ?_⟩
    simpa using k3 ds hds
   ·refine Yields.same (av:= .clo f cs) (v:= .func (.func f) (first.map ev) (caps.map ev)) hk (by simpa [AV.live,AV.ids,AV.mids]using k2) (by simp[Instr.makeFunc]) ⟨_,by rw[hf0], ?_⟩
    simpa using k1
  ·exact hk.elim
 ·exact hk.elim

theorem al_views (ho:MR w O h ι base): ∀ {xs:List AV} {vs:List Value},ALRep w O ι xs vs→
  (xs.map (viewD h)).length=vs.length∧ ∀(i:Nat) (d:D) (v:Value),(xs.map (viewD h))[i]? =some (some d)→vs[i]? =some v→VRep w O.bare d v
 |[],vs,hr=>by have hr':vs=[]:=hr;subst hr';exact⟨rfl,fun i d v h=>by simp at h⟩
 |x::xs,_,⟨u,us,h1,h2,h3⟩=>by
  subst h1
  obtain⟨k1,k2⟩:=al_views ho h3
  refine⟨by simpa using k1,fun i d v hi hv=> ?_⟩
  cases i with
  |zero=>
   simp at hi hv
   subst hv
   exact view_rep ho hi h2
  |succ i=>exact k2 i d v (by simpa using hi) (by simpa using hv)

theorem ERep.flat {w':World} {O':OO}: ∀(t:Ty) (x:t.El) (f:Nat→Value→Prop) (i:Nat),t.flat=true→ERep w O t x f i→ERep w' O' t x f i
 | .int _,_,_,_,_,h=>h
 | .bool,_,_,_,_,h=>h
 | .str,_,_,_,_,h=>h
 | .slc _,_,_,_,hf,_=>by cases hf
 | .pair a b,x,f,i,hf,h=>by
  simp only[Ty.flat,Bool.and_eq_true]at hf
  exact⟨ERep.flat a x.1 f i hf.1 h.1,ERep.flat b x.2 f _ hf.2 h.2⟩
 | .unit,_,_,_,_,h=>trivial
theorem RowRep.flat {w':World} {O':OO} {t:Ty} {xs:List t.El} {us:List Value} (hf:t.flat=true) (h:RowRep w O t xs us):RowRep w' O' t xs us:=
 ⟨h.1,fun j hj=>ERep.flat t _ _ _ hf (h.2 j hj)⟩
theorem SRep.row {t:Ty} {ys:List t.El} {v:Value} (hr:SRep w O t ys v):
  ∃us p c,v= .slice p ys.length c∧ys.length≤c∧RowRep w O t ys us∧(0<ys.length→ ∃ad,p=some ad∧ ∀j u,us[j]? =some u→w.cell? (ad.add j)=some u):=by
 obtain⟨p,c,rfl,hc,hcell⟩:=hr
 by_cases h0:0<ys.length
 ·obtain⟨ad,hp,hcell2⟩:=hcell h0
  have: ∀n,n≤ys.length→ ∃us,RowRep w O t (ys.take n) us∧ ∀j u,us[j]? =some u→w.cell? (ad.add j)=some u:=by
   intro n
   induction n with
   |zero=>intro _;exact⟨[],⟨by simp,fun j hj=>by simp at hj⟩,fun j u h=>by simp at h⟩
   |succ n ih=>
    intro hn
    obtain⟨us,h1,h2⟩:=ih (by omega)
    obtain⟨ws,k1,k2⟩:=ERep.cells t _ _ _ (hcell2 n (by omega))
    have hwl:ws.length=t.size:=by rw[k1.length,cells_length]
    refine⟨us++ws, ?_,fun j u hj=> ?_⟩
    ·have e:ys.take (n+1)=ys.take n++[ys[n]]:=by rw[List.take_succ_eq_append_getElem (by omega)]
     rw[e]
     refine h1.append ⟨by simp[hwl],fun j hj=> ?_⟩
     have hj0:j=0:=by simp at hj;omega
     subst hj0
     simp only[List.getElem_cons_zero,Nat.zero_mul]
     refine ERep.imp (Keeps.refl w _) t _ _ _ _ _ (fun i u hi hu=> ?_) (hcell2 n (by omega))
     unfold Fw.lat
     rw[Nat.zero_add]
     have h3:=k2 i ws[i] (List.getElem?_eq_getElem (by omega))
     rw[List.getElem?_eq_getElem (by omega)]
     have h4:=h3.2.symm.trans hu.2
     simpa using h4
    ·have hul:us.length=n*t.size:=by rw[h1.1,List.length_take,Nat.min_eq_left (by omega)]
     rcases Nat.lt_or_ge j us.length with hl|hl
     ·rw[List.getElem?_append_left hl]at hj;exact h2 j u hj
     ·rw[List.getElem?_append_right hl]at hj
      have:=(k2 _ u hj).2
      rw[←hul]at this
      have e:us.length+(j-us.length)=j:=by omega
      rw[e]at this;exact this
  obtain⟨us,h1,h2⟩:=this ys.length (Nat.le_refl _)
  rw[List.take_length]at h1
  exact⟨us,p,c,rfl,hc,h1,fun _=>⟨ad,hp,h2⟩⟩
 ·have:ys=[]:=List.eq_nil_of_length_eq_zero (by omega)
  subst this
  exact⟨[],p,c,rfl,hc,⟨by simp,fun j hj=>by simp at hj⟩,fun h=>absurd h (by simp)⟩
theorem isSliceT_spec0 (tt: ∀t i,look T.tt t=some i→mkTI P t=some i) {t:Nat} (h:isSliceT T t=true): ∃e,P.underlying t=some (.slice e):=by
 unfold isSliceT at h
 split at h
 ·rename_i i hi
  obtain⟨inf,d,z,h1,h2,h3,h4,h5,h6,h7⟩:=mkTI_spec (tt _ _ hi)
  split at h
  ·rename_i e hd
   rw[hd]at h6
   rw[tdOf_slice h6]at h2
   exact⟨e,h2⟩
  ·cases h
 ·cases h
theorem append_ty0 {ts tx ty e e2:TypeId} (hs:P.underlying ts=some (.slice e)) (hx:P.underlying tx=some (.slice e2)) (b p:Option Addr) (n c m c':Nat):
  (Builtin.append_ #[ts,tx] ty #[.slice b n c, .slice p m c']).run P w=(Builtin.append_ #[ts,ts] ty #[.slice b n c, .slice p m c']).run P w:=by
 unfold Builtin.append_
 simp[run_underlying hs,run_underlying hx]
theorem q_apf (tt: ∀t i,look T.tt t=some i→mkTI P t=some i) {O:OO} (hlt: ∀b,O b→b<w.heap.size) {ts tx:Nat} {ty:TypeId} {t:Ty} {xs:List t.El} {y:Option D} {u u':Value} {k:AV→Prop}
  (hu:VRep w O (.slc true t xs) u) (hy: ∀d,y=some d→VRep w O.bare d u') (hk:qapf T ts tx t xs y k):
  ∃d v w',k (.d d)∧VRep w' O d v∧(Builtin.append_ #[ts,tx] ty #[u,u']).run P w= .ok v w'∧Below w.heap.size w w':=by
 unfold qapf at hk
 split at hk
 ·rename_i e ie ys hse hfl
  cases hc:(isSliceT T tx&&t.flat&&Nat.beq ie.size t.size&&Nat.blt 0 ie.size&&Nat.blt 0 ie.bytes)with
  |false=>rw[hc]at hk;exact hk.elim
  |true=>
   rw[hc]at hk
   simp only[cond_true]at hk
   simp only[Bool.and_eq_true]at hc
   obtain⟨⟨⟨⟨c1,hf⟩,c3⟩,c4⟩,c5⟩:=hc
   have hsz:=Nat.eq_of_beq_eq_true c3
   have hpos:0<ie.size:=Nat.le_of_ble_eq_true c4
   have hbp:0<ie.bytes:=Nat.le_of_ble_eq_true c5
   obtain⟨hut,hm⟩:=sliceE_spec tt hse
   obtain⟨e2,hux⟩:=isSliceT_spec0 tt c1
   obtain⟨inf,h1,h2,h3,z,h4,h5⟩:=info_of hm
   obtain⟨hbytes,hk⟩:=hk
   obtain⟨hu1,hu2⟩:=hu
   obtain⟨us,p,c,rfl,hcc,hr,hcell⟩:=hu1.row
   have hcn:c=xs.length:=by
    obtain⟨a,n,hn⟩:=hu2 rfl
    injection hn with _ h6 h7
    omega
   subst hcn
   have hys: ∃us' p' c',u'= .slice p' ys.length c'∧RowRep w O.bare t ys us'∧(0<ys.length→ ∃ad,p'=some ad∧ ∀j u,us'[j]? =some u→w.cell? (ad.add j)=some u):=by
    unfold flatL at hfl
    split at hfl
    ·rename_i f t' ys0 hd
     obtain⟨e,rfl⟩:=castL_spec hfl
     subst e
     obtain⟨us',p',c',k1,k2,k3,k4⟩:=(hy _ rfl).1.row
     exact⟨us',p',c',k1,k3,k4⟩
    ·injection hfl with hfl
     subst hfl
     have:u'= .slice none 0 0:=hy _ rfl
     exact⟨[],none,0,this,⟨by simp,fun j hj=>by simp at hj⟩,fun h=>absurd h (by simp)⟩
    ·cases hfl
   obtain⟨us',p',c',rfl,hr',hcell'⟩:=hys
   by_cases h0:0<ys.length
   ·obtain⟨ad',rfl,hc2⟩:=hcell' h0
    have hby:(xs.length+ys.length)*ie.bytes≤140737488355328:=by
     have:(((xs.length+ys.length)*ie.bytes:Nat):Int)≤140737488355328:=by push_cast;exact hbytes
     omega
    have hle:xs.length+ys.length≤140737488355328:=Nat.le_trans (Nat.le_mul_of_pos_right _ hbp) hby
    have hrow:RowRep w O.bare t (xs++ys) (us++us'):=(hr.flat hf).append hr'
    have fin: ∀(v:Value) (w':World) (cap:Nat) (cs:Array Value),v= .slice (some ⟨w.heap.size,0,none⟩) (xs.length+ys.length) cap→xs.length+ys.length≤cap→
      w'.heap[w.heap.size]? =some (.cells ((us++us').toArray++cs) e (0,0))→Below w.heap.size w w'→VRep w' O (.slc false t (xs++ys)) v:=by
     rintro v w' cap cs rfl hcap hh hb
     refine⟨?_,fun h=>by cases h⟩
     have hrow':RowRep w' O t (xs++ys) (us++us'):=hrow.flat hf
     have:=hrow'.srep (g:=w.heap.size) (c:=cap) (by rw[List.length_append];exact hcap) (fun h=>by have:=hlt _ h;omega) (fun i u hi=>by
      unfold World.cell?
      simp only[hh,Option.isSome_none,Bool.false_eq_true,if_false]
      have hlt':i<(us++us').length:=(List.getElem?_eq_some_iff.1 hi).1
      rw[Array.getElem?_append_left (by simpa using hlt')]
      simpa using hi)
     rw[List.length_append]at this
     exact this
    have hblk: ∀cs:Array Value,(w.drew.alloc (.cells cs e)).heap[w.heap.size]? =some (.cells cs e (0,0)):=fun cs=>by
     show(w.heap.push (.cells cs e))[w.heap.size]? =_
     rw[Array.getElem?_push,if_pos rfl]
    have hbel: ∀o:Go.Obj,Below w.heap.size w (w.drew.alloc o):=fun o=>by
     have h9:Below w.heap.size w w.drew:=⟨rfl,rfl,rfl,Nat.le_refl _,fun _ _=>rfl⟩
     exact h9.alloc (Nat.le_refl _) o
    cases p with
    |some ad=>
     have hc1: ∀j u,us[j]? =some u→w.cell? (ad.add j)=some u:=fun j u hj=>by
      by_cases hx0:0<xs.length
      ·obtain⟨ad',e9,hc1⟩:=hcell hx0
       injection e9 with e9
       subst e9
       exact hc1 j u hj
      ·have:us=[]:=List.eq_nil_of_length_eq_zero (by rw[hr.1,show xs.length=0 by omega,Nat.zero_mul])
       subst this
       simp at hj
     have hr2:=run_append_grow (P:=P) w ts ty e inf z hut h1 h4 ad xs.length xs.length us (by rw[hr.1,h2,hsz]) hc1 ad' ys.length c' us' (by rw[hr'.1,h2,hsz]) hc2 (by omega) (by omega) (by rw[h3];exact growslice_fits (by omega) hby)
     refine⟨_,_,_,hk, ?_,by rw[append_ty0 hut hux];exact hr2,hbel _⟩
     refine fin _ _ _ (Builtin.zeroCells z.cells (grownCap w (xs.length+ys.length) xs.length e-(xs.length+ys.length))) rfl (grownCap_ge _ _ _ _) ?_ (hbel _)
     rw[hblk]
     simp
    |none=>
     have hx0:xs=[]:=by
      cases xs with
      |nil=>rfl
      |cons x l=>obtain⟨ad,e9,_⟩:=hcell (by simp);cases e9
     subst hx0
     have hu0:us=[]:=List.eq_nil_of_length_eq_zero (by rw[hr.1];simp)
     subst hu0
     have hby':ys.length*ie.bytes≤140737488355328:=by simpa using hby
     have hr2:=run_append_nil (P:=P) w ts ty e inf z hut h1 h4 ad' ys.length c' us' (by rw[hr'.1,h2,hsz]) hc2 h0 (by simp at hle;omega) (by rw[h3];omega)
     refine⟨_,_,_,hk, ?_,by rw[append_ty0 hut hux];exact hr2,hbel _⟩
     refine fin _ _ (grownCap w ys.length 0 e) (Builtin.zeroCells z.cells (grownCap w ys.length 0 e-ys.length)) (by simp) (by simpa using grownCap_ge w ys.length 0 e) ?_ (hbel _)
     rw[hblk]
     simp
   ·have hy0:ys=[]:=List.eq_nil_of_length_eq_zero (by omega)
    subst hy0
    refine⟨_, .slice p xs.length xs.length,w,hk, ?_, ?_,Below.refl _ _⟩
    ·rw[List.append_nil]
     exact⟨hu1,fun h=>by cases h⟩
    ·rw[append_ty0 hut hux]
     cases p<;>cases p'<;>simp[Builtin.append_,run_underlying hut,Go.sizeOf,typeInfo,h1,Builtin.lenOf,Builtin.firstCells,loadCells,loadCellsFrom,storeCells]
 ·exact hk.elim

theorem q_builtin (tt: ∀t i,look T.tt t=some i→mkTI P t=some i) (ho:MR w O h ι base) (hlt: ∀b,O b→b<w.heap.size) {b:Builtin} {ts:Array TypeId} {ty:TypeId} {cs:Array Bool} {args:List AV} {vs:Array Value} {k:AV→Prop}
  (hr:ALRep w O ι args vs.toList) (hk:qbuiltin T b ts.toList (args.map (viewD h)) k):
  ∃d v w',k (.d d)∧VRep w' O d v∧(builtin b ts ty cs vs).run P w= .ok (.value v) w'∧Below w.heap.size w w':=by
 obtain⟨hl,hv⟩:=al_views ho hr
 unfold qbuiltin at hk
 split at hk
 ·rename_i t x hts hx
  rw[hx]at hl hv
  obtain⟨u,rfl⟩: ∃u,vs= #[u]:=by
   have:vs.size=1:=by simpa using hl.symm
   exact⟨vs[0],by
    apply Array.ext
    ·simp[this]
    ·intro i h3 h4
     have:i=0:=by omega
     subst this;rfl⟩
  have hts':ts= #[t]:=by simpa using congrArg List.toArray hts
  subst hts'
  split at hk
  ·rename_i i hs
   obtain⟨inf,d,z,h1,h2,h3,h4,h5,h6,h7⟩:=mkTI_spec (tt _ _ hs)
   split at hk
   ·rename_i n hn
    refine⟨_, .int .i64 n,w,hk,rfl, ?_,Below.refl _ _⟩
    rw[←h6]at hn
    have hv0:=fun d (hd:x=some d)=>hv 0 d u (by simp[hd]) (by simp)
    unfold lenD at hn
    split at hn
    ·rename_i s hd
     have:=tdOf_str hd
     subst this
     have e2':u= .string s:=hv0 _ rfl
     injection hn with hn
     subst e2' hn
     simp[builtin,Builtin.len_,run_underlying h2,goInt]
    ·rename_i e f t' xs hd
     have:=tdOf_slice hd
     subst this
     obtain⟨⟨a,c,rfl,_⟩,_⟩:=hv0 _ rfl
     injection hn with hn
     subst hn
     simp[builtin,Builtin.len_,run_underlying h2,goInt]
    ·rename_i e hd
     have:=tdOf_slice hd
     subst this
     have e2':u= .slice none 0 0:=hv0 _ rfl
     injection hn with hn
     subst e2' hn
     simp[builtin,Builtin.len_,run_underlying h2,goInt]
    ·cases hn
   ·exact hk.elim
  ·exact hk.elim
 ·rename_i kd x kd' y hx
  rw[hx]at hl hv
  obtain⟨u,u',rfl⟩: ∃u u',vs= #[u,u']:=by
   have h2:vs.size=2:=by simpa using hl.symm
   refine⟨vs[0],vs[1], ?_⟩
   apply Array.ext
   ·simp[h2]
   ·intro i h3 h4
    have:i=0∨i=1:=by omega
    rcases this with rfl|rfl<;>rfl
  have e1:u= .int kd x:=hv 0 _ u rfl rfl
  have e2:u'= .int kd' y:=hv 1 _ u' rfl rfl
  subst e1 e2
  cases hb:ikb kd kd' with
  |false=>rw[hb]at hk;exact hk.elim
  |true=>
   rw[hb]at hk
   exact⟨_, .int kd (if y<x then y else x),w,hk,rfl,by simp[builtin,Builtin.min_,Builtin.min2],Below.refl _ _⟩
 ·rename_i kd x kd' y hx
  rw[hx]at hl hv
  obtain⟨u,u',rfl⟩: ∃u u',vs= #[u,u']:=by
   have h2:vs.size=2:=by simpa using hl.symm
   refine⟨vs[0],vs[1], ?_⟩
   apply Array.ext
   ·simp[h2]
   ·intro i h3 h4
    have:i=0∨i=1:=by omega
    rcases this with rfl|rfl<;>rfl
  have e1:u= .int kd x:=hv 0 _ u rfl rfl
  have e2:u'= .int kd' y:=hv 1 _ u' rfl rfl
  subst e1 e2
  cases hb:ikb kd kd' with
  |false=>rw[hb]at hk;exact hk.elim
  |true=>
   rw[hb]at hk
   exact⟨_, .int kd (if y>x then y else x),w,hk,rfl,by simp[builtin,Builtin.max_,Builtin.max2],Below.refl _ _⟩
 ·rename_i ts' tx t xs y hts hx
  rw[hx]at hl hv
  obtain⟨u,u',rfl⟩: ∃u u',vs= #[u,u']:=by
   have h2:vs.size=2:=by simpa using hl.symm
   refine⟨vs[0],vs[1], ?_⟩
   apply Array.ext
   ·simp[h2]
   ·intro i h3 h4
    have:i=0∨i=1:=by omega
    rcases this with rfl|rfl<;>rfl
  have hts':ts= #[ts',tx]:=by simpa using congrArg List.toArray hts
  subst hts'
  have e1:VRep w O (.slc true t xs) u:=by
   match args,hr,hx with
   |[],hr,hx=>simp at hx
   |x0::l,⟨u0,us0,e0,k1,_⟩,hx=>
    have hx0:viewD h x0=some (.slc true t xs):=by simp at hx;exact hx.1
    have hu0:u=u0:=by simp at e0;exact e0.1
    subst hu0
    cases x0 with
    |d d=>simp only[viewD,Option.some.injEq]at hx0;subst hx0;exact k1
    |own id=>simp only[viewD]at hx0;split at hx0<;>simp at hx0
    |win id sz lo n=>
     simp only[viewD]at hx0
     split at hx0
     ·rename_i e' t' xs' hid
      cases hb:Nat.beq sz t'.size with
      |false=>rw[hb]at hx0;cases hx0
      |true=>rw[hb]at hx0;simp at hx0
     ·cases hx0
    |ptr id off=>simp only[viewD]at hx0;split at hx0<;>simp at hx0
    |clo f caps=>simp only[viewD]at hx0;split at hx0<;>simp at hx0
    |_=>simp[viewD]at hx0
  have e2: ∀d,y=some d→VRep w O.bare d u':=fun d hd=>hv 1 d u' (by subst hd;rfl) rfl
  obtain⟨d,v,w',h1,h2,h3,h4⟩:=q_apf (ty:=ty) tt hlt e1 e2 hk
  exact⟨d,v,w',h1,h2,by simp[builtin,h3],h4⟩
 ·exact hk.elim

theorem ALRep.map {env:Operand→AV} {ev:Operand→Value} (he: ∀x,ARep w O ι (env x) (ev x)): ∀xs:List Operand,ALRep w O ι (xs.map env) (xs.map ev)
 |[]=>rfl
 |x::xs=>⟨_,_,rfl,he x,ALRep.map he xs⟩
theorem ALRep.append: ∀ {xs ys:List AV} {vs us:List Value},ALRep w O ι xs vs→ALRep w O ι ys us→ALRep w O ι (xs++ys) (vs++us)
 |[],_,_,_,h,k=>by have h':_=[]:=h;subst h';exact k
 |x::xs,ys,_,us,⟨u,vs',h1,h2,h3⟩,k=>by subst h1;exact⟨u,vs'++us,rfl,h2,ALRep.append h3 k⟩
theorem capsRep.al: ∀ {cs:List (D ⊕ (Nat×Nat))} {vs:List Value},capsRep w O ι cs vs→ALRep w O ι (cs.map capAV) vs
 |[],_,h=>h
 | .inl d::cs,_,⟨u,us,h1,h2,h3⟩=>⟨u,us,h1,h2,capsRep.al h3⟩
 | .inr (id,off)::cs,_,⟨u,us,h1,h2,h3⟩=>⟨u,us,h1,h2,capsRep.al h3⟩
theorem LRep.al: ∀ {ds:List D} {vs:List Value},LRep w O ds vs→ALRep w O ι (ds.map .d) vs
 |[],_,h=>h
 |d::ds,_,⟨u,us,h1,h2,h3⟩=>⟨u,us,h1,h2,LRep.al h3⟩

theorem run_callFunc {f : FuncId} {fn : Func} (hfn : P.funcs[f]? = some fn) (hbody : fn.body.isNone = false) (hname : (fn.name == "runtime.NumGoroutine") = false) (vs : Array Value) :
  (callFunc f vs).run P w= .ok (.enter f vs) w:=by
 unfold callFunc
 simp only[Sem.run_bind,run_program,Result.andThen,hfn]
 rw[if_neg (by rw[hname];simp),if_neg (by rw[hbody];simp)]
 rfl

def Answers (P : Program) (w : World) (O : OO) (h : Hp) (ι : Nat → Value) (s : Sem Next) (k : AV → Prop) : Prop :=
  ∃ av, k av ∧ (av.live h) ∧
    ((∃ v w', s.run P w = .ok (.value v) w' ∧ ARep w' O ι av v ∧ Below w.heap.size w w') ∨
     (∃ f args, s.run P w = .ok (.enter f args) w ∧ Calls P f args w fun e w' => ∃ v, e = .returned v ∧ ARep w' O ι av v ∧ Below w.heap.size w w'))

theorem Yields.answers {s:Sem Value} {k:AV→Prop} (hy:Yields P w O h ι s k):Answers P w O h ι (do pure (.value (←s))) k:=by
 obtain⟨av,v,w',h1,h2,h3,h4,h5⟩:=hy
 exact⟨av,h1,h2, .inl ⟨v,w',by simp[h3],h4,h5⟩⟩

theorem resAV_ids (ds:List D):(resAV ds).ids=[]:=by
 cases ds with
 |nil=>rfl
 |cons d l=>cases l<;>rfl

theorem resAV_live (h:Hp) (ds:List D):(resAV ds).live h:=by
 cases ds with
 |nil=>simp[resAV,AV.live,AV.ids,AV.mids]
 |cons d l=>cases l<;>simp[resAV,AV.live,AV.ids,AV.mids]
theorem q_call {O0:Nat→Prop} (tok:Tok P T) (ho:MR w (Own O0 h ι) h ι base) (hlt:OKO (Own O0 h ι) w)
  {env:Operand→AV} {ev:Operand→Value} (he: ∀x,ARep w (Own O0 h ι) ι (env x) (ev x)) (hev: ∀f,ev (.func f)= .func (.func f) #[] #[]) {c:Call} {ty:TypeId} {k:AV→Prop} (hk:qcall T c env h k):
  Answers P w (Own O0 h ι) h ι (do let d←resolve ev c ty;invoke d.target d.args) k:=by
 obtain⟨callee,args,ats⟩:=c
 have hargs:=ALRep.map he args.toList
 have direct0: ∀(f:FuncId) (C:Con) (avs:List AV) (vs:Array Value) (s:Sem Next),Sound P f C→ALRep w (Own O0 h ι) ι avs vs.toList→qcon C h avs k→s.run P w=(callFunc f vs).run P w→
   Answers P w (Own O0 h ι) h ι s k:=by
  intro f C avs vs s hC hr hq hs
  obtain⟨hN,hS⟩:=hC
  obtain⟨x,hpre,hk',Oq,hO,hl,hback⟩:=qcon_spec ho hN hq hr hlt
  rcases hS x hpre w Oq vs hO hl with⟨hrun,hcalls⟩|⟨v,w',hrun,v',hv',hb,hv,_⟩
  ·refine⟨_,hk',resAV_live _ _, .inr ⟨f,vs,by rw[hs];exact hrun,hcalls.mono ?_⟩⟩
   rintro e w' ⟨v,rfl,hb,hv,_⟩
   exact⟨v,rfl,hback v w' hv,hb⟩
  ·injection hv' with hv'
   subst hv'
   exact⟨_,hk',resAV_live _ _, .inl ⟨v,w',by rw[hs];exact hrun,hback v w' hv,hb⟩⟩
 have direct:=fun f C avs vs s (h:look T.fs f=some C)=>direct0 f C avs vs s (tok.fs f C h)
 cases callee with
 |builtin b=>
  simp only[qcall]at hk
  split at hk
  ·rename_i K j hl1
   split at hk
   ·rename_i e t ms tl hK hts
    cases hb:(isSliceT T tl&&evenB K)with
    |false=>rw[hb]at hk;exact hk.elim
    |true=>
     rw[hb]at hk
     simp only[cond_true]at hk
     simp only[Bool.and_eq_true]at hb
     obtain⟨hm,hk⟩:=hk
     obtain⟨e0,hu0⟩:=isSliceT_spec0 tok.tt hb.1
     rw[hl1]at hargs
     obtain⟨u,us,q1,q2,q3⟩:=hargs
     have q3':us=[]:=q3
     subst q3'
     obtain⟨⟨vs,g1,g2⟩,_⟩:=ref_row ho hb.2 hK hm q2
     obtain⟨a,c,q4,_⟩:=row_srep g1 g2
     refine⟨_,hk,by simp[AV.live,AV.ids,AV.mids], .inl ⟨.int .i64 (mrow ms j).length,w, ?_,rfl,Below.refl _ _⟩⟩
     have ea:args.map ev= #[u]:=by apply Array.ext';simpa using q1
     have et:ats= #[tl]:=by simpa using congrArg List.toArray hts
     subst et
     simp only[resolve,invoke,Sem.run_bind,Sem.run_pure,Result.andThen,ea,q4]
     simp[builtin,Builtin.len_,run_underlying hu0,goInt]
   ·exact hk.elim
  obtain⟨d,v,w',h1,h2,h3,h4⟩:=q_builtin (P:=P) (ts:=ats) (ty:=ty) (cs:=args.map fun| .const _=>true|_=>false) (vs:=args.map ev) tok.tt ho hlt.1 (by simpa using hargs) hk
  refine⟨_,h1,by simp[AV.live,AV.ids,AV.mids], .inl ⟨v,w', ?_,h2,h4⟩⟩
  simp only[resolve,invoke,Sem.run_bind,Sem.run_pure,Result.andThen]
  exact h3
 |invoke r name=>
  simp only[qcall]at hk
  cases hC:looks T.invs name with
  |none=>rw[hC]at hk;exact hk.elim
  |some C=>
   rw[hC]at hk
   obtain⟨hN,hS⟩:=tok.invs name C hC
   obtain⟨x,hpre,hk',Oq,hO,hl,hback⟩:=qcon_spec ho hN hk (vs:=ev r::args.toList.map ev) ⟨_,_,rfl,he r,hargs⟩ hlt
   have hrun0:(do let d←resolve ev { callee:= .invoke r name,args,argTypes:=ats } ty;invoke d.target d.args:Sem Next).run P w=(callMethod (ev r) name (args.toList.map ev).toArray).run P w:=by
    simp only[resolve,invoke,Sem.run_bind,Sem.run_pure,Result.andThen]
    have e1:(#[ev r]++args.map ev)[0]? =some (ev r):=by rw[Array.getElem?_append_left (by simp)];rfl
    have e2:(#[ev r]++args.map ev).extract 1 (#[ev r]++args.map ev).size=(args.toList.map ev).toArray:=by
     apply Array.ext'
     simp
     rw[List.take_of_length_le (by simp)]
    rw[←e2,e1]
   rcases hS x hpre w Oq (ev r) (args.toList.map ev) hO hl with⟨f,args',hr,hc⟩|⟨v,w',hr,v',hv',hb,hv,_⟩
   ·refine⟨_,hk',resAV_live _ _, .inr ⟨f,args',hrun0.trans hr,hc.mono ?_⟩⟩
    rintro e w' ⟨v,rfl,hb,hv,_⟩
    exact⟨v,rfl,hback v w' hv,hb⟩
   ·injection hv' with hv'
    subst hv'
    exact⟨_,hk',resAV_live _ _, .inl ⟨v,w',hrun0.trans hr,hback v w' hv,hb⟩⟩
 |value x=>
  have indirect:qcallv T (env x) (args.toList.map env) h k→Answers P w (Own O0 h ι) h ι (do let d←resolve ev { callee:= .value x,args,argTypes:=ats } ty;invoke d.target d.args) k:=by
   intro hk
   unfold qcallv at hk
   split at hk
   ·rename_i f caps hx
    split at hk
    ·rename_i C hC
     have hr:=he x
     rw[hx]at hr
     obtain⟨cs,hv,hcs⟩:=hr
     refine direct f C _ (args.map ev++cs) _ hC (by simpa using ALRep.append hargs hcs.al) hk ?_
     simp[resolve,invoke,hv,Deferred.ofValue]
    ·exact hk.elim
   ·rename_i dv hx
    have hr:=he x
    rw[hx]at hr
    split at hk
    ·rename_i C hC
     obtain⟨y,hpre,hk',Oq,hO,hl,hback⟩:=qcon_spec ho (tok.cv C hC).1 hk (vs:=ev x::args.toList.map ev) ⟨_,_,rfl,hr,hargs⟩ hlt 
     have hrun0:(do let d←resolve ev { callee:= .value x,args,argTypes:=ats } ty;invoke d.target d.args:Sem Next).run P w=(do let d←Deferred.ofValue (ev x) (args.toList.map ev).toArray;invoke d.target d.args:Sem Next).run P w:=by
      have e2:args.map ev=(args.toList.map ev).toArray:=by apply Array.ext';simp
      simp[resolve,e2]
     rcases(tok.cv C hC).2 y hpre w Oq (ev x) (args.toList.map ev) hO hl with⟨f,args',hrun,hc⟩|⟨v,w',hrun,v',hv',hb,hv,_⟩
     ·refine⟨_,hk',resAV_live _ _, .inr ⟨f,args',hrun0.trans hrun,hc.mono ?_⟩⟩
      rintro e w' ⟨v,rfl,hb,hv,_⟩
      exact⟨v,rfl,hback v w' hv,hb⟩
     ·injection hv' with hv'
      subst hv'
      exact⟨_,hk',resAV_live _ _, .inl ⟨v,w',hrun0.trans hrun,hback v w' hv,hb⟩⟩
    ·split at hk
     ·rename_i f caps
      split at hk
      ·rename_i C hC
       obtain⟨cs,hv,hcs⟩:=hr
       refine direct f C _ (args.map ev++cs) _ hC (by simpa using ALRep.append hargs hcs.al) hk ?_
       simp[resolve,invoke,hv,Deferred.ofValue]
      ·exact hk.elim
     ·exact hk.elim
   ·exact hk.elim
  cases x with
  |func f=>
   simp only[qcall]at hk
   split at hk
   ·rename_i C hC
    have fin: ∀C,Sound P f C→qcon C h (args.toList.map env) k→_:=fun C hC hk=>direct0 f C _ (args.map ev) (do let d←resolve ev { callee:= .value (.func f),args,argTypes:=ats } ty;invoke d.target d.args) hC (by simpa using hargs) hk (by simp[resolve,invoke,hev,Deferred.ofValue])
    split at hk
    ·rename_i C' hC'
     cases hb:T.pan.isEmpty with
     |true=>
      rw[hb]at hk
      rcases hk with hk|hk
      ·exact fin C (tok.fs f C hC) hk
      ·exact fin C' (tok.alts f C' hC') hk
     |false=>rw[hb]at hk;exact fin C (tok.fs f C hC) hk
    ·exact fin C (tok.fs f C hC) hk
   ·exact hk.elim
  |_=>exact indirect hk

end
end Fw
end
section
set_option linter.unusedVariables false
set_option linter.unusedSimpArgs false
namespace Fw
open Go Go.RowKit

section
variable {P : Program} {T : Ctx} {F : Fr} {w0 w : World} {O0 : Nat → Prop} {N : Nat} {A : AState} {ι : Nat → Value} {a : Act}

theorem obj_blk {w:World} {O:OO} {base:Nat} {o:Obj} {v:Value} {b:Nat} (hA:o.isA=false) (h:ObjRep w O base o v) (hb:hblk v=some b):base≤b∧b<w.heap.size:=by
 cases o with
 |row e t xs=>
  obtain⟨vs,h1,_⟩:=h
  rcases h1.2 with⟨rfl,_⟩|⟨g,cap,cur,rfl,hg,hh,_⟩
  ·simp[hblk]at hb
  ·have:g=b:=by simpa [hblk]using hb
   subst this
   exact⟨hg,(Array.getElem?_eq_some_iff.1 hh).1⟩
 |iter s p=>
  obtain⟨g,rfl,hg,hh⟩:=h
  have:g=b:=by simpa [hblk]using hb
  subst this
  exact⟨hg,(Array.getElem?_eq_some_iff.1 hh).1⟩
 |box cs=>
  obtain⟨g,vs,e,rfl,hg,hh,_⟩:=h
  have:g=b:=by simpa [hblk]using hb
  subst this
  exact⟨hg,(Array.getElem?_eq_some_iff.1 hh).1⟩
 |aren e t ms=>cases hA
 |abox s ms=>cases hA
theorem ex_isA {h:Hp} {id:Nat} {o:Obj} (he:ex h id=some o):o.isA=false:=by
 rcases ex_cases he with⟨_,h⟩|⟨_,K,j,_,hm⟩
 ·exact h
 ·unfold member at hm
  split at hm
  ·split at hm
   ·injection hm with hm;subst hm;rfl
   ·cases hm
  ·split at hm
   ·injection hm with hm;subst hm;rfl
   ·cases hm
  ·cases hm

theorem Rel.free (R:Rel T F w0 O0 N A ι a w) (K j:Nat):A.heap (phi K j)=none:=by
 cases h:A.heap (phi K j)with
 |none=>rfl
 |some o=>
  have h1:=R.lim (phi K j) (by rw[h];simp)
  have h2:=phi_ge K j
  have h3:=R.bs
  omega
theorem Rel.mr (R:Rel T F w0 O0 N A ι a w):MR w (Own O0 A.heap ι) A.heap ι w0.heap.size:=by
 refine⟨fun id o h=> ?_,fun K j o h=> ?_,rfl,R.free⟩
 ·cases ha:o.isA with
  |true=>cases o<;>first|exact trivial|cases ha
  |false=>exact R.obj id o (ex_some h ha)
 ·exact R.obj _ o (by rw[ex_mem (R.free K j)];exact h)
theorem Rel.lt (R:Rel T F w0 O0 N A ι a w): ∀b,Own O0 A.heap ι b→b<w.heap.size:=by
 rintro b (hb|⟨id,hid,hb⟩)
 ·exact Nat.lt_of_lt_of_le (R.o0.1 b hb) R.below.size
 ·obtain⟨o,ho⟩:=Option.ne_none_iff_exists'.1 hid
  exact(obj_blk (ex_isA ho) (R.obj id o ho) hb).2

theorem Rel.okw (R:Rel T F w0 O0 N A ι a w):OKO (Own O0 A.heap ι) w:=⟨R.lt,R.o0.2.below R.below⟩

theorem Rel.ev (R:Rel T F w0 O0 N A ι a w) (x:Operand):ARep w (Own O0 A.heap ι) ι (A.ev x) (a.eval x):=by
 cases x with
 |tmp t=>exact R.env t
 |const v=>exact constD_rep w _ v
 |global g=>exact rfl
 |func f=>exact⟨#[],rfl,rfl⟩
theorem Rel.alive (R:Rel T F w0 O0 N A ι a w) (x:Operand):(A.ev x).live A.heap:=by
 cases x with
 |tmp t=>exact R.wf t
 |const v=>simp[AState.ev,AV.live,AV.ids,AV.mids]
 |global g=>simp[AState.ev,AV.live,AV.ids,AV.mids]
 |func f=>simp[AState.ev,AV.live,AV.ids,AV.mids]

theorem q_sound (tok:Tok P T) (R:Rel T F w0 O0 N A ι a w) (o:Oper) {k:AV→Prop} (hk:qstep T o.op A.ev A.heap k):
  Answers P w (Own O0 A.heap ι) A.heap ι (execOp a.eval o) k:=by
 obtain⟨dst,op,type,pos,after,guard⟩:=o
 cases op<;>simp only[qstep]at hk
 case move x=>exact⟨_,hk,R.alive x, .inl ⟨_,w,by simp[execOp],R.ev x,Below.refl _ _⟩⟩
 case assign x=>exact⟨_,hk,R.alive x, .inl ⟨_,w,by simp[execOp],R.ev x,Below.refl _ _⟩⟩
 case pick c x y=>
  have:=(q_pick (P:=P) (R.ev c) (R.ev x) (R.ev y) (R.alive x) (R.alive y) hk).answers
  obtain⟨av,h1,h2,h3⟩:=this
  refine⟨av,h1,h2,h3.imp (fun⟨v,w',h4,h5⟩=>⟨v,w', ?_,h5⟩) (fun⟨f,args,h4,h5⟩=>⟨f,args, ?_,h5⟩)⟩<;>simpa [execOp]using h4
 case load t x=>exact(q_load tok.tt R.mr (R.ev x) hk).answers
 case nilCheck x=>
  unfold qnil at hk
  split at hk
  ·rename_i K j hx
   split at hk
   ·rename_i s ms hK
    split at hk
    ·rename_i cs hal
     have hr:=R.ev x
     rw[hx]at hr
     obtain⟨_,b,hb⟩:=ref_box R.mr hK hal hr
     exact⟨_,hk,by simp[AV.live,AV.ids,AV.mids], .inl ⟨a.eval x,w,by simp[execOp,hb],hr,Below.refl _ _⟩⟩
    ·exact hk.elim
   ·exact hk.elim
  ·split at hk
   ·rename_i hn
    rcases nil_false (R.ev x) hn with⟨p,hv⟩|⟨f,vs,hv⟩|⟨t,u,hv⟩
    ·exact⟨_,hk,R.alive x, .inl ⟨a.eval x,w,by simp[execOp,hv],R.ev x,Below.refl _ _⟩⟩
    ·exact⟨_,hk,R.alive x, .inl ⟨a.eval x,w,by simp[execOp,hv],R.ev x,Below.refl _ _⟩⟩
    ·exact⟨_,hk,R.alive x, .inl ⟨a.eval x,w,by simp[execOp,hv],R.ev x,Below.refl _ _⟩⟩
   ·exact hk.elim
 case binOp op t x y yt=>exact(q_bin tok.tt (xo:=x) (yo:=y) (R.ev x) (R.ev y) hk).answers
 case unOp op t x=>exact(q_un (R.ev x) hk).answers
 case convert s t x=>exact(q_conv tok.tt R.mr (R.ev x) hk).answers
 case makeInterface t x=>
  split at hk
  ·rename_i v i hx hi
   have hr:=R.ev x
   rw[hx]at hr
   split at hk
   ·exact hk.elim
   ·rename_i hd
    exact(q_makeInterface tok.tt hi (fun _ h=>hd h) hr hk).answers
  ·exact hk.elim
 case makeFunc fn first caps=>exact(q_makeFunc R.ev R.alive hk).answers
 case build t parts=>exact(q_build tok.tt R.ev hk).answers
 case buildSlice t len parts=>exact(q_buildSlice tok.tt R.ev R.lt hk).answers
 case slice t x lo hi mx=>
  split at hk
  ·rename_i id hx
   have hr:=R.ev x
   rw[hx]at hr
   refine(q_win tok.tt R.mr (vlo:=lo.map a.eval) (vhi:=hi.map a.eval) (vmx:=mx.map a.eval) hr ?_ ?_ ?_ hk).answers
   ·intro y hy
    cases lo with
    |none=>cases hy
    |some z=>simp at hy;subst hy;exact⟨_,rfl,R.ev z⟩
   ·intro y hy
    cases hi with
    |none=>cases hy
    |some z=>simp at hy;subst hy;exact⟨_,rfl,R.ev z⟩
   ·intro hy;cases mx<;>simp_all
  refine(q_slice tok.tt (R.ev x) (vlo:=lo.map a.eval) (vhi:=hi.map a.eval) (vmx:=mx.map a.eval) ?_ ?_ ?_ ?_ ?_ ?_ hk).answers
  ·intro y hy
   cases lo with
   |none=>cases hy
   |some z=>simp at hy;subst hy;exact⟨_,rfl,R.ev z⟩
  ·intro hy;cases lo<;>simp_all
  ·intro y hy
   cases hi with
   |none=>cases hy
   |some z=>simp at hy;subst hy;exact⟨_,rfl,R.ev z⟩
  ·intro hy;cases hi<;>simp_all
  ·intro y hy
   cases mx with
   |none=>cases hy
   |some z=>simp at hy;subst hy;exact⟨_,rfl,R.ev z⟩
  ·intro hy;cases mx<;>simp_all
 case fieldAddr s x f=>exact(q_fieldAddr tok.tt R.mr (R.ev x) (R.alive x) hk).answers
 case field t x f=>exact(q_field tok.tt (R.ev x) hk).answers
 case indexAddr t x ix=>exact(q_indexAddr tok.tt R.mr (R.ev x) (R.ev ix) (R.alive x) hk).answers
 case index t x ix=>exact(q_index tok.tt (R.ev x) (R.ev ix) hk).answers
 case extract t ix=>
  split at hk
  ·rename_i l hl
   split at hk
   ·rename_i d hd
    have hr:=R.ev t
    rw[hl]at hr
    exact(q_extract hr hd hk).answers
   ·exact hk.elim
  ·exact hk.elim
 case call c=>exact q_call tok R.mr R.okw R.ev (fun f=>rfl) hk

theorem objRep_keeps {w w':World} {O O':OO} {base:Nat} (k:Keeps w O w' O') {o:Obj} {v:Value} (hb: ∀b,hblk v=some b→w'.heap[b]? =w.heap[b]?) (h:ObjRep w O base o v):ObjRep w' O' base o v:=by
 cases o with
 |row e t xs=>
  obtain⟨vs,h1,h2⟩:=h
  refine⟨vs,⟨h1.1, ?_⟩,fun j hj=>ERep.imp k t _ _ _ _ _ (fun _ _ _ h=>h) (h2 j hj)⟩
  rcases h1.2 with⟨rfl,h0⟩|⟨g,cap,cur,rfl,hg,hh,r⟩
  ·exact .inl ⟨rfl,h0⟩
  ·exact .inr ⟨g,cap,cur,rfl,hg,by rw[hb g rfl];exact hh,r⟩
 |iter s p=>
  obtain⟨g,rfl,hg,hh⟩:=h
  exact⟨g,rfl,hg,by rw[hb g rfl];exact hh⟩
 |box cs=>
  obtain⟨g,vs,e,rfl,hg,hh,hl⟩:=h
  exact⟨g,vs,e,rfl,hg,by rw[hb g rfl];exact hh,LRep.keeps k cs _ hl⟩
 |aren e t ms=>trivial
 |abox s ms=>trivial

theorem put_getD_same {a:Act} {d:Nat} {v:Value} (h:d<a.tmps.size):(a.put (some d) v).tmps.getD d undef=v:=by
 simp[Act.put,Array.getD,h]
theorem put_getD_ne {a:Act} {d t:Nat} {v:Value} (h:d≠t):(a.put (some d) v).tmps.getD t undef=a.tmps.getD t undef:=by
 simp only[Act.put,Array.getD_eq_getD_getElem?]
 rw[Array.getElem?_setIfInBounds_ne h]

theorem Rel.move (R:Rel T F w0 O0 N A ι a w) {dst:Option Nat} (hd: ∀d,dst=some d→d<N) {r:WRes} {ι':Nat→Value} {v:Value} {w':World}
  (hbel:Below w0.heap.size w0 w') (hobj: ∀id o,ex r.heap id=some o→ObjRep w' (Own O0 r.heap ι') w0.heap.size o (ι' id))
  (hdist: ∀id id',ex r.heap id≠none→ex r.heap id'≠none→id≠id'→hblk (ι' id)=none∨hblk (ι' id)≠hblk (ι' id'))
  (hlim: ∀id,r.heap id≠none→A.heap id≠none∨(T.base≤id∧id<T.base+2000000)) (hfr: ∀id,id<T.base→id∉T.mods→r.heap id=A.heap id)
  (hst: ∀id,id<T.base→A.heap id≠none→r.heap id≠none∧ι' id=ι id) (hln:Names A.heap ι r.heap ι')
  (hk:Keeps w (Own O0 A.heap ι) w' (Own O0 r.heap ι')) (hsame: ∀id,A.heap id≠none→r.kill≠some id→ι' id=ι id∧r.heap id≠none)
  (hmem: ∀K j,member A.heap K j≠none→r.kill≠some K→r.kill≠some allA→ι' (phi K j)=ι (phi K j)∧member r.heap K j≠none)
  (hab: ∀K,isArH r.heap K→isArH A.heap K) (hv:dst≠none→ARep w' (Own O0 r.heap ι') ι' r.val v∧r.val.live r.heap):
  Rel T F w0 O0 N (r.act A dst) ι' (a.put dst v) w':=by
 have henv: ∀t,ARep w' (Own O0 r.heap ι') ι' (scrub r.kill A.env t) (a.tmps.getD t undef)∧(scrub r.kill A.env t).live r.heap:=by
  intro t
  have h1:=R.env t
  have h2:=R.wf t
  have plain:(∀id∈(A.env t).ids,r.kill≠some id)→(∀p∈(A.env t).mids,r.kill≠some p.1∧r.kill≠some allA)→ARep w' (Own O0 r.heap ι') ι' (A.env t) (a.tmps.getD t undef)∧(A.env t).live r.heap:=by
   intro h3 h4
   exact⟨ARep.iota _ _ (fun id hid=>(hsame id (h2.1 id hid) (h3 id hid)).1) (fun p hp=>(hmem p.1 p.2 (h2.2 p hp) (h4 p hp).1 (h4 p hp).2).1) (ARep.keeps hk _ _ h1),
    fun id hid=>(hsame id (h2.1 id hid) (h3 id hid)).2,fun p hp=>(hmem p.1 p.2 (h2.2 p hp) (h4 p hp).1 (h4 p hp).2).2⟩
  cases hkill:r.kill with
  |none=>
   simp only[scrub]
   exact plain (by rw[hkill];simp) (by rw[hkill];simp)
  |some id0=>
   simp only[scrub]
   rw[hkill]at plain
   have topc:ARep w' (Own O0 r.heap ι') ι' (.d .top) (a.tmps.getD t undef)∧(AV.d D.top).live r.heap:=⟨trivial,by simp[AV.live,AV.ids,AV.mids]⟩
   have beqf: ∀ {m n:Nat},Nat.beq m n=false→m≠n:=fun h e=>by subst e;simp at h
   cases hx:A.env t with
   |d x=>rw[hx]at plain;exact plain (by simp[AV.ids]) (by simp[AV.mids])
   |tup l=>rw[hx]at plain;exact plain (by simp[AV.ids]) (by simp[AV.mids])
   |bnd f l=>rw[hx]at plain;exact plain (by simp[AV.ids]) (by simp[AV.mids])
   |clo f c=>exact topc
   |own i=>
    rw[hx]at plain
    simp only[scrub1]
    cases hb:Nat.beq i id0 with
    |true=>exact topc
    |false=>exact plain (fun id hid e=>by injection e with e;simp[AV.ids]at hid;exact beqf hb (by rw[←hid,e])) (by simp[AV.mids])
   |ptr i o=>
    rw[hx]at plain
    simp only[scrub1]
    cases hb:Nat.beq i id0 with
    |true=>exact topc
    |false=>exact plain (fun id hid e=>by injection e with e;simp[AV.ids]at hid;exact beqf hb (by rw[←hid,e])) (by simp[AV.mids])
   |win i s lo n=>
    rw[hx]at plain
    simp only[scrub1]
    cases hb:Nat.beq i id0 with
    |true=>exact topc
    |false=>exact plain (fun id hid e=>by injection e with e;simp[AV.ids]at hid;exact beqf hb (by rw[←hid,e])) (by simp[AV.mids])
   |eptr i s ix o=>
    rw[hx]at plain
    simp only[scrub1]
    cases hb:Nat.beq i id0 with
    |true=>exact topc
    |false=>exact plain (fun id hid e=>by injection e with e;simp[AV.ids]at hid;exact beqf hb (by rw[←hid,e])) (by simp[AV.mids])
   |mptr K j s i o=>
    rw[hx]at plain
    simp only[scrub1]
    cases hb:(Nat.beq K id0||Nat.beq id0 allA)with
    |true=>exact topc
    |false=>
     simp only[Bool.or_eq_false_iff]at hb
     refine plain (by simp[AV.ids]) (fun p hp=> ?_)
     simp only[AV.mids,List.mem_singleton]at hp
     subst hp
     exact⟨fun e=>by injection e with e;exact beqf hb.1 e.symm,fun e=>by injection e with e;exact beqf hb.2 e⟩
   |bptr K j o=>
    rw[hx]at plain
    simp only[scrub1]
    cases hb:(Nat.beq K id0||Nat.beq id0 allA)with
    |true=>exact topc
    |false=>
     simp only[Bool.or_eq_false_iff]at hb
     refine plain (by simp[AV.ids]) (fun p hp=> ?_)
     simp only[AV.mids,List.mem_singleton]at hp
     subst hp
     exact⟨fun e=>by injection e with e;exact beqf hb.1 e.symm,fun e=>by injection e with e;exact beqf hb.2 e⟩
 have lim': ∀id,r.heap id≠none→id<T.base+2000000:=fun id h=>(hlim id h).elim (R.lim id) (·.2)
 have fr': ∀id,id<T.base→id∉T.mods→r.heap id=F.h0 id:=fun id h1 h2=>(hfr id h1 h2).trans (R.fr id h1 h2)
 have st': ∀id,id<T.base→F.h0 id≠none→r.heap id≠none∧ι' id=F.ι0 id:=by
  intro id h1 h2
  obtain⟨h3,h4⟩:=R.st id h1 h2
  obtain⟨h5,h6⟩:=hst id h1 h3
  exact⟨h5,h6.trans h4⟩
 cases dst with
 |none=>
  exact⟨hbel,R.o0,fun t=>(henv t).1,hobj,hdist,fun t=>(henv t).2,R.size,R.defers,lim',fr',st',R.nw,R.ln.trans hln,R.bs,R.bh,fun K h=>R.ab K (hab K h)⟩
 |some d=>
  have hdN:=hd d rfl
  obtain⟨hv1,hv2⟩:=hv (by simp)
  refine⟨hbel,R.o0,fun t=> ?_,hobj,hdist,fun t=> ?_,by simp[Act.put,R.size],by simp[Act.put,R.defers],lim',fr',st',R.nw,R.ln.trans hln,R.bs,R.bh,fun K h=>R.ab K (hab K h)⟩
  ·show ARep w' _ ι' (upd (scrub r.kill A.env) d r.val t) _
   unfold upd
   cases hb:Nat.beq t d with
   |true=>
    have:=Nat.eq_of_beq_eq_true hb
    subst this
    rw[put_getD_same (by rw[R.size];exact hdN)]
    exact hv1
   |false=>
    have hne:d≠t:=fun e=>by subst e;simp at hb
    rw[put_getD_ne hne]
    exact(henv t).1
  ·show(upd (scrub r.kill A.env) d r.val t).live _
   unfold upd
   cases hb:Nat.beq t d with
   |true=>exact hv2
   |false=>exact(henv t).2

theorem Rel.set (R:Rel T F w0 O0 N A ι a w) {dst:Option Nat} (hd: ∀d,dst=some d→d<N) {av:AV} {v:Value} {w':World} (hb:Below w.heap.size w w')
  (ha:ARep w' (Own O0 A.heap ι) ι av v) (hi:av.live A.heap):Rel T F w0 O0 N (A.put dst av) ι (a.put dst v) w':=by
 have hk:Keeps w (Own O0 A.heap ι) w' (Own O0 A.heap ι):=Keeps.of_below hb
 have:=R.move (r:=⟨none,A.heap,av⟩) (ι':=ι) (v:=v) (w':=w') hd (R.below.trans (hb.mono R.below.size))
  (fun id o ho=>objRep_keeps hk (fun b hb'=>hb.block b (obj_blk (ex_isA ho) (R.obj id o ho) hb').2) (R.obj id o ho)) R.dist (fun id h=> .inl h) (fun id _ _=>rfl) (fun id _ h=>⟨h,rfl⟩) (Names.refl _ _) hk (fun id h _=>⟨rfl,h⟩) (fun K j h _ _=>⟨rfl,h⟩) (fun _ h=>h) (fun _=>⟨ha,hi⟩)
 cases dst<;>exact this

end
end Fw
end
section
set_option linter.unusedVariables false
set_option linter.unusedSimpArgs false
namespace Fw
open Go Go.RowKit

section
variable {P : Program} {T : Ctx} {F : Fr} {w0 w : World} {O0 : Nat → Prop} {N : Nat} {A : AState} {ι : Nat → Value} {a : Act}

theorem D.one_rep {O:OO} {d:D} {v:Value} (h:VRep w O d v) (h1:d.one=true):v.oneCell'=true:=by
 cases d with
 |int k n=>have h':v=_:=h;subst h';rfl
 |bool b=>have h':v=_:=h;subst h';rfl
 |str s=>have h':v=_:=h;subst h';rfl
 |slc f t xs=>obtain⟨⟨_,_,rfl,_⟩,_⟩:=h;rfl
 |agg cs=>simp[D.one]at h1
 |iface t d=>obtain⟨_,rfl,_⟩:=h;rfl
 |rptr cs=>obtain⟨_,rfl,_⟩:=h;rfl
 |clo f cs=>obtain⟨_,rfl,_⟩:=h;rfl
 |bfn f cs=>obtain⟨_,rfl,_⟩:=h;rfl
 |ref K j=>exact h.2
 |val u=>have h':v=u:=h;subst h';cases v<;>first|rfl|simp[D.one]at h1
 |top=>simp[D.one]at h1
theorem ones_rep {O:OO}: ∀ {ds:List D} {vs:List Value},LRep w O ds vs→ds.all D.one=true→ ∀u∈vs,u.oneCell'=true
 |[],_,h,_,u,hu=>by have h':_=[]:=h;subst h';simp at hu
 |d::ds,_,⟨v,vs,h1,h2,h3⟩,ha,u,hu=>by
  subst h1
  simp only[List.all_cons,Bool.and_eq_true]at ha
  rcases List.mem_cons.1 hu with rfl|hu
  ·exact D.one_rep h2 ha.1
  ·exact ones_rep h3 ha.2 u hu
theorem cells_one: ∀(t:Ty) (x:t.El),(t.cells x).all D.one=true
 | .int _,_=>rfl
 | .bool,_=>rfl
 | .str,_=>rfl
 | .slc _,_=>rfl
 | .pair a b,x=>by simp[Ty.cells,List.all_append];exact⟨by simpa using cells_one a x.1,by simpa using cells_one b x.2⟩
 | .unit,_=>rfl
 | .ref _,_=>rfl
theorem RowRep.one {O:OO} {t:Ty} {xs:List t.El} {vs:List Value} (h:RowRep w O t xs vs) (hp:0<t.size): ∀u∈vs,u.oneCell'=true:=by
 intro u hu
 obtain⟨i,hi,rfl⟩:=List.mem_iff_getElem.1 hu
 have hq:i/t.size<xs.length:=by rw[Nat.div_lt_iff_lt_mul hp, ←h.1];exact hi
 obtain⟨us,k1,k2⟩:=ERep.cells t _ _ _ (h.2 _ hq)
 have hm:i%t.size<us.length:=by rw[k1.length,cells_length];exact Nat.mod_lt _ hp
 have:=k2 (i%t.size) us[i%t.size] (List.getElem?_eq_getElem hm)
 unfold Fw.lat at this
 rw[Nat.mul_comm,Nat.div_add_mod,List.getElem?_eq_getElem hi]at this
 injection this with this
 rw[this]
 exact ones_rep k1 (cells_one t _) _ (List.getElem_mem hm)
theorem RowRep.keeps {w':World} {O O':OO} (k:Keeps w O w' O') {t:Ty} {xs:List t.El} {vs:List Value} (h:RowRep w O t xs vs):RowRep w' O' t xs vs:=
 ⟨h.1,fun j hj=>ERep.imp k t _ _ _ _ _ (fun _ _ _ h=>h) (h.2 j hj)⟩

theorem okM_spec {id:Nat} (h:okM T id=true):T.base≤id∨id∈T.mods:=by
 unfold okM at h
 cases hb:Nat.ble T.base id with
 |true=>exact .inl (Nat.le_of_ble_eq_true hb)
 |false=>
  rw[hb]at h
  simp only[cond_false]at h
  right
  have: ∀ {l:List Nat},memN id l=true→id∈l:=by
   intro l
   induction l with
   |nil=>intro h;cases h
   |cons m l ih=>
    intro h
    unfold memN at h
    cases hb:Nat.beq id m with
    |true=>exact List.mem_cons.2 (.inl (Nat.eq_of_beq_eq_true hb))
    |false=>rw[hb]at h;exact List.mem_cons.2 (.inr (ih h))
  exact this h

theorem updh_eq (f:Hp) (d:Nat) (v:Option Obj) (i:Nat):upd f d v i=if i=d then v else f i:=by
 unfold upd
 by_cases e:i=d
 ·subst e;simp
 ·have:Nat.beq i d=false:=by cases h:Nat.beq i d with
   |true=>exact absurd (Nat.eq_of_beq_eq_true h) e
   |false=>rfl
  simp[this,e]
theorem upde_eq {α:Type} (f:Nat→α) (d:Nat) (v:α) (i:Nat):upd f d v i=if i=d then v else f i:=by
 unfold upd
 by_cases e:i=d
 ·subst e;simp
 ·have:Nat.beq i d=false:=by cases h:Nat.beq i d with
   |true=>exact absurd (Nat.eq_of_beq_eq_true h) e
   |false=>rfl
  simp[this,e]
def Obj.ordO:Option Obj→Bool
 |some o=> !o.isA
 |none=>true
theorem isArH_upd {h:Hp} {d K:Nat} {o:Option Obj} (ho:Obj.ordO o=true):isArH (upd h d o) K→isArH h K:=by
 rintro⟨p,h1,h2⟩
 rw[updh_eq]at h1
 split at h1
 ·subst h1
  simp[Obj.ordO,h2]at ho
 ·exact⟨p,h1,h2⟩
theorem isArH_arena {h:Hp} {d K:Nat} {o:Obj} (hd:isArH h d):isArH (upd h d (some o)) K→isArH h K:=by
 rintro⟨p,h1,h2⟩
 rw[updh_eq]at h1
 split at h1
 ·rename_i e;rw[e];exact hd
 ·exact⟨p,h1,h2⟩
theorem member_ord {h:Hp} {K j:Nat} (ho:Obj.ordO (h K)=true):member h K j=none:=by
 unfold member
 cases hk:h K with
 |none=>rfl
 |some o=>rw[hk]at ho;cases o<;>first|rfl|(simp[Obj.ordO,Obj.isA]at ho)
theorem arLen_ord {h:Hp} {K:Nat} (ho:Obj.ordO (h K)=true):arLen h K=0:=by
 unfold arLen
 cases hk:h K with
 |none=>rfl
 |some o=>rw[hk]at ho;cases o<;>first|rfl|(simp[Obj.ordO,Obj.isA]at ho)
theorem member_upd {h:Hp} {d K j:Nat} {o:Option Obj} (ho:Obj.ordO (h d)=true) (ho':Obj.ordO o=true):member (upd h d o) K j=member h K j:=by
 by_cases e:K=d
 ·subst e
  rw[member_ord ho,member_ord (by rw[updh_eq,if_pos rfl];exact ho')]
 ·unfold member
  rw[updh_eq,if_neg e]
theorem arLen_upd {h:Hp} {d K:Nat} {o:Option Obj} (ho:Obj.ordO (h d)=true) (ho':Obj.ordO o=true):arLen (upd h d o) K=arLen h K:=by
 by_cases e:K=d
 ·subst e
  rw[arLen_ord ho,arLen_ord (by rw[updh_eq,if_pos rfl];exact ho')]
 ·unfold arLen
  rw[updh_eq,if_neg e]
theorem ex_upd {h:Hp} {d:Nat} {o:Option Obj} (hd: ∀K j,d≠phi K j) (ho:Obj.ordO (h d)=true) (ho':Obj.ordO o=true) (id:Nat):ex (upd h d o) id=if id=d then o else ex h id:=by
 by_cases e:id=d
 ·subst e
  rw[if_pos rfl]
  unfold ex
  rw[updh_eq,if_pos rfl]
  cases o with
  |none=>simp only;exact memAt_not hd
  |some o=>simp[Obj.ordO]at ho';simp[ho']
 ·rw[if_neg e]
  unfold ex
  rw[updh_eq,if_neg e]
  cases hid:h id with
  |some o=>rfl
  |none=>
   simp only
   by_cases hx: ∃p:Nat×Nat,id=phi p.1 p.2
   ·obtain⟨⟨K,j⟩,rfl⟩:=hx
    rw[memAt_phi,memAt_phi,member_upd ho ho']
   ·rw[memAt_not (fun K j e=>hx ⟨(K,j),e⟩),memAt_not (fun K j e=>hx ⟨(K,j),e⟩)]
theorem Rel.fresh0 (R:Rel T F w0 O0 N A ι a w) {dst:Option Nat} (hd: ∀d,dst=some d→d<N) {n:Nat} (hfree:ex A.heap n=none) {o:Obj} (hA:o.isA=false) {hv v:Value} {val:AV} {w':World} {h':Hp}
  (hex: ∀id,ex h' id=if id=n then some o else ex A.heap id)
  (hlim: ∀id,h' id≠none→A.heap id≠none∨(T.base≤id∧id<T.base+2000000)) (hfr: ∀id,id<T.base→id∉T.mods→h' id=A.heap id)
  (hdom: ∀id,A.heap id≠none→h' id≠none∧id≠n) (hln: ∀K,arLen A.heap K≤arLen h' K∧ ∀j,j<arLen A.heap K→phi K (j+1)≠n)
  (hmem: ∀K j,member A.heap K j≠none→member h' K j≠none∧phi K j≠n)
  (hab: ∀K,isArH h' K→isArH A.heap K) (hb:Below w.heap.size w w') (hobj: ∀O',Keeps w (Own O0 A.heap ι) w' O'→ObjRep w' O' w.heap.size o hv)
  (hval:Names A.heap ι h' (upd ι n hv)→ARep w' (Own O0 h' (upd ι n hv)) (upd ι n hv) val v) (hids:val.live h') {kl:Option Nat}:
  let r:WRes:=⟨kl,h',val⟩
  ∃ι',Rel T F w0 O0 N (r.act A dst) ι' (a.put dst v) w'∧Keeps w (Own O0 A.heap ι) w' (Own O0 r.heap ι'):=by
 intro r
 have hh: ∀id,ex r.heap id=if id=n then some o else ex A.heap id:=hex
 have hι: ∀id,upd ι n hv id=if id=n then hv else ι id:=upde_eq ι n hv
 have hN:Names A.heap ι h' (upd ι n hv):=fun K=>⟨(hln K).1,fun j hj=>by rw[hι,if_neg ((hln K).2 j hj)]⟩
 have hnew: ∀b,hblk hv=some b→w.heap.size≤b:=fun b hb'=>(obj_blk hA (hobj ⟨fun b=>Own O0 A.heap ι b∨w.heap.size≤b,(Own O0 A.heap ι).nm⟩ ⟨fun b h _=>hb.block b h,fun b h hn hn'=>hn'.elim hn (fun h'=>by omega),fun _ _ _ h=>h⟩) hb').1
 have hk:Keeps w (Own O0 A.heap ι) w' (Own O0 r.heap (upd ι n hv)):=by
  refine⟨fun b h _=>hb.block b h,fun b h hn=> ?_,hN.nm⟩
  rintro(h0|⟨id,hid,hbk⟩)
  ·exact hn (.inl h0)
  ·rw[hh]at hid
   rw[hι]at hbk
   by_cases e:id=n
   ·rw[if_pos e]at hbk;have:=hnew b hbk;omega
   ·rw[if_neg e]at hid hbk;exact hn (.inr ⟨id,hid,hbk⟩)
 refine⟨upd ι n hv,R.move hd (R.below.trans (hb.mono R.below.size)) ?_ ?_ hlim hfr (fun id _ h=>⟨(hdom id h).1,by rw[hι,if_neg (hdom id h).2]⟩) hN hk
  (fun id h _=>⟨by rw[hι,if_neg (hdom id h).2],(hdom id h).1⟩) (fun K j h _ _=>⟨by rw[hι,if_neg (hmem K j h).2],(hmem K j h).1⟩) hab (fun _=>⟨hval hN,hids⟩),hk⟩
 ·intro id o' ho'
  rw[hh]at ho'
  rw[hι]
  by_cases e:id=n
  ·rw[if_pos e]at ho'⊢
   injection ho' with ho'
   subst ho'
   have:=hobj _ hk
   cases o with
   |row e t xs=>
    obtain⟨vs,h1,h2⟩:=this
    refine⟨vs,⟨h1.1, ?_⟩,h2⟩
    rcases h1.2 with h3|⟨g,cap,cur,h3,h4,h5⟩
    ·exact .inl h3
    ·exact .inr ⟨g,cap,cur,h3,Nat.le_trans R.below.size h4,h5⟩
   |box cs=>
    obtain⟨g,vs,e,h1,h2,h3⟩:=this
    exact⟨g,vs,e,h1,Nat.le_trans R.below.size h2,h3⟩
   |iter s p=>
    obtain⟨g,h1,h2,h3⟩:=this
    exact⟨g,h1,Nat.le_trans R.below.size h2,h3⟩
   |aren e t ms=>trivial
   |abox s ms=>trivial
  ·rw[if_neg e]at ho'⊢
   exact objRep_keeps hk (fun b hb'=>hb.block b (obj_blk (ex_isA ho') (R.obj id o' ho') hb').2) (R.obj id o' ho')
 ·intro id id' h1 h2 hne
  rw[hh]at h1 h2
  rw[hι,hι]
  have old: ∀i,ex A.heap i≠none→ ∀b,hblk (ι i)=some b→b<w.heap.size:=fun i hi b hbk=>R.lt b (.inr ⟨i,hi,hbk⟩)
  by_cases e:id=n
  ·by_cases e':id'=n
   ·exact absurd (e.trans e'.symm) hne
   ·rw[if_pos e,if_neg e']
    rw[if_neg e']at h2
    cases hx:hblk hv with
    |none=>exact .inl rfl
    |some b=>exact .inr fun he=>by have:=hnew b hx;have:=old id' h2 b he.symm;omega
  ·by_cases e':id'=n
   ·rw[if_neg e,if_pos e']
    rw[if_neg e]at h1
    cases hx:hblk (ι id)with
    |none=>exact .inl rfl
    |some b=>exact .inr fun he=>by have:=hnew b he.symm;have:=old id h1 b hx;omega
   ·rw[if_neg e,if_neg e']
    rw[if_neg e]at h1
    rw[if_neg e']at h2
    exact R.dist id id' h1 h2 hne

theorem Rel.notphi (R:Rel T F w0 O0 N A ι a w) {d:Nat} (hd:d<T.base+2000000) (K j:Nat):d≠phi K j:=by
 have h1:=phi_ge K j
 have h2:=R.bs
 omega
theorem Rel.notphi' (R:Rel T F w0 O0 N A ι a w) {d:Nat} (hd:A.heap d≠none) (K j:Nat):d≠phi K j:=R.notphi (R.lim d hd) K j

theorem Rel.fresh (R:Rel T F w0 O0 N A ι a w) {dst:Option Nat} (hd: ∀d,dst=some d→d<N) {d:Nat} (hfree:A.heap d=none) (hdb:T.base≤d∧d<T.base+2000000) {o:Obj} (hA:o.isA=false) {hv v:Value} {val:AV} {w':World}
  (hb:Below w.heap.size w w') (hobj: ∀O',Keeps w (Own O0 A.heap ι) w' O'→ObjRep w' O' w.heap.size o hv)
  (hval: ∀O',ARep w' O' (upd ι d hv) val v) (hids: ∀id∈val.ids,id=d) (hmids:val.mids=[]):
  let r:WRes:=⟨none,upd A.heap d (some o),val⟩
  ∃ι',Rel T F w0 O0 N (r.act A dst) ι' (a.put dst v) w'∧Keeps w (Own O0 A.heap ι) w' (Own O0 r.heap ι'):=by
 have hnp:=R.notphi hdb.2
 have hord:Obj.ordO (A.heap d)=true:=by rw[hfree];rfl
 have hord':Obj.ordO (some o)=true:=by simp[Obj.ordO,hA]
 have hal: ∀id,A.heap id≠none→id≠d:=fun id h e=>h (by rw[e];exact hfree)
 refine R.fresh0 hd (n:=d) (o:=o) (hv:=hv) ?_ hA (ex_upd hnp hord hord') (fun id h=> ?_) (fun id h1 _=>by rw[updh_eq,if_neg (by omega)]) (fun id h=>⟨by rw[updh_eq,if_neg (hal id h)];exact h,hal id h⟩)
  (fun K=>⟨by rw[arLen_upd hord hord'];exact Nat.le_refl _,fun j _=>(hnp K (j+1)).symm⟩) (fun K j h=>⟨by rw[member_upd hord hord'];exact h,(hnp K j).symm⟩) (fun K=>isArH_upd hord') hb hobj (fun _=>hval _) ⟨fun id h=> ?_,fun p hp=>by rw[hmids]at hp;cases hp⟩
 ·unfold ex;rw[hfree];exact memAt_not hnp
 ·by_cases e:id=d
  ·exact .inr (by rw[e];exact hdb)
  ·rw[updh_eq,if_neg e]at h;exact .inl h
 ·rw[hids id h,updh_eq,if_pos rfl];simp

theorem Rel.change0 (R:Rel T F w0 O0 N A ι a w) {dst:Option Nat} (hd: ∀d,dst=some d→d<N) {id:Nat} {o o':Obj} (hid:ex A.heap id=some o) {h':Hp} (hex: ∀i,ex h' i=if i=id then some o' else ex A.heap i)
  (hdom: ∀i,A.heap i≠none↔h' i≠none) (hfr: ∀i,i<T.base→i∉T.mods→h' i=A.heap i) (hln: ∀K,arLen A.heap K≤arLen h' K) (hmem: ∀K j,member A.heap K j≠none→member h' K j≠none) (hab: ∀K,isArH h' K→isArH A.heap K)
  {v:Value} {val:AV} (hflat:val.ids=[]) (hflat':val.mids=[]) {w':World} {b:Nat}
  (hb: ∀b',hblk (ι id)=some b'→b'=b) (hbb:hblk (ι id)=none→w'=w) (hsame: ∀k,k≠b→w'.heap[k]? =w.heap[k]?) (hsz:w.heap.size≤w'.heap.size) (hos:w'.os=w.os) (htp:w'.tape=w.tape) (hout:w'.output=w.output)
  (hobj: ∀O',Keeps w (Own O0 A.heap ι) w' O'→ObjRep w' O' w0.heap.size o' (ι id)) (hval: ∀O',ARep w' O' ι val v):
  let r:WRes:=⟨none,h',val⟩
  Rel T F w0 O0 N (r.act A dst) ι (a.put dst v) w'∧Keeps w (Own O0 A.heap ι) w' (Own O0 r.heap ι):=by
 intro r
 have hh: ∀i,ex r.heap i=if i=id then some o' else ex A.heap i:=hex
 have hne:ex A.heap id≠none:=by rw[hid];simp
 have hN:Names A.heap ι r.heap ι:=fun K=>⟨hln K,fun _ _=>rfl⟩
 have hown: ∀b,Own O0 r.heap ι b↔Own O0 A.heap ι b:=by
  intro b'
  constructor
  ·rintro(h|⟨i,hi,hbk⟩)
   ·exact .inl h
   ·rw[hh]at hi
    by_cases e:i=id
    ·subst e;exact .inr ⟨i,hne,hbk⟩
    ·rw[if_neg e]at hi;exact .inr ⟨i,hi,hbk⟩
  ·rintro(h|⟨i,hi,hbk⟩)
   ·exact .inl h
   ·refine .inr ⟨i, ?_,hbk⟩
    rw[hh];split
    ·simp
    ·exact hi
 have hw:w'=w∨hblk (ι id)=some b:=by
  cases hx:hblk (ι id)with
  |none=>exact .inl (hbb hx)
  |some b'=>right;rw[hb b' hx]
 have hk:Keeps w (Own O0 A.heap ι) w' (Own O0 r.heap ι):=by
  refine⟨fun k h hn=> ?_,fun k h hn hn'=>hn ((hown k).1 hn'),hN.nm⟩
  rcases hw with rfl|hw
  ·rfl
  ·exact hsame k fun e=>hn (.inr ⟨id,hne,by rw[e];exact hw⟩)
 have hbel:Below w0.heap.size w0 w':=by
  refine R.below.trans ⟨hos,htp,hout,hsz,fun k hk'=> ?_⟩
  rcases hw with rfl|hw
  ·rfl
  ·have:=(obj_blk (ex_isA hid) (R.obj id o hid) hw).1
   exact hsame k (by omega)
 refine⟨R.move hd hbel ?_ ?_ (fun i h=> .inl ((hdom i).2 h)) hfr (fun i _ h=>⟨(hdom i).1 h,rfl⟩) hN hk (fun i h _=>⟨rfl,(hdom i).1 h⟩) (fun K j h _ _=>⟨rfl,hmem K j h⟩) hab ?_,hk⟩
 ·intro i o2 ho2
  rw[hh]at ho2
  by_cases e:i=id
  ·rw[if_pos e]at ho2
   injection ho2 with ho2
   subst ho2 e
   exact hobj _ hk
  ·rw[if_neg e]at ho2
   refine objRep_keeps hk (fun b' hb'=> ?_) (R.obj i o2 ho2)
   rcases hw with rfl|hw
   ·rfl
   ·refine hsame b' fun e2=> ?_
    subst e2
    rcases R.dist i id (by rw[ho2];simp) hne e with h|h
    ·rw[hb']at h;cases h
    ·exact h (hb'.trans hw.symm)
 ·intro i j h1 h2 hij
  have fix: ∀i,ex r.heap i≠none→ex A.heap i≠none:=by
   intro i hi
   rw[hh]at hi
   by_cases e:i=id
   ·rw[e];exact hne
   ·rw[if_neg e]at hi;exact hi
  exact R.dist i j (fix i h1) (fix j h2) hij
 ·intro _
  exact⟨hval _,⟨fun id hid=>(by have hid':id∈val.ids:=hid;rw[hflat]at hid';cases hid'),fun p hp=>(by have hp':p∈val.mids:=hp;rw[hflat']at hp';cases hp')⟩⟩

theorem Rel.change (R:Rel T F w0 O0 N A ι a w) {dst:Option Nat} (hd: ∀d,dst=some d→d<N) {id:Nat} {o o':Obj} (hid:A.heap id=some o) (hA:o.isA=false) (hA':o'.isA=false) (hm:okM T id=true) {v:Value} {val:AV} (hflat:val.ids=[]) (hflat':val.mids=[]) {w':World} {b:Nat}
  (hb: ∀b',hblk (ι id)=some b'→b'=b) (hbb:hblk (ι id)=none→w'=w) (hsame: ∀k,k≠b→w'.heap[k]? =w.heap[k]?) (hsz:w.heap.size≤w'.heap.size) (hos:w'.os=w.os) (htp:w'.tape=w.tape) (hout:w'.output=w.output)
  (hobj: ∀O',Keeps w (Own O0 A.heap ι) w' O'→ObjRep w' O' w0.heap.size o' (ι id)) (hval: ∀O',ARep w' O' ι val v):
  let r:WRes:=⟨none,upd A.heap id (some o'),val⟩
  Rel T F w0 O0 N (r.act A dst) ι (a.put dst v) w'∧Keeps w (Own O0 A.heap ι) w' (Own O0 r.heap ι):=by
 have hne:A.heap id≠none:=by rw[hid];simp
 have hord:Obj.ordO (A.heap id)=true:=by rw[hid];simp[Obj.ordO,hA]
 have hord':Obj.ordO (some o')=true:=by simp[Obj.ordO,hA']
 refine R.change0 hd (ex_some hid hA) (ex_upd (R.notphi' hne) hord hord') (fun i=> ?_) (fun i h1 h2=> ?_) (fun K=>by rw[arLen_upd hord hord'];exact Nat.le_refl _) (fun K j h=>by rw[member_upd hord hord'];exact h) (fun K=>isArH_upd hord') hflat hflat' hb hbb hsame hsz hos htp hout hobj hval
 ·rw[updh_eq]
  by_cases e:i=id
  ·rw[if_pos e,e];exact⟨fun _=>by simp,fun _=>hne⟩
  ·rw[if_neg e]
 ·rw[updh_eq,if_neg]
  intro e
  subst e
  rcases okM_spec hm with h|h
  ·omega
  ·exact h2 h

end
end Fw
end
section
set_option linter.unusedVariables false
set_option linter.unusedSimpArgs false
namespace Fw
open Go Go.RowKit

section
variable {P : Program} {T : Ctx} {F : Fr} {w0 w : World} {O0 : Nat → Prop} {N : Nat} {A : AState} {ι : Nat → Value} {a : Act}

theorem upd_eq {α:Type} (f:Nat→α) (d:Nat) (v:α) (i:Nat):upd f d v i=if i=d then v else f i:=by
 unfold upd
 by_cases e:i=d
 ·subst e;simp
 ·have:Nat.beq i d=false:=by cases h:Nat.beq i d with
   |true=>exact absurd (Nat.eq_of_beq_eq_true h) e
   |false=>rfl
  simp[this,e]

theorem Rel.consume0 (R:Rel T F w0 O0 N A ι a w) {dst:Option Nat} (hd: ∀d,dst=some d→d<N) {id n:Nat} {kl:Option Nat} {o o':Obj} (hid:ex A.heap id=some o) (hA':o'.isA=false) {h':Hp}
  (hex: ∀i,ex h' i=if i=n then some o' else if i=id then none else ex A.heap i) (hfree:n=id∨ex A.heap n=none)
  (hlim: ∀i,h' i≠none→A.heap i≠none∨(T.base≤i∧i<T.base+2000000)) (hfr: ∀i,i<T.base→i∉T.mods→h' i=A.heap i)
  (hst: ∀i,i<T.base→A.heap i≠none→h' i≠none∧i≠n) (hln: ∀K,arLen A.heap K≤arLen h' K∧ ∀j,j<arLen A.heap K→phi K (j+1)≠n)
  (hsm: ∀i,A.heap i≠none→kl≠some i→h' i≠none∧i≠n) (hmem: ∀K j,member A.heap K j≠none→kl≠some K→kl≠some allA→member h' K j≠none∧phi K j≠n) (hab: ∀K,isArH h' K→isArH A.heap K)
  {hv v:Value} {val:AV} {w':World}
  (hsame: ∀k,k<w.heap.size→hblk (ι id)≠some k→w'.heap[k]? =w.heap[k]?) (hsz:w.heap.size≤w'.heap.size) (hos:w'.os=w.os) (htp:w'.tape=w.tape) (hout:w'.output=w.output)
  (hobj: ∀O',Keeps w (Own O0 A.heap ι) w' O'→ObjRep w' O' w0.heap.size o' hv) (hnew: ∀b,hblk hv=some b→hblk (ι id)=some b∨w.heap.size≤b)
  (hval:Names A.heap ι h' (upd ι n hv)→ARep w' (Own O0 h' (upd ι n hv)) (upd ι n hv) val v) (hids:val.live h'):
  let r:WRes:=⟨kl,h',val⟩
  ∃ι',Rel T F w0 O0 N (r.act A dst) ι' (a.put dst v) w'∧Keeps w (Own O0 A.heap ι) w' (Own O0 r.heap ι'):=by
 intro r
 have hne:ex A.heap id≠none:=by rw[hid];simp
 have hh: ∀i,ex r.heap i=if i=n then some o' else if i=id then none else ex A.heap i:=hex
 have hι: ∀i,upd ι n hv i=if i=n then hv else ι i:=upd_eq ι n hv
 have hN:Names A.heap ι h' (upd ι n hv):=fun K=>⟨(hln K).1,fun j hj=>by rw[hι,if_neg ((hln K).2 j hj)]⟩
 have old: ∀i,ex A.heap i≠none→ ∀b,hblk (ι i)=some b→b<w.heap.size:=fun i hi b hbk=>R.lt b (.inr ⟨i,hi,hbk⟩)
 have hk:Keeps w (Own O0 A.heap ι) w' (Own O0 r.heap (upd ι n hv)):=by
  refine⟨fun b h hn=>hsame b h fun e=>hn (.inr ⟨id,hne,e⟩),fun b h hn=> ?_,hN.nm⟩
  rintro(h0|⟨i,hi,hbk⟩)
  ·exact hn (.inl h0)
  ·rw[hh]at hi
   rw[hι]at hbk
   by_cases e:i=n
   ·rw[if_pos e]at hbk
    rcases hnew b hbk with h1|h1
    ·exact hn (.inr ⟨id,hne,h1⟩)
    ·omega
   ·rw[if_neg e]at hi hbk
    by_cases e2:i=id
    ·rw[if_pos e2]at hi;exact hi rfl
    ·rw[if_neg e2]at hi;exact hn (.inr ⟨i,hi,hbk⟩)
 have hbel:Below w0.heap.size w0 w':=by
  refine R.below.trans ⟨hos,htp,hout,hsz,fun k hk'=> ?_⟩
  have hkw:k<w.heap.size:=Nat.lt_of_lt_of_le hk' R.below.size
  refine hsame k hkw fun e=> ?_
  have:=(obj_blk (ex_isA hid) (R.obj id o hid) e).1
  omega
 refine⟨upd ι n hv,R.move hd hbel ?_ ?_ hlim hfr (fun i h1 h=>⟨(hst i h1 h).1,by rw[hι,if_neg (hst i h1 h).2]⟩) hN hk
  (fun i h h2=>⟨by rw[hι,if_neg (hsm i h h2).2],(hsm i h h2).1⟩) (fun K j h h2 h3=>⟨by rw[hι,if_neg (hmem K j h h2 h3).2],(hmem K j h h2 h3).1⟩) hab (fun _=>⟨hval hN,hids⟩),hk⟩
 ·intro i o2 ho2
  rw[hh]at ho2
  rw[hι]
  by_cases e:i=n
  ·rw[if_pos e]at ho2⊢
   injection ho2 with ho2
   subst ho2
   exact hobj _ hk
  ·rw[if_neg e]at ho2⊢
   by_cases e2:i=id
   ·rw[if_pos e2]at ho2;cases ho2
   ·rw[if_neg e2]at ho2
    refine objRep_keeps hk (fun b' hb'=>hsame b' (old i (by rw[ho2];simp) b' hb') fun e3=> ?_) (R.obj i o2 ho2)
    rcases R.dist i id (by rw[ho2];simp) hne e2 with h|h
    ·rw[hb']at h;cases h
    ·exact h (hb'.trans e3.symm)
 ·intro i j h1 h2 hij
  rw[hh]at h1 h2
  rw[hι,hι]
  have key: ∀i,i≠n→(if i=n then some o' else if i=id then none else ex A.heap i)≠none→ex A.heap i≠none∧i≠id:=by
   intro i h3 h4
   rw[if_neg h3]at h4
   by_cases e2:i=id
   ·rw[if_pos e2]at h4;exact absurd rfl h4
   ·rw[if_neg e2]at h4;exact⟨h4,e2⟩
  have cross: ∀i,ex A.heap i≠none→i≠id→ ∀b,hblk hv=some b→hblk (ι i)≠some b:=by
   intro i h3 h4 b hb he
   rcases hnew b hb with h5|h5
   ·rcases R.dist i id h3 hne h4 with h|h
    ·rw[he]at h;cases h
    ·exact h (he.trans h5.symm)
   ·have:=old i h3 b he;omega
  by_cases e:i=n
  ·by_cases e':j=n
   ·exact absurd (e.trans e'.symm) hij
   ·rw[if_pos e,if_neg e']
    obtain⟨k1,k2⟩:=key j e' h2
    cases hx:hblk hv with
    |none=>exact .inl rfl
    |some b=>exact .inr fun he=>cross j k1 k2 b hx he.symm
  ·by_cases e':j=n
   ·rw[if_neg e,if_pos e']
    obtain⟨k1,k2⟩:=key i e h1
    cases hx:hblk hv with
    |none=>
     cases hy:hblk (ι i)with
     |none=>exact .inl rfl
     |some b=>exact .inr (by simp)
    |some b=>exact .inr fun he=>cross i k1 k2 b hx he
   ·rw[if_neg e,if_neg e']
    obtain⟨k1,k2⟩:=key i e h1
    obtain⟨k3,k4⟩:=key j e' h2
    exact R.dist i j k1 k3 hij

theorem Rel.consume (R:Rel T F w0 O0 N A ι a w) {dst:Option Nat} (hd: ∀d,dst=some d→d<N) {id d:Nat} {o o':Obj} (hid:A.heap id=some o) (hA:o.isA=false) (hA':o'.isA=false) (hok:okId A.heap id d=true) (hib:T.base≤id) (hdb:T.base≤d∧d<T.base+2000000) {hv v:Value} {val:AV} {w':World}
  (hsame: ∀k,k<w.heap.size→hblk (ι id)≠some k→w'.heap[k]? =w.heap[k]?) (hsz:w.heap.size≤w'.heap.size) (hos:w'.os=w.os) (htp:w'.tape=w.tape) (hout:w'.output=w.output)
  (hobj: ∀O',Keeps w (Own O0 A.heap ι) w' O'→ObjRep w' O' w0.heap.size o' hv) (hnew: ∀b,hblk hv=some b→hblk (ι id)=some b∨w.heap.size≤b)
  (hval: ∀O',ARep w' O' (upd ι d hv) val v) (hids: ∀i∈val.ids,i=d) (hmids:val.mids=[]):
  let r:WRes:=⟨some id,upd (upd A.heap id none) d (some o'),val⟩
  ∃ι',Rel T F w0 O0 N (r.act A dst) ι' (a.put dst v) w'∧Keeps w (Own O0 A.heap ι) w' (Own O0 r.heap ι'):=by
 have hne:A.heap id≠none:=by rw[hid];simp
 have hfree:d=id∨A.heap d=none:=by
  unfold okId at hok
  cases hb:Nat.beq d id with
  |true=>exact .inl (Nat.eq_of_beq_eq_true hb)
  |false=>
   rw[hb]at hok
   simp only[cond_false]at hok
   cases hx:A.heap d with
   |none=>exact .inr rfl
   |some x=>rw[hx]at hok;cases hok
 have hal: ∀i,A.heap i≠none→i≠id→i≠d:=fun i h h2 e=>hfree.elim (fun h3=>h2 (e.trans h3)) (fun h3=>h (by rw[e];exact h3))
 have np:=R.notphi hdb.2
 have np2:=R.notphi' hne
 have o1:Obj.ordO (A.heap id)=true:=by rw[hid];simp[Obj.ordO,hA]
 have o2:Obj.ordO (some o')=true:=by simp[Obj.ordO,hA']
 have o3:Obj.ordO (upd A.heap id none d)=true:=by
  rw[updh_eq]
  split
  ·rfl
  ·rename_i h
   rw[hfree.resolve_left h];rfl
 have hh: ∀i,upd (upd A.heap id none) d (some o') i=if i=d then some o' else if i=id then none else A.heap i:=by
  intro i
  rw[updh_eq,updh_eq]
 refine R.consume0 hd (ex_some hid hA) hA' (n:=d) (kl:=some id) (fun i=> ?_) ?_ (fun i h=> ?_) (fun i h1 _=>by rw[hh,if_neg (by omega),if_neg (by omega)])
  (fun i h1 h=>⟨by rw[hh,if_neg (by omega),if_neg (by omega)];exact h,by omega⟩) (fun K=>⟨by rw[arLen_upd o3 o2,arLen_upd o1 rfl];exact Nat.le_refl _,fun j _=>(np K (j+1)).symm⟩)
  (fun i h h2=> ?_) (fun K j h h2 h3=>⟨by rw[member_upd o3 o2,member_upd o1 rfl];exact h,(np K j).symm⟩) (fun K h=>isArH_upd rfl (isArH_upd o2 h)) hsame hsz hos htp hout hobj hnew (fun _=>hval _) ⟨fun i hi=>by rw[hids i hi,hh,if_pos rfl];simp,fun p hp=>by rw[hmids]at hp;cases hp⟩
 ·rw[ex_upd np o3 o2,ex_upd np2 o1 rfl]
 ·rcases hfree with h|h
  ·exact .inl h
  ·exact .inr (by unfold ex;rw[h];exact memAt_not np)
 ·by_cases e:i=d
  ·exact .inr (by rw[e];exact hdb)
  ·rw[hh,if_neg e]at h
   by_cases e2:i=id
   ·rw[e2];exact .inl hne
   ·rw[if_neg e2]at h;exact .inl h
 ·have h3:i≠id:=fun e=>h2 (by rw[e])
  have h4:=hal i h h3
  exact⟨by rw[hh,if_neg h4,if_neg h3];exact h,h4⟩

theorem isSliceT_spec (tt: ∀t i,look T.tt t=some i→mkTI P t=some i) {t:Nat} (h:isSliceT T t=true): ∃e,P.underlying t=some (.slice e):=by
 unfold isSliceT at h
 split at h
 ·rename_i i hi
  obtain⟨inf,d,z,h1,h2,h3,h4,h5,h6,h7⟩:=mkTI_spec (tt _ _ hi)
  split at h
  ·rename_i e hd
   rw[hd]at h6
   rw[tdOf_slice h6]at h2
   exact⟨e,h2⟩
  ·cases h
 ·cases h

theorem elems_spec (R:Rel T F w0 O0 N A ι a w) {t:Ty} {x:AV} {v:Value} {k:List t.El→Prop} (hr:ARep w (Own O0 A.heap ι) ι x v) (hk:elems A.heap t x k):
  ∃ys us p c,k ys∧v= .slice p ys.length c∧RowRep w (Own O0 A.heap ι) t ys us∧(0<ys.length→ ∃ad,p=some ad∧ ∀j u,us[j]? =some u→w.cell? (ad.add j)=some u):=by
 unfold elems at hk
 cases hw:x.isWin with
 |true=>rw[hw]at hk;exact hk.elim
 |false=>
 rw[hw]at hk
 simp only[cond_false]at hk
 split at hk
 ·rename_i f t' ys hv
  split at hk
  ·rename_i zs hc
   obtain⟨e,rfl⟩:=castL_spec hc
   subst e
   cases x with
   |d d=>
    simp only[viewD,Option.some.injEq]at hv
    subst hv
    obtain⟨⟨p,c,rfl,hc,hcell⟩,_⟩:=hr
    by_cases h0:0<ys.length
    ·obtain⟨ad,hp,hcell2⟩:=hcell h0
     have: ∀n,n≤ys.length→ ∃us,RowRep w (Own O0 A.heap ι) t' (ys.take n) us∧ ∀j u,us[j]? =some u→w.cell? (ad.add j)=some u:=by
      intro n
      induction n with
      |zero=>intro _;exact⟨[],⟨by simp,fun j hj=>by simp at hj⟩,fun j u h=>by simp at h⟩
      |succ n ih=>
       intro hn
       obtain⟨us,h1,h2⟩:=ih (by omega)
       obtain⟨ws,k1,k2⟩:=ERep.cells t' _ _ _ (hcell2 n (by omega))
       have hwl:ws.length=t'.size:=by rw[k1.length,cells_length]
       refine⟨us++ws, ?_,fun j u hj=> ?_⟩
       ·have e:ys.take (n+1)=ys.take n++[ys[n]]:=by rw[List.take_succ_eq_append_getElem (by omega)]
        rw[e]
        refine h1.append ⟨by simp[hwl],fun j hj=> ?_⟩
        have hj0:j=0:=by simp at hj;omega
        subst hj0
        simp only[List.getElem_cons_zero,Nat.zero_mul]
        refine ERep.imp (Keeps.refl w _) t' _ _ _ _ _ (fun i u hi hu=> ?_) (hcell2 n (by omega))
        unfold Fw.lat
        rw[Nat.zero_add]
        have h3:=k2 i ws[i] (List.getElem?_eq_getElem (by omega))
        rw[List.getElem?_eq_getElem (by omega)]
        have h4:=h3.2.symm.trans hu.2
        simpa using h4
       ·have hul:us.length=n*t'.size:=by rw[h1.1,List.length_take,Nat.min_eq_left (by omega)]
        rcases Nat.lt_or_ge j us.length with hl|hl
        ·rw[List.getElem?_append_left hl]at hj;exact h2 j u hj
        ·rw[List.getElem?_append_right hl]at hj
         have:=(k2 _ u hj).2
         rw[←hul]at this
         have e:us.length+(j-us.length)=j:=by omega
         rw[e]at this;exact this
     obtain⟨us,h1,h2⟩:=this ys.length (Nat.le_refl _)
     rw[List.take_length]at h1
     exact⟨ys,us,p,c,hk,rfl,h1,fun _=>⟨ad,hp,h2⟩⟩
    ·have:ys=[]:=List.eq_nil_of_length_eq_zero (by omega)
     subst this
     exact⟨[],[],p,c,hk,rfl,⟨by simp,fun j hj=>by simp at hj⟩,fun h=>absurd h (by simp)⟩
   |own id=>
    simp only[viewD]at hv
    cases hid:A.heap id with
    |none=>rw[hid]at hv;cases hv
    |some o=>
     cases o with
     |box cs=>rw[hid]at hv;cases hv
     |iter s p=>rw[hid]at hv;cases hv
     |aren e t ms=>rw[hid]at hv;cases hv
     |abox s ms=>rw[hid]at hv;cases hv
     |row e t2 xs=>
      rw[hid]at hv
      simp only[Option.some.injEq,D.slc.injEq]at hv
      obtain⟨_,rfl,hx⟩:=hv
      have hx':=eq_of_heq hx
      subst hx'
      obtain⟨vs,h1,h2⟩:=R.mr.ho id _ hid
      have hr':v=ι id:=hr
      subst hr'
      rcases h1.2 with⟨hv,h0⟩|⟨g,cap,cur,hv,_⟩
      ·exact⟨xs,vs,none,0,hk,by rw[hv,h0],⟨h1.1,h2⟩,fun h=>by omega⟩
      ·exact⟨xs,vs,_,cap,hk,hv,⟨h1.1,h2⟩,fun _=>⟨_,rfl,fun j u hj=>by
        rw[hv]at h1;exact h1.cells (g:=g) rfl j u hj⟩⟩
   |ptr id off=>
    simp only[viewD]at hv
    split at hv<;>simp at hv
   |eptr _ _ _ _=>simp[viewD]at hv
   |win _ _ _ _=>cases hw
   |clo f caps=>
    simp only[viewD]at hv
    split at hv<;>simp at hv
   |tup l=>simp[viewD]at hv
   |bnd f l=>simp[viewD]at hv
   |mptr _ _ _ _ _=>simp[viewD]at hv
   |bptr _ _ _=>simp[viewD]at hv
  ·exact hk.elim
 ·rename_i hv
  cases x with
  |d d=>
   simp only[viewD,Option.some.injEq]at hv
   subst hv
   have hr':v= .slice none 0 0:=hr
   subst hr'
   exact⟨[],[],none,0,hk,rfl,⟨by simp,fun j hj=>by simp at hj⟩,fun h=>absurd h (by simp)⟩
  |own id=>
   simp only[viewD]at hv
   split at hv<;>simp at hv
  |ptr id off=>
   simp only[viewD]at hv
   split at hv<;>simp at hv
  |eptr _ _ _ _=>simp[viewD]at hv
  |win _ _ _ _=>cases hw
  |clo f caps=>
   simp only[viewD]at hv
   split at hv<;>simp at hv
  |tup l=>simp[viewD]at hv
  |bnd f l=>simp[viewD]at hv
  |mptr _ _ _ _ _=>simp[viewD]at hv
  |bptr _ _ _=>simp[viewD]at hv
 ·exact hk.elim

theorem ex_arena {h:Hp} {K:Nat} {o o':Obj} (hf: ∀K j,h (phi K j)=none) (hK:h K=some o) (hA:o.isA=true) (hA':o'.isA=true):
  (∀j,ex (upd h K (some o')) (phi K j)=member (upd h K (some o')) K j)∧(∀i,(∀j,i≠phi K j)→ex (upd h K (some o')) i=ex h i):=by
 have hne: ∀K' j,phi K' j≠K:=fun K' j e=>by have:=hf K' j;rw[e,hK]at this;cases this
 refine⟨fun j=>ex_mem (by rw[updh_eq,if_neg (hne K j)];exact hf K j),fun i hi=> ?_⟩
 by_cases e:i=K
 ·subst e
  unfold ex
  rw[updh_eq,if_pos rfl,hK]
  simp[hA,hA']
 ·unfold ex
  rw[updh_eq,if_neg e]
  cases hid:h i with
  |some o2=>rfl
  |none=>
   simp only
   by_cases hx: ∃p:Nat×Nat,i=phi p.1 p.2
   ·obtain⟨⟨K',j⟩,rfl⟩:=hx
    have hKK:K'≠K:=fun e2=>hi j (by rw[e2])
    rw[memAt_phi,memAt_phi]
    unfold member
    rw[updh_eq,if_neg hKK]
   ·rw[memAt_not (fun K j e=>hx ⟨(K,j),e⟩),memAt_not (fun K j e=>hx ⟨(K,j),e⟩)]
theorem ex_one {h:Hp} {K:Nat} {o o':Obj} {n:Nat} {ob:Option Obj} (hf: ∀K j,h (phi K j)=none) (hK:h K=some o) (hA:o.isA=true) (hA':o'.isA=true)
  (hm: ∀j,member (upd h K (some o')) K j=if j=n then ob else member h K j) (i:Nat):ex (upd h K (some o')) i=if i=phi K n then ob else ex h i:=by
 obtain⟨h1,h2⟩:=ex_arena hf hK hA hA'
 by_cases hx: ∃j,i=phi K j
 ·obtain⟨j,rfl⟩:=hx
  rw[h1,hm]
  by_cases e:j=n
  ·rw[if_pos e,if_pos (by rw[e])]
  ·rw[if_neg e,if_neg (fun e2=>e (phi_inj e2).2),ex_mem (hf K j)]
 ·rw[h2 i (fun j e=>hx ⟨j,e⟩),if_neg (fun e=>hx ⟨n,e⟩)]
theorem ex_two {h:Hp} {K:Nat} {o o':Obj} {n m:Nat} {ob:Option Obj} (hf: ∀K j,h (phi K j)=none) (hK:h K=some o) (hA:o.isA=true) (hA':o'.isA=true)
  (hm: ∀j,member (upd h K (some o')) K j=if j=n then ob else if j=m then none else member h K j) (i:Nat):ex (upd h K (some o')) i=if i=phi K n then ob else if i=phi K m then none else ex h i:=by
 obtain⟨h1,h2⟩:=ex_arena hf hK hA hA'
 by_cases hx: ∃j,i=phi K j
 ·obtain⟨j,rfl⟩:=hx
  rw[h1,hm]
  by_cases e:j=n
  ·rw[if_pos e,if_pos (by rw[e])]
  ·rw[if_neg e,if_neg (fun e2=>e (phi_inj e2).2)]
   by_cases e2:j=m
   ·rw[if_pos e2,if_pos (by rw[e2])]
   ·rw[if_neg e2,if_neg (fun e3=>e2 (phi_inj e3).2),ex_mem (hf K j)]
 ·rw[h2 i (fun j e=>hx ⟨j,e⟩),if_neg (fun e=>hx ⟨n,e⟩),if_neg (fun e=>hx ⟨m,e⟩)]
theorem member_aren {h:Hp} {K e:Nat} {t:Ty} {ms:List (Option (List t.El))} (hK:h K=some (.aren e t ms)) (j:Nat):member h K (j+1)=(match ms[j]? with
  |some (some xs)=>some (.row e t xs)
  |_=>none):=by
 unfold member
 rw[hK]
 all_goals rfl
theorem member_zero (h:Hp) (K:Nat):member h K 0=none:=by
 unfold member
 cases h K with
 |none=>rfl
 |some o=>cases o<;>rfl
theorem mem_mset {h:Hp} {K e j:Nat} {t:Ty} {ms:List (Option (List t.El))} (hK:h K=some (.aren e t ms)) (hal:mal ms j) (h0:0<j) (xs:List t.El) (j':Nat):
  member (upd h K (some (.aren e t (mset ms j xs)))) K j'=if j'=j then some (.row e t xs)else member h K j':=by
 cases j with
 |zero=>omega
 |succ j=>
  obtain⟨ys,hy⟩:=hal
  have hlt:j<ms.length:=(List.getElem?_eq_some_iff.1 hy).1
  cases j' with
  |zero=>rw[member_zero,member_zero,if_neg (by omega)]
  |succ j'=>
   rw[member_aren (e:=e) (t:=t) (ms:=mset ms (j+1) xs) (by rw[updh_eq,if_pos rfl]),member_aren hK]
   simp only[mset,List.getElem?_set]
   by_cases e2:j'=j
   ·subst e2;simp[hlt]
   ·rw[if_neg (fun e3=>e2 e3.symm),if_neg (by omega)]
theorem mkill_length {α:Type} (ms:List (Option (List α))) (j:Nat):(mkill ms j).length=ms.length:=by
 cases j<;>simp[mkill]
theorem mset_length {α:Type} (ms:List (Option (List α))) (j:Nat) (xs:List α):(mset ms j xs).length=ms.length:=by
 cases j<;>simp[mset]
theorem mem_mnew {h:Hp} {K e j:Nat} {t:Ty} {ms:List (Option (List t.El))} (hK:h K=some (.aren e t ms)) (xs:List t.El) (j':Nat):
  member (upd h K (some (.aren e t (mnew (mkill ms j) xs)))) K j'=if j'=ms.length+1 then some (.row e t xs)else if j'=j then none else member h K j':=by
 cases j' with
 |zero=>rw[member_zero,member_zero,if_neg (by omega)];split<;>rfl
 |succ j'=>
  rw[member_aren (e:=e) (t:=t) (ms:=mnew (mkill ms j) xs) (by rw[updh_eq,if_pos rfl]),member_aren hK]
  unfold mnew
  rw[List.getElem?_append,mkill_length]
  by_cases h1:j'<ms.length
  ·rw[if_pos h1,if_neg (by omega)]
   cases j with
   |zero=>rw[if_neg (by omega)];rfl
   |succ j=>
    simp only[mkill,List.getElem?_set]
    by_cases e2:j=j'
    ·rw[if_pos e2,if_pos (by rw[e2];exact h1),if_pos (by rw[e2])]
    ·rw[if_neg e2,if_neg (by omega)]
  ·rw[if_neg h1]
   by_cases h2:j'=ms.length
   ·subst h2;simp
   ·rw[if_neg (by omega)]
    have e3:ms[j']? =none:=List.getElem?_eq_none (by omega)
    have e4:[some xs][j'-ms.length]? =none:=List.getElem?_eq_none (by simp;omega)
    rw[e3,e4]
    by_cases e5:j'+1=j
    ·rw[if_pos e5]
    ·rw[if_neg e5]
theorem member_abox {h:Hp} {K s:Nat} {ms:List (Option (List D))} (hK:h K=some (.abox s ms)) (j:Nat):member h K (j+1)=(match ms[j]? with
  |some (some cs)=>some (.box cs)
  |_=>none):=by
 unfold member
 rw[hK]
 all_goals rfl
theorem mem_bset {h:Hp} {K s j:Nat} {ms:List (Option (List D))} {cs:List D} (hK:h K=some (.abox s ms)) (hal:mbox ms j=some cs) (x:List D) (j':Nat):
  member (upd h K (some (.abox s (mset ms j x)))) K j'=if j'=j then some (.box x)else member h K j':=by
 obtain⟨j,rfl,hj⟩:=mbox_spec hal
 have hlt:j<ms.length:=(List.getElem?_eq_some_iff.1 hj).1
 cases j' with
 |zero=>rw[member_zero,member_zero,if_neg (by omega)]
 |succ j'=>
  rw[member_abox (s:=s) (ms:=mset ms (j+1) x) (by rw[updh_eq,if_pos rfl]),member_abox hK]
  simp only[mset,List.getElem?_set]
  by_cases e2:j'=j
  ·subst e2;simp[hlt]
  ·rw[if_neg (fun e3=>e2 e3.symm),if_neg (by omega)]
theorem mem_bnew {h:Hp} {K s:Nat} {ms:List (Option (List D))} (hK:h K=some (.abox s ms)) (x:List D) (j':Nat):
  member (upd h K (some (.abox s (mnew ms x)))) K j'=if j'=ms.length+1 then some (.box x)else member h K j':=by
 cases j' with
 |zero=>rw[member_zero,member_zero,if_neg (by omega)]
 |succ j'=>
  rw[member_abox (s:=s) (ms:=mnew ms x) (by rw[updh_eq,if_pos rfl]),member_abox hK]
  unfold mnew
  rw[List.getElem?_append]
  by_cases h1:j'<ms.length
  ·rw[if_pos h1,if_neg (by omega)]
  ·rw[if_neg h1]
   by_cases h2:j'=ms.length
   ·subst h2;simp
   ·rw[if_neg (by omega)]
    have e3:ms[j']? =none:=List.getElem?_eq_none (by omega)
    have e4:[some x][j'-ms.length]? =none:=List.getElem?_eq_none (by simp;omega)
    rw[e3,e4]
theorem arLen_at {h:Hp} {K K':Nat} {o:Obj}:arLen (upd h K (some o)) K'=if K'=K then arLen (fun _=>some o) 0 else arLen h K':=by
 by_cases e:K'=K
 ·rw[if_pos e];unfold arLen;rw[updh_eq,if_pos e]
 ·rw[if_neg e];unfold arLen;rw[updh_eq,if_neg e]
theorem okM_mods {T:Ctx} {K:Nat} (hm:okM T K=true) {i:Nat} (h1:i<T.base) (h2:i∉T.mods):i≠K:=by
 intro e
 subst e
 rcases okM_spec hm with h|h
 ·omega
 ·exact h2 h

theorem Rel.changeM (R:Rel T F w0 O0 N A ι a w) {dst:Option Nat} (hd: ∀d,dst=some d→d<N) {K n:Nat} {oa oa':Obj} {o o':Obj} (hK:A.heap K=some oa) (hA:oa.isA=true) (hA':oa'.isA=true) (hmb:member A.heap K n=some o)
  (hm': ∀j,member (upd A.heap K (some oa')) K j=if j=n then some o' else member A.heap K j) (hlen:arLen (fun _=>some oa) 0≤arLen (fun _=>some oa') 0) (hm:okM T K=true) {v:Value} {val:AV} (hflat:val.ids=[]) (hflat':val.mids=[]) {w':World} {b:Nat}
  (hb: ∀b',hblk (ι (phi K n))=some b'→b'=b) (hbb:hblk (ι (phi K n))=none→w'=w) (hsame: ∀k,k≠b→w'.heap[k]? =w.heap[k]?) (hsz:w.heap.size≤w'.heap.size) (hos:w'.os=w.os) (htp:w'.tape=w.tape) (hout:w'.output=w.output)
  (hobj: ∀O',Keeps w (Own O0 A.heap ι) w' O'→ObjRep w' O' w0.heap.size o' (ι (phi K n))) (hval: ∀O',ARep w' O' ι val v):
  let r:WRes:=⟨none,upd A.heap K (some oa'),val⟩
  Rel T F w0 O0 N (r.act A dst) ι (a.put dst v) w'∧Keeps w (Own O0 A.heap ι) w' (Own O0 r.heap ι):=by
 have hne:A.heap K≠none:=by rw[hK];simp
 refine R.change0 hd (id:=phi K n) (o:=o) (by rw[ex_mem (R.free K n)];exact hmb) (ex_one R.free hK hA hA' hm') (fun i=> ?_) (fun i h1 h2=>by rw[updh_eq,if_neg (okM_mods hm h1 h2)]) (fun K'=> ?_) (fun K' j h=> ?_) (fun K'=>isArH_arena ⟨_,hK,hA⟩) hflat hflat' hb hbb hsame hsz hos htp hout hobj hval
 ·rw[updh_eq]
  by_cases e:i=K
  ·rw[if_pos e,e];exact⟨fun _=>by simp,fun _=>hne⟩
  ·rw[if_neg e]
 ·rw[arLen_at]
  split
  ·rename_i e
   subst e
   have:arLen A.heap K'=arLen (fun _=>some oa) 0:=by unfold arLen;rw[hK]
   omega
  ·exact Nat.le_refl _
 ·by_cases e:K'=K
  ·subst e
   rw[hm']
   split
   ·simp
   ·exact h
  ·unfold member
   rw[updh_eq,if_neg e]
   exact h

theorem Rel.freshM (R:Rel T F w0 O0 N A ι a w) {dst:Option Nat} (hd: ∀d,dst=some d→d<N) {K:Nat} {oa oa':Obj} {o:Obj} (hK:A.heap K=some oa) (hA:oa.isA=true) (hA':oa'.isA=true) (hoA:o.isA=false)
  (hm': ∀j,member (upd A.heap K (some oa')) K j=if j=arLen A.heap K+1 then some o else member A.heap K j) (hlen:arLen (fun _=>some oa') 0=arLen A.heap K+1) (hmn:member A.heap K (arLen A.heap K+1)=none) (hm:okM T K=true) {hv:Value} {w':World}
  (hb:Below w.heap.size w w') (hone:hv.oneCell'=true) (hobj: ∀O',Keeps w (Own O0 A.heap ι) w' O'→ObjRep w' O' w.heap.size o hv) {kl:Option Nat}:
  let r:WRes:=⟨kl,upd A.heap K (some oa'), .d (.ref K (arLen A.heap K+1))⟩
  ∃ι',Rel T F w0 O0 N (r.act A dst) ι' (a.put dst hv) w'∧Keeps w (Own O0 A.heap ι) w' (Own O0 r.heap ι'):=by
 have hne:A.heap K≠none:=by rw[hK];simp
 have hphi: ∀i,A.heap i≠none→i≠phi K (arLen A.heap K+1):=fun i h=>R.notphi' h _ _
 refine R.fresh0 hd (n:=phi K (arLen A.heap K+1)) (o:=o) (hv:=hv) (by rw[ex_mem (R.free _ _)];exact hmn) hoA (ex_one R.free hK hA hA' hm') (fun i h=> ?_) (fun i h1 h2=>by rw[updh_eq,if_neg (okM_mods hm h1 h2)])
  (fun i h=>⟨?_,hphi i h⟩) (fun K'=>⟨?_,fun j hj e=> ?_⟩) (fun K' j h=>⟨?_,fun e=> ?_⟩) (fun K'=>isArH_arena ⟨_,hK,hA⟩) hb hobj (fun hN=> ?_) (by simp[AV.live,AV.ids,AV.mids])
 ·rw[updh_eq]at h
  by_cases e:i=K
  ·exact .inl (by rw[e];exact hne)
  ·rw[if_neg e]at h;exact .inl h
 ·rw[updh_eq];split
  ·simp
  ·exact h
 ·rw[arLen_at]
  split
  ·rename_i e;subst e;omega
  ·exact Nat.le_refl _
 ·obtain⟨e1,e2⟩:=phi_inj e
  subst e1
  omega
 ·by_cases e:K'=K
  ·subst e
   rw[hm']
   split
   ·simp
   ·exact h
  ·unfold member
   rw[updh_eq,if_neg e]
   exact h
 ·obtain⟨e1,e2⟩:=phi_inj e
  subst e1 e2
  exact h hmn
 ·refine⟨?_,hone⟩
  show nmOf _ _ _ _=_
  unfold nmOf
  rw[arLen_at,if_pos rfl,hlen,if_pos (by omega),upd_eq,if_pos rfl]

end
end Fw
end
