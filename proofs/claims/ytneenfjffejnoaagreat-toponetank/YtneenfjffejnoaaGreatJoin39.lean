/- Walks and plain laws: AgreeSpec, AgreeSpec2. -/
set_option linter.unusedVariables false
set_option linter.unusedSimpArgs false
set_option linter.unusedSectionVars false

/- The plain law of agree: heights in a net of bounds are exact. Nothing of the program here. -/
set_option linter.unusedVariables false
namespace AgreeS

abbrev Net:=Nat->Nat->Option Int
abbrev Known:=Nat->Option Int

structure Step where
 from_:Nat
 to:Nat
 most:Int
deriving DecidableEq

def FB (B:Net) (f:Nat) (ts:List Nat):List Step:=ts.filterMap fun t=>(B f t).map fun m=>⟨f,t,m⟩
def steps (B:Net):List Step:=(List.range 13).flatMap fun f=>FB B f (List.range 13)

theorem Iz {B:Net}{s:Step}:s∈steps B↔s.from_<13/\s.to<13/\B s.from_ s.to=some s.most:=by
 obtain⟨f,t,m⟩:=s
 simp only[steps,FB,List.mem_flatMap,List.mem_range,List.mem_filterMap,Option.map_eq_some_iff,Step.mk.injEq]
 constructor
 ·rintro⟨f',h1,t',h2,m',h3,rfl,rfl,rfl⟩;exact⟨h1,h2,h3⟩
 ·rintro⟨h1,h2,h3⟩;exact⟨f,h1,t,h2,m,h3,rfl,rfl,rfl⟩

def upd {α:Type}(k:Nat->α) (t:Nat) (v:α):Nat->α:=fun i=>if i=t then v else k i

structure St where
 known:Known
 before:List (Nat × Nat)
 last:Int

def iP (l:List (Nat × Nat)) (k v:Nat):List (Nat × Nat):=match l.findIdx? (fun p=>p.1==k)with
 |some i=>l.set i (k,v)
 |none=>l++[(k,v)]

def better (k:Known) (s:Step):Bool:=match k s.from_,k s.to with
 |some a,some b=>a+s.most<b
 |some _,none=>true
 |none,_=>false
def lower (k:Known) (s:Step):Int:=(k s.from_).getD 0+s.most

def relax (x:St) (s:Step):St:=if better x.known s then⟨upd x.known s.to (some (lower x.known s)),iP x.before s.to s.from_,s.to⟩else x
def pass (B:Net) (x:St):St:=(steps B).foldl relax {x with last:= -1}
def passes (B:Net):Nat->St->St
 |0,x=>x
 |n+1,x=>passes B n (pass B x)
def start (a:Nat):St:=⟨fun i=>if i=a then some 0 else none,[], -1⟩
def found (B:Net) (many a:Nat):St:=passes B many (start a)


inductive Way (B:Net) (a:Nat):Nat->Nat->Int->Prop where
 |nil:Way B a 0 a 0
 |snoc {n f t:Nat} {c m:Int} (w:Way B a n f c) (hf:f<13) (ht:t<13) (h:B f t=some m):Way B a (n+1) t (c+m)

def Xr (B:Net) (p:Nat->Int):Prop:=∀f t m,f<13->t<13->B f t=some m->p t<=p f+m

theorem Way.vC {B:Net}{p:Nat->Int}(hp:Xr B p) {a n v:Nat}{c:Int}(w:Way B a n v c):p v<=p a+c:=by
 induction w with
 |nil=>omega
 |snoc w hf ht h ih=>have:=hp _ _ _ hf ht h;omega

theorem Way.append {B:Net}{a b:Nat}{n:Nat}{c:Int}(w:Way B a n b c) {m v:Nat}{d:Int}(u:Way B b m v d):Way B a (n+m) v (c+d):=by
 induction u with
 |nil=>simpa using w
 |snoc u hf ht h ih=>rw[<-Int.add_assoc];exact Way.snoc ih hf ht h

def Real (B:Net) (a:Nat) (k:Known):Prop:=∀v c,k v=some c->∃n,Way B a n v c

theorem aH {B:Net}{a:Nat}{x:St}{s:Step}(hs:s∈steps B) (h:Real B a x.known):Real B a (relax x s).known:=by
 obtain⟨h1,h2,h3⟩:=Iz.1 hs
 unfold relax
 split
 ·rename_i hb
  intro v c hv
  simp only[upd]at hv
  split at hv
  ·rename_i e
   subst e
   unfold better at hb
   unfold lower at hv
   cases hf:x.known s.from_ with
   |none=>simp[hf]at hb
   | some d=>
     obtain⟨n,w⟩:=h _ _ hf
     rw[hf]at hv
     simp at hv
     subst hv
     exact⟨n+1,Way.snoc w h1 h2 h3⟩
  ·exact h v c hv
 ·exact h

theorem Vd {B:Net}{a:Nat}:∀(l:List Step) (x:St),(∀s∈l,s∈steps B)->Real B a x.known->Real B a (l.foldl relax x).known
 |[],_,_,h=>h
 |s::l,x,hl,h=>Vd l _ (fun t ht=>hl t (List.mem_cons_of_mem _ ht)) (aH (hl s (by simp)) h)
theorem iT {B:Net}{a:Nat}{x:St}(h:Real B a x.known):Real B a (pass B x).known:=Vd _ _ (fun _ h=>h) h
theorem LH {B:Net}{a:Nat}:∀(n:Nat) (x:St),Real B a x.known->Real B a (passes B n x).known
 |0,_,h=>h
 |n+1,x,h=>LH n _ (iT h)
theorem RV (B:Net) (a:Nat):Real B a (start a).known:=by
 intro v c h
 simp only[start]at h
 split at h
 ·rename_i e;subst e;simp at h;subst h;exact⟨0,.nil⟩
 ·simp at h
theorem bZ (B:Net) (many a:Nat):Real B a (found B many a).known:=LH _ _ (RV B a)


def kK (k l:Known):Prop:=∀v c,l v=some c->∃d,k v=some d/\d<=c
theorem kK.refl (k:Known):kK k k:=fun v c h=>⟨c,h,by omega⟩
theorem kK.trans {k l m:Known}(h:kK k l) (g:kK l m):kK k m:=fun v c e=>by
 obtain⟨d,e1,h1⟩:=g v c e
 obtain⟨d',e2,h2⟩:=h v d e1
 exact⟨d',e2,by omega⟩
theorem XX (x:St) (s:Step):kK (relax x s).known x.known:=by
 unfold relax
 split
 ·rename_i hb
  intro v c hv
  simp only[upd]
  split
  ·rename_i e
   subst e
   refine⟨_,rfl,?_⟩
   unfold better at hb
   unfold lower
   cases hf:x.known s.from_ with
   |none=>simp[hf]at hb
   |some d=>simp[hf,hv]at hb;simp;omega
  ·exact⟨c,hv,by omega⟩
 ·exact kK.refl _
theorem WV:∀(l:List Step) (x:St),kK (l.foldl relax x).known x.known
 |[],_=>kK.refl _
 |s::l,x=>(WV l (relax x s)).trans (XX x s)
theorem sE (B:Net) (x:St):kK (pass B x).known x.known:=WV _ _
theorem XW (x:St) (s:Step) {c:Int}(h:∃d,x.known s.from_=some d/\d<=c):∃b,(relax x s).known s.to=some b/\b<=c+s.most:=by
 obtain⟨d,hd,hc⟩:=h
 unfold relax
 split
 ·refine⟨lower x.known s,by simp[upd],?_⟩
  simp[lower,hd];omega
 ·rename_i hb
  unfold better at hb
  rw[hd]at hb
  cases ht:x.known s.to with
  |none=>simp[ht]at hb
  |some b=>simp[ht]at hb;exact⟨b,rfl,by omega⟩
theorem Te:∀(l:List Step) (x:St) (s:Step),s∈l->∀c,(∃d,x.known s.from_=some d/\d<=c)->∃b,(l.foldl relax x).known s.to=some b/\b<=c+s.most
 |[],_,_,h,_,_=>by simp at h
 | u::l,x,s,h,c,hc=>by
   rcases List.mem_cons.1 h with rfl|h
   ·obtain⟨b,hb,hl⟩:=XW x s hc
    obtain⟨b',hb',hl'⟩:=WV l (relax x s) _ _ hb
    exact⟨b',hb',by omega⟩
   ·refine Te l (relax x u) s h c ?_
    obtain⟨d,hd,hl⟩:=hc
    obtain⟨d',hd',hl'⟩:=XX x u _ _ hd
    exact⟨d',hd',by omega⟩

theorem Sw {B:Net}{a:Nat}:∀{n v:Nat} {c:Int},Way B a n v c->∀x:St,(∃d,x.known a=some d/\d<=0)->∀m,n<=m->∃d,(passes B m x).known v=some d/\d<=c:=by
 have last:∀(m:Nat) (x:St),passes B (m+1) x=pass B (passes B m x):=by
  intro m
  induction m with
  |zero=>intro x;rfl
  |succ m ih=>intro x;exact ih (pass B x)
 have less:∀(m:Nat) (x:St),kK (passes B m x).known x.known:=by
  intro m
  induction m with
  |zero=>intro x;exact kK.refl _
  |succ m ih=>intro x;exact(ih (pass B x)).trans (sE B x)
 intro n v c w
 induction w with
 | nil=>
   intro x ⟨d,hd,hl⟩ m _
   obtain⟨d',h1,h2⟩:=less m x _ _ hd
   exact⟨d',h1,by omega⟩
 | snoc w hf ht h ih=>
   rename_i n f t c q
   intro x hx m hm
   cases m with
   |zero=>omega
   | succ m=>
     rw[last]
     have:=ih x hx m (by omega)
     exact Te (steps B) _ ⟨f,t,q⟩ (Iz.2 ⟨hf,ht,h⟩) c this


def Fixed (B:Net) (k:Known):Prop:=∀s∈steps B,better k s=false

theorem Ni:∀(l:List Step) (x:St),x.last<0->(l.foldl relax x).last<0->(l.foldl relax x)=x/\∀s∈l,better x.known s=false
 |[],x,_,_=>⟨rfl,by simp⟩
 | s::l,x,hx,h=>by
   have keep:∀(l:List Step) (y:St),0<=y.last->0<=(l.foldl relax y).last:=by
    intro l
    induction l with
    |nil=>intro y h;exact h
    | cons s l ih=>
      intro y h
      refine ih _ ?_
      unfold relax
      split
      ·simp
      ·exact h
   simp only[List.foldl_cons]at h⊢
   by_cases hb:better x.known s=true
   ·have:=keep l (relax x s) (by simp[relax,hb])
    omega
   ·have hr:relax x s=x:=by simp[relax,hb]
    rw[hr]at h⊢
    obtain⟨h1,h2⟩:=Ni l x hx h
    refine⟨h1,fun t ht=>?_⟩
    rcases List.mem_cons.1 ht with rfl|ht
    ·simpa using hb
    ·exact h2 t ht
theorem Tf:∀(l:List Step) (x:St),(∀s∈l,better x.known s=false)->l.foldl relax x=x
 |[],_,_=>rfl
 | s::l,x,h=>by
   have hr:relax x s=x:=by simp[relax,h s (by simp)]
   simp only[List.foldl_cons,hr]
   exact Tf l x fun t ht=>h t (List.mem_cons_of_mem _ ht)

theorem JD (B:Net):∀(m:Nat) (x:St),passes B (m+1) x=pass B (passes B m x)
 |0,_=>rfl
 |m+1,x=>JD B m (pass B x)

theorem Qu {B:Net}{many a:Nat}(hm:0<many) (h:(found B many a).last<0):Fixed B (found B many a).known:=by
 obtain⟨m,rfl⟩:∃m,many=m+1:=⟨many - 1,by omega⟩
 unfold found at*
 rw[JD]at*
 obtain⟨h1,h2⟩:=Ni (steps B) {passes B m (start a)with last:= -1} (by simp) h
 intro s hs
 have:=h2 s hs
 unfold pass
 rw[h1]
 exact this

theorem Fixed.le {B:Net}{k:Known}(h:Fixed B k) {f t:Nat}{m a:Int}(hf:f<13) (ht:t<13) (hB:B f t=some m) (ha:k f=some a):∃b,k t=some b/\b<=a+m:=by
 have:=h ⟨f,t,m⟩ (Iz.2 ⟨hf,ht,hB⟩)
 simp only[better,ha]at this
 cases hb:k t with
 |none=>simp[hb]at this
 |some b=>simp[hb]at this;exact⟨b,rfl,by omega⟩
theorem Fixed.way {B:Net}{k:Known}(h:Fixed B k) {a n v:Nat}{c d:Int}(w:Way B a n v c) (ha:k a=some d):∃b,k v=some b/\b<=d+c:=by
 induction w with
 |nil=>exact⟨d,ha,by omega⟩
 | snoc w hf ht hB ih=>
   obtain⟨b,hb,hl⟩:=ih
   obtain⟨b',hb',hl'⟩:=h.le hf ht hB hb
   exact⟨b',hb',by omega⟩
theorem Fixed.zero {B:Net}{k:Known}(h:Fixed B k) {a:Nat}(hr:Real B a k) {d:Int}(ha:k a=some d) (hd:d<=0):d=0:=by
 obtain⟨n,w⟩:=hr a d ha
 obtain⟨b,hb,hl⟩:=h.way w ha
 rw[ha]at hb
 simp at hb
 omega


inductive Path (B:Net) (a:Nat):List Nat->Int->Prop where
 |one:Path B a [a] 0
 |cons {f t:Nat} {l:List Nat} {c m:Int} (w:Path B a (f::l) c) (hf:f<13) (ht:t<13) (h:B f t=some m):Path B a (t::f::l) (c+m)

theorem Way.path {B:Net}{a n v:Nat}{c:Int}(w:Way B a n v c):∃l,Path B a (v::l) c/\l.length=n:=by
 induction w with
 |nil=>exact⟨[],.one,rfl⟩
 | snoc w hf ht h ih=>
   obtain⟨l,hl,hn⟩:=ih
   exact⟨_::l,.cons hl hf ht h,by simp[hn]⟩
theorem Path.way {B:Net}{a:Nat}{l:List Nat}{c:Int}(w:Path B a l c):∃v r,l=v::r/\Way B a r.length v c:=by
 induction w with
 |one=>exact⟨a,[],rfl,.nil⟩
 | cons w hf ht h ih=>
   obtain⟨v,r,e,hw⟩:=ih
   simp at e
   obtain⟨rfl,rfl⟩:=e
   exact⟨_,_,rfl,.snoc hw hf ht h⟩
theorem Path.lt {B:Net}{a:Nat}(ha:a<13) {l:List Nat}{c:Int}(w:Path B a l c):∀v∈l,v<13:=by
 induction w with
 |one=>simpa using ha
 | cons w hf ht h ih=>
   intro v hv
   rcases List.mem_cons.1 hv with rfl|hv
   ·exact ht
   ·exact ih v hv
theorem Path.cut {B:Net}{a:Nat}:∀(l:List Nat) (v:Nat) (r:List Nat) (c:Int),Path B a (l++v::r) c->∃d e,Path B a (v::r) d/\Path B v (l++[v]) e/\c=d+e
 |[],v,r,c,w=>⟨c,0,w,.one,by omega⟩
 | t ::l,v,r,c,w=>by
   generalize hl:t::l++v::r=q at w
   cases w with
   |one=>simp at hl
   | cons w hf ht h=>
     rename_i f t' l' c' m
     simp at hl
     obtain⟨rfl,hl⟩:=hl
     rw[<-hl]at w
     obtain⟨d,e,h1,h2,h3⟩:=Path.cut l v r _ w
     refine⟨d,e+m,h1,?_,by omega⟩
     cases l with
     | nil=>
       simp at hl h2
       obtain⟨rfl,rfl⟩:=hl
       exact .cons h2 hf ht h
     | cons f' l=>
       simp at hl
       obtain⟨rfl,rfl⟩:=hl
       exact .cons h2 hf ht h
theorem Path.glue {B:Net}{a v:Nat}{r:List Nat}{d:Int}(w:Path B a (v::r) d):∀(l:List Nat) (t:Nat) (e:Int),Path B v (t::l) e->∃l',Path B a (t::l') (d+e)/\l'.length=l.length+r.length:=by
 intro l t e u
 obtain⟨v',r',e1,w1⟩:=w.way
 obtain⟨v2,r2,e2,w2⟩:=u.way
 simp at e1 e2
 obtain⟨rfl,rfl⟩:=e1
 obtain⟨rfl,rfl⟩:=e2
 obtain⟨l',h1,h2⟩:=(w1.append w2).path
 exact⟨l',h1,by omega⟩

theorem twice:∀(n:Nat) (l:List Nat),(∀v∈l,v<n)->n<l.length->∃a v b c,l=a++v::b++v::c:=by
 intro n l hl hn
 have hd:¬l.Nodup:=by
  intro hd
  have:=hd.length_le_of_subset (l₂:=List.range n) (fun v hv=>List.mem_range.2 (hl v hv))
  simp at this
  omega
 clear hl hn
 induction l with
 |nil=>simp at hd
 | cons t l ih=>
   by_cases ht:t∈l
   ·obtain⟨b,c,rfl⟩:=List.append_of_mem ht
    exact⟨[],t,b,c,by simp⟩
   ·obtain⟨a,v,b,c,rfl⟩:=ih (fun h=>hd (List.nodup_cons.2 ⟨ht,h⟩))
    exact⟨t::a,v,b,c,by simp⟩

theorem short {B:Net}{p:Nat->Int}(hp:Xr B p) {a N:Nat}:∀(k n v:Nat) (c:Int),n<=k->(∀l d,Path B a l d->∀u∈l,u<N)->Way B a n v c->∃m d,Way B a m v d/\m<N/\d<=c:=by
 intro k
 induction k with
 | zero=>
   intro n v c hk hN w
   obtain⟨l,hl,hn⟩:=w.path
   have:=hN _ _ hl v (by simp)
   exact⟨n,c,w,by omega,by omega⟩
 | succ k ih=>
   intro n v c hk hN w
   by_cases hn:n<N
   ·exact⟨n,c,w,hn,by omega⟩
   ·obtain⟨l,hl,hln⟩:=w.path
    obtain⟨x,u,y,z,e⟩:=twice N (v::l) (hN _ _ hl) (by simp;omega)
    rw[e]at hl
    rw[show x++u::y++u::z=(x++u::y)++u::z by simp]at hl
    obtain⟨d,e2,h1,h2,h3⟩:=Path.cut _ _ _ _ hl
    rw[show x++u::y++[u]=x++u::(y++[u]) by simp]at h2
    obtain⟨d3,e3,h4,h5,h6⟩:=Path.cut _ _ _ _ h2
    -- the ring from u to u is at least 0
    have hring:0<=d3:=by
     obtain⟨v',r',e',w'⟩:=h4.way
     simp at e'
     have:=w'.vC hp
     rw[<-e'.1]at this
     omega
    cases x with
    | nil=>
      simp at e
      obtain⟨rfl,rfl⟩:=e
      obtain⟨v',r',e',w'⟩:=h1.way
      simp at e'
      obtain⟨rfl,rfl⟩:=e'
      simp at h5
      cases h5 with
      | one=>
        simp at hln
        obtain⟨m,d',hm,hmN,hd'⟩:=ih _ _ _ (by omega) hN w'
        exact⟨m,d',hm,hmN,by omega⟩
    | cons t x=>
      simp at e
      obtain⟨rfl,rfl⟩:=e
      obtain⟨l',hl',hlen⟩:=Path.glue h1 (x++[u]) v e3 (by simpa using h5)
      obtain⟨v',r',e',w'⟩:=hl'.way
      simp at e'
      obtain⟨rfl,rfl⟩:=e'
      simp at hln hlen
      obtain⟨m,d',hm,hmN,hd'⟩:=ih _ _ _ (by omega) hN w'
      exact⟨m,d',hm,hmN,by omega⟩

theorem oO {B:Net}{p:Nat->Int}(hp:Xr B p) {a many:Nat}(h0:0<many) (ha:a<many) (hm:many<=13) (hB:∀f t m,B f t=some m->f<many/\t<many):(found B many a).last<0:=by
 obtain⟨N,rfl⟩:∃N,many=N+1:=⟨many - 1,by omega⟩
 unfold found
 rw[JD]
 have YO:=LH N _ (RV B a)
 have hlt:∀l d,Path B a l d->∀u∈l,u<N+1:=by
  intro l d w
  induction w with
  |one=>simpa using ha
  | cons w hf ht h ih=>
    intro u hu
    rcases List.mem_cons.1 hu with rfl|hu
    ·exact(hB _ _ _ h).2
    ·exact ih u hu
 have FH:∀n v c,Way B a n v c->∃d,(passes B N (start a)).known v=some d/\d<=c:=by
  intro n v c w
  obtain⟨m,d,w',hmN,hd⟩:=short hp n n v c (by omega) hlt w
  obtain⟨d',h1,h2⟩:=Sw w' (start a) ⟨0,by simp[start],by omega⟩ N (by omega)
  exact⟨d',h1,by omega⟩
 have hfix:∀s∈steps B,better ({passes B N (start a)with last:= -1}:St).known s=false:=by
  intro s hs
  obtain⟨h1,h2,h3⟩:=Iz.1 hs
  show better (passes B N (start a)).known s=false
  unfold better
  cases hf:(passes B N (start a)).known s.from_ with
  |none=>rfl
  | some c=>
    obtain⟨n,w⟩:=YO _ _ hf
    obtain⟨d,h4,h5⟩:=FH _ _ _ (Way.snoc w h1 h2 h3)
    rw[h4]
    simp
    omega
 unfold pass
 rw[Tf _ _ hfix]
 simp

end AgreeS

/- The plain law of agree: tables and their truths. -/
set_option linter.unusedVariables false
namespace AgreeS

structure Test where
 tank:Nat
 hull:Nat
 lo:Int
 hi:Int
structure Table where
 tanks:Nat
 hulls:Nat
 Ue:Int
 TT:Int
 tests:List Test

def M:Int:=1000000
structure Test.Ok (T:Table) (x:Test):Prop where
 tank:x.tank<T.tanks
 hull:x.hull<T.hulls
 le:x.lo<=x.hi
 lo: -M<=x.lo
 hi:x.hi<=M
structure Table.Ok (T:Table):Prop where
 w7:1<=T.tanks
 tanks:T.tanks<=6
 yz:1<=T.hulls
 hulls:T.hulls<=6
 le:T.Ue<=T.TT
 lo: -M<=T.Ue
 hi:T.TT<=M
 tests:∀x∈T.tests,x.Ok T

def Table.many (T:Table):Nat:=1+T.tanks+T.hulls

def put (B:Net) (f t:Nat) (m:Int):Net:=fun i j=>if i=f/\j=t then some (match B f t with|some o=>min m o|none=>m)else B i j
def Fq (T:Table) (B:Net) (i:Nat):Net:=put (put B 0 (1+i) T.TT) (1+i) 0 (-T.Ue)
def Gj (T:Table) (B:Net) (x:Test):Net:=put (put B (1+T.tanks+x.hull) (1+x.tank) x.hi) (1+x.tank) (1+T.tanks+x.hull) (-x.lo)
def empty:Net:=fun _ _=>none
def BO (T:Table):Net:=T.tests.foldl (Gj T) ((List.range T.tanks).foldl (Fq T) empty)
def turn (B:Net):Net:=fun f t=>B t f

theorem Re {B:Net}{f t:Nat}{m:Int}{p:Nat->Int}(hf:f<13) (ht:t<13):Xr (put B f t m) p↔Xr B p/\p t<=p f+m:=by
 constructor
 ·intro h
  refine⟨fun i j c hi hj e=>?_,?_⟩
  ·by_cases hij:i=f/\j=t
   ·obtain⟨rfl,rfl⟩:=hij
    have:=h i j (min m c) hi hj (by simp[put,e])
    omega
   ·exact h i j c hi hj (by simp[put,hij,e])
  ·cases e:B f t with
   |none=>exact h f t m hf ht (by simp[put,e])
   | some o=>
     have:=h f t (min m o) hf ht (by simp[put,e])
     omega
 ·rintro⟨h,k⟩ i j c hi hj e
  simp only[put]at e
  split at e
  ·rename_i hij
   obtain⟨rfl,rfl⟩:=hij
   split at e
   ·rename_i o ho
    simp at e
    have:=h _ _ _ hi hj ho
    omega
   ·simp at e;omega
  ·exact h _ _ _ hi hj e

theorem iR (p:Nat->Int):Xr empty p:=fun _ _ _ _ _ h=>by simp[empty]at h

theorem UH {T:Table}{p:Nat->Int}:∀(l:List Nat) (B:Net),(∀i∈l,i<6)->(Xr (l.foldl (Fq T) B) p↔Xr B p/\∀i∈l,p (1+i)<=p 0+T.TT/\p 0<=p (1+i)+ -T.Ue)
 |[],B,_=>by simp
 | i::l,B,h=>by
   have hi:=h i (by simp)
   simp only[List.foldl_cons]
   rw[UH l _ fun j hj=>h j (List.mem_cons_of_mem _ hj)]
   unfold Fq
   rw[Re (by omega) (by omega),Re (by omega) (by omega)]
   simp only[List.forall_mem_cons]
   constructor
   ·rintro⟨⟨⟨a,b⟩,c⟩,d⟩;exact⟨a,⟨b,c⟩,d⟩
   ·rintro⟨a,⟨b,c⟩,d⟩;exact⟨⟨⟨a,b⟩,c⟩,d⟩
theorem UG {T:Table}(hT:T.tanks<=6) {p:Nat->Int}:∀(l:List Test) (B:Net),(∀x∈l,x.tank<6/\x.hull<6)->(Xr (l.foldl (Gj T) B) p↔Xr B p/\∀x∈l,p (1+x.tank)<=p (1+T.tanks+x.hull)+x.hi/\p (1+T.tanks+x.hull)<=p (1+x.tank)+ -x.lo)
 |[],B,_=>by simp
 | x::l,B,h=>by
   have hi:=h x (by simp)
   simp only[List.foldl_cons]
   rw[UG hT l _ fun j hj=>h j (List.mem_cons_of_mem _ hj)]
   unfold Gj
   rw[Re (by omega) (by omega),Re (by omega) (by omega)]
   simp only[List.forall_mem_cons]
   constructor
   ·rintro⟨⟨⟨a,b⟩,c⟩,d⟩;exact⟨a,⟨b,c⟩,d⟩
   ·rintro⟨a,⟨b,c⟩,d⟩;exact⟨⟨⟨a,b⟩,c⟩,d⟩

theorem Table.Ok.lt {T:Table}(h:T.Ok):∀x∈T.tests,x.tank<6/\x.hull<6:=fun x hx=>by
 have a:=(h.tests x hx).tank;have b:=(h.tests x hx).hull;have:=h.tanks;have:=h.hulls
 omega

theorem eC {T:Table}(h:T.Ok) {p:Nat->Int}:Xr (BO T) p↔(∀i,i<T.tanks->p (1+i)<=p 0+T.TT/\p 0<=p (1+i)+ -T.Ue)/\∀x∈T.tests,p (1+x.tank)<=p (1+T.tanks+x.hull)+x.hi/\p (1+T.tanks+x.hull)<=p (1+x.tank)+ -x.lo:=by
 unfold BO
 rw[UG h.tanks _ _ h.lt,UH _ _ fun i hi=>by have:=List.mem_range.1 hi;have:=h.tanks;omega]
 simp[iR]

theorem Sq {B:Net}{p:Nat->Int}:Xr (turn B) p↔Xr B fun i=> -p i:=by
 constructor
 ·intro h f t m hf ht e
  have:=h t f m ht hf e
  show -p t<= -p f+m
  omega
 ·intro h f t m hf ht e
  have: -p f<= -p t+m:=h t f m ht hf e
  omega


def ZD (N:Nat) (B:Net):Prop:=∀f t m,B f t=some m->f<N/\t<N/\ -M<=m/\m<=M
theorem Ri {N:Nat}{B:Net}{f t:Nat}{m:Int}(h:ZD N B) (hf:f<N) (ht:t<N) (h1: -M<=m) (h2:m<=M):ZD N (put B f t m):=by
 intro i j c e
 simp only[put]at e
 split at e
 ·rename_i hij
  obtain⟨rfl,rfl⟩:=hij
  split at e
  ·rename_i o ho
   obtain⟨_,_,h3,h4⟩:=h _ _ _ ho
   simp at e
   exact⟨hf,ht,by omega,by omega⟩
  ·simp at e;subst e;exact⟨hf,ht,h1,h2⟩
 ·exact h _ _ _ e
theorem UX {N:Nat}{T:Table}(hlo: -M<=T.Ue) (hhi:T.TT<=M) (hle:T.Ue<=T.TT):∀(l:List Nat) (B:Net),ZD N B->(∀i∈l,1+i<N)->ZD N (l.foldl (Fq T) B)
 |[],_,h,_=>h
 | i::l,B,h,hl=>by
   have:=hl i (by simp)
   exact UX hlo hhi hle l _ (Ri (Ri h (by omega) this (by omega) hhi) this (by omega) (by omega) (by omega)) fun j hj=>hl j (List.mem_cons_of_mem _ hj)
theorem UV {N:Nat}{T:Table}:∀(l:List Test) (B:Net),ZD N B->(∀x∈l,1+x.tank<N/\1+T.tanks+x.hull<N/\ -M<=x.lo/\x.lo<=x.hi/\x.hi<=M)->ZD N (l.foldl (Gj T) B)
 |[],_,h,_=>h
 | x::l,B,h,hl=>by
   obtain⟨a,b,c,d,e⟩:=hl x (by simp)
   exact UV l _ (Ri (Ri h b a (by omega) e) a b (by omega) (by omega)) fun j hj=>hl j (List.mem_cons_of_mem _ hj)
theorem Io {T:Table}(h:T.Ok):ZD T.many (BO T):=by
 unfold BO
 refine UV _ _ (UX h.lo h.hi h.le _ _ (fun _ _ _ e=>by simp[empty]at e) fun i hi=>?_) fun x hx=>?_
 ·have:=List.mem_range.1 hi
  simp only[Table.many];omega
 ·have k:=h.tests x hx
  have:=k.tank;have:=k.hull
  simp only[Table.many]
  exact⟨by omega,by omega,k.lo,k.le,k.hi⟩
theorem Yr {N:Nat}{B:Net}(h:ZD N B):ZD N (turn B):=fun f t m e=>by
 obtain⟨a,b,c⟩:=h _ _ _ e
 exact⟨b,a,c⟩
theorem Table.Ok.many {T:Table}(h:T.Ok):3<=T.many/\T.many<=13:=by
 have:=h.w7;have:=h.tanks;have:=h.yz;have:=h.hulls
 simp only[Table.many];omega

theorem gP {N:Nat}{B:Net}(h:ZD N B) {a n v:Nat}{c:Int}(w:Way B a n v c): -(n*M)<=c/\c<=n*M:=by
 induction w with
 |nil=>simp
 | snoc w hf ht e ih=>
   rename_i n f t c m
   obtain⟨_,_,h1,h2⟩:=h _ _ _ e
   have:((n+1:Nat):Int) *M=n*M+M:=by rw[Int.natCast_add,Int.add_mul];omega
   omega

structure Exact (B:Net) (a:Nat) (k:Known):Prop where
 zero:k a=some 0
 fixed:Fixed B k
 real:Real B a k
 small:∀v c,k v=some c-> -(12*M)<=c/\c<=12*M

theorem S8 (B:Net) (many a:Nat):∃d,(found B many a).known a=some d/\d<=0:=
 Sw (.nil:Way B a 0 a 0) (start a) ⟨0,by simp[start],by omega⟩ many (by omega)

theorem Qv {N:Nat}{B:Net}(hB:ZD N B) (hN:N<=13) {a:Nat}(ha:a<N) (p:Nat->Int) (hp:Xr B p):(found B N a).last<0/\Exact B a (found B N a).known:=by
 have hok:=oO hp (by omega) ha hN fun f t m e=>⟨(hB _ _ _ e).1,(hB _ _ _ e).2.1⟩
 have hfix:=Qu (by omega) hok
 have YO:=bZ B N a
 obtain⟨d,hd,hl⟩:=S8 B N a
 have h0:=hfix.zero YO hd hl
 subst h0
 refine⟨hok,hd,hfix,YO,fun v c hv=>?_⟩
 obtain⟨n,w⟩:=YO v c hv
 have hlt:∀l d,Path B a l d->∀u∈l,u<N:=by
  intro l d w
  induction w with
  |one=>simpa using ha
  | cons w hf ht h ih=>
    intro u hu
    rcases List.mem_cons.1 hu with rfl|hu
    ·exact(hB _ _ _ h).2.1
    ·exact ih u hu
 obtain⟨m,d,w',hm,hdc⟩:=short hp n n v c (Nat.le_refl _) hlt w
 obtain⟨b,hb,hbl⟩:=hfix.way w' hd
 rw[hv]at hb
 simp at hb
 obtain⟨h1,h2⟩:=gP hB w'
 have:(m:Int) *M<=12*M:=Int.mul_le_mul_of_nonneg_right (by omega) (by simp[M])
 omega


structure Fits (T:Table) (b x:Nat->Int):Prop where
 bias:∀i,i<T.tanks->T.Ue<=b i/\b i<=T.TT
 test:∀y∈T.tests,y.lo<=b y.tank+x y.hull/\b y.tank+x y.hull<=y.hi

def M7 (T:Table) (b x:Nat->Int):Nat->Int:=fun v=>if v=0 then 0 else if v<=T.tanks then b (v - 1)else -x (v - 1 - T.tanks)

theorem Sr {T:Table}{b x:Nat->Int}{i:Nat}(h:i<T.tanks):M7 T b x (1+i)=b i:=by
 simp only[M7];rw[if_neg (by omega),if_pos (by omega)];congr 1;omega
theorem Nv {T:Table}{b x:Nat->Int}{i:Nat}:M7 T b x (1+T.tanks+i)= -x i:=by
 simp only[M7];rw[if_neg (by omega),if_neg (by omega)];congr 2;omega
theorem Fits.vC {T:Table}(h:T.Ok) {b x:Nat->Int}(k:Fits T b x):Xr (BO T) (M7 T b x):=by
 refine(eC h).2 ⟨fun i hi=>?_,fun y hy=>?_⟩
 ·have:=k.bias i hi
  rw[Sr hi]
  simp only[M7,if_true]
  omega
 ·have:=k.test y hy
  rw[Sr (h.tests y hy).tank,Nv]
  omega
theorem WW {T:Table}(h:T.Ok) {p:Nat->Int}(hp:Xr (BO T) p):Fits T (fun i=>p (1+i) - p 0) (fun j=>p 0 - p (1+T.tanks+j)):=by
 obtain⟨h1,h2⟩:=(eC h).1 hp
 refine⟨fun i hi=>?_,fun y hy=>?_⟩
 ·have:=h1 i hi;constructor<;>omega
 ·have:=h2 y hy;constructor<;>omega

def DR (T:Table) (j:Nat):Prop:=∃y∈T.tests,y.hull=j

def Gl (T:Table) (v:Nat):Prop:=v=0\/(∃i,i<T.tanks/\v=1+i)\/∃y∈T.tests,v=1+T.tanks+y.hull

def hts (k:Known) (v:Nat):Int:=(k v).getD 0

theorem Gd {B:Net}{f t:Nat}{m:Int}{i j:Nat}(h:(∃c,B i j=some c)\/(i=f/\j=t)):∃c,put B f t m i j=some c:=by
 simp only[put]
 split
 ·exact⟨_,rfl⟩
 ·rename_i hn
  rcases h with h|h
  ·exact h
  ·exact absurd h hn
theorem Nq {T:Table}:∀(l:List Nat) (B:Net) (i j:Nat),((∃c,B i j=some c)\/∃k∈l,(i=0/\j=1+k)\/(i=1+k/\j=0))->∃c,l.foldl (Fq T) B i j=some c
 |[],_,_,_,h=>by simpa using h
 | k ::l,B,i,j,h=>by
   refine Nq l _ i j ?_
   rcases h with h|⟨k',hk,h⟩
   ·exact .inl (Gd (.inl (Gd (.inl h))))
   ·rcases List.mem_cons.1 hk with rfl|hk
    ·rcases h with h|h
     ·exact .inl (Gd (.inl (Gd (.inr h))))
     ·exact .inl (Gd (.inr h))
    ·exact .inr ⟨k',hk,h⟩
theorem IQ {T:Table}:∀(l:List Test) (B:Net) (i j:Nat),((∃c,B i j=some c)\/∃y∈l,(i=1+T.tanks+y.hull/\j=1+y.tank)\/(i=1+y.tank/\j=1+T.tanks+y.hull))->∃c,l.foldl (Gj T) B i j=some c
 |[],_,_,_,h=>by simpa using h
 | y ::l,B,i,j,h=>by
   refine IQ l _ i j ?_
   rcases h with h|⟨y',hk,h⟩
   ·exact .inl (Gd (.inl (Gd (.inl h))))
   ·rcases List.mem_cons.1 hk with rfl|hk
    ·rcases h with h|h
     ·exact .inl (Gd (.inl (Gd (.inr h))))
     ·exact .inl (Gd (.inr h))
    ·exact .inr ⟨y',hk,h⟩
theorem Py {T:Table}{i:Nat}(hi:i<T.tanks):(∃c,BO T 0 (1+i)=some c)/\∃c,BO T (1+i) 0=some c:=
 ⟨IQ _ _ _ _ (.inl (Nq _ _ _ _ (.inr ⟨i,List.mem_range.2 hi,.inl ⟨rfl,rfl⟩⟩))),IQ _ _ _ _ (.inl (Nq _ _ _ _ (.inr ⟨i,List.mem_range.2 hi,.inr ⟨rfl,rfl⟩⟩)))⟩
theorem Yi {T:Table}{y:Test}(hy:y∈T.tests):(∃c,BO T (1+y.tank) (1+T.tanks+y.hull)=some c)/\∃c,BO T (1+T.tanks+y.hull) (1+y.tank)=some c:=
 ⟨IQ _ _ _ _ (.inr ⟨y,hy,.inr ⟨rfl,rfl⟩⟩),IQ _ _ _ _ (.inr ⟨y,hy,.inl ⟨rfl,rfl⟩⟩)⟩

theorem Gg {T:Table}(h:T.Ok) {B:Net}(hB:B=BO T\/B=turn (BO T)) {k:Known}(hf:Fixed B k) {a:Nat}(ha:Gl T a) {d:Int}(hd:k a=some d):∀v,Gl T v->∃c,k v=some c:=by
 have hm:=h.many
 have lt:∀v,Gl T v->v<13:=by
  rintro v (rfl|⟨i,hi,rfl⟩|⟨y,hy,rfl⟩)
  ·omega
  ·simp only[Table.many]at hm;omega
  ·have:=(h.tests y hy).hull;simp only[Table.many]at hm;omega
 have go:∀f t,Gl T f->Gl T t->(∃c,BO T f t=some c)/\(∃c,BO T t f=some c)->(∃c,k f=some c)->∃c,k t=some c:=by
  rintro f t hf' ht ⟨⟨c,hc⟩,⟨c',hc'⟩⟩ ⟨e,he⟩
  rcases hB with rfl|rfl
  ·obtain⟨b,hb, -⟩:=hf.le (lt f hf') (lt t ht) hc he;exact⟨b,hb⟩
  ·obtain⟨b,hb, -⟩:=hf.le (lt f hf') (lt t ht) (show turn (BO T) f t=some c' from hc') he;exact⟨b,hb⟩
 have m0:Gl T 0:=.inl rfl
 have mt:∀i,i<T.tanks->Gl T (1+i):=fun i hi=>.inr (.inl ⟨i,hi,rfl⟩)
 have mh:∀y∈T.tests,Gl T (1+T.tanks+y.hull):=fun y hy=>.inr (.inr ⟨y,hy,rfl⟩)
 have k0:∃c,k 0=some c:=by
  rcases ha with rfl|⟨i,hi,rfl⟩|⟨y,hy,rfl⟩
  ·exact⟨d,hd⟩
  ·exact go _ _ (mt i hi) m0 ((Py hi).symm) ⟨d,hd⟩
  ·have ht:=(h.tests y hy).tank
   exact go _ _ (mt _ ht) m0 ((Py ht).symm) (go _ _ (mh y hy) (mt _ ht) ((Yi hy).symm) ⟨d,hd⟩)
 have kt:∀i,i<T.tanks->∃c,k (1+i)=some c:=fun i hi=>go _ _ m0 (mt i hi) (Py hi) k0
 rintro v (rfl|⟨i,hi,rfl⟩|⟨y,hy,rfl⟩)
 ·exact k0
 ·exact kt i hi
 ·have ht:=(h.tests y hy).tank
  exact go _ _ (mt _ ht) (mh y hy) (Yi hy) (kt _ ht)

def Among (S:Nat->Prop) (B:Net):Prop:=∀f t m,B f t=some m->S f/\S t
theorem MQ {S:Nat->Prop}{B:Net}{f t:Nat}{m:Int}(h:Among S B) (hf:S f) (ht:S t):Among S (put B f t m):=by
 intro i j c e
 simp only[put]at e
 split at e
 ·rename_i hij
  obtain⟨rfl,rfl⟩:=hij
  exact⟨hf,ht⟩
 ·exact h _ _ _ e
theorem QE {S:Nat->Prop}{T:Table}(h0:S 0):∀(l:List Nat) (B:Net),Among S B->(∀i∈l,S (1+i))->Among S (l.foldl (Fq T) B)
 |[],_,h,_=>h
 |i::l,B,h,hl=>QE h0 l _ (MQ (MQ h h0 (hl i (by simp))) (hl i (by simp)) h0) fun j hj=>hl j (List.mem_cons_of_mem _ hj)
theorem QD {S:Nat->Prop}{T:Table}:∀(l:List Test) (B:Net),Among S B->(∀x∈l,S (1+x.tank)/\S (1+T.tanks+x.hull))->Among S (l.foldl (Gj T) B)
 |[],_,h,_=>h
 | x::l,B,h,hl=>by
   obtain⟨a,b⟩:=hl x (by simp)
   exact QD l _ (MQ (MQ h b a) a b) fun j hj=>hl j (List.mem_cons_of_mem _ hj)
theorem Vu {T:Table}(h:T.Ok):Among (Gl T) (BO T):=by
 unfold BO
 refine QD _ _ (QE (.inl rfl) _ _ (fun _ _ _ e=>by simp[empty]at e) fun i hi=>.inr (.inl ⟨i,List.mem_range.1 hi,rfl⟩)) fun x hx=>?_
 exact⟨.inr (.inl ⟨_,(h.tests x hx).tank,rfl⟩),.inr (.inr ⟨x,hx,rfl⟩)⟩

theorem WG {T:Table}(h:T.Ok) {B:Net}(hB:B=BO T\/B=turn (BO T)) {k:Known}(hf:Fixed B k) (hk:∀v,Gl T v->∃c,k v=some c):Xr B (hts k):=by
 intro f t m hf' ht e
 have:Gl T f:=by
  rcases hB with rfl|rfl
  ·exact(Vu h _ _ _ e).1
  ·exact(Vu h _ _ _ e).2
 obtain⟨c,hc⟩:=hk f this
 obtain⟨b,hb,hl⟩:=hf.le hf' ht e hc
 simp only[hts,hc,hb,Option.getD_some]
 exact hl


def CV (T:Table):Prop:=∃b x,Fits T b x

theorem Iv {T:Table}(h:T.Ok) (k:CV T):(found (BO T) T.many 0).last<0/\Exact (BO T) 0 (found (BO T) T.many 0).known:=by
 obtain⟨b,x,k⟩:=k
 have:=h.many
 exact Qv (Io h) this.2 (by omega) _ (k.vC h)
theorem WN {T:Table}(h:T.Ok) (k:(found (BO T) T.many 0).last<0):CV T:=by
 have hm:=h.many
 have hfix:=Qu (by omega) k
 obtain⟨d,hd, -⟩:=S8 (BO T) T.many 0
 exact⟨_,_,WW h (WG h (.inl rfl) hfix (Gg h (.inl rfl) hfix (.inl rfl) hd))⟩
theorem KZ {T:Table}(h:T.Ok):(found (BO T) T.many 0).last<0↔CV T:=⟨WN h,fun k=>(Iv h k).1⟩

theorem JW {T:Table}(h:T.Ok) (k:CV T):(found (turn (BO T)) T.many 0).last<0/\Exact (turn (BO T)) 0 (found (turn (BO T)) T.many 0).known:=by
 obtain⟨b,x,k⟩:=k
 have:=h.many
 refine Qv (Yr (Io h)) this.2 (by omega) (fun v=> -M7 T b x v) (Sq.2 ?_)
 simpa using k.vC h
def Adx (T:Table) (i:Nat):Int:=hts (found (BO T) T.many 0).known (1+i)
def Ey (T:Table) (j:Nat):Int:= -hts (found (BO T) T.many 0).known (1+T.tanks+j)
def vM (T:Table) (i:Nat):Int:= -hts (found (turn (BO T)) T.many 0).known (1+i)
def CZ (T:Table) (j:Nat):Int:=hts (found (turn (BO T)) T.many 0).known (1+T.tanks+j)

theorem Fits.congr {T:Table}(h:T.Ok) {b x b' x':Nat->Int}(k:Fits T b x) (hb:∀i,i<T.tanks->b' i=b i) (hx:∀j,j<T.hulls->x' j=x j):Fits T b' x':=by
 refine⟨fun i hi=>by rw[hb i hi];exact k.bias i hi,fun y hy=>?_⟩
 rw[hb _ (h.tests y hy).tank,hx _ (h.tests y hy).hull]
 exact k.test y hy

theorem SH {T:Table}(h:T.Ok) (k:CV T):Fits T (Adx T) (Ey T):=by
 obtain⟨-,e⟩:=Iv h k
 have hp:=WG h (.inl rfl) e.fixed (Gg h (.inl rfl) e.fixed (.inl rfl) e.zero)
 have h0:hts (found (BO T) T.many 0).known 0=0:=by simp[hts,e.zero]
 refine(WW h hp).congr h (fun i _=>?_) fun j _=>?_
 ·rw[h0];simp[Adx]
 ·rw[h0];simp[Ey]
theorem PL {T:Table}(h:T.Ok) (k:CV T):Fits T (vM T) (CZ T):=by
 obtain⟨-,e⟩:=JW h k
 have hp:=Sq.1 (WG h (.inr rfl) e.fixed (Gg h (.inr rfl) e.fixed (.inl rfl) e.zero))
 have h0:hts (found (turn (BO T)) T.many 0).known 0=0:=by simp[hts,e.zero]
 refine(WW h hp).congr h (fun i _=>?_) fun j _=>?_
 ·rw[h0];simp[vM]
 ·rw[h0];simp[CZ]
theorem U7 {B:Net}{a:Nat}{k:Known}(e:Exact B a k) (v:Nat): -(12*M)<=hts k v/\hts k v<=12*M:=by
 unfold hts
 cases h:k v with
 |none=>simp[M]
 |some c=>exact e.small v c h

theorem FL {T:Table}(h:T.Ok) {b x:Nat->Int}(k:Fits T b x) {j:Nat}(hj:DR T j):Ey T j<=x j/\x j<=CZ T j:=by
 obtain⟨y,hy,rfl⟩:=hj
 have ha:CV T:=⟨b,x,k⟩
 have hmt:Gl T (1+T.tanks+y.hull):=.inr (.inr ⟨y,hy,rfl⟩)
 constructor
 ·obtain⟨-,e⟩:=Iv h ha
  obtain⟨c,hc⟩:=Gg h (.inl rfl) e.fixed (.inl rfl) e.zero _ hmt
  obtain⟨n,w⟩:=e.real _ _ hc
  have:=w.vC (k.vC h)
  rw[Nv]at this
  simp only[Ey,hts,hc,Option.getD_some]
  simp[M7]at this
  omega
 ·obtain⟨-,e⟩:=JW h ha
  obtain⟨c,hc⟩:=Gg h (.inr rfl) e.fixed (.inl rfl) e.zero _ hmt
  obtain⟨n,w⟩:=e.real _ _ hc
  have hp:Xr (turn (BO T)) (fun v=> -M7 T b x v):=Sq.2 (by simpa using k.vC h)
  have:=w.vC hp
  simp only[Nv]at this
  simp only[CZ,hts,hc,Option.getD_some]
  simp[M7]at this
  omega

def far (T:Table) (one two:Nat):Int:=hts (found (BO T) T.many (1+T.tanks+one)).known (1+T.tanks+two)

end AgreeS
