import Derived.Test.YthmegpnhjnphlaaGreatTopAU
set_option maxHeartbeats 4000000
set_option maxRecDepth 100000
namespace Go.Proofs.YthmegpnhjnphlaaGreat
def c2(n:Nat)(D:Dic):List Rat:=(List.range D.own.length).foldl (λx i=>if D.own.getD i 0<n then x.set (D.own.getD i 0) (D.rows.getD i (0,[])).1 else x) (aT n)
def ez(n:Nat)(D:Dic)(s:Nat):List Rat:=(List.range D.own.length).foldl (λx i=>if D.own.getD i 0<n then x.set (D.own.getD i 0) (-(bJ D i s))else x) (if D.free.getD s 0<n then(aT n).set (D.free.getD s 0) 1 else aT n)
def fD(from_:List (Nat×Bool))(y:List Rat)(a:Nat)(b:Rat):List Rat:=y.set (from_.getD a (0,false)).1 (y.getD (from_.getD a (0,false)).1 0+if(from_.getD a (0,false)).2 then b else-b)
def i_(n:Nat)(from_:List (Nat×Bool))(free:List Nat)(p:Nat->Rat)(y:List Rat):List Rat:=(List.range free.length).foldl (λy j=>if free.getD j 0<n then y else fD from_ y (free.getD j 0-n) (p j)) y
def hH(n rows:Nat)(from_:List (Nat×Bool))(D:Dic):List Rat:=i_ n from_ D.free (λj=>-(D.goal.getD j 0)) (aT rows)
def gg(n rows:Nat)(from_:List (Nat×Bool))(D:Dic)(r:Nat):List Rat:=i_ n from_ D.free (λj=>bJ D r j) (if D.own.getD r 0<n then aT rows else fD from_ (aT rows) (D.own.getD r 0-n) 1)
def pt(x:List Rat)(k:Nat):Rat:=x.getD k 0
structure gf where
 kind:Nat
 value:Option Rat
 X:List Rat
 Y:List Rat
 eI:List Rat
def jB(s:a1):Nat:=2^(s.n+(aP s.n s.rows).length)
def aW(s:a1)(goal:List (Nat×Rat)):gf:=match de (jB s) (b6 s goal)with
 |none=>⟨3,none,[],[],[]⟩
 |some (D,none,none)=>⟨0,some (aM goal (pt (c2 s.n D))),c2 s.n D,hH s.n s.rows.length (cB 0 s.rows) D,[]⟩
 |some (D,some r,_)=>⟨1,none,[],gg s.n s.rows.length (cB 0 s.rows) D r,[]⟩
 |some (D,none,some c)=>match de (jB s) (b6 s [])with|none=>⟨3,none,[],[],[]⟩|some (E,some r,_)=>⟨1,none,[],gg s.n s.rows.length (cB 0 s.rows) E r,[]⟩|some (E,none,_)=>⟨2,none,c2 s.n E,[],ez s.n D c⟩
theorem j5(n j:Nat):(aT n).getD j 0=0:=by unfold aT;rw[yu,Bl];split<;>rfl
theorem lh(tr:Bool):∀(l:List (Nat×Rat))(a:List Rat),(l.foldl (λa t=>a.set t.1 (if tr then-t.2 else t.2)) a).length=a.length|[],a=>rfl|t::l,a=>by rw[zH,lh tr l,yW]
theorem ka(n:Nat)(l:List (Nat×Rat))(tr:Bool):(dU n l tr).length=n:=by unfold dU;rw[lh];simp[aT]
theorem tt{n v:Nat}{a:List Rat}{c:Rat}(hl:a.length=n)(b:v<n)(d:a.getD v 0=0)(x:Nat->Rat):(a4 n λj=>(a.set v c).getD j 0*x j)=(a4 n λj=>a.getD j 0*x j)+c*x v:=by
 rw[h7 b,h7 b (λj=>a.getD j 0*x j),d,Dic.f_ _ _ _ _ _ (by omega),yK rfl];rw[dV (g:=λj=>if j=v then 0 else a.getD j 0*x j) λj f=>by
  by_cases e:j=v;.simp[e]
  .simp only[e,zX];rw[Dic.f_ _ _ _ _ _ (by omega),yB e]]
 grind
theorem q8{n:Nat}(tr:Bool)(x:Nat->Rat):∀(l:List (Nat×Rat))(lo:Nat)(a:List Rat),bh n lo l->a.length=n->(∀j,lo<=j->a.getD j 0=0)->(a4 n λj=>(l.foldl (λa t=>a.set t.1 (if tr then-t.2 else t.2)) a).getD j 0*x j)=(a4 n λj=>a.getD j 0*x j)+(if tr then-(aM l x)else aM l x)
 |[],lo,a,_,_,_=>by rw[Cg,ew];cases tr<;>simp<;>grind
 |(v,c)::l,lo,a,e,hl,b=>by obtain⟨h1,h2,f,d⟩:=e;rw[zH,q8 tr x l (v+1) _ d (by rw[yW];exact hl) (λj g=>by rw[Dic.f_ _ _ _ _ _ (by omega),yB (by omega)];exact b j (by omega)),tt hl h2 (b v h1),cR];cases tr<;>simp<;>grind
theorem qa{n:Nat}{l:List (Nat×Rat)}(h:bh n 0 l)(tr:Bool)(x:Nat->Rat):(a4 n λj=>(dU n l tr).getD j 0*x j)=if tr then-(aM l x)else aM l x:=by unfold dU;rw[q8 tr x l 0 _ h (by simp[aT]) λj _=>j5 n j,dV (g:=λ_=>0) λj _=>by rw[j5];grind,h9];cases tr<;>simp<;>grind
theorem jK{n:Nat}{q:Rat×List Rat}:∀{l:List a9},q∈aP n l↔∃r∈l,(r.kind≠0/\q=eL n r false)\/(r.kind≠1/\q=eL n r true)
 |[]=>by simp[aP]
 |r::l=>by
  simp only[aP,y1,jK (l:=l),zd,exists_eq_or_imp,fW];apply or_congr _ Iff.rfl;apply or_congr;.split<;>simp_all
  .split<;>simp_all
theorem il(s:a1)(g:List (Nat×Rat)):(b6 s g).dM (aP s.n s.rows).length s.n:=by refine⟨rfl,by simp[b6],by simp[b6],ka _ _ _,λi hi=>?_⟩;show((aP s.n s.rows).getD i (0,[])).2.length=s.n;rw[yu,yk hi,AY];obtain⟨r,_,h|h⟩:=jK.1 (zQ hi)<;>rw[h.2]<;>exact ka _ _ _
theorem l_(s:a1)(g:List (Nat×Rat)){i:Nat}(hi:i<(aP s.n s.rows).length):(b6 s g).own.getD i 0=s.n+i:=by show((List.range (aP s.n s.rows).length).map λi=>s.n+i).getD i 0=_;rw[yu,yG,List.getElem?_range hi];rfl
theorem jf(s:a1)(g:List (Nat×Rat)){j:Nat}(a:j<s.n):(b6 s g).free.getD j 0=j:=by show(List.range s.n).getD j 0=_;rw[yu,List.getElem?_range a];rfl
theorem fl(s:a1)(g:List (Nat×Rat)):(b6 s g).fn.Ok (aP s.n s.rows).length s.n:=by
 have c:∀i,i<(aP s.n s.rows).length->(b6 s g).fn.own i=s.n+i:=λi hi=>l_ s g hi;have b:∀j,j<s.n->(b6 s g).fn.free j=j:=λj a=>jf s g a;refine⟨λi l hi d e=>?_,λj m a f e=>?_,λi j hi a e=>?_,⟨λi hi=>?_,λj a=>?_⟩,λk hk=>?_⟩;.rw[c i hi,c l d]at e;omega
 .rw[b j a,b m f]at e;exact e
 .rw[c i hi,b j a]at e;omega
 .rw[c i hi];omega
 .rw[b j a];omega
 .by_cases h:k<s.n;.exact .inr ⟨k,h,b k h⟩
  .exact .inl ⟨k-s.n,by omega,by rw[c _ (by omega)];omega⟩
theorem jn(s:a1)(g:List (Nat×Rat))(x:Nat->Rat){i:Nat}(hi:i<(aP s.n s.rows).length):(b6 s g).fn.ext (aP s.n s.rows).length s.n x (s.n+i)=((aP s.n s.rows).getD i (0,[])).1-a4 s.n λj=>((aP s.n s.rows).getD i (0,[])).2.getD j 0*x j:=by have h:=Dict.lN (fl s g) hi x;rw[show(b6 s g).fn.own i=s.n+i from l_ s g hi]at h;rw[h];congr 1;exact dV λj a=>by rw[show(b6 s g).fn.free j=j from jf s g a];rfl
theorem jm(s:a1)(g:List (Nat×Rat))(x:Nat->Rat){k:Nat}(hk:k<s.n):(b6 s g).fn.ext (aP s.n s.rows).length s.n x k=x k:=by have h:=Dict.kE (fl s g) hk x;rwa[show(b6 s g).fn.free k=k from jf s g hk]at h
theorem ki{s:a1}(hs:s.Ok)(g:List (Nat×Rat))(x:Nat->Rat):s.Holds x↔∀k,k<s.n+(aP s.n s.rows).length->0<=(b6 s g).fn.ext (aP s.n s.rows).length s.n x k:=by
 have b:∀r∈s.rows,∀tr,(eL s.n r tr).1-(a4 s.n λj=>(eL s.n r tr).2.getD j 0*x j)=if tr then aM r.terms x-r.value else r.value-aM r.terms x:=by intro r a tr;have h1:=qa (hs.2.2 r a).1 tr x;unfold eL;dsimp only;rw[h1];cases tr<;>simp<;>grind
 constructor
 .intro h k hk;by_cases c:k<s.n;.rw[jm s g x c];exact h.1 k c
  .obtain⟨i,rfl⟩:∃i,k=s.n+i:=⟨k-s.n,by omega⟩;(have hi:i<(aP s.n s.rows).length:=by omega);rw[jn s g x hi,yu,yk hi,AY];obtain⟨r,a,⟨h1,h2⟩|⟨h1,h2⟩⟩:=jK.1 (zQ hi);(.rw[h2,b r a];have:=(h.2 r a).2 h1;simp;grind);.rw[h2,b r a];have:=(h.2 r a).1 h1;simp;grind
 .intro h;refine⟨λk hk=>by have:=h k (by omega);rwa[jm s g x hk]at this,λr a=>⟨λh1=>?_,λh1=>?_⟩⟩;.have hm:eL s.n r true∈aP s.n s.rows:=jK.2 ⟨r,a,.inr ⟨h1,rfl⟩⟩;obtain⟨i,hi,e⟩:=List.getElem_of_mem hm;have h2:=h (s.n+i) (by omega);rw[jn s g x hi,yu,yk hi,AY,e,b r a]at h2;simp at h2;grind
  .have hm:eL s.n r false∈aP s.n s.rows:=jK.2 ⟨r,a,.inl ⟨h1,rfl⟩⟩;obtain⟨i,hi,e⟩:=List.getElem_of_mem hm;have h2:=h (s.n+i) (by omega);rw[jn s g x hi,yu,yk hi,AY,e,b r a]at h2;simp at h2;grind
theorem lG(s:a1){g:List (Nat×Rat)}(hg:bh s.n 0 g)(x:Nat->Rat):(b6 s g).fn.obj s.n x=-(aM g x):=by have:=qa hg true x;simp only[if_true]at this;rw[<-this];exact dV λj a=>by rw[show(b6 s g).fn.free j=j from jf s g a];rfl
theorem nI{m n:Nat}(own:Nat->Nat)(f:Nat->Rat)(h:∀i b,i<m->b<m->own i=own b->i=b)(a:List Rat)(hx:a.length=n)(k:Nat)(hk:k<n):((List.range m).foldl (λx i=>if own i<n then x.set (own i) (f i)else x) a).length=n/\(∀i,i<m->own i=k->((List.range m).foldl (λx i=>if own i<n then x.set (own i) (f i)else x) a).getD k 0=f i)/\((∀i,i<m->own i≠k)->((List.range m).foldl (λx i=>if own i<n then x.set (own i) (f i)else x) a).getD k 0=a.getD k 0):=by
 induction m with
 |zero=>exact⟨hx,λi hi=>by omega,λ_=>rfl⟩
 |succ m j=>
  obtain⟨h1,h2,d⟩:=j λi b hi o=>h i b (by omega) (by omega);rw[zP,z8,zH,Cg];generalize l:(List.range m).foldl (λx i=>if own i<n then x.set (own i) (f i)else x) a=G at*;refine⟨by split;(rw[yW];exact h1);exact h1,λi hi e=>?_,λhn=>?_⟩;.by_cases g:i=m;(.subst g;rw[yK (by omega),Dic.f_ _ _ _ _ _ (by omega),yK e.symm]);.have c:own m≠k:=λe'=>g (h i m hi (by omega) (e.trans e'.symm));split;(.rw[Dic.f_ _ _ _ _ _ (by omega),yB λe'=>c e'.symm];exact h2 i (by omega) e);.exact h2 i (by omega) e
  .have c:=hn m (by omega);split;(.rw[Dic.f_ _ _ _ _ _ (by omega),yB λe'=>c e'.symm];exact d λi hi=>hn i (by omega));.exact d λi hi=>hn i (by omega)
theorem np{m n:Nat}{D:Dic}(h:D.dM m n)(hk:D.fn.Ok m n){k:Nat}(b:k<n):(c2 n D).length=n/\pt (c2 n D) k=D.fn.cu m n k:=by
 have h1:=nI (m:=m) (n:=n) (λi=>D.own.getD i 0) (λi=>(D.rows.getD i (0,[])).1) hk.oi (aT n) (by simp[aT]) k b;unfold c2 pt;rw[h.own];refine⟨h1.1,?_⟩;rcases hk.all k (by omega)with⟨i,hi,e⟩|⟨j,a,e⟩;.rw[h1.2.1 i hi e,<-e,Dict.gi hk hi];rfl
 .rw[h1.2.2 λi hi e'=>hk.of i j hi a (e'.trans e.symm),j5,<-e,Dict.fg hk a]
theorem k3{m n:Nat}{D:Dic}(h:D.dM m n)(hk:D.fn.Ok m n){s:Nat}(hs:s<n){k:Nat}(b:k<n):(ez n D s).length=n/\pt (ez n D s) k=D.fn.dir m n s k-D.fn.cu m n k:=by
 have c:(if D.free.getD s 0<n then(aT n).set (D.free.getD s 0) 1 else aT n).length=n:=by split<;>simp[aT]
 have h1:=nI (m:=m) (n:=n) (λi=>D.own.getD i 0) (λi=>-(bJ D i s)) hk.oi _ c k b;unfold ez pt;rw[h.own];refine⟨h1.1,?_⟩;rcases hk.all k (by omega)with⟨i,hi,e⟩|⟨j,a,e⟩;.rw[h1.2.1 i hi e,<-e,Dict.gi hk hi,Dict.iR hk hi hs];show-(D.fn.a i s)=_;grind
 .rw[h1.2.2 λi hi e'=>hk.of i j hi a (e'.trans e.symm),<-e,Dict.fg hk a,Dict.hT hk a hs];show(if D.fn.free s<n then(aT n).set (D.fn.free s) 1 else aT n).getD (D.fn.free j) 0=_;by_cases g:j=s;.subst g;rw[yK (by rw[e];exact b),Dic.f_ _ _ _ _ _ (by simp[aT];rw[e];exact b)];simp;grind
  .have f:D.fn.free j≠D.fn.free s:=λe'=>g (hk.fi _ _ a hs e');rw[yB g];split;(.rename_i d;rw[Dic.f_ _ _ _ _ _ (by simp[aT];exact d),yB f,j5];grind);.rw[j5];grind
theorem lj{n:Nat}{x y:Nat->Rat}(he:∀k,k<n->x k=y k):∀{l:List (Nat×Rat)}{lo:Nat},bh n lo l->aM l x=aM l y|[],_,_=>rfl|(v,c)::l,lo,h=>by rw[cR,cR,lj he h.2.2.2,he v h.2.1]
theorem lC(x y:Nat->Rat):∀l:List (Nat×Rat),aM l (λk=>x k+y k)=aM l x+aM l y|[]=>by simp only[ew];grind|t::l=>by rw[cR,cR,cR,lC x y l];grind
theorem qM{s:a1}(hs:s.Ok){g:List (Nat×Rat)}{D:Dic}(hl:D.dM (aP s.n s.rows).length s.n)(hk:D.fn.Ok (aP s.n s.rows).length s.n)(f:Dict.Same (aP s.n s.rows).length s.n (b6 s g).fn D.fn)(h:∀i,i<(aP s.n s.rows).length->0<=D.fn.v i):s.Holds (pt (c2 s.n D))/\∀k,k<s.n+(aP s.n s.rows).length->(b6 s g).fn.ext (aP s.n s.rows).length s.n (pt (c2 s.n D)) k=D.fn.cu (aP s.n s.rows).length s.n k:=by
 have d:=(f.dJ _).2 (Dict.eM hk λ_=>0);have he:∀k,k<s.n+(aP s.n s.rows).length->(b6 s g).fn.ext (aP s.n s.rows).length s.n (pt (c2 s.n D)) k=D.fn.cu (aP s.n s.rows).length s.n k:=by
  intro k b;by_cases c:k<s.n;.rw[jm s g _ c];exact(np hl hk c).2
  .obtain⟨i,rfl⟩:∃i,k=s.n+i:=⟨k-s.n,by omega⟩;(have hi:i<(aP s.n s.rows).length:=by omega);have h1:=d i hi;rw[show(b6 s g).fn.own i=s.n+i from l_ s g hi]at h1;rw[jn s g _ hi];unfold Dict.cu;rw[h1];show _=(b6 s g).fn.v i-_;congr 1;exact dV λj a=>by rw[show(b6 s g).fn.free j=j from jf s g a,(np hl hk a).2];rfl
 refine⟨(ki hs g _).2 λk b=>?_,he⟩;rw[he k b];rcases hk.all k (by omega)with⟨i,hi,e⟩|⟨j,a,e⟩;.rw[<-e,Dict.gi hk hi];exact h i hi
 .rw[<-e,Dict.fg hk a];exact zZ
theorem oV{s:a1}(hs:s.Ok){g:List (Nat×Rat)}{D:Dic}(c:Dict.Same (aP s.n s.rows).length s.n (b6 s g).fn D.fn)(hk:D.fn.Ok (aP s.n s.rows).length s.n){r:Nat}(h:Dic.Ends (aP s.n s.rows).length s.n D.fn (some r) none)(x:Nat->Rat):¬s.Holds x:=by intro hx;have h1:=(ki hs g x).1 hx;have h2:=(c.dJ _).1 (Dict.eM (fl s g) x) r h.1;have b:=h1 _ (hk.lt.1 r h.1);rw[h2]at b;have d:0<=a4 s.n λj=>D.fn.a r j*(b6 s g).fn.ext (aP s.n s.rows).length s.n x (D.fn.free j):=nX λj a=>Aj (h.2.2 j a) (h1 _ (hk.lt.2 j a));have:=h.2.1;grind
theorem fE{s:a1}(hs:s.Ok){g:List (Nat×Rat)}(hg:bh s.n 0 g):((aW s g).kind=0/\(aW s g).X.length=s.n/\s.Holds (pt (aW s g).X)/\(aW s g).value=some (aM g (pt (aW s g).X))/\∀x,s.Holds x->aM g (pt (aW s g).X)<=aM g x)\/((aW s g).kind=1/\(aW s g).X=[]/\(aW s g).value=none/\∀x,¬s.Holds x)\/((aW s g).kind=2/\(aW s g).X.length=s.n/\(aW s g).eI.length=s.n/\(aW s g).value=none/\s.Holds (pt (aW s g).X)/\s.Holds (λk=>pt (aW s g).X k+pt (aW s g).eI k)/\aM g (pt (aW s g).eI)<0):=by
 have ends:∀w,∃x,de (jB s) (b6 s w)=some x:=λw=>Dic.lA (il s w) (fl s w);have L:∀D:Dic,D.dM (aP s.n s.rows).length s.n->D.fn.Ok (aP s.n s.rows).length s.n->(c2 s.n D).length=s.n:=λD h1 h2=>by
  have C:=nI (m:=(aP s.n s.rows).length) (n:=s.n+1) (λi=>D.own.getD i 0) (λi=>(D.rows.getD i (0,[])).1) h2.oi (aT (s.n+1)) (by simp[aT]) 0 (by omega);clear C;unfold c2;have:∀(l:List Nat)(f:List Rat),(l.foldl (λx i=>if D.own.getD i 0<s.n then x.set (D.own.getD i 0) (D.rows.getD i (0,[])).1 else x) f).length=f.length:=by
   intro l;induction l with
   |nil=>intro f;rfl
   |cons i l F=>intro f;rw[zH,F];split<;>simp
  rw[this];simp[aT]
 have S:∀(D:Dic)(c:Nat),(ez s.n D c).length=s.n:=λD c=>by
  unfold ez;have:∀(l:List Nat)(f:List Rat),(l.foldl (λx i=>if D.own.getD i 0<s.n then x.set (D.own.getD i 0) (-(bJ D i c))else x) f).length=f.length:=by
   intro l;induction l with
   |nil=>intro f;rfl
   |cons i l F=>intro f;rw[zH,F];split<;>simp
  rw[this];split<;>simp[aT]
 obtain⟨⟨D,row,bI⟩,h1⟩:=ends g;obtain⟨hl,hk,q,he⟩:=Dic.lK (il s g) (fl s g) h1;rcases row with _|r<;>rcases bI with _|c
 .left;have e:aW s g=⟨0,some (aM g (pt (c2 s.n D))),c2 s.n D,hH s.n s.rows.length (cB 0 s.rows) D,[]⟩:=by unfold aW;rw[h1]
  rw[e];obtain⟨h2,C⟩:=qM hs hl hk q he.1;refine⟨rfl,L D hl hk,h2,rfl,λx hx=>?_⟩;dsimp only;have P:=(ki hs g x).1 hx;obtain⟨c,hc⟩:=q.obj;have y:=(q.dJ _).2 (Dict.eM hk λ_=>0);have I:=hc _ (Dict.eM (fl s g) x);have M:=hc _ y;have J:=Dict.iX hk;unfold Dict.cu at J;rw[J,lG s hg]at M;rw[lG s hg]at I;have W:D.fn.obj s.n ((b6 s g).fn.ext (aP s.n s.rows).length s.n x)<=0:=oy λj h=>by have d:=he.2 j h;have A:=P _ (hk.lt.2 j h);have:=Aj (a:=-D.fn.g j) (b:=(b6 s g).fn.ext (aP s.n s.rows).length s.n x (D.fn.free j)) (by grind) A;grind
  have N:=lj (λk hk=>jm s g x hk) hg;have O:aM g (pt (c2 s.n D))=aM g (Dict.ext (aP s.n s.rows).length s.n D.fn λ_=>0):=lj (λk p=>(np hl hk p).2) hg;rw[N]at I;rw[O];grind
 .have e:=he;obtain⟨⟨E,U,H⟩,B⟩:=ends [];obtain⟨K,o,v,z⟩:=Dic.lK (il s []) (fl s []) B;rcases U with _|T;.right;right;(have e:aW s g=⟨2,none,c2 s.n E,[],ez s.n D c⟩:=by unfold aW;rw[h1];dsimp only;rw[B]);rw[e];(have R:∀i,i<(aP s.n s.rows).length->0<=E.fn.v i:=by rcases H with _|c';(.exact z.1);.exfalso;obtain⟨d,A,G⟩:=z;obtain⟨k,u⟩:=v.obj;have t:=u _ ((v.dJ _).2 (Dict.eM o λk=>if k=E.fn.free c' then 1 else 0));have b2:=u _ ((v.dJ _).2 (Dict.eM o λ_=>0));have b3:=Dict.iX o;have b4:=Dict.lO o d;unfold Dict.cu at b3;unfold Dict.dir at b4;rw[lG s (by trivial),ew]at t b2;grind);obtain⟨h2,C⟩:=qM hs K o v R;obtain⟨d,A,G⟩:=he;have hd:=(q.dJ _).2 (Dict.eM hk λk=>if k=D.fn.free c then 1 else 0);have y:=(q.dJ _).2 (Dict.eM hk λ_=>0);refine⟨rfl,L E K o,S D c,rfl,h2,?_,?_⟩;(.dsimp only;refine(ki hs g _).2 λk Q=>?_;(have key:(b6 s g).fn.ext (aP s.n s.rows).length s.n (λk=>pt (c2 s.n E) k+pt (ez s.n D c) k) k=(b6 s g).fn.ext (aP s.n s.rows).length s.n (pt (c2 s.n E)) k+(D.fn.dir (aP s.n s.rows).length s.n c k-D.fn.cu (aP s.n s.rows).length s.n k):=by by_cases p:k<s.n;(.rw[jm s g _ p,jm s g _ p,(k3 hl hk d p).2]);.obtain⟨i,rfl⟩:∃i,k=s.n+i:=⟨k-s.n,by omega⟩;(have hi:i<(aP s.n s.rows).length:=by omega);rw[jn s g _ hi,jn s g _ hi];have t:=hd i hi;have b2:=y i hi;rw[show(b6 s g).fn.own i=s.n+i from l_ s g hi]at t b2;(have b3:(a4 s.n λj=>((aP s.n s.rows).getD i (0,[])).2.getD j 0*(pt (c2 s.n E) j+pt (ez s.n D c) j))=(a4 s.n λj=>((aP s.n s.rows).getD i (0,[])).2.getD j 0*pt (c2 s.n E) j)+((a4 s.n λj=>(b6 s g).fn.a i j*D.fn.dir (aP s.n s.rows).length s.n c ((b6 s g).fn.free j))-a4 s.n λj=>(b6 s g).fn.a i j*D.fn.cu (aP s.n s.rows).length s.n ((b6 s g).fn.free j)):=by rw[<-k8,<-sR];refine dV λj h=>?_;rw[(k3 hl hk d h).2,show(b6 s g).fn.free j=j from jf s g h];show _=_+((((aP s.n s.rows).getD i (0,[])).2.getD j 0)*_-(((aP s.n s.rows).getD i (0,[])).2.getD j 0)*_);grind);rw[b3];unfold Dict.dir Dict.cu at*;grind);rw[key];have X:=(ki hs g _).1 h2 k Q;(have Y:0<=D.fn.dir (aP s.n s.rows).length s.n c k-D.fn.cu (aP s.n s.rows).length s.n k:=by rcases hk.all k (by omega)with⟨i,hi,e⟩|⟨j,h,e⟩;(.rw[<-e,Dict.gi hk hi,Dict.iR hk hi d];have:=G i hi;grind);.rw[<-e,Dict.fg hk h,Dict.hT hk h d];split<;>grind);grind);.dsimp only;obtain⟨k,u⟩:=q.obj;have t:=u _ hd;have b2:=u _ y;have b3:=Dict.iX hk;have b4:=Dict.lO hk d;unfold Dict.cu at b3;unfold Dict.dir at b4;rw[lG s hg]at t b2;(have V:aM g (pt (ez s.n D c))+aM g (Dict.ext (aP s.n s.rows).length s.n D.fn λ_=>0)=aM g (Dict.ext (aP s.n s.rows).length s.n D.fn λk=>if k=D.fn.free c then 1 else 0):=by rw[<-lC];refine lj (λk p=>?_) hg;rw[(k3 hl hk d p).2];unfold Dict.dir Dict.cu;grind);grind
  .right;left;(have e:aW s g=⟨1,none,[],gg s.n s.rows.length (cB 0 s.rows) E T,[]⟩:=by unfold aW;rw[h1];dsimp only;rw[B]);rw[e];rcases H with _|c';(.exact⟨rfl,rfl,rfl,oV hs v o z⟩);.exact z.elim
 .right;left;have e:aW s g=⟨1,none,[],gg s.n s.rows.length (cB 0 s.rows) D r,[]⟩:=by unfold aW;rw[h1]
  rw[e];exact⟨rfl,rfl,rfl,oV hs q hk he⟩
 .exact he.elim
structure dW where
 kind:Int
 hh:Int
 gw:Int
structure bG where
 day:Int
 aK:Int
 to:Int
 scale:Int
 reading:Int
 all:Bool
structure b7 where
 scale:Int
 aK:Int
 dH:Int
 bM:Int
 dt:Int
 cZ:Int
structure bS where
 scale:Int
 since:Int
structure im where
 move:Int
 gw:Int
 least:Int
 most:Int
structure bf where
 bd:Int
 hh:Int
 bn:Int
 places:List dW
 au:List bG
 cq:List b7
 cf:List bS
 gT:List im
structure b8 where
 move:Int
 kind:Int
 bM:Int
structure fe where
 move:Int
 kind:Int
structure aI where
 ev:bf
 a2:List b8
 bX:List fe
def cD(n lo hi:Int):Bool:=decide (lo<=n)&&decide (n<=hi)
def dL(i n:Int):Bool:=decide (0<=i)&&decide (i<n)
def jD(e:bf):Bool:=decide (6<e.bd)||decide (100<e.hh)||decide (30<e.bn)||decide (100<e.places.length)||decide (200<e.au.length)||decide (100<e.cq.length)||decide (30<e.cf.length)||decide (200<e.gT.length)
def jM(e:bf)(p:dW):Bool:=dL p.kind 7&&(if p.kind=0 then dL p.hh e.hh&&dL p.gw e.bd else decide (p.hh=-1)&&decide (p.gw=-1))
def eE(e:bf)(p:Int):Int:=match e.places[p.toNat]? with|some x=>x.kind|none=>-1
def gL(e:bf)(m:bG):Bool:=dL m.aK e.places.length&&dL m.to e.places.length&&!decide (m.aK=m.to)&&!(decide (eE e m.aK=5)||decide (eE e m.aK=6)||decide (eE e m.aK=0)&&m.all)&&!decide (eE e m.to=0)&&(if m.scale=-1 then decide (m.reading=0)else dL m.scale e.bn&&cD m.reading 0 1099511627776)
def ea(e:bf)(c:b7):Bool:=decide (0<=c.aK)&&decide (c.aK<=c.dH)&&decide (c.dH<=100000)&&dL c.scale e.bn&&cD c.bM 0 1099511627776&&cD c.dt 0 1000&&cD c.cZ 0 10000000
def dY(e:bf)(r:bS):Bool:=dL r.scale e.bn&&cD r.since 0 100000
def dQ(e:bf)(p:im):Bool:=dL p.move e.au.length&&dL p.gw e.bd&&decide (0<=p.least)&&decide (p.least<=p.most)&&decide (p.most<=1000)
def hI(e:bf):Bool:=e.cq.all (ea e)&&e.cf.all (dY e)&&e.gT.all (dQ e)
def fJ(e:bf):Int->List bG->Int|_,[]=>0|last,m::l=>if m.day<last\/100000<m.day then 17 else if gL e m then fJ e m.day l else 1
def fC(e:bf):Int:=if jD e then 6 else if e.bd<1\/e.hh<0\/e.bn<0\/e.places.all (jM e)=false then 1 else if fJ e 0 e.au≠0 then fJ e 0 e.au else if hI e then 0 else 1
def gm(e:bf)(move kind:Int):Int:=if move<0\/(e.au.length:Int)<=move then 4 else if kind<0\/8<=kind then 1 else 0
def eZ(e:bf):List b8->Int|[]=>0|f::l=>if gm e f.move f.kind≠0 then gm e f.move f.kind else if f.bM<1\/1099511627776<f.bM then 3 else eZ e l
def gR(e:bf):List fe->Int|[]=>0|c::l=>if gm e c.move c.kind≠0 then gm e c.move c.kind else gR e l
def cT(t:aI):Int:=if fC t.ev≠0 then fC t.ev else if 20<t.a2.length\/50<t.bX.length then 6 else if eZ t.ev t.a2≠0 then eZ t.ev t.a2 else gR t.ev t.bX
def eP(c:b7)(day:Int):Bool:=decide (0<=c.aK)&&decide (c.aK<=c.dH)&&decide (c.dH<=100000)&&cD c.scale 0 29&&cD c.bM 0 1099511627776&&cD c.dt 0 1000&&cD c.cZ 0 10000000&&decide (c.aK<=day)&&decide (day<=c.dH)
def g_(scale day:Int):Option b7->List b7->Option b7|b,[]=>b|b,c::l=>g_ scale day (if decide (c.scale=scale)&&eP c day&&(match b with|none=>true|some x=>decide (x.aK<=c.aK))then some c else b) l
def kz(l:List bS)(scale day:Int):Bool:=l.any λx=>decide (x.scale=scale)&&decide (x.since<=day)
def g7(c:b7)(reading day:Int):Rat:=mkRat (c.dt*reading) 1000+((c.bM+c.cZ*(day-c.aK):Int):Rat)
def gX(cq:List b7)(cf:List bS)(scale reading day:Int):Option (Rat×Rat):=match g_ scale day none cq with|none=>none|some c=>if kz cf scale day||!cD reading 0 1099511627776 then none else some (if(reading:Rat)-g7 c reading day<0 then 0 else(reading:Rat)-g7 c reading day,(reading:Rat)+g7 c reading day)
structure ep where
 high:Option Rat
 a2:List Int
 bX:Nat
def cj(t:aI)(kind:Int)(i:Nat)(x:bG):ep where
 high:=if x.scale=-1 then none else(gX t.ev.cq t.ev.cf x.scale x.reading x.day).map (·.2)
 a2:=(t.a2.filter λf=>decide (f.kind=kind)&&decide (f.move=(i:Int))).map (·.bM)
 bX:=(t.bX.filter λc=>decide (c.kind=kind)&&decide (c.move=(i:Int))).length
def fQ(t:aI)(kind:Int):List ep:=t.ev.au.mapIdx λi x=>cj t kind i x
def b1(e:bf)(x:bG):Bool:=decide (eE e x.aK=0)
def cC(p:Int):Nat->List bG->List (Nat×Rat)|_,[]=>[]|i,y::l=>(if p=y.to then[(i,1)]else if p=y.aK then[(i,-1)]else[])++cC p (i+1) l
def fT(e:bf)(i:Nat)(x:bG):a9:=⟨cC x.aK 0 (e.au.take i)++[(i,-1)],if x.all then 2 else 0,0⟩
def cz(i:Nat)(kind:Nat)(v:Rat):a9:=⟨[(i,1)],kind,v⟩
def fN(t:aI)(kind:Int)(i:Nat)(x:bG):List a9:=(if b1 t.ev x then[]else[fT t.ev i x])++((match(cj t kind i x).high with|none=>[]|some h=>[cz i 1 h])++((cj t kind i x).a2.map (λ(g:Int)=>cz i 0 (g:Rat))++List.replicate (cj t kind i x).bX (cz i 2 0)))
def bp(t:aI)(kind:Int):a1:=⟨t.ev.au.length,(t.ev.au.mapIdx λi x=>fN t kind i x).flatten⟩
def gl(ms:List bG)(z:Nat->Rat)(p:Int):Rat:=aM (cC p 0 ms) z
structure ub(t:aI)(kind:Int)(z:Nat->Rat)(i:Nat)(x:bG):Prop where
 nr:0<=z i
 most:b1 t.ev x=false->z i<=gl (t.ev.au.take i) z x.aK
 all:b1 t.ev x=false->x.all=true->z i=gl (t.ev.au.take i) z x.aK
 high:∀h,(cj t kind i x).high=some h->z i<=h
 a2:∀g∈(cj t kind i x).a2,((g:Int):Rat)<=z i
 bX:0<(cj t kind i x).bX->z i=0
def kx(t:aI)(kind:Int)(z:Nat->Rat):Prop:=∀i x,t.ev.au[i]?=some x->ub t kind z i x
theorem qK(a b:List (Nat×Rat))(z:Nat->Rat):aM (a++b) z=aM a z+aM b z:=by
 induction a with
 |nil=>rw[zB,ew];grind
 |cons t a c=>rw[zD,cR,cR,c];grind
theorem qo(p:Int):∀(a b:List bG)(i:Nat),cC p i (a++b)=cC p i a++cC p (i+a.length) b|[],b,i=>by simp[cC]|y::a,b,i=>by rw[zD,cC,cC,qo p a b (i+1),yO,zh,show i+1+a.length=i+(a.length+1) by omega]
theorem sZ{ms:List bG}{i:Nat}{x:bG}(hx:ms[i]?=some x)(z:Nat->Rat)(p:Int):gl (ms.take (i+1)) z p=gl (ms.take i) z p+(if p=x.to then z i else if p=x.aK then-(z i)else 0):=by
 obtain⟨hi,_⟩:=yp.1 hx;unfold gl;rw[yz,hx,Option.toList,qo,qK,yS,y3 (by omega)];congr 1;simp only[cC,y6,y4];split;.rw[cR,ew];grind
 .split;.rw[cR,ew];grind
  .exact ew _
theorem hb(i kind:Nat)(v:Rat)(z:Nat->Rat):(cz i kind v).holds z↔(kind≠1->v<=z i)/\(kind≠0->z i<=v):=by
 unfold a9.holds cz;have:aM [(i,(1:Rat))] z=z i:=by rw[cR,ew];grind
 dsimp only;rw[this]
theorem nA(e:bf)(i:Nat)(x:bG)(z:Nat->Rat):(fT e i x).holds z↔z i<=gl (e.au.take i) z x.aK/\(x.all=true->z i=gl (e.au.take i) z x.aK):=by unfold a9.holds fT;dsimp only;rw[qK,cR,ew];show _↔z i<=aM (cC x.aK 0 (e.au.take i)) z/\(x.all=true->z i=aM (cC x.aK 0 (e.au.take i)) z);generalize aM (cC x.aK 0 (e.au.take i)) z=b;cases x.all<;>simp<;>grind
theorem nE{t:aI}{kind:Int}{r:a9}:r∈(bp t kind).rows↔∃i x,t.ev.au[i]?=some x/\r∈fN t kind i x:=by
 simp only[bp,List.mem_flatten,Bt];constructor;.rintro⟨l,⟨i,hi,rfl⟩,a⟩;exact⟨i,_,yk hi,a⟩
 .rintro⟨i,x,hx,a⟩;obtain⟨hi,e⟩:=yp.1 hx;exact⟨_,⟨i,hi,rfl⟩,by rw[e];exact a⟩
theorem lF(t:aI)(kind:Int)(z:Nat->Rat):(bp t kind).Holds z↔kx t kind z:=by
 constructor
 .rintro⟨h1,h2⟩ i x hx;obtain⟨hi,_⟩:=yp.1 hx;have hm:∀r∈fN t kind i x,r.holds z:=λr a=>h2 r (nE.2 ⟨i,x,hx,a⟩);unfold fN at hm;have hs:b1 t.ev x=false->(fT t.ev i x).holds z:=λb=>hm _ (by simp[b]);refine⟨h1 i hi,λb=>((nA _ _ _ _).1 (hs b)).1,λb=>((nA _ _ _ _).1 (hs b)).2,λh hh=>?_,λg hg=>?_,λhc=>?_⟩;.exact((hb i 1 h z).1 (hm _ (by simp[hh]))).2 (by omega)
  .exact((hb i 0 g z).1 (hm _ (by refine Ae _ (Ae _ (List.mem_append_left _ ?_));exact yF.2 ⟨g,hg,rfl⟩))).1 (by omega)
  .have:=(hb i 2 0 z).1 (hm _ (by refine Ae _ (Ae _ (Ae _ ?_));exact BM.2 ⟨by omega,rfl⟩));have c:=this.1 (by omega);have d:=this.2 (by omega);grind
 .intro h;refine⟨λk hk=>?_,λr a=>?_⟩;.exact(h k _ (yk hk)).nr
  .obtain⟨i,x,hx,a⟩:=nE.1 a;have hk:=h i x hx;unfold fN at a;rcases y1.1 a with a|a;(.split at a;(.cases a);.rename_i b;simp only[Bool.not_eq_true]at b;rw[zq]at a;subst a;exact(nA _ _ _ _).2 ⟨hk.most b,hk.all b⟩);rcases y1.1 a with a|a;(.split at a;(.cases a);.rename_i hh heq;rw[zq]at a;subst a;exact(hb _ _ _ _).2 ⟨λe=>absurd rfl e,λ_=>hk.high _ heq⟩);rcases y1.1 a with a|a;(.obtain⟨g,hg,rfl⟩:=yF.1 a;exact(hb _ _ _ _).2 ⟨λ_=>hk.a2 g hg,λe=>absurd rfl e⟩);.obtain⟨hc,rfl⟩:=BM.1 a;have:=hk.bX (by omega);exact(hb _ _ _ _).2 ⟨λ_=>by rw[this];exact zZ,λ_=>by rw[this];exact zZ⟩
open Go.RowKit
def dW.cs(p:dW):List Value:=[.int .i64 p.kind,.int .i64 p.hh,.int .i64 p.gw]
def bG.cs(p:bG):List Value:=[.int .i64 p.day,.int .i64 p.aK,.int .i64 p.to,.int .i64 p.scale,.int .i64 p.reading,.bool p.all]
def b7.cs(p:b7):List Value:=[.int .i64 p.scale,.int .i64 p.aK,.int .i64 p.dH,.int .i64 p.bM,.int .i64 p.dt,.int .i64 p.cZ]
def bS.cs(p:bS):List Value:=[.int .i64 p.scale,.int .i64 p.since]
def im.cs(p:im):List Value:=[.int .i64 p.move,.int .i64 p.gw,.int .i64 p.least,.int .i64 p.most]
def b8.cs(p:b8):List Value:=[.int .i64 p.move,.int .i64 p.kind,.int .i64 p.bM]
def fe.cs(p:fe):List Value:=[.int .i64 p.move,.int .i64 p.kind]
structure EC where
 PA:Option Addr
 pn:Nat
 pc:Nat
 MA:Option Addr
 mn:Nat
 mc:Nat
 CA:Option Addr
 cn:Nat
 cc:Nat
 RA:Option Addr
 rn:Nat
 rc:Nat
 UA:Option Addr
 un:Nat
 uc:Nat
abbrev EC.v(x:EC)(e:bf):Value:=.agg #[.int .i64 e.bd,.int .i64 e.hh,.int .i64 e.bn,.slice x.PA x.pn x.pc,.slice x.MA x.mn x.mc,.slice x.CA x.cn x.cc,.slice x.RA x.rn x.rc,.slice x.UA x.un x.uc]
abbrev EC.X(x:EC)(e:bf):Array Value:=#[.int .i64 e.bd,.int .i64 e.hh,.int .i64 e.bn,.slice x.PA x.pn x.pc,.slice x.MA x.mn x.mc,.slice x.CA x.cn x.cc,.slice x.RA x.rn x.rc,.slice x.UA x.un x.uc]
structure EvAt(w:World)(x:EC)(e:bf):Prop where
 pl:Sl w 3 x.PA x.pn (e.places.map dW.cs)
 mv:Sl w 6 x.MA x.mn (e.au.map bG.cs)
 ce:Sl w 6 x.CA x.cn (e.cq.map b7.cs)
 re:Sl w 2 x.RA x.rn (e.cf.map bS.cs)
 pu:Sl w 4 x.UA x.un (e.gT.map im.cs)
 lp:x.pn<=x.pc/\x.pn<=100000000000
 lm:x.mn<=x.mc/\x.mn<=100000000000
 lc:x.cn<=x.cc/\x.cn<=100000000000
 lr:x.rn<=x.rc/\x.rn<=100000000000
 lu:x.un<=x.uc/\x.un<=100000000000
theorem EvAt.ad{w w':World}{x:EC}{e:bf}(h:EvAt w x e)(a:Below w.heap.size w w'):EvAt w' x e:=⟨h.pl.ad a,h.mv.ad a,h.ce.ad a,h.re.ad a,h.pu.ad a,h.lp,h.lm,h.lc,h.lr,h.lu⟩
namespace EvAt
variable {w:World} {x:EC} {e:bf}
theorem pn(h:EvAt w x e):e.places.length=x.pn:=by have:=h.pl.len;simpa using this
theorem mn(h:EvAt w x e):e.au.length=x.mn:=by have:=h.mv.len;simpa using this
theorem cn(h:EvAt w x e):e.cq.length=x.cn:=by have:=h.ce.len;simpa using this
theorem rn(h:EvAt w x e):e.cf.length=x.rn:=by have:=h.re.len;simpa using this
theorem un(h:EvAt w x e):e.gT.length=x.un:=by have:=h.pu.len;simpa using this
end EvAt
theorem Sl.getM{α:Type}{f:α->List Value}{w:World}{size n i:Nat}{A:Option Addr}{xs:List α}{x:α}(h:Sl w size A n (xs.map f))(hx:xs[i]?=some x):∃b o,A=some ⟨b,o,none⟩/\b<w.heap.size/\∀W,Below w.heap.size w W->∀j v,(f x)[j]?=some v->W.cell? ⟨b,o+i*size+j,none⟩=some v:=by obtain⟨b,o,hA,a,hc⟩:=h.2 i (f x) (by rw[yG,hx];rfl);exact⟨b,o,hA,a,λW c j v d=>(c.cell (p:=⟨b,_,none⟩) a).trans (hc j v d)⟩
theorem iA(w:World)(i n:Int):Calls Tryz.prog 67 #[.int .i64 i,.int .i64 n] w λe w'=>e=.returned (.bool (dL i n))/\w=w':=by
 go_enter Tryz.func67,Tryz.ntmps67;go_wp2_with(fail);all_goals go_ret
 all_goals simp[dL, *]
 all_goals omega
theorem iI(w:World)(n lo hi:Int):Calls Tryz.prog 68 #[.int .i64 n,.int .i64 lo,.int .i64 hi] w λe w'=>e=.returned (.bool (cD n lo hi))/\w=w':=by
 go_enter Tryz.func68,Tryz.ntmps68;go_wp2_with(fail);all_goals go_ret
 all_goals simp[cD, *]
 all_goals omega
def iK(x:EC)(e:bf):List (Int×Int):=[(e.bd,6),(e.hh,100),(e.bn,30),((x.pn:Int),100),((x.mn:Int),200),((x.cn:Int),100),((x.rn:Int),30),((x.un:Int),200)]
theorem uL{w:World}{x:EC}{e:bf}(h:EvAt w x e):jD e=!((iK x e).all λp=>decide (p.1<=p.2)):=by rw[At];simp only[jD,iK,h.pn,h.mn,h.cn,h.rn,h.un,List.all_cons,List.all_nil,Bool.and_true,AR,Bool.and_eq_false_iff,As,zf,zr];omega
theorem wC(l:List (Int×Int))(i:Nat)(p:Int×Int)(hp:l[i]?=some p):(l.map λp=>[Value.int .i64 p.1,.int .i64 p.2]).flatten[i*2]?=some (.int .i64 p.1)/\(l.map λp=>[Value.int .i64 p.1,.int .i64 p.2]).flatten[i*2+1]?=some (.int .i64 p.2):=by
 have h1:∀y∈(l.map λp=>[Value.int .i64 p.1,.int .i64 p.2]),y.length=2:=λy hy=>by obtain⟨q,_,rfl⟩:=yF.1 hy;rfl
 have h2:(l.map λp=>[Value.int .i64 p.1,.int .i64 p.2])[i]?=some [.int .i64 p.1,.int .i64 p.2]:=by rw[yG,hp];rfl
 exact⟨jv _ h1 i 0 _ _ h2 rfl,jv _ h1 i 1 _ _ h2 rfl⟩
theorem wh(w:World)(x:EC)(e:bf)(h:EvAt w x e)(r:Bool)(y:jD e=r):Calls Tryz.prog 39 #[x.v e] w λB w'=>B=.returned (.bool r)/\Below w.heap.size w w':=by
 have o:=yj ((uL h).symm.trans y);have l:Hid ((iK x e).length=8):=yj rfl;clear y h;go_enter Tryz.func39,Tryz.ntmps39;go_upto_block 0 with(fail);have t:Loc ((w.alloc (.cells (x.X e) 28)).alloc (.cells #[.int .i64 e.bd,.int .i64 6,.int .i64 e.hh,.int .i64 100,.int .i64 e.bn,.int .i64 30,.int .i64 (x.pn:Int),.int .i64 100,.int .i64 (x.mn:Int),.int .i64 200,.int .i64 (x.cn:Int),.int .i64 100,.int .i64 (x.rn:Int),.int .i64 30,.int .i64 (x.un:Int),.int .i64 200] 144)) (w.heap.size+1) ((iK x e).map λp=>[Value.int .i64 p.1,.int .i64 p.2]).flatten.toArray:=by have:=Loc.C (w.alloc (.cells (x.X e) 28)) ((iK x e).map λp=>[Value.int .i64 p.1,.int .i64 p.2]).flatten.toArray 144;rw[ym]at this;exact this
 have hB:Below w.heap.size w ((w.alloc (.cells (x.X e) 28)).alloc (.cells #[.int .i64 e.bd,.int .i64 6,.int .i64 e.hh,.int .i64 100,.int .i64 e.bn,.int .i64 30,.int .i64 (x.pn:Int),.int .i64 100,.int .i64 (x.mn:Int),.int .i64 200,.int .i64 (x.cn:Int),.int .i64 100,.int .i64 (x.rn:Int),.int .i64 30,.int .i64 (x.un:Int),.int .i64 200] 144)):=b2 _ _;generalize(w.alloc (.cells (x.X e) 28)).alloc (.cells #[.int .i64 e.bd,.int .i64 6,.int .i64 e.hh,.int .i64 100,.int .i64 e.bn,.int .i64 30,.int .i64 (x.pn:Int),.int .i64 100,.int .i64 (x.mn:Int),.int .i64 200,.int .i64 (x.cn:Int),.int .i64 100,.int .i64 (x.rn:Int),.int .i64 30,.int .i64 (x.un:Int),.int .i64 200] 144)=z at*;have A:=yj t;have d:=yj hB;clear t hB;go_wp2_with(fail);go_loopw[36] (λj wr=>∃i:Nat,i<=8/\j=.int .i64 (i:Int)/\((iK x e).take i).all (λp=>decide (p.1<=p.2))=true/\Below z.heap.size z wr) (λj _=>8-(intOf j).toNat);case atStart=>exact⟨0,by omega,rfl,rfl,yl _ _⟩
 case round=>
  obtain⟨i,hi,rfl,u,v⟩:=hrel;obtain⟨f,rfl⟩:∃f:World,f=wr:=⟨_,rfl⟩;have c:=yj v;have k:=yj u;clear u v;by_cases g:i<8;.obtain⟨⟨a,b⟩,hp⟩:∃p,(iK x e)[i]?=some p:=⟨_,yk (by rw[l.out];exact g)⟩;obtain⟨q,s⟩:=wC _ _ _ hp;have hl:=A.out.ad c.out;have E:f.cell? ⟨w.heap.size+1,i*2,none⟩=some (.int .i64 a):=(hl.cell (i*2)).trans (by simpa using q);have F:f.cell? ⟨w.heap.size+1,i*2+1,none⟩=some (.int .i64 b):=(hl.cell (i*2+1)).trans (by simpa using s);(have I:(i:Int)<8:=by omega);have H:(0:Int)<=(i:Int):=yo _;have n:=yj hp;have m:=yj g;clear hp hl q s g;by_cases G:b<a;(. (have D:r=true:=by rw[<-o.out,AR,BS];exact⟨_,yr n.out,by simp;omega⟩);subst D;go_wp2_with(fail);go_ret;exact⟨rfl,d.out.trans ((c.out.trans ((az _ _).mono c.out.size)).mono d.out.size)⟩);.go_wp2_with(fail);go_roundw;(case rel=>refine⟨i+1,by have:=m.out;omega,by go_num,?_,c.out.trans ((az _ _).mono c.out.size)⟩;rw[yz,n.out];simp[k.out];omega);case measure=>have:=m.out;simp[intOf];omega
  . (obtain rfl:i=8:=by omega);(have C:r=false:=by have:=k.out;rw[yv (by rw[l.out];exact yq _)]at this;rw[<-o.out,this];rfl);subst C;go_wp2_with(fail);go_ret;exact⟨rfl,d.out.trans (c.out.mono d.out.size)⟩
end Go.Proofs.YthmegpnhjnphlaaGreat
namespace Go.Proofs.YthmegpnhjnphlaaGreat
open Go.RowKit
theorem jw{α:Type}{l:List α}{f:α->Bool}{i:Nat}{x:α}{r:Bool}(b:l.all f=r)(hx:l[i]?=some x)(a:f x=false):r=false:=by rw[<-b,BS];exact⟨x,yr hx,by rw[a];simp⟩
theorem ie{α:Type}{l:List α}{f:α->Bool}{i:Nat}{x:α}(h:(l.take i).all f=true)(hx:l[i]?=some x)(a:f x=true):(l.take (i+1)).all f=true:=by rw[yz,hx];simp only[BJ,List.all_append,h,List.all_cons,a,List.all_nil,Bool.and_self]
theorem jP{α:Type}{l:List α}{f:α->Bool}{i:Nat}{r:Bool}(a:l.all f=r)(h:(l.take i).all f=true)(hi:l.length<=i):r=true:=by rw[yv hi]at h;rw[<-a,h]
theorem sj(w:World)(x:EC)(e:bf)(h:EvAt w x e)(r:Bool)(y:e.places.all (jM e)=r):Calls Tryz.prog 40 #[x.v e] w λD w'=>D=.returned (.bool r)/\Below w.heap.size w w':=by
 have s:=yj y;have C:=yj h;have n:=yj h.pn;have N:=h.lp.2;clear y h;go_enter Tryz.func40,Tryz.ntmps40;go_upto_block 0 with(fail);generalize j:w.alloc (.cells (x.X e) 28)=z at*;have A:=yj (aA j);have u:=aB j;have B:=yj u;clear j u;have c:=B;go_wp2_with(fail);go_loopw[8] (λk wr=>∃i:Nat,i<=x.pn/\k=.int .i64 (i:Int)/\(e.places.take i).all (jM e)=true/\Below z.heap.size z wr) (λk _=>x.pn-(intOf k).toNat);case atStart=>exact⟨0,by omega,rfl,rfl,yl _ _⟩
 case round=>
  obtain⟨i,hi,rfl,t,v⟩:=hrel;obtain⟨d,rfl⟩:∃d:World,d=wr:=⟨_,rfl⟩;have a:=yj v;have l:=yj t;clear t v;by_cases g:i<x.pn;.obtain⟨p,hp⟩:∃p,e.places[i]?=some p:=⟨_,yk (by rw[n.out];exact g)⟩;obtain⟨b,o,hA,K,hc⟩:=(C.out.pl).getM hp;have f:=hc d (c.out.trans (a.out.mono c.out.size));have G:d.cell? ⟨b,o+i*3,none⟩=some (.int .i64 p.kind):=f 0 _ rfl;have H:d.cell? ⟨b,o+i*3+1,none⟩=some (.int .i64 p.hh):=f 1 _ rfl;have I:d.cell? ⟨b,o+i*3+2,none⟩=some (.int .i64 p.gw):=f 2 _ rfl;obtain⟨P,O,J⟩:=A.out.ad a.out;(have M:(i:Int)<(x.pn:Int):=by omega);have L:(0:Int)<=(i:Int):=yo _;have q:=yj hp;have m:=yj g;clear hp hc f g;obtain⟨PA,pn,pc,MA,mn,mc,CA,cn,cc,RA,rn,rc,UA,un,uc⟩:=x;dsimp only at hA;subst hA;go_wp2_with((with_reducible refine(iA _ _ _).mono ?_);rintro _ _⟨rfl,rfl⟩);all_goals first|(go_roundw;(case rel=>exact⟨i+1,m.out,by go_num,ie l.out q.out (by simp_all[jM]),a.out.trans ((az _ _).mono a.out.size)⟩);case measure=>have:=m.out;simp[intOf];omega)|(have E:r=false:=jw s.out q.out (by simp_all[jM]);subst E;go_ret;exact⟨rfl,c.out.trans ((a.out.trans ((az _ _).mono a.out.size)).mono c.out.size)⟩)
  . (obtain rfl:i=x.pn:=by omega);have F:r=true:=jP s.out l.out (by rw[n.out];exact yq _);subst F;go_wp2_with(fail);go_ret;exact⟨rfl,c.out.trans (a.out.mono c.out.size)⟩
