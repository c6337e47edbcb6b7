import Derived.Test.YthmegpnhjnphlaaGreatBigP
namespace Go.Proofs.YthmegpnhjnphlaaGreat
def a4:Nat->(Nat->Rat)->Rat|0,_=>0|n+1,f=>a4 n f+f n
theorem dV{n:Nat}{f g:Nat->Rat}(h:∀j,j<n->f j=g j):a4 n f=a4 n g:=by
 induction n with
 |zero=>rfl
 |succ n a=>rw[a4,a4,a λj b=>h j (by omega),h n (by omega)]
theorem sR(n:Nat)(f g:Nat->Rat):a4 n (λj=>f j+g j)=a4 n f+a4 n g:=by
 induction n with
 |zero=>simp only[a4];grind
 |succ n a=>simp only[a4,a];grind
theorem k8(n:Nat)(f g:Nat->Rat):a4 n (λj=>f j-g j)=a4 n f-a4 n g:=by
 induction n with
 |zero=>simp only[a4];grind
 |succ n a=>simp only[a4,a];grind
theorem jZ(n:Nat)(c:Rat)(f:Nat->Rat):a4 n (λj=>c*f j)=c*a4 n f:=by
 induction n with
 |zero=>simp[a4]
 |succ n a=>simp only[a4,a];grind
theorem h9(n:Nat):a4 n (λ_=>0)=0:=by
 induction n with
 |zero=>rfl
 |succ n a=>simp only[a4,a];grind
theorem h7{n s:Nat}(hs:s<n)(f:Nat->Rat):a4 n f=f s+a4 n (λj=>if j=s then 0 else f j):=by
 induction n with
 |zero=>omega
 |succ n a=>
  simp only[a4];by_cases h:s=n;.subst h;rw[dV (g:=λj=>if j=s then 0 else f j) (n:=s) (f:=f) λj b=>by simp;omega];simp;grind
  .rw[a (by omega),yB (by omega)];grind
theorem nX{n:Nat}{f:Nat->Rat}(h:∀j,j<n->0<=f j):0<=a4 n f:=by
 induction n with
 |zero=>exact zZ
 |succ n a=>have h1:=a λj b=>h j (by omega);have h2:=h n (by omega);simp only[a4];grind
theorem py{n s:Nat}{f:Nat->Rat}(h:∀j,j<n->0<=f j)(hs:s<n)(hp:0<f s):0<a4 n f:=by
 rw[h7 hs];have:0<=a4 n (λj=>if j=s then 0 else f j):=nX λj a=>by
  split;.exact zZ
  .exact h j a
 grind
theorem oy{n:Nat}{f:Nat->Rat}(h:∀j,j<n->f j<=0):a4 n f<=0:=by
 have:=nX (n:=n) (f:=λj=>(-1)*f j) λj a=>by have:=h j a;grind
 rw[jZ]at this;grind
theorem rQ{n s:Nat}{f:Nat->Rat}(h:∀j,j<n->f j<=0)(hs:s<n)(hp:f s<0):a4 n f<0:=by have:=py (n:=n) (s:=s) (f:=λj=>(-1)*f j) (λj a=>by have:=h j a;grind) hs (by grind);rw[jZ]at this;grind
structure Dict where
 own:Nat->Nat
 free:Nat->Nat
 v:Nat->Rat
 a:Nat->Nat->Rat
 g:Nat->Rat
namespace Dict
variable (m n:Nat)
def hq(D:Dict)(x:Nat->Rat):Prop:=∀i,i<m->x (D.own i)=D.v i-a4 n λj=>D.a i j*x (D.free j)
def obj(D:Dict)(x:Nat->Rat):Rat:=a4 n λj=>D.g j*x (D.free j)
structure Ok(D:Dict):Prop where
 oi:∀i a,i<m->a<m->D.own i=D.own a->i=a
 fi:∀j b,j<n->b<n->D.free j=D.free b->j=b
 of:∀i j,i<m->j<n->D.own i≠D.free j
 lt:(∀i,i<m->D.own i<n+m)/\(∀j,j<n->D.free j<n+m)
 all:∀k,k<n+m->(∃i,i<m/\D.own i=k)\/(∃j,j<n/\D.free j=k)
def a8(D:Dict)(r s:Nat):Dict where
 own:=λi=>if i=r then D.free s else D.own i
 free:=λj=>if j=s then D.own r else D.free j
 v:=λi=>if i=r then D.v r/D.a r s else D.v i-D.a i s*(D.v r/D.a r s)
 a:=λi j=>if i=r then(if j=s then 1/D.a r s else D.a r j/D.a r s)else(if j=s then 0-D.a i s*(1/D.a r s)else D.a i j-D.a i s*(D.a r j/D.a r s))
 g:=λj=>if j=s then 0-D.g s*(1/D.a r s)else D.g j-D.g s*(D.a r j/D.a r s)
variable {m n}
variable {D:Dict}
theorem Ok.a8(h:D.Ok m n){r s:Nat}(c:r<m)(hs:s<n):(D.a8 r s).Ok m n:=by
 have b:=h.of;refine⟨λi l hi d he=>?_,λj o a e he=>?_,λi j hi a he=>?_,⟨λi hi=>?_,λj a=>?_⟩,λk hk=>?_⟩
 .simp only[Dict.a8]at he;split at he<;>split at he;.omega
  .exact absurd he.symm (b _ _ d hs)
  .exact absurd he (b _ _ hi hs)
  .exact h.oi _ _ hi d he
 .simp only[Dict.a8]at he;split at he<;>split at he;.omega
  .exact absurd he (b _ _ c e)
  .exact absurd he.symm (b _ _ c a)
  .exact h.fi _ _ a e he
 .simp only[Dict.a8]at he;split at he<;>split at he;.exact b _ _ c hs he.symm
  .rename_i e;exact e (h.fi _ _ hs a he).symm
  .rename_i d _;exact d (h.oi _ _ hi c he)
  .exact b _ _ hi a he
 .simp only[Dict.a8];split;.exact h.lt.2 _ hs
  .exact h.lt.1 _ hi
 .simp only[Dict.a8];split;.exact h.lt.1 _ c
  .exact h.lt.2 _ a
 .simp only[Dict.a8];rcases h.all k hk with⟨i,hi,rfl⟩|⟨j,a,rfl⟩;.by_cases f:i=r;(.subst f;exact .inr ⟨s,hs,by simp⟩);.exact .inl ⟨i,hi,by simp[f]⟩
  .by_cases g:j=s;(.subst g;exact .inl ⟨r,c,by simp⟩);.exact .inr ⟨j,a,by simp[g]⟩
theorem nZ{s:Nat}(hs:s<n)(f:Nat->Rat)(c d:Rat)(b:Nat->Rat)(x:Nat->Rat)(k:Nat):a4 n (λj=>(if j=s then d else f j-c*b j)*x (if j=s then k else D.free j))=d*x k+(a4 n (λj=>f j*x (D.free j))-f s*x (D.free s))-c*(a4 n (λj=>b j*x (D.free j))-b s*x (D.free s)):=by
 rw[h7 hs];simp only[if_true];have h1:a4 n (λj=>if j=s then 0 else(if j=s then d else f j-c*b j)*x (if j=s then k else D.free j))=a4 n (λj=>(if j=s then 0 else f j*x (D.free j))-c*(if j=s then 0 else b j*x (D.free j))):=dV λj _=>by
  by_cases h:j=s;.simp only[h,if_true];grind
  .simp only[h,zX];grind
 rw[h1,k8,jZ,h7 hs (λj=>f j*x (D.free j)),h7 hs (λj=>b j*x (D.free j))];grind
theorem sW{r s:Nat}(k:r<m)(hs:s<n)(hp:D.a r s≠0)(x:Nat->Rat):(D.a8 r s).hq m n x↔D.hq m n x:=by
 have e:∀j,D.a r j/D.a r s=0-(-(1/D.a r s))*D.a r j:=λj=>by rw[Aa,Aa];grind
 have d:(x (D.free s)=D.v r/D.a r s-a4 n (λj=>(if j=s then 1/D.a r s else D.a r j/D.a r s)*x (if j=s then D.own r else D.free j)))↔x (D.own r)=D.v r-a4 n λj=>D.a r j*x (D.free j):=by have:=nZ (D:=D) hs (λ_=>0) (-(1/D.a r s)) (1/D.a r s) (λj=>D.a r j) x (D.own r);simp only[<-e,AM,h9]at this;rw[this];generalize a4 n (λj=>D.a r j*x (D.free j))=S;generalize D.a r s=p at*;generalize x (D.free s)=y;generalize x (D.own r)=z;generalize D.v r=b;constructor<;>intro h<;>grind
 have g:∀i,i≠r->x (D.free s)=D.v r/D.a r s-a4 n (λj=>(if j=s then 1/D.a r s else D.a r j/D.a r s)*x (if j=s then D.own r else D.free j))->((x (D.own i)=(D.v i-D.a i s*(D.v r/D.a r s))-a4 n (λj=>(if j=s then 0-D.a i s*(1/D.a r s)else D.a i j-D.a i s*(D.a r j/D.a r s))*x (if j=s then D.own r else D.free j)))↔x (D.own i)=D.v i-a4 n λj=>D.a i j*x (D.free j)):=by
  intro i hi hx;have o:=d.1 hx;have:=nZ (D:=D) hs (λj=>D.a i j) (D.a i s) (0-D.a i s*(1/D.a r s)) (λj=>D.a r j/D.a r s) x (D.own r);rw[this];have f:a4 n (λj=>D.a r j/D.a r s*x (D.free j))=(1/D.a r s)*a4 n (λj=>D.a r j*x (D.free j)):=by rw[<-jZ];exact dV λj _=>by rw[Aa,Aa];grind
  rw[f];generalize a4 n (λj=>D.a r j*x (D.free j))=S at*;generalize a4 n (λj=>D.a i j*x (D.free j))=t at*;clear this f hx d e;generalize D.a r s=p at*;generalize D.a i s=q at*;generalize x (D.free s)=y at*;generalize x (D.own r)=z at*;generalize x (D.own i)=u at*;generalize D.v r=b at*;subst o;constructor<;>intro h<;>grind
 have l:∀(y:Nat->Rat),(D.a8 r s).hq m n y↔(∀i,i<m->if i=r then y (D.free s)=D.v r/D.a r s-a4 n (λj=>(if j=s then 1/D.a r s else D.a r j/D.a r s)*y (if j=s then D.own r else D.free j))else(y (D.own i)=(D.v i-D.a i s*(D.v r/D.a r s))-a4 n (λj=>(if j=s then 0-D.a i s*(1/D.a r s)else D.a i j-D.a i s*(D.a r j/D.a r s))*y (if j=s then D.own r else D.free j)))):=by
  intro y;unfold hq;refine forall_congr' λi=>imp_congr_right λhi=>?_;by_cases h:i=r;.subst h;simp[a8]
  .simp[a8,h]
 rw[l];constructor
 .intro h i hi;have c:=h r k;rw[yK rfl]at c;by_cases a:i=r;.subst a;exact d.1 c
  .have h1:=h i hi;rw[yB a]at h1;exact(g i a c).1 h1
 .intro h i hi;have c:=d.2 (h r k);by_cases a:i=r;.subst a;rw[yK rfl];exact c
  .rw[yB a];exact(g i a c).2 (h i hi)
theorem u9{r s:Nat}(d:r<m)(hs:s<n)(hp:D.a r s≠0){x:Nat->Rat}(h:D.hq m n x):(D.a8 r s).obj n x=D.obj n x-D.g s*(D.v r/D.a r s):=by
 have c:=h r d;unfold obj;simp only[a8];rw[nZ (D:=D) hs D.g (D.g s) (0-D.g s*(1/D.a r s)) (λj=>D.a r j/D.a r s) x (D.own r)];have a:a4 n (λj=>D.a r j/D.a r s*x (D.free j))=(1/D.a r s)*a4 n (λj=>D.a r j*x (D.free j)):=by rw[<-jZ];exact dV λj _=>by rw[Aa,Aa];grind
 rw[a];generalize a4 n (λj=>D.a r j*x (D.free j))=S at*;generalize a4 n (λj=>D.g j*x (D.free j))=e at*;clear a h;generalize D.a r s=p at*;generalize x (D.free s)=y at*;generalize x (D.own r)=z at*;generalize D.v r=b at*;subst c;grind
end Dict
namespace Dict
def idx:Nat->(Nat->Nat)->Nat->Option Nat|0,_,_=>none|m+1,f,k=>if f m=k then some m else idx m f k
theorem qI{m:Nat}{f:Nat->Nat}{k i:Nat}(h:idx m f k=some i):i<m/\f i=k:=by
 induction m with
 |zero=>cases h
 |succ m b=>
  simp only[idx]at h;split at h;.rename_i a;injection h with h;subst h;exact⟨by omega,a⟩
  .have:=b h;exact⟨by omega,this.2⟩
theorem ua{m:Nat}{f:Nat->Nat}{k:Nat}(h:idx m f k=none):∀i,i<m->f i≠k:=by
 induction m with
 |zero=>intro i hi;omega
 |succ m b=>
  simp only[idx]at h;split at h;.cases h
  .rename_i a;intro i hi;by_cases hm:i=m;(.subst hm;exact a);.exact b h i (by omega)
def ext(m n:Nat)(D:Dict)(u:Nat->Rat)(k:Nat):Rat:=match idx m D.own k with|some i=>D.v i-a4 n λj=>D.a i j*u (D.free j)|none=>u k
section
variable {m n:Nat} {D D':Dict}
theorem lN(h:D.Ok m n){i:Nat}(hi:i<m)(u:Nat->Rat):D.ext m n u (D.own i)=D.v i-a4 n λj=>D.a i j*u (D.free j):=by
 unfold ext;cases hx:idx m D.own (D.own i)with
 |none=>exact absurd rfl (ua hx i hi)
 |some a=>obtain⟨h1,h2⟩:=qI hx;rw[h.oi _ _ h1 hi h2]
theorem kE(h:D.Ok m n){j:Nat}(a:j<n)(u:Nat->Rat):D.ext m n u (D.free j)=u (D.free j):=by
 unfold ext;cases hx:idx m D.own (D.free j)with
 |none=>rfl
 |some b=>obtain⟨h1,h2⟩:=qI hx;exact absurd h2 (h.of _ _ h1 a)
theorem eM(h:D.Ok m n)(u:Nat->Rat):D.hq m n (D.ext m n u):=by intro i hi;rw[lN h hi];congr 1;exact dV λj a=>by rw[kE h a]
structure Same(m n:Nat)(D D':Dict):Prop where
 dJ:∀x,D.hq m n x↔D'.hq m n x
 obj:∃c,∀x,D.hq m n x->D'.obj n x=D.obj n x+c
theorem Same.refl(D:Dict):Same m n D D:=⟨λ_=>Iff.rfl,0,λx _=>by grind⟩
theorem Same.symm(h:Same m n D D'):Same m n D' D:=⟨λx=>(h.dJ x).symm,by obtain⟨c,hc⟩:=h.obj;exact⟨-c,λx hx=>by have:=hc x ((h.dJ x).2 hx);grind⟩⟩
theorem Same.trans{a:Dict}(h:Same m n D D')(b:Same m n D' a):Same m n D a:=⟨λx=>(h.dJ x).trans (b.dJ x),by obtain⟨c,hc⟩:=h.obj;obtain⟨d,hd⟩:=b.obj;exact⟨c+d,λx hx=>by have h1:=hc x hx;have h2:=hd x ((h.dJ x).1 hx);grind⟩⟩
theorem Same.a8{r s:Nat}(a:r<m)(hs:s<n)(hp:D.a r s≠0):Same m n D (D.a8 r s):=⟨λx=>(sW a hs hp x).symm,-(D.g s*(D.v r/D.a r s)),λx hx=>by rw[u9 a hs hp hx];grind⟩
structure nx(m n:Nat)(D:Dict)(r:Nat):Prop where
 lt:r<m
 neg:D.v r<0
 own:∀i,i<m->D.own i<D.own r->0<=D.v i
 free:∀j,j<n->D.free j<D.own r->D.g j<=0
structure kN(m n:Nat)(D:Dict)(s:Nat):Prop where
 lt:s<n
 pos:0<D.g s
 free:∀j,j<n->D.free j<D.free s->D.g j<=0
 own:∀i,i<m->D.own i<D.free s->0<=D.v i
def fR(m n:Nat)(D:Dict)(r s:Nat):Prop:=(nx m n D r/\s<n/\D.a r s<0/\∀j,j<n->D.free j<D.free s->0<=D.a r j)\/(kN m n D s/\r<m/\0<D.a r s/\∀i,i<m->D.own i<D.own r->D.a i s<=0)
theorem fR.ok{r s:Nat}(h:fR m n D r s):r<m/\s<n/\D.a r s≠0:=by
 rcases h with⟨h1,h2,a,_⟩|⟨h1,h2,a,_⟩;.exact⟨h1.lt,h2,by grind⟩
 .exact⟨h2,h1.lt,by grind⟩
structure Down(n:Nat)(D:Dict)(l:Nat)(y:Nat->Rat):Prop where
 lo:∀k,k<l->0<=y k
 at_:y l<0
 hi:∀j,j<n->l<D.free j->y (D.free j)=0
theorem Down.goal{l:Nat}{y:Nat->Rat}(hd:Down n D l y)(h:D.Ok m n){s:Nat}(hs:kN m n D s)(hl:D.free s=l):D.obj n y<0:=by
 have key:D.g s*y (D.free s)<0:=by rw[hl];have:=Rat.mul_lt_mul_of_pos_left hd.at_ hs.pos;grind
 refine rQ (λj c=>?_) hs.lt key;rcases Bf (D.free j) l with h1|h1|h1;.have h2:=hs.free j c (by omega);have d:=hd.lo _ h1;have:=Aj (a:=-D.g j) (b:=y (D.free j)) (by grind) d;grind
 .have:=h.fi _ _ c hs.lt (by omega);subst this;exact Rat.le_of_lt key
 .rw[hd.hi j c h1];grind
theorem Down.row{l:Nat}{y:Nat->Rat}(hd:Down n D l y)(h:D.Ok m n){r s:Nat}(hs:s<n)(e:D.a r s<0)(d:∀j,j<n->D.free j<D.free s->0<=D.a r j)(hl:D.free s=l):0<a4 n λj=>D.a r j*y (D.free j):=by
 have key:0<D.a r s*y (D.free s):=by rw[hl];have:=Rat.mul_pos (a:=-D.a r s) (b:=-y l) (by grind) (by have:=hd.at_;grind);grind
 refine py (λj c=>?_) hs key;rcases Bf (D.free j) l with h1|h1|h1;.exact Aj (d j c (by omega)) (hd.lo _ h1)
 .have:=h.fi _ _ c hs (by omega);subst this;exact Rat.le_of_lt key
 .rw[hd.hi j c h1];grind
def cu(m n:Nat)(D:Dict):Nat->Rat:=D.ext m n λ_=>0
theorem gi(h:D.Ok m n){i:Nat}(hi:i<m):D.cu m n (D.own i)=D.v i:=by rw[cu,lN h hi,dV (g:=λ_=>0) λj _=>by grind,h9];grind
theorem fg(h:D.Ok m n){j:Nat}(a:j<n):D.cu m n (D.free j)=0:=kE h a _
theorem iX(h:D.Ok m n):D.obj n (D.cu m n)=0:=by rw[obj,dV (g:=λ_=>0) λj a=>by rw[fg h a];grind,h9]
def dir(m n:Nat)(D:Dict)(s:Nat):Nat->Rat:=D.ext m n λk=>if k=D.free s then 1 else 0
theorem pI(h:D.Ok m n){s:Nat}(hs:s<n)(f:Nat->Rat):(a4 n λj=>f j*(if D.free j=D.free s then 1 else 0))=f s:=by
 rw[h7 hs,dV (g:=λ_=>0) λj a=>by
  by_cases h1:j=s;.rw[yK h1]
  .rw[yB h1,yB λe=>h1 (h.fi _ _ a hs e)];grind,h9]
 simp;grind
theorem iR(h:D.Ok m n){i s:Nat}(hi:i<m)(hs:s<n):D.dir m n s (D.own i)=D.v i-D.a i s:=by rw[dir,lN h hi,pI h hs]
theorem hT(h:D.Ok m n){j s:Nat}(a:j<n)(hs:s<n):D.dir m n s (D.free j)=if j=s then 1 else 0:=by
 rw[dir,kE h a];by_cases h1:j=s;.simp[h1]
 .rw[yB h1,yB λe=>h1 (h.fi _ _ a hs e)]
theorem lO(h:D.Ok m n){s:Nat}(hs:s<n):D.obj n (D.dir m n s)=D.g s:=by rw[obj,dV (g:=λj=>D.g j*(if D.free j=D.free s then 1 else 0)) λj a=>by rw[dir,kE h a],pI h hs]
theorem wk(x y:Nat->Rat):D.obj n (λk=>x k-y k)=D.obj n x-D.obj n y:=by unfold obj;rw[<-k8];exact dV λj _=>by grind
def nH(n:Nat)(D D':Dict)(l:Nat):Prop:=∀j,j<n->l<D.free j->∃a,a<n/\D'.free a=D.free j
theorem vf(h:D.Ok m n)(d:D'.Ok m n)(hs:Same m n D D'){l r s z s':Nat}(G:nH n D D' l)(R:nH n D' D l)(hp:fR m n D r s)(L:fR m n D' z s')(he:D.free s=l)(E:D'.own z=l)(Z:D.own r<=l)(bc:D'.free s'<=l):False:=by
 have H:∀k,k<l->(∃i,i<m/\D'.own i=k)\/(∃j,j<n/\D'.free j=k):=λk hk=>d.all k (by have:=h.lt.2 s hp.ok.2.1;omega);obtain⟨c,hc⟩:=hs.obj;have S:=eM h (λ_=>0);have w:=eM d (λ_=>0);have J:=hp.ok;have K:=L.ok;rcases L with⟨g,F,T,M⟩|⟨g,F,T,M⟩
 ·
  have hd:Down n D l (D'.cu m n):=by refine⟨λk hk=>?_,?_,λj f C=>?_⟩;(.rcases H k hk with⟨i,hi,rfl⟩|⟨j,f,rfl⟩;(.rw[gi d hi];exact g.own i hi (by omega));.rw[fg d f];exact zZ);(.rw[<-E,gi d g.lt];exact g.neg);.obtain⟨U,x,e⟩:=G j f C;rw[<-e,fg d x]
  rcases hp with⟨q,p,t,u⟩|⟨q,p,t,u⟩;.have h1:=hd.row h p t u he;have h2:=(hs.dJ _).2 w r q.lt;(have y:D.own r<l:=by have:=h.of r s q.lt J.2.1;omega);have o:=hd.lo _ y;have P:=q.neg;unfold cu at h1 o;rw[h2]at o;grind
  .have h1:=hd.goal h q he;have h2:=hc _ S;have o:=hc _ ((hs.dJ _).2 w);have N:=iX h;have O:=iX d;(have P:D'.obj n (D.cu m n)<=0:=by refine oy λj f=>?_;rcases Bf (D'.free j) l with v|v|v;(.have X:=g.free j f (by omega);(have A:0<=D.cu m n (D'.free j):=by rcases h.all (D'.free j) (d.lt.2 j f)with⟨i,hi,e⟩|⟨V,B,e⟩;(.rw[<-e,gi h hi];exact q.own i hi (by omega));.rw[<-e,fg h B];exact zZ);have:=Aj (a:=-D'.g j) (b:=D.cu m n (D'.free j)) (by grind) A;grind);(.exact absurd (E.trans v.symm) (d.of z j g.lt f));. (have A:D.cu m n (D'.free j)=0:=by obtain⟨V,B,e⟩:=R j f v;rw[<-e,fg h B]);rw[A];grind);unfold cu at*;grind
 .have hd:Down n D l (λk=>D'.dir m n s' k-D'.cu m n k):=by (have y:D'.free s'<l:=by have:=d.of z s' K.1 K.2.1;omega);refine⟨λk hk=>?_,?_,λj f C=>?_⟩;(.rcases H k hk with⟨i,hi,rfl⟩|⟨j,f,rfl⟩;(.have:=M i hi (by omega);rw[iR d hi g.lt,gi d hi];grind);.rw[hT d f g.lt,fg d f];split<;>grind);(.rw[<-E,iR d F g.lt,gi d F];grind);.obtain⟨U,x,e⟩:=G j f C;rw[<-e,hT d x g.lt,fg d x,yB];(.grind);.rintro rfl;omega
  have I:=eM d (λk=>if k=D'.free s' then 1 else 0);rcases hp with⟨q,p,t,u⟩|⟨q,p,t,u⟩;.have h1:=hd.row h p t u he;have h2:=(hs.dJ _).2 w r q.lt;have Y:=(hs.dJ _).2 I r q.lt;(have y:D.own r<l:=by have:=h.of r s q.lt J.2.1;omega);have o:=hd.lo _ y;(have Q:(a4 n λj=>D.a r j*(D'.dir m n s' (D.free j)-D'.cu m n (D.free j)))=(a4 n λj=>D.a r j*D'.dir m n s' (D.free j))-a4 n λj=>D.a r j*D'.cu m n (D.free j):=by rw[<-k8];exact dV λj _=>by grind);rw[Q]at h1;unfold dir cu at*;grind
  .have h1:=hd.goal h q he;rw[wk]at h1;have h2:=hc _ ((hs.dJ _).2 I);have o:=hc _ ((hs.dJ _).2 w);have N:=iX d;have O:=lO d g.lt;have W:=g.pos;unfold dir cu at*;grind
end
end Dict
def code:Nat->(Nat->Bool)->Nat|0,_=>0|k+1,p=>code k p+if p k then 2^k else 0
theorem nW(k:Nat)(p:Nat->Bool):code k p<2^k:=by
 induction k with
 |zero=>simp[code]
 |succ k a=>simp only[code,zM];split<;>omega
theorem xH{k:Nat}{p q:Nat->Bool}(h:code k p=code k q):∀i,i<k->p i=q i:=by
 induction k with
 |zero=>intro i hi;omega
 |succ k d=>
  simp only[code]at h;have h1:=nW k p;have h2:=nW k q;have a:p k=q k:=by cases hp:p k<;>cases c:q k<;>simp[hp,c]at h⊢<;>omega
  have b:=d (by rw[a]at h;omega);intro i hi;by_cases e:i=k;.subst e;exact a
  .exact b i (by omega)
theorem mD:∀(M:Nat)(f:Nat->Nat),(∀i,i<=M->f i<M)->∃i j,i<j/\j<=M/\f i=f j
 |0,f,h=>absurd (h 0 (yq _)) (by omega)
 |M+1,f,h=>by
  by_cases hx:∃i,i<M+1/\f i=f (M+1);.obtain⟨i,hi,e⟩:=hx;exact⟨i,M+1,hi,yq _,e⟩
  . (obtain⟨i,j,h1,h2,a⟩:=mD M (λi=>if f (M+1)<f i then f i-1 else f i) λi hi=>by have h1:=h i (by omega);have h2:=h (M+1) (yq _);have a:f i≠f (M+1):=λe=>hx ⟨i,by omega,e⟩;split<;>omega);have b:f i≠f (M+1):=λe=>hx ⟨i,by omega,e⟩;have c:f j≠f (M+1):=λe=>hx ⟨j,by omega,e⟩;refine⟨i,j,h1,by omega,?_⟩;split at a<;>split at a<;>omega
namespace Dict
section
variable {m n:Nat}
structure Run(m n K:Nat)(D:Nat->Dict)(r s:Nat->Nat):Prop where
 ok:(D 0).Ok m n
 kv:∀t,t<K->fR m n (D t) (r t) (s t)
 step:∀t,t<K->D (t+1)=(D t).a8 (r t) (s t)
variable {K:Nat} {D:Nat->Dict} {r s:Nat->Nat}
theorem Run.ab(h:Run m n K D r s):∀t,t<=K->(D t).Ok m n|0,_=>h.ok|t+1,a=>by have hk:=(h.kv t (by omega)).ok;rw[h.step t (by omega)];exact(h.ab t (by omega)).a8 hk.1 hk.2.1
theorem Run.same(h:Run m n K D r s){p:Nat}:∀d,p+d<=K->Same m n (D p) (D (p+d))|0,_=>Same.refl _|d+1,hd=>by have hk:=(h.kv (p+d) (by omega)).ok;have:=h.step (p+d) (by omega);rw[<-zU,this];exact(h.same d (by omega)).trans (Same.a8 hk.1 hk.2.1 hk.2.2)
def eQ(m:Nat)(D:Dict)(k:Nat):Prop:=∃i,i<m/\D.own i=k
theorem xe{D:Dict}{r s k:Nat}(h:D.Ok m n)(a:r<m):eQ m (D.a8 r s) k↔k=D.free s\/(eQ m D k/\k≠D.own r):=by
 constructor
 .rintro⟨i,hi,rfl⟩;simp only[a8];by_cases e:i=r;.simp[e]
  .rw[yB e];exact .inr ⟨⟨i,hi,rfl⟩,λe'=>e (h.oi _ _ hi a e')⟩
 .rintro(rfl|⟨⟨i,hi,rfl⟩,hk⟩);.exact⟨r,a,by simp[a8]⟩
  .exact⟨i,hi,by simp only[a8];rw[yB];rintro rfl;exact hk rfl⟩
theorem nj{D:Dict}{k:Nat}(h:D.Ok m n)(hk:k<n+m):¬eQ m D k↔∃j,j<n/\D.free j=k:=by
 constructor
 .intro hn;rcases h.all k hk with h1|h1;.exact absurd h1 hn
  .exact h1
 .rintro⟨j,a,rfl⟩⟨i,hi,e⟩;exact h.of i j hi a e
theorem uX{D:Nat->Dict}{r s:Nat->Nat}{p q:Nat}(i:p<q):∃l a,p<=a/\a<q/\(l=(D a).free (s a)\/l=(D a).own (r a))/\∀t,p<=t->t<q->(D t).free (s t)<=l/\(D t).own (r t)<=l:=by
 obtain⟨d,rfl⟩:∃d,q=p+d+1:=⟨q-p-1,by omega⟩;clear i;induction d with
 |zero=>
  by_cases hle:(D p).free (s p)<=(D p).own (r p);.exact⟨_,p,yq _,by omega,.inr rfl,λt h1 h2=>by (obtain rfl:t=p:=by omega);exact⟨hle,yq _⟩⟩
  .exact⟨_,p,yq _,by omega,.inl rfl,λt h1 h2=>by (obtain rfl:t=p:=by omega);exact⟨yq _,by omega⟩⟩
 |succ d j=>
  obtain⟨l,a,h1,h2,h,c⟩:=j;let u:=p+(d+1);by_cases g:(D u).free (s u)<=l/\(D u).own (r u)<=l;.refine⟨l,a,h1,by omega,h,λt b f=>?_⟩;by_cases e:t=u;(.rw[e];exact g);.exact c t b (by omega)
  .by_cases hle:(D u).free (s u)<=(D u).own (r u);(.refine⟨_,u,by omega,by omega,.inr rfl,λt b f=>?_⟩;by_cases e:t=u;(.rw[e];exact⟨hle,yq _⟩);.have:=c t b (by omega);omega);.refine⟨_,u,by omega,by omega,.inl rfl,λt b f=>?_⟩;by_cases e:t=u;(.rw[e];exact⟨yq _,by omega⟩);.have:=c t b (by omega);omega
theorem Run.once(h:Run m n K D r s){p q:Nat}(W:p<q)(Z:q<=K)(he:∀k,k<n+m->(eQ m (D p) k↔eQ m (D q) k)):False:=by
 obtain⟨l,f,h1,h2,H,I⟩:=uX (D:=D) (r:=r) (s:=s) W;have hk:∀t,t<q->(r t)<m/\(s t)<n/\(D t).a (r t) (s t)≠0:=λt P=>(h.kv t (by omega)).ok;have x:∀t,t<q->∀k,eQ m (D (t+1)) k↔k=(D t).free (s t)\/(eQ m (D t) k/\k≠(D t).own (r t)):=λt P k=>by rw[h.step t (by omega)];exact xe (h.ab t (by omega)) (hk t P).1
 have hl:l<n+m:=by
  have g:=h.ab f (by omega);rcases H with rfl|rfl;.exact g.lt.2 _ (hk f h2).2.1
  .exact g.lt.1 _ (hk f h2).1
 have N:∀k,l<k->∀d,p+d<=q->(eQ m (D (p+d)) k↔eQ m (D p) k):=by
  intro k Y d;induction d with
  |zero=>intro _;exact Iff.rfl
  |succ d o=>intro hd;rw[<-o (by omega),<-zU,x (p+d) (by omega)];have:=I (p+d) (by omega) (by omega);constructor;(.rintro(e|e);(.omega);.exact e.1);.intro e;exact .inr ⟨e,by omega⟩
 have U:∃t,p<=t/\t<q/\(D t).free (s t)=l:=by
  refine zF λhn=>?_;have v:∀t,p<=t->t<q->(D t).free (s t)≠l:=λt a b c=>hn ⟨t,a,b,c⟩;rcases H with e|e;.exact v f h1 h2 e.symm
  have E:eQ m (D f) l:=⟨_,(hk f h2).1,e.symm⟩;have F:∀d,f+1+d<=q->¬eQ m (D (f+1+d)) l:=by
   intro d;induction d with
   |zero=>intro _ hh;rcases(x f h2 l).1 hh with e'|e';(.exact v f h1 h2 e'.symm);.exact e'.2 e
   |succ d o=>intro hd hh;rw[<-zU]at hh;rcases(x (f+1+d) (by omega) l).1 hh with e'|e';(.exact v _ (by omega) (by omega) e'.symm);.exact o (by omega) e'.1
  have y:=F (q-(f+1)) (by omega);rw[show f+1+(q-(f+1))=q by omega,<-he l hl]at y;have G:∀d,p+d<=f->¬eQ m (D (p+d)) l:=by
   intro d;induction d with
   |zero=>intro _;exact y
   |succ d o=>intro hd hh;rw[<-zU]at hh;rcases(x (p+d) (by omega) l).1 hh with e'|e';(.exact v _ (by omega) (by omega) e'.symm);.exact o (by omega) e'.1
  have z:=G (f-p) (by omega);rw[show p+(f-p)=f by omega]at z;exact z E
 have V:∃t,p<=t/\t<q/\(D t).own (r t)=l:=by
  refine zF λhn=>?_;have v:∀t,p<=t->t<q->(D t).own (r t)≠l:=λt a b c=>hn ⟨t,a,b,c⟩;rcases H.symm with e|e;.exact v f h1 h2 e.symm
  have E:¬eQ m (D f) l:=(nj (h.ab f (by omega)) hl).2 ⟨_,(hk f h2).2.1,e.symm⟩;have F:∀d,f+1+d<=q->eQ m (D (f+1+d)) l:=by
   intro d;induction d with
   |zero=>intro _;exact(x f h2 l).2 (.inl e)
   |succ d o=>intro hd;rw[<-zU];exact(x (f+1+d) (by omega) l).2 (.inr ⟨o (by omega),λe'=>v _ (by omega) (by omega) e'.symm⟩)
  have y:=F (q-(f+1)) (by omega);rw[show f+1+(q-(f+1))=q by omega,<-he l hl]at y;have G:∀d,p+d<=f->eQ m (D (p+d)) l:=by
   intro d;induction d with
   |zero=>intro _;exact y
   |succ d o=>intro hd;rw[<-zU];exact(x (p+d) (by omega) l).2 (.inr ⟨o (by omega),λe'=>v _ (by omega) (by omega) e'.symm⟩)
  have z:=G (f-p) (by omega);rw[show p+(f-p)=f by omega]at z;exact E z
 obtain⟨t,A,Q,R⟩:=U;obtain⟨i,B,b2,b3⟩:=V;have M:∀u w,p<=u->u<=q->p<=w->w<=q->nH n (D u) (D w) l:=by intro u w bc bk bj bq j J O;have C:=h.ab u (by omega);have S:=h.ab w (by omega);have L:=N ((D u).free j) O (u-p) (by omega);have c4:=N ((D u).free j) O (w-p) (by omega);rw[show p+(u-p)=u by omega]at L;rw[show p+(w-p)=w by omega]at c4;have T:=(nj C (C.lt.2 j J)).2 ⟨j,J,rfl⟩;exact(nj S (C.lt.2 j J)).1 (λhh=>T (L.2 (c4.1 hh)))
 have X:Same m n (D t) (D i):=by
  rcases Nat.le_total t i with hle|hle;.have:=h.same (p:=t) (i-t) (by omega);rwa[show t+(i-t)=i by omega]at this
  .have:=h.same (p:=i) (t-i) (by omega);rw[show i+(t-i)=t by omega]at this;exact this.symm
 exact vf (h.ab t (by omega)) (h.ab i (by omega)) X (M t i A (by omega) B (by omega)) (M i t B (by omega) A (by omega)) (h.kv t (by omega)) (h.kv i (by omega)) R b3 (I t A Q).2 (I i B b2).1
open Classical in
theorem Run.len(h:Run m n K D r s):K<2^(n+m):=by refine zF λhn=>?_;obtain⟨i,j,h1,h2,a⟩:=mD (2^(n+m)) (λt=>code (n+m) λk=>decide (eQ m (D t) k)) λi _=>nW _ _;refine h.once h1 (by omega) λk hk=>?_;have:=xH a k hk;simpa using this
end
end Dict
