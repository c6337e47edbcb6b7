import Derived.Test.YthmegpnhjnphlaaGreatHd
namespace Go.Proofs.YthmegpnhjnphlaaGreat
open Go.RowKit
def Sl(w:World)(size:Nat)(A:Option Addr)(n:Nat)(xs:List (List Value)):Prop:=xs.length=n/\∀i x,xs[i]?=some x->∃b o,A=some ⟨b,o,none⟩/\b<w.heap.size/\∀j v,x[j]?=some v->w.cell? ⟨b,o+i*size+j,none⟩=some v
section
variable {w w':World} {size n:Nat} {A:Option Addr} {xs:List (List Value)}
theorem Sl.bl(w:World)(size:Nat)(A:Option Addr):Sl w size A 0 []:=⟨rfl,λi x h=>by simp at h⟩
theorem Sl.len(h:Sl w size A n xs):xs.length=n:=h.1
theorem Sl.bC(h:Sl w size A n xs)(d:w.heap.size<=w'.heap.size)(hk:∀p:Addr,p.block<w.heap.size->w'.cell? p=w.cell? p):Sl w' size A n xs:=⟨h.1,λi x hx=>by obtain⟨b,o,hA,a,hc⟩:=h.2 i x hx;exact⟨b,o,hA,by omega,λj v c=>(hk _ a).trans (hc j v c)⟩⟩
theorem Sl.ad(h:Sl w size A n xs)(a:Below w.heap.size w w'):Sl w' size A n xs:=h.bC a.size λ_ hp=>a.cell hp
theorem Sl.drew(h:Sl w size A n xs):Sl w.drew size A n xs:=h
theorem Sl.alloc(h:Sl w size A n xs)(o:Obj):Sl (w.alloc o) size A n xs:=h.bC (by simp) λp hp=>World.cell?_alloc_lt w o p hp
end
section
variable {w:World}
@[go_sem] theorem x8(a b:Obj)(n i:Nat)(hn:n<w.heap.size):((w.alloc a).alloc b).cell? ⟨n,i,none⟩=w.cell? ⟨n,i,none⟩:=by rw[yP _ _ _ (by first|omega|(simp only[ym];omega))];rw[yP _ _ _ (by first|omega|(simp only[ym];omega))]
@[go_sem] theorem x_(a b:Obj)(n i:Nat)(hn:n<w.heap.size):((w.alloc a).alloc b).frozen? ⟨n,i,none⟩=w.frozen? ⟨n,i,none⟩:=by rw[yI _ _ _ (by first|omega|(simp only[ym];omega))];rw[yI _ _ _ (by first|omega|(simp only[ym];omega))]
@[go_sem] theorem x4(a b:Obj)(n i:Nat)(v:Value)(hn:n<w.heap.size):((w.alloc a).alloc b).setCell ⟨n,i,none⟩ v=(((w.setCell ⟨n,i,none⟩ v).alloc a).alloc b):=by rw[yH _ _ _ _ (by first|omega|(simp only[ym];omega))];rw[yH _ _ _ _ (by first|omega|(simp only[ym];omega))]
@[go_sem] theorem yg(a b c:Obj)(n i:Nat)(hn:n<w.heap.size):(((w.alloc a).alloc b).alloc c).cell? ⟨n,i,none⟩=w.cell? ⟨n,i,none⟩:=by rw[yP _ _ _ (by first|omega|(simp only[ym];omega))];rw[yP _ _ _ (by first|omega|(simp only[ym];omega))];rw[yP _ _ _ (by first|omega|(simp only[ym];omega))]
@[go_sem] theorem yd(a b c:Obj)(n i:Nat)(hn:n<w.heap.size):(((w.alloc a).alloc b).alloc c).frozen? ⟨n,i,none⟩=w.frozen? ⟨n,i,none⟩:=by rw[yI _ _ _ (by first|omega|(simp only[ym];omega))];rw[yI _ _ _ (by first|omega|(simp only[ym];omega))];rw[yI _ _ _ (by first|omega|(simp only[ym];omega))]
@[go_sem] theorem yh(a b c:Obj)(n i:Nat)(v:Value)(hn:n<w.heap.size):(((w.alloc a).alloc b).alloc c).setCell ⟨n,i,none⟩ v=((((w.setCell ⟨n,i,none⟩ v).alloc a).alloc b).alloc c):=by rw[yH _ _ _ _ (by first|omega|(simp only[ym];omega))];rw[yH _ _ _ _ (by first|omega|(simp only[ym];omega))];rw[yH _ _ _ _ (by first|omega|(simp only[ym];omega))]
@[go_sem] theorem x6(a b c d:Obj)(n i:Nat)(hn:n<w.heap.size):((((w.alloc a).alloc b).alloc c).alloc d).cell? ⟨n,i,none⟩=w.cell? ⟨n,i,none⟩:=by rw[yP _ _ _ (by first|omega|(simp only[ym];omega))];rw[yP _ _ _ (by first|omega|(simp only[ym];omega))];rw[yP _ _ _ (by first|omega|(simp only[ym];omega))];rw[yP _ _ _ (by first|omega|(simp only[ym];omega))]
@[go_sem] theorem x5(a b c d:Obj)(n i:Nat)(hn:n<w.heap.size):((((w.alloc a).alloc b).alloc c).alloc d).frozen? ⟨n,i,none⟩=w.frozen? ⟨n,i,none⟩:=by rw[yI _ _ _ (by first|omega|(simp only[ym];omega))];rw[yI _ _ _ (by first|omega|(simp only[ym];omega))];rw[yI _ _ _ (by first|omega|(simp only[ym];omega))];rw[yI _ _ _ (by first|omega|(simp only[ym];omega))]
@[go_sem] theorem x7(a b c d:Obj)(n i:Nat)(v:Value)(hn:n<w.heap.size):((((w.alloc a).alloc b).alloc c).alloc d).setCell ⟨n,i,none⟩ v=(((((w.setCell ⟨n,i,none⟩ v).alloc a).alloc b).alloc c).alloc d):=by rw[yH _ _ _ _ (by first|omega|(simp only[ym];omega))];rw[yH _ _ _ _ (by first|omega|(simp only[ym];omega))];rw[yH _ _ _ _ (by first|omega|(simp only[ym];omega))];rw[yH _ _ _ _ (by first|omega|(simp only[ym];omega))]
@[go_sem] theorem yc(a b c d e:Obj)(n i:Nat)(hn:n<w.heap.size):(((((w.alloc a).alloc b).alloc c).alloc d).alloc e).cell? ⟨n,i,none⟩=w.cell? ⟨n,i,none⟩:=by rw[yP _ _ _ (by first|omega|(simp only[ym];omega))];rw[yP _ _ _ (by first|omega|(simp only[ym];omega))];rw[yP _ _ _ (by first|omega|(simp only[ym];omega))];rw[yP _ _ _ (by first|omega|(simp only[ym];omega))];rw[yP _ _ _ (by first|omega|(simp only[ym];omega))]
@[go_sem] theorem x9(a b c d e:Obj)(n i:Nat)(hn:n<w.heap.size):(((((w.alloc a).alloc b).alloc c).alloc d).alloc e).frozen? ⟨n,i,none⟩=w.frozen? ⟨n,i,none⟩:=by rw[yI _ _ _ (by first|omega|(simp only[ym];omega))];rw[yI _ _ _ (by first|omega|(simp only[ym];omega))];rw[yI _ _ _ (by first|omega|(simp only[ym];omega))];rw[yI _ _ _ (by first|omega|(simp only[ym];omega))];rw[yI _ _ _ (by first|omega|(simp only[ym];omega))]
@[go_sem] theorem ye(a b c d e:Obj)(n i:Nat)(v:Value)(hn:n<w.heap.size):(((((w.alloc a).alloc b).alloc c).alloc d).alloc e).setCell ⟨n,i,none⟩ v=((((((w.setCell ⟨n,i,none⟩ v).alloc a).alloc b).alloc c).alloc d).alloc e):=by rw[yH _ _ _ _ (by first|omega|(simp only[ym];omega))];rw[yH _ _ _ _ (by first|omega|(simp only[ym];omega))];rw[yH _ _ _ _ (by first|omega|(simp only[ym];omega))];rw[yH _ _ _ _ (by first|omega|(simp only[ym];omega))];rw[yH _ _ _ _ (by first|omega|(simp only[ym];omega))]
@[go_sem] theorem yi(a b c d e f:Obj)(n i:Nat)(hn:n<w.heap.size):((((((w.alloc a).alloc b).alloc c).alloc d).alloc e).alloc f).cell? ⟨n,i,none⟩=w.cell? ⟨n,i,none⟩:=by rw[yP _ _ _ (by first|omega|(simp only[ym];omega))];rw[yP _ _ _ (by first|omega|(simp only[ym];omega))];rw[yP _ _ _ (by first|omega|(simp only[ym];omega))];rw[yP _ _ _ (by first|omega|(simp only[ym];omega))];rw[yP _ _ _ (by first|omega|(simp only[ym];omega))];rw[yP _ _ _ (by first|omega|(simp only[ym];omega))]
@[go_sem] theorem x'(a b c d e f:Obj)(n i:Nat)(hn:n<w.heap.size):((((((w.alloc a).alloc b).alloc c).alloc d).alloc e).alloc f).frozen? ⟨n,i,none⟩=w.frozen? ⟨n,i,none⟩:=by rw[yI _ _ _ (by first|omega|(simp only[ym];omega))];rw[yI _ _ _ (by first|omega|(simp only[ym];omega))];rw[yI _ _ _ (by first|omega|(simp only[ym];omega))];rw[yI _ _ _ (by first|omega|(simp only[ym];omega))];rw[yI _ _ _ (by first|omega|(simp only[ym];omega))];rw[yI _ _ _ (by first|omega|(simp only[ym];omega))]
@[go_sem] theorem x3(a b c d e f:Obj)(n i:Nat)(v:Value)(hn:n<w.heap.size):((((((w.alloc a).alloc b).alloc c).alloc d).alloc e).alloc f).setCell ⟨n,i,none⟩ v=(((((((w.setCell ⟨n,i,none⟩ v).alloc a).alloc b).alloc c).alloc d).alloc e).alloc f):=by rw[yH _ _ _ _ (by first|omega|(simp only[ym];omega))];rw[yH _ _ _ _ (by first|omega|(simp only[ym];omega))];rw[yH _ _ _ _ (by first|omega|(simp only[ym];omega))];rw[yH _ _ _ _ (by first|omega|(simp only[ym];omega))];rw[yH _ _ _ _ (by first|omega|(simp only[ym];omega))];rw[yH _ _ _ _ (by first|omega|(simp only[ym];omega))]
@[go_sem] theorem yf(a b c d e f g:Obj)(n i:Nat)(hn:n<w.heap.size):(((((((w.alloc a).alloc b).alloc c).alloc d).alloc e).alloc f).alloc g).cell? ⟨n,i,none⟩=w.cell? ⟨n,i,none⟩:=by rw[yP _ _ _ (by first|omega|(simp only[ym];omega))];rw[yP _ _ _ (by first|omega|(simp only[ym];omega))];rw[yP _ _ _ (by first|omega|(simp only[ym];omega))];rw[yP _ _ _ (by first|omega|(simp only[ym];omega))];rw[yP _ _ _ (by first|omega|(simp only[ym];omega))];rw[yP _ _ _ (by first|omega|(simp only[ym];omega))];rw[yP _ _ _ (by first|omega|(simp only[ym];omega))]
@[go_sem] theorem ya(a b c d e f g:Obj)(n i:Nat)(hn:n<w.heap.size):(((((((w.alloc a).alloc b).alloc c).alloc d).alloc e).alloc f).alloc g).frozen? ⟨n,i,none⟩=w.frozen? ⟨n,i,none⟩:=by rw[yI _ _ _ (by first|omega|(simp only[ym];omega))];rw[yI _ _ _ (by first|omega|(simp only[ym];omega))];rw[yI _ _ _ (by first|omega|(simp only[ym];omega))];rw[yI _ _ _ (by first|omega|(simp only[ym];omega))];rw[yI _ _ _ (by first|omega|(simp only[ym];omega))];rw[yI _ _ _ (by first|omega|(simp only[ym];omega))];rw[yI _ _ _ (by first|omega|(simp only[ym];omega))]
@[go_sem] theorem yb(a b c d e f g:Obj)(n i:Nat)(v:Value)(hn:n<w.heap.size):(((((((w.alloc a).alloc b).alloc c).alloc d).alloc e).alloc f).alloc g).setCell ⟨n,i,none⟩ v=((((((((w.setCell ⟨n,i,none⟩ v).alloc a).alloc b).alloc c).alloc d).alloc e).alloc f).alloc g):=by rw[yH _ _ _ _ (by first|omega|(simp only[ym];omega))];rw[yH _ _ _ _ (by first|omega|(simp only[ym];omega))];rw[yH _ _ _ _ (by first|omega|(simp only[ym];omega))];rw[yH _ _ _ _ (by first|omega|(simp only[ym];omega))];rw[yH _ _ _ _ (by first|omega|(simp only[ym];omega))];rw[yH _ _ _ _ (by first|omega|(simp only[ym];omega))];rw[yH _ _ _ _ (by first|omega|(simp only[ym];omega))]
end
def b9(w w':World)(size:Nat)(A:Option Addr)(n:Nat)(xs:List (List Value)):Prop:=Sl w' size A n xs/\∀a,A=some a->w.heap.size<=a.block
theorem b9.u{w w':World}{size n:Nat}{A:Option Addr}{xs:List (List Value)}(h:b9 w w' size A n xs){p:Addr}(hp:p.block<w.heap.size)(v:Value):b9 w (w'.setCell p v) size A n xs:=⟨⟨h.1.1,λi x hx=>by obtain⟨b,o,hA,a,hc⟩:=h.1.2 i x hx;have c:=h.2 _ hA;refine⟨b,o,hA,by rw[zs];exact a,λj v d=>?_⟩;rw[yN _ _ _ _ (λe=>by rw[e]at hp;exact absurd hp (by simp at c⊢;omega))];exact hc j v d⟩,h.2⟩
theorem b9.mono{w0 w w':World}{size n:Nat}{A:Option Addr}{xs:List (List Value)}(h:b9 w w' size A n xs)(b:w0.heap.size<=w.heap.size):b9 w0 w' size A n xs:=⟨h.1,λa e=>yt b (h.2 a e)⟩
theorem b9.bl(w w':World)(size:Nat):b9 w w' size none 0 []:=⟨Sl.bl _ _ _,λa e=>by cases e⟩
theorem cK{B:Nat}{W a:World}(h:Below B W.drew a):Below B W a:=⟨h.os,h.tape,h.output,h.size,h.block⟩
theorem kd{k:IntKind}{a b:Int}(h:a=b):Ending.returned (.int k a)=.returned (.int k b):=by rw[h]
theorem cW{a b:Bool}(h:a=b):Ending.returned (.bool a)=.returned (.bool b):=by rw[h]
theorem az(w:World)(o:Obj):Below w.heap.size w (w.alloc o):=(yl _ _).alloc (yq _) o
theorem hY{size:Nat}:∀(xs:List (List Value)),(∀x∈xs,x.length=size)->xs.flatten.length=xs.length*size|[],_=>by simp|x::r,h=>by have a:=h x (by simp);have:=hY r λy hy=>h y (by simp[hy]);simp only[Ag,yM,zh,a,this,zI];omega
theorem jv{size:Nat}:∀(xs:List (List Value)),(∀x∈xs,x.length=size)->∀(i j:Nat)(x:List Value)(v:Value),xs[i]?=some x->x[j]?=some v->xs.flatten[i*size+j]?=some v
 |[],_,i,j,x,v,hx,_=>by simp at hx
 |y::r,h,0,j,x,v,hx,a=>by simp at hx;subst hx;simp only[Ag,zz,y6];rw[Bd (by have:=(yp.1 a).1;exact this)];exact a
 |y::r,h,i+1,j,x,v,hx,a=>by
  have b:=h y (by simp);simp only[Ag];rw[zN (by rw[b,zI];omega),b];have e:(i+1)*size+j-size=i*size+j:=by rw[zI];omega
  rw[e];exact jv r (λz c=>h z (by simp[c])) i j x v (by simpa using hx) a
theorem kK{size:Nat}:∀(xs:List (List Value)),(∀x∈xs,x.length=size)->∀(k:Nat)(v:Value),xs.flatten[k]?=some v->∃i j x,xs[i]?=some x/\x[j]?=some v/\k=i*size+j
 |[],_,k,v,a=>by simp at a
 |y::r,h,k,v,a=>by
  have c:=h y (by simp);simp only[Ag]at a;by_cases hk:k<y.length;.rw[Bd hk]at a;exact⟨0,k,y,rfl,a,by omega⟩
  .rw[zN (by omega)]at a;obtain⟨i,j,x,h1,h2,d⟩:=kK r (λz b=>h z (by simp[b])) _ v a;exact⟨i+1,j,x,by simpa using h1,h2,by rw[zI];omega⟩
def Own(w:World)(base:Nat)(e:TypeId)(size:Nat)(v:Value)(n:Nat)(xs:List (List Value)):Prop:=w.ownsRow base e size v n xs.flatten/\(∀x∈xs,x.length=size)/\xs.length=n
section
variable {w w':World} {base:Nat} {e:TypeId} {size:Nat} {v:Value} {n:Nat} {xs:List (List Value)}
theorem Own.bl(w:World)(base:Nat)(e:TypeId)(size:Nat):Own w base e size (.slice none 0 0) 0 []:=⟨World.ownsRow_nil w base e size,by simp,rfl⟩
theorem Own.sl(h:Own w base e size v n xs):∃A c,v=.slice A n c/\Sl w size A n xs:=by
 obtain⟨h1,h2,b⟩:=h;rcases h1.2 with⟨rfl,rfl⟩|⟨g,cap,d,rfl,k,hg,m,l,hcs,f⟩;.have:xs=[]:=yE b;subst this;exact⟨none,0,rfl,Sl.bl w size none⟩
 .refine⟨_,cap,rfl,b,λi x hx=>⟨g,0,rfl,(zO.1 hg).1,λj u hu=>?_⟩⟩;have a:=jv xs h2 i j x u hx hu;rw[<-f]at a;rw[cell_of_row w g _ d e (0,0) hg,y6];rw[AH]at a;split at a;.simpa using a
  .cases a
theorem Sl.C(w:World)(e:TypeId)(x:List Value):Sl (w.alloc (.cells x.toArray e)) x.length (some ⟨w.heap.size,0,none⟩) 1 [x]:=⟨rfl,λi y hy=>by
 match i,hy with
 |0,hy=>simp at hy;subst hy;exact⟨w.heap.size,0,rfl,by simp,λj v a=>by rw[zz,y6,World.cell?_alloc_new];simpa using a⟩⟩
theorem Own.kept{row:Option Nat}(h:Own w base e size v n xs)(hg:w.grownBy w' row)(a:v.ownBlock=none\/v.ownBlock≠row):Own w' base e size v n xs:=⟨h.1.kept hg a,h.2⟩
theorem Own.alloc(h:Own w base e size v n xs)(o:Obj):Own (w.alloc o) base e size v n xs:=⟨h.1.alloc o,h.2⟩
theorem Own.drew(h:Own w base e size v n xs):Own w.drew base e size v n xs:=⟨h.1.drew,h.2⟩
theorem Own.ad(h:Own w base e size v n xs)(a:Below w.heap.size w w'):Own w' base e size v n xs:=h.kept (row:=none) ⟨a.os,a.tape,a.output,a.size,λk hk _=>a.block k hk⟩ (by cases b:v.ownBlock<;>simp)
theorem Own.mono{a:Nat}(h:Own w base e size v n xs)(hB:a<=base):Own w a e size v n xs:=by
 refine⟨⟨h.1.1,?_⟩,h.2⟩;rcases h.1.2 with c|⟨g,cap,b,d,f,r⟩;.exact .inl c
 .exact .inr ⟨g,cap,b,d,by omega,r⟩
theorem Own.fresh{A:Option Addr}{m c:Nat}(h:Own w base e size (.slice A m c) n xs):∀a,A=some a->base<=a.block:=by rintro a rfl;exact(h.1.lt a.block rfl).1
theorem Own.cF{B:Nat}{a:World}(h:Own w base e size v n xs)(hB:B<=base)(hs:B<=w.heap.size)(b:Below B a w)(hg:w.grownBy w' v.ownBlock):Below B a w':=b.grown hg hs λk hk=>yt hB (h.1.lt k hk).1
theorem Own.at_{i:Nat}{x:List Value}(h:Own w base e size v n xs)(hx:xs[i]?=some x):∃g c,v=.slice (some ⟨g,0,none⟩) n c/\base<=g/\g<w.heap.size/\(∀j u,x[j]?=some u->w.cell? ⟨g,i*size+j,none⟩=some u)/\(∀j,w.frozen? ⟨g,j,none⟩=false):=by
 obtain⟨A,c,rfl,l⟩:=h.sl;rcases h.1.2 with⟨a,rfl⟩|⟨g,cap,d,a,f,hg,_⟩;.have:=h.2.2;have:xs=[]:=yE this;subst this;simp at hx
 .simp only[zT,A9]at a;obtain⟨rfl,rfl⟩:=a;obtain⟨b,o,he,k,hc⟩:=l.2 i x hx;simp only[zL,Ai,Au]at he;obtain⟨rfl,rfl⟩:=he;exact⟨g,c,rfl,f,k,λj u hu=>by have:=hc j u hu;rwa[y6]at this,λj=>frozen_of_row w g j d e hg⟩
theorem oz{size:Nat}(j:Nat)(u:Value)(b:j<size):∀(xs:List (List Value)),(∀x∈xs,x.length=size)->∀(i:Nat)(x:List Value),xs[i]?=some x->xs.flatten.set (i*size+j) u=(xs.set i (x.set j u)).flatten
 |[],_,i,x,hx=>by simp at hx
 |y::r,h,0,x,hx=>by simp at hx;subst hx;have a:=h y (by simp);simp only[Ag,zz,y6,Ab];rw[B_,yK (by omega)]
 |y::r,h,i+1,x,hx=>by
  have a:=h y (by simp);simp only[Ag,AG];rw[B_,yB (by rw[a,zI];omega),a];have e:(i+1)*size+j-size=i*size+j:=by rw[zI];omega
  rw[e,oz j u b r (λz c=>h z (by simp[c])) i x (by simpa using hx)]
theorem Own.stored{g c i j:Nat}{x:List Value}(h:Own w base e size (.slice (some ⟨g,0,none⟩) n c) n xs)(hx:xs[i]?=some x)(b:j<size)(u:Value):Own (w.setCell ⟨g,i*size+j,none⟩ u) base e size (.slice (some ⟨g,0,none⟩) n c) n (xs.set i (x.set j u)):=by
 obtain⟨h1,h2,a⟩:=h;have hs:=(h1.stored (i*size+j) u).1;rw[oz j u b xs h2 i x hx]at hs;refine⟨hs,λy hy=>?_,by simpa using a⟩;rcases zj hy with hy|rfl;.exact h2 y hy
 .rw[yW];exact h2 x (yr hx)
end
section
variable {P:Program} (w:World)
theorem kk(base:Nat)(t ty e:TypeId)(i:TypeInfo)(z:Value)(size bytes:Nat)(l:P.underlying t=some (.slice e))(hi:P.info? e=some i)(O:i.zero=some z)(L:i.size=size)(E:i.bytes=bytes)(Q:z.cells.size=size)(M:0<size)(v:Value)(n:Nat)(xs:List (List Value))(h:Own w base e size v n xs)(A:Option Addr)(m c:Nat)(a:List (List Value))(f:Sl w size A m a)(hl:∀x∈a,x.length=size)(h1:∀x∈a,∀u∈x,u.oneCell'=true)(y:n+m<=maxLen)(F:(n+m)*bytes<=140737488355328)(D:base<=w.heap.size):∃v' w',(Builtin.append_ #[t,t] ty #[v,.slice A m c]).run P w=.ok v' w'/\Own w' base e size v' (n+m) (xs++a)/\w.grownBy w' v.ownBlock/\(v'.ownBlock=v.ownBlock\/v'.ownBlock=some w.heap.size):=by
 have C:∀x∈xs++a,x.length=size:=λx hx=>(y1.1 hx).elim (h.2.1 x) (hl x);have H:(xs++a).length=n+m:=by rw[yM,h.2.2,f.1]
 have I:a.flatten.length=m*size:=by rw[hY a hl,f.1]
 have G:∀d,A=some d->∀j u,a.flatten[j]?=some u->w.cell? (d.add j)=some u:=by
  intro d hA j u hu;obtain⟨p,r,x,h2,k,rfl⟩:=kK a hl j u hu;obtain⟨b,o,he,_,hc⟩:=f.2 p x h2;rw[hA]at he;injection he with he;subst he;have B:(⟨b,o,none⟩:Addr).add (p*size+r)=⟨b,o+p*size+r,none⟩:=by rw[zU];unfold Addr.add;split<;>simp_all
  rw[B];exact hc r u k
 rcases A with _|d
 .have hm:m=0:=by rcases yJ m with q|q;(.exact q);.exfalso;rcases hx:a[0]? with _|x;(.rw[z1,f.1]at hx;omega);.obtain⟨b,o,he,_⟩:=f.2 0 x hx;cases he
  subst hm;have hn:a=[]:=yE f.1;subst hn;refine⟨v,w,?_,by simpa using h,World.grownBy.refl w _,.inl rfl⟩;rcases h.1.2 with⟨rfl,rfl⟩|⟨g,cap,R,rfl,_,_,J,_⟩;.simp[Builtin.append_,run_underlying l,sizeOf,typeInfo,hi,Builtin.lenOf,Builtin.firstCells]
  .simp[Builtin.append_,run_underlying l,sizeOf,typeInfo,hi,Builtin.lenOf,Builtin.firstCells,J,storeCells]
 .obtain⟨v',w',K,h2,k,_,s⟩:=run_append_own_at (P:=P) w base t ty e i z size bytes l hi O L E Q M v n xs.flatten h.1 d m c a.flatten I (G d rfl) (λu hu=>by obtain⟨x,hx,N⟩:=List.mem_flatten.1 hu;exact h1 x hx u N) y F D;exact⟨v',w',K,⟨by rw[A7];exact h2,C,H⟩,k,s⟩
theorem jF{ops:Array Oper}{rest:List Oper}{o:Oper}{a:Act}{Q:Exit->Act->World->Prop}(q:o.guard=none)(s x:Operand)(t:TypeId)(r:o.op=.call {callee:=.builtin .append,args:=#[s,x],argTypes:=#[t,t]})(base:Nat)(e:TypeId)(i:TypeInfo)(z:Value)(size bytes:Nat)(F:P.underlying t=some (.slice e))(hi:P.info? e=some i)(G:i.zero=some z)(D:i.size=size)(l:i.bytes=bytes)(H:z.cells.size=size)(E:0<size)(v:Value)(n:Nat)(xs:List (List Value))(hs:a.eval s=v)(y:Own w base e size v n xs)(A:Option Addr)(m c:Nat)(b:List (List Value))(hx:a.eval x=.slice A m c)(B:Sl w size A m b)(hl:∀x∈b,x.length=size)(h1:∀x∈b,∀u∈x,u.oneCell'=true)(g:n+m<=maxLen)(p:(n+m)*bytes<=140737488355328)(k:base<=w.heap.size)(h:∀A' c' w',Own w' base e size (.slice A' (n+m) c') (n+m) (xs++b)->w.grownBy w' v.ownBlock->((Value.slice A' (n+m) c').ownBlock=v.ownBlock\/(Value.slice A' (n+m) c').ownBlock=some w.heap.size)->wpList P ops Q rest (a.put o.dst (.slice A' (n+m) c')) w'):wpList P ops Q (o::rest) a w:=by refine wpList_plain q λK j=>?_;obtain⟨v',w',C,h2,d,f⟩:=kk (P:=P) w base t o.type e i z size bytes F hi G D l H E v n xs y A m c b B hl h1 g p k;obtain⟨A',c',rfl,_⟩:=h2.sl;unfold Oper.wp execOp;simp only[r,resolve,invoke,builtin,B5,Bv,Bh,Bj,z3,Br,hs,hx,C];exact j _ _ (h A' c' w' h2 d f)
theorem iB{ops:Array Oper}{o:Oper}{a:Act}{K:Act->World->Prop}{Q:Exit->Act->World->Prop}{E:Prop}(p:o.guard=none)(s x:Operand)(t:TypeId)(q:o.op=.call {callee:=.builtin .append,args:=#[s,x],argTypes:=#[t,t]})(base:Nat)(e:TypeId)(i:TypeInfo)(z:Value)(size bytes:Nat)(F:P.underlying t=some (.slice e))(hi:P.info? e=some i)(H:i.zero=some z)(C:i.size=size)(k:i.bytes=bytes)(I:z.cells.size=size)(D:0<size)(v:Value)(n:Nat)(xs:List (List Value))(hs:a.eval s=v)(r:Own w base e size v n xs)(A:Option Addr)(m c:Nat)(b:List (List Value))(hx:a.eval x=.slice A m c)(y:Sl w size A m b)(hl:∀x∈b,x.length=size)(h1:∀x∈b,∀u∈x,u.oneCell'=true)(g:n+m<=maxLen)(l:(n+m)*bytes<=140737488355328)(j:base<=w.heap.size)(h:∀A' c' w',Own w' base e size (.slice A' (n+m) c') (n+m) (xs++b)->w.grownBy w' v.ownBlock->((Value.slice A' (n+m) c').ownBlock=v.ownBlock\/(Value.slice A' (n+m) c').ownBlock=some w.heap.size)->K (a.put o.dst (.slice A' (n+m) c')) w'):if Region.wanted o (yielded ops a.tmps)=true then Oper.wp P o a w K Q else E:=by
 have G:Region.wanted o (yielded ops a.tmps)=true:=by simp[Region.wanted,p]
 rw[yK G];obtain⟨v',w',B,h2,d,f⟩:=kk (P:=P) w base t o.type e i z size bytes F hi H C k I D v n xs r A m c b y hl h1 g l j;obtain⟨A',c',rfl,_⟩:=h2.sl;unfold Oper.wp execOp;simp only[q,resolve,invoke,builtin,B5,Bv,Bh,Bj,z3,Br,hs,hx,B];exact h A' c' w' h2 d f
end
