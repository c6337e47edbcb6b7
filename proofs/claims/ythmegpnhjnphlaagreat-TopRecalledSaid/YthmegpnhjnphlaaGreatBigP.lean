import Derived.Test.YthmegpnhjnphlaaGreatBase
namespace Go.Proofs.YthmegpnhjnphlaaGreat
open Go.RowKit
structure Loc(w:World)(n:Nat)(X:Array Value):Prop where
 lt:n<w.heap.size
 cell:∀j,w.cell? ⟨n,j,none⟩=X[j]?
 free:∀j,w.frozen? ⟨n,j,none⟩=false
section
variable {w w':World} {n:Nat} {X:Array Value}
theorem Loc.C(w:World)(X:Array Value)(t:TypeId):Loc (w.alloc (.cells X t)) w.heap.size X:=⟨by simp,λj=>A6 _ _ _ _ rfl,λj=>World.frozen?_alloc_at _ _ _ _ rfl⟩
theorem Loc.ad(h:Loc w n X)(a:Below w.heap.size w w'):Loc w' n X:=⟨yx h.lt a.size,λj=>(a.cell (p:=⟨n,j,none⟩) h.lt).trans (h.cell j),λj=>(a.frozen (p:=⟨n,j,none⟩) h.lt).trans (h.free j)⟩
theorem Loc.drew(h:Loc w n X):Loc w.drew n X:=h.ad ⟨rfl,rfl,rfl,yq _,λ_ _=>rfl⟩
theorem Loc.drewN(h:Loc w n X)(k:Nat):Loc (w.drewN k) n X:=h.ad ⟨rfl,rfl,rfl,yq _,λ_ _=>rfl⟩
theorem Loc.alloc(h:Loc w n X)(o:Obj):Loc (w.alloc o) n X:=h.ad (az w o)
theorem Loc.aE(h:Loc w n X)(i:Nat)(v:Value):Loc (w.setCell ⟨n,i,none⟩ v) n (X.setIfInBounds i v):=by
 refine⟨by rw[zs];exact h.lt,λj=>?_,λj=>by rw[BC];exact h.free j⟩;by_cases a:i=j
 .subst a;by_cases hi:i<X.size;.rw[zW _ _ _ (u:=X[i]) (by rw[h.cell];exact Array.getElem?_eq_getElem hi)];simp[hi]
  .rw[AT (by simp;omega)];have hc:=h.cell i;rw[AT (by omega)]at hc;rcases hx:(w.setCell ⟨n,i,none⟩ v).cell? ⟨n,i,none⟩with _|u;.rfl
   .exfalso;simp only[World.setCell,World.cell?,Array.getElem?_modify]at hx hc;cases b:w.heap[n]? with
    |none=>simp[b]at hx
    |some o=>cases o<;>simp_all
 .rw[yN _ _ _ _ (λe=>a (by injection e)),h.cell];simp[a]
theorem Loc.u(h:Loc w n X){p:Addr}(hp:p.block≠n)(v:Value):Loc (w.setCell p v) n X:=⟨by rw[zs];exact h.lt,λj=>(yN _ _ _ _ (λe=>hp (by rw[e]))).trans (h.cell j),λj=>by rw[BC];exact h.free j⟩
end
theorem fP{B:Nat}{w w':World}(h:Below B w w')(k:Nat):Below B w (w'.drewN k):=⟨h.os,h.tape,h.output,h.size,h.block⟩
theorem Sl.drewN{w:World}{size n:Nat}{A:Option Addr}{xs:List (List Value)}(h:Sl w size A n xs)(k:Nat):Sl (w.drewN k) size A n xs:=h
theorem pk{w:World}(o:Obj){w':World}(h:Below (w.alloc o).heap.size (w.alloc o) w'):Below w.heap.size w w':=(az w o).trans (h.mono (by simp))
theorem dq{w b:World}{x:Array Value}{a:TypeId}(c:Below (w.alloc (.cells x a)).heap.size (w.alloc (.cells x a)) b):Loc b (w.heap.size) x/\Below w.heap.size w b:=by
 have d:Loc (w.alloc (.cells x a)) (w.heap.size) x:=by have h:=Loc.C w x a;exact h
 exact⟨d.ad c,(az w _).trans (c.mono (by simp only[ym];omega))⟩
theorem eV{w c:World}{x y:Array Value}{a b:TypeId}(d:Below ((w.alloc (.cells x a)).alloc (.cells y b)).heap.size ((w.alloc (.cells x a)).alloc (.cells y b)) c):Loc c (w.heap.size) x/\Loc c (w.heap.size+1) y/\Below w.heap.size w c:=by
 have e:Loc (w.alloc (.cells x a)) (w.heap.size) x:=by have h:=Loc.C w x a;exact h
 have h1:Loc ((w.alloc (.cells x a)).alloc (.cells y b)) (w.heap.size+1) y:=by have h:=Loc.C (w.alloc (.cells x a)) y b;simpa only[ym]using h
 exact⟨(e.alloc _).ad d,h1.ad d,((az w _).alloc (by simp only[ym];omega) _).trans (d.mono (by simp only[ym];omega))⟩
theorem eU{w c:World}{x y z:Array Value}{a b e:TypeId}(d:Below (((w.alloc (.cells x a)).alloc (.cells y b)).alloc (.cells z e)).heap.size (((w.alloc (.cells x a)).alloc (.cells y b)).alloc (.cells z e)) c):Loc c (w.heap.size) x/\Loc c (w.heap.size+1) y/\Loc c (w.heap.size+1+1) z/\Below w.heap.size w c:=by
 have f:Loc (w.alloc (.cells x a)) (w.heap.size) x:=by have h:=Loc.C w x a;exact h
 have h1:Loc ((w.alloc (.cells x a)).alloc (.cells y b)) (w.heap.size+1) y:=by have h:=Loc.C (w.alloc (.cells x a)) y b;simpa only[ym]using h
 have h2:Loc (((w.alloc (.cells x a)).alloc (.cells y b)).alloc (.cells z e)) (w.heap.size+1+1) z:=by have h:=Loc.C ((w.alloc (.cells x a)).alloc (.cells y b)) z e;simpa only[ym]using h
 exact⟨((f.alloc _).alloc _).ad d,(h1.alloc _).ad d,h2.ad d,(((az w _).alloc (by simp only[ym];omega) _).alloc (by simp only[ym];omega) _).trans (d.mono (by simp only[ym];omega))⟩
theorem kh{w d:World}{x y z u:Array Value}{a b c f:TypeId}(e:Below ((((w.alloc (.cells x a)).alloc (.cells y b)).alloc (.cells z c)).alloc (.cells u f)).heap.size ((((w.alloc (.cells x a)).alloc (.cells y b)).alloc (.cells z c)).alloc (.cells u f)) d):Loc d (w.heap.size) x/\Loc d (w.heap.size+1) y/\Loc d (w.heap.size+1+1) z/\Loc d (w.heap.size+1+1+1) u/\Below w.heap.size w d:=by
 have g:Loc (w.alloc (.cells x a)) (w.heap.size) x:=by have h:=Loc.C w x a;exact h
 have h1:Loc ((w.alloc (.cells x a)).alloc (.cells y b)) (w.heap.size+1) y:=by have h:=Loc.C (w.alloc (.cells x a)) y b;simpa only[ym]using h
 have h2:Loc (((w.alloc (.cells x a)).alloc (.cells y b)).alloc (.cells z c)) (w.heap.size+1+1) z:=by have h:=Loc.C ((w.alloc (.cells x a)).alloc (.cells y b)) z c;simpa only[ym]using h
 have i:Loc ((((w.alloc (.cells x a)).alloc (.cells y b)).alloc (.cells z c)).alloc (.cells u f)) (w.heap.size+1+1+1) u:=by have h:=Loc.C (((w.alloc (.cells x a)).alloc (.cells y b)).alloc (.cells z c)) u f;simpa only[ym]using h
 exact⟨(((g.alloc _).alloc _).alloc _).ad e,((h1.alloc _).alloc _).ad e,(h2.alloc _).ad e,i.ad e,((((az w _).alloc (by simp only[ym];omega) _).alloc (by simp only[ym];omega) _).alloc (by simp only[ym];omega) _).trans (e.mono (by simp only[ym];omega))⟩
section
variable {w w':World} {row:Option Nat}
theorem Loc.grown{n:Nat}{X:Array Value}(h:Loc w n X)(hg:w.grownBy w' row)(c:row≠some n):Loc w' n X:=by have b:=hg.block n h.lt (λe=>c e.symm);exact⟨yx h.lt hg.size,λj=>(z7 (w:=w) (a:=⟨n,j,none⟩) b).trans (h.cell j),λj=>(AV (w:=w) (a:=⟨n,j,none⟩) b).trans (h.free j)⟩
end
theorem Own.empty{w:World}{b base:Nat}{e:TypeId}{size:Nat}(h:w.heap.size=b)(a:base<=b):Own (w.alloc (.cells #[] e)) base e size (.slice (some ⟨b,0,none⟩) 0 0) 0 []:=by subst h;exact⟨AU w #[] 0 a (by simp[maxLen]) (by simp),by simp,rfl⟩
def iV(x y:Value):Prop:=∀b,x.ownBlock=some b->y.ownBlock≠some b
theorem iV.symm{x y:Value}(h:iV x y):iV y x:=λb hy hx=>h b hx hy
theorem iV.none(y:Value)(n c:Nat):iV (.slice none n c) y:=λb h=>by simp[Value.ownBlock]at h
theorem iV.fresh{x y:Value}{B:Nat}(hx:∀b,x.ownBlock=some b->B<=b)(hy:∀b,y.ownBlock=some b->b<B):iV x y:=λb h a=>Nat.lt_irrefl _ (yx (hy b a) (hx b h))
theorem gV(w:World)(p:Addr)(v:Value):w.grownBy (w.setCell p v) (some p.block):=⟨rfl,rfl,rfl,by rw[zs];exact yq _,λk _ a=>Below.heap_setCell _ _ _ _ (λe=>a (by rw[e]))⟩
theorem Own.sl'{w:World}{base:Nat}{e:TypeId}{size n m c:Nat}{A:Option Addr}{xs:List (List Value)}(h:Own w base e size (.slice A m c) n xs):Sl w size A n xs:=by obtain⟨A',c',a,hs⟩:=h.sl;injection a with h1 h2 b;subst h1;exact hs
section
variable {w w':World} {base:Nat} {e:TypeId} {size:Nat} {v:Value} {n:Nat} {xs:List (List Value)}
theorem Own.lt(h:Own w base e size v n xs):∀b,v.ownBlock=some b->base<=b/\b<w.heap.size:=λb a=>h.1.lt b a
theorem Own.other(h:Own w base e size v n xs){p:Addr}(hp:v.ownBlock≠some p.block)(u:Value):Own (w.setCell p u) base e size v n xs:=h.kept (gV w p u) (.inr hp)
theorem Sl.grown{A:Option Addr}{row:Option Nat}(h:Sl w size A n xs)(hg:w.grownBy w' row)(c:xs=[]\/∀d,A=some d->row≠some d.block):Sl w' size A n xs:=by
 refine⟨h.1,λi x hx=>?_⟩;obtain⟨b,o,hA,f,hc⟩:=h.2 i x hx;rcases c with rfl|c;.simp at hx
 refine⟨b,o,hA,yx f hg.size,λj v g=>?_⟩;exact(z7 (w:=w) (a:=⟨b,_,none⟩) (hg.block b f (λe=>c _ hA e.symm))).trans (hc j v g)
theorem Own.aL{g c i:Nat}{a:List Value}(h:Own w base e 1 (.slice (some ⟨g,0,none⟩) n c) n (a.map λv=>[v]))(hi:i<a.length)(u:Value):Own (w.setCell ⟨g,i,none⟩ u) base e 1 (.slice (some ⟨g,0,none⟩) n c) n ((a.set i u).map λv=>[v]):=by obtain⟨x,hx⟩:∃x,a[i]?=some x:=⟨_,yk hi⟩;have h1:=h.stored (i:=i) (j:=0) (x:=[x]) (by rw[yG,hx];rfl) (by omega) u;rw[z'];simpa using h1
end
structure aw(F:Nat->Prop)(w w':World):Prop where
 os:w'.os=w.os
 tape:w'.tape=w.tape
 output:w'.output=w.output
 size:w.heap.size<=w'.heap.size
 block:∀k,k<w.heap.size->¬F k->w'.heap[k]?=w.heap[k]?
def mx(F:Nat->Prop)(w w':World)(k:Nat):Prop:=F k\/(w.heap.size<=k/\k<w'.heap.size)
section
variable {F G:Nat->Prop} {w w' w'':World}
theorem aw.refl(F:Nat->Prop)(w:World):aw F w w:=⟨rfl,rfl,rfl,yq _,λ_ _ _=>rfl⟩
theorem aw.trans(h:aw F w w')(k:aw (mx F w w') w' w''):aw F w w'':=⟨k.os.trans h.os,k.tape.trans h.tape,k.output.trans h.output,yt h.size k.size,λi hi a=>(k.block i (yx hi h.size) (λhp=>by rcases hp with hp|hp;exact a hp;omega)).trans (h.block i hi a)⟩
theorem aw.mono(h:aw F w w')(hg:∀k,F k->G k):aw G w w':=⟨h.os,h.tape,h.output,h.size,λk hk hn=>h.block k hk (λa=>hn (hg k a))⟩
theorem aw.grown{row:Option Nat}(hg:w.grownBy w' row)(a:∀b,row=some b->F b):aw F w w':=⟨hg.os,hg.tape,hg.output,hg.size,λk hk hn=>hg.block k hk (λe=>hn (a k e.symm))⟩
theorem aw.setCell{p:Addr}(hp:F p.block)(v:Value):aw F w (w.setCell p v):=aw.grown (gV w p v) (λb a=>by injection a with a;rw[<-a];exact hp)
theorem aw.ad(a:Below w.heap.size w w'):aw F w w':=⟨a.os,a.tape,a.output,a.size,λk hk _=>a.block k hk⟩
end
structure eJ where
 P:World->(Nat->Prop)->Prop
 lt:∀w F,P w F->∀k,F k->k<w.heap.size
 bC:∀w w' F,P w F->w.heap.size<=w'.heap.size->(∀k,F k->w'.heap[k]?=w.heap[k]?)->P w' F
def ef(w:World):List eJ->(Nat->Prop)->Prop|[],_=>True|R::Rs,G=>∃F:Nat->Prop,R.P w F/\(∀k,F k->G k)/\ef w Rs (λk=>G k/\¬F k)
theorem ef.mono{w:World}:∀{Rs:List eJ}{G a:Nat->Prop},ef w Rs G->(∀k,G k->a k)->ef w Rs a|[],_,_,_,_=>trivial|_::_,_,_,⟨F,h1,h2,b⟩,h=>⟨F,h1,λk hk=>h k (h2 k hk),b.mono λk hk=>⟨h k hk.1,hk.2⟩⟩
theorem ef.bC{w w':World}(a:w.heap.size<=w'.heap.size):∀{Rs:List eJ}{G:Nat->Prop},ef w Rs G->(∀k,G k->k<w.heap.size->w'.heap[k]?=w.heap[k]?)->ef w' Rs G|[],_,_,_=>trivial|R::_,_,⟨F,h1,h2,b⟩,h=>⟨F,R.bC w w' F h1 a λk hk=>h k (h2 k hk) (R.lt w F h1 k hk),h2,ef.bC a b λk hk hl=>h k hk.1 hl⟩
theorem ef.swap{w:World}{R1 R2:eJ}{Rs:List eJ}{G:Nat->Prop}(h:ef w (R1::R2::Rs) G):ef w (R2::R1::Rs) G:=by obtain⟨a,d,e,b,f,b2,c⟩:=h;exact⟨b,f,λk hk=>(b2 k hk).1,a,d,λk hk=>⟨e k hk,λh2=>(b2 k h2).2 hk⟩,c.mono λk hk=>⟨⟨hk.1.1,hk.2⟩,hk.1.2⟩⟩
theorem ef.cons{w:World}{R:eJ}{Rs Rs':List eJ}{G:Nat->Prop}(h:ef w (R::Rs) G)(hc:∀G,ef w Rs G->ef w Rs' G):ef w (R::Rs') G:=by obtain⟨F,a,b,c⟩:=h;exact⟨F,a,b,hc _ c⟩
theorem ef.perm{w:World}{Rs Rs':List eJ}(p:Rs.Perm Rs'):∀{G:Nat->Prop},ef w Rs G->ef w Rs' G:=by
 induction p with
 |nil=>exactλh=>h
 |cons x _ a=>exactλh=>h.cons λ_=>a
 |swap x y l=>exactλh=>h.swap
 |trans _ _ b c=>exactλh=>c (b h)
def Sep(w0 w:World)(Rs:List eJ):Prop:=ef w Rs (λk=>w0.heap.size<=k/\k<w.heap.size)/\Below w0.heap.size w0 w
namespace Sep
variable {w0 w w':World} {R R' R1 R2 R3 R4 R5 R6:eJ} {Rs Rs':List eJ}
theorem base(h:Sep w0 w Rs):Below w0.heap.size w0 w:=h.2
theorem start(w:World):Sep w w []:=⟨trivial,yl _ _⟩
theorem perm(h:Sep w0 w Rs)(p:Rs.Perm Rs'):Sep w0 w Rs':=⟨h.1.perm p,h.2⟩
theorem sw(h:Sep w0 w (R1::R2::Rs)):Sep w0 w (R2::R1::Rs):=⟨h.1.swap,h.2⟩
theorem r3(h:Sep w0 w (R1::R2::R3::Rs)):Sep w0 w (R3::R1::R2::Rs):=h.perm (((List.Perm.swap _ _ _).cons _).trans (List.Perm.swap _ _ _))
theorem r4(h:Sep w0 w (R1::R2::R3::R4::Rs)):Sep w0 w (R4::R1::R2::R3::Rs):=((h.perm ((((List.Perm.swap _ _ _).cons _).trans (List.Perm.swap _ _ _)).cons _)).sw)
theorem r5(h:Sep w0 w (R1::R2::R3::R4::R5::Rs)):Sep w0 w (R5::R1::R2::R3::R4::Rs):=by refine Sep.sw (h.perm (List.Perm.cons _ ?_));exact(((((List.Perm.swap _ _ _).cons _).trans (List.Perm.swap _ _ _)).cons _).trans (List.Perm.swap _ _ _))
theorem l3(h:Sep w0 w (R1::R2::R3::Rs)):Sep w0 w (R2::R3::R1::Rs):=h.r3.r3
theorem l4(h:Sep w0 w (R1::R2::R3::R4::Rs)):Sep w0 w (R2::R3::R4::R1::Rs):=h.r4.r4.r4
theorem drop(h:Sep w0 w (R::Rs)):Sep w0 w Rs:=by obtain⟨⟨F,_,_,a⟩,b⟩:=h;exact⟨a.mono λk hk=>hk.1,b⟩
theorem ad(h:Sep w0 w Rs)(a:Below w.heap.size w w'):Sep w0 w' Rs:=⟨(h.1.bC a.size λk _ hl=>a.block k hl).mono λk hk=>⟨hk.1,yx hk.2 a.size⟩,h.2.trans (a.mono h.2.size)⟩
theorem drew(h:Sep w0 w Rs):Sep w0 w.drew Rs:=h.ad ⟨rfl,rfl,rfl,yq _,λ_ _=>rfl⟩
theorem drewN(h:Sep w0 w Rs)(n:Nat):Sep w0 (w.drewN n) Rs:=h.ad ⟨rfl,rfl,rfl,yq _,λ_ _=>rfl⟩
theorem alloc(h:Sep w0 w Rs)(o:Obj):Sep w0 (w.alloc o) Rs:=h.ad (az w o)
theorem add(h:Sep w0 w Rs)(a:Below w.heap.size w w'){F:Nat->Prop}(b:R.P w' F)(hF:∀k,F k->w.heap.size<=k):Sep w0 w' (R::Rs):=⟨⟨F,b,λk hk=>⟨yt h.2.size (hF k hk),R.lt _ _ b k hk⟩,(h.1.bC a.size λk _ hl=>a.block k hl).mono λk hk=>⟨⟨hk.1,yx hk.2 a.size⟩,λc=>by have:=hF k c;omega⟩⟩,h.2.trans (a.mono h.2.size)⟩
theorem step(h:Sep w0 w (R::Rs))(hs:∀F,R.P w F->∃e,R'.P w' e/\(∀k,e k->mx F w w' k)/\aw F w w'):Sep w0 w' (R'::Rs):=by
 obtain⟨⟨F,h1,h2,i⟩,f⟩:=h;obtain⟨e,a,b,c⟩:=hs F h1;have j:Below w0.heap.size w0 w':=f.trans ⟨c.os,c.tape,c.output,c.size,λk l=>c.block k (yx l f.size) (λg=>by have:=(h2 k g).1;omega)⟩;refine⟨⟨e,a,λk hk=>⟨?_,R'.lt _ _ a k hk⟩,?_⟩,j⟩
 .rcases b k hk with d|d;.exact(h2 k d).1
  .exact yt f.size d.1
 .refine(i.bC c.size λk hk hl=>c.block k hl hk.2).mono λk hk=>⟨⟨hk.1.1,yx hk.1.2 c.size⟩,λg=>?_⟩;rcases b k g with d|d;.exact hk.2 d
  .have:=hk.1.2;omega
theorem call{P:Program}{fn:FuncId}{args:Array Value}{l:Type}{Q:Ending->l->Prop}{R':l->eJ}(h:Sep w0 w (R::Rs))(hc:∀F,R.P w F->(∀k,F k->w0.heap.size<=k)->Calls P fn args w λe w'=>∃i,Q e i/\∃f,(R' i).P w' f/\(∀k,f k->mx F w w' k)/\aw F w w'):Calls P fn args w λe w'=>∃i,Q e i/\Sep w0 w' (R' i::Rs):=by
 obtain⟨⟨F,h1,h2,m⟩,g⟩:=id h;refine(hc F h1 λk hk=>(h2 k hk).1).mono λe w' ⟨i,p,f,a,b,c⟩=>⟨i,p,?_⟩;have n:Below w0.heap.size w0 w':=g.trans ⟨c.os,c.tape,c.output,c.size,λk o=>c.block k (yx o g.size) (λj=>by have:=(h2 k j).1;omega)⟩;refine⟨⟨f,a,λk hk=>⟨?_,(R' i).lt _ _ a k hk⟩,?_⟩,n⟩
 .rcases b k hk with d|d;.exact(h2 k d).1
  .exact yt g.size d.1
 .refine(m.bC c.size λk hk hl=>c.block k hl hk.2).mono λk hk=>⟨⟨hk.1.1,yx hk.1.2 c.size⟩,λj=>?_⟩;rcases b k j with d|d;.exact hk.2 d
  .have:=hk.1.2;omega
theorem get(h:Sep w0 w (R::Rs)):∃F,R.P w F/\∀k,F k->w0.heap.size<=k:=by obtain⟨⟨F,h1,h2,_⟩,_⟩:=h;exact⟨F,h1,λk hk=>(h2 k hk).1⟩
theorem part(h:Sep w0 w (R::Rs))(hs:∀F,R.P w F->∃e d,R1.P w e/\R2.P w d/\(∀k,e k->F k/\¬d k)/\(∀k,d k->F k)):Sep w0 w (R1::R2::Rs):=by obtain⟨⟨F,a,b,c⟩,l⟩:=h;obtain⟨e,d,i,j,f,g⟩:=hs F a;exact⟨⟨e,i,λk hk=>b k (f k hk).1,d,j,λk hk=>⟨b k (g k hk),λh1=>(f k h1).2 hk⟩,c.mono λk hk=>⟨⟨hk.1,λh1=>hk.2 (f k h1).1⟩,λh2=>hk.2 (g k h2)⟩⟩,l⟩
end Sep
theorem Loc.a3{w w':World}{n:Nat}{X:Array Value}(h:Loc w n X)(c:w.heap.size<=w'.heap.size)(b:w'.heap[n]?=w.heap[n]?):Loc w' n X:=⟨yx h.lt c,λj=>(z7 (w:=w) (a:=⟨n,j,none⟩) b).trans (h.cell j),λj=>(AV (w:=w) (a:=⟨n,j,none⟩) b).trans (h.free j)⟩
def m_(n:Nat)(X:Array Value):eJ where
 P:=λw F=>Loc w n X/\∀k,F k↔k=n
 lt:=λw F h k hk=>by rw[(h.2 k).1 hk];exact h.1.lt
 bC:=λw w' F h b a=>⟨h.1.a3 b (a n ((h.2 n).2 rfl)),h.2⟩
def nY(e:TypeId)(size:Nat)(v:Value)(n:Nat)(xs:List (List Value)):eJ where
 P:=λw F=>Own w 0 e size v n xs/\∀k,F k↔v.ownBlock=some k
 lt:=λw F h k hk=>(h.1.1.lt k ((h.2 k).1 hk)).2
 bC:=λw w' F h i d=>⟨by
  refine⟨⟨h.1.1.1,?_⟩,h.1.2⟩;rcases h.1.1.2 with c|⟨g,cap,b,a,f,hg,r⟩;.exact .inl c
  .exact .inr ⟨g,cap,b,a,f,(d g ((h.2 g).2 (by rw[a];rfl))).trans hg,r⟩,h.2⟩
def fV(size:Nat)(A:Option Addr)(n:Nat)(xs:List (List Value)):eJ where
 P:=λw F=>Sl w size A n xs/\∀k,F k↔xs≠[]/\(∃c,A=some c/\c.block=k)/\k<w.heap.size
 lt:=λw F h k hk=>((h.2 k).1 hk).2.2
 bC:=λw w' F h g d=>by
  have m:∀k,(xs≠[]/\(∃c,A=some c/\c.block=k))->k<w.heap.size:=λk ⟨h1,c,h2,l⟩=>by obtain⟨x,hx⟩:∃x,xs[0]?=some x:=⟨_,yk (List.length_pos_iff.2 h1)⟩;obtain⟨b,o,hA,d,_⟩:=h.1.2 0 x hx;rw[hA]at h2;injection h2 with h2;rw[<-l,<-h2];exact d
  refine⟨⟨h.1.1,λi x hx=>?_⟩,λk=>⟨λhk=>?_,λhk=>?_⟩⟩;.obtain⟨b,o,hA,f,hc⟩:=h.1.2 i x hx;refine⟨b,o,hA,yx f g,λj v p=>?_⟩;exact(z7 (w:=w) (a:=⟨b,_,none⟩) (d b ((h.2 b).2 ⟨λe=>by rw[e]at hx;simp at hx,⟨_,hA,rfl⟩,f⟩))).trans (hc j v p)
  .have h1:=(h.2 k).1 hk;exact⟨h1.1,h1.2.1,yx h1.2.2 g⟩
  .exact(h.2 k).2 ⟨hk.1,hk.2.1,m k ⟨hk.1,hk.2.1⟩⟩
namespace Sep
variable {w0 w w':World} {R R':eJ} {Rs Rs':List eJ} {n b:Nat} {X:Array Value}
theorem aE(h:Sep w0 w (m_ b X::Rs))(i:Nat)(v:Value):Sep w0 (w.setCell ⟨b,i,none⟩ v) (m_ b (X.setIfInBounds i v)::Rs):=h.step λF hF=>⟨F,⟨hF.1.aE i v,hF.2⟩,λ_ hk=>.inl hk,aw.setCell ((hF.2 b).2 rfl) v⟩
theorem box(h:Sep w0 w Rs)(X:Array Value)(t:TypeId):Sep w0 (w.alloc (.cells X t)) (m_ w.heap.size X::Rs):=h.add (az w _) (F:=λk=>k=w.heap.size) ⟨Loc.C w X t,λ_=>Iff.rfl⟩ (λk hk=>by rw[hk];exact yq _)
variable {e:TypeId} {size:Nat} {v v':Value} {xs xs':List (List Value)} {n':Nat} {A:Option Addr}
theorem own(h:Sep w0 w (nY e size v n xs::Rs)):Own w w0.heap.size e size v n xs:=by
 obtain⟨F,h1,h2⟩:=h.get;refine⟨⟨h1.1.1.1,?_⟩,h1.1.2⟩;rcases h1.1.1.2 with c|⟨g,cap,b,a,d,r⟩;.exact .inl c
 .exact .inr ⟨g,cap,b,a,h2 g ((h1.2 g).2 (by rw[a];rfl)),r⟩
theorem grown(h:Sep w0 w (nY e size v n xs::Rs)){base:Nat}(a:Own w' base e size v' n' xs')(hg:w.grownBy w' v.ownBlock)(c:v'.ownBlock=v.ownBlock\/v'.ownBlock=some w.heap.size):Sep w0 w' (nY e size v' n' xs'::Rs):=h.step λF hF=>⟨λk=>v'.ownBlock=some k,⟨a.mono (yw _),λ_=>Iff.rfl⟩,λk hk=>by
 rcases c with h1|h1;.exact .inl ((hF.2 k).2 (by rw[<-h1];exact hk))
 .right;rw[h1]at hk;injection hk with hk;have:=(a.1.lt k (by rw[h1,hk])).2;omega,aw.grown hg λb d=>(hF.2 b).2 d⟩
theorem sl(h:Sep w0 w (fV size A n xs::Rs)):Sl w size A n xs:=by obtain⟨F,h1,_⟩:=h.get;exact h1.1
end Sep
end Go.Proofs.YthmegpnhjnphlaaGreat
namespace Go.Proofs.YthmegpnhjnphlaaGreat
def aq:List Nat->Nat|[]=>0|d::r=>d+1048576*aq r
def ai(n:Nat):List Nat:=if n=0 then[]else n%1048576::ai (n/1048576)
termination_by n
decreasing_by omega
def Dg(l:List Nat):Prop:=∀d∈l,d<1048576
theorem Dg.nil:Dg []:=λd h=>by cases h
theorem Dg.cons{d:Nat}{l:List Nat}(hd:d<1048576)(h:Dg l):Dg (d::l):=λx hx=>by
 rcases zd.1 hx with rfl|hx;.exact hd
 .exact h x hx
theorem Dg.head{d:Nat}{l:List Nat}(h:Dg (d::l)):d<1048576:=h d (by simp)
theorem Dg.tail{d:Nat}{l:List Nat}(h:Dg (d::l)):Dg l:=λx hx=>h x (by simp[hx])
theorem Dg.append{a b:List Nat}(c:Dg a)(d:Dg b):Dg (a++b):=λx hx=>by
 rcases y1.1 hx with hx|hx;.exact c x hx
 .exact d x hx
theorem Dg.take{l:List Nat}(h:Dg l)(n:Nat):Dg (l.take n):=λx hx=>h x (z5 hx)
theorem Dg.drop{l:List Nat}(h:Dg l)(n:Nat):Dg (l.drop n):=λx hx=>h x (List.mem_of_mem_drop hx)
theorem Dg.get{l:List Nat}(h:Dg l){i d:Nat}(hi:l[i]?=some d):d<1048576:=h d (yr hi)
theorem Dg.aU(n:Nat):Dg (List.replicate n 0):=λx hx=>by rw[z4 hx];omega
theorem iJ:∀a b:List Nat,aq (a++b)=aq a+1048576^a.length*aq b|[],b=>by simp[aq]|d::a,b=>by simp only[zD,aq,iJ a b,zh,zM];grind
theorem h6(a:List Nat)(d:Nat):aq (a++[d])=aq a+1048576^a.length*d:=by simp[iJ,aq]
theorem oU(n:Nat):aq (List.replicate n 0)=0:=by
 induction n with
 |zero=>rfl
 |succ n a=>simp[BD,aq,a]
theorem gy:∀{a:List Nat},Dg a->aq a<1048576^a.length|[],_=>by simp[aq]|d::a,h=>by have h1:=h.head;have h2:=gy h.tail;simp only[aq,zh,zM];omega
theorem dy:ai 0=[]:=by rw[ai];rfl
theorem gP{n:Nat}(h:0<n):ai n=n%1048576::ai (n/1048576):=by rw[ai,yB (by omega)]
theorem lS{n:Nat}:ai n=[]↔n=0:=by
 constructor
 .intro h;rcases yJ n with a|a;.exact a
  .rw[gP a]at h;cases h
 .rintro rfl;exact dy
theorem cm(n:Nat):aq (ai n)=n:=by
 induction n using Nat.strongRecOn with
 |_ n b=>
  rcases yJ n with rfl|a;.rw[dy];rfl
  .rw[gP a,aq,b _ (by omega)];omega
theorem dj(n:Nat):Dg (ai n):=by
 induction n using Nat.strongRecOn with
 |_ n b=>
  rcases yJ n with rfl|a;.rw[dy];exact Dg.nil
  .rw[gP a];exact Dg.cons (by omega) (b _ (by omega))
theorem m'{a b:Nat}(h:ai a=ai b):a=b:=by rw[<-cm a,h,cm]
def fB(l:List Nat):Prop:=l.getLast?≠some 0
theorem mo(n:Nat):fB (ai n):=by
 induction n using Nat.strongRecOn with
 |_ n b=>
  rcases yJ n with rfl|a;.rw[dy];simp[fB]
  .rw[gP a];have h1:=b (n/1048576) (by omega);rcases yJ (n/1048576)with h2|h2;(.rw[h2,dy];simp[fB];omega);.unfold fB at h1⊢;rw[gP h2]at h1⊢;rw[List.getLast?_cons_cons];exact h1
theorem mm:∀{l:List Nat},Dg l->fB l->ai (aq l)=l
 |[],_,_=>dy
 |d::r,h,a=>by
  have hd:=h.head;cases r with
  |nil=>simp[fB]at a;rw[aq,aq,gP (by omega),show(d+1048576*0)/1048576=0 by omega,dy,show(d+1048576*0)%1048576=d by omega]
  |cons e r=>have c:=mm (l:=e::r) h.tail (by unfold fB at a⊢;rw[List.getLast?_cons_cons]at a;exact a);(have hp:0<aq (e::r):=by rcases yJ (aq (e::r))with b|b;(.rw[b,dy]at c;cases c);.exact b);rw[aq,gP (by omega),show(d+1048576*aq (e::r))/1048576=aq (e::r) by omega,show(d+1048576*aq (e::r))%1048576=d by omega,c]
theorem wz:∀{l:List Nat}{n:Nat},(∀i,n<=i->i<l.length->l[i]?=some 0)->l.drop n=List.replicate (l.length-n) 0
 |l,n,h=>by
  apply za;intro i;rw[Ac,Bl];by_cases hi:i<l.length-n;.rw[yK hi,h (n+i) (by omega) (by omega)]
  .rw[yB hi,yV (by omega)]
theorem ow{l:List Nat}{n:Nat}(hd:Dg l)(a:∀i,n<=i->i<l.length->l[i]?=some 0)(hn:n<=l.length)(he:n=0\/l[n-1]?≠some 0):l.take n=ai (aq l):=by
 have h1:aq l=aq (l.take n):=by
  have h2:l=l.take n++List.replicate (l.length-n) 0:=by rw[<-wz a,zR]
  conv=>lhs;rw[h2]
  rw[iJ,oU];omega
 rw[h1,mm (hd.take n)];unfold fB;rw[AA,yS,y3 hn];rcases he with rfl|he;.simp
 .rw[AH];split;.exact he
  .simp
theorem ck{n k:Nat}(h:n<1048576^k):(ai n).length<=k:=by
 induction k generalizing n with
 |zero=>rw[show n=0 by simpa using h,dy];simp
 |succ k b=>
  rcases yJ n with rfl|a;.rw[dy];simp
  .rw[gP a];(have:n/1048576<1048576^k:=by rw[zM]at h;omega);have:=b this;simp;omega
theorem g2(n:Nat):n<1048576^(ai n).length:=by have:=gy (dj n);rwa[cm]at this
theorem fz{a b:Nat}(h:a<=b):(ai a).length<=(ai b).length:=ck (A_ h (g2 b))
theorem p1{a b:Nat}(h:(ai a).length<(ai b).length):a<b:=by
 rcases zA a b with h1|h1;.exact h1
 .have:=fz h1;omega
theorem e4{l:List Nat}{i d:Nat}(h:l[i]?=some d):aq (l.take (i+1))=aq (l.take i)+1048576^i*d:=by obtain⟨hi,he⟩:=yp.1 h;rw[yz,h,Option.toList,h6,yS,y3 (by omega)]
theorem jh{l:List Nat}{i d:Nat}(h:l[i]?=some d):aq (l.drop i)=d+1048576*aq (l.drop (i+1)):=by obtain⟨hi,he⟩:=yp.1 h;rw[z2 hi,aq,he]
theorem iy(l:List Nat)(i:Nat)(hi:i<=l.length):aq l=aq (l.take i)+1048576^i*aq (l.drop i):=by
 conv=>lhs;rw[<-zR i l]
 rw[iJ,yS,y3 hi]
theorem oP{a b:List Nat}{i x y:Nat}(hl:a.length=b.length)(c:Dg a)(hx:a[i]?=some x)(hy:b[i]?=some y)(hd:a.drop (i+1)=b.drop (i+1))(h:x<y):aq a<aq b:=by
 have hi:=(yp.1 hx).1;rw[iy a (i+1) (by omega),iy b (i+1) (by omega),hd,e4 hx,e4 hy];have h1:=gy (c.take i);rw[yS,y3 (by omega)]at h1;have h2:1048576^i*x+1048576^i<=1048576^i*y:=by rw[<-Nat.mul_succ];exact yQ _ h
 omega
theorem k1{a b os:List Nat}{i c d e:Nat}(hl:os.length=i)(j:Dg os)(k:aq os+1048576^i*c=aq (a.take i)+aq (b.take i))(f:aq (a.take (i+1))=aq (a.take i)+1048576^i*d)(g:aq (b.take (i+1))=aq (b.take i)+1048576^i*e):Dg (os++[(c+d+e)%1048576])/\aq (os++[(c+d+e)%1048576])+1048576^(i+1)*((c+d+e)/1048576)=aq (a.take (i+1))+aq (b.take (i+1)):=by
 refine⟨j.append (Dg.cons (Ap _ (by omega)) Dg.nil),?_⟩;rw[h6,hl,f,g,zM,zy];have h:=Aq (c+d+e) 1048576;generalize(c+d+e)%1048576=r at*;generalize(c+d+e)/1048576=q at*;have h2:1048576^i*r+1048576^i*(1048576*q)=1048576^i*(c+d+e):=by rw[<-zg,h]
 simp only[zg]at h2;omega
theorem ly{l:List Nat}{i:Nat}(h:l.length<=i):aq (l.take (i+1))=aq (l.take i)+1048576^i*0:=by rw[yv (by omega),yv h];simp
theorem vn{a b os:List Nat}{c:Nat}(hl:os.length=a.length)(e:Dg os)(hc:c<1048576)(d:b.length<=a.length)(f:aq os+1048576^a.length*c=aq (a.take a.length)+aq (b.take a.length)):Dg (os++[c])/\aq (os++[c])=aq a+aq b:=by refine⟨e.append (Dg.cons hc Dg.nil),?_⟩;rw[h6,hl,f,Ak,yv d]
theorem lR{a os:List Nat}{i c c' d r k y y':Nat}(hl:os.length=i)(e:Dg os)(g:aq os+y=aq (a.take i)+1048576^i*c)(b:aq (a.take (i+1))=aq (a.take i)+1048576^i*d)(hy:y'=y+1048576^i*k)(f:r<1048576)(he:r+c+k=d+1048576*c'):Dg (os++[r])/\aq (os++[r])+y'=aq (a.take (i+1))+1048576^(i+1)*c':=by
 refine⟨e.append (Dg.cons f Dg.nil),?_⟩;rw[h6,hl,b,hy,zM,zy];have h2:1048576^i*r+1048576^i*c+1048576^i*k=1048576^i*d+1048576^i*(1048576*c'):=by rw[<-zg,<-zg,<-zg,he]
 omega
theorem vI{a os:List Nat}{c y:Nat}(hl:os.length=a.length)(d:Dg os)(hy:y<=aq a)(e:aq os+y=aq (a.take a.length)+1048576^a.length*c):c=0/\aq os=aq a-y:=by
 rw[Ak]at e;have h1:=gy d;rw[hl]at h1;rcases yJ c with rfl|b;.exact⟨rfl,by omega⟩
 .exfalso;have:1048576^a.length*1<=1048576^a.length*c:=yQ _ b;omega
theorem xQ{hi b ps:List Nat}{k c x h y:Nat}(hl:ps.length=k)(d:Dg ps)(f:aq ps+1048576^k*c=aq (hi.take k)+x*aq (b.take k))(hh:hi[k]?=some h)(a:b[k]?=some y):Dg (ps++[(h+x*y+c)%1048576])/\aq (ps++[(h+x*y+c)%1048576])+1048576^(k+1)*((h+x*y+c)/1048576)=aq (hi.take (k+1))+x*aq (b.take (k+1)):=by
 refine⟨d.append (Dg.cons (Ap _ (by omega)) Dg.nil),?_⟩;rw[h6,hl,e4 hh,e4 a,zM,zy];have h1:=Aq (h+x*y+c) 1048576;generalize(h+x*y+c)%1048576=r at*;generalize(h+x*y+c)/1048576=q at*;have h2:1048576^k*r+1048576^k*(1048576*q)=1048576^k*(h+x*y+c):=by rw[<-zg,h1]
 have e:x*(1048576^k*y)=1048576^k*(x*y):=by rw[BQ]
 simp only[zg]at h2⊢;omega
theorem t_{h x y c:Nat}(hh:h<1048576)(hx:x<1048576)(hy:y<1048576)(hc:c<1048576):h+x*y+c<1099511627776/\(h+x*y+c)/1048576<1048576:=by have:x*y<=1048575*1048575:=zG (by omega) (by omega);omega
theorem uM{a b lo hi ps:List Nat}{i c x:Nat}(d:lo.length=i)(e:ps.length=b.length)(g:hi.length=b.length)(f:aq (lo++hi)=aq (a.take i)*aq b)(hx:a[i]?=some x)(he:aq ps+1048576^b.length*c=aq (hi.take b.length)+x*aq (b.take b.length)):aq (lo++ps++[c])=aq (a.take (i+1))*aq b:=by
 rw[Ak,yv (by omega)]at he;rw[e4 hx,h6,yM,d,e,A2,zy];rw[iJ,d]at f⊢;have h2:1048576^i*aq ps+1048576^i*(1048576^b.length*c)=1048576^i*aq hi+1048576^i*(x*aq b):=by rw[<-zg,he,zg]
 rw[zI,zy];omega
theorem vD{a qs:List Nat}{i d r x:Nat}(hd:0<d)(e:r<d)(c:Dg qs)(hx:a[i]?=some x)(g:x<1048576)(f:aq (a.drop (i+1))=d*aq qs+r):Dg ((r*1048576+x)/d::qs)/\aq (a.drop i)=d*aq ((r*1048576+x)/d::qs)+(r*1048576+x)%d/\(r*1048576+x)%d<d:=by
 have b:(r*1048576+x)/d<1048576:=by rw[AW hd];have:(r+1)*1048576<=d*1048576:=yU _ e;rw[zi 1048576 d];omega
 refine⟨Dg.cons b c,?_,Ap _ hd⟩;rw[jh hx,f,aq];have h1:=Aq (r*1048576+x) d;generalize(r*1048576+x)%d=m at*;generalize(r*1048576+x)/d=q at*;rw[zg d q,BQ d 1048576];omega
theorem ta{W V P top v1:Nat}(b:0<v1)(c:W<(top+1)*P)(hV:v1*P<=V):W/V<=top/v1:=by
 rw[Nat.le_div_iff_mul_le b];have h1:=Nat.div_mul_le_self W V;have h2:W/V*(v1*P)<=W/V*V:=yQ _ hV;have a:W/V*v1*P<(top+1)*P:=by rw[zy];omega
 have:=Cf a;omega
theorem wG{W V P g v1 v2 T u3 rest top:Nat}(e:W<(T+1)*P)(c:T=top*1048576+u3)(hV:(v1*1048576+v2)*P<=V)(f:g*v1+rest=top)(h:rest*1048576+u3<g*v2)(d:0<V):W/V<=g-1:=by
 have h1:T<g*(v1*1048576+v2):=by
  have a:g*(v1*1048576+v2)=g*v1*1048576+g*v2:=by rw[zg,zy]
  obtain⟨A,hA⟩:∃A,A=g*v1:=⟨_,rfl⟩;obtain⟨B,hB⟩:∃B,B=g*v2:=⟨_,rfl⟩;rw[a,c,<-f,<-hA,<-hB];rw[<-hB]at h;clear e c hV f hA hB a d;rw[zI,zU];exact Nat.add_lt_add_left h _
 have h2:(T+1)*P<=g*(v1*1048576+v2)*P:=yU _ h1;have b:g*((v1*1048576+v2)*P)<=g*V:=yQ _ hV;rw[<-zy]at b;have:W/V<g:=by rw[AW d];exact yx e (yt h2 b)
 omega
theorem rT{W V P g v1 v2 T u3 rest top:Nat}(hg:g<1048576)(n:T*P<=W)(f:T=top*1048576+u3)(hV:V<(v1*1048576+v2+1)*P)(q:1048576*P<=V)(i:g*v1+rest=top)(s:v2<1048576)(t:0<P)(h:1048576<=rest\/g*v2<=rest*1048576+u3):g<=W/V+1:=by
 have r:0<V:=by omega
 rcases yJ g with rfl|u;.exact yw _
 have key:(g-1)*V<=W:=by
  have k:(g-1)*V+V=g*V:=by rw[<-A8];congr 1;omega
  have a:g*V<=g*((v1*1048576+v2+1)*P):=yQ _ (yT hV);have b:g*((v1*1048576+v2+1)*P)=g*(v1*1048576+v2)*P+g*P:=by grind
  have l:g*P<=1048576*P:=yU _ (by omega);have m:g*(v1*1048576+v2)<=T:=by (have j:g*(v1*1048576+v2)=g*v1*1048576+g*v2:=by rw[zg,zy]);have o:g*v2<=1048576*v2:=yU _ (yT hg);obtain⟨A,hA⟩:∃A,A=g*v1:=⟨_,rfl⟩;obtain⟨B,hB⟩:∃B,B=g*v2:=⟨_,rfl⟩;rw[j,f,<-i,<-hA,<-hB];rw[<-hB]at h o;clear a k b l hV q n j hA hB i f;rcases h with h|h;(.omega);.omega
  have p:g*(v1*1048576+v2)*P<=T*P:=yU _ m;rw[b]at a;obtain⟨A,hA⟩:∃A,A=g*(v1*1048576+v2)*P:=⟨_,rfl⟩;obtain⟨C,c⟩:∃C,C=(g-1)*V:=⟨_,rfl⟩;obtain⟨D,d⟩:∃D,D=g*V:=⟨_,rfl⟩;obtain⟨E,e⟩:∃E,E=g*P:=⟨_,rfl⟩;obtain⟨F,hF⟩:∃F,F=T*P:=⟨_,rfl⟩;rw[<-hA,<-e,<-d]at a;rw[<-hA,<-hF]at p;rw[<-c,<-d]at k;rw[<-e]at l;rw[<-hF]at n;rw[<-c];clear b m hV f i h s hA c d e hF;omega
 have:g-1<=W/V:=(Nat.le_div_iff_mul_le r).2 key;omega
theorem x0{W V X g c L:Nat}(f:V<L)(b:0<V)(h:X<L)(e:W/V<=g)(h1:g<=W/V+1)(d:X+g*V=W+L*c):(c=0/\g=W/V/\X=W%V)\/(c=1/\g=W/V+1/\X+V=W%V+L):=by
 have hm:=Aq W V;have i:=Ap W b;rw[zi V]at hm;have hg:g=W/V\/g=W/V+1:=by omega
 rcases hg with rfl|rfl
 .left;rcases yJ c with rfl|hc;.exact⟨rfl,rfl,by omega⟩
  .exfalso;have:L*1<=L*c:=yQ _ hc;omega
 .right;rw[A8]at d;have hc:c=1:=by rcases yJ c with rfl|hc;(.exfalso;omega);.rcases zA 1 c with a|a;(.exfalso;have:L*2<=L*c:=yQ _ a;omega);.omega
  subst hc;exact⟨rfl,rfl,by omega⟩
theorem sX{W V Y X c L:Nat}(f:V<L)(b:0<V)(d:X+V=W%V+L)(g:Y<L)(e:Y+L*c=X+V):Y=W%V:=by
 have h:=Ap W b;rw[d]at e;have hc:c=1:=by
  rcases yJ c with rfl|hc;.omega
  .rcases zA 1 c with a|a;(.exfalso;have:L*2<=L*c:=yQ _ a;omega);.omega
 subst hc;omega
theorem vM{a b s Q R:Nat}(hs:0<s)(h:a*s=Q*(b*s)+R)(f:R<b*s):Q=a/b/\R/s=a%b:=by
 have d:0<b:=by
  rcases yJ b with rfl|d;.omega
  .exact d
 have c:Q=a/b:=by
  have h1:a*s/(b*s)=Q:=by rw[h,zi Q,Nat.mul_add_div (by omega),BZ f];omega
  rw[<-h1,Nat.mul_div_mul_right _ _ hs]
 refine⟨c,?_⟩;have h2:R=a%b*s:=by
  have:=Aq a b;rw[<-c]at this;have e:a*s=(a%b+b*Q)*s:=by rw[this]
  rw[zI,h]at e;have:Q*(b*s)=b*Q*s:=by grind
  omega
 rw[h2,Nat.mul_div_cancel _ hs]
