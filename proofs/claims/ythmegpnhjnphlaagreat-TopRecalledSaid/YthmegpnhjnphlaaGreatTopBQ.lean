import Derived.Test.YthmegpnhjnphlaaGreatTopBO
set_option maxHeartbeats 8000000
set_option maxRecDepth 100000
namespace Go.Proofs.YthmegpnhjnphlaaGreat
open Go.RowKit
def c6:Option Nat->Int|none=>-1|some k=>(k:Int)
theorem p7{vars:List Nat}{p:Nat->Bool}{k b:Nat}(h:fk vars p k=some b):b<k:=((kQ vars p k).2 b h).1
theorem kV(w:World)(A:Option Addr)(n c:Nat)(ks:List Nat)(hs:Sl w 1 A n (ks.map λk:Nat=>[Value.int .i64 (k:Int)]))(hn:n<=100000000000)(K:FuncId)(H:Array Value)(bA:∀args w,(callFunc K args).run Tryz.prog w=.ok (.enter K args) w)(p:Nat->Bool)(S:Hid (∀i,i<n->∀W,Below w.heap.size w W->Calls Tryz.prog K (#[.int .i64 (i:Int)]++H) W λe U=>e=.returned (.bool (p i))/\Below W.heap.size W U))(r:Int)(Q:c6 (eG ks p)=r):Calls Tryz.prog 111 #[.slice A n c,.func (.func K) #[] H] w λe w'=>e=.returned (.int .i64 r)/\Below w.heap.size w w':=by
 have G:=yj hs;have u:Hid (ks.length=n):=yj (by have:=hs.len;simpa using this);have T:Hid (c6 (fk ks p n)=r):=yj (by rw[<-Q,eG,u.out]);clear hs Q;go_enter Tryz.func111,Tryz.ntmps111;go_wp2_with(fail);go_loopw[5,10] (λV z wr=>∃i:Nat,i<=n/\z=.int .i64 (i:Int)/\V=.int .i64 (c6 (fk ks p i))/\Below w.heap.size w wr) (λ_ z _=>n-(intOf z).toNat);case atStart=>exact⟨0,yw _,rfl,rfl,yl _ _⟩
 case round=>
  obtain⟨i,hi,rfl,rfl,N⟩:=hrel;obtain⟨B,rfl⟩:∃B:World,B=wr:=⟨_,rfl⟩;have a:=yj N;clear N;by_cases s:i<n
  .obtain⟨k,hk⟩:∃k,ks[i]?=some k:=⟨_,yk (by rw[u.out];exact s)⟩;have D:=yj (S.out i s);obtain⟨b,bu,rfl,bB,bj⟩:=G.out.getM (f:=λk:Nat=>[Value.int .i64 (k:Int)]) hk;(have J:∀(W:World),Below w.heap.size w W->∀(j l:Nat),ks[j]?=some l->W.cell? ⟨b,bu+j,none⟩=some (.int .i64 (l:Int)):=λW Z j l hl=>by obtain⟨bz,bQ,e,-,bc⟩:=G.out.getM (f:=λk:Nat=>[Value.int .i64 (k:Int)]) hl;injection e with e;injection e with X Y;subst X Y;have:=bc W Z 0 _ rfl;rwa[zl,y9]at this);have C:=yj J;have I:=C.out B a.out i k hk;(have bk:(i:Int)<(n:Int):=by omega);have bP:(0:Int)<=(i:Int):=yo _;have d:=yj s;have bw:=yj hk;obtain⟨f,v⟩:∃f,p i=f:=⟨_,rfl⟩;have m:=yj v;rw[v]at D;obtain⟨q,y⟩:∃q,fk ks p i=q:=⟨_,rfl⟩;have h:=yj y;rw[y];(have P:ks.getD i 0=k:=by rw[yu,hk];rfl);have F:=yj P;clear s hk bj J v y P;go_wp2_with(fail);((with_reducible refine(D.out _ a.out).mono ?_);rintro _ bv⟨rfl,L⟩;have R:=yj L;clear L);replace a:=yj (a.out.trans (R.out.mono a.out.size));clear I;cases f;.go_wp2_with(fail);go_roundw;(case rel=>refine⟨i+1,d.out,by go_num,?_,a.out⟩;rw[fk,h.out];cases q<;>simp[m.out]);case measure=>have:=d.out;simp[intOf];omega
   .cases q with
    |none=>simp only[c6];go_wp2_with(fail);go_roundw;(case rel=>refine⟨i+1,d.out,by go_num,?_,a.out⟩;rw[fk,h.out];simp[m.out,c6]);case measure=>have:=d.out;simp[intOf];omega
    |some b2=>simp only[c6];have M:=p7 h.out;obtain⟨g,x⟩:∃g,ks[b2]?=some g:=⟨_,yk (by rw[u.out];exact Nat.lt_trans M d.out)⟩;have I:=C.out bv a.out b2 g x;(have bN:(b2:Int)<(n:Int):=by have:=d.out;omega);have bK:(0:Int)<=(b2:Int):=yo _;(have bO:¬((b2:Int)<0):=by omega);(have O:ks.getD b2 0=g:=by rw[yu,x];rfl);have E:=yj O;clear x O M;by_cases o:k<g;(. (have bq:(k:Int)<(g:Int):=by omega);have t:=yj o;clear o;go_wp2_with(fail);go_roundw;(case rel=>refine⟨i+1,d.out,by go_num,?_,a.out⟩;rw[fk,h.out];simp only[m.out,F.out,E.out,t.out,B3,Bool.and_self,if_true,c6]);case measure=>have:=d.out;simp[intOf];omega);. (have bq:¬((k:Int)<(g:Int)):=by omega);have t:=yj o;clear o;go_wp2_with(fail);go_roundw;(case rel=>refine⟨i+1,d.out,by go_num,?_,a.out⟩;rw[fk,h.out];simp only[m.out,F.out,E.out,t.out,decide_false,Bool.and_false,zo,zX,c6]);case measure=>have:=d.out;simp[intOf];omega
  . (obtain rfl:n=i:=by omega);(have bk:¬((n:Int)<(n:Int)):=by omega);have bs:=T.out;rw[bs];go_wp2_with(fail);go_ret;exact⟨rfl,a.out⟩
theorem sign_neg_iff{q:Rat}{s:Int}(h:s=q.num.sign):s<0↔q<0:=by
 have h1:q<0↔q.num<0:=by rw[<-Cd,<-Bx];omega
 rw[h1,h];rcases zb q.num 0 with e|e|e;.rw[yD e];omega
 .rw[e];simp
 .rw[yA e];omega
theorem sign_pos_iff{q:Rat}{s:Int}(h:s=q.num.sign):0<s↔0<q:=by
 have h1:0<q↔0<q.num:=by
  rw[<-Cd];have h2:q<=0↔0<=-q:=by constructor<;>intro h<;>grind
  rw[h2,<-Bx,By];omega
 rw[h1,h];rcases zb q.num 0 with e|e|e;.rw[yD e];omega
 .rw[e];simp
 .rw[yA e];omega
theorem kR{b:Bool}{p q:Prop}[Decidable q](c:b=true↔p)(h:p↔q):Ending.returned (.bool b)=.returned (.bool (decide q)):=cW (by
 by_cases a:q;.rw[zp a];exact c.2 (h.2 a)
 .rw[y0 a];exact Bool.eq_false_iff.2 λe=>a (h.1 (c.1 e)))
section
variable (w:World) (a:DA) (m n k:Nat) (D:Dic) (src:List (Nat×Bool)) (h:DicAt w a m n D src) (hk:Loc w k #[.pointer (some ⟨a.d,0,none⟩)])
include h hk
theorem wE(i:Nat)(hi:i<m):Calls Tryz.prog 112 #[.int .i64 (i:Int),.pointer (some ⟨k,0,none⟩)] w λe w'=>e=.returned (.bool (hz D i))/\Below w.heap.size w w':=by
 obtain⟨r,a⟩:=h.hQ hi;obtain⟨f,⟨d,-,-,-⟩,-,b,-,-⟩:=h.ln i r a;have c:=yj (sign_neg_iff b.sign);have bx:=h.bx;rw[(h.ra (by omega)).1]at bx;obtain⟨q,o,g⟩:=bx;obtain⟨s,p,j⟩:=hk;have n:(i:Int)<(m:Int):=by omega
 have l:(0:Int)<=(i:Int):=yo _;have e:hz D i=decide (r.1<0):=by rw[hz,e2 a]
 rw[e];clear h a b e;go_enter Tryz.func112,Tryz.ntmps112;go_wp2_with(fail);go_ret;exact⟨kR (by simp) c.out,yl _ _⟩
theorem sg(j:Nat)(c:j<n):Calls Tryz.prog 113 #[.int .i64 (j:Int),.pointer (some ⟨k,0,none⟩)] w λe w'=>e=.returned (.bool (hr D j))/\Below w.heap.size w w':=by
 obtain⟨f,⟨d,-,-,-⟩,a⟩:=h.gl.get (j:=j) (by rw[h.len.goal];exact c);have b:=yj (sign_pos_iff a.sign);obtain⟨q,o,g⟩:=h.bx;obtain⟨r,p,i⟩:=hk;have m:(j:Int)<(n:Int):=by omega
 have l:(0:Int)<=(j:Int):=yo _;rw[hr];clear h a;go_enter Tryz.func113,Tryz.ntmps113;go_wp2_with(fail);go_ret;exact⟨kR (by simp) b.out,yl _ _⟩
theorem uz(c r:Nat)(h2:Loc w c #[.int .i64 (r:Int)])(v:r<m)(j:Nat)(u:j<n):Calls Tryz.prog 114 #[.int .i64 (j:Int),.pointer (some ⟨k,0,none⟩),.pointer (some ⟨c,0,none⟩)] w λe w'=>e=.returned (.bool (decide (bJ D r j<0)))/\Below w.heap.size w w':=by
 have bx:=h.bx;rw[(h.ra (by omega)).1]at bx;obtain⟨x,hx⟩:=h.hQ v;obtain⟨g,-,cA,-,d,hl⟩:=h.ln r x hx;obtain⟨f,o,q⟩:=d.get (j:=j) (by rw[hl];exact u);have e:bJ D r j=x.2.getD j 0:=by rw[bJ,e2 hx]
 have s:=yj (sign_neg_iff (by rw[e];exact q.sign):f.s<0↔bJ D r j<0);have l:=yj (And.intro (h.fw (by omega)) d.aY.lt);have t:Hid (∀W,Below w.heap.size w W->W.cell? ⟨k,0,none⟩=some (.pointer (some ⟨a.d,0,none⟩))/\W.cell? ⟨c,0,none⟩=some (.int .i64 (r:Int))/\W.cell? ⟨a.d,1,none⟩=some (.slice (some ⟨a.RB,0,none⟩) m a.rc)/\W.cell? ⟨a.RB,r*5+4,none⟩=some (.slice (some ⟨a.A r,0,none⟩) n (a.ac r))/\W.cell? ⟨a.A r,j*4,none⟩=some (.int .i64 f.s)):=yj λW b=>⟨(hk.ad b).cell 0,(h2.ad b).cell 0,(bx.ad b).cell 1,(b.cell (p:=⟨a.RB,r*5+4,none⟩) l.out.1).trans cA,(b.cell (p:=⟨a.A r,j*4,none⟩) l.out.2).trans o.1⟩;have C:(r:Int)<(m:Int):=by omega
 have B:(0:Int)<=(r:Int):=yo _;have A:(j:Int)<(n:Int):=by omega
 have z:(0:Int)<=(j:Int):=yo _;have y:=yj (yl w.heap.size w);clear h bx hx cA d hl o q e h2 hk;go_enter Tryz.func114,Tryz.ntmps114;go_upto_region 1 with(fail);refine ag.o 15 (S:=λW=>W.cell? ⟨k,0,none⟩=some (.pointer (some ⟨a.d,0,none⟩))/\W.cell? ⟨c,0,none⟩=some (.int .i64 (r:Int))/\W.cell? ⟨a.d,1,none⟩=some (.slice (some ⟨a.RB,0,none⟩) m a.rc)/\W.cell? ⟨a.RB,r*5+4,none⟩=some (.slice (some ⟨a.A r,0,none⟩) n (a.ac r))/\W.cell? ⟨a.A r,j*4,none⟩=some (.int .i64 f.s)) (T:=λ_=>True) (m:=300) rfl (by kernel_rfl) ?_;have i:=yj (Below.drew (yl w.heap.size w));generalize w.drew=E at*;refine ag.pl [.t 0,.t 1,.t 2,.t 3,.t 4,.t 5,.t 6,.t 7,.t 8,.t 9,.t 10,.t 11,.t 12,.t 13,.t 14] ?_;repeat(refine ag.j ?_ (t.out _ i.out) (λ_=>trivial) ?_ ?_;rotate_left;(·intro _ h;go_simp;try with_reducible rfl);try simp only[tidy])
 refine ag.lp ?_;refine ag.stop (by kernel_rfl) ?_ _;go_wp2_with(fail);go_ret;exact⟨kR (by simp) s.out,i.out⟩
theorem tM(c s:Nat)(h2:Loc w c #[.int .i64 (s:Int)])(hs:s<n)(i:Nat)(hi:i<m):Calls Tryz.prog 115 #[.int .i64 (i:Int),.pointer (some ⟨k,0,none⟩),.pointer (some ⟨c,0,none⟩)] w λe w'=>e=.returned (.bool (decide (0<bJ D i s)))/\Below w.heap.size w w':=by
 have bx:=h.bx;rw[(h.ra (by omega)).1]at bx;obtain⟨x,hx⟩:=h.hQ hi;obtain⟨g,-,cA,-,d,hl⟩:=h.ln i x hx;obtain⟨f,q,r⟩:=d.get (j:=s) (by rw[hl];exact hs);have e:bJ D i s=x.2.getD s 0:=by rw[bJ,e2 hx]
 have t:=yj (sign_pos_iff (by rw[e];exact r.sign):0<f.s↔0<bJ D i s);have o:=yj (And.intro (h.fw (by omega)) d.aY.lt);have u:Hid (∀W,Below w.heap.size w W->W.cell? ⟨k,0,none⟩=some (.pointer (some ⟨a.d,0,none⟩))/\W.cell? ⟨c,0,none⟩=some (.int .i64 (s:Int))/\W.cell? ⟨a.d,1,none⟩=some (.slice (some ⟨a.RB,0,none⟩) m a.rc)/\W.cell? ⟨a.RB,i*5+4,none⟩=some (.slice (some ⟨a.A i,0,none⟩) n (a.ac i))/\W.cell? ⟨a.A i,s*4,none⟩=some (.int .i64 f.s)):=yj λW b=>⟨(hk.ad b).cell 0,(h2.ad b).cell 0,(bx.ad b).cell 1,(b.cell (p:=⟨a.RB,i*5+4,none⟩) o.out.1).trans cA,(b.cell (p:=⟨a.A i,s*4,none⟩) o.out.2).trans q.1⟩;have B:(i:Int)<(m:Int):=by omega
 have A:(0:Int)<=(i:Int):=yo _;have z:(s:Int)<(n:Int):=by omega
 have y:(0:Int)<=(s:Int):=yo _;have v:=yj (yl w.heap.size w);clear h bx hx cA d hl q r e h2 hk;go_enter Tryz.func115,Tryz.ntmps115;go_upto_region 1 with(fail);refine ag.o 15 (S:=λW=>W.cell? ⟨k,0,none⟩=some (.pointer (some ⟨a.d,0,none⟩))/\W.cell? ⟨c,0,none⟩=some (.int .i64 (s:Int))/\W.cell? ⟨a.d,1,none⟩=some (.slice (some ⟨a.RB,0,none⟩) m a.rc)/\W.cell? ⟨a.RB,i*5+4,none⟩=some (.slice (some ⟨a.A i,0,none⟩) n (a.ac i))/\W.cell? ⟨a.A i,s*4,none⟩=some (.int .i64 f.s)) (T:=λ_=>True) (m:=300) rfl (by kernel_rfl) ?_;have l:=yj (Below.drew (yl w.heap.size w));generalize w.drew=C at*;refine ag.pl [.t 0,.t 1,.t 2,.t 3,.t 4,.t 5,.t 6,.t 7,.t 8,.t 9,.t 10,.t 11,.t 12,.t 13,.t 14] ?_;repeat(refine ag.j ?_ (u.out _ l.out) (λ_=>trivial) ?_ ?_;rotate_left;(·intro _ h;go_simp;try with_reducible rfl);try simp only[tidy])
 refine ag.lp ?_;refine ag.stop (by kernel_rfl) ?_ _;go_wp2_with(fail);go_ret;exact⟨kR (by simp) t.out,l.out⟩
end
