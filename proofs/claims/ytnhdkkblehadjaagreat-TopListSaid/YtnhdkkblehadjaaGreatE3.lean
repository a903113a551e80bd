/- The engine, parts EngM, EngN, EngO, EngP, EngQ, EngR, EngS, EngT, EngU, EngV, EngW, put together. Conditions: none. -/
import Derived.Test.YtnhdkkblehadjaaGreatE2
import Derived.Deep.LoopGhost
open Array renaming getElem?_eq_some_iff->Qa,getElem?_eq_none->Qb,replicate->Qc,getElem?_eq_getElem->Qd,mem_of_getElem?->Qe,mapM_eq_mapM_toList->Qg,getElem?_append_left->Qh,getD_eq_getD_getElem?->Qi
open Bool renaming and_eq_true->Qj,or_eq_true->Ql,not_eq_true'->Qm,or_eq_false_iff->Qn,true_or->Qo
open Go.Eng.Hp renaming put_ne->Qp,put_le->Qq,put_same->Qr
open List renaming mem_append_left->Qs,mem_append->Qt,mem_cons_of_mem->Qu,mem_cons->Qv,mem_append_right->Qw,all_eq_true->Qx,mem_cons_self->Qy,cons_append->Qz,append_assoc->Q1,mem_map->Q2,mem_filter->Q3,range->Q4,append_of_mem->Q5,mem_range->Q6,any_eq_false->Q7,take_append_drop->Q8,nil_append->Q9,mapM_cons->Xa,length_eq_one_iff->Xb,getElem?_eq_none->Xc,drop_left->Xd
open Nat renaming beq->Xe,beq_refl->Xf,blt->Xg,lt_or_ge->Xh,ble->Xi,le_of_ble_eq_true->Xj,le_succ_of_le->Xk,le_of_not_lt->Xl,eq_of_beq_eq_true->Xm
open Option renaming none->Xn,some->Xo
open Go.Result renaming andThen_ok->Xp
open Go.Sem renaming run_bind->Xq,run_pure->Xr,run_map->Xs
set_option linter.unusedVariables false
set_option maxHeartbeats 8000000
section
namespace Go.Eng
variable{env:Env}{H:Hp}{d:Nat}{o:Oper}{C:Cfg}
def ybn(o:Oper)(g:Gd):List Nat:=(o.op.operands.toList.filterMap fun | .tmp t=>some t|_=>none)++g.map (·.1)
def ydk(d:Nat):List Nat->Bool
 | []=>false
 | x :: l=>Xe x d||ydk d l
theorem ydm{d:Nat}:∀{l:List Nat},ydk d l=true↔d∈l
 | []=>by simp[ydk]
 | x :: l=>by
  simp only[ydk,Ql,Nat.beq_iff,Qv,ydm (l:=l)];exact or_congr eq_comm Iff.rfl
def z71(o:Oper)(g:Gd):Option Tmp->Bool
 | none=>true
 | some d=>!ydk d (ybn o g)
def neD:Option Tmp->Option Tmp->Bool
 | some a,some b=>!Xe a b
 | _,_=>true
def x7b(C:Cfg)(ops:Array Oper)(y x:Nat):Bool :=
 match ops[y]?,ops[x]? with
 | some oy,some ox=>match zl0 ops (ops.size+1) oy,zl0 ops (ops.size+1) ox with
  | some gy,some gx=>z71 ox gx oy.dst&&z71 oy gy ox.dst&&neD oy.dst ox.dst&&(swp (cls C oy) (cls C ox)||x08 (zan C oy) (zan C ox))
  | _,_=>false
 | _,_=>false
section
variable{P:Program}{draw:Bool}
theorem xbe{nf:NF}{g:Gd}{K:Kop}{pr:z1r}(hf:NFG g nf)(h:nf.vc P draw K pr H)(hx:Ex H):nf.vc P draw (λs p H'=>Fg g s/\K s p H') pr H:=by
 cases nf with
 | bad=>exact h
 | pu ob x=>exact yji h λh'=>⟨hf,h'⟩
 | px ls ob x=>exact zvl h λvs h'=>⟨h'.1,hf vs,h'.2⟩
 | rd ls ob x=>exact zvl h λvs h'=>⟨h'.1,hf vs,h'.2⟩
 | ow f =>
  simp only[NF.vc] at h ⊢;cases hff:f pr with
  | none=>simp[hff] at h
  | some y=>simp only[hff] at h ⊢;exact⟨hf pr _ _ hff,h⟩
 | al c x ob=>exact yji h λh' b H1 hb e=>⟨hf b,h' b H1 hb e⟩
 | ag gb x ob=>exact⟨λe b H1 hb e'=>⟨hf b,h.1 e b H1 hb e'⟩,λe=>⟨hf 0,h.2 e⟩⟩
 | cf g0 f args sh =>
  have hf':g=[]/\g0=[]:=hf;obtain⟨rfl,rfl⟩:=hf';exact Fn.mono h λv H' hq=>yji hq λhq=>zvl hq λvs hq=>⟨hq.1,Fg.some,hq.2⟩
 | cg gb g0 f args sh =>
  have hf':g0=g:=hf;subst hf';exact⟨λe=>Fn.mono (h.1 e) λv H' hq=>yji hq λhq=>zvl hq λvs hq=>⟨hq.1,Fg.some,hq.2⟩,λe=>⟨Fg.some,h.2 e⟩⟩
 | ce f args sh =>
  have hf':g=[]:=hf;subst hf';exact Fn.mono h λv H' hq=>zvl hq λvs hq=>⟨hq.1,Fg.some,hq.2⟩
 | cy l args sh =>
  have hf':g=[]:=hf;subst hf';exact FnY.mono h λv H' hq=>zvl hq λvs hq=>⟨hq.1,Fg.some,hq.2⟩
 | cv F args sh =>
  have hf':g=[]:=hf;subst hf';obtain⟨f,first,cap,hF,hc,h⟩:=h;exact⟨f,first,cap,hF,hc,Fn.mono h λv H' hq=>yji hq λhq=>zvl hq λvs hq=>⟨hq.1,Fg.some,hq.2⟩⟩
 | ef s sh =>
  have hf':g=[]:=hf;subst hf';intro w hv;obtain⟨v,w',H',hr,ht,hq⟩:=h w hv;exact⟨v,w',H',hr,ht,zvl hq λvs hq=>⟨hq.1,Fg.some,hq.2⟩⟩
 | st ad vs=>exact⟨h.1,λH1 e=>⟨Fg.none,h.2 H1 e⟩⟩
end
theorem put_put{e:Nat}{x y:Sl}(hne:d≠e)(hx:∀g v,x=some (g,v)->ye1 e g=false)(hy:∀g v,y=some (g,v)->ye1 d g=false):(env.put d x).put e y=(env.put e y).put d x:=by
 funext t;by_cases h1:t=d
 ·subst h1;rw[Env.put_at,Env.put_ne hne,Env.put_at];cases hxx:x with
  | none=>rfl
  | some z=>obtain⟨g,v⟩:=z;simp only[hx g v hxx]
 ·by_cases h2:t=e
  ·subst h2;rw[Env.put_at,Env.put_ne h1,Env.put_at];cases hyy:y with
   | none=>rfl
   | some z=>obtain⟨g,v⟩:=z;simp only[hy g v hyy]
  ·rw[Env.put_ne h2,Env.put_ne h1,Env.put_ne h1,Env.put_ne h2];cases env t with
   | none=>rfl
   | some z =>
    obtain⟨g,v⟩:=z;simp only;cases h3:ye1 d g <;> cases h4:ye1 e g <;> simp[h3,h4]
theorem yt5{a b:Option Tmp}{x y:Sl}{ga gb:Gd}(hne:neD a b=true)(hx:Fg ga x)(hy:Fg gb y)(ha:∀e,b=some e->ye1 e ga=false)(hb:∀d,a=some d->ye1 d gb=false) :
  yt3 (yt3 env a x) b y=yt3 (yt3 env b y) a x:=by
 cases a with
 | none=>rfl
 | some d =>
  cases b with
  | none=>rfl
  | some e =>
   have hde:d≠e:=λh=>by subst h;simp[neD] at hne
   exact put_put hde (λg v h=>by rw[hx g v h];exact ha e rfl) (λg v h=>by rw[hy g v h];exact hb d rfl)
theorem yg2{a b:Option Tmp}(h:neD a b=true):neD b a=true:=by
 cases a with
 | none=>cases b <;> rfl
 | some d =>
  cases b with
  | none=>rfl
  | some e =>
   simp only[neD,Qm] at h ⊢;cases hb:Xe e d with
   | false=>rfl
   | true=>rw[(Nat.beq_iff _ _).1 hb,Xf] at h;cases h
theorem ye3{g:Gd}(h:ydk d (ybn o g)=false):ye1 d g=false/\∀x∈o.op.operands,x≠.tmp d:=by
 have hn:d∉ybn o g:=λhm=>by rw[ydm.2 hm] at h;cases h
 refine⟨?_,λx hx e=>hn ?_⟩
 ·cases hm:ye1 d g with
  | false=>rfl
  | true =>
   obtain⟨p,hp,e⟩:=ye2.1 hm;exact absurd (Qw _ (Q2.2 ⟨p,hp,e⟩)) hn
 ·subst e;exact Qs _ (List.mem_filterMap.2 ⟨.tmp d,by simpa using hx,rfl⟩)
theorem ykl{dst:Option Tmp}{s:Sl}{g:Gd}{gb:Bool}(h:z71 o g dst=true):ykj C (yt3 env dst s) g gb o=ykj C env g gb o/\(yt3 env dst s).gb g=env.gb g:=by
 cases dst with
 | none=>exact⟨rfl,rfl⟩
 | some d =>
  simp only[z71,Qm] at h;obtain⟨hm,hx⟩:=ye3 h;refine⟨ykk (λx hxm=>zuq hm (hx x hxm)) λtc a b ho w=>?_,y2d hm⟩;have htc:Operand.tmp tc≠.tmp d:=hx (.tmp tc) (by simp[ho,Op.operands]);have hm':ye1 d ((tc,w) :: g)=false:=by
   simp only[ye1,Qn];refine⟨?_,hm⟩;cases hb:Xe tc d with
   | false=>rfl
   | true=>exact absurd (by rw[(Nat.beq_iff _ _).1 hb]) htc
  exact⟨zuq hm' (hx a (by simp[ho,Op.operands])),zuq hm' (hx b (by simp[ho,Op.operands]))⟩
theorem x5w{ops:Array Oper}{y x:Nat}(hs:x7b C ops y x=true){k:St->Hp->Prop}{st:St}(hx:Ex H)(h:x5r C true ops y (x5r C true ops x k) st H) :
  x5r C true ops x (x5r C true ops y k) st H:=by
 unfold x7b at hs;cases hoy:ops[y]? with
 | none=>simp[hoy] at hs
 | some oy =>
  cases hox:ops[x]? with
  | none=>simp[hoy,hox] at hs
  | some ox =>
   cases hcy:zl0 ops (ops.size+1) oy with
   | none=>simp[hoy,hox,hcy] at hs
   | some gy =>
    cases hcx:zl0 ops (ops.size+1) ox with
    | none=>simp[hoy,hox,hcy,hcx] at hs
    | some gx =>
     simp only[hoy,hox,hcy,hcx,Qj] at hs;obtain⟨⟨⟨h1,h2⟩,h3⟩,h4⟩:=hs;simp only[x5r,hoy,hox,hcy,hcx] at h ⊢;cases hgy:st.env.gb gy with
     | none=>simp[hgy] at h
     | some by_ =>
      cases hdy:dOk C.n gy oy.dst with
      | false=>simp[hgy,hdy] at h
      | true =>
       simp only[hgy,hdy] at h;have hinx:∀s,ykj C (yt3 st.env oy.dst s) gx=ykj C (yt3 st.env oy.dst s) gx:=λ_=>rfl
       have hgx0:∀s,(yt3 st.env oy.dst s).gb gx=st.env.gb gx:=λs=>(ykl (C:=C) (gb:=true) (s:=s) (env:=st.env) h1).2
       cases hgx:st.env.gb gx with
       | none =>
        exfalso;obtain⟨s,p,H',_,h'⟩:=xbf h hx;simp only[hgx0 s,hgx] at h'
       | some bx =>
        cases hdx:dOk C.n gx ox.dst with
        | false =>
         exfalso;obtain⟨s,p,H',_,h'⟩:=xbf h hx;simp only[hgx0 s,hgx,hdx] at h'
        | true =>
         simp only;have hstep:=xbh (K':=λs p H'=>NF.vc C.P true (λsx pr H'=>Fg gy s/\Fg gx sx/\k ⟨yt3 (yt3 st.env oy.dst s) ox.dst sx,pr⟩ H') p H' (ykj C st.env gx bx ox)) (xbe (yh7) h hx) hx
          (λs p H' hx' h'=>by
           obtain⟨hfs,h'⟩:=h';simp only[hgx0 s,hgx,hdx] at h';rw[(ykl (C:=C) (gb:=bx) (s:=s) (env:=st.env) h1).1] at h';exact xbh (xbe yh7 h' hx') hx' λ_ _ _ _ h''=>⟨hfs,h''⟩)
         have hcomm:z0k C.P (ykj C st.env gy by_ oy) (ykj C st.env gx bx ox):=by
          rcases Ql _ _▸h4 with h4|h4
          ·exact zr6 (P:=C.P) (yha (C:=C) (env:=st.env) (g:=gy) (gb:=by_) (o:=oy)) (yha (C:=C) (env:=st.env) (g:=gx) (gb:=bx) (o:=ox)) h4
            (λd hd he=>by rw[hd,he] at h3;simp[neD] at h3)
          ·exact zrg (P:=C.P) (yha (C:=C) (env:=st.env) (g:=gy) (gb:=by_) (o:=oy)) (yha (C:=C) (env:=st.env) (g:=gx) (gb:=bx) (o:=ox)) h4
         have hsw:=hcomm _ _ _ hx hstep;have hgy0:∀s,(yt3 st.env ox.dst s).gb gy=st.env.gb gy:=λs=>(ykl (C:=C) (gb:=true) (s:=s) (env:=st.env) h2).2
         have hme:∀(o:Oper)(g:Gd)(dst:Option Tmp),z71 o g dst=true->∀d,dst=some d->ye1 d g=false:=λo g dst h d hd=>by
          subst hd;simp only[z71,Qm] at h;exact(ye3 h).1
         refine xbh hsw hx λs p H' hx' h'=>?_
         simp only[hgy0 s,hgy];rw[(ykl (C:=C) (gb:=by_) (s:=s) (env:=st.env) h2).1];refine xbh h' hx' λs' p' H'' _ h''=>?_
         obtain⟨f1,f2,hk⟩:=h'';rw[yt5 (ga:=gx) (gb:=gy) (yg2 h3) f2 f1 (hme ox gx oy.dst h1) (hme oy gy ox.dst h2)];exact hk
end Go.Eng
namespace Go.Eng
variable{ops:Array Oper}{C:Cfg}{k k':St->Hp->Prop}{st:St}{H H0:Hp}{ds rem l Zw:List Nat}{ro:Option Nat}{w0 w:World}{j n x d:Nat}
def yay(C:Cfg)(draw:Bool)(ops:Array Oper):List Nat->(St->Hp->Prop)->St->Hp->Prop
 | [],k=>k
 | i :: l,k=>x5r C draw ops i (yay C draw ops l k)
theorem x5s{draw:Bool}{i:Nat}(h:x5r C draw ops i k st H)(hx:Ex H)(hk:∀st H,Ex H->k st H->k' st H):x5r C draw ops i k' st H:=by
 unfold x5r at *
 cases ho:ops[i]? with
 | none=>simp[ho] at h
 | some o =>
  simp only[ho] at h ⊢;cases hc:zl0 ops (ops.size+1) o with
  | none=>simp[hc] at h
  | some g =>
   simp only[hc] at h ⊢;cases hb:st.env.gb g with
   | none=>simp[hb] at h
   | some gb =>
    cases hd:dOk C.n g o.dst with
    | false=>simp[hb,hd] at h
    | true =>
     simp only[hb,hd] at h ⊢;exact xbh h hx λ_ _ _ hx' h'=>hk _ _ hx' h'
theorem zbc{C:Cfg}{ops:Array Oper}{x:Nat}{zs:List Nat}{k:St->Hp->Prop}:∀{ys:List Nat}{st:St}{H:Hp},(∀y∈ys,x7b C ops y x=true)->Ex H ->
  yay C true ops (ys++x :: zs) k st H->x5r C true ops x (yay C true ops (ys++zs) k) st H
 | [],_,_,_,_,h=>h
 | y :: ys,_,_,hs,hx,h =>
  x5w (hs y (Qy ..)) hx (x5s h hx λ_ _ hx' h'=>zbc (λz hz=>hs z (Qu _ hz)) hx' h')
theorem yb3{C:Cfg}{draw:Bool}{ops:Array Oper}{k:St->Hp->Prop}{ds:List Nat}{ro:Option Nat}{H0:Hp}{w0:World}{Q:Exit->Act->World->Prop}(hN:z1i C.P)(hq:∀a w,Kt C.n ds w0 H0 k a w->Q .normal a w) :
  ∀(l:List Nat)(st:St)(H:Hp)(a:Act)(w:World),yay C draw ops l k st H->Sim C.n ds w0 H0 st H a w->wpOpsIn (Fz ro) 0 C.P ops Q l a w
 | [],st,H,a,w,h,hs=>hq a w ⟨st,H,hs,h⟩
 | i :: l,st,H,a,w,h,hs=>by
  rw[wpOpsIn_cons];exact wpOpIn_mono (λa w ⟨st,H,hs,h⟩=>yb3 hN hq l st H a w h hs) (x5v hN h hs)
def z4p(ops:Array Oper)(i:Nat):List Nat :=
 match ops[i]? with
 | some o=>(o.after.toList.filter λe=>Region.binds .any e).map (·.on)
 | none=>[]
def y2k(ops:Array Oper):Nat->Nat->Nat->Bool
 | 0,_,_=>false
 | f+1,i,j=>match ops[j]? with
  | some o=>match o.guard with
   | some (g,_)=>ydk g (z4p ops j)&&(ydk i (z4p ops g)||y2k ops f i g)
   | none=>false
  | none=>false
theorem y2l{ops:Array Oper}{rem:List Nat}(hcl:∀e,e∉rem->∀d∈z4p ops e,d∉rem):∀(f i j:Nat),(∀d∈z4p ops j,d∉rem)->y2k ops f i j=true->i∉rem
 | 0,_,_,_,h=>by simp[y2k] at h
 | f+1,i,j,hj,h=>by
  unfold y2k at h;split at h
  ·split at h
   ·rename_i g _ _;simp only[Qj,Ql] at h;have hg:=hj g (ydm.1 h.1);rcases h.2 with h2|h2
    ·exact hcl g hg i (ydm.1 h2)
    ·exact y2l hcl f i g (hcl g hg) h2
   ·cases h
  ·cases h
def zt0(ops:Array Oper)(i:Nat):Nat->Nat->List Nat->List Nat
 | 0,_,l=>l
 | n+1,k,l=>zt0 ops i n (k+1) (match (z4p ops k).any (λe=>Xe e i||ydk e l) with
  | true=>k :: l
  | false=>l)
theorem zt1{ops:Array Oper}{rem:List Nat}{i:Nat}(hcl:∀e,e∉rem->∀d∈z4p ops e,d∉rem):∀(n k:Nat)(l:List Nat),(∀e∈l,(∀d∈z4p ops e,d∉rem)->i∉rem) ->
  ∀e∈zt0 ops i n k l,(∀d∈z4p ops e,d∉rem)->i∉rem
 | 0,_,_,hl=>hl
 | n+1,k,l,hl=>by
  refine zt1 hcl n (k+1) _ ?_;split
  ·rename_i ha;intro e he hd;rcases Qv.1 he with rfl|he
   ·obtain⟨x,hx,h⟩:=List.any_eq_true.1 ha;rcases Ql _ _▸h with h|h
    ·have:x=i:=Xm h;subst this;exact hd _ hx
    ·exact hl x (ydm.1 h) (hcl x (hd x hx))
   ·exact hl e he hd
  ·exact hl
def z41(ops:Array Oper)(_ i j:Nat):Bool:=ydk j (zt0 ops i (j-i) (i+1) [])
theorem z42(hcl:∀e,e∉rem->∀d∈z4p ops e,d∉rem)(f i j:Nat)(hj:∀d∈z4p ops j,d∉rem)(h:z41 ops f i j=true):i∉rem :=
 zt1 hcl _ _ [] (λe he=>by cases he) j (ydm.1 h) hj
def zby(C:Cfg)(ops:Array Oper):List Nat->Bool
 | []=>true
 | i :: l=>Xg i ops.size&&!ydk i l&&(z4p ops i).all (λe=>Xg e ops.size&&!ydk e (i :: l)) &&
  l.all (λj=>ydk i (z4p ops j)||x7b C ops i j||y2k ops 40 i j||z41 ops 6 i j)&&zby C ops l
theorem zap{a b:Nat}:Xg a b=true↔a<b:=⟨λh=>Xj h,λh=>Nat.ble_eq_true_of_le h⟩
theorem zc2{C:Cfg}{ops:Array Oper}{x:Nat}{zs:List Nat}:∀{ys:List Nat},zby C ops (ys++x :: zs)=true->zby C ops (ys++zs)=true/\(∀y∈ys,((ydk y (z4p ops x)=true\/x7b C ops y x=true)\/y2k ops 40 y x=true)\/z41 ops 6 y x=true)/\x∉ys/\x∉zs
 | [],h=>by
  simp only[Q9,zby,Qj] at h;refine⟨h.2,by simp,by simp,λhm=>?_⟩;have:=h.1.1.1.2;rw[ydm.2 hm] at this;cases this
 | y :: ys,h=>by
  simp only[Qz,zby,Qj,Qx,Qm,Ql] at h;obtain⟨⟨⟨⟨h1,h2⟩,h3⟩,h4⟩,h5⟩:=h;obtain⟨i1,i2,i3,i4⟩:=zc2 h5;have hyn:∀{l:List Nat},ydk y l=false->y∉l:=λh hm=>by rw[ydm.2 hm] at h;cases h
  have hny:∀{e:Nat}{l:List Nat},e∉l->ydk e l=false:=λ{e l} h=>by
   cases hb:ydk e l with
   | false=>rfl
   | true=>exact absurd (ydm.1 hb) h
  refine⟨?_,λz hz=>?_,λhm=>?_,i4⟩
  ·simp only[Qz,zby,Qj,Qx,Qm,Ql];refine⟨⟨⟨⟨h1,hny λhm=>hyn h2 ?_⟩,λe he=>⟨(h3 e he).1,hny λhm=>?_⟩⟩,λj hj=>h4 j ?_⟩,i1⟩
   ·rcases Qt.1 hm with hm|hm
    ·exact Qs _ hm
    ·exact Qw _ (Qu _ hm)
   ·have:=(h3 e he).2;rw[ydm.2] at this
    ·cases this
    ·rcases Qv.1 hm with rfl|hm
     ·exact Qy ..
     ·rcases Qt.1 hm with hm|hm
      ·exact Qu _ (Qs _ hm)
      ·exact Qu _ (Qw _ (Qu _ hm))
   ·rcases Qt.1 hj with hj|hj
    ·exact Qs _ hj
    ·exact Qw _ (Qu _ hj)
  ·rcases Qv.1 hz with rfl|hz
   ·exact h4 x (Qw _ (Qy ..))
   ·exact i2 z hz
  ·rcases Qv.1 hm with rfl|hm
   ·exact hyn h2 (Qw _ (Qy ..))
   ·exact i3 hm
theorem ztl{Q:Exit->Act->World->Prop}(hN:z1i C.P)(hq:∀a w,Kt C.n ds w0 H0 k a w->Q .normal a w) :
  ∀(fuel:Nat)(rem:List Nat)(listed:Array Bool)(st:St)(H:Hp)(a:Act)(w:World),(∀e,e∉rem->∀d∈z4p ops e,d∉rem)->zby C ops rem=true->listed.size=ops.size->(∀i,i<ops.size->(listed.getD i true=false↔i∈rem))->rem.length<=fuel ->
   yay C true ops rem k st H->Sim C.n ds w0 H0 st H a w->wpAnyIn (Fz ro) 0 C.P .any ops Q fuel listed a w:=by
 intro fuel;induction fuel with
 | zero =>
  intro rem listed st H a w _ _ hsz hl hf h hs;have:rem=[]:=List.length_eq_zero_iff.1 (by omega);subst this;refine⟨?_,hq a w ⟨st,H,hs,h⟩⟩;rw[List.eq_nil_iff_forall_not_mem];intro j hj;obtain⟨h0,o,ho,_⟩:=mem_ready.1 hj;have:=(hl j (Qa.1 ho).1).1 h0;cases this
 | succ fuel ih =>
  intro rem listed st H a w hcl hc hsz hl hf h hs;have hlt:∀e,e<ops.size->e∉rem->listed.getD e false=true:=λe he hn=>by
   have h1:¬ listed.getD e true=false:=λh'=>hn ((hl e he).1 h')
   have h2:e<listed.size:=by rw[hsz];exact he
   simpa[h2] using h1
  refine⟨λh0=>?_,λj hj=>?_⟩
  ·cases rem with
   | nil=>exact hq a w ⟨st,H,hs,h⟩
   | cons i l =>
    exfalso;simp only[zby,Qj,Qx,Qm] at hc;obtain⟨⟨⟨⟨h1,_⟩,h3⟩,_⟩,_⟩:=hc;have hi:=zap.1 h1;have hr:i∈Region.ready .any ops listed:=by
     refine mem_ready.2 ⟨(hl i hi).2 (Qy ..),ops[i],by simp[hi],λe he hb=>?_⟩;have hm:e.on∈z4p ops i:=by
      unfold z4p;simp only[Qd hi];exact Q2.2 ⟨e,Q3.2 ⟨by simpa using he,hb⟩,rfl⟩
     obtain⟨h5,h6⟩:=h3 _ hm;exact hlt _ (zap.1 h5) λhmm=>by rw[ydm.2 hmm] at h6;cases h6
    rw[h0] at hr;cases hr
  ·obtain⟨h0,o,ho,hall⟩:=mem_ready.1 hj;have hjlt:=(Qa.1 ho).1;have hjr:=(hl j hjlt).1 h0;obtain⟨ys,zs,rfl⟩:=Q5 hjr;obtain⟨c1,c2,c3,c4⟩:=zc2 hc;have haf:∀d∈z4p ops j,d∉ys++j :: zs:=λd hd hdr=>by
    unfold z4p at hd;simp only[ho] at hd;obtain⟨e,he,rfl⟩:=Q2.1 hd;obtain⟨he1,he2⟩:=Q3.1 he;have h1:=hall e (by simpa using he1) he2;have h2:e.on<listed.size:=by
     rcases Xh e.on listed.size with h|h
     ·exact h
     ·simp[Qb h] at h1
    have h3:=(hl e.on (by rw[← hsz];exact h2)).2 hdr;simp[h2] at h1 h3;rw[h1] at h3;cases h3
   have hsw:∀y∈ys,x7b C ops y j=true:=λy hy=>by
    rcases c2 y hy with((h'|h')|h')|h'
    ·exact absurd (Qs _ hy) (haf y (ydm.1 h'))
    ·exact h'
    ·exact absurd (Qs _ hy) (y2l hcl 40 y j haf h')
    ·exact absurd (Qs _ hy) (z42 hcl 6 y j haf h')
   have hcl':∀e,e∉ys++zs->∀d∈z4p ops e,d∉ys++zs:=λe he d hd hdr=>by
    have hup:∀{d},d∈ys++zs->d∈ys++j :: zs:=λh=>by
     rcases Qt.1 h with h|h
     ·exact Qs _ h
     ·exact Qw _ (Qu _ h)
    by_cases hej:e=j
    ·subst hej;exact haf d hd (hup hdr)
    ·refine hcl e (λhm=>he ?_) d hd (hup hdr);rcases Qt.1 hm with h|h
     ·exact Qs _ h
     ·rcases Qv.1 h with h|h
      ·exact absurd h hej
      ·exact Qw _ h
   have hx:Ex H:=by obtain⟨ids,_,_,hT⟩:=hs;exact⟨w,hT.view⟩
   have hb:=zbc hsw hx h;refine wpOpIn_mono (λa' w' ⟨st',H',hs',h'⟩=>ih (ys++zs) (listed.setIfInBounds j true) st' H' a' w' hcl' c1 (by simp[hsz]) (λi hi=>?_) (by simp at hf ⊢;omega) h' hs') (x5v hN hb hs);by_cases hij:j=i
   ·subst hij;have h2:j<listed.size:=by rw[hsz];exact hi
    constructor
    ·intro h';simp[h2] at h'
    ·intro h';rcases Qt.1 h' with h'|h'
     ·exact absurd h' c3
     ·exact absurd h' c4
   ·rw[getD_set_ne true hij,hl i hi];constructor
    ·intro h';rcases Qt.1 h' with h'|h'
     ·exact Qs _ h'
     ·rcases Qv.1 h' with rfl|h'
      ·exact absurd rfl hij
      ·exact Qw _ h'
    ·intro h';rcases Qt.1 h' with h'|h'
     ·exact Qs _ h'
     ·exact Qw _ (Qu _ h')
def ypc(C:Cfg)(ops:Array Oper)(l:List Nat):Bool:=Xe l.length ops.size&&(Q4 ops.size).all (λi=>ydk i l)&&zby C ops l
theorem ywy{Q:Exit->Act->World->Prop}{a:Act}{id:Nat}(hN:z1i C.P)(hM:C.P.follows .mixedOrders=true)
  (hq:∀a w,Kt C.n ds w0 H0 k a w->Q .normal a w) (hl:ypc C ops l=true) (h:yay C true ops l k st H) (hs:Sim C.n ds w0 H0 st H a w):(Code.region id ops true).wpIn (Fz ro) 0 C.P Q a w:=by
 refine wpIn_region_any hM ?_;simp only[ypc,Qj,Nat.beq_iff] at hl;obtain⟨⟨hlen,hall⟩,hc⟩:=hl;have hmem:∀i,i<ops.size->i∈l:=λi hi=>ydm.1 (Qx.1 hall i (Q6.2 hi))
 have hs':Sim C.n ds w0 H0 st H a { w with drawn:=w.drawn+1 }:=by
  obtain⟨ids,hE,hP,hT⟩:=hs;exact⟨ids,hE,⟨hP.blk,hP.hid,hP.low,hP.inj,hP.dfs⟩,⟨hT.view,hT.frame,hT.fresh,hT.size,hT.os,hT.tape,hT.output,Xk hT.drawn⟩⟩
 refine ztl hN hq ops.size l (Qc ops.size false) st H a _ (λe he d hd _=>?_) hc (by simp) (λi hi=>⟨λ_=>hmem i hi,λ_=>by simp[hi]⟩) (by omega) h hs';unfold z4p at hd;rw[Qb (Xl λh=>he (hmem e h))] at hd;cases hd
def zbz(C:Cfg)(ops:Array Oper)(x d:Nat):List Nat->Bool
 | []=>true
 | i :: l=>Xg i ops.size&&!ydk i l&&(z4p ops i).all (λe=>Xg e ops.size&&!ydk e (i :: l)) &&
  l.all (λj=>ydk i (z4p ops j)||x7b C ops i j||y2k ops 40 i j||z41 ops 6 i j||(Xe i x&&Xe j d))&&zbz C ops x d l
theorem zc0{C:Cfg}{ops:Array Oper}{x d:Nat}:∀{l:List Nat},zbz C ops x d l=true->(x∉l\/d∉l)->zby C ops l=true
 | [],_,_=>rfl
 | i :: l,h,hn=>by
  simp only[zbz,Qj,Qx,Ql,Nat.beq_iff] at h;obtain⟨⟨⟨⟨h1,h2⟩,h3⟩,h4⟩,h5⟩:=h;have ih:=zc0 h5 (by
   rcases hn with hn|hn
   ·exact .inl λhm=>hn (Qu _ hm)
   ·exact .inr λhm=>hn (Qu _ hm))
  simp only[zby,Qj,Qx,Ql];refine⟨⟨⟨⟨h1,h2⟩,h3⟩,λj hj=>?_⟩,ih⟩;rcases h4 j hj with h|⟨rfl,rfl⟩
  ·exact h
  ·rcases hn with hn|hn
   ·exact absurd (Qy ..) hn
   ·exact absurd (Qu _ hj) hn
theorem zc1{C:Cfg}{ops:Array Oper}{p q x:Nat}{zs:List Nat}:∀{ys:List Nat},zbz C ops p q (ys++x :: zs)=true->zbz C ops p q (ys++zs)=true/\(∀y∈ys,(((ydk y (z4p ops x)=true\/x7b C ops y x=true)\/y2k ops 40 y x=true)\/z41 ops 6 y x=true)\/(y=p/\x=q))/\x∉ys/\x∉zs
 | [],h=>by
  simp only[Q9,zbz,Qj] at h;refine⟨h.2,by simp,by simp,λhm=>?_⟩;have:=h.1.1.1.2;rw[ydm.2 hm] at this;cases this
 | y :: ys,h=>by
  simp only[Qz,zbz,Qj,Qx,Qm,Ql,Nat.beq_iff] at h;obtain⟨⟨⟨⟨h1,h2⟩,h3⟩,h4⟩,h5⟩:=h;obtain⟨i1,i2,i3,i4⟩:=zc1 h5;have hyn:∀{l:List Nat},ydk y l=false->y∉l:=λh hm=>by rw[ydm.2 hm] at h;cases h
  have hny:∀{e:Nat}{l:List Nat},e∉l->ydk e l=false:=λ{e l} h=>by
   cases hb:ydk e l with
   | false=>rfl
   | true=>exact absurd (ydm.1 hb) h
  refine⟨?_,λz hz=>?_,λhm=>?_,i4⟩
  ·simp only[Qz,zbz,Qj,Qx,Qm,Ql,Nat.beq_iff];refine⟨⟨⟨⟨h1,hny λhm=>hyn h2 ?_⟩,λe he=>⟨(h3 e he).1,hny λhm=>?_⟩⟩,λj hj=>h4 j ?_⟩,i1⟩
   ·rcases Qt.1 hm with hm|hm
    ·exact Qs _ hm
    ·exact Qw _ (Qu _ hm)
   ·have:=(h3 e he).2;rw[ydm.2] at this
    ·cases this
    ·rcases Qv.1 hm with rfl|hm
     ·exact Qy ..
     ·rcases Qt.1 hm with hm|hm
      ·exact Qu _ (Qs _ hm)
      ·exact Qu _ (Qw _ (Qu _ hm))
   ·rcases Qt.1 hj with hj|hj
    ·exact Qs _ hj
    ·exact Qw _ (Qu _ hj)
  ·rcases Qv.1 hz with rfl|hz
   ·exact h4 x (Qw _ (Qy ..))
   ·exact i2 z hz
  ·rcases Qv.1 hm with rfl|hm
   ·exact hyn h2 (Qw _ (Qy ..))
   ·exact i3 hm
theorem ysq{p q:Nat}(hx:Ex H)(hcl:∀e,e∉rem->∀d∈z4p ops e,d∉rem)(hc:zbz C ops p q rem=true)(haf:∀d∈z4p ops j,d∉rem)(hjr:j∈rem)(hne:j≠q)
  (h:yay C true ops rem k st H):∃ys zs,rem=ys++j :: zs/\zbz C ops p q (ys++zs)=true/\j∉ys/\j∉zs/\x5r C true ops j (yay C true ops (ys++zs) k) st H:=by
 obtain⟨ys,zs,rfl⟩:=Q5 hjr;obtain⟨c1,c2,c3,c4⟩:=zc1 hc;have hsw:∀y∈ys,x7b C ops y j=true:=λy hy=>by
  rcases c2 y hy with(((h'|h')|h')|h')|h'
  ·exact absurd (Qs _ hy) (haf y (ydm.1 h'))
  ·exact h'
  ·exact absurd (Qs _ hy) (y2l hcl 40 y j haf h')
  ·exact absurd (Qs _ hy) (z42 hcl 6 y j haf h')
  ·exact absurd h'.2 hne
 exact⟨ys,zs,rfl,c1,c3,c4,zbc hsw hx h⟩
theorem yb4{listed:Array Bool}{rem':List Nat}(hsz:listed.size=n)(hjn:j<n)(hl:∀i,i<n->(listed.getD i true=false↔i∈rem))(hm:∀i,i∈rem'↔i∈rem/\i≠j) :
  ∀i,i<n->((listed.setIfInBounds j true).getD i true=false↔i∈rem'):=λi hi=>by
 by_cases hij:j=i
 ·subst hij;have h2:j<listed.size:=by rw[hsz];exact hi
  rw[hm];constructor
  ·intro h';simp[h2] at h'
  ·intro h';exact absurd rfl h'.2
 ·rw[getD_set_ne true hij,hl i hi,hm];exact⟨λh=>⟨h,λe=>hij e.symm⟩,λh=>h.1⟩
theorem ydz{ys zs:List Nat}(c3:j∉ys)(c4:j∉zs)(i:Nat):i∈ys++zs↔i∈ys++j :: zs/\i≠j:=by
 simp only[Qt,Qv];constructor
 ·rintro(h|h)
  ·exact⟨.inl h,λe=>c3 (e▸h)⟩
  ·exact⟨.inr (.inr h),λe=>c4 (e▸h)⟩
 ·rintro⟨h|h|h,hn⟩
  ·exact .inl h
  ·exact absurd h hn
  ·exact .inr h
theorem yaz{C:Cfg}{draw:Bool}{ops:Array Oper}{k:St->Hp->Prop}:∀(l m:List Nat),yay C draw ops (l++m) k=yay C draw ops l (yay C draw ops m k)
 | [],_=>rfl
 | i :: l,m=>by
  show x5r C draw ops i (yay C draw ops (l++m) k)=x5r C draw ops i (yay C draw ops l (yay C draw ops m k));rw[yaz l m]
theorem yb0{C:Cfg}{draw:Bool}{ops:Array Oper}{k k':St->Hp->Prop}(hk:∀st H,Ex H->k st H->k' st H):∀(l:List Nat){st:St}{H:Hp},Ex H->yay C draw ops l k st H->yay C draw ops l k' st H
 | [],_,_,hx,h=>hk _ _ hx h
 | _ :: l,_,_,hx,h=>x5s h hx λ_ _ hx' h'=>yb0 hk l hx' h'
def waits(ops:Array Oper)(x d j:Nat):Bool:=ydk x (z4p ops j)||ydk d (z4p ops j)||z41 ops 6 x j||z41 ops 6 d j
theorem ztm{Q:Exit->Act->World->Prop}(hxd:x≠d)(hN:z1i C.P)(hq:∀a w,Kt C.n ds w0 H0 k a w->Q .normal a w)(hw:∀j∈Zw,waits ops x d j=true) :
  ∀(fuel:Nat)(pre:List Nat)(listed:Array Bool)(st:St)(H:Hp)(a:Act)(w:World),(∀e,e∉pre++x :: d :: Zw->∀f∈z4p ops e,f∉pre++x :: d :: Zw)->zbz C ops x d (pre++x :: d :: Zw)=true->zbz C ops d x (pre++d :: x :: Zw)=true->listed.size=ops.size ->
   (∀i,i<ops.size->(listed.getD i true=false↔i∈pre++x :: d :: Zw))->(pre++x :: d :: Zw).length<=fuel ->
   yay C true ops pre (λst H=>yay C true ops (x :: d :: Zw) k st H/\yay C true ops (d :: x :: Zw) k st H) st H->Sim C.n ds w0 H0 st H a w->wpAnyIn (Fz ro) 0 C.P .any ops Q fuel listed a w:=by
 intro fuel;induction fuel with
 | zero =>
  intro pre listed st H a w _ _ _ _ _ hf _ _;simp at hf
 | succ fuel ih =>
  intro pre listed st H a w hcl hc1 hc2 hsz hl hf h hs;have hmm:∀i,i∈pre++x :: d :: Zw↔i∈pre++d :: x :: Zw:=λi=>by
   simp only[Qt,Qv];constructor
   ·rintro(h|h|h|h)
    ·exact .inl h
    ·exact .inr (.inr (.inl h))
    ·exact .inr (.inl h)
    ·exact .inr (.inr (.inr h))
   ·rintro(h|h|h|h)
    ·exact .inl h
    ·exact .inr (.inr (.inl h))
    ·exact .inr (.inl h)
    ·exact .inr (.inr (.inr h))
  have hcl2:∀e,e∉pre++d :: x :: Zw->∀f∈z4p ops e,f∉pre++d :: x :: Zw:=λe he f hf' hdr=>hcl e (λh=>he ((hmm e).1 h)) f hf' ((hmm f).2 hdr)
  have hx:Ex H:=by obtain⟨ids,_,_,hT⟩:=hs;exact⟨w,hT.view⟩
  refine⟨λh0=>?_,λj hj=>?_⟩
  ·exfalso;have hlt:∀e,e<ops.size->e∉pre++x :: d :: Zw->listed.getD e false=true:=λe he hn=>by
    have h1:¬ listed.getD e true=false:=λh'=>hn ((hl e he).1 h')
    have h2:e<listed.size:=by rw[hsz];exact he
    simpa[h2] using h1
   have key:∀(i:Nat)(l:List Nat),pre++x :: d :: Zw=i :: l->False:=λi l e=>by
    rw[e] at hc1 hlt hl;simp only[zbz,Qj,Qx,Qm] at hc1;obtain⟨⟨⟨⟨g1,_⟩,g3⟩,_⟩,_⟩:=hc1;have hi:=zap.1 g1;have hr:i∈Region.ready .any ops listed:=by
     refine mem_ready.2 ⟨(hl i hi).2 (Qy ..),ops[i],by simp[hi],λe he hb=>?_⟩;have hm:e.on∈z4p ops i:=by
      unfold z4p;simp only[Qd hi];exact Q2.2 ⟨e,Q3.2 ⟨by simpa using he,hb⟩,rfl⟩
     obtain⟨h5,h6⟩:=g3 _ hm;exact hlt _ (zap.1 h5) λhmm=>by rw[ydm.2 hmm] at h6;cases h6
    rw[h0] at hr;cases hr
   cases pre with
   | nil=>exact key x (d :: Zw) rfl
   | cons i l=>exact key i _ rfl
  ·obtain⟨h0,o,ho,hall⟩:=mem_ready.1 hj;have hjlt:=(Qa.1 ho).1;have hjr:=(hl j hjlt).1 h0;have haf:∀f∈z4p ops j,f∉pre++x :: d :: Zw:=λf hd hdr=>by
    unfold z4p at hd;simp only[ho] at hd;obtain⟨e,he,rfl⟩:=Q2.1 hd;obtain⟨he1,he2⟩:=Q3.1 he;have h1:=hall e (by simpa using he1) he2;have h2:e.on<listed.size:=by
     rcases Xh e.on listed.size with h|h
     ·exact h
     ·simp[Qb h] at h1
    have h3:=(hl e.on (by rw[← hsz];exact h2)).2 hdr;simp[h2] at h1 h3;rw[h1] at h3;cases h3
   have haf2:∀f∈z4p ops j,f∉pre++d :: x :: Zw:=λf hd hdr=>haf f hd ((hmm f).2 hdr)
   have clos:∀(rem ys zs:List Nat),(∀e,e∉rem->∀d∈z4p ops e,d∉rem)->(∀d∈z4p ops j,d∉rem)->rem=ys++j :: zs->∀e,e∉ys++zs->∀d∈z4p ops e,d∉ys++zs:=λrem ys zs hcl haf er e he d hd hdr=>by
    have hup:∀{d},d∈ys++zs->d∈rem:=λh=>by
     rw[er];rcases Qt.1 h with h|h
     ·exact Qs _ h
     ·exact Qw _ (Qu _ h)
    by_cases hej:e=j
    ·subst hej;exact haf d hd (hup hdr)
    ·refine hcl e (λhm=>he ?_) d hd (hup hdr);rw[er] at hm;rcases Qt.1 hm with h|h
     ·exact Qs _ h
     ·rcases Qv.1 h with h|h
      ·exact absurd h hej
      ·exact Qw _ h
   have h1:yay C true ops (pre++x :: d :: Zw) k st H:=by
    rw[yaz];exact yb0 (λ_ _ _ h=>h.1) pre hx h
   have h2:yay C true ops (pre++d :: x :: Zw) k st H:=by
    rw[yaz];exact yb0 (λ_ _ _ h=>h.2) pre hx h
   by_cases e1:j=d
   ·
    subst e1;obtain⟨ys,zs,er,c1,c3,c4,hb⟩:=ysq hx hcl2 hc2 haf2 ((hmm j).1 hjr) (λe=>hxd e.symm) h2;have hm2:∀i,i<ops.size->(listed.getD i true=false↔i∈pre++j :: x :: Zw):=λi hi=>(hl i hi).trans (hmm i)
    have hnj:j∉ys++zs:=λh=>by
     rcases Qt.1 h with h|h
     ·exact c3 h
     ·exact c4 h
    have hlen:(pre++j :: x :: Zw).length<=fuel+1:=by simpa using hf
    refine wpOpIn_mono (λa' w' ⟨st',H',hs',h'⟩=>ztl hN hq fuel (ys++zs) (listed.setIfInBounds j true) st' H' a' w' (clos _ ys zs hcl2 haf2 er) (zc0 c1 (.inl hnj)) (by simp[hsz]) (yb4 hsz hjlt hm2 λi=>by rw[er];exact ydz c3 c4 i) (by rw[er] at hlen;simp at hlen ⊢;omega) h' hs') (x5v hN hb hs)
   ·by_cases e2:j=x
    ·subst e2;obtain⟨ys,zs,er,c1,c3,c4,hb⟩:=ysq hx hcl hc1 haf hjr hxd h1;have hnj:j∉ys++zs:=λh=>by
      rcases Qt.1 h with h|h
      ·exact c3 h
      ·exact c4 h
     refine wpOpIn_mono (λa' w' ⟨st',H',hs',h'⟩=>ztl hN hq fuel (ys++zs) (listed.setIfInBounds j true) st' H' a' w' (clos _ ys zs hcl haf er) (zc0 c1 (.inl hnj)) (by simp[hsz]) (yb4 hsz hjlt hl λi=>by rw[er];exact ydz c3 c4 i) (by rw[er] at hf;simp at hf ⊢;omega) h' hs') (x5v hN hb hs)
    ·have hjp:j∈pre:=by
      rcases Qt.1 hjr with h|h
      ·exact h
      ·exfalso;rcases Qv.1 h with h|h
       ·exact e2 h
       ·rcases Qv.1 h with h|h
        ·exact e1 h
        ·have hw':=hw j h;have inx:x∈pre++x :: d :: Zw:=by simp
         have ind:d∈pre++x :: d :: Zw:=by simp
         simp only[waits,Ql] at hw';rcases hw' with((hw'|hw')|hw')|hw'
         ·exact haf x (ydm.1 hw') inx
         ·exact haf d (ydm.1 hw') ind
         ·exact z42 hcl 6 x j haf hw' inx
         ·exact z42 hcl 6 d j haf hw' ind
     obtain⟨ys,zs,er⟩:=Q5 hjp;subst er;have hc1':=hc1;rw[Q1,Qz] at hc1';obtain⟨c1,c2,c3,c4⟩:=zc1 hc1';have hc2':=hc2;rw[Q1,Qz] at hc2';obtain⟨d1,d2,d3,d4⟩:=zc1 hc2';have hsw:∀y∈ys,x7b C ops y j=true:=λy hy=>by
      have hym:y∈ys++j :: zs++x :: d :: Zw:=Qs _ (Qs _ hy);rcases c2 y hy with(((h'|h')|h')|h')|h'
      ·exact absurd hym (haf y (ydm.1 h'))
      ·exact h'
      ·exact absurd hym (y2l hcl 40 y j haf h')
      ·exact absurd hym (z42 hcl 6 y j haf h')
      ·exact absurd h'.2 e1
     have hb:=zbc hsw hx h;have ea:ys++zs++x :: d :: Zw=ys++(zs++x :: d :: Zw):=Q1 ..;have eb:ys++zs++d :: x :: Zw=ys++(zs++d :: x :: Zw):=Q1 ..;have er:ys++j :: zs++x :: d :: Zw=ys++j :: (zs++x :: d :: Zw):=by rw[Q1];rfl
     refine wpOpIn_mono (λa' w' ⟨st',H',hs',h'⟩=>ih (ys++zs) (listed.setIfInBounds j true) st' H' a' w' ?_ (by rw[ea];exact c1) (by rw[eb];exact d1) (by simp[hsz]) (yb4 hsz hjlt hl λi=>?_) (by simp at hf ⊢;omega) h' hs') (x5v hN hb hs)
     ·rw[ea];exact clos _ ys _ hcl haf er
     ·rw[ea,er];exact ydz c3 c4 i
theorem ztn{Q:Exit->Act->World->Prop}{m:Nat}(hxd:x≠d)(hN:z1i C.P)(hq:∀a w,Kt C.n ds w0 H0 k a w->Q .normal a w)(hw:∀j∈Zw,waits ops x d j=true)(hmd:m∈z4p ops d) :
  ∀(fuel:Nat)(pre:List Nat)(listed:Array Bool)(st:St)(H:Hp)(a:Act)(w:World),(∀e,e∉pre++x :: m :: d :: Zw->∀f∈z4p ops e,f∉pre++x :: m :: d :: Zw)->zbz C ops x d (pre++x :: m :: d :: Zw)=true->zbz C ops d x (pre++d :: x :: Zw)=true->listed.size=ops.size ->
   (∀i,i<ops.size->(listed.getD i true=false↔i∈pre++x :: m :: d :: Zw))->(pre++x :: m :: d :: Zw).length<=fuel ->
   yay C true ops pre (λst H=>yay C true ops (x :: m :: d :: Zw) k st H/\x5r C true ops m (λst H=>yay C true ops (x :: d :: Zw) k st H/\yay C true ops (d :: x :: Zw) k st H) st H) st H->Sim C.n ds w0 H0 st H a w->wpAnyIn (Fz ro) 0 C.P .any ops Q fuel listed a w:=by
 intro fuel;induction fuel with
 | zero =>
  intro pre listed st H a w _ _ _ _ _ hf _ _;simp at hf
 | succ fuel ih =>
  intro pre listed st H a w hcl hc1 hc2 hsz hl hf h hs;have hx:Ex H:=by obtain⟨ids,_,_,hT⟩:=hs;exact⟨w,hT.view⟩
  refine⟨λh0=>?_,λj hj=>?_⟩
  ·exfalso;have hlt:∀e,e<ops.size->e∉pre++x :: m :: d :: Zw->listed.getD e false=true:=λe he hn=>by
    have h1:¬ listed.getD e true=false:=λh'=>hn ((hl e he).1 h')
    have h2:e<listed.size:=by rw[hsz];exact he
    simpa[h2] using h1
   have key:∀(i:Nat)(l:List Nat),pre++x :: m :: d :: Zw=i :: l->False:=λi l e=>by
    rw[e] at hc1 hlt hl;simp only[zbz,Qj,Qx,Qm] at hc1;obtain⟨⟨⟨⟨g1,_⟩,g3⟩,_⟩,_⟩:=hc1;have hi:=zap.1 g1;have hr:i∈Region.ready .any ops listed:=by
     refine mem_ready.2 ⟨(hl i hi).2 (Qy ..),ops[i],by simp[hi],λe he hb=>?_⟩;have hm:e.on∈z4p ops i:=by
      unfold z4p;simp only[Qd hi];exact Q2.2 ⟨e,Q3.2 ⟨by simpa using he,hb⟩,rfl⟩
     obtain⟨h5,h6⟩:=g3 _ hm;exact hlt _ (zap.1 h5) λhmm=>by rw[ydm.2 hmm] at h6;cases h6
    rw[h0] at hr;cases hr
   cases pre with
   | nil=>exact key x (m :: d :: Zw) rfl
   | cons i l=>exact key i _ rfl
  ·obtain⟨h0,o,ho,hall⟩:=mem_ready.1 hj;have hjlt:=(Qa.1 ho).1;have hjr:=(hl j hjlt).1 h0;have haf:∀f∈z4p ops j,f∉pre++x :: m :: d :: Zw:=λf hd hdr=>by
    unfold z4p at hd;simp only[ho] at hd;obtain⟨e,he,rfl⟩:=Q2.1 hd;obtain⟨he1,he2⟩:=Q3.1 he;have h1:=hall e (by simpa using he1) he2;have h2:e.on<listed.size:=by
     rcases Xh e.on listed.size with h|h
     ·exact h
     ·simp[Qb h] at h1
    have h3:=(hl e.on (by rw[← hsz];exact h2)).2 hdr;simp[h2] at h1 h3;rw[h1] at h3;cases h3
   have clos:∀(rem ys zs:List Nat),(∀e,e∉rem->∀d∈z4p ops e,d∉rem)->(∀d∈z4p ops j,d∉rem)->rem=ys++j :: zs->∀e,e∉ys++zs->∀d∈z4p ops e,d∉ys++zs:=λrem ys zs hcl haf er e he d hd hdr=>by
    have hup:∀{d},d∈ys++zs->d∈rem:=λh=>by
     rw[er];rcases Qt.1 h with h|h
     ·exact Qs _ h
     ·exact Qw _ (Qu _ h)
    by_cases hej:e=j
    ·subst hej;exact haf d hd (hup hdr)
    ·refine hcl e (λhm=>he ?_) d hd (hup hdr);rw[er] at hm;rcases Qt.1 hm with h|h
     ·exact Qs _ h
     ·rcases Qv.1 h with h|h
      ·exact absurd h hej
      ·exact Qw _ h
   have h1:yay C true ops (pre++x :: m :: d :: Zw) k st H:=by
    rw[yaz];exact yb0 (λ_ _ _ h=>h.1) pre hx h
   have h2:yay C true ops (pre++m :: []) (λst H=>yay C true ops (x :: d :: Zw) k st H/\yay C true ops (d :: x :: Zw) k st H) st H:=by
    rw[yaz];exact yb0 (λ_ _ _ h=>h.2) pre hx h
   by_cases e1:j=d
   ·subst e1;exact absurd (by simp:m∈pre++x :: m :: j :: Zw) (haf m hmd)
   by_cases e2:j=x
   ·subst e2;obtain⟨ys,zs,er,c1,c3,c4,hb⟩:=ysq hx hcl hc1 haf hjr hxd h1;have hnj:j∉ys++zs:=λh=>by
     rcases Qt.1 h with h|h
     ·exact c3 h
     ·exact c4 h
    exact wpOpIn_mono (λa' w' ⟨st',H',hs',h'⟩=>ztl hN hq fuel (ys++zs) (listed.setIfInBounds j true) st' H' a' w' (clos _ ys zs hcl haf er) (zc0 c1 (.inl hnj)) (by simp[hsz]) (yb4 hsz hjlt hl λi=>by rw[er];exact ydz c3 c4 i) (by rw[er] at hf;simp at hf ⊢;omega) h' hs') (x5v hN hb hs)
   by_cases e3:j=m
   ·subst e3;have ea:pre++x :: j :: d :: Zw=(pre++[x])++j :: d :: Zw:=by simp
    have hc1':=hc1;rw[ea] at hc1';obtain⟨c1,c2,c3,c4⟩:=zc1 hc1';have hsw:∀y∈pre,x7b C ops y j=true:=λy hy=>by
     have hym:y∈pre++x :: j :: d :: Zw:=Qs _ hy;rcases c2 y (Qs _ hy) with(((h'|h')|h')|h')|h'
     ·exact absurd hym (haf y (ydm.1 h'))
     ·exact h'
     ·exact absurd hym (y2l hcl 40 y j haf h')
     ·exact absurd hym (z42 hcl 6 y j haf h')
     ·exact absurd h'.2 e1
    have hb:=zbc hsw hx h2;rw[List.append_nil] at hb;have eb:(pre++[x])++d :: Zw=pre++x :: d :: Zw:=by simp
    refine wpOpIn_mono (λa' w' ⟨st',H',hs',h'⟩=>ztm hxd hN hq hw fuel pre (listed.setIfInBounds j true) st' H' a' w' ?_ (by rw[← eb];exact c1) hc2 (by simp[hsz]) (yb4 hsz hjlt hl λi=>?_) (by simp at hf ⊢;omega) h' hs') (x5v hN hb hs)
    ·rw[← eb];exact clos _ _ _ hcl haf ea
    ·rw[← eb,ea];exact ydz c3 c4 i
   have hjp:j∈pre:=by
    rcases Qt.1 hjr with h|h
    ·exact h
    ·exfalso;rcases Qv.1 h with h|h
     ·exact e2 h
     rcases Qv.1 h with h|h
     ·exact e3 h
     rcases Qv.1 h with h|h
     ·exact e1 h
     have hw':=hw j h;have inx:x∈pre++x :: m :: d :: Zw:=by simp
     have ind:d∈pre++x :: m :: d :: Zw:=by simp
     simp only[waits,Ql] at hw';rcases hw' with((hw'|hw')|hw')|hw'
     ·exact haf x (ydm.1 hw') inx
     ·exact haf d (ydm.1 hw') ind
     ·exact z42 hcl 6 x j haf hw' inx
     ·exact z42 hcl 6 d j haf hw' ind
   obtain⟨ys,zs,er⟩:=Q5 hjp;subst er;have hc1':=hc1;rw[Q1,Qz] at hc1';obtain⟨c1,c2,c3,c4⟩:=zc1 hc1';have hc2':=hc2;rw[Q1,Qz] at hc2';obtain⟨d1,d2,d3,d4⟩:=zc1 hc2';have hsw:∀y∈ys,x7b C ops y j=true:=λy hy=>by
    have hym:y∈ys++j :: zs++x :: m :: d :: Zw:=Qs _ (Qs _ hy);rcases c2 y hy with(((h'|h')|h')|h')|h'
    ·exact absurd hym (haf y (ydm.1 h'))
    ·exact h'
    ·exact absurd hym (y2l hcl 40 y j haf h')
    ·exact absurd hym (z42 hcl 6 y j haf h')
    ·exact absurd h'.2 e1
   have hb:=zbc hsw hx h;have ea:ys++zs++x :: m :: d :: Zw=ys++(zs++x :: m :: d :: Zw):=Q1 ..;have eb:ys++zs++d :: x :: Zw=ys++(zs++d :: x :: Zw):=Q1 ..;have er:ys++j :: zs++x :: m :: d :: Zw=ys++j :: (zs++x :: m :: d :: Zw):=by rw[Q1];rfl
   refine wpOpIn_mono (λa' w' ⟨st',H',hs',h'⟩=>ih (ys++zs) (listed.setIfInBounds j true) st' H' a' w' ?_ (by rw[ea];exact c1) (by rw[eb];exact d1) (by simp[hsz]) (yb4 hsz hjlt hl λi=>?_) (by simp at hf ⊢;omega) h' hs') (x5v hN hb hs)
   ·rw[ea];exact clos _ ys _ hcl haf er
   ·rw[ea,er];exact ydz c3 c4 i
def ypd(C:Cfg)(ops:Array Oper)(l:List Nat)(n:Nat):Bool :=
 match l.drop n with
 | x :: d :: Zw=>Xe l.length ops.size&&(Q4 ops.size).all (λi=>ydk i l)&&zbz C ops x d (l.take n++x :: d :: Zw)&&zbz C ops d x (l.take n++d :: x :: Zw)&&!(Xe x d)&&Zw.all (waits ops x d)
 | _=>false
def ype(C:Cfg)(ops:Array Oper)(l:List Nat)(n:Nat):Bool :=
 match l.drop n with
 | x :: m :: d :: Zw=>Xe l.length ops.size&&(Q4 ops.size).all (λi=>ydk i l)&&zbz C ops x d (l.take n++x :: m :: d :: Zw)&&zbz C ops d x (l.take n++d :: x :: Zw)&&!(Xe x d)&&Zw.all (waits ops x d)&&ydk m (z4p ops d)
 | _=>false
def xa5(C:Cfg)(ops:Array Oper)(l:List Nat)(n:Nat)(k:St->Hp->Prop)(st:St)(H:Hp):Prop :=
 match l.drop n with
 | x :: d :: Zw=>yay C true ops (l.take n) (λst H=>yay C true ops (x :: d :: Zw) k st H/\yay C true ops (d :: x :: Zw) k st H) st H
 | _=>False
def x8p(C:Cfg)(ops:Array Oper)(l:List Nat)(n:Nat)(k:St->Hp->Prop)(st:St)(H:Hp):Prop :=
 match l.drop n with
 | x :: m :: d :: Zw=>yay C true ops (l.take n) (λst H=>yay C true ops (x :: m :: d :: Zw) k st H/\yay C true ops [m] (λst H=>yay C true ops (x :: d :: Zw) k st H/\yay C true ops (d :: x :: Zw) k st H) st H) st H
 | _=>False
theorem ywz{Q:Exit->Act->World->Prop}{a:Act}{id:Nat}(hN:z1i C.P)(hM:C.P.follows .mixedOrders=true)
  (hq:∀a w,Kt C.n ds w0 H0 k a w->Q .normal a w) (hl:ypd C ops l n=true) (h:xa5 C ops l n k st H) (hs:Sim C.n ds w0 H0 st H a w):(Code.region id ops true).wpIn (Fz ro) 0 C.P Q a w:=by
 refine wpIn_region_any hM ?_;unfold ypd at hl;unfold xa5 at h;split at hl
 ·rename_i x d Zw hd;have el:l=l.take n++x :: d :: Zw:=by rw[← hd,Q8]
  rw[hd] at h;simp only at h;simp only[Qj,Nat.beq_iff,Qx,ydm,Qm] at hl;obtain⟨⟨⟨⟨⟨hlen,hall⟩,hc⟩,hc2⟩,hne⟩,hwt⟩:=hl;have hmem:∀i,i<ops.size->i∈l.take n++x :: d :: Zw:=λi hi=>by rw[← el];exact hall i (Q6.2 hi)
  have hs':Sim C.n ds w0 H0 st H a { w with drawn:=w.drawn+1 }:=by
   obtain⟨ids,hE,hP,hT⟩:=hs;exact⟨ids,hE,⟨hP.blk,hP.hid,hP.low,hP.inj,hP.dfs⟩,⟨hT.view,hT.frame,hT.fresh,hT.size,hT.os,hT.tape,hT.output,Xk hT.drawn⟩⟩
  refine ztm (x:=x) (d:=d) (Zw:=Zw) (λe=>by rw[e,Xf] at hne;cases hne) hN hq hwt ops.size (l.take n) (Qc ops.size false) st H a _ (λe he d hd _=>?_) hc hc2 (by simp) (λi hi=>⟨λ_=>hmem i hi,λ_=>by simp[hi]⟩) (by rw[← el];omega) h hs';unfold z4p at hd;rw[Qb (Xl λh=>he (hmem e h))] at hd;cases hd
 ·cases hl
theorem yx0{Q:Exit->Act->World->Prop}{a:Act}{id:Nat}(hN:z1i C.P)(hM:C.P.follows .mixedOrders=true)
  (hq:∀a w,Kt C.n ds w0 H0 k a w->Q .normal a w) (hl:ype C ops l n=true) (h:x8p C ops l n k st H) (hs:Sim C.n ds w0 H0 st H a w):(Code.region id ops true).wpIn (Fz ro) 0 C.P Q a w:=by
 refine wpIn_region_any hM ?_;unfold ype at hl;unfold x8p at h;split at hl
 ·rename_i x m d Zw hd;have el:l=l.take n++x :: m :: d :: Zw:=by rw[← hd,Q8]
  rw[hd] at h;simp only at h;simp only[Qj,Nat.beq_iff,Qx,ydm,Qm] at hl;obtain⟨⟨⟨⟨⟨⟨hlen,hall⟩,hc⟩,hc2⟩,hne⟩,hwt⟩,hmd⟩:=hl;have hmem:∀i,i<ops.size->i∈l.take n++x :: m :: d :: Zw:=λi hi=>by rw[← el];exact hall i (Q6.2 hi)
  have hs':Sim C.n ds w0 H0 st H a { w with drawn:=w.drawn+1 }:=by
   obtain⟨ids,hE,hP,hT⟩:=hs;exact⟨ids,hE,⟨hP.blk,hP.hid,hP.low,hP.inj,hP.dfs⟩,⟨hT.view,hT.frame,hT.fresh,hT.size,hT.os,hT.tape,hT.output,Xk hT.drawn⟩⟩
  refine ztn (x:=x) (m:=m) (d:=d) (Zw:=Zw) (λe=>by rw[e,Xf] at hne;cases hne) hN hq hwt hmd ops.size (l.take n) (Qc ops.size false) st H a _ (λe he d hd _=>?_) hc hc2 (by simp) (λi hi=>⟨λ_=>hmem i hi,λ_=>by simp[hi]⟩) (by rw[← el];omega) h hs';unfold z4p at hd;rw[Qb (Xl λh=>he (hmem e h))] at hd;cases hd
 ·cases hl
def zth(C:Cfg)(id:Nat)(ops:Array Oper)(k:St->Hp->Prop)(st:St)(H:Hp):Prop :=
 match C.perm id with
 | some l=>match C.perm2 id with
  | none=>match ypc C ops l with
   | true=>yay C true ops l k st H
   | false=>False
  | some (n,false)=>match ypd C ops l n with
   | true=>xa5 C ops l n k st H
   | false=>False
  | some (n,true)=>match ype C ops l n with
   | true=>x8p C ops l n k st H
   | false=>False
 | none=>False
theorem ztj{id:Nat}(hk:∀l st' H',yay C true ops l k st' H'->yay C true ops l k' st' H')
  (hp:∀(l:List Nat)(j j':St->Hp->Prop),(∀st H,j st H->j' st H)->∀st H,yay C true ops l j st H->yay C true ops l j' st H) (h:zth C id ops k st H):zth C id ops k' st H:=by
 unfold zth at *
 cases hp1:C.perm id with
 | none=>simp[hp1] at h
 | some l =>
  simp only[hp1] at h ⊢;cases h2:C.perm2 id with
  | none =>
   simp only[h2] at h ⊢;cases ho:ypc C ops l with
   | true=>simp only[ho] at h ⊢;exact hk _ _ _ h
   | false=>simp[ho] at h
  | some y =>
   obtain⟨n,b⟩:=y;cases b with
   | false =>
    simp only[h2] at h ⊢;cases hq:ypd C ops l n with
    | false=>simp[hq] at h
    | true =>
     simp only[hq] at h ⊢;unfold xa5 at *
     split at h
     ·rename_i x d Zw hd;exact hp _ _ _ (λst H h=>⟨hk _ _ _ h.1,hk _ _ _ h.2⟩) _ _ h
     ·exact h.elim
   | true =>
    simp only[h2] at h ⊢;cases hq:ype C ops l n with
    | false=>simp[hq] at h
    | true =>
     simp only[hq] at h ⊢;unfold x8p at *
     split at h
     ·rename_i x m d Zw hd;exact hp _ _ _ (λst H h=>⟨hk _ _ _ h.1,hp _ _ _ (λst H h=>⟨hk _ _ _ h.1,hk _ _ _ h.2⟩) _ _ h.2⟩) _ _ h
     ·exact h.elim
theorem ztk{Q:Exit->Act->World->Prop}{a:Act}{id:Nat}(hN:z1i C.P)(hM:C.P.follows .mixedOrders=true)
  (hq:∀a w,Kt C.n ds w0 H0 k a w->Q .normal a w) (h:zth C id ops k st H) (hs:Sim C.n ds w0 H0 st H a w):(Code.region id ops true).wpIn (Fz ro) 0 C.P Q a w:=by
 unfold zth at h;cases hp1:C.perm id with
 | none=>simp[hp1] at h
 | some l =>
  simp only[hp1] at h;cases h2:C.perm2 id with
  | none =>
   simp only[h2] at h;cases ho:ypc C ops l with
   | true=>simp only[ho] at h;exact ywy hN hM hq ho h hs
   | false=>simp[ho] at h
  | some y =>
   obtain⟨n,b⟩:=y;cases b with
   | false =>
    simp only[h2] at h;cases hq':ypd C ops l n with
    | false=>simp[hq'] at h
    | true=>simp only[hq'] at h;exact ywz hN hM hq hq' h hs
   | true =>
    simp only[h2] at h;cases hq':ype C ops l n with
    | false=>simp[hq'] at h
    | true=>simp only[hq'] at h;exact yx0 hN hM hq hq' h hs
end Go.Eng
namespace Go.Eng
abbrev Md:=Option (List Nat×List Nat)
def Md.seq:Md->Md->Md
 | some (a,b),some (c,d)=>some (a++c,b++d)
 | _,_=>none
def Md.alt:Md->Md->Md
 | some (a,b),some (c,d)=>some (a++c,b++d)
 | some x,none=>some x
 | none,y=>y
def yki(C:Cfg)(o:Oper):List Nat×List Nat :=
  (match o.dst with
   | some d=>[d]
   | none=>[],match o.op with
   | .store _ (.tmp x) _=>match C.pv x with
     | true=>[C.nm x]
     | false=>[]
   | _=>[])
def yl6(C:Cfg):List Oper->List Nat×List Nat
 | []=>([],[])
 | o :: os=>((yki C o).1++(yl6 C os).1,(yki C o).2++(yl6 C os).2)
def mod(C:Cfg):Code->Option Nat->Md
 | .region _ ops _,t=>match t with
  | none=>some (yl6 C ops.toList)
  | some _=>none
 | .skip,t=>match t with
  | none=>some ([],[])
  | some _=>none
 | .exit id,t=>match t with
  | none=>none
  | some k=>match Xe id k with
   | true=>some ([],[])
   | false=>none
 | .seq a b,t=>match t with
  | none=>Md.seq (mod C a none) (mod C b none)
  | some k=>Md.alt (mod C a (some k)) (Md.seq (mod C a none) (mod C b (some k)))
 | .cond _ a b,t=>Md.alt (mod C a t) (mod C b t)
 | .block id b,t=>match t with
  | none=>Md.alt (mod C b none) (mod C b (some id))
  | some k=>match Xe id k with
   | true=>none
   | false=>mod C b (some k)
 | .loop b,t=>match t with
  | none=>none
  | some k=>Md.alt (mod C b (some k)) (Md.seq (mod C b none) (mod C b (some k)))
 | _,_=>none
def Cur(R:Type):List z11->Type
 | []=>R
 | .int _ :: ls=>Int->Cur R ls
 | .bool :: ls=>Bool->Cur R ls
 | .sl :: ls=>Slc->Cur R ls
 | .ptr :: ls=>Addr->Cur R ls
 | .mp :: ls=>Option Nat->Cur R ls
 | .val :: ls=>Value->Cur R ls
 | .alt :: ls=>Bool->Cur R ls
def z78{R:Type}:(ls:List z11)->Cur R ls->List Value->Option R
 | [],r,[]=>some r
 | .int k :: ls,f,.int k' n :: vs=>match decide (k=k') with
  | true=>z78 ls (f n) vs
  | false=>none
 | .bool :: ls,f,.bool b :: vs=>z78 ls (f b) vs
 | .sl :: ls,f,.slice a n c :: vs=>z78 ls (f ⟨a,n,c⟩) vs
 | .ptr :: ls,f,.pointer (some a) :: vs=>z78 ls (f a) vs
 | .mp :: ls,f,.map r :: vs=>z78 ls (f r) vs
 | .val :: ls,f,v :: vs=>z78 ls (f v) vs
 | .alt :: ls,f,.bool b :: vs=>z78 ls (f b) vs
 | _,_,_=>none
def z5v:List z11->(List Value->Prop)->Prop
 | [],f=>f []
 | .int k :: ls,f=>∀n:Int,z5v ls λvs=>f (.int k n :: vs)
 | .bool :: ls,f=>∀b:Bool,z5v ls λvs=>f (.bool b :: vs)
 | .sl :: ls,f=>∀u:Slc,z5v ls λvs=>f (u.v :: vs)
 | .ptr :: ls,f=>∀a:Addr,z5v ls λvs=>f (.pointer (some a) :: vs)
 | .mp :: ls,f=>∀r:Option Nat,z5v ls λvs=>f (.map r :: vs)
 | .val :: ls,f=>∀v:Value,z5v ls λvs=>f (v :: vs)
 | .alt :: ls,f=>∀b:Bool,z5v ls λvs=>f (.bool b :: vs)
abbrev Lp:=List (Nat×z11)×List (Nat×List z11)
def Lp.leaves(l:Lp):List z11:=l.1.map (·.2)++l.2.flatMap (·.2)
def x3q(env:Env):List (Nat×z11)->Option (List Value)
 | []=>some []
 | (t,_) :: l=>match env t with
  | some ([],.lit v)=>match x3q env l with
   | some vs=>some (v :: vs)
   | none=>none
  | _=>none
def ysf(pr:z1r):List (Nat×List z11)->Option (List Value)
 | []=>some []
 | (j,ls) :: l=>match pr j with
  | some (cs,_)=>match Xe cs.length ls.length,ysf pr l with
   | true,some vs=>some (cs++vs)
   | _,_=>none
  | none=>none
def ybt(l:Lp)(st:St):Option (List Value) :=
 match x3q st.env l.1,ysf st.priv l.2 with
 | some a,some b=>some (a++b)
 | _,_=>none
def y4a(ms:List Nat)(base:Env):List (Nat×z11)->List Value->Env
 | [],_=>λt=>match ydk t ms with
  | true=>none
  | false=>match base t with
   | some (g,v)=>match g.any λp=>ydk p.1 ms with
    | true=>none
    | false=>some (g,v)
   | none=>none
 | (s,_) :: l,vs=>λt=>match Xe t s with
  | true=>match vs with
   | v :: _=>some ([],.lit v)
   | []=>none
  | false=>y4a ms base l vs.tail t
def y4c(base:z1r):List (Nat×List z11)->List Value->z1r
 | [],_=>base
 | (j,ls) :: l,vs=>λk=>match Xe k j with
  | true=>match base j with
   | some (_,t)=>some (vs.take ls.length,t)
   | none=>none
  | false=>y4c base l (vs.drop ls.length) k
def y4g(ms:List Nat)(l:Lp)(st:St)(vs:List Value):St :=
 ⟨y4a ms st.env l.1 vs,y4c st.priv l.2 (vs.drop l.1.length)⟩
def zyv:Code->Option Nat
 | .region id _ _=>some id
 | .seq a b=>match zyv a with
  | some i=>some i
  | none=>zyv b
 | .cond _ a b=>match zyv a with
  | some i=>some i
  | none=>zyv b
 | .block _ b=>zyv b
 | .loop b=>match zyv b with
  | some i=>some (i+1000)
  | none=>none
 | _=>none
abbrev Kc:=Exit->St->Hp->Prop
def ybo(body:Kc->St->Hp->Prop)(ms:List Nat)(l:Lp)(K:Kc)(st:St)(H:Hp):Prop :=
  match ybt l st with
  | some v0=>∃(I:Cur (Hp->Prop) l.leaves)(m:Cur (Hp->Nat) l.leaves),
      (match z78 l.leaves I v0 with
       | some p=>p H
       | none=>False) /\
      z5v l.leaves λvs=>∀H,(match z78 l.leaves I vs with
        | some p=>p H
        | none=>False) ->
        body (λe st' H'=>match e with
          | .normal=>match ybt l st' with
            | some vs'=>match z78 l.leaves I vs',z78 l.leaves m vs',z78 l.leaves m vs with
              | some p,some n',some n=>p H'/\n' H'<n H
              | _,_,_=>False
            | none=>False
          | e=>K e st' H') (y4g ms l st vs) H
  | none=>False
def ysd(pr:z1r)(j:Nat):Bool :=
 match pr j with
 | none=>true
 | some _=>false
theorem yse{pr:z1r}{j:Nat}(h:ysd pr j=true):pr j=none:=by
 unfold ysd at h;cases hj:pr j with
 | none=>rfl
 | some y=>rw[hj] at h;cases h
def vc(C:Cfg):Code->Kc->St->Hp->Prop
 | .skip,K,st,H=>K .normal st H
 | .region id ops draw,K,st,H=>match draw with
  | false=>yay C false ops (Q4 ops.size) (K .normal) st H
  | true=>zth C id ops (K .normal) st H
 | .seq a b,K,st,H=>vc C a (λe st H=>match e with
  | .normal=>vc C b K st H
  | e=>K e st H) st H
 | .cond c a b,K,st,H=>match st.env.ev [] c with
  | some (.lit (.bool x))=>(x=true->vc C a K st H)/\(x=false->vc C b K st H)
  | _=>False
 | .block id b,K,st,H=>vc C b (λe st H=>match e with
  | .exit k=>match Xe k id with
   | true=>K .normal st H
   | false=>K (.exit k) st H
  | e=>K e st H) st H
 | .loop b,K,st,H=>match zyv b,mod C b none with
  | some id,some (ms,ps)=>match (ps.all λj=>ydk j ((C.lp id).2.map (·.1))||ysd st.priv j)&&((C.lp id).1.all λx=>ydk x.1 ms)&&((C.lp id).2.all λx=>ydk x.1 ps) with
   | true=>ybo (vc C b) ms (C.lp id) K st H
   | false=>False
  | some _,none=>vc C b (λe st' H'=>match e with
   | .normal=>False
   | e=>K e st' H') st H
  | none,_=>False
 | .exit id,K,st,H=>K (.exit id) st H
 | .ret,K,st,H=>K .ret st H
 | _,_,_,_=>False
end Go.Eng
namespace Go.Eng
variable{ps ms ms' ps':List Nat}{st st' st1:St}{C:Cfg}{env:Env}{o:Oper}{d x i:Nat}{gb draw:Bool}{t:TypeId}{ops:Array Oper}{k:St->Hp->Prop}{H:Hp}
structure z0x(ms ps:List Nat)(st st':St):Prop where
 env:∀t g v,ydk t ms=false->(∀p∈g,ydk p.1 ms=false)->st.env t=some (g,v)->st'.env t=some (g,v)
 priv:∀j,ydk j ps=false->st.priv j≠none->st'.priv j=st.priv j
 typ:∀j cs T,st.priv j=some (cs,T)->∃cs',st'.priv j=some (cs',T)
theorem ydl{a b:List Nat}:ydk d (a++b)=(ydk d a||ydk d b):=by
 induction a with
 | nil=>rfl
 | cons x a ih=>simp only[Qz,ydk,ih,Bool.or_assoc]
theorem z0x.refl(ms ps:List Nat)(st:St):z0x ms ps st st:=⟨λ_ _ _ _ _ h=>h,λ_ _ _=>rfl,λ_ cs _ h=>⟨cs,h⟩⟩
theorem z0x.up(h:z0x ms ps st st')(h1:∀t,ydk t ms'=false->ydk t ms=false)(h2:∀t,ydk t ps'=false->ydk t ps=false):z0x ms' ps' st st' :=
 ⟨λt g v a b c=>h.env t g v (h1 t a) (λp hp=>h1 _ (b p hp)) c,λj a b=>h.priv j (h2 j a) b,h.typ⟩
theorem z0x.trans(h:z0x ms ps st st1)(h':z0x ms' ps' st1 st'):z0x (ms++ms') (ps++ps') st st':=by
 refine⟨λt g v a b c=>?_,λj a b=>?_,λj cs T hj=>?_⟩
 ·simp only[ydl,Qn] at a b;exact h'.env t g v a.2 (λp hp=>(b p hp).2) (h.env t g v a.1 (λp hp=>(b p hp).1) c)
 ·simp only[ydl,Qn] at a;have e:=h.priv j a.1 b;rw[h'.priv j a.2 (by rw[e];exact b),e]
 ·obtain⟨c1,h1⟩:=h.typ j cs T hj;exact h'.typ j c1 T h1
section
variable{P:Program}{draw:Bool}{K K':Kop}{pr:z1r}{H:Hp}
theorem xbi{nf:NF}(h:nf.vc P draw K pr H)(hk:∀s p H',K s p H'->K' s p H'):nf.vc P draw K' pr H:=by
 cases nf with
 | bad=>exact h
 | pu ob x=>exact yji h (hk _ _ _)
 | px ls ob x=>exact zvl h λvs h'=>⟨h'.1,hk _ _ _ h'.2⟩
 | rd ls ob x=>exact zvl h λvs h'=>⟨h'.1,hk _ _ _ h'.2⟩
 | ow f =>
  simp only[NF.vc] at h ⊢;cases hf:f pr with
  | none=>simp[hf] at h
  | some y=>simp only[hf] at h ⊢;exact hk _ _ _ h
 | al c x ob=>exact yji h λh' b H1 hb e=>hk _ _ _ (h' b H1 hb e)
 | ag gb x ob=>exact⟨λe b H1 hb e'=>hk _ _ _ (h.1 e b H1 hb e'),λe=>hk _ _ _ (h.2 e)⟩
 | cf g0 f args sh=>exact Fn.mono h λv H' hq=>yji hq λhq=>zvl hq λvs hq=>⟨hq.1,hk _ _ _ hq.2⟩
 | cg gb g0 f args sh=>exact⟨λe=>Fn.mono (h.1 e) λv H' hq=>yji hq λhq=>zvl hq λvs hq=>⟨hq.1,hk _ _ _ hq.2⟩,λe=>hk _ _ _ (h.2 e)⟩
 | ce f args sh=>exact Fn.mono h λv H' hq=>zvl hq λvs hq=>⟨hq.1,hk _ _ _ hq.2⟩
 | cy l args sh=>exact FnY.mono h λv H' hq=>zvl hq λvs hq=>⟨hq.1,hk _ _ _ hq.2⟩
 | cv F args sh =>
  obtain⟨f,first,cap,hF,hc,h⟩:=h;exact⟨f,first,cap,hF,hc,Fn.mono h λv H' hq=>yji hq λhq=>zvl hq λvs hq=>⟨hq.1,hk _ _ _ hq.2⟩⟩
 | ef s sh =>
  intro w hv;obtain⟨v,w',H',hr,ht,hq⟩:=h w hv;exact⟨v,w',H',hr,ht,zvl hq λvs hq=>⟨hq.1,hk _ _ _ hq.2⟩⟩
 | st ad vs=>exact⟨h.1,λH1 e=>hk _ _ _ (h.2 H1 e)⟩
def NFP(ps:List Nat):NF->Prop
 | .ow f=>∀pr x pr',f pr=some (x,pr')->(∀j,ydk j ps=false->pr j≠none->pr' j=pr j)/\∀j cs T,pr j=some (cs,T)->∃cs',pr' j=some (cs',T)
 | _=>True
theorem xbk{nf:NF}(hp:NFP ps nf)(h:nf.vc P draw K pr H) :
  nf.vc P draw (λs p H'=>((∀j,ydk j ps=false->pr j≠none->p j=pr j)/\∀j cs T,pr j=some (cs,T)->∃cs',p j=some (cs',T))/\K s p H') pr H:=by
 have same:(∀j,ydk j ps=false->pr j≠none->pr j=pr j)/\∀j cs T,pr j=some (cs,T)->∃cs',pr j=some (cs',T):=⟨λ_ _ _=>rfl,λj cs T h=>⟨cs,h⟩⟩;cases nf with
 | bad=>exact h
 | pu ob x=>exact yji h λh=>⟨same,h⟩
 | px ls ob x=>exact zvl h λvs h'=>⟨h'.1,same,h'.2⟩
 | rd ls ob x=>exact zvl h λvs h'=>⟨h'.1,same,h'.2⟩
 | ow f =>
  simp only[NF.vc] at h ⊢;cases hf:f pr with
  | none=>simp[hf] at h
  | some y=>simp only[hf] at h ⊢;exact⟨hp pr _ _ hf,h⟩
 | al c x ob=>exact yji h λh' b H1 hb e=>⟨same,h' b H1 hb e⟩
 | ag gb x ob=>exact⟨λe b H1 hb e'=>⟨same,h.1 e b H1 hb e'⟩,λe=>⟨same,h.2 e⟩⟩
 | cf g0 f args sh=>exact Fn.mono h λv H' hq=>yji hq λhq=>zvl hq λvs hq=>⟨hq.1,same,hq.2⟩
 | cg gb g0 f args sh=>exact⟨λe=>Fn.mono (h.1 e) λv H' hq=>yji hq λhq=>zvl hq λvs hq=>⟨hq.1,same,hq.2⟩,λe=>⟨same,h.2 e⟩⟩
 | ce f args sh=>exact Fn.mono h λv H' hq=>zvl hq λvs hq=>⟨hq.1,same,hq.2⟩
 | cy l args sh=>exact FnY.mono h λv H' hq=>zvl hq λvs hq=>⟨hq.1,same,hq.2⟩
 | cv F args sh =>
  obtain⟨f,first,cap,hF,hc,h⟩:=h;exact⟨f,first,cap,hF,hc,Fn.mono h λv H' hq=>yji hq λhq=>zvl hq λvs hq=>⟨hq.1,same,hq.2⟩⟩
 | ef s sh =>
  intro w hv;obtain⟨v,w',H',hr,ht,hq⟩:=h w hv;exact⟨v,w',H',hr,ht,zvl hq λvs hq=>⟨hq.1,same,hq.2⟩⟩
 | st ad vs=>exact⟨h.1,λH1 e=>⟨same,h.2 H1 e⟩⟩
end
theorem yi4{g:Gd}:NFP ps (ybd C env g gb t x):=by
 unfold ybd;split
 ·split
  ·intro pr x pr' hf;dsimp only at hf
   (repeat' split at hf) <;> first|cases hf;exact⟨λ_ _ _=>rfl,λj cs T h=>⟨cs,h⟩⟩|cases hf
  ·trivial
 ·split <;> trivial
 ·trivial
theorem yi7{g:Gd}{y:Operand}(ho:o.op=.store t (.tmp x) y):NFP (yki C o).2 (x60 C env g t x y):=by
 unfold x60;split
 ·rename_i _ j off v hpv hx hy;simp only[Qj] at hpv;split
  ·rename_i hc;simp only[Qj,Nat.beq_iff] at hc;have hps:(yki C o).2=[j]:=by simp[yki,ho,hpv.1.1,hc.2]
   rw[hps];intro pr z pr' hf;dsimp only at hf;cases hj:pr j with
   | none=>simp[hj] at hf
   | some b =>
    obtain⟨cs,e⟩:=b;simp only[hj] at hf;split at hf
    ·cases hf;refine⟨λk hk _=>z1r.set_ne _ _ λe=>?_,λk c T hk=>?_⟩
     ·subst e;simp only[ydk,Xf,Qo] at hk;cases hk
     ·by_cases e':k=j
      ·subst e';rw[hj] at hk;cases hk;exact⟨_,z1r.set_same _ _ _⟩
      ·rw[z1r.set_ne _ _ e'];exact⟨c,hk⟩
    ·cases hf
  ·trivial
 ·split <;> trivial
 ·trivial
theorem yi6{P:Program}{g:Gd}:NFP ps (ymt P env g o d):=by
 unfold ymt;split
 ·split
  ·intro pr x pr' hf;dsimp only at hf;cases hd:pr d with
   | some y=>simp[hd] at hf
   | none =>
    simp only[hd,Xo.injEq,Prod.mk.injEq] at hf;obtain⟨rfl,rfl⟩:=hf;have hne:∀j,pr j≠none->j≠d:=λj hj e=>by subst e;exact hj hd
    exact⟨λj _ hj=>z1r.set_ne _ _ (hne j hj),λj cs T hj=>⟨cs,by rw[z1r.set_ne _ _ (hne j (by simp[hj]))];exact hj⟩⟩
  ·trivial
 ·trivial
theorem yi5{g:Gd}:NFP (yki C o).2 (ykj C env g gb o):=by
 unfold ykj
 (repeat' split) <;> rename_i ho <;> first
  | trivial
  | exact yi4
  | exact yi7 ho
  | exact yi6
  | (unfold yfk;split <;> trivial)
  | (unfold yin;(repeat' split) <;> trivial)
  | (unfold ypn;(repeat' split) <;> trivial)
  | (unfold yjv;split <;> trivial)
  | (unfold zrq;(repeat' split) <;> trivial)
  | (unfold y5p;(repeat' split) <;> trivial)
  | (unfold ysr;(repeat' split) <;> trivial)
  | (unfold ygu;(repeat' split) <;> trivial)
  | (unfold zbp;(repeat' split) <;> trivial)
  | (unfold zbs;(repeat' split) <;> trivial)
theorem yt4{x:Sl}{t:Nat}{g:Gd}{v:V0}(h1:ydk t (yki C o).1=false)(h2:∀p∈g,ydk p.1 (yki C o).1=false)(h:env t=some (g,v)):yt3 env o.dst x t=some (g,v):=by
 cases hd:o.dst with
 | none=>exact h
 | some d =>
  have hm:(yki C o).1=[d]:=by simp[yki,hd]
  rw[hm] at h1 h2;have ne:∀{k:Nat},ydk k [d]=false->k≠d:=λ{k} hk e=>by subst e;simp only[ydk,Xf,Qo] at hk;cases hk
  show env.put d x t=_;rw[Env.put_ne (ne h1),h];simp only;cases hmm:ye1 d g with
  | false=>rfl
  | true =>
   obtain⟨p,hp,e⟩:=ye2.1 hmm;exact absurd e (ne (h2 p hp))
theorem x5t{k':St->Hp->Prop}(h:x5r C draw ops i k st H)(hk:∀st H,k st H->k' st H):x5r C draw ops i k' st H:=by
 unfold x5r at *
 cases ho:ops[i]? with
 | none=>simp[ho] at h
 | some o =>
  simp only[ho] at h ⊢;cases hc:zl0 ops (ops.size+1) o with
  | none=>simp[hc] at h
  | some g =>
   simp only[hc] at h ⊢;cases hb:st.env.gb g with
   | none=>simp[hb] at h
   | some gb =>
    cases hd:dOk C.n g o.dst with
    | false=>simp[hb,hd] at h
    | true =>
     simp only[hb,hd] at h ⊢;exact xbi h λ_ _ _ h'=>hk _ _ h'
theorem yl7{C:Cfg}{o:Oper}:∀{l:List Oper},o∈l->(∀t,ydk t (yl6 C l).1=false->ydk t (yki C o).1=false)/\(∀t,ydk t (yl6 C l).2=false->ydk t (yki C o).2=false)
 | [],h=>by cases h
 | x :: l,h=>by
  simp only[yl6,ydl,Qn];rcases Qv.1 h with rfl|h
  ·exact⟨λt h=>h.1,λt h=>h.1⟩
  ·obtain⟨h1,h2⟩:=yl7 h;exact⟨λt h=>h1 t h.2,λt h=>h2 t h.2⟩
theorem x5u(h:x5r C draw ops i k st H) :
  x5r C draw ops i (λst' H'=>z0x (yl6 C ops.toList).1 (yl6 C ops.toList).2 st st'/\k st' H') st H:=by
 unfold x5r at *
 cases ho:ops[i]? with
 | none=>simp[ho] at h
 | some o =>
  have hmem:o∈ops.toList:=by simpa using Qe ho
  obtain⟨hm1,hm2⟩:=yl7 (C:=C) hmem;simp only[ho] at h ⊢;cases hc:zl0 ops (ops.size+1) o with
  | none=>simp[hc] at h
  | some g =>
   simp only[hc] at h ⊢;cases hb:st.env.gb g with
   | none=>simp[hb] at h
   | some gb =>
    cases hd:dOk C.n g o.dst with
    | false=>simp[hb,hd] at h
    | true =>
     simp only[hb,hd] at h ⊢;refine xbi (xbk yi5 h) λs p H' ⟨⟨h1,h2⟩,h3⟩=>⟨⟨λt g v a b c=>?_,λj a b=>h1 j (hm2 j a) b,h2⟩,h3⟩
     exact yt4 (hm1 t a) (λp hp=>hm1 _ (b p hp)) c
theorem yb2{C:Cfg}{draw:Bool}{ops:Array Oper}{k k':St->Hp->Prop}(hk:∀st H,k st H->k' st H):∀{l:List Nat}{st:St}{H:Hp},yay C draw ops l k st H->yay C draw ops l k' st H
 | [],_,_,h=>hk _ _ h
 | _ :: _,_,_,h=>x5t h λ_ _ h'=>yb2 hk h'
theorem yb1{C:Cfg}{draw:Bool}{ops:Array Oper}{k:St->Hp->Prop}:∀{l:List Nat}{st:St}{H:Hp},yay C draw ops l k st H ->
  yay C draw ops l (λst' H'=>z0x (yl6 C ops.toList).1 (yl6 C ops.toList).2 st st'/\k st' H') st H
 | [],st,_,h=>⟨z0x.refl _ _ st,h⟩
 | i :: l,st,_,h=>x5t (x5u h) λst1 H1 ⟨hk,h'⟩=>yb2 (λst2 H2 ⟨hk',h''⟩=>⟨(hk.trans hk').up (λt ht=>by rw[ydl,ht];rfl) (λt ht=>by rw[ydl,ht];rfl),h''⟩) (yb1 h')
theorem z5w:∀{ls:List z11}{f f':List Value->Prop},z5v ls f->(∀vs,f vs->f' vs)->z5v ls f'
 | [],_,_,h,hf=>hf _ h
 | .int _ :: ls,_,_,h,hf=>λx=>z5w (ls:=ls) (h x) λ_=>hf _
 | .bool :: ls,_,_,h,hf=>λx=>z5w (ls:=ls) (h x) λ_=>hf _
 | .sl :: ls,_,_,h,hf=>λx=>z5w (ls:=ls) (h x) λ_=>hf _
 | .ptr :: ls,_,_,h,hf=>λx=>z5w (ls:=ls) (h x) λ_=>hf _
 | .mp :: ls,_,_,h,hf=>λx=>z5w (ls:=ls) (h x) λ_=>hf _
 | .val :: ls,_,_,h,hf=>λx=>z5w (ls:=ls) (h x) λ_=>hf _
 | .alt :: ls,_,_,h,hf=>λx=>z5w (ls:=ls) (h x) λ_=>hf _
theorem zqm{C:Cfg}:∀(c:Code){K K':Kc}{st:St}{H:Hp},(∀e st H,K e st H->K' e st H)->vc C c K st H->vc C c K' st H
 | .skip,_,_,_,_,hk,h=>hk _ _ _ h
 | .ret,_,_,_,_,hk,h=>hk _ _ _ h
 | .exit _,_,_,_,_,hk,h=>hk _ _ _ h
 | .region id ops draw,K,K',st,H,hk,h=>by
  simp only[vc] at h ⊢;cases draw with
  | false=>exact yb2 (hk .normal) h
  | true=>exact ztj (λl st H h=>yb2 (hk .normal) h) (λl j j' hj st H h=>yb2 hj h) h
 | .seq a b,K,K',st,H,hk,h=>by
  simp only[vc] at h ⊢;refine zqm a (λe st H h'=>?_) h;cases e <;> first|exact zqm b hk h'|exact hk _ _ _ h'
 | .cond c a b,K,K',st,H,hk,h=>by
  simp only[vc] at h ⊢;split at h
  ·exact⟨λe=>zqm a hk (h.1 e),λe=>zqm b hk (h.2 e)⟩
  ·exact h.elim
 | .block id b,K,K',st,H,hk,h=>by
  simp only[vc] at h ⊢;refine zqm b (λe st H h'=>?_) h;cases e with
  | exit k =>
   simp only at h' ⊢;cases hb:Xe k id with
   | true=>simp only[hb] at h' ⊢;exact hk _ _ _ h'
   | false=>simp only[hb] at h' ⊢;exact hk _ _ _ h'
  | _=>exact hk _ _ _ h'
 | .loop b,K,K',st,H,hk,h=>by
  simp only[vc] at h ⊢;cases hf:zyv b with
  | none=>simp[hf] at h
  | some id =>
   cases hm:mod C b none with
   | none =>
    rw[hf,hm] at h;refine zqm b (λe st' H' h'=>?_) h;cases e <;> first|exact h'|exact hk _ _ _ h'
   | some mp =>
    obtain⟨ms,ps⟩:=mp;rw[hf,hm] at h;dsimp only at h ⊢;split at h
    ·unfold ybo at h ⊢;cases hl:ybt (C.lp id) st with
     | none=>simp[hl] at h
     | some v0 =>
      simp only[hl] at h ⊢;obtain⟨I,m,h0,h1⟩:=h;refine⟨I,m,h0,z5w h1 λvs h2 H hI=>zqm b (λe st' H' h'=>?_) (h2 H hI)⟩;cases e <;> first|exact h'|exact hk _ _ _ h'
    ·exact h.elim
 | .rangeFunc ..,_,_,_,_,_,h=>h
 | .scope _,_,_,_,_,_,h=>h
 | .label _,_,_,_,_,_,h=>h
 | .goto _,_,_,_,_,_,h=>h
 | .refuse _,_,_,_,_,_,h=>h
def z0y(C:Cfg)(c:Code)(e:Exit)(st st':St):Prop :=
 match e with
 | .normal=>∃ms ps,mod C c none=some (ms,ps)/\z0x ms ps st st'
 | .exit k=>∃ms ps,mod C c (some k)=some (ms,ps)/\z0x ms ps st st'
 | _=>True
theorem z6q{x y:Md}(h:x=some (ms,ps))(hk:z0x ms ps st st'):∃ms' ps',Md.alt x y=some (ms',ps')/\z0x ms' ps' st st':=by
 subst h;cases y with
 | none=>exact⟨ms,ps,rfl,hk⟩
 | some z =>
  obtain⟨c,d⟩:=z;exact⟨_,_,rfl,hk.up (λt ht=>by simp only[ydl,Qn] at ht;exact ht.1) (λt ht=>by simp only[ydl,Qn] at ht;exact ht.1)⟩
theorem z6r{x y:Md}(h:y=some (ms,ps))(hk:z0x ms ps st st'):∃ms' ps',Md.alt x y=some (ms',ps')/\z0x ms' ps' st st':=by
 subst h;cases x with
 | none=>exact⟨ms,ps,rfl,hk⟩
 | some z =>
  obtain⟨c,d⟩:=z;exact⟨_,_,rfl,hk.up (λt ht=>by simp only[ydl,Qn] at ht;exact ht.2) (λt ht=>by simp only[ydl,Qn] at ht;exact ht.2)⟩
theorem x0a{x y:Md}(h:x=some (ms,ps))(h':y=some (ms',ps'))(hk:z0x ms ps st st1)(hk':z0x ms' ps' st1 st'):∃a b,Md.seq x y=some (a,b)/\z0x a b st st':=by
 subst h;subst h';exact⟨_,_,rfl,hk.trans hk'⟩
end Go.Eng
namespace Go.Eng
variable{st:St}
theorem y4b{ms:List Nat}{base:Env}{t:Nat}:∀{l:List (Nat×z11)}{vs:List Value},(∀x∈l,x.1≠t)->y4a ms base l vs t=match ydk t ms with
  | true=>none
  | false=>match base t with
   | some (g,v)=>match g.any λp=>ydk p.1 ms with
    | true=>none
    | false=>some (g,v)
   | none=>none
 | [],_,_=>rfl
 | x :: l,vs,h=>by
  have hb:Xe t x.1=false:=by
   cases hx:Xe t x.1 with
   | false=>rfl
   | true=>exact absurd ((Nat.beq_iff _ _).1 hx).symm (h x (Qy ..))
  simp only[y4a,hb];exact y4b (l:=l) λy hy=>h y (Qu _ hy)
theorem y4d{base:z1r}{k:Nat}:∀{l:List (Nat×List z11)}{vs:List Value},(∀x∈l,x.1≠k)->y4c base l vs k=base k
 | [],_,_=>rfl
 | x :: l,vs,h=>by
  have hb:Xe k x.1=false:=by
   cases hx:Xe k x.1 with
   | false=>rfl
   | true=>exact absurd ((Nat.beq_iff _ _).1 hx).symm (h x (Qy ..))
  simp only[y4c,hb];exact y4d (l:=l) λy hy=>h y (Qu _ hy)
theorem y4f{base:z1r}{k:Nat}{cs:List Value}{T:TypeId}(hb:base k=some (cs,T)):∀{l:List (Nat×List z11)}{vs:List Value},∃cs',y4c base l vs k=some (cs',T)
 | [],_=>⟨cs,hb⟩
 | x :: l,vs=>by
  cases hx:Xe k x.1 with
  | false=>simp only[y4c,hx];exact y4f hb
  | true =>
   have e:=(Nat.beq_iff _ _).1 hx;simp only[y4c,hx];rw[← e,hb];exact⟨_,rfl⟩
theorem y4i{ms ps:List Nat}{l:Lp}{vs:List Value}(h1:(l.1.all λx=>ydk x.1 ms)=true)(h2:(l.2.all λx=>ydk x.1 ps)=true):z0x ms ps st (y4g ms l st vs):=by
 simp only[Qx] at h1 h2;refine⟨λt g v a b c=>?_,λj a b=>?_,λj cs T hj=>y4f hj⟩
 ·simp only[y4g];rw[y4b λx hx e=>by have:=h1 x hx;rw[e,a] at this;cases this];have hg:(g.any λp=>ydk p.1 ms)=false:=by
   rw[Q7];intro p hp;rw[b p hp];simp
  rw[a,c];simp only[hg]
 ·simp only[y4g];exact y4d λx hx e=>by have:=h2 x hx;rw[e,a] at this;cases this
theorem zti{C:Cfg}{id:Nat}{ops:Array Oper}{k:St->Hp->Prop}{H:Hp}(h:zth C id ops k st H):zth C id ops (λst' H'=>z0x (yl6 C ops.toList).1 (yl6 C ops.toList).2 st st'/\k st' H') st H:=by
 unfold zth at *
 cases hp1:C.perm id with
 | none=>simp[hp1] at h
 | some l =>
  simp only[hp1] at h ⊢;cases h2:C.perm2 id with
  | none =>
   simp only[h2] at h ⊢;cases ho:ypc C ops l with
   | true=>simp only[ho] at h ⊢;exact yb1 h
   | false=>simp[ho] at h
  | some y =>
   have go:∀{st1:St}{H1:Hp}{m:List Nat},z0x (yl6 C ops.toList).1 (yl6 C ops.toList).2 st st1->yay C true ops m k st1 H1->yay C true ops m (λst' H'=>z0x (yl6 C ops.toList).1 (yl6 C ops.toList).2 st st'/\k st' H') st1 H1 :=
    λhk hA=>yb2 (λst2 H2 ⟨hk',h''⟩=>⟨(hk.trans hk').up (λt ht=>by rw[ydl,ht];rfl) (λt ht=>by rw[ydl,ht];rfl),h''⟩) (yb1 hA)
   obtain⟨n,b⟩:=y;cases b with
   | false =>
    simp only[h2] at h ⊢;cases hq:ypd C ops l n with
    | false=>simp[hq] at h
    | true =>
     simp only[hq] at h ⊢;unfold xa5 at *
     split at h
     ·rename_i x d Zw hd;exact yb2 (λst1 H1 ⟨hk,hA,hB⟩=>⟨go hk hA,go hk hB⟩) (yb1 h)
     ·exact h.elim
   | true =>
    simp only[h2] at h ⊢;cases hq:ype C ops l n with
    | false=>simp[hq] at h
    | true =>
     simp only[hq] at h ⊢;unfold x8p at *
     split at h
     ·rename_i x m d Zw hd;refine yb2 (λst1 H1 ⟨hk,hA,hB⟩=>⟨go hk hA,?_⟩) (yb1 h);exact yb2 (λst2 H2 ⟨hk',hA,hB⟩ =>
       have hk2:=(hk.trans hk').up (ms':=(yl6 C ops.toList).1) (ps':=(yl6 C ops.toList).2) (λt ht=>by rw[ydl,ht];rfl) (λt ht=>by rw[ydl,ht];rfl)
       ⟨go hk2 hA,go hk2 hB⟩) (yb1 hB)
     ·exact h.elim
theorem zql{C:Cfg}:∀(c:Code){K:Kc}{st:St}{H:Hp},vc C c K st H->vc C c (λe st' H'=>z0y C c e st st'/\K e st' H') st H
 | .skip,_,st,_,h=>⟨⟨_,_,rfl,z0x.refl _ _ st⟩,h⟩
 | .ret,_,_,_,h=>⟨trivial,h⟩
 | .exit id,_,st,_,h=>⟨⟨[],[],by simp[mod,Xf],z0x.refl _ _ st⟩,h⟩
 | .region id ops draw,K,st,H,h=>by
  simp only[vc] at h ⊢;have key:∀(dr:Bool)(l:List Nat),yay C dr ops l (K .normal) st H->yay C dr ops l (λst' H'=>z0y C (.region id ops draw) .normal st st'/\K .normal st' H') st H :=
   λdr l h=>yb2 (λst' H' ⟨hk,h'⟩=>⟨⟨_,_,rfl,hk⟩,h'⟩) (yb1 h)
  cases draw with
  | false=>exact key _ _ h
  | true=>exact ztj (λl st H h=>yb2 (λ_ _ h=>h) h) (λl j j' hj st H h=>yb2 hj h) (ztj (λl st1 H1 h1=>yb2 (λst' H' h'=>⟨⟨_,_,rfl,h'.1⟩,h'.2⟩) h1) (λl j j' hj st H h=>yb2 hj h) (zti h))
 | .seq a b,K,st,H,h=>by
  simp only[vc] at h ⊢;refine zqm a (λe st1 H1 h'=>?_) (zql a h);obtain⟨hk,h'⟩:=h';cases e with
  | normal =>
   obtain⟨ms,ps,hm,hk⟩:=hk;refine zqm b (λe st2 H2 h''=>?_) (zql b h');obtain⟨hk',h''⟩:=h'';refine⟨?_,h''⟩;cases e with
   | normal=>obtain⟨ms',ps',hm',hk'⟩:=hk';exact x0a hm hm' hk hk'
   | exit k =>
    obtain⟨ms',ps',hm',hk'⟩:=hk';obtain⟨x,y,h1,h2⟩:=x0a hm hm' hk hk';exact z6r h1 h2
   | _=>trivial
  | exit k =>
   obtain⟨ms,ps,hm,hk⟩:=hk;exact⟨z6q hm hk,h'⟩
  | _=>exact⟨trivial,h'⟩
 | .cond c a b,K,st,H,h=>by
  simp only[vc] at h ⊢;split at h
  ·refine⟨λe=>?_,λe=>?_⟩
   ·refine zqm a (λe st1 H1 h'=>⟨?_,h'.2⟩) (zql a (h.1 e));cases e with
    | normal=>obtain⟨ms,ps,hm,hk⟩:=h'.1;exact z6q hm hk
    | exit k=>obtain⟨ms,ps,hm,hk⟩:=h'.1;exact z6q hm hk
    | _=>trivial
   ·refine zqm b (λe st1 H1 h'=>⟨?_,h'.2⟩) (zql b (h.2 e));cases e with
    | normal=>obtain⟨ms,ps,hm,hk⟩:=h'.1;exact z6r hm hk
    | exit k=>obtain⟨ms,ps,hm,hk⟩:=h'.1;exact z6r hm hk
    | _=>trivial
  ·exact h.elim
 | .block id b,K,st,H,h=>by
  simp only[vc] at h ⊢;refine zqm b (λe st1 H1 h'=>?_) (zql b h);obtain⟨hk,h'⟩:=h';cases e with
  | normal=>obtain⟨ms,ps,hm,hk⟩:=hk;exact⟨z6q hm hk,h'⟩
  | exit k =>
   obtain⟨ms,ps,hm,hk⟩:=hk;simp only at h' ⊢;cases hb:Xe k id with
   | true =>
    simp only[hb] at h' ⊢;have e:=(Nat.beq_iff _ _).1 hb;subst e;exact⟨z6r hm hk,h'⟩
   | false =>
    simp only[hb] at h' ⊢;refine⟨⟨ms,ps,?_,hk⟩,h'⟩;have:Xe id k=false:=by
     cases hx:Xe id k with
     | false=>rfl
     | true=>rw[(Nat.beq_iff _ _).1 hx,Xf] at hb;cases hb
    simp only[mod,this];exact hm
  | _=>exact⟨trivial,h'⟩
 | .loop b,K,st,H,h=>by
  simp only[vc] at h ⊢;cases hf:zyv b with
  | none=>simp[hf] at h
  | some id =>
   cases hm:mod C b none with
   | none =>
    rw[hf,hm] at h;refine zqm b (λe st1 H1 h'=>?_) (zql b h);obtain⟨hk,h'⟩:=h';cases e with
    | normal=>exact h'
    | exit k=>obtain⟨ms,ps,hm',hk⟩:=hk;exact⟨z6q hm' hk,h'⟩
    | _=>exact⟨trivial,h'⟩
   | some mp =>
    obtain⟨ms,ps⟩:=mp;rw[hf,hm] at h;dsimp only at h ⊢;split at h
    ·rename_i hps;simp only[Qj] at hps;unfold ybo at h ⊢;cases hl:ybt (C.lp id) st with
     | none=>simp[hl] at h
     | some v0 =>
      simp only[hl] at h ⊢;obtain⟨I,m,h0,h1⟩:=h;refine⟨I,m,h0,z5w h1 λvs h2 H hI=>zqm b (λe st1 H1 h'=>?_) (zql b (h2 H hI))⟩;obtain⟨hk,h'⟩:=h';cases e with
      | normal=>exact h'
      | exit k =>
       obtain⟨ms',ps',hm',hk⟩:=hk;obtain⟨x,y,e1,e2⟩:=x0a hm hm' (y4i hps.1.2 hps.2) hk;exact⟨z6r e1 e2,h'⟩
      | _=>exact⟨trivial,h'⟩
    ·exact h.elim
 | .rangeFunc ..,_,_,_,h=>h.elim
 | .scope _,_,_,_,h=>h.elim
 | .label _,_,_,_,h=>h.elim
 | .goto _,_,_,_,h=>h.elim
 | .refuse _,_,_,_,h=>h.elim
end Go.Eng
namespace Go.Eng
variable{w:World}{st st':St}
theorem z7a{R:Type}:∀{ls:List z11}{r:Cur R ls}{vs:List Value}{x:R},z78 ls r vs=some x->∀f,z5v ls f->f vs
 | [],_,[],_,_,f,h=>h
 | [],_,_ :: _,_,h,_,_=>by simp[z78] at h
 | .int k :: ls,r,vs,x,h,f,hf=>by
  cases vs with
  | nil=>simp[z78] at h
  | cons v vs =>
   cases v with
   | int k' n =>
    simp only[z78] at h;split at h
    ·rename_i hk;have:=Zr hk;subst this;exact z7a h _ (hf n)
    ·cases h
   | _=>simp[z78] at h
 | .bool :: ls,r,vs,x,h,f,hf=>by
  cases vs with
  | nil=>simp[z78] at h
  | cons v vs =>
   cases v with
   | bool b=>simp only[z78] at h;exact z7a h _ (hf b)
   | _=>simp[z78] at h
 | .sl :: ls,r,vs,x,h,f,hf=>by
  cases vs with
  | nil=>simp[z78] at h
  | cons v vs =>
   cases v with
   | slice a n c=>simp only[z78] at h;exact z7a h _ (hf ⟨a,n,c⟩)
   | _=>simp[z78] at h
 | .ptr :: ls,r,vs,x,h,f,hf=>by
  cases vs with
  | nil=>simp[z78] at h
  | cons v vs =>
   cases v with
   | pointer a =>
    cases a with
    | none=>simp[z78] at h
    | some a=>simp only[z78] at h;exact z7a h _ (hf a)
   | _=>simp[z78] at h
 | .mp :: ls,r,vs,x,h,f,hf=>by
  cases vs with
  | nil=>simp[z78] at h
  | cons v vs =>
   cases v with
   | map r=>simp only[z78] at h;exact z7a h _ (hf r)
   | _=>simp[z78] at h
 | .val :: ls,r,vs,x,h,f,hf=>by
  cases vs with
  | nil=>simp[z78] at h
  | cons v vs=>simp only[z78] at h;exact z7a h _ (hf v)
 | .alt :: ls,r,vs,x,h,f,hf=>by
  cases vs with
  | nil=>simp[z78] at h
  | cons v vs =>
   cases v with
   | bool b=>simp only[z78] at h;exact z7a h _ (hf b)
   | _=>simp[z78] at h
theorem z79{R S:Type}:∀{ls:List z11}{r:Cur R ls}{s:Cur S ls}{vs:List Value}{x:R},z78 ls r vs=some x->∃y,z78 ls s vs=some y
 | [],_,s,[],_,_=>⟨s,rfl⟩
 | [],_,_,_ :: _,_,h=>by simp[z78] at h
 | .int k :: ls,r,s,vs,x,h=>by
  cases vs with
  | nil=>simp[z78] at h
  | cons v vs =>
   cases v with
   | int k' n =>
    simp only[z78] at h ⊢;split at h
    ·exact z79 h
    ·cases h
   | _=>simp[z78] at h
 | .bool :: ls,r,s,vs,x,h=>by
  cases vs with
  | nil=>simp[z78] at h
  | cons v vs =>
   cases v with
   | bool b=>simp only[z78] at h ⊢;exact z79 h
   | _=>simp[z78] at h
 | .sl :: ls,r,s,vs,x,h=>by
  cases vs with
  | nil=>simp[z78] at h
  | cons v vs =>
   cases v with
   | slice a n c=>simp only[z78] at h ⊢;exact z79 h
   | _=>simp[z78] at h
 | .ptr :: ls,r,s,vs,x,h=>by
  cases vs with
  | nil=>simp[z78] at h
  | cons v vs =>
   cases v with
   | pointer a =>
    cases a with
    | none=>simp[z78] at h
    | some a=>simp only[z78] at h ⊢;exact z79 h
   | _=>simp[z78] at h
 | .mp :: ls,r,s,vs,x,h=>by
  cases vs with
  | nil=>simp[z78] at h
  | cons v vs =>
   cases v with
   | map r=>simp only[z78] at h ⊢;exact z79 h
   | _=>simp[z78] at h
 | .val :: ls,r,s,vs,x,h=>by
  cases vs with
  | nil=>simp[z78] at h
  | cons v vs=>simp only[z78] at h ⊢;exact z79 h
 | .alt :: ls,r,s,vs,x,h=>by
  cases vs with
  | nil=>simp[z78] at h
  | cons v vs =>
   cases v with
   | bool b=>simp only[z78] at h ⊢;exact z79 h
   | _=>simp[z78] at h
structure z2j(st' st:St):Prop where
 env:∀t e,st.env t=some e->st'.env t=some e
 priv:∀j b,st.priv j=some b->st'.priv j=some b
 known:∀t g v,st.env t=some (g,v)->v.known st.priv
theorem Sim.weak{n:Nat}{ds:List Nat}{w0:World}{H0 H:Hp}{a:Act}(h:Sim n ds w0 H0 st' H a w)(hw:z2j st' st):Sim n ds w0 H0 st H a w:=by
 obtain⟨ids,hE,hP,hT⟩:=h;have hn:∀j,st.priv j≠none->st'.priv j≠none:=λj hj=>by
  cases hx:st.priv j with
  | none=>exact absurd hx hj
  | some b=>rw[hw.priv j b hx];simp
 exact⟨ids,⟨hE.size,hE.defers,λt g v ht=>hE.ok t g v (hw.env t _ ht),λt g v ht=>hE.no t g v (hw.env t _ ht),hw.known⟩,
  ⟨λj cs t hj=>hP.blk j cs t (hw.priv j _ hj),λj hj=>hP.hid j (hn j hj),λj hj=>hP.low j (hn j hj),λj k hj hk=>hP.inj j k (hn j hj) (hn k hk),hP.dfs⟩,hT⟩
theorem y4h{ms:List Nat}{base env':Env}(hb:∀t g v,ydk t ms=false->(∀p∈g,ydk p.1 ms=false)->base t=some (g,v)->env' t=some (g,v)) :
  ∀{l:List (Nat×z11)}{vs us:List Value},x3q env' l=some vs->∀t e,y4a ms base l (vs++us) t=some e->env' t=some e\/∃x∈l,x.1=t/\env' t=some e
 | [],vs,us,_,t,e,h=>by
  left;simp only[y4a] at h;split at h
  ·cases h
  ·rename_i hm;split at h
   ·rename_i g v hbt;split at h
    ·cases h
    ·rename_i hg;cases h;exact hb t g v hm (λp hp=>by rw[Q7] at hg;simpa using hg p hp) hbt
   ·cases h
 | (s,lf) :: l,vs,us,hv,t,e,h=>by
  simp only[x3q] at hv;split at hv
  ·rename_i v hs;split at hv
   ·rename_i vs' hv';cases hv;cases hx:Xe t s with
    | true =>
     simp only[y4a,hx,Qz] at h;cases h;have:=(Nat.beq_iff _ _).1 hx;subst this;exact .inl hs
    | false =>
     simp only[y4a,hx,Qz,List.tail_cons] at h;rcases y4h hb hv' t e h with h'|⟨x,hx',h'⟩
     ·exact .inl h'
     ·exact .inl h'.2
   ·cases hv
  ·cases hv
theorem head_priv'{base pr':z1r}(ht:∀j cs T,base j=some (cs,T)->∃cs',pr' j=some (cs',T)):∀{l:List (Nat×List z11)}{vs us:List Value}{k:Nat}{b:List Value×TypeId},
  ysf pr' l=some vs->((∀x∈l,x.1≠k)->base k≠none->pr' k=base k)->y4c base l (vs++us) k=some b->pr' k=some b
 | [],vs,us,k,b,_,hk,h=>by
  simp only[y4c] at h;rw[hk (by simp) (by simp[h]),h]
 | (j,ls) :: l,vs,us,k,b,hv,hk,h=>by
  simp only[ysf] at hv;split at hv
  ·rename_i cs T hj;split at hv
   ·rename_i vs' hlen hv';cases hv;have hlen':cs.length=ls.length:=Xm hlen;cases hx:Xe k j with
    | true =>
     have e:=(Nat.beq_iff _ _).1 hx;subst e;simp only[y4c,hx] at h;cases hb:base k with
     | none=>simp[hb] at h
     | some b0 =>
      obtain⟨c0,T0⟩:=b0;simp only[hb,Xo.injEq] at h;obtain⟨cs',h2⟩:=ht k c0 T0 hb;rw[hj] at h2;cases h2;rw[hj,← h];simp[← hlen']
    | false =>
     simp only[y4c,hx] at h;have hd:(cs++vs'++us).drop ls.length=vs'++us:=by rw[← hlen',Q1,Xd]
     rw[hd] at h;refine head_priv' ht hv' (λhn=>hk λx hx'=>?_) h;rcases Qv.1 hx' with rfl|hx'
     ·intro e;have e':j=k:=e;rw[e',Xf] at hx;cases hx
     ·exact hn x hx'
   ·cases hv
  ·cases hv
theorem x3r{env:Env}:∀{l:List (Nat×z11)}{vs:List Value},x3q env l=some vs->vs.length=l.length
 | [],vs,h=>by cases h;rfl
 | (s,lf) :: l,vs,h=>by
  simp only[x3q] at h;split at h
  ·split at h
   ·rename_i hv;cases h;simp[x3r hv]
   ·cases h
  ·cases h
theorem xbu{ms ps:List Nat}{l:Lp}{vs:List Value}(hv:ybt l st'=some vs)(hps:∀j,ydk j ps=true->st.priv j≠none->∃x∈l.2,x.1=j)(hkn:∀t g v,st.env t=some (g,v)->v.known st.priv)
  (he:∀t g v,ydk t ms=false->(∀p∈g,ydk p.1 ms=false)->st.env t=some (g,v)->st'.env t=some (g,v)) (hp:∀j,ydk j ps=false->st.priv j≠none->(∀x∈l.2,x.1≠j)->st'.priv j=st.priv j)
  (ht:∀j cs T,st.priv j=some (cs,T)->∃cs',st'.priv j=some (cs',T)):z2j st' (y4g ms l st vs):=by
 unfold ybt at hv;split at hv
 ·rename_i v1 v2 h1 h2;cases hv;have hlen:=x3r h1;refine⟨λt e h=>?_,λj b h=>?_,λt g v h=>?_⟩
  ·rcases y4h he h1 t e h with h|⟨_,_,_,h⟩ <;> exact h
  ·simp only[y4g] at h;have hd:(v1++v2).drop l.1.length=v2++[]:=by rw[← hlen,Xd];simp
   rw[hd] at h;refine head_priv' ht h2 (λhn hb=>?_) h;refine hp j ?_ hb hn;cases hm:ydk j ps with
   | false=>rfl
   | true=>obtain⟨x,hx,e⟩:=hps j hm hb;exact absurd e (hn x hx)
  ·
   cases v with
   | lit v=>trivial
   | ptr j o =>
    have key:∀(l1:List (Nat×z11))(vs:List Value),y4a ms st.env l1 vs t=some (g,.ptr j o)->st.env t=some (g,.ptr j o):=by
     intro l1;induction l1 with
     | nil =>
      intro vs h;simp only[y4a] at h;split at h
      ·cases h
      ·split at h
       ·rename_i hbt;split at h
        ·cases h
        ·cases h;exact hbt
       ·cases h
     | cons x l1 ih =>
      intro vs h;simp only[y4a] at h;split at h
      ·split at h <;> cases h
      ·exact ih _ h
    have h3:=hkn t g _ (key _ _ h);show (y4g ms l st (v1++v2)).priv j≠none;intro hn;cases hb:st.priv j with
    | none=>exact h3 hb
    | some b =>
     obtain⟨cs,T⟩:=b;obtain⟨cs',h4⟩:=y4f hb (l:=l.2) (vs:=(v1++v2).drop l.1.length);simp only[y4g] at hn;rw[h4] at hn;cases hn
 ·cases hv
def Qk(n:Nat)(ds:List Nat)(w0:World)(H0:Hp)(K:Kc):Exit->Act->World->Prop:=λe a w=>∃st H,Sim n ds w0 H0 st H a w/\K e st H
theorem xci{F:Fence}{m:Nat}{P:Program}{Q:Exit->Act->World->Prop}{a:Act}{c:Code}(I:Nat->Act->World->Prop)(n₀:Nat)(h₀:I n₀ a w)
  (round:∀n a w,I n a w->c.wpIn F m P (Exit.then (λa' w'=>∃n',n'<n/\I n' a' w') Q) a w):(Code.loop c).wpIn F m P Q a w:=by
 refine wpIn_loop (λa w=>∃n,I n a w) (λa w=>leastOf (λn=>I n a w)) ⟨n₀,h₀⟩ ?_;intro a w hI;refine wpIn_mono (round _ a w (leastOf_spec hI).1) ?_;intro e a' w' hq;cases e with
 | normal =>
  obtain⟨n',hlt,hI'⟩:=hq;exact show (∃n,I n a' w')/\leastOf (λn=>I n a' w')<leastOf (λn=>I n a w) from⟨⟨n',hI'⟩,Nat.lt_of_le_of_lt ((leastOf_spec ⟨n',hI'⟩).2 n' hI') hlt⟩
 | exit id=>exact hq
 | goto l=>exact hq
 | ret=>exact hq
 | panic ch=>exact hq
 | outgrown=>exact hq
theorem zqn{C:Cfg}{ds:List Nat}{ro:Option Nat}{w0:World}{H0:Hp}(hN:z1i C.P)(hM:C.P.follows .mixedOrders=true):∀(c:Code){K:Kc}{st:St}{H:Hp}{a:Act}{w:World},
  vc C c K st H->Sim C.n ds w0 H0 st H a w->c.wpIn (Fz ro) 0 C.P (Qk C.n ds w0 H0 K) a w
 | .skip,K,st,H,a,w,h,hs=>wpIn_skip ⟨st,H,hs,h⟩
 | .ret,K,st,H,a,w,h,hs=>wpIn_ret ⟨st,H,hs,h⟩
 | .exit id,K,st,H,a,w,h,hs=>wpIn_exit ⟨st,H,hs,h⟩
 | .region id ops draw,K,st,H,a,w,h,hs=>by
  simp only[vc] at h;cases draw with
  | false=>exact wpIn_region (yb3 hN (λa w h=>h) _ st H a w h hs)
  | true=>exact ztk hN hM (λa w h=>h) h hs
 | .seq x y,K,st,H,a,w,h,hs=>by
  simp only[vc] at h;refine wpIn_seq (wpIn_mono (zqn hN hM x h hs) λe a w hq=>?_);obtain⟨st',H',hs',h'⟩:=hq;cases e with
  | normal=>exact zqn hN hM y h' hs'
  | _=>exact⟨st',H',hs',h'⟩
 | .cond c x y,K,st,H,a,w,h,hs=>by
  simp only[vc] at h;split at h
  ·rename_i b hb;have e:a.eval c=.bool b:=by
    obtain⟨ids,hE,_,_⟩:=hs;exact hE.ev (g:=[]) (by simp[gH]) hb
   refine wpIn_cond e ?_;cases b with
   | true=>exact zqn hN hM x (h.1 rfl) hs
   | false=>exact zqn hN hM y (h.2 rfl) hs
  ·exact h.elim
 | .block id b,K,st,H,a,w,h,hs=>by
  simp only[vc] at h;refine wpIn_block (wpIn_mono (zqn hN hM b h hs) λe a w hq=>?_);obtain⟨st',H',hs',h'⟩:=hq;cases e with
  | exit k =>
   simp only[Exit.inBlock];by_cases hk:k=id
   ·subst hk;rw[Zp rfl];simp only[Xf] at h';exact⟨st',H',hs',h'⟩
   ·rw[Zn hk];have:Xe k id=false:=by
     cases hx:Xe k id with
     | false=>rfl
     | true=>exact absurd ((Nat.beq_iff _ _).1 hx) hk
    simp only[this] at h';exact⟨st',H',hs',h'⟩
  | _=>exact⟨st',H',hs',h'⟩
 | .loop b,K,st,H,a,w,h,hs=>by
  simp only[vc] at h;cases hf:zyv b with
  | none=>simp[hf] at h
  | some id =>
   cases hm:mod C b none with
   | none =>
    rw[hf,hm] at h;refine xci (λ_ a' w'=>a'=a/\w'=w) 0 ⟨rfl,rfl⟩ λn a' w' ⟨ha,hw⟩=>?_
    subst ha;subst hw;refine wpIn_mono (zqn hN hM b h hs) λe a w hq=>?_
    obtain⟨st',H',hs',h'⟩:=hq;cases e with
    | normal=>exact h'.elim
    | _=>exact⟨st',H',hs',h'⟩
   | some mp =>
    obtain⟨ms,ps⟩:=mp;rw[hf,hm] at h;dsimp only at h;split at h
    ·rename_i hps;simp only[Qj,Qx] at hps;obtain⟨⟨hps,hl1⟩,hl2⟩:=hps;have hps':∀j,ydk j ps=true->st.priv j≠none->∃x∈(C.lp id).2,x.1=j:=λj hj hn=>by
      rcases Ql _ _▸hps j (ydm.1 hj) with this|this
      ·obtain⟨x,hx,e⟩:=Q2.1 (ydm.1 this);exact⟨x,hx,e⟩
      ·exact absurd (yse this) hn
     unfold ybo at h;cases hl:ybt (C.lp id) st with
     | none=>simp[hl] at h
     | some v0 =>
      simp only[hl] at h;obtain⟨I,m,h0,h1⟩:=h;have hkn:∀t g v,st.env t=some (g,v)->v.known st.priv:=by obtain⟨ids,hE,_,_⟩:=hs;exact hE.known
      cases ha0:z78 (Lp.leaves (C.lp id)) I v0 with
      | none=>simp[ha0] at h0
      | some p0 =>
       simp only[ha0] at h0;have hm0:∀vs (p:Hp->Prop),z78 (Lp.leaves (C.lp id)) I vs=some p->∃f,z78 (Lp.leaves (C.lp id)) m vs=some f:=by
        intro vs p hp;exact z79 hp
       obtain⟨f0,hf0⟩:=hm0 v0 p0 ha0;refine xci (λk a' w'=>∃vs H' p f,z78 (Lp.leaves (C.lp id)) I vs=some p/\p H'/\z78 (Lp.leaves (C.lp id)) m vs=some f/\f H'=k/\Sim C.n ds w0 H0 (y4g ms (C.lp id) st vs) H' a' w') (f0 H)
        ⟨v0,H,p0,f0,ha0,h0,hf0,rfl,hs.weak (xbu hl hps' hkn (λ_ _ _ _ _ h=>h) (λ_ _ _ _=>rfl) (λj cs T h=>⟨cs,h⟩))⟩ ?_
       intro k a1 w1 hJ;obtain⟨vs,H1,p,f,hp,hpH,hf1,hk,hs1⟩:=hJ;have h2:=z7a hp _ h1 H1 (by rw[hp];exact hpH);refine wpIn_mono (zqn hN hM b (zql b h2) hs1) λe a2 w2 hq=>?_
       obtain⟨st2,H2,hs2,hkeep,h'⟩:=hq;cases e with
       | normal =>
        obtain⟨ms',ps',hm',hke⟩:=hkeep;rw[hm] at hm';cases hm';simp only at h';cases hl':ybt (C.lp id) st2 with
        | none=>simp[hl'] at h'
        | some vs' =>
         simp only[hl'] at h';cases hp':z78 (Lp.leaves (C.lp id)) I vs' with
         | none=>simp[hp'] at h'
         | some p' =>
          cases hf':z78 (Lp.leaves (C.lp id)) m vs' with
          | none=>simp[hp',hf'] at h'
          | some f' =>
           simp only[hp',hf',hf1] at h';refine⟨f' H2,by rw[← hk];exact h'.2,vs',H2,p',f',hp',h'.1,hf',rfl,hs2.weak (xbu hl' hps' hkn (λt g v hm1 hm2 hb=>?_) (λj hm1 hb hn=>?_) (λj cs T hj=>?_))⟩
           ·by_cases hc:∃x∈(C.lp id).1,x.1=t
            ·obtain⟨x,hx,e⟩:=hc;have:=hl1 x hx;rw[e,hm1] at this;cases this
            ·refine hke.env t g v hm1 hm2 ?_;simp only[y4g];rw[y4b λx hx e=>hc ⟨x,hx,e⟩];have hg:(g.any λp=>ydk p.1 ms)=false:=by
              rw[Q7];intro p hp;rw[hm2 p hp];simp
             rw[hm1,hb];simp only[hg]
           ·have e1:(y4g ms (C.lp id) st vs).priv j=st.priv j:=y4d hn;rw[hke.priv j hm1 (by rw[e1];exact hb),e1]
           ·obtain⟨cs1,h3⟩:=y4f hj (l:=(C.lp id).2) (vs:=vs.drop (C.lp id).1.length);exact hke.typ j cs1 T h3
       | _=>exact⟨st2,H2,hs2,h'⟩
    ·exact h.elim
 | .rangeFunc ..,_,_,_,_,_,h,_=>h.elim
 | .scope _,_,_,_,_,_,h,_=>h.elim
 | .label _,_,_,_,_,_,h,_=>h.elim
 | .goto _,_,_,_,_,_,h,_=>h.elim
 | .refuse _,_,_,_,_,_,h,_=>h.elim
def yxs(C:Cfg)(st:St):List ResultVar->Option (List Value)
 | []=>some []
 | .tmp t :: rs=>match st.env.ev [] (.tmp t),yxs C st rs with
  | some (.lit v),some vs=>some (v :: vs)
  | _,_=>none
 | .cell t ty :: rs=>match st.env.ev [] (.tmp t),yxs C st rs with
  | some (.ptr j off),some vs=>match st.priv j with
   | some (cs,_)=>match Xi (off+C.P.cellsOf ty) cs.length&&(z5o C.P ty||Xe (C.P.cellsOf ty) 1)&&y48 C.P ty with
    | true=>some (mkV (z5o C.P ty) ((cs.drop off).take (C.P.cellsOf ty)) :: vs)
    | false=>none
   | none=>none
  | _,_=>none
def yxv(C:Cfg)(rs:List ResultVar)(Zw:Value->Hp->Prop):Kc:=λe st H=>match e with
 | .normal=>match yxs C st rs with
  | some [v]=>Zw v H
  | some vs=>Zw (.tuple vs.toArray) H
  | none=>False
 | .ret=>match yxs C st rs with
  | some [v]=>Zw v H
  | some vs=>Zw (.tuple vs.toArray) H
  | none=>False
 | _=>False
def zuc:List Value->Env
 | []=>λ_=>none
 | v :: vs=>λt=>match t with
  | 0=>some ([],.lit v)
  | t+1=>zuc vs t
theorem zud:∀{vs:List Value}{t:Nat}{e:Gd×V0},zuc vs t=some e->∃v,vs[t]?=some v/\e=([],.lit v)
 | [],t,e,h=>by cases h
 | v :: vs,0,e,h=>by cases h;exact⟨v,rfl,rfl⟩
 | v :: vs,t+1,e,h=>zud (vs:=vs) h
end Go.Eng
namespace Go.Eng
def yxr(tmps:Array Value):ResultVar->Sem Value
 | .tmp t=>pure (tmps.getD t undef)
 | .cell p t=>do loadVar t (← asAddr (tmps.getD p undef))
theorem yxu(fn:Func)(tmps:Array Value):results fn tmps=(do let vs ← fn.results.mapM (yxr tmps);pure (if h:vs.size=1 then vs[0] else .tuple vs)):=by
 unfold results;congr 1
theorem yyu{C:Cfg}{ds:List Nat}{st:St}{ids:Nat->Nat}{a:Act}{H:Hp}{w:World}{B:Nat}(hE:z0n C.n ds st.env st.priv ids a)(hP:z1t ds st.priv ids H w B) :
  ∀{rs:List ResultVar}{vs:List Value},yxs C st rs=some vs ->
   (rs.mapM (yxr a.tmps)).run C.P w=.ok vs w
 | [],vs,h=>by cases h;simp
 | .tmp t :: rs,vs,h=>by
  simp only[yxs] at h;split at h
  ·rename_i v vs' hv hr;cases h;have e:a.tmps.getD t undef=v:=hE.ev (g:=[]) (by simp[gH]) hv;rw[Xa,Xq];simp only[yxr,Xr,Xp,Xq,e];rw[yyu hE hP hr];rfl
  ·cases h
 | .cell p t :: rs,vs,h=>by
  simp only[yxs] at h;split at h
  ·rename_i j off vs' hv hr;split at h
   ·rename_i cs T hj;split at h
    ·rename_i hc;cases h;simp only[Qj,Ql,Nat.beq_iff] at hc;obtain⟨⟨hle,h1⟩,hu⟩:=hc;obtain⟨u,hu⟩:=y49 hu;have hle':off+C.P.cellsOf t<=cs.length:=Xj hle;have e:a.tmps.getD p undef=.pointer (some ⟨ids j,off,none⟩):=hE.ev (g:=[]) (by simp[gH]) hv;have hb:=hP.blk j cs T hj;have hrl:=run_loadVar' (P:=C.P) (w:=w) (t:=t) (p:=⟨ids j,off,none⟩) (vs:=(cs.drop off).take (C.P.cellsOf t)) hu (λi v h=>by
      rw[z40];rw[List.getElem?_take] at h;split at h
      ·rw[List.getElem?_drop] at h;simp[World.cell?,hb,h]
      ·cases h) (by simp;omega) h1
     rw[Xa,Xq];have e1:(yxr a.tmps (.cell p t)).run C.P w=.ok (mkV (z5o C.P t) ((cs.drop off).take (C.P.cellsOf t))) w:=by
      simp only[yxr,Xq,e,asAddr,Xr,Xp,hrl]
     rw[e1,Xp,Xq,yyu hE hP hr];rfl
    ·cases h
   ·cases h
  ·cases h
theorem Fn.of_vc{C:Cfg}{f:FuncId}{fn:Func}{c:Code}{args:List Value}{H:Hp}{Zw:Value->Hp->Prop}(hN:z1i C.P)(hM:C.P.follows .mixedOrders=true)
  (hf:C.P.funcs[f]?=some fn) (hb:fn.body=some c) (hn:fn.ntmps=C.n) (ha:Xi args.length C.n=true)
  (h:vc C c (yxv C fn.results.toList Zw) ⟨zuc args,λ_=>none⟩ H):Fn C.P f args.toArray H Zw:=by
 intro w hv;have ha':=Xj ha;refine calls_of_wp hf hb ((wpIn_wide (n:=0)).1 (wpIn_mono (zqn (ds:=[]) (ro:=none) (w0:=w) (H0:=H) hN hM c h ?_) ?_))
 ·refine⟨λ_=>0,⟨by simp[hn];omega,rfl,λt g v ht _=>?_,λt g v ht hg=>?_,λt g v ht=>?_⟩,⟨λ_ _ _ h=>(by cases h),λ_ h=>absurd rfl h,λ_ h=>absurd rfl h,λ_ _ h=>absurd rfl h,λ_ h=>(by cases h)⟩,Tr.refl hv⟩
  ·obtain⟨v',h1,h2⟩:=zud ht;cases h2;have hlt:t<args.length:=by
    rcases Xh t args.length with h|h
    ·exact h
    ·simp[Xc h] at h1
   simp only[V0.val];rw[Qi,Qh (by simpa using hlt)];simp[h1]
  ·obtain⟨v',h1,h2⟩:=zud ht;cases h2;exact absurd (by simp[gH]) hg
  ·obtain⟨v',h1,h2⟩:=zud ht;cases h2;trivial
 ·intro e a w' hq;obtain⟨st,H',⟨ids,hE,hP,hT⟩,hk⟩:=hq;have fin:(match yxs C st fn.results.toList with
    | some [v]=>Zw v H'
    | some vs=>Zw (.tuple vs.toArray) H'
    | none=>False)->a.defers=[]/\∃v,(results fn a.tmps).run C.P w'=.ok v w'/\∃v1 H1,Ending.returned v=.returned v1/\Tr w H w' H1/\Zw v1 H1:=by
   intro hk;refine⟨hE.defers,?_⟩;cases hr:yxs C st fn.results.toList with
   | none=>simp[hr] at hk
   | some vs =>
    rw[hr] at hk;have hrun:=yyu (C:=C) hE hP hr;have hres:(results fn a.tmps).run C.P w'=.ok (if h:vs.toArray.size=1 then vs.toArray[0] else .tuple vs.toArray) w':=by
     rw[yxu,Xq,Qg,Xs,hrun];rfl
    refine⟨_,hres,?_⟩;refine⟨_,H',rfl,hT,?_⟩;split at hk
    ·rename_i v h1;cases h1;simpa using hk
    ·rename_i vs' hne h1;cases h1;have:vs.toArray.size≠1:=by
      intro hl;obtain⟨v,rfl⟩:=Xb.1 (by simpa using hl);exact hne v rfl
     rw[dif_neg this];exact hk
    ·exact hk.elim
  cases e with
  | normal=>exact fin hk
  | ret=>exact fin hk
  | _=>exact hk.elim
end Go.Eng
namespace Go.Eng
def zav(f:Func):Code :=
 match f.body with
 | some c=>c
 | none=>.skip
theorem zaw{f:Func}(h:f.body.isSome=true):f.body=some (zav f):=by
 unfold zav;cases hb:f.body with
 | none=>rw[hb] at h;cases h
 | some c=>rfl
def GoodP(P:Program):Prop:=z1i P/\P.follows .mixedOrders=true
theorem goodP{P:Program}(h1:(P.funcs.toList.all λfn=>fn.body.isNone||!(fn.name == "runtime.NumGoroutine"))=true)(h2:P.follows .mixedOrders=true):GoodP P:=by
 refine⟨λf fn hf hb=>?_,h2⟩;have hm:fn∈P.funcs.toList:=by simpa using Qe hf
 have:=Qx.1 h1 fn hm;cases hbb:fn.body with
 | none=>rw[hbb] at hb;cases hb
 | some c=>simpa[hbb] using this
def vcF(C:Cfg)(fn:Func)(args:List Value)(H:Hp)(Zw:Value->Hp->Prop):Prop :=
 vc C (zav fn) (yxv C fn.results.toList Zw) ⟨zuc args,λ_=>none⟩ H
theorem Fn.door{C:Cfg}{f:FuncId}{fn:Func}{args:List Value}{H:Hp}{Zw:Value->Hp->Prop}{T:Prop}(hP:GoodP C.P)(hf:C.P.funcs[f]?=some fn)
  (hb:(fn.body.isSome&&Xe fn.ntmps C.n&&Xi args.length C.n)=true) (e:T=vcF C fn args H Zw) (h:T):Fn C.P f args.toArray H Zw:=by
 simp only[Qj,Nat.beq_iff] at hb;have h':vcF C fn args H Zw:=by rw[← e];exact h
 exact Fn.of_vc hP.1 hP.2 hf (zaw hb.1.1) hb.1.2 hb.2 h'
end Go.Eng
namespace Go.Eng
variable{H H0:Hp}{w w0:World}{L:Nat}{C:Cfg}
theorem Tr.lput{w1:World}{H1:Hp}(h:Tr w H w1 H1){o:Obj}(hn:H L=Xn)(hv:w.heap[L]?=some o)(o':Obj):Tr w (H.put L o) (w1.putObj L o') (H1.put L o'):=by
 have hlt:=(Qa.1 hv).1;have hlt1:L<w1.heap.size:=Nat.lt_of_lt_of_le hlt h.size;refine⟨λb ob hb=>?_,λb hb hbn=>?_,λb hb=>?_,by rw[World.putObj_size];exact h.size,h.os,h.tape,h.output,h.drawn⟩
 ·by_cases e:b=L
  ·subst e;rw[Qr] at hb;cases hb;exact World.putObj_heap_same hlt1
  ·rw[Qp _ _ e] at hb;rw[World.putObj_heap_other e];exact h.view b ob hb
 ·have e:b≠L:=λe=>by subst e;rw[Qr] at hbn;cases hbn
  rw[Qp _ _ e] at hbn;rw[World.putObj_heap_other e];exact h.frame b hb hbn
 ·by_cases e:b=L
  ·subst e;left;simp
  ·rw[Qp _ _ e] at hb ⊢;exact h.fresh b hb
theorem Tr.putHid(h:Tr w0 H0 w H){b:Nat}(hn:H b=Xn)(hb:w0.heap.size<=b)(o:Obj):Tr w0 H0 (w.putObj b o) H:=by
 refine⟨λk ob hk=>?_,λk hk hkn=>?_,h.fresh,by rw[World.putObj_size];exact h.size,h.os,h.tape,h.output,h.drawn⟩
 ·have e:k≠b:=λe=>by subst e;rw[hn] at hk;cases hk
  rw[World.putObj_heap_other e];exact h.view k ob hk
 ·rw[World.putObj_heap_other (by omega)];exact h.frame k hk hkn
theorem z2i.of_put{o:Obj}(h:z2i w (H.put L o))(hn:H L=none):z2i w H/\w.heap[L]?=some o :=
 ⟨h.mono (Qq H o hn),h L o (by simp)⟩
theorem z0n.ds{n:Nat}{d d':List Nat}{env:Env}{pr:z1r}{ids:Nat->Nat}{a b:Act}(h:z0n n d env pr ids a)(hd:(⟨a.tmps,d'.map dfr⟩:Act)=b):z0n n d' env pr ids b:=by
 subst hd;exact⟨h.size,rfl,h.ok,h.no,h.known⟩
theorem z1t.none{pr:z1r}{ids:Nat->Nat}{H:Hp}{w:World}{B:Nat}(h:∀j,pr j=Xn):z1t [] pr ids H w B :=
 ⟨λj _ _ hj=>(by rw[h j] at hj;cases hj),λj hj=>absurd (h j) hj,λj hj=>absurd (h j) hj,λj _ hj=>absurd (h j) hj,λ_ hD=>(by cases hD)⟩
def ytj:List (Nat×Value)->Env->Env
 | [],env=>env
 | (p,v) :: l,env=>ytj l (env.put p (some ([],.lit v)))
theorem ytk{n:Nat}{pr:z1r}{ids:Nat->Nat}:∀(l:List (Nat×Value)){env:Env}{t:Array Value},(∀x∈l,x.1<n)->z0n n [] env pr ids { tmps:=t,defers:=[] } ->
  z0n n [] (ytj l env) pr ids { tmps:=l.foldl (λt (x:Nat×Value)=>t.setIfInBounds x.1 x.2) t,defers:=[] }
 | [],_,_,_,h=>h
 | (p,v) :: l,env,t,hl,h=>by
  refine ytk l (λx hx=>hl x (Qu _ hx)) ?_;have:=h.put (d:=p) (x:=some ([],.lit v)) (v:=v) (hl (p,v) Qy) λg1 v0 e=>by
   cases e;exact⟨rfl,λ_=>rfl,λhn=>absurd (by simp[gH]) hn,trivial⟩
  exact this
theorem y0h(ps:Array Tmp)(vs:List Value)(t:Array Value):(ps.zip vs.toArray).foldl (λt (x:Tmp×Value)=>t.setIfInBounds x.1 x.2) t=(ps.toList.zip vs).foldl (λt (x:Nat×Value)=>t.setIfInBounds x.1 x.2) t:=by
 rw[← Array.foldl_toList,Array.toList_zip]
structure z1x(C:Cfg)(g:Operand)(ps:Array Tmp)(assign body:Code)(Kn:Hp->Prop)(st:St)(H:Hp):Prop where
 priv:∀j,st.priv j=none
 small:∀p∈ps.toList,p<C.n
 go:∃(gf:FuncId)(lb:Array Value)(α:Type)(encs:α->List Value)(xs:List α)(Inv:List α->Hp->Prop)(Ok:α->Hp->Prop),
  st.env.ev [] g=some (.lit (.func (.func gf) #[] lb))/\zbt C.P gf/\(∀x,(encs x).length=ps.size)/\Inv [] H /\
  (∀pre x H',Inv pre H'->Ok x H'->vc C assign (λe st' H2=>e=.normal/\(∀j,st'.priv j=none)/\vc C body (λe _ H3=>e=.normal/\Inv (pre++[x]) H3) st' H2) ⟨ytj (ps.toList.zip (encs x)) st.env,st.priv⟩ H') /\
  (∀(L:Nat)(o:Obj),H L=none ->
   (∀pre x H',Inv pre H'->Ok x H'->H' L=none->FnY C.P L (encs x) (H'.put L o) λv Hx=>v=.bool true/\∃H3,Inv (pre++[x]) H3/\H3 L=none/\Hx=H3.put L o) ->
   Fn C.P gf (#[.func (.yield L) #[] #[]]++lb) (H.put L o) λ_ Hx=>∃H3,Inv xs H3/\H3 L=none/\Hx=H3.put L o) /\
  ∀H3,Inv xs H3->Kn H3
theorem xck(hN:z1i C.P)(hM:C.P.follows .mixedOrders=true){g:Operand}{ps:Array Tmp}{assign body:Code}{Kn:Hp->Prop}{st:St}{a:Act}
  (hr:z1x C g ps assign body Kn st H) (hs:Sim C.n [] w0 H0 st H a w) :
  (Code.rangeFunc g ps assign body).wpIn (Fz none) 0 C.P (λe a w'=>e=.normal/\∃D H3,Sim C.n [D] w0 H0 st H3 a w'/\Kn H3) a w:=by
 obtain⟨hpr,hsm,gf,lb,α,encs,xs,Inv,Ok,hg,hc,hps,h0,hbody,hit,hK⟩:=hr;obtain⟨ids,hE,hP,hT⟩:=hs;refine wpIn_rangeFunc ?_;intro fn hfn;obtain⟨rec,hrec⟩:∃rec:LoopState->Option Code->Loop,rec=λs pe=>{ state:=s,pending:=pe,fn,tmps:=a.tmps,params:=ps,assign,body,defers:=w.heap.size }:=⟨_,rfl⟩
 obtain⟨D,hD⟩:∃D,D=w.heap.size:=⟨_,rfl⟩;obtain⟨L,hL⟩:∃L,L=w.heap.size+1:=⟨_,rfl⟩;have hgv:a.eval g=.func (.func gf) #[] lb:=hE.ev (g:=[]) (by simp[gH]) hg;obtain⟨fnr,hf1,hf2⟩:=hc;obtain⟨hDn,t1⟩:=Tr.alloc hT.view (.deferred (some []));have t1':Tr w H (w.alloc (.deferred (some []))) H:=t1.forget (Qq H _ hDn);obtain⟨hLn,t2⟩:=Tr.alloc t1'.view (.loop (rec .ready none));have eL:(w.alloc (.deferred (some []))).heap.size=L:=by rw[World.size_alloc,hL]
 have t3:=t1'.trans t2;rw[eL] at hLn t3;obtain⟨W1,hW1⟩:∃W1,(w.alloc (.deferred (some []))).alloc (.loop (rec .ready none))=W1:=⟨_,rfl⟩;have t3:Tr w H W1 (H.put L (.loop (rec .ready none))):=by rw[← hW1];exact t3
 have hD1:W1.heap[D]?=some (.deferred (some [])):=by
  rw[← hW1,hD];have e1:((w.alloc (.deferred (some []))).alloc (.loop (rec .ready none))).heap[w.heap.size]?=(w.alloc (.deferred (some []))).heap[w.heap.size]?:=by
   show ((w.alloc (.deferred (some []))).heap.push _)[w.heap.size]?=_;rw[Array.getElem?_push,Zn (by rw[World.size_alloc];omega)]
  rw[e1];exact World.alloc_heap_new w _
 have round:∀pre x H',Inv pre H'->Ok x H'->H' L=none->FnY C.P L (encs x) (H'.put L (.loop (rec .ready none))) λv Hx=>v=.bool true/\∃H3,Inv (pre++[x]) H3/\H3 L=none/\Hx=H3.put L (.loop (rec .ready none)):=by
  intro pre x H' hi hox hn W hv;obtain⟨hvH,hWL⟩:=hv.of_put hn;have hy:=run_yield (P:=C.P) (args:=(encs x).toArray) hWL (by rw[hrec];simpa using hps x);rw[hrec] at hy;refine⟨fn,_,assign,body,hy,roundIn_of_wpIn trivial ?_⟩;have eR:(Fence.wide.inRound L)=Fz (some L):=rfl;rw[eR];have hEx:z0n C.n [] (ytj (ps.toList.zip (encs x)) st.env) st.priv ids { tmps:=(ps.zip (encs x).toArray).foldl (λt (p,v)=>t.setIfInBounds p v) a.tmps,defers:=[] }:=by
   have:=ytk (ps.toList.zip (encs x)) (λy hy=>hsm _ (List.of_mem_zip hy).1) (hE.ds (d':=[]) (b:={ tmps:=a.tmps,defers:=[] }) rfl);rw[← y0h] at this;exact this
  refine wpIn_mono (zqn (ds:=[]) (ro:=some L) (w0:=W) (H0:=H') hN hM assign (hbody pre x H' hi hox) ⟨ids,hEx,z1t.none hpr,Tr.refl hvH⟩) ?_;rintro e a1 W1 ⟨st1,H2,⟨ids1,hE1,hP1,hT1⟩,rfl,hp1,hb1⟩;have hL1:W1.heap[L]?=some (.loop (rec .ready none)):=(hT1.frame L (Qa.1 hWL).1 hn).trans hWL;have hLn2:H2 L=none:=hT1.none (Qa.1 hWL).1 hn;refine⟨_,run_beginRound hL1 (by rw[hrec]),?_⟩;have ta:=hT1.lput hn hWL (.loop { rec .ready none with state:=.busy });obtain⟨hv2,hWL2⟩:=ta.view.of_put hLn2;refine wpIn_mono (zqn (ds:=[]) (ro:=some L) (H0:=H2) hN hM body hb1 ⟨ids1,hE1,z1t.none hp1,Tr.refl hv2⟩) ?_;rintro e a3 W3 ⟨st3,H3,⟨ids3,_,_,hT3⟩,rfl,hi3⟩;have hL3:=(hT3.frame L (Qa.1 hWL2).1 hLn2).trans hWL2;have hLn3:H3 L=none:=hT3.none (Qa.1 hWL2).1 hLn2;have tb:=hT3.lput hLn2 hWL2 (.loop (rec .ready none));refine⟨_,_,?_,.bool true,_,rfl,ta.trans tb,rfl,H3,hi3,hLn3,rfl⟩;have:=run_endRound (P:=C.P) none hL3;rw[hrec] at this ⊢;exact this
 have itc:=hit L (.loop (rec .ready none)) hLn round W1 t3.view;have hent:(Instr.enterLoop fn a.tmps ps assign body none).run C.P w=.ok (L,[dfr D]) W1:=by
  rw[← hW1,hrec,hL,hD];exact run_enterLoop_outer _ _ _ _ _
 have hres:(resolve a.eval (rangeCall g L) 0).run C.P W1=.ok { target:=.fn (.func gf) lb,args:=#[.func (.yield L) #[] #[]] } W1:=by
  simp only[resolve,hgv];simp[go_sem]
 have hinv:(invoke (.fn (.func gf) lb) #[.func (.yield L) #[] #[]]).run C.P W1=.ok (.enter gf (#[.func (.yield L) #[] #[]]++lb)) W1:=by
  simp[invoke,yyn hN hf1 hf2]
 have hcall:CallsIn (Fz none) (0-1) C.P gf (#[.func (.yield L) #[] #[]]++lb) W1 (rangePost (Fz none) 0 C.P L (λe a w'=>e=.normal/\∃D H3,Sim C.n [D] w0 H0 st H3 a w'/\Kn H3) { a with defers:=[dfr D]++a.defers }):=by
  refine zbu (itc.mono ?_);rintro e W2 ⟨v,Hx,rfl,hTx,H3,hi3,hLn3,rfl⟩;obtain⟨hv3,hL3⟩:=hTx.view.of_put hLn3;refine⟨none,_,by have:=run_endLoop (P:=C.P) hL3 (by rw[hrec];simp);rw[hrec] at this;exact this,rfl,D,H3,?_,hK H3 hi3⟩;have hDn1:(H.put L (.loop (rec .ready none))) D=none:=by rw[Qp _ _ (by omega),hD];exact hDn
  have hDlt:=(Qa.1 hD1).1;have hDn3:H3 D=none:=by
   have:=hTx.none hDlt hDn1;rwa [Qp _ _ (by omega)] at this
  have hDh:W2.heap[D]?=some (.deferred (some [])):=(hTx.frame D hDlt hDn1).trans hD1;have hsz:=hT.size;refine⟨ids,hE.ds (d':=[D]) (by rw[hE.defers];rfl),⟨λj _ _ hj=>(by rw[hpr j] at hj;cases hj),λj hj=>absurd (hpr j) hj,λj hj=>absurd (hpr j) hj,λj _ hj=>absurd (hpr j) hj,λD' hD'=>?_⟩,?_⟩
  ·rw[List.mem_singleton.1 hD'];exact⟨by omega,hDn3,(World.putObj_heap_other (by omega)).trans hDh⟩
  ·exact(((hT.trans t3).trans hTx).forget (Qq H3 _ hLn3)).putHid hLn3 (by omega) _
 refine⟨L,[dfr D],W1,{ target:=.fn (.func gf) lb,args:=#[.func (.yield L) #[] #[]] },W1,gf,#[.func (.yield L) #[] #[]]++lb,W1,?_,?_,?_,?_,?_,?_⟩
 ·exact hent
 ·exact hres
 ·exact λ_ _=>trivial
 ·exact hinv
 ·exact λh=>(by cases h)
 ·exact hcall
theorem Fn.of_wp{f:FuncId}{fn:Func}{c:Code}{args:List Value}{Zw:Value->Hp->Prop}(hf:C.P.funcs[f]?=some fn)(hb:fn.body=some c)(hn:fn.ntmps=C.n)(ha:Xi args.length C.n=true)
  (h:∀w a,Sim C.n [] w H ⟨zuc args,λ_=>none⟩ H a w->c.wpIn (Fz none) 0 C.P (λe a w'=>∃ds,(ds=[]\/∃D,ds=[D])/\Qk C.n ds w H (yxv C fn.results.toList Zw) e a w') a w):Fn C.P f args.toArray H Zw:=by
 intro w hv;have ha':=Xj ha;refine(callsIn_wide (n:=0)).1 (callsIn_of_wp_marks hf hb trivial (wpIn_mono (h w _ ?_) ?_))
 ·refine⟨λ_=>0,⟨by simp[hn];omega,rfl,λt g v ht _=>?_,λt g v ht hg=>?_,λt g v ht=>?_⟩,z1t.none λ_=>rfl,Tr.refl hv⟩
  ·obtain⟨v',h1,h2⟩:=zud ht;cases h2;have hlt:t<args.length:=by
    rcases Xh t args.length with h|h
    ·exact h
    ·simp[Xc h] at h1
   simp only[V0.val];rw[Qi,Qh (by simpa using hlt)];simp[h1]
  ·obtain⟨v',h1,h2⟩:=zud ht;cases h2;exact absurd (by simp[gH]) hg
  ·obtain⟨v',h1,h2⟩:=zud ht;cases h2;trivial
 ·intro e a w' ⟨ds,hds,st,H',⟨ids,hE,hP,hT⟩,hk⟩;have fin:(match yxs C st fn.results.toList with
    | some [v]=>Zw v H'
    | some vs=>Zw (.tuple vs.toArray) H'
    | none=>False)->LeavesInM (Fz none) 0 C.P fn a.tmps (λe w'=>∃v H',e=.returned v/\Tr w H w' H'/\Zw v H') a.defers .returning w':=by
   intro hk;have res:∀w2,z1t [] st.priv ids H' w2 w.heap.size->Tr w H w2 H'->LeavesInM (Fz none) 0 C.P fn a.tmps (λe w'=>∃v H',e=.returned v/\Tr w H w' H'/\Zw v H') [] .returning w2:=by
    intro w2 hP2 hT2;cases hr:yxs C st fn.results.toList with
    | none=>simp[hr] at hk
    | some vs =>
     rw[hr] at hk;have hE2:z0n C.n [] st.env st.priv ids { tmps:=a.tmps,defers:=[] }:=hE.ds rfl;have hrun:=yyu (C:=C) hE2 hP2 hr;have hres:(results fn a.tmps).run C.P w2=.ok (if h:vs.toArray.size=1 then vs.toArray[0] else .tuple vs.toArray) w2:=by
      rw[yxu,Xq,Qg,Xs,hrun];rfl
     refine⟨_,hres,_,H',rfl,hT2,?_⟩;split at hk
     ·rename_i v h1;cases h1;simpa using hk
     ·rename_i vs' hne h1;cases h1;have:vs.toArray.size≠1:=by
       intro hl;obtain⟨v,rfl⟩:=Xb.1 (by simpa using hl);exact hne v rfl
      rw[dif_neg this];exact hk
     ·exact hk.elim
   rw[hE.defers];rcases hds with rfl|⟨D,rfl⟩
   ·exact res w' hP hT
   ·obtain⟨h1,h2,h3⟩:=hP.dfs D Qy;refine⟨by simp,.inl ⟨D,_,rfl,run_takeDeferred h3,res _ ⟨λj cs t hj=>?_,hP.hid,hP.low,hP.inj,λ_ hD=>(by cases hD)⟩ (hT.putHid h2 h1 _)⟩⟩;have hb:=hP.blk j cs t hj;have hne:ids j≠D:=λe=>by rw[e,h3] at hb;cases hb
    exact(World.putObj_heap_other hne).trans hb
  cases e with
  | normal=>exact fin hk
  | ret=>exact fin hk
  | _=>exact hk.elim
end Go.Eng
namespace Go.Eng
variable{C:Cfg}{H:Hp}
def OfL(ls:List z11)(vs:List Value):Prop:=∀f:List Value->Prop,z5v ls f->f vs
def z1s(pr:z1r):Prop:=∀j,pr j=none
def z0w(P:Program)(F:Value)(H:Hp){α:Type}(xs:List α)(Inv:List α->Hp->Prop)(Ok:α->List Value->Hp->Prop)(ar:List (Bool×List z11)):Prop :=
 ∃(gf:FuncId)(lb:Array Value),F=.func (.func gf) #[] lb/\zbt P gf/\∀(L:Nat)(o:Obj),H L=none ->
  (∀pre x vs H',OfL (ar.flatMap (·.2)) vs->Inv pre H'->Ok x vs H'->H' L=none->FnY P L (xa0 ar vs) (H'.put L o) λv Hx=>v=.bool true/\∃H3,Inv (pre++[x]) H3/\H3 L=none/\Hx=H3.put L o) ->
  Fn P gf (#[.func (.yield L) #[] #[]]++lb) (H.put L o) λ_ Hx=>∃H3,Inv xs H3/\H3 L=none/\Hx=H3.put L o
def yu6(C:Cfg)(g:Operand)(ps:Array Tmp)(assign body:Code)(Kn:Hp->Prop)(st:St)(H:Hp):Prop :=
 match Xe C.yp.length ps.size&&ps.toList.all (λp=>Xg p C.n) with
 | true=>match st.env.ev [] g with
  | some (.lit F)=>z1s st.priv/\∃(α:Type)(xs:List α)(Ok:α->List Value->Hp->Prop)(Inv:List α->Hp->Prop),z0w C.P F H xs Inv Ok C.yp/\Inv [] H /\
    (∀(pre:List α)(x:α),z5v (C.yp.flatMap (·.2)) λvs=>∀H',Inv pre H'->Ok x vs H'->vc C assign (λe st' H2=>match e with
     | .normal=>z1s st'.priv/\vc C body (λe _ H3=>match e with
      | .normal=>Inv (pre++[x]) H3
      | _=>False) st' H2
     | _=>False) ⟨ytj (ps.toList.zip (xa0 C.yp vs)) st.env,st.priv⟩ H')/\∀H3,Inv xs H3->Kn H3
  | _=>False
 | false=>False
def y7b:Code->Option (Code×Operand×Array Tmp×Code×Code)
 | .seq a (.block _ (.rangeFunc g ps s b))=>some (a,g,ps,s,b)
 | _=>none
def vcA(C:Cfg)(Kr:Kc):Code->St->Hp->Prop
 | .seq x b,st,H=>match y7b x with
  | some (a,g,ps,s,d)=>vc C a (λe st H=>match e with
   | .normal=>yu6 C g ps s d (λH3=>vc C b Kr st H3) st H
   | e=>Kr e st H) st H
  | none=>vc C x (λe st H=>match e with
   | .normal=>vcA C Kr b st H
   | e=>Kr e st H) st H
 | _,_,_=>False
def xb8(C:Cfg)(fn:Func)(args:List Value)(H:Hp)(Zw:Value->Hp->Prop):Prop :=
 vcA C (yxv C fn.results.toList Zw) (zav fn) ⟨zuc args,λ_=>none⟩ H
theorem xa1:∀(l:List (Bool×List z11))(vs:List Value),(xa0 l vs).length=l.length
 | [],_=>rfl
 | (_,_) :: l,vs=>congrArg (·+1) (xa1 l _)
theorem y7c{x a s b:Code}{g:Operand}{ps:Array Tmp}(h:y7b x=some (a,g,ps,s,b)):∃id,x=.seq a (.block id (.rangeFunc g ps s b)):=by
 unfold y7b at h;split at h
 ·cases h;exact⟨_,rfl⟩
 ·cases h
theorem z1x.of{g:Operand}{ps:Array Tmp}{assign body:Code}{Kn:Hp->Prop}{st:St}(h:yu6 C g ps assign body Kn st H):z1x C g ps assign body Kn st H:=by
 unfold yu6 at h;split at h
 ·rename_i hc;rw[Qj,Nat.beq_iff,Qx] at hc;split at h
  ·rename_i F hF;obtain⟨hp,α,xs,Ok,Inv,⟨gf,lb,rfl,hcal,hit⟩,h0,hb,hk⟩:=h;refine⟨hp,λp hm=>by have:=hc.2 p hm;rw[Nat.blt_eq] at this;exact this,gf,lb,α×List Value,λx=>xa0 C.yp x.2,xs.map (·,[]),λpre H=>Inv (pre.map (·.1)) H,λx H'=>OfL (C.yp.flatMap (·.2)) x.2/\Ok x.1 x.2 H',
    hF,hcal,λx=>(xa1 _ _).trans hc.1,h0,λpre x H' hi ho=>?_,λL o hL hr=>?_,λH3 hi=>?_⟩
   ·have:=ho.1 _ (hb (pre.map (·.1)) x.1) H' hi ho.2;refine zqm assign (λe st' H2 hk=>?_) this;cases e with
    | normal =>
     refine⟨rfl,hk.1,zqm body (λe st3 H3 hk=>?_) hk.2⟩;cases e with
     | normal=>exact⟨rfl,by simpa using hk⟩
     | _=>exact hk.elim
    | _=>exact hk.elim
   ·refine(hit L o hL λpre x vs H' hv hi ho hn=>(hr (pre.map (·,[])) (x,vs) H' (by simpa[Function.comp_def] using hi) ⟨hv,ho⟩ hn).mono λv Hx ⟨e,H3,h3,h4,h5⟩=>⟨e,H3,by simpa[Function.comp_def] using h3,h4,h5⟩).mono λv Hx ⟨H3,h3,h4,h5⟩=>⟨H3,by simpa[Function.comp_def] using h3,h4,h5⟩
   ·exact hk H3 (by simpa[Function.comp_def] using hi)
  ·exact h.elim
 ·exact h.elim
theorem xb7{C:Cfg}{w0:World}{H0:Hp}{K:Kc}(hN:z1i C.P)(hM:C.P.follows .mixedOrders=true):∀(c:Code){st:St}{H:Hp}{a:Act}{w:World},vcA C K c st H->Sim C.n [] w0 H0 st H a w ->
  c.wpIn (Fz none) 0 C.P (λe a w'=>∃ds,(ds=[]\/∃D,ds=[D])/\Qk C.n ds w0 H0 K e a w') a w
 | .seq x b,st,H,a,w,h,hs=>by
  unfold vcA at h;split at h
  ·rename_i a1 g ps s d hr;obtain⟨id,rfl⟩:=y7c hr;refine wpIn_seq (wpIn_seq (wpIn_mono (zqn (ds:=[]) (ro:=none) hN hM a1 h hs) ?_));rintro e a2 w2 ⟨st2,H2,hs2,hk2⟩;cases e with
   | normal =>
    refine wpIn_block (wpIn_mono (xck hN hM (z1x.of hk2) hs2) ?_);rintro e a3 w3 ⟨rfl,D,H3,hs3,hk3⟩;exact wpIn_mono (zqn (ds:=[D]) (ro:=none) hN hM b hk3 hs3) λe a w hq=>⟨[D],.inr ⟨D,rfl⟩,hq⟩
   | _=>exact⟨[],.inl rfl,st2,H2,hs2,hk2⟩
  ·refine wpIn_seq (wpIn_mono (zqn (ds:=[]) (ro:=none) hN hM x h hs) ?_);rintro e a2 w2 ⟨st2,H2,hs2,hk2⟩;cases e with
   | normal=>exact xb7 hN hM b hk2 hs2
   | _=>exact⟨[],.inl rfl,st2,H2,hs2,hk2⟩
 | .skip,_,_,_,_,h,_=>h.elim
 | .region ..,_,_,_,_,h,_=>h.elim
 | .cond ..,_,_,_,_,h,_=>h.elim
 | .block ..,_,_,_,_,h,_=>h.elim
 | .loop _,_,_,_,_,h,_=>h.elim
 | .rangeFunc ..,_,_,_,_,h,_=>h.elim
 | .exit _,_,_,_,_,h,_=>h.elim
 | .scope _,_,_,_,_,h,_=>h.elim
 | .label _,_,_,_,_,h,_=>h.elim
 | .goto _,_,_,_,_,h,_=>h.elim
 | .ret,_,_,_,_,h,_=>h.elim
 | .refuse _,_,_,_,_,h,_=>h.elim
theorem Fn.doorA{f:FuncId}{fn:Func}{args:List Value}{Zw:Value->Hp->Prop}{T:Prop}(hP:GoodP C.P)(hf:C.P.funcs[f]?=some fn)
  (hb:(fn.body.isSome&&Xe fn.ntmps C.n&&Xi args.length C.n)=true) (e:T=xb8 C fn args H Zw) (h:T):Fn C.P f args.toArray H Zw:=by
 simp only[Qj,Nat.beq_iff] at hb;have h':xb8 C fn args H Zw:=by rw[← e];exact h
 exact Fn.of_wp hf (zaw hb.1.1) hb.1.2 hb.2 λw a hs=>xb7 hP.1 hP.2 _ h' hs
end Go.Eng
namespace Go.Eng
end Go.Eng
end
