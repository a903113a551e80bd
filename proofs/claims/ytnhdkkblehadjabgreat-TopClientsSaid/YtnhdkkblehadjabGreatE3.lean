/- The engine, parts EngM, EngN, EngO, EngP, EngQ, EngR, EngS, EngT, EngU, EngV, EngW, put together. Conditions: none. -/
import Derived.Test.YtnhdkkblehadjabGreatE2
import Derived.Deep.LoopGhost
set_option linter.unusedVariables false
section
/- The engine, part M: regions. Conditions: none. -/
namespace Go.Eng

def y8j(o:Oper)(g:Gd):List Nat:=(o.op.operands.toList.filterMap fun | .tmp t=>some t|_=>none)++g.map (·.1)

def yah(d:Nat):List Nat->Bool
 | []=>false
 | x :: l=>Nat.beq x d||yah d l

theorem yaj{d:Nat}:∀{l:List Nat},yah d l=true↔d∈l
 | []=>by simp[yah]
 | x :: l=>by
  simp only[yah,Bool.or_eq_true,Nat.beq_iff,List.mem_cons,yaj (l:=l)]
  exact or_congr eq_comm Iff.rfl

def z6w(o:Oper)(g:Gd):Option Tmp->Bool
 | none=>true
 | some d=>!yah d (y8j o g)

def neD:Option Tmp->Option Tmp->Bool
 | some a,some b=>!Nat.beq a b
 | _,_=>true

def x3b(C:Cfg)(ops:Array Oper)(y x:Nat):Bool :=
 match ops[y]?,ops[x]? with
 | some oy,some ox=>match zjq ops (ops.size+1) oy,zjq ops (ops.size+1) ox with
  | some gy,some gx=>z6w ox gx oy.dst&&z6w oy gy ox.dst&&neD oy.dst ox.dst&&(swp (cls C oy) (cls C ox)||yvv (zax C oy) (zax C ox))
  | _,_=>false
 | _,_=>false

section
variable {P:Program} {draw:Bool}

theorem x7h{nf:NF}{g:Gd}{K:Kop}{pr:z1t}{H:Hp}(hf:NFG g nf)(h:nf.vc P draw K pr H)(hx:Ex H):nf.vc P draw (λs p H'=>Fg g s/\K s p H') pr H:=by
 cases nf with
 | bad=>exact h
 | pu ob x=>exact yge h λh'=>⟨hf,h'⟩
 | px ls ob x=>exact zt7 h λvs h'=>⟨h'.1,hf vs,h'.2⟩
 | rd ls ob x=>exact zt7 h λvs h'=>⟨h'.1,hf vs,h'.2⟩
 | ow f =>
  simp only[NF.vc] at h ⊢
  cases hff:f pr with
  | none=>simp[hff] at h
  | some y=>simp only[hff] at h ⊢;exact⟨hf pr _ _ hff,h⟩
 | al c x ob=>exact yge h λh' b H1 hb e=>⟨hf b,h' b H1 hb e⟩
 | ag gb x ob=>exact⟨λe b H1 hb e'=>⟨hf b,h.1 e b H1 hb e'⟩,λe=>⟨hf 0,h.2 e⟩⟩
 | cf g0 f args sh =>
  have hf':g=[]/\g0=[]:=hf
  obtain⟨rfl,rfl⟩:=hf'
  exact Fn.mono h λv H' hq=>yge hq λhq=>zt7 hq λvs hq=>⟨hq.1,Fg.some,hq.2⟩
 | cg gb g0 f args sh =>
  have hf':g0=g:=hf
  subst hf'
  exact⟨λe=>Fn.mono (h.1 e) λv H' hq=>yge hq λhq=>zt7 hq λvs hq=>⟨hq.1,Fg.some,hq.2⟩,λe=>⟨Fg.some,h.2 e⟩⟩
 | ce f args sh =>
  have hf':g=[]:=hf
  subst hf'
  exact Fn.mono h λv H' hq=>zt7 hq λvs hq=>⟨hq.1,Fg.some,hq.2⟩
 | cy l args sh =>
  have hf':g=[]:=hf
  subst hf'
  exact FnY.mono h λv H' hq=>zt7 hq λvs hq=>⟨hq.1,Fg.some,hq.2⟩
 | cv F args sh =>
  have hf':g=[]:=hf
  subst hf'
  obtain⟨f,first,cap,hF,hc,h⟩:=h
  exact⟨f,first,cap,hF,hc,Fn.mono h λv H' hq=>yge hq λhq=>zt7 hq λvs hq=>⟨hq.1,Fg.some,hq.2⟩⟩
 | ef s sh =>
  have hf':g=[]:=hf
  subst hf'
  intro w hv
  obtain⟨v,w',H',hr,ht,hq⟩:=h w hv
  exact⟨v,w',H',hr,ht,zt7 hq λvs hq=>⟨hq.1,Fg.some,hq.2⟩⟩
 | st ad vs=>exact⟨h.1,λH1 e=>⟨Fg.none,h.2 H1 e⟩⟩

end

theorem put_put{env:Env}{d e:Nat}{x y:Sl}(hne:d≠e)(hx:∀g v,x=some (g,v)->yay e g=false)(hy:∀g v,y=some (g,v)->yay d g=false):(env.put d x).put e y=(env.put e y).put d x:=by
 funext t
 by_cases h1:t=d
 ·subst h1
  rw[Env.put_at,Env.put_ne hne,Env.put_at]
  cases hxx:x with
  | none=>rfl
  | some z=>obtain⟨g,v⟩:=z;simp only[hx g v hxx]
 ·by_cases h2:t=e
  ·subst h2
   rw[Env.put_at,Env.put_ne h1,Env.put_at]
   cases hyy:y with
   | none=>rfl
   | some z=>obtain⟨g,v⟩:=z;simp only[hy g v hyy]
  ·rw[Env.put_ne h2,Env.put_ne h1,Env.put_ne h1,Env.put_ne h2]
   cases env t with
   | none=>rfl
   | some z =>
    obtain⟨g,v⟩:=z
    simp only
    cases h3:yay d g <;> cases h4:yay e g <;> simp[h3,h4]

theorem ypj{env:Env}{a b:Option Tmp}{x y:Sl}{ga gb:Gd}(hne:neD a b=true)(hx:Fg ga x)(hy:Fg gb y)(ha:∀e,b=some e->yay e ga=false)(hb:∀d,a=some d->yay d gb=false) :
  yph (yph env a x) b y=yph (yph env b y) a x:=by
 cases a with
 | none=>rfl
 | some d =>
  cases b with
  | none=>rfl
  | some e =>
   have hde:d≠e:=λh=>by subst h;simp[neD] at hne
   exact put_put hde (λg v h=>by rw[hx g v h];exact ha e rfl) (λg v h=>by rw[hy g v h];exact hb d rfl)

theorem yd1{a b:Option Tmp}(h:neD a b=true):neD b a=true:=by
 cases a with
 | none=>cases b <;> rfl
 | some d =>
  cases b with
  | none=>rfl
  | some e =>
   simp only[neD,Bool.not_eq_true'] at h ⊢
   cases hb:Nat.beq e d with
   | false=>rfl
   | true=>rw[(Nat.beq_iff _ _).1 hb,Nat.beq_refl] at h;cases h

theorem yb0{d:Nat}{o:Oper}{g:Gd}(h:yah d (y8j o g)=false):yay d g=false/\∀x∈o.op.operands,x≠.tmp d:=by
 have hn:d∉y8j o g:=λhm=>by rw[yaj.2 hm] at h;cases h
 refine⟨?_,λx hx e=>hn ?_⟩
 ·cases hm:yay d g with
  | false=>rfl
  | true =>
   obtain⟨p,hp,e⟩:=yaz.1 hm
   exact absurd (List.mem_append_right _ (List.mem_map.2 ⟨p,hp,e⟩)) hn
 ·subst e
  exact List.mem_append_left _ (List.mem_filterMap.2 ⟨.tmp d,by simpa using hx,rfl⟩)

theorem yhi{C:Cfg}{env:Env}{dst:Option Tmp}{s:Sl}{g:Gd}{gb:Bool}{o:Oper}(h:z6w o g dst=true):yhg C (yph env dst s) g gb o=yhg C env g gb o/\(yph env dst s).gb g=env.gb g:=by
 cases dst with
 | none=>exact⟨rfl,rfl⟩
 | some d =>
  simp only[z6w,Bool.not_eq_true'] at h
  obtain⟨hm,hx⟩:=yb0 h
  refine⟨yhh (λx hxm=>zse hm (hx x hxm)) λtc a b ho w=>?_,zzn hm⟩
  have htc:Operand.tmp tc≠.tmp d:=hx (.tmp tc) (by simp[ho,Op.operands])
  have hm':yay d ((tc,w) :: g)=false:=by
   simp only[yay,Bool.or_eq_false_iff]
   refine⟨?_,hm⟩
   cases hb:Nat.beq tc d with
   | false=>rfl
   | true=>exact absurd (by rw[(Nat.beq_iff _ _).1 hb]) htc
  exact⟨zse hm' (hx a (by simp[ho,Op.operands])),zse hm' (hx b (by simp[ho,Op.operands]))⟩

theorem x1s{C:Cfg}{ops:Array Oper}{y x:Nat}(hs:x3b C ops y x=true){k:St->Hp->Prop}{st:St}{H:Hp}(hx:Ex H)(h:x1n C true ops y (x1n C true ops x k) st H) :
  x1n C true ops x (x1n C true ops y k) st H:=by
 unfold x3b at hs
 cases hoy:ops[y]? with
 | none=>simp[hoy] at hs
 | some oy =>
  cases hox:ops[x]? with
  | none=>simp[hoy,hox] at hs
  | some ox =>
   cases hcy:zjq ops (ops.size+1) oy with
   | none=>simp[hoy,hox,hcy] at hs
   | some gy =>
    cases hcx:zjq ops (ops.size+1) ox with
    | none=>simp[hoy,hox,hcy,hcx] at hs
    | some gx =>
     simp only[hoy,hox,hcy,hcx,Bool.and_eq_true] at hs
     obtain⟨⟨⟨h1,h2⟩,h3⟩,h4⟩:=hs
     simp only[x1n,hoy,hox,hcy,hcx] at h ⊢
     cases hgy:st.env.gb gy with
     | none=>simp[hgy] at h
     | some by_ =>
      cases hdy:dOk C.n gy oy.dst with
      | false=>simp[hgy,hdy] at h
      | true =>
       simp only[hgy,hdy] at h
       -- the operation behind: its operands are known ahead
       have hinx:∀s,yhg C (yph st.env oy.dst s) gx=yhg C (yph st.env oy.dst s) gx:=λ_=>rfl
       have hgx0:∀s,(yph st.env oy.dst s).gb gx=st.env.gb gx:=λs=>(yhi (C:=C) (gb:=true) (s:=s) (env:=st.env) h1).2
       cases hgx:st.env.gb gx with
       | none =>
        exfalso
        obtain⟨s,p,H',_,h'⟩:=x7i h hx
        simp only[hgx0 s,hgx] at h'
       | some bx =>
        cases hdx:dOk C.n gx ox.dst with
        | false =>
         exfalso
         obtain⟨s,p,H',_,h'⟩:=x7i h hx
         simp only[hgx0 s,hgx,hdx] at h'
        | true =>
         simp only
         have hstep:=x7k (K':=λs p H'=>NF.vc C.P true (λsx pr H'=>Fg gy s/\Fg gx sx/\k ⟨yph (yph st.env oy.dst s) ox.dst sx,pr⟩ H') p H' (yhg C st.env gx bx ox)) (x7h (ye2) h hx) hx
          (λs p H' hx' h'=>by
           obtain⟨hfs,h'⟩:=h'
           simp only[hgx0 s,hgx,hdx] at h'
           rw[(yhi (C:=C) (gb:=bx) (s:=s) (env:=st.env) h1).1] at h'
           exact x7k (x7h ye2 h' hx') hx' λ_ _ _ _ h''=>⟨hfs,h''⟩)
         have hcomm:z0m C.P (yhg C st.env gy by_ oy) (yhg C st.env gx bx ox):=by
          rcases Bool.or_eq_true _ _▸h4 with h4|h4
          ·exact zow (P:=C.P) (ye5 (C:=C) (env:=st.env) (g:=gy) (gb:=by_) (o:=oy)) (ye5 (C:=C) (env:=st.env) (g:=gx) (gb:=bx) (o:=ox)) h4
            (λd hd he=>by rw[hd,he] at h3;simp[neD] at h3)
          ·exact zp6 (P:=C.P) (ye5 (C:=C) (env:=st.env) (g:=gy) (gb:=by_) (o:=oy)) (ye5 (C:=C) (env:=st.env) (g:=gx) (gb:=bx) (o:=ox)) h4
         have hsw:=hcomm _ _ _ hx hstep
         have hgy0:∀s,(yph st.env ox.dst s).gb gy=st.env.gb gy:=λs=>(yhi (C:=C) (gb:=true) (s:=s) (env:=st.env) h2).2
         have hme:∀(o:Oper)(g:Gd)(dst:Option Tmp),z6w o g dst=true->∀d,dst=some d->yay d g=false:=λo g dst h d hd=>by
          subst hd
          simp only[z6w,Bool.not_eq_true'] at h
          exact(yb0 h).1
         refine x7k hsw hx λs p H' hx' h'=>?_
         simp only[hgy0 s,hgy]
         rw[(yhi (C:=C) (gb:=by_) (s:=s) (env:=st.env) h2).1]
         refine x7k h' hx' λs' p' H'' _ h''=>?_
         obtain⟨f1,f2,hk⟩:=h''
         rw[ypj (ga:=gx) (gb:=gy) (yd1 h3) f2 f1 (hme ox gx oy.dst h1) (hme oy gy ox.dst h2)]
         exact hk

end Go.Eng
end
section
/- The engine,part N: a region whose order is open. Conditions: none. -/
namespace Go.Eng

def y7w(C:Cfg)(draw:Bool)(ops:Array Oper):List Nat->(St->Hp->Prop)->St->Hp->Prop
 | [],k=>k
 | i :: l,k=>x1n C draw ops i (y7w C draw ops l k)

theorem x1o{C:Cfg}{draw:Bool}{ops:Array Oper}{i:Nat}{k k':St->Hp->Prop}{st:St}{H:Hp}(h:x1n C draw ops i k st H)(hx:Ex H)(hk:∀st H,Ex H->k st H->k' st H):x1n C draw ops i k' st H:=by
 unfold x1n at *
 cases ho:ops[i]? with
 | none=>simp[ho] at h
 | some o =>
  simp only[ho] at h ⊢
  cases hc:zjq ops (ops.size+1) o with
  | none=>simp[hc] at h
  | some g =>
   simp only[hc] at h ⊢
   cases hb:st.env.gb g with
   | none=>simp[hb] at h
   | some gb =>
    cases hd:dOk C.n g o.dst with
    | false=>simp[hb,hd] at h
    | true =>
     simp only[hb,hd] at h ⊢
     exact x7k h hx λ_ _ _ hx' h'=>hk _ _ hx' h'

theorem zbp{C:Cfg}{ops:Array Oper}{x:Nat}{zs:List Nat}{k:St->Hp->Prop}:∀{ys:List Nat}{st:St}{H:Hp},(∀y∈ys,x3b C ops y x=true)->Ex H ->
  y7w C true ops (ys++x :: zs) k st H->x1n C true ops x (y7w C true ops (ys++zs) k) st H
 | [],_,_,_,_,h=>h
 | y :: ys,_,_,hs,hx,h =>
  x1s (hs y (List.mem_cons_self ..)) hx (x1o h hx λ_ _ hx' h'=>zbp (λz hz=>hs z (List.mem_cons_of_mem _ hz)) hx' h')

theorem y81{C:Cfg}{draw:Bool}{ops:Array Oper}{k:St->Hp->Prop}{ds:List Nat}{ro:Option Nat}{H0:Hp}{w0:World}{Q:Exit->Act->World->Prop}(hN:z1j C.P)(hq:∀a w,Kt C.n ds w0 H0 k a w->Q .normal a w) :
  ∀(l:List Nat)(st:St)(H:Hp)(a:Act)(w:World),y7w C draw ops l k st H->Sim C.n ds w0 H0 st H a w->wpOpsIn (Fz ro) 0 C.P ops Q l a w
 | [],st,H,a,w,h,hs=>hq a w ⟨st,H,hs,h⟩
 | i :: l,st,H,a,w,h,hs=>by
  rw[wpOpsIn_cons]
  exact wpOpIn_mono (λa w ⟨st,H,hs,h⟩=>y81 hN hq l st H a w h hs) (x1r hN h hs)

def z4r(ops:Array Oper)(i:Nat):List Nat :=
 match ops[i]? with
 | some o=>(o.after.toList.filter λe=>Region.binds .any e).map (·.on)
 | none=>[]

def zzu(ops:Array Oper):Nat->Nat->Nat->Bool
 | 0,_,_=>false
 | f+1,i,j=>match ops[j]? with
  | some o=>match o.guard with
   | some (g,_)=>yah g (z4r ops j)&&(yah i (z4r ops g)||zzu ops f i g)
   | none=>false
  | none=>false

theorem zzv{ops:Array Oper}{rem:List Nat}(hcl:∀e,e∉rem->∀d∈z4r ops e,d∉rem):∀(f i j:Nat),(∀d∈z4r ops j,d∉rem)->zzu ops f i j=true->i∉rem
 | 0,_,_,_,h=>by simp[zzu] at h
 | f+1,i,j,hj,h=>by
  unfold zzu at h
  split at h
  ·split at h
   ·rename_i g _ _
    simp only[Bool.and_eq_true,Bool.or_eq_true] at h
    have hg:=hj g (yaj.1 h.1)
    rcases h.2 with h2|h2
    ·exact hcl g hg i (yaj.1 h2)
    ·exact zzv hcl f i g (hcl g hg) h2
   ·cases h
  ·cases h

def zqn(ops:Array Oper)(i:Nat):Nat->Nat->List Nat->List Nat
 | 0,_,l=>l
 | n+1,k,l=>zqn ops i n (k+1) (match (z4r ops k).any (λe=>Nat.beq e i||yah e l) with
  | true=>k :: l
  | false=>l)

theorem zqo{ops:Array Oper}{rem:List Nat}{i:Nat}(hcl:∀e,e∉rem->∀d∈z4r ops e,d∉rem):∀(n k:Nat)(l:List Nat),(∀e∈l,(∀d∈z4r ops e,d∉rem)->i∉rem) ->
  ∀e∈zqn ops i n k l,(∀d∈z4r ops e,d∉rem)->i∉rem
 | 0,_,_,hl=>hl
 | n+1,k,l,hl=>by
  refine zqo hcl n (k+1) _ ?_
  split
  ·rename_i ha
   intro e he hd
   rcases List.mem_cons.1 he with rfl|he
   ·obtain⟨x,hx,h⟩:=List.any_eq_true.1 ha
    rcases Bool.or_eq_true _ _▸h with h|h
    ·have:x=i:=Nat.eq_of_beq_eq_true h
     subst this;exact hd _ hx
    ·exact hl x (yaj.1 h) (hcl x (hd x hx))
   ·exact hl e he hd
  ·exact hl

def z43(ops:Array Oper)(_ i j:Nat):Bool:=yah j (zqn ops i (j-i) (i+1) [])

theorem z44{ops:Array Oper}{rem:List Nat}(hcl:∀e,e∉rem->∀d∈z4r ops e,d∉rem)(f i j:Nat)(hj:∀d∈z4r ops j,d∉rem)(h:z43 ops f i j=true):i∉rem :=
 zqo hcl _ _ [] (λe he=>by cases he) j (yaj.1 h) hj

def zcb(C:Cfg)(ops:Array Oper):List Nat->Bool
 | []=>true
 | i :: l=>Nat.blt i ops.size&&!yah i l&&(z4r ops i).all (λe=>Nat.blt e ops.size&&!yah e (i :: l)) &&
  l.all (λj=>yah i (z4r ops j)||x3b C ops i j||zzu ops 40 i j||z43 ops 6 i j)&&zcb C ops l

theorem zaz{a b:Nat}:Nat.blt a b=true↔a<b:=⟨λh=>Nat.le_of_ble_eq_true h,λh=>Nat.ble_eq_true_of_le h⟩

theorem zcf{C:Cfg}{ops:Array Oper}{x:Nat}{zs:List Nat}:∀{ys:List Nat},zcb C ops (ys++x :: zs)=true->zcb C ops (ys++zs)=true/\(∀y∈ys,((yah y (z4r ops x)=true\/x3b C ops y x=true)\/zzu ops 40 y x=true)\/z43 ops 6 y x=true)/\x∉ys/\x∉zs
 | [],h=>by
  simp only[List.nil_append,zcb,Bool.and_eq_true] at h
  refine⟨h.2,by simp,by simp,λhm=>?_⟩
  have:=h.1.1.1.2
  rw[yaj.2 hm] at this;cases this
 | y :: ys,h=>by
  simp only[List.cons_append,zcb,Bool.and_eq_true,List.all_eq_true,Bool.not_eq_true',Bool.or_eq_true] at h
  obtain⟨⟨⟨⟨h1,h2⟩,h3⟩,h4⟩,h5⟩:=h
  obtain⟨i1,i2,i3,i4⟩:=zcf h5
  have hyn:∀{l:List Nat},yah y l=false->y∉l:=λh hm=>by rw[yaj.2 hm] at h;cases h
  have hny:∀{e:Nat}{l:List Nat},e∉l->yah e l=false:=λ{e l} h=>by
   cases hb:yah e l with
   | false=>rfl
   | true=>exact absurd (yaj.1 hb) h
  refine⟨?_,λz hz=>?_,λhm=>?_,i4⟩
  ·simp only[List.cons_append,zcb,Bool.and_eq_true,List.all_eq_true,Bool.not_eq_true',Bool.or_eq_true]
   refine⟨⟨⟨⟨h1,hny λhm=>hyn h2 ?_⟩,λe he=>⟨(h3 e he).1,hny λhm=>?_⟩⟩,λj hj=>h4 j ?_⟩,i1⟩
   ·rcases List.mem_append.1 hm with hm|hm
    ·exact List.mem_append_left _ hm
    ·exact List.mem_append_right _ (List.mem_cons_of_mem _ hm)
   ·have:=(h3 e he).2
    rw[yaj.2] at this
    ·cases this
    ·rcases List.mem_cons.1 hm with rfl|hm
     ·exact List.mem_cons_self ..
     ·rcases List.mem_append.1 hm with hm|hm
      ·exact List.mem_cons_of_mem _ (List.mem_append_left _ hm)
      ·exact List.mem_cons_of_mem _ (List.mem_append_right _ (List.mem_cons_of_mem _ hm))
   ·rcases List.mem_append.1 hj with hj|hj
    ·exact List.mem_append_left _ hj
    ·exact List.mem_append_right _ (List.mem_cons_of_mem _ hj)
  ·rcases List.mem_cons.1 hz with rfl|hz
   ·exact h4 x (List.mem_append_right _ (List.mem_cons_self ..))
   ·exact i2 z hz
  ·rcases List.mem_cons.1 hm with rfl|hm
   ·exact hyn h2 (List.mem_append_right _ (List.mem_cons_self ..))
   ·exact i3 hm

theorem zr8{C:Cfg}{ops:Array Oper}{k:St->Hp->Prop}{ds:List Nat}{ro:Option Nat}{H0:Hp}{w0:World}{Q:Exit->Act->World->Prop}(hN:z1j C.P)(hq:∀a w,Kt C.n ds w0 H0 k a w->Q .normal a w) :
  ∀(fuel:Nat)(rem:List Nat)(listed:Array Bool)(st:St)(H:Hp)(a:Act)(w:World),(∀e,e∉rem->∀d∈z4r ops e,d∉rem)->zcb C ops rem=true->listed.size=ops.size->(∀i,i<ops.size->(listed.getD i true=false↔i∈rem))->rem.length<=fuel ->
   y7w C true ops rem k st H->Sim C.n ds w0 H0 st H a w->wpAnyIn (Fz ro) 0 C.P .any ops Q fuel listed a w:=by
 intro fuel
 induction fuel with
 | zero =>
  intro rem listed st H a w _ _ hsz hl hf h hs
  have:rem=[]:=List.length_eq_zero_iff.1 (by omega)
  subst this
  refine⟨?_,hq a w ⟨st,H,hs,h⟩⟩
  rw[List.eq_nil_iff_forall_not_mem]
  intro j hj
  obtain⟨h0,o,ho,_⟩:=mem_ready.1 hj
  have:=(hl j (Array.getElem?_eq_some_iff.1 ho).1).1 h0
  cases this
 | succ fuel ih =>
  intro rem listed st H a w hcl hc hsz hl hf h hs
  have hlt:∀e,e<ops.size->e∉rem->listed.getD e false=true:=λe he hn=>by
   have h1:¬ listed.getD e true=false:=λh'=>hn ((hl e he).1 h')
   have h2:e<listed.size:=by rw[hsz];exact he
   simpa[h2] using h1
  refine⟨λh0=>?_,λj hj=>?_⟩
  ·cases rem with
   | nil=>exact hq a w ⟨st,H,hs,h⟩
   | cons i l =>
    exfalso
    simp only[zcb,Bool.and_eq_true,List.all_eq_true,Bool.not_eq_true'] at hc
    obtain⟨⟨⟨⟨h1,_⟩,h3⟩,_⟩,_⟩:=hc
    have hi:=zaz.1 h1
    have hr:i∈Region.ready .any ops listed:=by
     refine mem_ready.2 ⟨(hl i hi).2 (List.mem_cons_self ..),ops[i],by simp[hi],λe he hb=>?_⟩
     have hm:e.on∈z4r ops i:=by
      unfold z4r
      simp only[Array.getElem?_eq_getElem hi]
      exact List.mem_map.2 ⟨e,List.mem_filter.2 ⟨by simpa using he,hb⟩,rfl⟩
     obtain⟨h5,h6⟩:=h3 _ hm
     exact hlt _ (zaz.1 h5) λhmm=>by rw[yaj.2 hmm] at h6;cases h6
    rw[h0] at hr;cases hr
  ·obtain⟨h0,o,ho,hall⟩:=mem_ready.1 hj
   have hjlt:=(Array.getElem?_eq_some_iff.1 ho).1
   have hjr:=(hl j hjlt).1 h0
   obtain⟨ys,zs,rfl⟩:=List.append_of_mem hjr
   obtain⟨c1,c2,c3,c4⟩:=zcf hc
   have haf:∀d∈z4r ops j,d∉ys++j :: zs:=λd hd hdr=>by
    unfold z4r at hd
    simp only[ho] at hd
    obtain⟨e,he,rfl⟩:=List.mem_map.1 hd
    obtain⟨he1,he2⟩:=List.mem_filter.1 he
    have h1:=hall e (by simpa using he1) he2
    have h2:e.on<listed.size:=by
     rcases Nat.lt_or_ge e.on listed.size with h|h
     ·exact h
     ·simp[Array.getElem?_eq_none h] at h1
    have h3:=(hl e.on (by rw[← hsz];exact h2)).2 hdr
    simp[h2] at h1 h3
    rw[h1] at h3;cases h3
   have hsw:∀y∈ys,x3b C ops y j=true:=λy hy=>by
    rcases c2 y hy with((h'|h')|h')|h'
    ·exact absurd (List.mem_append_left _ hy) (haf y (yaj.1 h'))
    ·exact h'
    ·exact absurd (List.mem_append_left _ hy) (zzv hcl 40 y j haf h')
    ·exact absurd (List.mem_append_left _ hy) (z44 hcl 6 y j haf h')
   have hcl':∀e,e∉ys++zs->∀d∈z4r ops e,d∉ys++zs:=λe he d hd hdr=>by
    have hup:∀{d},d∈ys++zs->d∈ys++j :: zs:=λh=>by
     rcases List.mem_append.1 h with h|h
     ·exact List.mem_append_left _ h
     ·exact List.mem_append_right _ (List.mem_cons_of_mem _ h)
    by_cases hej:e=j
    ·subst hej;exact haf d hd (hup hdr)
    ·refine hcl e (λhm=>he ?_) d hd (hup hdr)
     rcases List.mem_append.1 hm with h|h
     ·exact List.mem_append_left _ h
     ·rcases List.mem_cons.1 h with h|h
      ·exact absurd h hej
      ·exact List.mem_append_right _ h
   have hx:Ex H:=by obtain⟨ids,_,_,hT⟩:=hs;exact⟨w,hT.view⟩
   have hb:=zbp hsw hx h
   refine wpOpIn_mono (λa' w' ⟨st',H',hs',h'⟩=>ih (ys++zs) (listed.setIfInBounds j true) st' H' a' w' hcl' c1 (by simp[hsz]) (λi hi=>?_) (by simp at hf ⊢;omega) h' hs') (x1r hN hb hs)
   by_cases hij:j=i
   ·subst hij
    have h2:j<listed.size:=by rw[hsz];exact hi
    constructor
    ·intro h'
     simp[h2] at h'
    ·intro h'
     rcases List.mem_append.1 h' with h'|h'
     ·exact absurd h' c3
     ·exact absurd h' c4
   ·rw[getD_set_ne true hij,hl i hi]
    constructor
    ·intro h'
     rcases List.mem_append.1 h' with h'|h'
     ·exact List.mem_append_left _ h'
     ·rcases List.mem_cons.1 h' with rfl|h'
      ·exact absurd rfl hij
      ·exact List.mem_append_right _ h'
    ·intro h'
     rcases List.mem_append.1 h' with h'|h'
     ·exact List.mem_append_left _ h'
     ·exact List.mem_append_right _ (List.mem_cons_of_mem _ h')

def yls(C:Cfg)(ops:Array Oper)(l:List Nat):Bool:=Nat.beq l.length ops.size&&(List.range ops.size).all (λi=>yah i l)&&zcb C ops l

theorem yso{C:Cfg}{ops:Array Oper}{k:St->Hp->Prop}{ds:List Nat}{ro:Option Nat}{H0 H:Hp}{w0 w:World}{Q:Exit->Act->World->Prop}{a:Act}{st:St}{id:Nat}{l:List Nat}(hN:z1j C.P)(hM:C.P.follows .mixedOrders=true)
  (hq:∀a w,Kt C.n ds w0 H0 k a w->Q .normal a w) (hl:yls C ops l=true) (h:y7w C true ops l k st H) (hs:Sim C.n ds w0 H0 st H a w):(Code.region id ops true).wpIn (Fz ro) 0 C.P Q a w:=by
 refine wpIn_region_any hM ?_
 simp only[yls,Bool.and_eq_true,Nat.beq_iff] at hl
 obtain⟨⟨hlen,hall⟩,hc⟩:=hl
 have hmem:∀i,i<ops.size->i∈l:=λi hi=>yaj.1 (List.all_eq_true.1 hall i (List.mem_range.2 hi))
 have hs':Sim C.n ds w0 H0 st H a { w with drawn:=w.drawn+1 }:=by
  obtain⟨ids,hE,hP,hT⟩:=hs
  exact⟨ids,hE,⟨hP.blk,hP.hid,hP.low,hP.inj,hP.dfs⟩,⟨hT.view,hT.frame,hT.fresh,hT.size,hT.os,hT.tape,hT.output,Nat.le_succ_of_le hT.drawn⟩⟩
 refine zr8 hN hq ops.size l (Array.replicate ops.size false) st H a _ (λe he d hd _=>?_) hc (by simp) (λi hi=>⟨λ_=>hmem i hi,λ_=>by simp[hi]⟩) (by omega) h hs'
 unfold z4r at hd
 rw[Array.getElem?_eq_none (Nat.le_of_not_lt λh=>he (hmem e h))] at hd
 cases hd

def zcc(C:Cfg)(ops:Array Oper)(x d:Nat):List Nat->Bool
 | []=>true
 | i :: l=>Nat.blt i ops.size&&!yah i l&&(z4r ops i).all (λe=>Nat.blt e ops.size&&!yah e (i :: l)) &&
  l.all (λj=>yah i (z4r ops j)||x3b C ops i j||zzu ops 40 i j||z43 ops 6 i j||(Nat.beq i x&&Nat.beq j d))&&zcc C ops x d l

theorem zcd{C:Cfg}{ops:Array Oper}{x d:Nat}:∀{l:List Nat},zcc C ops x d l=true->(x∉l\/d∉l)->zcb C ops l=true
 | [],_,_=>rfl
 | i :: l,h,hn=>by
  simp only[zcc,Bool.and_eq_true,List.all_eq_true,Bool.or_eq_true,Nat.beq_iff] at h
  obtain⟨⟨⟨⟨h1,h2⟩,h3⟩,h4⟩,h5⟩:=h
  have ih:=zcd h5 (by
   rcases hn with hn|hn
   ·exact .inl λhm=>hn (List.mem_cons_of_mem _ hm)
   ·exact .inr λhm=>hn (List.mem_cons_of_mem _ hm))
  simp only[zcb,Bool.and_eq_true,List.all_eq_true,Bool.or_eq_true]
  refine⟨⟨⟨⟨h1,h2⟩,h3⟩,λj hj=>?_⟩,ih⟩
  rcases h4 j hj with h|⟨rfl,rfl⟩
  ·exact h
  ·rcases hn with hn|hn
   ·exact absurd (List.mem_cons_self ..) hn
   ·exact absurd (List.mem_cons_of_mem _ hj) hn

theorem zce{C:Cfg}{ops:Array Oper}{p q x:Nat}{zs:List Nat}:∀{ys:List Nat},zcc C ops p q (ys++x :: zs)=true->zcc C ops p q (ys++zs)=true/\(∀y∈ys,(((yah y (z4r ops x)=true\/x3b C ops y x=true)\/zzu ops 40 y x=true)\/z43 ops 6 y x=true)\/(y=p/\x=q))/\x∉ys/\x∉zs
 | [],h=>by
  simp only[List.nil_append,zcc,Bool.and_eq_true] at h
  refine⟨h.2,by simp,by simp,λhm=>?_⟩
  have:=h.1.1.1.2
  rw[yaj.2 hm] at this;cases this
 | y :: ys,h=>by
  simp only[List.cons_append,zcc,Bool.and_eq_true,List.all_eq_true,Bool.not_eq_true',Bool.or_eq_true,Nat.beq_iff] at h
  obtain⟨⟨⟨⟨h1,h2⟩,h3⟩,h4⟩,h5⟩:=h
  obtain⟨i1,i2,i3,i4⟩:=zce h5
  have hyn:∀{l:List Nat},yah y l=false->y∉l:=λh hm=>by rw[yaj.2 hm] at h;cases h
  have hny:∀{e:Nat}{l:List Nat},e∉l->yah e l=false:=λ{e l} h=>by
   cases hb:yah e l with
   | false=>rfl
   | true=>exact absurd (yaj.1 hb) h
  refine⟨?_,λz hz=>?_,λhm=>?_,i4⟩
  ·simp only[List.cons_append,zcc,Bool.and_eq_true,List.all_eq_true,Bool.not_eq_true',Bool.or_eq_true,Nat.beq_iff]
   refine⟨⟨⟨⟨h1,hny λhm=>hyn h2 ?_⟩,λe he=>⟨(h3 e he).1,hny λhm=>?_⟩⟩,λj hj=>h4 j ?_⟩,i1⟩
   ·rcases List.mem_append.1 hm with hm|hm
    ·exact List.mem_append_left _ hm
    ·exact List.mem_append_right _ (List.mem_cons_of_mem _ hm)
   ·have:=(h3 e he).2
    rw[yaj.2] at this
    ·cases this
    ·rcases List.mem_cons.1 hm with rfl|hm
     ·exact List.mem_cons_self ..
     ·rcases List.mem_append.1 hm with hm|hm
      ·exact List.mem_cons_of_mem _ (List.mem_append_left _ hm)
      ·exact List.mem_cons_of_mem _ (List.mem_append_right _ (List.mem_cons_of_mem _ hm))
   ·rcases List.mem_append.1 hj with hj|hj
    ·exact List.mem_append_left _ hj
    ·exact List.mem_append_right _ (List.mem_cons_of_mem _ hj)
  ·rcases List.mem_cons.1 hz with rfl|hz
   ·exact h4 x (List.mem_append_right _ (List.mem_cons_self ..))
   ·exact i2 z hz
  ·rcases List.mem_cons.1 hm with rfl|hm
   ·exact hyn h2 (List.mem_append_right _ (List.mem_cons_self ..))
   ·exact i3 hm

theorem yp5{C:Cfg}{ops:Array Oper}{p q j:Nat}{rem:List Nat}{k:St->Hp->Prop}{st:St}{H:Hp}(hx:Ex H)(hcl:∀e,e∉rem->∀d∈z4r ops e,d∉rem)(hc:zcc C ops p q rem=true)(haf:∀d∈z4r ops j,d∉rem)(hjr:j∈rem)(hne:j≠q)
  (h:y7w C true ops rem k st H):∃ys zs,rem=ys++j :: zs/\zcc C ops p q (ys++zs)=true/\j∉ys/\j∉zs/\x1n C true ops j (y7w C true ops (ys++zs) k) st H:=by
 obtain⟨ys,zs,rfl⟩:=List.append_of_mem hjr
 obtain⟨c1,c2,c3,c4⟩:=zce hc
 have hsw:∀y∈ys,x3b C ops y j=true:=λy hy=>by
  rcases c2 y hy with(((h'|h')|h')|h')|h'
  ·exact absurd (List.mem_append_left _ hy) (haf y (yaj.1 h'))
  ·exact h'
  ·exact absurd (List.mem_append_left _ hy) (zzv hcl 40 y j haf h')
  ·exact absurd (List.mem_append_left _ hy) (z44 hcl 6 y j haf h')
  ·exact absurd h'.2 hne
 exact⟨ys,zs,rfl,c1,c3,c4,zbp hsw hx h⟩

theorem y82{listed:Array Bool}{n j:Nat}{rem rem':List Nat}(hsz:listed.size=n)(hjn:j<n)(hl:∀i,i<n->(listed.getD i true=false↔i∈rem))(hm:∀i,i∈rem'↔i∈rem/\i≠j) :
  ∀i,i<n->((listed.setIfInBounds j true).getD i true=false↔i∈rem'):=λi hi=>by
 by_cases hij:j=i
 ·subst hij
  have h2:j<listed.size:=by rw[hsz];exact hi
  rw[hm]
  constructor
  ·intro h';simp[h2] at h'
  ·intro h';exact absurd rfl h'.2
 ·rw[getD_set_ne true hij,hl i hi,hm]
  exact⟨λh=>⟨h,λe=>hij e.symm⟩,λh=>h.1⟩

theorem yaw{j:Nat}{ys zs:List Nat}(c3:j∉ys)(c4:j∉zs)(i:Nat):i∈ys++zs↔i∈ys++j :: zs/\i≠j:=by
 simp only[List.mem_append,List.mem_cons]
 constructor
 ·rintro(h|h)
  ·exact⟨.inl h,λe=>c3 (e▸h)⟩
  ·exact⟨.inr (.inr h),λe=>c4 (e▸h)⟩
 ·rintro⟨h|h|h,hn⟩
  ·exact .inl h
  ·exact absurd h hn
  ·exact .inr h

theorem y7x{C:Cfg}{draw:Bool}{ops:Array Oper}{k:St->Hp->Prop}:∀(l m:List Nat),y7w C draw ops (l++m) k=y7w C draw ops l (y7w C draw ops m k)
 | [],_=>rfl
 | i :: l,m=>by
  show x1n C draw ops i (y7w C draw ops (l++m) k)=x1n C draw ops i (y7w C draw ops l (y7w C draw ops m k))
  rw[y7x l m]

theorem y7y{C:Cfg}{draw:Bool}{ops:Array Oper}{k k':St->Hp->Prop}(hk:∀st H,Ex H->k st H->k' st H):∀(l:List Nat){st:St}{H:Hp},Ex H->y7w C draw ops l k st H->y7w C draw ops l k' st H
 | [],_,_,hx,h=>hk _ _ hx h
 | _ :: l,_,_,hx,h=>x1o h hx λ_ _ hx' h'=>y7y hk l hx' h'

def waits(ops:Array Oper)(x d j:Nat):Bool:=yah x (z4r ops j)||yah d (z4r ops j)||z43 ops 6 x j||z43 ops 6 d j

theorem zr9{C:Cfg}{ops:Array Oper}{k:St->Hp->Prop}{ds:List Nat}{ro:Option Nat}{H0:Hp}{w0:World}{Q:Exit->Act->World->Prop}{x d:Nat}{post:List Nat}(hxd:x≠d)(hN:z1j C.P)(hq:∀a w,Kt C.n ds w0 H0 k a w->Q .normal a w)(hw:∀j∈post,waits ops x d j=true) :
  ∀(fuel:Nat)(pre:List Nat)(listed:Array Bool)(st:St)(H:Hp)(a:Act)(w:World),(∀e,e∉pre++x :: d :: post->∀f∈z4r ops e,f∉pre++x :: d :: post)->zcc C ops x d (pre++x :: d :: post)=true->zcc C ops d x (pre++d :: x :: post)=true->listed.size=ops.size ->
   (∀i,i<ops.size->(listed.getD i true=false↔i∈pre++x :: d :: post))->(pre++x :: d :: post).length<=fuel ->
   y7w C true ops pre (λst H=>y7w C true ops (x :: d :: post) k st H/\y7w C true ops (d :: x :: post) k st H) st H->Sim C.n ds w0 H0 st H a w->wpAnyIn (Fz ro) 0 C.P .any ops Q fuel listed a w:=by
 intro fuel
 induction fuel with
 | zero =>
  intro pre listed st H a w _ _ _ _ _ hf _ _
  simp at hf
 | succ fuel ih =>
  intro pre listed st H a w hcl hc1 hc2 hsz hl hf h hs
  have hmm:∀i,i∈pre++x :: d :: post↔i∈pre++d :: x :: post:=λi=>by
   simp only[List.mem_append,List.mem_cons]
   constructor
   ·rintro(h|h|h|h)
    ·exact .inl h
    ·exact .inr (.inr (.inl h))
    ·exact .inr (.inl h)
    ·exact .inr (.inr (.inr h))
   ·rintro(h|h|h|h)
    ·exact .inl h
    ·exact .inr (.inr (.inl h))
    ·exact .inr (.inl h)
    ·exact .inr (.inr (.inr h))
  have hcl2:∀e,e∉pre++d :: x :: post->∀f∈z4r ops e,f∉pre++d :: x :: post:=λe he f hf' hdr=>hcl e (λh=>he ((hmm e).1 h)) f hf' ((hmm f).2 hdr)
  have hx:Ex H:=by obtain⟨ids,_,_,hT⟩:=hs;exact⟨w,hT.view⟩
  refine⟨λh0=>?_,λj hj=>?_⟩
  ·exfalso
   have hlt:∀e,e<ops.size->e∉pre++x :: d :: post->listed.getD e false=true:=λe he hn=>by
    have h1:¬ listed.getD e true=false:=λh'=>hn ((hl e he).1 h')
    have h2:e<listed.size:=by rw[hsz];exact he
    simpa[h2] using h1
   have key:∀(i:Nat)(l:List Nat),pre++x :: d :: post=i :: l->False:=λi l e=>by
    rw[e] at hc1 hlt hl
    simp only[zcc,Bool.and_eq_true,List.all_eq_true,Bool.not_eq_true'] at hc1
    obtain⟨⟨⟨⟨g1,_⟩,g3⟩,_⟩,_⟩:=hc1
    have hi:=zaz.1 g1
    have hr:i∈Region.ready .any ops listed:=by
     refine mem_ready.2 ⟨(hl i hi).2 (List.mem_cons_self ..),ops[i],by simp[hi],λe he hb=>?_⟩
     have hm:e.on∈z4r ops i:=by
      unfold z4r
      simp only[Array.getElem?_eq_getElem hi]
      exact List.mem_map.2 ⟨e,List.mem_filter.2 ⟨by simpa using he,hb⟩,rfl⟩
     obtain⟨h5,h6⟩:=g3 _ hm
     exact hlt _ (zaz.1 h5) λhmm=>by rw[yaj.2 hmm] at h6;cases h6
    rw[h0] at hr;cases hr
   cases pre with
   | nil=>exact key x (d :: post) rfl
   | cons i l=>exact key i _ rfl
  ·obtain⟨h0,o,ho,hall⟩:=mem_ready.1 hj
   have hjlt:=(Array.getElem?_eq_some_iff.1 ho).1
   have hjr:=(hl j hjlt).1 h0
   have haf:∀f∈z4r ops j,f∉pre++x :: d :: post:=λf hd hdr=>by
    unfold z4r at hd
    simp only[ho] at hd
    obtain⟨e,he,rfl⟩:=List.mem_map.1 hd
    obtain⟨he1,he2⟩:=List.mem_filter.1 he
    have h1:=hall e (by simpa using he1) he2
    have h2:e.on<listed.size:=by
     rcases Nat.lt_or_ge e.on listed.size with h|h
     ·exact h
     ·simp[Array.getElem?_eq_none h] at h1
    have h3:=(hl e.on (by rw[← hsz];exact h2)).2 hdr
    simp[h2] at h1 h3
    rw[h1] at h3;cases h3
   have haf2:∀f∈z4r ops j,f∉pre++d :: x :: post:=λf hd hdr=>haf f hd ((hmm f).2 hdr)
   have clos:∀(rem ys zs:List Nat),(∀e,e∉rem->∀d∈z4r ops e,d∉rem)->(∀d∈z4r ops j,d∉rem)->rem=ys++j :: zs->∀e,e∉ys++zs->∀d∈z4r ops e,d∉ys++zs:=λrem ys zs hcl haf er e he d hd hdr=>by
    have hup:∀{d},d∈ys++zs->d∈rem:=λh=>by
     rw[er]
     rcases List.mem_append.1 h with h|h
     ·exact List.mem_append_left _ h
     ·exact List.mem_append_right _ (List.mem_cons_of_mem _ h)
    by_cases hej:e=j
    ·subst hej;exact haf d hd (hup hdr)
    ·refine hcl e (λhm=>he ?_) d hd (hup hdr)
     rw[er] at hm
     rcases List.mem_append.1 hm with h|h
     ·exact List.mem_append_left _ h
     ·rcases List.mem_cons.1 h with h|h
      ·exact absurd h hej
      ·exact List.mem_append_right _ h
   have h1:y7w C true ops (pre++x :: d :: post) k st H:=by
    rw[y7x];exact y7y (λ_ _ _ h=>h.1) pre hx h
   have h2:y7w C true ops (pre++d :: x :: post) k st H:=by
    rw[y7x];exact y7y (λ_ _ _ h=>h.2) pre hx h
   by_cases e1:j=d
   · -- the second list goes on alone
    subst e1
    obtain⟨ys,zs,er,c1,c3,c4,hb⟩:=yp5 hx hcl2 hc2 haf2 ((hmm j).1 hjr) (λe=>hxd e.symm) h2
    have hm2:∀i,i<ops.size->(listed.getD i true=false↔i∈pre++j :: x :: post):=λi hi=>(hl i hi).trans (hmm i)
    have hnj:j∉ys++zs:=λh=>by
     rcases List.mem_append.1 h with h|h
     ·exact c3 h
     ·exact c4 h
    have hlen:(pre++j :: x :: post).length<=fuel+1:=by simpa using hf
    refine wpOpIn_mono (λa' w' ⟨st',H',hs',h'⟩=>zr8 hN hq fuel (ys++zs) (listed.setIfInBounds j true) st' H' a' w' (clos _ ys zs hcl2 haf2 er) (zcd c1 (.inl hnj)) (by simp[hsz]) (y82 hsz hjlt hm2 λi=>by rw[er];exact yaw c3 c4 i) (by rw[er] at hlen;simp at hlen ⊢;omega) h' hs') (x1r hN hb hs)
   ·by_cases e2:j=x
    ·subst e2
     obtain⟨ys,zs,er,c1,c3,c4,hb⟩:=yp5 hx hcl hc1 haf hjr hxd h1
     have hnj:j∉ys++zs:=λh=>by
      rcases List.mem_append.1 h with h|h
      ·exact c3 h
      ·exact c4 h
     refine wpOpIn_mono (λa' w' ⟨st',H',hs',h'⟩=>zr8 hN hq fuel (ys++zs) (listed.setIfInBounds j true) st' H' a' w' (clos _ ys zs hcl haf er) (zcd c1 (.inl hnj)) (by simp[hsz]) (y82 hsz hjlt hl λi=>by rw[er];exact yaw c3 c4 i) (by rw[er] at hf;simp at hf ⊢;omega) h' hs') (x1r hN hb hs)
    ·have hjp:j∈pre:=by
      rcases List.mem_append.1 hjr with h|h
      ·exact h
      ·exfalso
       rcases List.mem_cons.1 h with h|h
       ·exact e2 h
       ·rcases List.mem_cons.1 h with h|h
        ·exact e1 h
        ·have hw':=hw j h
         have inx:x∈pre++x :: d :: post:=by simp
         have ind:d∈pre++x :: d :: post:=by simp
         simp only[waits,Bool.or_eq_true] at hw'
         rcases hw' with((hw'|hw')|hw')|hw'
         ·exact haf x (yaj.1 hw') inx
         ·exact haf d (yaj.1 hw') ind
         ·exact z44 hcl 6 x j haf hw' inx
         ·exact z44 hcl 6 d j haf hw' ind
     obtain⟨ys,zs,er⟩:=List.append_of_mem hjp
     subst er
     have hc1':=hc1
     rw[List.append_assoc,List.cons_append] at hc1'
     obtain⟨c1,c2,c3,c4⟩:=zce hc1'
     have hc2':=hc2
     rw[List.append_assoc,List.cons_append] at hc2'
     obtain⟨d1,d2,d3,d4⟩:=zce hc2'
     have hsw:∀y∈ys,x3b C ops y j=true:=λy hy=>by
      have hym:y∈ys++j :: zs++x :: d :: post:=List.mem_append_left _ (List.mem_append_left _ hy)
      rcases c2 y hy with(((h'|h')|h')|h')|h'
      ·exact absurd hym (haf y (yaj.1 h'))
      ·exact h'
      ·exact absurd hym (zzv hcl 40 y j haf h')
      ·exact absurd hym (z44 hcl 6 y j haf h')
      ·exact absurd h'.2 e1
     have hb:=zbp hsw hx h
     have ea:ys++zs++x :: d :: post=ys++(zs++x :: d :: post):=List.append_assoc ..
     have eb:ys++zs++d :: x :: post=ys++(zs++d :: x :: post):=List.append_assoc ..
     have er:ys++j :: zs++x :: d :: post=ys++j :: (zs++x :: d :: post):=by rw[List.append_assoc];rfl
     refine wpOpIn_mono (λa' w' ⟨st',H',hs',h'⟩=>ih (ys++zs) (listed.setIfInBounds j true) st' H' a' w' ?_ (by rw[ea];exact c1) (by rw[eb];exact d1) (by simp[hsz]) (y82 hsz hjlt hl λi=>?_) (by simp at hf ⊢;omega) h' hs') (x1r hN hb hs)
     ·rw[ea];exact clos _ ys _ hcl haf er
     ·rw[ea,er];exact yaw c3 c4 i

theorem zra{C:Cfg}{ops:Array Oper}{k:St->Hp->Prop}{ds:List Nat}{ro:Option Nat}{H0:Hp}{w0:World}{Q:Exit->Act->World->Prop}{x m d:Nat}{post:List Nat}(hxd:x≠d)(hN:z1j C.P)(hq:∀a w,Kt C.n ds w0 H0 k a w->Q .normal a w)(hw:∀j∈post,waits ops x d j=true)(hmd:m∈z4r ops d) :
  ∀(fuel:Nat)(pre:List Nat)(listed:Array Bool)(st:St)(H:Hp)(a:Act)(w:World),(∀e,e∉pre++x :: m :: d :: post->∀f∈z4r ops e,f∉pre++x :: m :: d :: post)->zcc C ops x d (pre++x :: m :: d :: post)=true->zcc C ops d x (pre++d :: x :: post)=true->listed.size=ops.size ->
   (∀i,i<ops.size->(listed.getD i true=false↔i∈pre++x :: m :: d :: post))->(pre++x :: m :: d :: post).length<=fuel ->
   y7w C true ops pre (λst H=>y7w C true ops (x :: m :: d :: post) k st H/\x1n C true ops m (λst H=>y7w C true ops (x :: d :: post) k st H/\y7w C true ops (d :: x :: post) k st H) st H) st H->Sim C.n ds w0 H0 st H a w->wpAnyIn (Fz ro) 0 C.P .any ops Q fuel listed a w:=by
 intro fuel
 induction fuel with
 | zero =>
  intro pre listed st H a w _ _ _ _ _ hf _ _
  simp at hf
 | succ fuel ih =>
  intro pre listed st H a w hcl hc1 hc2 hsz hl hf h hs
  have hx:Ex H:=by obtain⟨ids,_,_,hT⟩:=hs;exact⟨w,hT.view⟩
  refine⟨λh0=>?_,λj hj=>?_⟩
  ·exfalso
   have hlt:∀e,e<ops.size->e∉pre++x :: m :: d :: post->listed.getD e false=true:=λe he hn=>by
    have h1:¬ listed.getD e true=false:=λh'=>hn ((hl e he).1 h')
    have h2:e<listed.size:=by rw[hsz];exact he
    simpa[h2] using h1
   have key:∀(i:Nat)(l:List Nat),pre++x :: m :: d :: post=i :: l->False:=λi l e=>by
    rw[e] at hc1 hlt hl
    simp only[zcc,Bool.and_eq_true,List.all_eq_true,Bool.not_eq_true'] at hc1
    obtain⟨⟨⟨⟨g1,_⟩,g3⟩,_⟩,_⟩:=hc1
    have hi:=zaz.1 g1
    have hr:i∈Region.ready .any ops listed:=by
     refine mem_ready.2 ⟨(hl i hi).2 (List.mem_cons_self ..),ops[i],by simp[hi],λe he hb=>?_⟩
     have hm:e.on∈z4r ops i:=by
      unfold z4r
      simp only[Array.getElem?_eq_getElem hi]
      exact List.mem_map.2 ⟨e,List.mem_filter.2 ⟨by simpa using he,hb⟩,rfl⟩
     obtain⟨h5,h6⟩:=g3 _ hm
     exact hlt _ (zaz.1 h5) λhmm=>by rw[yaj.2 hmm] at h6;cases h6
    rw[h0] at hr;cases hr
   cases pre with
   | nil=>exact key x (m :: d :: post) rfl
   | cons i l=>exact key i _ rfl
  ·obtain⟨h0,o,ho,hall⟩:=mem_ready.1 hj
   have hjlt:=(Array.getElem?_eq_some_iff.1 ho).1
   have hjr:=(hl j hjlt).1 h0
   have haf:∀f∈z4r ops j,f∉pre++x :: m :: d :: post:=λf hd hdr=>by
    unfold z4r at hd
    simp only[ho] at hd
    obtain⟨e,he,rfl⟩:=List.mem_map.1 hd
    obtain⟨he1,he2⟩:=List.mem_filter.1 he
    have h1:=hall e (by simpa using he1) he2
    have h2:e.on<listed.size:=by
     rcases Nat.lt_or_ge e.on listed.size with h|h
     ·exact h
     ·simp[Array.getElem?_eq_none h] at h1
    have h3:=(hl e.on (by rw[← hsz];exact h2)).2 hdr
    simp[h2] at h1 h3
    rw[h1] at h3;cases h3
   have clos:∀(rem ys zs:List Nat),(∀e,e∉rem->∀d∈z4r ops e,d∉rem)->(∀d∈z4r ops j,d∉rem)->rem=ys++j :: zs->∀e,e∉ys++zs->∀d∈z4r ops e,d∉ys++zs:=λrem ys zs hcl haf er e he d hd hdr=>by
    have hup:∀{d},d∈ys++zs->d∈rem:=λh=>by
     rw[er]
     rcases List.mem_append.1 h with h|h
     ·exact List.mem_append_left _ h
     ·exact List.mem_append_right _ (List.mem_cons_of_mem _ h)
    by_cases hej:e=j
    ·subst hej;exact haf d hd (hup hdr)
    ·refine hcl e (λhm=>he ?_) d hd (hup hdr)
     rw[er] at hm
     rcases List.mem_append.1 hm with h|h
     ·exact List.mem_append_left _ h
     ·rcases List.mem_cons.1 h with h|h
      ·exact absurd h hej
      ·exact List.mem_append_right _ h
   have h1:y7w C true ops (pre++x :: m :: d :: post) k st H:=by
    rw[y7x];exact y7y (λ_ _ _ h=>h.1) pre hx h
   have h2:y7w C true ops (pre++m :: []) (λst H=>y7w C true ops (x :: d :: post) k st H/\y7w C true ops (d :: x :: post) k st H) st H:=by
    rw[y7x];exact y7y (λ_ _ _ h=>h.2) pre hx h
   by_cases e1:j=d
   ·subst e1;exact absurd (by simp:m∈pre++x :: m :: j :: post) (haf m hmd)
   by_cases e2:j=x
   ·subst e2
    obtain⟨ys,zs,er,c1,c3,c4,hb⟩:=yp5 hx hcl hc1 haf hjr hxd h1
    have hnj:j∉ys++zs:=λh=>by
     rcases List.mem_append.1 h with h|h
     ·exact c3 h
     ·exact c4 h
    exact wpOpIn_mono (λa' w' ⟨st',H',hs',h'⟩=>zr8 hN hq fuel (ys++zs) (listed.setIfInBounds j true) st' H' a' w' (clos _ ys zs hcl haf er) (zcd c1 (.inl hnj)) (by simp[hsz]) (y82 hsz hjlt hl λi=>by rw[er];exact yaw c3 c4 i) (by rw[er] at hf;simp at hf ⊢;omega) h' hs') (x1r hN hb hs)
   by_cases e3:j=m
   ·subst e3
    have ea:pre++x :: j :: d :: post=(pre++[x])++j :: d :: post:=by simp
    have hc1':=hc1
    rw[ea] at hc1'
    obtain⟨c1,c2,c3,c4⟩:=zce hc1'
    have hsw:∀y∈pre,x3b C ops y j=true:=λy hy=>by
     have hym:y∈pre++x :: j :: d :: post:=List.mem_append_left _ hy
     rcases c2 y (List.mem_append_left _ hy) with(((h'|h')|h')|h')|h'
     ·exact absurd hym (haf y (yaj.1 h'))
     ·exact h'
     ·exact absurd hym (zzv hcl 40 y j haf h')
     ·exact absurd hym (z44 hcl 6 y j haf h')
     ·exact absurd h'.2 e1
    have hb:=zbp hsw hx h2
    rw[List.append_nil] at hb
    have eb:(pre++[x])++d :: post=pre++x :: d :: post:=by simp
    refine wpOpIn_mono (λa' w' ⟨st',H',hs',h'⟩=>zr9 hxd hN hq hw fuel pre (listed.setIfInBounds j true) st' H' a' w' ?_ (by rw[← eb];exact c1) hc2 (by simp[hsz]) (y82 hsz hjlt hl λi=>?_) (by simp at hf ⊢;omega) h' hs') (x1r hN hb hs)
    ·rw[← eb];exact clos _ _ _ hcl haf ea
    ·rw[← eb,ea];exact yaw c3 c4 i
   have hjp:j∈pre:=by
    rcases List.mem_append.1 hjr with h|h
    ·exact h
    ·exfalso
     rcases List.mem_cons.1 h with h|h
     ·exact e2 h
     rcases List.mem_cons.1 h with h|h
     ·exact e3 h
     rcases List.mem_cons.1 h with h|h
     ·exact e1 h
     have hw':=hw j h
     have inx:x∈pre++x :: m :: d :: post:=by simp
     have ind:d∈pre++x :: m :: d :: post:=by simp
     simp only[waits,Bool.or_eq_true] at hw'
     rcases hw' with((hw'|hw')|hw')|hw'
     ·exact haf x (yaj.1 hw') inx
     ·exact haf d (yaj.1 hw') ind
     ·exact z44 hcl 6 x j haf hw' inx
     ·exact z44 hcl 6 d j haf hw' ind
   obtain⟨ys,zs,er⟩:=List.append_of_mem hjp
   subst er
   have hc1':=hc1
   rw[List.append_assoc,List.cons_append] at hc1'
   obtain⟨c1,c2,c3,c4⟩:=zce hc1'
   have hc2':=hc2
   rw[List.append_assoc,List.cons_append] at hc2'
   obtain⟨d1,d2,d3,d4⟩:=zce hc2'
   have hsw:∀y∈ys,x3b C ops y j=true:=λy hy=>by
    have hym:y∈ys++j :: zs++x :: m :: d :: post:=List.mem_append_left _ (List.mem_append_left _ hy)
    rcases c2 y hy with(((h'|h')|h')|h')|h'
    ·exact absurd hym (haf y (yaj.1 h'))
    ·exact h'
    ·exact absurd hym (zzv hcl 40 y j haf h')
    ·exact absurd hym (z44 hcl 6 y j haf h')
    ·exact absurd h'.2 e1
   have hb:=zbp hsw hx h
   have ea:ys++zs++x :: m :: d :: post=ys++(zs++x :: m :: d :: post):=List.append_assoc ..
   have eb:ys++zs++d :: x :: post=ys++(zs++d :: x :: post):=List.append_assoc ..
   have er:ys++j :: zs++x :: m :: d :: post=ys++j :: (zs++x :: m :: d :: post):=by rw[List.append_assoc];rfl
   refine wpOpIn_mono (λa' w' ⟨st',H',hs',h'⟩=>ih (ys++zs) (listed.setIfInBounds j true) st' H' a' w' ?_ (by rw[ea];exact c1) (by rw[eb];exact d1) (by simp[hsz]) (y82 hsz hjlt hl λi=>?_) (by simp at hf ⊢;omega) h' hs') (x1r hN hb hs)
   ·rw[ea];exact clos _ ys _ hcl haf er
   ·rw[ea,er];exact yaw c3 c4 i

def ylt(C:Cfg)(ops:Array Oper)(l:List Nat)(n:Nat):Bool :=
 match l.drop n with
 | x :: d :: post=>Nat.beq l.length ops.size&&(List.range ops.size).all (λi=>yah i l)&&zcc C ops x d (l.take n++x :: d :: post)&&zcc C ops d x (l.take n++d :: x :: post)&&!(Nat.beq x d)&&post.all (waits ops x d)
 | _=>false
def ylu(C:Cfg)(ops:Array Oper)(l:List Nat)(n:Nat):Bool :=
 match l.drop n with
 | x :: m :: d :: post=>Nat.beq l.length ops.size&&(List.range ops.size).all (λi=>yah i l)&&zcc C ops x d (l.take n++x :: m :: d :: post)&&zcc C ops d x (l.take n++d :: x :: post)&&!(Nat.beq x d)&&post.all (waits ops x d)&&yah m (z4r ops d)
 | _=>false

def x68(C:Cfg)(ops:Array Oper)(l:List Nat)(n:Nat)(k:St->Hp->Prop)(st:St)(H:Hp):Prop :=
 match l.drop n with
 | x :: d :: post=>y7w C true ops (l.take n) (λst H=>y7w C true ops (x :: d :: post) k st H/\y7w C true ops (d :: x :: post) k st H) st H
 | _=>False
def x4s(C:Cfg)(ops:Array Oper)(l:List Nat)(n:Nat)(k:St->Hp->Prop)(st:St)(H:Hp):Prop :=
 match l.drop n with
 | x :: m :: d :: post=>y7w C true ops (l.take n) (λst H=>y7w C true ops (x :: m :: d :: post) k st H/\y7w C true ops [m] (λst H=>y7w C true ops (x :: d :: post) k st H/\y7w C true ops (d :: x :: post) k st H) st H) st H
 | _=>False

theorem ysp{C:Cfg}{ops:Array Oper}{k:St->Hp->Prop}{ds:List Nat}{ro:Option Nat}{H0 H:Hp}{w0 w:World}{Q:Exit->Act->World->Prop}{a:Act}{st:St}{id:Nat}{l:List Nat}{n:Nat}(hN:z1j C.P)(hM:C.P.follows .mixedOrders=true)
  (hq:∀a w,Kt C.n ds w0 H0 k a w->Q .normal a w) (hl:ylt C ops l n=true) (h:x68 C ops l n k st H) (hs:Sim C.n ds w0 H0 st H a w):(Code.region id ops true).wpIn (Fz ro) 0 C.P Q a w:=by
 refine wpIn_region_any hM ?_
 unfold ylt at hl
 unfold x68 at h
 split at hl
 ·rename_i x d post hd
  have el:l=l.take n++x :: d :: post:=by rw[← hd,List.take_append_drop]
  rw[hd] at h
  simp only at h
  simp only[Bool.and_eq_true,Nat.beq_iff,List.all_eq_true,yaj,Bool.not_eq_true'] at hl
  obtain⟨⟨⟨⟨⟨hlen,hall⟩,hc⟩,hc2⟩,hne⟩,hwt⟩:=hl
  have hmem:∀i,i<ops.size->i∈l.take n++x :: d :: post:=λi hi=>by rw[← el];exact hall i (List.mem_range.2 hi)
  have hs':Sim C.n ds w0 H0 st H a { w with drawn:=w.drawn+1 }:=by
   obtain⟨ids,hE,hP,hT⟩:=hs
   exact⟨ids,hE,⟨hP.blk,hP.hid,hP.low,hP.inj,hP.dfs⟩,⟨hT.view,hT.frame,hT.fresh,hT.size,hT.os,hT.tape,hT.output,Nat.le_succ_of_le hT.drawn⟩⟩
  refine zr9 (x:=x) (d:=d) (post:=post) (λe=>by rw[e,Nat.beq_refl] at hne;cases hne) hN hq hwt ops.size (l.take n) (Array.replicate ops.size false) st H a _ (λe he d hd _=>?_) hc hc2 (by simp) (λi hi=>⟨λ_=>hmem i hi,λ_=>by simp[hi]⟩) (by rw[← el];omega) h hs'
  unfold z4r at hd
  rw[Array.getElem?_eq_none (Nat.le_of_not_lt λh=>he (hmem e h))] at hd
  cases hd
 ·cases hl

theorem ysq{C:Cfg}{ops:Array Oper}{k:St->Hp->Prop}{ds:List Nat}{ro:Option Nat}{H0 H:Hp}{w0 w:World}{Q:Exit->Act->World->Prop}{a:Act}{st:St}{id:Nat}{l:List Nat}{n:Nat}(hN:z1j C.P)(hM:C.P.follows .mixedOrders=true)
  (hq:∀a w,Kt C.n ds w0 H0 k a w->Q .normal a w) (hl:ylu C ops l n=true) (h:x4s C ops l n k st H) (hs:Sim C.n ds w0 H0 st H a w):(Code.region id ops true).wpIn (Fz ro) 0 C.P Q a w:=by
 refine wpIn_region_any hM ?_
 unfold ylu at hl
 unfold x4s at h
 split at hl
 ·rename_i x m d post hd
  have el:l=l.take n++x :: m :: d :: post:=by rw[← hd,List.take_append_drop]
  rw[hd] at h
  simp only at h
  simp only[Bool.and_eq_true,Nat.beq_iff,List.all_eq_true,yaj,Bool.not_eq_true'] at hl
  obtain⟨⟨⟨⟨⟨⟨hlen,hall⟩,hc⟩,hc2⟩,hne⟩,hwt⟩,hmd⟩:=hl
  have hmem:∀i,i<ops.size->i∈l.take n++x :: m :: d :: post:=λi hi=>by rw[← el];exact hall i (List.mem_range.2 hi)
  have hs':Sim C.n ds w0 H0 st H a { w with drawn:=w.drawn+1 }:=by
   obtain⟨ids,hE,hP,hT⟩:=hs
   exact⟨ids,hE,⟨hP.blk,hP.hid,hP.low,hP.inj,hP.dfs⟩,⟨hT.view,hT.frame,hT.fresh,hT.size,hT.os,hT.tape,hT.output,Nat.le_succ_of_le hT.drawn⟩⟩
  refine zra (x:=x) (m:=m) (d:=d) (post:=post) (λe=>by rw[e,Nat.beq_refl] at hne;cases hne) hN hq hwt hmd ops.size (l.take n) (Array.replicate ops.size false) st H a _ (λe he d hd _=>?_) hc hc2 (by simp) (λi hi=>⟨λ_=>hmem i hi,λ_=>by simp[hi]⟩) (by rw[← el];omega) h hs'
  unfold z4r at hd
  rw[Array.getElem?_eq_none (Nat.le_of_not_lt λh=>he (hmem e h))] at hd
  cases hd
 ·cases hl

def zr4(C:Cfg)(id:Nat)(ops:Array Oper)(k:St->Hp->Prop)(st:St)(H:Hp):Prop :=
 match C.perm id with
 | some l=>match C.perm2 id with
  | none=>match yls C ops l with
   | true=>y7w C true ops l k st H
   | false=>False
  | some (n,false)=>match ylt C ops l n with
   | true=>x68 C ops l n k st H
   | false=>False
  | some (n,true)=>match ylu C ops l n with
   | true=>x4s C ops l n k st H
   | false=>False
 | none=>False

theorem zr6{C:Cfg}{id:Nat}{ops:Array Oper}{k k':St->Hp->Prop}{st:St}{H:Hp}(hk:∀l st' H',y7w C true ops l k st' H'->y7w C true ops l k' st' H')
  (hp:∀(l:List Nat)(j j':St->Hp->Prop),(∀st H,j st H->j' st H)->∀st H,y7w C true ops l j st H->y7w C true ops l j' st H) (h:zr4 C id ops k st H):zr4 C id ops k' st H:=by
 unfold zr4 at *
 cases hp1:C.perm id with
 | none=>simp[hp1] at h
 | some l =>
  simp only[hp1] at h ⊢
  cases h2:C.perm2 id with
  | none =>
   simp only[h2] at h ⊢
   cases ho:yls C ops l with
   | true=>simp only[ho] at h ⊢;exact hk _ _ _ h
   | false=>simp[ho] at h
  | some y =>
   obtain⟨n,b⟩:=y
   cases b with
   | false =>
    simp only[h2] at h ⊢
    cases hq:ylt C ops l n with
    | false=>simp[hq] at h
    | true =>
     simp only[hq] at h ⊢
     unfold x68 at *
     split at h
     ·rename_i x d post hd
      exact hp _ _ _ (λst H h=>⟨hk _ _ _ h.1,hk _ _ _ h.2⟩) _ _ h
     ·exact h.elim
   | true =>
    simp only[h2] at h ⊢
    cases hq:ylu C ops l n with
    | false=>simp[hq] at h
    | true =>
     simp only[hq] at h ⊢
     unfold x4s at *
     split at h
     ·rename_i x m d post hd
      exact hp _ _ _ (λst H h=>⟨hk _ _ _ h.1,hp _ _ _ (λst H h=>⟨hk _ _ _ h.1,hk _ _ _ h.2⟩) _ _ h.2⟩) _ _ h
     ·exact h.elim

theorem zr7{C:Cfg}{ops:Array Oper}{k:St->Hp->Prop}{ds:List Nat}{ro:Option Nat}{H0 H:Hp}{w0 w:World}{Q:Exit->Act->World->Prop}{a:Act}{st:St}{id:Nat}(hN:z1j C.P)(hM:C.P.follows .mixedOrders=true)
  (hq:∀a w,Kt C.n ds w0 H0 k a w->Q .normal a w) (h:zr4 C id ops k st H) (hs:Sim C.n ds w0 H0 st H a w):(Code.region id ops true).wpIn (Fz ro) 0 C.P Q a w:=by
 unfold zr4 at h
 cases hp1:C.perm id with
 | none=>simp[hp1] at h
 | some l =>
  simp only[hp1] at h
  cases h2:C.perm2 id with
  | none =>
   simp only[h2] at h
   cases ho:yls C ops l with
   | true=>simp only[ho] at h;exact yso hN hM hq ho h hs
   | false=>simp[ho] at h
  | some y =>
   obtain⟨n,b⟩:=y
   cases b with
   | false =>
    simp only[h2] at h
    cases hq':ylt C ops l n with
    | false=>simp[hq'] at h
    | true=>simp only[hq'] at h;exact ysp hN hM hq hq' h hs
   | true =>
    simp only[h2] at h
    cases hq':ylu C ops l n with
    | false=>simp[hq'] at h
    | true=>simp only[hq'] at h;exact ysq hN hM hq hq' h hs

end Go.Eng
end
section
/- The engine,part O: code,loops,functions. Conditions: none. -/
namespace Go.Eng

abbrev Md:=Option (List Nat×List Nat)

def Md.seq:Md->Md->Md
 | some (a,b),some (c,d)=>some (a++c,b++d)
 | _,_=>none
def Md.alt:Md->Md->Md
 | some (a,b),some (c,d)=>some (a++c,b++d)
 | some x,none=>some x
 | none,y=>y

def yhf(C:Cfg)(o:Oper):List Nat×List Nat :=
  (match o.dst with
   | some d=>[d]
   | none=>[],match o.op with
   | .store _ (.tmp x) _=>match C.pv x with
     | true=>[C.nm x]
     | false=>[]
   | _=>[])

def yi2(C:Cfg):List Oper->List Nat×List Nat
 | []=>([],[])
 | o :: os=>((yhf C o).1++(yi2 C os).1,(yhf C o).2++(yi2 C os).2)

def mod(C:Cfg):Code->Option Nat->Md
 | .region _ ops _,t=>match t with
  | none=>some (yi2 C ops.toList)
  | some _=>none
 | .skip,t=>match t with
  | none=>some ([],[])
  | some _=>none
 | .exit id,t=>match t with
  | none=>none
  | some k=>match Nat.beq id k with
   | true=>some ([],[])
   | false=>none
 | .seq a b,t=>match t with
  | none=>Md.seq (mod C a none) (mod C b none)
  | some k=>Md.alt (mod C a (some k)) (Md.seq (mod C a none) (mod C b (some k)))
 | .cond _ a b,t=>Md.alt (mod C a t) (mod C b t)
 | .block id b,t=>match t with
  | none=>Md.alt (mod C b none) (mod C b (some id))
  | some k=>match Nat.beq id k with
   | true=>none
   | false=>mod C b (some k)
 | .loop b,t=>match t with
  | none=>none
  | some k=>Md.alt (mod C b (some k)) (Md.seq (mod C b none) (mod C b (some k)))
 | _,_=>none

def Cur(R:Type):List z14->Type
 | []=>R
 | .int _ :: ls=>Int->Cur R ls
 | .bool :: ls=>Bool->Cur R ls
 | .sl :: ls=>Slc->Cur R ls
 | .ptr :: ls=>Addr->Cur R ls
 | .mp :: ls=>Option Nat->Cur R ls
 | .val :: ls=>Value->Cur R ls
 | .alt :: ls=>Bool->Cur R ls

def z73{R:Type}:(ls:List z14)->Cur R ls->List Value->Option R
 | [],r,[]=>some r
 | .int k :: ls,f,.int k' n :: vs=>match decide (k=k') with
  | true=>z73 ls (f n) vs
  | false=>none
 | .bool :: ls,f,.bool b :: vs=>z73 ls (f b) vs
 | .sl :: ls,f,.slice a n c :: vs=>z73 ls (f ⟨a,n,c⟩) vs
 | .ptr :: ls,f,.pointer (some a) :: vs=>z73 ls (f a) vs
 | .mp :: ls,f,.map r :: vs=>z73 ls (f r) vs
 | .val :: ls,f,v :: vs=>z73 ls (f v) vs
 | .alt :: ls,f,.bool b :: vs=>z73 ls (f b) vs
 | _,_,_=>none

def z5s:List z14->(List Value->Prop)->Prop
 | [],f=>f []
 | .int k :: ls,f=>∀n:Int,z5s ls λvs=>f (.int k n :: vs)
 | .bool :: ls,f=>∀b:Bool,z5s ls λvs=>f (.bool b :: vs)
 | .sl :: ls,f=>∀u:Slc,z5s ls λvs=>f (u.v :: vs)
 | .ptr :: ls,f=>∀a:Addr,z5s ls λvs=>f (.pointer (some a) :: vs)
 | .mp :: ls,f=>∀r:Option Nat,z5s ls λvs=>f (.map r :: vs)
 | .val :: ls,f=>∀v:Value,z5s ls λvs=>f (v :: vs)
 | .alt :: ls,f=>∀b:Bool,z5s ls λvs=>f (.bool b :: vs)

abbrev Lp:=List (Nat×z14)×List (Nat×List z14)

def Lp.leaves(l:Lp):List z14:=l.1.map (·.2)++l.2.flatMap (·.2)

def yz0(env:Env):List (Nat×z14)->Option (List Value)
 | []=>some []
 | (t,_) :: l=>match env t with
  | some ([],.lit v)=>match yz0 env l with
   | some vs=>some (v :: vs)
   | none=>none
  | _=>none

def you(pr:z1t):List (Nat×List z14)->Option (List Value)
 | []=>some []
 | (j,ls) :: l=>match pr j with
  | some (cs,_)=>match Nat.beq cs.length ls.length,you pr l with
   | true,some vs=>some (cs++vs)
   | _,_=>none
  | none=>none

def y8p(l:Lp)(st:St):Option (List Value) :=
 match yz0 st.env l.1,you st.priv l.2 with
 | some a,some b=>some (a++b)
 | _,_=>none

def y23(ms:List Nat)(base:Env):List (Nat×z14)->List Value->Env
 | [],_=>λt=>match yah t ms with
  | true=>none
  | false=>match base t with
   | some (g,v)=>match g.any λp=>yah p.1 ms with
    | true=>none
    | false=>some (g,v)
   | none=>none
 | (s,_) :: l,vs=>λt=>match Nat.beq t s with
  | true=>match vs with
   | v :: _=>some ([],.lit v)
   | []=>none
  | false=>y23 ms base l vs.tail t

def y25(base:z1t):List (Nat×List z14)->List Value->z1t
 | [],_=>base
 | (j,ls) :: l,vs=>λk=>match Nat.beq k j with
  | true=>match base j with
   | some (_,t)=>some (vs.take ls.length,t)
   | none=>none
  | false=>y25 base l (vs.drop ls.length) k

def y29(ms:List Nat)(l:Lp)(st:St)(vs:List Value):St :=
 ⟨y23 ms st.env l.1 vs,y25 st.priv l.2 (vs.drop l.1.length)⟩

def zwp:Code->Option Nat
 | .region id _ _=>some id
 | .seq a b=>match zwp a with
  | some i=>some i
  | none=>zwp b
 | .cond _ a b=>match zwp a with
  | some i=>some i
  | none=>zwp b
 | .block _ b=>zwp b
 | .loop b=>match zwp b with
  | some i=>some (i+1000)
  | none=>none
 | _=>none

abbrev Kc:=Exit->St->Hp->Prop

def y8k(body:Kc->St->Hp->Prop)(ms:List Nat)(l:Lp)(K:Kc)(st:St)(H:Hp):Prop :=
  match y8p l st with
  | some v0=>∃(I:Cur (Hp->Prop) l.leaves)(m:Cur (Hp->Nat) l.leaves),
      (match z73 l.leaves I v0 with
       | some p=>p H
       | none=>False) /\
      z5s l.leaves λvs=>∀H,(match z73 l.leaves I vs with
        | some p=>p H
        | none=>False) ->
        body (λe st' H'=>match e with
          | .normal=>match y8p l st' with
            | some vs'=>match z73 l.leaves I vs',z73 l.leaves m vs',z73 l.leaves m vs with
              | some p,some n',some n=>p H'/\n' H'<n H
              | _,_,_=>False
            | none=>False
          | e=>K e st' H') (y29 ms l st vs) H
  | none=>False

def yos(pr:z1t)(j:Nat):Bool :=
 match pr j with
 | none=>true
 | some _=>false

theorem yot{pr:z1t}{j:Nat}(h:yos pr j=true):pr j=none:=by
 unfold yos at h
 cases hj:pr j with
 | none=>rfl
 | some y=>rw[hj] at h;cases h

def vc(C:Cfg):Code->Kc->St->Hp->Prop
 | .skip,K,st,H=>K .normal st H
 | .region id ops draw,K,st,H=>match draw with
  | false=>y7w C false ops (List.range ops.size) (K .normal) st H
  | true=>zr4 C id ops (K .normal) st H
 | .seq a b,K,st,H=>vc C a (λe st H=>match e with
  | .normal=>vc C b K st H
  | e=>K e st H) st H
 | .cond c a b,K,st,H=>match st.env.ev [] c with
  | some (.lit (.bool x))=>(x=true->vc C a K st H)/\(x=false->vc C b K st H)
  | _=>False
 | .block id b,K,st,H=>vc C b (λe st H=>match e with
  | .exit k=>match Nat.beq k id with
   | true=>K .normal st H
   | false=>K (.exit k) st H
  | e=>K e st H) st H
 | .loop b,K,st,H=>match zwp b,mod C b none with
  | some id,some (ms,ps)=>match (ps.all λj=>yah j ((C.lp id).2.map (·.1))||yos st.priv j)&&((C.lp id).1.all λx=>yah x.1 ms)&&((C.lp id).2.all λx=>yah x.1 ps) with
   | true=>y8k (vc C b) ms (C.lp id) K st H
   | false=>False
  | some _,none=>vc C b (λe st' H'=>match e with
   | .normal=>False
   | e=>K e st' H') st H
  | none,_=>False
 | .exit id,K,st,H=>K (.exit id) st H
 | .ret,K,st,H=>K .ret st H
 | _,_,_,_=>False

end Go.Eng
end
section
/- The engine,part P: what code leaves as it was. Conditions: none. -/
namespace Go.Eng

structure z11(ms ps:List Nat)(st st':St):Prop where
 env:∀t g v,yah t ms=false->(∀p∈g,yah p.1 ms=false)->st.env t=some (g,v)->st'.env t=some (g,v)
 priv:∀j,yah j ps=false->st.priv j≠none->st'.priv j=st.priv j
 typ:∀j cs T,st.priv j=some (cs,T)->∃cs',st'.priv j=some (cs',T)

theorem yai{d:Nat}{a b:List Nat}:yah d (a++b)=(yah d a||yah d b):=by
 induction a with
 | nil=>rfl
 | cons x a ih=>simp only[List.cons_append,yah,ih,Bool.or_assoc]

theorem z11.refl(ms ps:List Nat)(st:St):z11 ms ps st st:=⟨λ_ _ _ _ _ h=>h,λ_ _ _=>rfl,λ_ cs _ h=>⟨cs,h⟩⟩

theorem z11.up{ms ps ms' ps':List Nat}{st st':St}(h:z11 ms ps st st')(h1:∀t,yah t ms'=false->yah t ms=false)(h2:∀t,yah t ps'=false->yah t ps=false):z11 ms' ps' st st' :=
 ⟨λt g v a b c=>h.env t g v (h1 t a) (λp hp=>h1 _ (b p hp)) c,λj a b=>h.priv j (h2 j a) b,h.typ⟩

theorem z11.trans{ms ps ms' ps':List Nat}{st st1 st':St}(h:z11 ms ps st st1)(h':z11 ms' ps' st1 st'):z11 (ms++ms') (ps++ps') st st':=by
 refine⟨λt g v a b c=>?_,λj a b=>?_,λj cs T hj=>?_⟩
 ·simp only[yai,Bool.or_eq_false_iff] at a b
  exact h'.env t g v a.2 (λp hp=>(b p hp).2) (h.env t g v a.1 (λp hp=>(b p hp).1) c)
 ·simp only[yai,Bool.or_eq_false_iff] at a
  have e:=h.priv j a.1 b
  rw[h'.priv j a.2 (by rw[e];exact b),e]
 ·obtain⟨c1,h1⟩:=h.typ j cs T hj
  exact h'.typ j c1 T h1

section
variable {P:Program} {draw:Bool} {K K':Kop} {pr:z1t} {H:Hp}

theorem x7l{nf:NF}(h:nf.vc P draw K pr H)(hk:∀s p H',K s p H'->K' s p H'):nf.vc P draw K' pr H:=by
 cases nf with
 | bad=>exact h
 | pu ob x=>exact yge h (hk _ _ _)
 | px ls ob x=>exact zt7 h λvs h'=>⟨h'.1,hk _ _ _ h'.2⟩
 | rd ls ob x=>exact zt7 h λvs h'=>⟨h'.1,hk _ _ _ h'.2⟩
 | ow f =>
  simp only[NF.vc] at h ⊢
  cases hf:f pr with
  | none=>simp[hf] at h
  | some y=>simp only[hf] at h ⊢;exact hk _ _ _ h
 | al c x ob=>exact yge h λh' b H1 hb e=>hk _ _ _ (h' b H1 hb e)
 | ag gb x ob=>exact⟨λe b H1 hb e'=>hk _ _ _ (h.1 e b H1 hb e'),λe=>hk _ _ _ (h.2 e)⟩
 | cf g0 f args sh=>exact Fn.mono h λv H' hq=>yge hq λhq=>zt7 hq λvs hq=>⟨hq.1,hk _ _ _ hq.2⟩
 | cg gb g0 f args sh=>exact⟨λe=>Fn.mono (h.1 e) λv H' hq=>yge hq λhq=>zt7 hq λvs hq=>⟨hq.1,hk _ _ _ hq.2⟩,λe=>hk _ _ _ (h.2 e)⟩
 | ce f args sh=>exact Fn.mono h λv H' hq=>zt7 hq λvs hq=>⟨hq.1,hk _ _ _ hq.2⟩
 | cy l args sh=>exact FnY.mono h λv H' hq=>zt7 hq λvs hq=>⟨hq.1,hk _ _ _ hq.2⟩
 | cv F args sh =>
  obtain⟨f,first,cap,hF,hc,h⟩:=h
  exact⟨f,first,cap,hF,hc,Fn.mono h λv H' hq=>yge hq λhq=>zt7 hq λvs hq=>⟨hq.1,hk _ _ _ hq.2⟩⟩
 | ef s sh =>
  intro w hv
  obtain⟨v,w',H',hr,ht,hq⟩:=h w hv
  exact⟨v,w',H',hr,ht,zt7 hq λvs hq=>⟨hq.1,hk _ _ _ hq.2⟩⟩
 | st ad vs=>exact⟨h.1,λH1 e=>hk _ _ _ (h.2 H1 e)⟩

def NFP(ps:List Nat):NF->Prop
 | .ow f=>∀pr x pr',f pr=some (x,pr')->(∀j,yah j ps=false->pr j≠none->pr' j=pr j)/\∀j cs T,pr j=some (cs,T)->∃cs',pr' j=some (cs',T)
 | _=>True

theorem x7n{nf:NF}{ps:List Nat}(hp:NFP ps nf)(h:nf.vc P draw K pr H) :
  nf.vc P draw (λs p H'=>((∀j,yah j ps=false->pr j≠none->p j=pr j)/\∀j cs T,pr j=some (cs,T)->∃cs',p j=some (cs',T))/\K s p H') pr H:=by
 have same:(∀j,yah j ps=false->pr j≠none->pr j=pr j)/\∀j cs T,pr j=some (cs,T)->∃cs',pr j=some (cs',T):=⟨λ_ _ _=>rfl,λj cs T h=>⟨cs,h⟩⟩
 cases nf with
 | bad=>exact h
 | pu ob x=>exact yge h λh=>⟨same,h⟩
 | px ls ob x=>exact zt7 h λvs h'=>⟨h'.1,same,h'.2⟩
 | rd ls ob x=>exact zt7 h λvs h'=>⟨h'.1,same,h'.2⟩
 | ow f =>
  simp only[NF.vc] at h ⊢
  cases hf:f pr with
  | none=>simp[hf] at h
  | some y=>simp only[hf] at h ⊢;exact⟨hp pr _ _ hf,h⟩
 | al c x ob=>exact yge h λh' b H1 hb e=>⟨same,h' b H1 hb e⟩
 | ag gb x ob=>exact⟨λe b H1 hb e'=>⟨same,h.1 e b H1 hb e'⟩,λe=>⟨same,h.2 e⟩⟩
 | cf g0 f args sh=>exact Fn.mono h λv H' hq=>yge hq λhq=>zt7 hq λvs hq=>⟨hq.1,same,hq.2⟩
 | cg gb g0 f args sh=>exact⟨λe=>Fn.mono (h.1 e) λv H' hq=>yge hq λhq=>zt7 hq λvs hq=>⟨hq.1,same,hq.2⟩,λe=>⟨same,h.2 e⟩⟩
 | ce f args sh=>exact Fn.mono h λv H' hq=>zt7 hq λvs hq=>⟨hq.1,same,hq.2⟩
 | cy l args sh=>exact FnY.mono h λv H' hq=>zt7 hq λvs hq=>⟨hq.1,same,hq.2⟩
 | cv F args sh =>
  obtain⟨f,first,cap,hF,hc,h⟩:=h
  exact⟨f,first,cap,hF,hc,Fn.mono h λv H' hq=>yge hq λhq=>zt7 hq λvs hq=>⟨hq.1,same,hq.2⟩⟩
 | ef s sh =>
  intro w hv
  obtain⟨v,w',H',hr,ht,hq⟩:=h w hv
  exact⟨v,w',H',hr,ht,zt7 hq λvs hq=>⟨hq.1,same,hq.2⟩⟩
 | st ad vs=>exact⟨h.1,λH1 e=>⟨same,h.2 H1 e⟩⟩

end

theorem yf0{C:Cfg}{env:Env}{g:Gd}{gb:Bool}{t:TypeId}{x:Nat}{ps:List Nat}:NFP ps (y8b C env g gb t x):=by
 unfold y8b
 split
 ·split
  ·intro pr x pr' hf
   dsimp only at hf
   (repeat' split at hf) <;> first|cases hf;exact⟨λ_ _ _=>rfl,λj cs T h=>⟨cs,h⟩⟩|cases hf
  ·trivial
 ·split <;> trivial
 ·trivial

theorem yf3{C:Cfg}{env:Env}{g:Gd}{o:Oper}{t:TypeId}{x:Nat}{y:Operand}(ho:o.op=.store t (.tmp x) y):NFP (yhf C o).2 (x1w C env g t x y):=by
 unfold x1w
 split
 ·rename_i _ j off v hpv hx hy
  simp only[Bool.and_eq_true] at hpv
  split
  ·rename_i hc
   simp only[Bool.and_eq_true,Nat.beq_iff] at hc
   have hps:(yhf C o).2=[j]:=by simp[yhf,ho,hpv.1.1,hc.2]
   rw[hps]
   intro pr z pr' hf
   dsimp only at hf
   cases hj:pr j with
   | none=>simp[hj] at hf
   | some b =>
    obtain⟨cs,e⟩:=b
    simp only[hj] at hf
    split at hf
    ·cases hf
     refine⟨λk hk _=>z1t.set_ne _ _ λe=>?_,λk c T hk=>?_⟩
     ·subst e;simp only[yah,Nat.beq_refl,Bool.true_or] at hk;cases hk
     ·by_cases e':k=j
      ·subst e';rw[hj] at hk;cases hk;exact⟨_,z1t.set_same _ _ _⟩
      ·rw[z1t.set_ne _ _ e'];exact⟨c,hk⟩
    ·cases hf
  ·trivial
 ·split <;> trivial
 ·trivial

theorem yf2{P:Program}{env:Env}{g:Gd}{o:Oper}{d:Nat}{ps:List Nat}:NFP ps (yjt P env g o d):=by
 unfold yjt
 split
 ·split
  ·intro pr x pr' hf
   dsimp only at hf
   cases hd:pr d with
   | some y=>simp[hd] at hf
   | none =>
    simp only[hd,Option.some.injEq,Prod.mk.injEq] at hf
    obtain⟨rfl,rfl⟩:=hf
    have hne:∀j,pr j≠none->j≠d:=λj hj e=>by subst e;exact hj hd
    exact⟨λj _ hj=>z1t.set_ne _ _ (hne j hj),λj cs T hj=>⟨cs,by rw[z1t.set_ne _ _ (hne j (by simp[hj]))];exact hj⟩⟩
  ·trivial
 ·trivial

theorem yf1{C:Cfg}{env:Env}{g:Gd}{gb:Bool}{o:Oper}:NFP (yhf C o).2 (yhg C env g gb o):=by
 unfold yhg
 (repeat' split) <;> rename_i ho <;> first
  | trivial
  | exact yf0
  | exact yf3 ho
  | exact yf2
  | (unfold ycj;split <;> trivial)
  | (unfold yfj;(repeat' split) <;> trivial)
  | (unfold ym2;(repeat' split) <;> trivial)
  | (unfold ygr;split <;> trivial)
  | (unfold zpg;(repeat' split) <;> trivial)
  | (unfold y3h;(repeat' split) <;> trivial)
  | (unfold yp6;(repeat' split) <;> trivial)
  | (unfold ydp;(repeat' split) <;> trivial)
  | (unfold zc2;(repeat' split) <;> trivial)
  | (unfold zc5;(repeat' split) <;> trivial)

theorem ypi{C:Cfg}{o:Oper}{env:Env}{x:Sl}{t:Nat}{g:Gd}{v:V0}(h1:yah t (yhf C o).1=false)(h2:∀p∈g,yah p.1 (yhf C o).1=false)(h:env t=some (g,v)):yph env o.dst x t=some (g,v):=by
 cases hd:o.dst with
 | none=>exact h
 | some d =>
  have hm:(yhf C o).1=[d]:=by simp[yhf,hd]
  rw[hm] at h1 h2
  have ne:∀{k:Nat},yah k [d]=false->k≠d:=λ{k} hk e=>by subst e;simp only[yah,Nat.beq_refl,Bool.true_or] at hk;cases hk
  show env.put d x t=_
  rw[Env.put_ne (ne h1),h]
  simp only
  cases hmm:yay d g with
  | false=>rfl
  | true =>
   obtain⟨p,hp,e⟩:=yaz.1 hmm
   exact absurd e (ne (h2 p hp))

theorem x1p{C:Cfg}{draw:Bool}{ops:Array Oper}{i:Nat}{k k':St->Hp->Prop}{st:St}{H:Hp}(h:x1n C draw ops i k st H)(hk:∀st H,k st H->k' st H):x1n C draw ops i k' st H:=by
 unfold x1n at *
 cases ho:ops[i]? with
 | none=>simp[ho] at h
 | some o =>
  simp only[ho] at h ⊢
  cases hc:zjq ops (ops.size+1) o with
  | none=>simp[hc] at h
  | some g =>
   simp only[hc] at h ⊢
   cases hb:st.env.gb g with
   | none=>simp[hb] at h
   | some gb =>
    cases hd:dOk C.n g o.dst with
    | false=>simp[hb,hd] at h
    | true =>
     simp only[hb,hd] at h ⊢
     exact x7l h λ_ _ _ h'=>hk _ _ h'

theorem yi3{C:Cfg}{o:Oper}:∀{l:List Oper},o∈l->(∀t,yah t (yi2 C l).1=false->yah t (yhf C o).1=false)/\(∀t,yah t (yi2 C l).2=false->yah t (yhf C o).2=false)
 | [],h=>by cases h
 | x :: l,h=>by
  simp only[yi2,yai,Bool.or_eq_false_iff]
  rcases List.mem_cons.1 h with rfl|h
  ·exact⟨λt h=>h.1,λt h=>h.1⟩
  ·obtain⟨h1,h2⟩:=yi3 h
   exact⟨λt h=>h1 t h.2,λt h=>h2 t h.2⟩

theorem x1q{C:Cfg}{draw:Bool}{ops:Array Oper}{i:Nat}{k:St->Hp->Prop}{st:St}{H:Hp}(h:x1n C draw ops i k st H) :
  x1n C draw ops i (λst' H'=>z11 (yi2 C ops.toList).1 (yi2 C ops.toList).2 st st'/\k st' H') st H:=by
 unfold x1n at *
 cases ho:ops[i]? with
 | none=>simp[ho] at h
 | some o =>
  have hmem:o∈ops.toList:=by simpa using Array.mem_of_getElem? ho
  obtain⟨hm1,hm2⟩:=yi3 (C:=C) hmem
  simp only[ho] at h ⊢
  cases hc:zjq ops (ops.size+1) o with
  | none=>simp[hc] at h
  | some g =>
   simp only[hc] at h ⊢
   cases hb:st.env.gb g with
   | none=>simp[hb] at h
   | some gb =>
    cases hd:dOk C.n g o.dst with
    | false=>simp[hb,hd] at h
    | true =>
     simp only[hb,hd] at h ⊢
     refine x7l (x7n yf1 h) λs p H' ⟨⟨h1,h2⟩,h3⟩=>⟨⟨λt g v a b c=>?_,λj a b=>h1 j (hm2 j a) b,h2⟩,h3⟩
     exact ypi (hm1 t a) (λp hp=>hm1 _ (b p hp)) c

theorem y80{C:Cfg}{draw:Bool}{ops:Array Oper}{k k':St->Hp->Prop}(hk:∀st H,k st H->k' st H):∀{l:List Nat}{st:St}{H:Hp},y7w C draw ops l k st H->y7w C draw ops l k' st H
 | [],_,_,h=>hk _ _ h
 | _ :: _,_,_,h=>x1p h λ_ _ h'=>y80 hk h'

theorem y7z{C:Cfg}{draw:Bool}{ops:Array Oper}{k:St->Hp->Prop}:∀{l:List Nat}{st:St}{H:Hp},y7w C draw ops l k st H ->
  y7w C draw ops l (λst' H'=>z11 (yi2 C ops.toList).1 (yi2 C ops.toList).2 st st'/\k st' H') st H
 | [],st,_,h=>⟨z11.refl _ _ st,h⟩
 | i :: l,st,_,h=>x1p (x1q h) λst1 H1 ⟨hk,h'⟩=>y80 (λst2 H2 ⟨hk',h''⟩=>⟨(hk.trans hk').up (λt ht=>by rw[yai,ht];rfl) (λt ht=>by rw[yai,ht];rfl),h''⟩) (y7z h')

theorem z5t:∀{ls:List z14}{f f':List Value->Prop},z5s ls f->(∀vs,f vs->f' vs)->z5s ls f'
 | [],_,_,h,hf=>hf _ h
 | .int _ :: ls,_,_,h,hf=>λx=>z5t (ls:=ls) (h x) λ_=>hf _
 | .bool :: ls,_,_,h,hf=>λx=>z5t (ls:=ls) (h x) λ_=>hf _
 | .sl :: ls,_,_,h,hf=>λx=>z5t (ls:=ls) (h x) λ_=>hf _
 | .ptr :: ls,_,_,h,hf=>λx=>z5t (ls:=ls) (h x) λ_=>hf _
 | .mp :: ls,_,_,h,hf=>λx=>z5t (ls:=ls) (h x) λ_=>hf _
 | .val :: ls,_,_,h,hf=>λx=>z5t (ls:=ls) (h x) λ_=>hf _
 | .alt :: ls,_,_,h,hf=>λx=>z5t (ls:=ls) (h x) λ_=>hf _

theorem zon{C:Cfg}:∀(c:Code){K K':Kc}{st:St}{H:Hp},(∀e st H,K e st H->K' e st H)->vc C c K st H->vc C c K' st H
 | .skip,_,_,_,_,hk,h=>hk _ _ _ h
 | .ret,_,_,_,_,hk,h=>hk _ _ _ h
 | .exit _,_,_,_,_,hk,h=>hk _ _ _ h
 | .region id ops draw,K,K',st,H,hk,h=>by
  simp only[vc] at h ⊢
  cases draw with
  | false=>exact y80 (hk .normal) h
  | true=>exact zr6 (λl st H h=>y80 (hk .normal) h) (λl j j' hj st H h=>y80 hj h) h
 | .seq a b,K,K',st,H,hk,h=>by
  simp only[vc] at h ⊢
  refine zon a (λe st H h'=>?_) h
  cases e <;> first|exact zon b hk h'|exact hk _ _ _ h'
 | .cond c a b,K,K',st,H,hk,h=>by
  simp only[vc] at h ⊢
  split at h
  ·exact⟨λe=>zon a hk (h.1 e),λe=>zon b hk (h.2 e)⟩
  ·exact h.elim
 | .block id b,K,K',st,H,hk,h=>by
  simp only[vc] at h ⊢
  refine zon b (λe st H h'=>?_) h
  cases e with
  | exit k =>
   simp only at h' ⊢
   cases hb:Nat.beq k id with
   | true=>simp only[hb] at h' ⊢;exact hk _ _ _ h'
   | false=>simp only[hb] at h' ⊢;exact hk _ _ _ h'
  | _=>exact hk _ _ _ h'
 | .loop b,K,K',st,H,hk,h=>by
  simp only[vc] at h ⊢
  cases hf:zwp b with
  | none=>simp[hf] at h
  | some id =>
   cases hm:mod C b none with
   | none =>
    rw[hf,hm] at h
    refine zon b (λe st' H' h'=>?_) h
    cases e <;> first|exact h'|exact hk _ _ _ h'
   | some mp =>
    obtain⟨ms,ps⟩:=mp
    rw[hf,hm] at h
    dsimp only at h ⊢
    split at h
    ·unfold y8k at h ⊢
     cases hl:y8p (C.lp id) st with
     | none=>simp[hl] at h
     | some v0 =>
      simp only[hl] at h ⊢
      obtain⟨I,m,h0,h1⟩:=h
      refine⟨I,m,h0,z5t h1 λvs h2 H hI=>zon b (λe st' H' h'=>?_) (h2 H hI)⟩
      cases e <;> first|exact h'|exact hk _ _ _ h'
    ·exact h.elim
 | .rangeFunc ..,_,_,_,_,_,h=>h
 | .scope _,_,_,_,_,_,h=>h
 | .label _,_,_,_,_,_,h=>h
 | .goto _,_,_,_,_,_,h=>h
 | .refuse _,_,_,_,_,_,h=>h

def z12(C:Cfg)(c:Code)(e:Exit)(st st':St):Prop :=
 match e with
 | .normal=>∃ms ps,mod C c none=some (ms,ps)/\z11 ms ps st st'
 | .exit k=>∃ms ps,mod C c (some k)=some (ms,ps)/\z11 ms ps st st'
 | _=>True

theorem z6m{x y:Md}{ms ps:List Nat}{st st':St}(h:x=some (ms,ps))(hk:z11 ms ps st st'):∃ms' ps',Md.alt x y=some (ms',ps')/\z11 ms' ps' st st':=by
 subst h
 cases y with
 | none=>exact⟨ms,ps,rfl,hk⟩
 | some z =>
  obtain⟨c,d⟩:=z
  exact⟨_,_,rfl,hk.up (λt ht=>by simp only[yai,Bool.or_eq_false_iff] at ht;exact ht.1) (λt ht=>by simp only[yai,Bool.or_eq_false_iff] at ht;exact ht.1)⟩

theorem z6n{x y:Md}{ms ps:List Nat}{st st':St}(h:y=some (ms,ps))(hk:z11 ms ps st st'):∃ms' ps',Md.alt x y=some (ms',ps')/\z11 ms' ps' st st':=by
 subst h
 cases x with
 | none=>exact⟨ms,ps,rfl,hk⟩
 | some z =>
  obtain⟨c,d⟩:=z
  exact⟨_,_,rfl,hk.up (λt ht=>by simp only[yai,Bool.or_eq_false_iff] at ht;exact ht.2) (λt ht=>by simp only[yai,Bool.or_eq_false_iff] at ht;exact ht.2)⟩

theorem yvx{x y:Md}{ms ps ms' ps':List Nat}{st st1 st':St}(h:x=some (ms,ps))(h':y=some (ms',ps'))(hk:z11 ms ps st st1)(hk':z11 ms' ps' st1 st'):∃a b,Md.seq x y=some (a,b)/\z11 a b st st':=by
 subst h;subst h'
 exact⟨_,_,rfl,hk.trans hk'⟩

end Go.Eng
end
section
/- The engine,part Q: code is sound;functions. Conditions: none. -/
namespace Go.Eng

theorem y24{ms:List Nat}{base:Env}{t:Nat}:∀{l:List (Nat×z14)}{vs:List Value},(∀x∈l,x.1≠t)->y23 ms base l vs t=match yah t ms with
  | true=>none
  | false=>match base t with
   | some (g,v)=>match g.any λp=>yah p.1 ms with
    | true=>none
    | false=>some (g,v)
   | none=>none
 | [],_,_=>rfl
 | x :: l,vs,h=>by
  have hb:Nat.beq t x.1=false:=by
   cases hx:Nat.beq t x.1 with
   | false=>rfl
   | true=>exact absurd ((Nat.beq_iff _ _).1 hx).symm (h x (List.mem_cons_self ..))
  simp only[y23,hb]
  exact y24 (l:=l) λy hy=>h y (List.mem_cons_of_mem _ hy)

theorem y26{base:z1t}{k:Nat}:∀{l:List (Nat×List z14)}{vs:List Value},(∀x∈l,x.1≠k)->y25 base l vs k=base k
 | [],_,_=>rfl
 | x :: l,vs,h=>by
  have hb:Nat.beq k x.1=false:=by
   cases hx:Nat.beq k x.1 with
   | false=>rfl
   | true=>exact absurd ((Nat.beq_iff _ _).1 hx).symm (h x (List.mem_cons_self ..))
  simp only[y25,hb]
  exact y26 (l:=l) λy hy=>h y (List.mem_cons_of_mem _ hy)

theorem y28{base:z1t}{k:Nat}{cs:List Value}{T:TypeId}(hb:base k=some (cs,T)):∀{l:List (Nat×List z14)}{vs:List Value},∃cs',y25 base l vs k=some (cs',T)
 | [],_=>⟨cs,hb⟩
 | x :: l,vs=>by
  cases hx:Nat.beq k x.1 with
  | false=>simp only[y25,hx];exact y28 hb
  | true =>
   have e:=(Nat.beq_iff _ _).1 hx
   simp only[y25,hx]
   rw[← e,hb]
   exact⟨_,rfl⟩

theorem y2b{ms ps:List Nat}{l:Lp}{st:St}{vs:List Value}(h1:(l.1.all λx=>yah x.1 ms)=true)(h2:(l.2.all λx=>yah x.1 ps)=true):z11 ms ps st (y29 ms l st vs):=by
 simp only[List.all_eq_true] at h1 h2
 refine⟨λt g v a b c=>?_,λj a b=>?_,λj cs T hj=>y28 hj⟩
 ·simp only[y29]
  rw[y24 λx hx e=>by have:=h1 x hx;rw[e,a] at this;cases this]
  have hg:(g.any λp=>yah p.1 ms)=false:=by
   rw[List.any_eq_false];intro p hp;rw[b p hp];simp
  rw[a,c];simp only[hg]
 ·simp only[y29]
  exact y26 λx hx e=>by have:=h2 x hx;rw[e,a] at this;cases this

theorem zr5{C:Cfg}{id:Nat}{ops:Array Oper}{k:St->Hp->Prop}{st:St}{H:Hp}(h:zr4 C id ops k st H):zr4 C id ops (λst' H'=>z11 (yi2 C ops.toList).1 (yi2 C ops.toList).2 st st'/\k st' H') st H:=by
 unfold zr4 at *
 cases hp1:C.perm id with
 | none=>simp[hp1] at h
 | some l =>
  simp only[hp1] at h ⊢
  cases h2:C.perm2 id with
  | none =>
   simp only[h2] at h ⊢
   cases ho:yls C ops l with
   | true=>simp only[ho] at h ⊢;exact y7z h
   | false=>simp[ho] at h
  | some y =>
   have go:∀{st1:St}{H1:Hp}{m:List Nat},z11 (yi2 C ops.toList).1 (yi2 C ops.toList).2 st st1->y7w C true ops m k st1 H1->y7w C true ops m (λst' H'=>z11 (yi2 C ops.toList).1 (yi2 C ops.toList).2 st st'/\k st' H') st1 H1 :=
    λhk hA=>y80 (λst2 H2 ⟨hk',h''⟩=>⟨(hk.trans hk').up (λt ht=>by rw[yai,ht];rfl) (λt ht=>by rw[yai,ht];rfl),h''⟩) (y7z hA)
   obtain⟨n,b⟩:=y
   cases b with
   | false =>
    simp only[h2] at h ⊢
    cases hq:ylt C ops l n with
    | false=>simp[hq] at h
    | true =>
     simp only[hq] at h ⊢
     unfold x68 at *
     split at h
     ·rename_i x d post hd
      exact y80 (λst1 H1 ⟨hk,hA,hB⟩=>⟨go hk hA,go hk hB⟩) (y7z h)
     ·exact h.elim
   | true =>
    simp only[h2] at h ⊢
    cases hq:ylu C ops l n with
    | false=>simp[hq] at h
    | true =>
     simp only[hq] at h ⊢
     unfold x4s at *
     split at h
     ·rename_i x m d post hd
      refine y80 (λst1 H1 ⟨hk,hA,hB⟩=>⟨go hk hA,?_⟩) (y7z h)
      exact y80 (λst2 H2 ⟨hk',hA,hB⟩ =>
       have hk2:=(hk.trans hk').up (ms':=(yi2 C ops.toList).1) (ps':=(yi2 C ops.toList).2) (λt ht=>by rw[yai,ht];rfl) (λt ht=>by rw[yai,ht];rfl)
       ⟨go hk2 hA,go hk2 hB⟩) (y7z hB)
     ·exact h.elim

theorem zom{C:Cfg}:∀(c:Code){K:Kc}{st:St}{H:Hp},vc C c K st H->vc C c (λe st' H'=>z12 C c e st st'/\K e st' H') st H
 | .skip,_,st,_,h=>⟨⟨_,_,rfl,z11.refl _ _ st⟩,h⟩
 | .ret,_,_,_,h=>⟨trivial,h⟩
 | .exit id,_,st,_,h=>⟨⟨[],[],by simp[mod,Nat.beq_refl],z11.refl _ _ st⟩,h⟩
 | .region id ops draw,K,st,H,h=>by
  simp only[vc] at h ⊢
  have key:∀(dr:Bool)(l:List Nat),y7w C dr ops l (K .normal) st H->y7w C dr ops l (λst' H'=>z12 C (.region id ops draw) .normal st st'/\K .normal st' H') st H :=
   λdr l h=>y80 (λst' H' ⟨hk,h'⟩=>⟨⟨_,_,rfl,hk⟩,h'⟩) (y7z h)
  cases draw with
  | false=>exact key _ _ h
  | true=>exact zr6 (λl st H h=>y80 (λ_ _ h=>h) h) (λl j j' hj st H h=>y80 hj h) (zr6 (λl st1 H1 h1=>y80 (λst' H' h'=>⟨⟨_,_,rfl,h'.1⟩,h'.2⟩) h1) (λl j j' hj st H h=>y80 hj h) (zr5 h))
 | .seq a b,K,st,H,h=>by
  simp only[vc] at h ⊢
  refine zon a (λe st1 H1 h'=>?_) (zom a h)
  obtain⟨hk,h'⟩:=h'
  cases e with
  | normal =>
   obtain⟨ms,ps,hm,hk⟩:=hk
   refine zon b (λe st2 H2 h''=>?_) (zom b h')
   obtain⟨hk',h''⟩:=h''
   refine⟨?_,h''⟩
   cases e with
   | normal=>obtain⟨ms',ps',hm',hk'⟩:=hk';exact yvx hm hm' hk hk'
   | exit k =>
    obtain⟨ms',ps',hm',hk'⟩:=hk'
    obtain⟨x,y,h1,h2⟩:=yvx hm hm' hk hk'
    exact z6n h1 h2
   | _=>trivial
  | exit k =>
   obtain⟨ms,ps,hm,hk⟩:=hk
   exact⟨z6m hm hk,h'⟩
  | _=>exact⟨trivial,h'⟩
 | .cond c a b,K,st,H,h=>by
  simp only[vc] at h ⊢
  split at h
  ·refine⟨λe=>?_,λe=>?_⟩
   ·refine zon a (λe st1 H1 h'=>⟨?_,h'.2⟩) (zom a (h.1 e))
    cases e with
    | normal=>obtain⟨ms,ps,hm,hk⟩:=h'.1;exact z6m hm hk
    | exit k=>obtain⟨ms,ps,hm,hk⟩:=h'.1;exact z6m hm hk
    | _=>trivial
   ·refine zon b (λe st1 H1 h'=>⟨?_,h'.2⟩) (zom b (h.2 e))
    cases e with
    | normal=>obtain⟨ms,ps,hm,hk⟩:=h'.1;exact z6n hm hk
    | exit k=>obtain⟨ms,ps,hm,hk⟩:=h'.1;exact z6n hm hk
    | _=>trivial
  ·exact h.elim
 | .block id b,K,st,H,h=>by
  simp only[vc] at h ⊢
  refine zon b (λe st1 H1 h'=>?_) (zom b h)
  obtain⟨hk,h'⟩:=h'
  cases e with
  | normal=>obtain⟨ms,ps,hm,hk⟩:=hk;exact⟨z6m hm hk,h'⟩
  | exit k =>
   obtain⟨ms,ps,hm,hk⟩:=hk
   simp only at h' ⊢
   cases hb:Nat.beq k id with
   | true =>
    simp only[hb] at h' ⊢
    have e:=(Nat.beq_iff _ _).1 hb
    subst e
    exact⟨z6n hm hk,h'⟩
   | false =>
    simp only[hb] at h' ⊢
    refine⟨⟨ms,ps,?_,hk⟩,h'⟩
    have:Nat.beq id k=false:=by
     cases hx:Nat.beq id k with
     | false=>rfl
     | true=>rw[(Nat.beq_iff _ _).1 hx,Nat.beq_refl] at hb;cases hb
    simp only[mod,this];exact hm
  | _=>exact⟨trivial,h'⟩
 | .loop b,K,st,H,h=>by
  simp only[vc] at h ⊢
  cases hf:zwp b with
  | none=>simp[hf] at h
  | some id =>
   cases hm:mod C b none with
   | none =>
    rw[hf,hm] at h
    refine zon b (λe st1 H1 h'=>?_) (zom b h)
    obtain⟨hk,h'⟩:=h'
    cases e with
    | normal=>exact h'
    | exit k=>obtain⟨ms,ps,hm',hk⟩:=hk;exact⟨z6m hm' hk,h'⟩
    | _=>exact⟨trivial,h'⟩
   | some mp =>
    obtain⟨ms,ps⟩:=mp
    rw[hf,hm] at h
    dsimp only at h ⊢
    split at h
    ·rename_i hps
     simp only[Bool.and_eq_true] at hps
     unfold y8k at h ⊢
     cases hl:y8p (C.lp id) st with
     | none=>simp[hl] at h
     | some v0 =>
      simp only[hl] at h ⊢
      obtain⟨I,m,h0,h1⟩:=h
      refine⟨I,m,h0,z5t h1 λvs h2 H hI=>zon b (λe st1 H1 h'=>?_) (zom b (h2 H hI))⟩
      obtain⟨hk,h'⟩:=h'
      cases e with
      | normal=>exact h'
      | exit k =>
       obtain⟨ms',ps',hm',hk⟩:=hk
       obtain⟨x,y,e1,e2⟩:=yvx hm hm' (y2b hps.1.2 hps.2) hk
       exact⟨z6n e1 e2,h'⟩
      | _=>exact⟨trivial,h'⟩
    ·exact h.elim
 | .rangeFunc ..,_,_,_,h=>h.elim
 | .scope _,_,_,_,h=>h.elim
 | .label _,_,_,_,h=>h.elim
 | .goto _,_,_,_,h=>h.elim
 | .refuse _,_,_,_,h=>h.elim

end Go.Eng
end
section
/- The engine,part R: code is sound;a function out of its conditions. Conditions: none. -/
namespace Go.Eng

theorem z75{R:Type}:∀{ls:List z14}{r:Cur R ls}{vs:List Value}{x:R},z73 ls r vs=some x->∀f,z5s ls f->f vs
 | [],_,[],_,_,f,h=>h
 | [],_,_ :: _,_,h,_,_=>by simp[z73] at h
 | .int k :: ls,r,vs,x,h,f,hf=>by
  cases vs with
  | nil=>simp[z73] at h
  | cons v vs =>
   cases v with
   | int k' n =>
    simp only[z73] at h
    split at h
    ·rename_i hk
     have:=of_decide_eq_true hk
     subst this
     exact z75 h _ (hf n)
    ·cases h
   | _=>simp[z73] at h
 | .bool :: ls,r,vs,x,h,f,hf=>by
  cases vs with
  | nil=>simp[z73] at h
  | cons v vs =>
   cases v with
   | bool b=>simp only[z73] at h;exact z75 h _ (hf b)
   | _=>simp[z73] at h
 | .sl :: ls,r,vs,x,h,f,hf=>by
  cases vs with
  | nil=>simp[z73] at h
  | cons v vs =>
   cases v with
   | slice a n c=>simp only[z73] at h;exact z75 h _ (hf ⟨a,n,c⟩)
   | _=>simp[z73] at h
 | .ptr :: ls,r,vs,x,h,f,hf=>by
  cases vs with
  | nil=>simp[z73] at h
  | cons v vs =>
   cases v with
   | pointer a =>
    cases a with
    | none=>simp[z73] at h
    | some a=>simp only[z73] at h;exact z75 h _ (hf a)
   | _=>simp[z73] at h
 | .mp :: ls,r,vs,x,h,f,hf=>by
  cases vs with
  | nil=>simp[z73] at h
  | cons v vs =>
   cases v with
   | map r=>simp only[z73] at h;exact z75 h _ (hf r)
   | _=>simp[z73] at h
 | .val :: ls,r,vs,x,h,f,hf=>by
  cases vs with
  | nil=>simp[z73] at h
  | cons v vs=>simp only[z73] at h;exact z75 h _ (hf v)
 | .alt :: ls,r,vs,x,h,f,hf=>by
  cases vs with
  | nil=>simp[z73] at h
  | cons v vs =>
   cases v with
   | bool b=>simp only[z73] at h;exact z75 h _ (hf b)
   | _=>simp[z73] at h

theorem z74{R S:Type}:∀{ls:List z14}{r:Cur R ls}{s:Cur S ls}{vs:List Value}{x:R},z73 ls r vs=some x->∃y,z73 ls s vs=some y
 | [],_,s,[],_,_=>⟨s,rfl⟩
 | [],_,_,_ :: _,_,h=>by simp[z73] at h
 | .int k :: ls,r,s,vs,x,h=>by
  cases vs with
  | nil=>simp[z73] at h
  | cons v vs =>
   cases v with
   | int k' n =>
    simp only[z73] at h ⊢
    split at h
    ·exact z74 h
    ·cases h
   | _=>simp[z73] at h
 | .bool :: ls,r,s,vs,x,h=>by
  cases vs with
  | nil=>simp[z73] at h
  | cons v vs =>
   cases v with
   | bool b=>simp only[z73] at h ⊢;exact z74 h
   | _=>simp[z73] at h
 | .sl :: ls,r,s,vs,x,h=>by
  cases vs with
  | nil=>simp[z73] at h
  | cons v vs =>
   cases v with
   | slice a n c=>simp only[z73] at h ⊢;exact z74 h
   | _=>simp[z73] at h
 | .ptr :: ls,r,s,vs,x,h=>by
  cases vs with
  | nil=>simp[z73] at h
  | cons v vs =>
   cases v with
   | pointer a =>
    cases a with
    | none=>simp[z73] at h
    | some a=>simp only[z73] at h ⊢;exact z74 h
   | _=>simp[z73] at h
 | .mp :: ls,r,s,vs,x,h=>by
  cases vs with
  | nil=>simp[z73] at h
  | cons v vs =>
   cases v with
   | map r=>simp only[z73] at h ⊢;exact z74 h
   | _=>simp[z73] at h
 | .val :: ls,r,s,vs,x,h=>by
  cases vs with
  | nil=>simp[z73] at h
  | cons v vs=>simp only[z73] at h ⊢;exact z74 h
 | .alt :: ls,r,s,vs,x,h=>by
  cases vs with
  | nil=>simp[z73] at h
  | cons v vs =>
   cases v with
   | bool b=>simp only[z73] at h ⊢;exact z74 h
   | _=>simp[z73] at h

structure z2l(st' st:St):Prop where
 env:∀t e,st.env t=some e->st'.env t=some e
 priv:∀j b,st.priv j=some b->st'.priv j=some b
 known:∀t g v,st.env t=some (g,v)->v.known st.priv

theorem Sim.weak{n:Nat}{ds:List Nat}{w0 w:World}{H0 H:Hp}{st st':St}{a:Act}(h:Sim n ds w0 H0 st' H a w)(hw:z2l st' st):Sim n ds w0 H0 st H a w:=by
 obtain⟨ids,hE,hP,hT⟩:=h
 have hn:∀j,st.priv j≠none->st'.priv j≠none:=λj hj=>by
  cases hx:st.priv j with
  | none=>exact absurd hx hj
  | some b=>rw[hw.priv j b hx];simp
 exact⟨ids,⟨hE.size,hE.defers,λt g v ht=>hE.ok t g v (hw.env t _ ht),λt g v ht=>hE.no t g v (hw.env t _ ht),hw.known⟩,
  ⟨λj cs t hj=>hP.blk j cs t (hw.priv j _ hj),λj hj=>hP.hid j (hn j hj),λj hj=>hP.low j (hn j hj),λj k hj hk=>hP.inj j k (hn j hj) (hn k hk),hP.dfs⟩,hT⟩

theorem y2a{ms:List Nat}{base env':Env}(hb:∀t g v,yah t ms=false->(∀p∈g,yah p.1 ms=false)->base t=some (g,v)->env' t=some (g,v)) :
  ∀{l:List (Nat×z14)}{vs us:List Value},yz0 env' l=some vs->∀t e,y23 ms base l (vs++us) t=some e->env' t=some e\/∃x∈l,x.1=t/\env' t=some e
 | [],vs,us,_,t,e,h=>by
  left
  simp only[y23] at h
  split at h
  ·cases h
  ·rename_i hm
   split at h
   ·rename_i g v hbt
    split at h
    ·cases h
    ·rename_i hg
     cases h
     exact hb t g v hm (λp hp=>by rw[List.any_eq_false] at hg;simpa using hg p hp) hbt
   ·cases h
 | (s,lf) :: l,vs,us,hv,t,e,h=>by
  simp only[yz0] at hv
  split at hv
  ·rename_i v hs
   split at hv
   ·rename_i vs' hv'
    cases hv
    cases hx:Nat.beq t s with
    | true =>
     simp only[y23,hx,List.cons_append] at h
     cases h
     have:=(Nat.beq_iff _ _).1 hx
     subst this
     exact .inl hs
    | false =>
     simp only[y23,hx,List.cons_append,List.tail_cons] at h
     rcases y2a hb hv' t e h with h'|⟨x,hx',h'⟩
     ·exact .inl h'
     ·exact .inl h'.2
   ·cases hv
  ·cases hv

theorem head_priv'{base pr':z1t}(ht:∀j cs T,base j=some (cs,T)->∃cs',pr' j=some (cs',T)):∀{l:List (Nat×List z14)}{vs us:List Value}{k:Nat}{b:List Value×TypeId},
  you pr' l=some vs->((∀x∈l,x.1≠k)->base k≠none->pr' k=base k)->y25 base l (vs++us) k=some b->pr' k=some b
 | [],vs,us,k,b,_,hk,h=>by
  simp only[y25] at h
  rw[hk (by simp) (by simp[h]),h]
 | (j,ls) :: l,vs,us,k,b,hv,hk,h=>by
  simp only[you] at hv
  split at hv
  ·rename_i cs T hj
   split at hv
   ·rename_i vs' hlen hv'
    cases hv
    have hlen':cs.length=ls.length:=Nat.eq_of_beq_eq_true hlen
    cases hx:Nat.beq k j with
    | true =>
     have e:=(Nat.beq_iff _ _).1 hx
     subst e
     simp only[y25,hx] at h
     cases hb:base k with
     | none=>simp[hb] at h
     | some b0 =>
      obtain⟨c0,T0⟩:=b0
      simp only[hb,Option.some.injEq] at h
      obtain⟨cs',h2⟩:=ht k c0 T0 hb
      rw[hj] at h2
      cases h2
      rw[hj,← h]
      simp[← hlen']
    | false =>
     simp only[y25,hx] at h
     have hd:(cs++vs'++us).drop ls.length=vs'++us:=by rw[← hlen',List.append_assoc,List.drop_left]
     rw[hd] at h
     refine head_priv' ht hv' (λhn=>hk λx hx'=>?_) h
     rcases List.mem_cons.1 hx' with rfl|hx'
     ·intro e;have e':j=k:=e;rw[e',Nat.beq_refl] at hx;cases hx
     ·exact hn x hx'
   ·cases hv
  ·cases hv

theorem yz1{env:Env}:∀{l:List (Nat×z14)}{vs:List Value},yz0 env l=some vs->vs.length=l.length
 | [],vs,h=>by cases h;rfl
 | (s,lf) :: l,vs,h=>by
  simp only[yz0] at h
  split at h
  ·split at h
   ·rename_i hv;cases h;simp[yz1 hv]
   ·cases h
  ·cases h

theorem x7x{ms ps:List Nat}{l:Lp}{st st':St}{vs:List Value}(hv:y8p l st'=some vs)(hps:∀j,yah j ps=true->st.priv j≠none->∃x∈l.2,x.1=j)(hkn:∀t g v,st.env t=some (g,v)->v.known st.priv)
  (he:∀t g v,yah t ms=false->(∀p∈g,yah p.1 ms=false)->st.env t=some (g,v)->st'.env t=some (g,v)) (hp:∀j,yah j ps=false->st.priv j≠none->(∀x∈l.2,x.1≠j)->st'.priv j=st.priv j)
  (ht:∀j cs T,st.priv j=some (cs,T)->∃cs',st'.priv j=some (cs',T)):z2l st' (y29 ms l st vs):=by
 unfold y8p at hv
 split at hv
 ·rename_i v1 v2 h1 h2
  cases hv
  have hlen:=yz1 h1
  refine⟨λt e h=>?_,λj b h=>?_,λt g v h=>?_⟩
  ·rcases y2a he h1 t e h with h|⟨_,_,_,h⟩ <;> exact h
  ·simp only[y29] at h
   have hd:(v1++v2).drop l.1.length=v2++[]:=by rw[← hlen,List.drop_left];simp
   rw[hd] at h
   refine head_priv' ht h2 (λhn hb=>?_) h
   refine hp j ?_ hb hn
   cases hm:yah j ps with
   | false=>rfl
   | true=>obtain⟨x,hx,e⟩:=hps j hm hb;exact absurd e (hn x hx)
  · -- what is known of the pointers
   cases v with
   | lit v=>trivial
   | ptr j o =>
    have key:∀(l1:List (Nat×z14))(vs:List Value),y23 ms st.env l1 vs t=some (g,.ptr j o)->st.env t=some (g,.ptr j o):=by
     intro l1
     induction l1 with
     | nil =>
      intro vs h
      simp only[y23] at h
      split at h
      ·cases h
      ·split at h
       ·rename_i hbt
        split at h
        ·cases h
        ·cases h;exact hbt
       ·cases h
     | cons x l1 ih =>
      intro vs h
      simp only[y23] at h
      split at h
      ·split at h <;> cases h
      ·exact ih _ h
    have h3:=hkn t g _ (key _ _ h)
    show (y29 ms l st (v1++v2)).priv j≠none
    intro hn
    cases hb:st.priv j with
    | none=>exact h3 hb
    | some b =>
     obtain⟨cs,T⟩:=b
     obtain⟨cs',h4⟩:=y28 hb (l:=l.2) (vs:=(v1++v2).drop l.1.length)
     simp only[y29] at hn
     rw[h4] at hn;cases hn
 ·cases hv

def Qk(n:Nat)(ds:List Nat)(w0:World)(H0:Hp)(K:Kc):Exit->Act->World->Prop:=λe a w=>∃st H,Sim n ds w0 H0 st H a w/\K e st H

theorem x8l{F:Fence}{m:Nat}{P:Program}{Q:Exit->Act->World->Prop}{a:Act}{w:World}{c:Code}(I:Nat->Act->World->Prop)(n₀:Nat)(h₀:I n₀ a w)
  (round:∀n a w,I n a w->c.wpIn F m P (Exit.then (λa' w'=>∃n',n'<n/\I n' a' w') Q) a w):(Code.loop c).wpIn F m P Q a w:=by
 refine wpIn_loop (λa w=>∃n,I n a w) (λa w=>leastOf (λn=>I n a w)) ⟨n₀,h₀⟩ ?_
 intro a w hI
 refine wpIn_mono (round _ a w (leastOf_spec hI).1) ?_
 intro e a' w' hq
 cases e with
 | normal =>
  obtain⟨n',hlt,hI'⟩:=hq
  exact show (∃n,I n a' w')/\leastOf (λn=>I n a' w')<leastOf (λn=>I n a w) from⟨⟨n',hI'⟩,Nat.lt_of_le_of_lt ((leastOf_spec ⟨n',hI'⟩).2 n' hI') hlt⟩
 | exit id=>exact hq
 | goto l=>exact hq
 | ret=>exact hq
 | panic ch=>exact hq
 | outgrown=>exact hq

theorem zoo{C:Cfg}{ds:List Nat}{ro:Option Nat}{w0:World}{H0:Hp}(hN:z1j C.P)(hM:C.P.follows .mixedOrders=true):∀(c:Code){K:Kc}{st:St}{H:Hp}{a:Act}{w:World},
  vc C c K st H->Sim C.n ds w0 H0 st H a w->c.wpIn (Fz ro) 0 C.P (Qk C.n ds w0 H0 K) a w
 | .skip,K,st,H,a,w,h,hs=>wpIn_skip ⟨st,H,hs,h⟩
 | .ret,K,st,H,a,w,h,hs=>wpIn_ret ⟨st,H,hs,h⟩
 | .exit id,K,st,H,a,w,h,hs=>wpIn_exit ⟨st,H,hs,h⟩
 | .region id ops draw,K,st,H,a,w,h,hs=>by
  simp only[vc] at h
  cases draw with
  | false=>exact wpIn_region (y81 hN (λa w h=>h) _ st H a w h hs)
  | true=>exact zr7 hN hM (λa w h=>h) h hs
 | .seq x y,K,st,H,a,w,h,hs=>by
  simp only[vc] at h
  refine wpIn_seq (wpIn_mono (zoo hN hM x h hs) λe a w hq=>?_)
  obtain⟨st',H',hs',h'⟩:=hq
  cases e with
  | normal=>exact zoo hN hM y h' hs'
  | _=>exact⟨st',H',hs',h'⟩
 | .cond c x y,K,st,H,a,w,h,hs=>by
  simp only[vc] at h
  split at h
  ·rename_i b hb
   have e:a.eval c=.bool b:=by
    obtain⟨ids,hE,_,_⟩:=hs
    exact hE.ev (g:=[]) (by simp[gH]) hb
   refine wpIn_cond e ?_
   cases b with
   | true=>exact zoo hN hM x (h.1 rfl) hs
   | false=>exact zoo hN hM y (h.2 rfl) hs
  ·exact h.elim
 | .block id b,K,st,H,a,w,h,hs=>by
  simp only[vc] at h
  refine wpIn_block (wpIn_mono (zoo hN hM b h hs) λe a w hq=>?_)
  obtain⟨st',H',hs',h'⟩:=hq
  cases e with
  | exit k =>
   simp only[Exit.inBlock]
   by_cases hk:k=id
   ·subst hk
    rw[if_pos rfl]
    simp only[Nat.beq_refl] at h'
    exact⟨st',H',hs',h'⟩
   ·rw[if_neg hk]
    have:Nat.beq k id=false:=by
     cases hx:Nat.beq k id with
     | false=>rfl
     | true=>exact absurd ((Nat.beq_iff _ _).1 hx) hk
    simp only[this] at h'
    exact⟨st',H',hs',h'⟩
  | _=>exact⟨st',H',hs',h'⟩
 | .loop b,K,st,H,a,w,h,hs=>by
  simp only[vc] at h
  cases hf:zwp b with
  | none=>simp[hf] at h
  | some id =>
   cases hm:mod C b none with
   | none =>
    rw[hf,hm] at h
    refine x8l (λ_ a' w'=>a'=a/\w'=w) 0 ⟨rfl,rfl⟩ λn a' w' ⟨ha,hw⟩=>?_
    subst ha;subst hw
    refine wpIn_mono (zoo hN hM b h hs) λe a w hq=>?_
    obtain⟨st',H',hs',h'⟩:=hq
    cases e with
    | normal=>exact h'.elim
    | _=>exact⟨st',H',hs',h'⟩
   | some mp =>
    obtain⟨ms,ps⟩:=mp
    rw[hf,hm] at h
    dsimp only at h
    split at h
    ·rename_i hps
     simp only[Bool.and_eq_true,List.all_eq_true] at hps
     obtain⟨⟨hps,hl1⟩,hl2⟩:=hps
     have hps':∀j,yah j ps=true->st.priv j≠none->∃x∈(C.lp id).2,x.1=j:=λj hj hn=>by
      rcases Bool.or_eq_true _ _▸hps j (yaj.1 hj) with this|this
      ·obtain⟨x,hx,e⟩:=List.mem_map.1 (yaj.1 this)
       exact⟨x,hx,e⟩
      ·exact absurd (yot this) hn
     unfold y8k at h
     cases hl:y8p (C.lp id) st with
     | none=>simp[hl] at h
     | some v0 =>
      simp only[hl] at h
      obtain⟨I,m,h0,h1⟩:=h
      have hkn:∀t g v,st.env t=some (g,v)->v.known st.priv:=by obtain⟨ids,hE,_,_⟩:=hs;exact hE.known
      -- the relation that is handed on
      cases ha0:z73 (Lp.leaves (C.lp id)) I v0 with
      | none=>simp[ha0] at h0
      | some p0 =>
       simp only[ha0] at h0
       have hm0:∀vs (p:Hp->Prop),z73 (Lp.leaves (C.lp id)) I vs=some p->∃f,z73 (Lp.leaves (C.lp id)) m vs=some f:=by
        intro vs p hp;exact z74 hp
       obtain⟨f0,hf0⟩:=hm0 v0 p0 ha0
       refine x8l (λk a' w'=>∃vs H' p f,z73 (Lp.leaves (C.lp id)) I vs=some p/\p H'/\z73 (Lp.leaves (C.lp id)) m vs=some f/\f H'=k/\Sim C.n ds w0 H0 (y29 ms (C.lp id) st vs) H' a' w') (f0 H)
        ⟨v0,H,p0,f0,ha0,h0,hf0,rfl,hs.weak (x7x hl hps' hkn (λ_ _ _ _ _ h=>h) (λ_ _ _ _=>rfl) (λj cs T h=>⟨cs,h⟩))⟩ ?_
       intro k a1 w1 hJ
       obtain⟨vs,H1,p,f,hp,hpH,hf1,hk,hs1⟩:=hJ
       have h2:=z75 hp _ h1 H1 (by rw[hp];exact hpH)
       refine wpIn_mono (zoo hN hM b (zom b h2) hs1) λe a2 w2 hq=>?_
       obtain⟨st2,H2,hs2,hkeep,h'⟩:=hq
       cases e with
       | normal =>
        obtain⟨ms',ps',hm',hke⟩:=hkeep
        rw[hm] at hm'
        cases hm'
        simp only at h'
        cases hl':y8p (C.lp id) st2 with
        | none=>simp[hl'] at h'
        | some vs' =>
         simp only[hl'] at h'
         cases hp':z73 (Lp.leaves (C.lp id)) I vs' with
         | none=>simp[hp'] at h'
         | some p' =>
          cases hf':z73 (Lp.leaves (C.lp id)) m vs' with
          | none=>simp[hp',hf'] at h'
          | some f' =>
           simp only[hp',hf',hf1] at h'
           refine⟨f' H2,by rw[← hk];exact h'.2,vs',H2,p',f',hp',h'.1,hf',rfl,hs2.weak (x7x hl' hps' hkn (λt g v hm1 hm2 hb=>?_) (λj hm1 hb hn=>?_) (λj cs T hj=>?_))⟩
           ·by_cases hc:∃x∈(C.lp id).1,x.1=t
            ·obtain⟨x,hx,e⟩:=hc
             have:=hl1 x hx
             rw[e,hm1] at this;cases this
            ·refine hke.env t g v hm1 hm2 ?_
             simp only[y29]
             rw[y24 λx hx e=>hc ⟨x,hx,e⟩]
             have hg:(g.any λp=>yah p.1 ms)=false:=by
              rw[List.any_eq_false];intro p hp;rw[hm2 p hp];simp
             rw[hm1,hb];simp only[hg]
           ·have e1:(y29 ms (C.lp id) st vs).priv j=st.priv j:=y26 hn
            rw[hke.priv j hm1 (by rw[e1];exact hb),e1]
           ·obtain⟨cs1,h3⟩:=y28 hj (l:=(C.lp id).2) (vs:=vs.drop (C.lp id).1.length)
            exact hke.typ j cs1 T h3
       | _=>exact⟨st2,H2,hs2,h'⟩
    ·exact h.elim
 | .rangeFunc ..,_,_,_,_,_,h,_=>h.elim
 | .scope _,_,_,_,_,_,h,_=>h.elim
 | .label _,_,_,_,_,_,h,_=>h.elim
 | .goto _,_,_,_,_,_,h,_=>h.elim
 | .refuse _,_,_,_,_,_,h,_=>h.elim

def yth(C:Cfg)(st:St):List ResultVar->Option (List Value)
 | []=>some []
 | .tmp t :: rs=>match st.env.ev [] (.tmp t),yth C st rs with
  | some (.lit v),some vs=>some (v :: vs)
  | _,_=>none
 | .cell t ty :: rs=>match st.env.ev [] (.tmp t),yth C st rs with
  | some (.ptr j off),some vs=>match st.priv j with
   | some (cs,_)=>match Nat.ble (off+C.P.cellsOf ty) cs.length&&(z5o C.P ty||Nat.beq (C.P.cellsOf ty) 1)&&y21 C.P ty with
    | true=>some (mkV (z5o C.P ty) ((cs.drop off).take (C.P.cellsOf ty)) :: vs)
    | false=>none
   | none=>none
  | _,_=>none

def ytk(C:Cfg)(rs:List ResultVar)(post:Value->Hp->Prop):Kc:=λe st H=>match e with
 | .normal=>match yth C st rs with
  | some [v]=>post v H
  | some vs=>post (.tuple vs.toArray) H
  | none=>False
 | .ret=>match yth C st rs with
  | some [v]=>post v H
  | some vs=>post (.tuple vs.toArray) H
  | none=>False
 | _=>False

def zrz:List Value->Env
 | []=>λ_=>none
 | v :: vs=>λt=>match t with
  | 0=>some ([],.lit v)
  | t+1=>zrz vs t

theorem zs0:∀{vs:List Value}{t:Nat}{e:Gd×V0},zrz vs t=some e->∃v,vs[t]?=some v/\e=([],.lit v)
 | [],t,e,h=>by cases h
 | v :: vs,0,e,h=>by cases h;exact⟨v,rfl,rfl⟩
 | v :: vs,t+1,e,h=>zs0 (vs:=vs) h

end Go.Eng
end
section
/- The engine,part S: a function out of its conditions. Conditions: none. -/
namespace Go.Eng

def ytg(tmps:Array Value):ResultVar->Sem Value
 | .tmp t=>pure (tmps.getD t undef)
 | .cell p t=>do loadVar t (← asAddr (tmps.getD p undef))

theorem ytj(fn:Func)(tmps:Array Value):results fn tmps=(do let vs ← fn.results.mapM (ytg tmps);pure (if h:vs.size=1 then vs[0] else .tuple vs)):=by
 unfold results
 congr 1

theorem yuh{C:Cfg}{ds:List Nat}{st:St}{ids:Nat->Nat}{a:Act}{H:Hp}{w:World}{B:Nat}(hE:z0p C.n ds st.env st.priv ids a)(hP:z1v ds st.priv ids H w B) :
  ∀{rs:List ResultVar}{vs:List Value},yth C st rs=some vs ->
   (rs.mapM (ytg a.tmps)).run C.P w=.ok vs w
 | [],vs,h=>by cases h;simp
 | .tmp t :: rs,vs,h=>by
  simp only[yth] at h
  split at h
  ·rename_i v vs' hv hr
   cases h
   have e:a.tmps.getD t undef=v:=hE.ev (g:=[]) (by simp[gH]) hv
   rw[List.mapM_cons,Sem.run_bind]
   simp only[ytg,Sem.run_pure,Result.andThen_ok,Sem.run_bind,e]
   rw[yuh hE hP hr];rfl
  ·cases h
 | .cell p t :: rs,vs,h=>by
  simp only[yth] at h
  split at h
  ·rename_i j off vs' hv hr
   split at h
   ·rename_i cs T hj
    split at h
    ·rename_i hc
     cases h
     simp only[Bool.and_eq_true,Bool.or_eq_true,Nat.beq_iff] at hc
     obtain⟨⟨hle,h1⟩,hu⟩:=hc
     obtain⟨u,hu⟩:=y22 hu
     have hle':off+C.P.cellsOf t<=cs.length:=Nat.le_of_ble_eq_true hle
     have e:a.tmps.getD p undef=.pointer (some ⟨ids j,off,none⟩):=hE.ev (g:=[]) (by simp[gH]) hv
     have hb:=hP.blk j cs T hj
     have hrl:=run_loadVar' (P:=C.P) (w:=w) (t:=t) (p:=⟨ids j,off,none⟩) (vs:=(cs.drop off).take (C.P.cellsOf t)) hu (λi v h=>by
      rw[z41]
      rw[List.getElem?_take] at h
      split at h
      ·rw[List.getElem?_drop] at h
       simp[World.cell?,hb,h]
      ·cases h) (by simp;omega) h1
     rw[List.mapM_cons,Sem.run_bind]
     have e1:(ytg a.tmps (.cell p t)).run C.P w=.ok (mkV (z5o C.P t) ((cs.drop off).take (C.P.cellsOf t))) w:=by
      simp only[ytg,Sem.run_bind,e,asAddr,Sem.run_pure,Result.andThen_ok,hrl]
     rw[e1,Result.andThen_ok,Sem.run_bind,yuh hE hP hr];rfl
    ·cases h
   ·cases h
  ·cases h

theorem Fn.of_vc{C:Cfg}{f:FuncId}{fn:Func}{c:Code}{args:List Value}{H:Hp}{post:Value->Hp->Prop}(hN:z1j C.P)(hM:C.P.follows .mixedOrders=true)
  (hf:C.P.funcs[f]?=some fn) (hb:fn.body=some c) (hn:fn.ntmps=C.n) (ha:Nat.ble args.length C.n=true)
  (h:vc C c (ytk C fn.results.toList post) ⟨zrz args,λ_=>none⟩ H):Fn C.P f args.toArray H post:=by
 intro w hv
 have ha':=Nat.le_of_ble_eq_true ha
 refine calls_of_wp hf hb ((wpIn_wide (n:=0)).1 (wpIn_mono (zoo (ds:=[]) (ro:=none) (w0:=w) (H0:=H) hN hM c h ?_) ?_))
 ·refine⟨λ_=>0,⟨by simp[hn];omega,rfl,λt g v ht _=>?_,λt g v ht hg=>?_,λt g v ht=>?_⟩,⟨λ_ _ _ h=>(by cases h),λ_ h=>absurd rfl h,λ_ h=>absurd rfl h,λ_ _ h=>absurd rfl h,λ_ h=>(by cases h)⟩,Tr.refl hv⟩
  ·obtain⟨v',h1,h2⟩:=zs0 ht
   cases h2
   have hlt:t<args.length:=by
    rcases Nat.lt_or_ge t args.length with h|h
    ·exact h
    ·simp[List.getElem?_eq_none h] at h1
   simp only[V0.val]
   rw[Array.getD_eq_getD_getElem?,Array.getElem?_append_left (by simpa using hlt)]
   simp[h1]
  ·obtain⟨v',h1,h2⟩:=zs0 ht
   cases h2
   exact absurd (by simp[gH]) hg
  ·obtain⟨v',h1,h2⟩:=zs0 ht
   cases h2
   trivial
 ·intro e a w' hq
  obtain⟨st,H',⟨ids,hE,hP,hT⟩,hk⟩:=hq
  have fin:(match yth C st fn.results.toList with
    | some [v]=>post v H'
    | some vs=>post (.tuple vs.toArray) H'
    | none=>False)->a.defers=[]/\∃v,(results fn a.tmps).run C.P w'=.ok v w'/\∃v1 H1,Ending.returned v=.returned v1/\Tr w H w' H1/\post v1 H1:=by
   intro hk
   refine⟨hE.defers,?_⟩
   cases hr:yth C st fn.results.toList with
   | none=>simp[hr] at hk
   | some vs =>
    rw[hr] at hk
    have hrun:=yuh (C:=C) hE hP hr
    have hres:(results fn a.tmps).run C.P w'=.ok (if h:vs.toArray.size=1 then vs.toArray[0] else .tuple vs.toArray) w':=by
     rw[ytj,Sem.run_bind,Array.mapM_eq_mapM_toList,Sem.run_map,hrun]
     rfl
    refine⟨_,hres,?_⟩
    refine⟨_,H',rfl,hT,?_⟩
    split at hk
    ·rename_i v h1;cases h1;simpa using hk
    ·rename_i vs' hne h1
     cases h1
     have:vs.toArray.size≠1:=by
      intro hl
      obtain⟨v,rfl⟩:=List.length_eq_one_iff.1 (by simpa using hl)
      exact hne v rfl
     rw[dif_neg this];exact hk
    ·exact hk.elim
  cases e with
  | normal=>exact fin hk
  | ret=>exact fin hk
  | _=>exact hk.elim

end Go.Eng
end
section
/- The engine,part T: the door. Conditions: none. -/
namespace Go.Eng

def zb7(f:Func):Code :=
 match f.body with
 | some c=>c
 | none=>.skip

theorem zb8{f:Func}(h:f.body.isSome=true):f.body=some (zb7 f):=by
 unfold zb7
 cases hb:f.body with
 | none=>rw[hb] at h;cases h
 | some c=>rfl

def GoodP(P:Program):Prop:=z1j P/\P.follows .mixedOrders=true

theorem goodP{P:Program}(h1:(P.funcs.toList.all λfn=>fn.body.isNone||!(fn.name== "runtime.NumGoroutine"))=true)(h2:P.follows .mixedOrders=true):GoodP P:=by
 refine⟨λf fn hf hb=>?_,h2⟩
 have hm:fn∈P.funcs.toList:=by simpa using Array.mem_of_getElem? hf
 have:=List.all_eq_true.1 h1 fn hm
 cases hbb:fn.body with
 | none=>rw[hbb] at hb;cases hb
 | some c=>simpa[hbb] using this

def vcF(C:Cfg)(fn:Func)(args:List Value)(H:Hp)(post:Value->Hp->Prop):Prop :=
 vc C (zb7 fn) (ytk C fn.results.toList post) ⟨zrz args,λ_=>none⟩ H

theorem Fn.door{C:Cfg}{f:FuncId}{fn:Func}{args:List Value}{H:Hp}{post:Value->Hp->Prop}{T:Prop}(hP:GoodP C.P)(hf:C.P.funcs[f]?=some fn)
  (hb:(fn.body.isSome&&Nat.beq fn.ntmps C.n&&Nat.ble args.length C.n)=true) (e:T=vcF C fn args H post) (h:T):Fn C.P f args.toArray H post:=by
 simp only[Bool.and_eq_true,Nat.beq_iff] at hb
 have h':vcF C fn args H post:=by rw[← e];exact h
 exact Fn.of_vc hP.1 hP.2 hf (zb8 hb.1.1) hb.1.2 hb.2 h'

end Go.Eng
end
section
/- The engine,part U: a range over a function: the law of the walk,the function that holds one. Conditions: none. -/
namespace Go.Eng

theorem Tr.lput{w w1:World}{H H1:Hp}(h:Tr w H w1 H1){L:Nat}{o:Obj}(hn:H L=Option.none)(hv:w.heap[L]?=some o)(o':Obj):Tr w (H.put L o) (w1.putObj L o') (H1.put L o'):=by
 have hlt:=(Array.getElem?_eq_some_iff.1 hv).1
 have hlt1:L<w1.heap.size:=Nat.lt_of_lt_of_le hlt h.size
 refine⟨λb ob hb=>?_,λb hb hbn=>?_,λb hb=>?_,by rw[World.putObj_size];exact h.size,h.os,h.tape,h.output,h.drawn⟩
 ·by_cases e:b=L
  ·subst e;rw[Hp.put_same] at hb;cases hb;exact World.putObj_heap_same hlt1
  ·rw[Hp.put_ne _ _ e] at hb
   rw[World.putObj_heap_other e];exact h.view b ob hb
 ·have e:b≠L:=λe=>by subst e;rw[Hp.put_same] at hbn;cases hbn
  rw[Hp.put_ne _ _ e] at hbn
  rw[World.putObj_heap_other e];exact h.frame b hb hbn
 ·by_cases e:b=L
  ·subst e;left;simp
  ·rw[Hp.put_ne _ _ e] at hb ⊢
   exact h.fresh b hb
theorem Tr.putHid{w0 w:World}{H0 H:Hp}(h:Tr w0 H0 w H){b:Nat}(hn:H b=Option.none)(hb:w0.heap.size<=b)(o:Obj):Tr w0 H0 (w.putObj b o) H:=by
 refine⟨λk ob hk=>?_,λk hk hkn=>?_,h.fresh,by rw[World.putObj_size];exact h.size,h.os,h.tape,h.output,h.drawn⟩
 ·have e:k≠b:=λe=>by subst e;rw[hn] at hk;cases hk
  rw[World.putObj_heap_other e];exact h.view k ob hk
 ·rw[World.putObj_heap_other (by omega)];exact h.frame k hk hkn
theorem z2k.of_put{w:World}{H:Hp}{L:Nat}{o:Obj}(h:z2k w (H.put L o))(hn:H L=none):z2k w H/\w.heap[L]?=some o :=
 ⟨h.mono (Hp.put_le H o hn),h L o (by simp)⟩
theorem z0p.ds{n:Nat}{d d':List Nat}{env:Env}{pr:z1t}{ids:Nat->Nat}{a b:Act}(h:z0p n d env pr ids a)(hd:(⟨a.tmps,d'.map dfr⟩:Act)=b):z0p n d' env pr ids b:=by
 subst hd
 exact⟨h.size,rfl,h.ok,h.no,h.known⟩
theorem z1v.none{pr:z1t}{ids:Nat->Nat}{H:Hp}{w:World}{B:Nat}(h:∀j,pr j=Option.none):z1v [] pr ids H w B :=
 ⟨λj _ _ hj=>(by rw[h j] at hj;cases hj),λj hj=>absurd (h j) hj,λj hj=>absurd (h j) hj,λj _ hj=>absurd (h j) hj,λ_ hD=>(by cases hD)⟩

def ypx:List (Nat×Value)->Env->Env
 | [],env=>env
 | (p,v) :: l,env=>ypx l (env.put p (some ([],.lit v)))
theorem ypy{n:Nat}{pr:z1t}{ids:Nat->Nat}:∀(l:List (Nat×Value)){env:Env}{t:Array Value},(∀x∈l,x.1<n)->z0p n [] env pr ids { tmps:=t,defers:=[] } ->
  z0p n [] (ypx l env) pr ids { tmps:=l.foldl (λt (x:Nat×Value)=>t.setIfInBounds x.1 x.2) t,defers:=[] }
 | [],_,_,_,h=>h
 | (p,v) :: l,env,t,hl,h=>by
  refine ypy l (λx hx=>hl x (List.mem_cons_of_mem _ hx)) ?_
  have:=h.put (d:=p) (x:=some ([],.lit v)) (v:=v) (hl (p,v) List.mem_cons_self) λg1 v0 e=>by
   cases e
   exact⟨rfl,λ_=>rfl,λhn=>absurd (by simp[gH]) hn,trivial⟩
  exact this
theorem zyb(ps:Array Tmp)(vs:List Value)(t:Array Value):(ps.zip vs.toArray).foldl (λt (x:Tmp×Value)=>t.setIfInBounds x.1 x.2) t=(ps.toList.zip vs).foldl (λt (x:Nat×Value)=>t.setIfInBounds x.1 x.2) t:=by
 rw[← Array.foldl_toList,Array.toList_zip]

structure z1z(C:Cfg)(g:Operand)(ps:Array Tmp)(assign body:Code)(Kn:Hp->Prop)(st:St)(H:Hp):Prop where
 priv:∀j,st.priv j=none
 small:∀p∈ps.toList,p<C.n
 go:∃(gf:FuncId)(lb:Array Value)(α:Type)(encs:α->List Value)(xs:List α)(Inv:List α->Hp->Prop)(Ok:α->Hp->Prop),
  st.env.ev [] g=some (.lit (.func (.func gf) #[] lb))/\zc6 C.P gf/\(∀x,(encs x).length=ps.size)/\Inv [] H /\
  (∀pre x H',Inv pre H'->Ok x H'->vc C assign (λe st' H2=>e=.normal/\(∀j,st'.priv j=none)/\vc C body (λe _ H3=>e=.normal/\Inv (pre++[x]) H3) st' H2) ⟨ypx (ps.toList.zip (encs x)) st.env,st.priv⟩ H') /\
  (∀(L:Nat)(o:Obj),H L=none ->
   (∀pre x H',Inv pre H'->Ok x H'->H' L=none->FnY C.P L (encs x) (H'.put L o) λv Hx=>v=.bool true/\∃H3,Inv (pre++[x]) H3/\H3 L=none/\Hx=H3.put L o) ->
   Fn C.P gf (#[.func (.yield L) #[] #[]]++lb) (H.put L o) λ_ Hx=>∃H3,Inv xs H3/\H3 L=none/\Hx=H3.put L o) /\
  ∀H3,Inv xs H3->Kn H3

set_option maxHeartbeats 1000000 in
theorem x8n{C:Cfg}{w0:World}{H0:Hp}(hN:z1j C.P)(hM:C.P.follows .mixedOrders=true){g:Operand}{ps:Array Tmp}{assign body:Code}{Kn:Hp->Prop}{st:St}{H:Hp}{a:Act}{w:World}
  (hr:z1z C g ps assign body Kn st H) (hs:Sim C.n [] w0 H0 st H a w) :
  (Code.rangeFunc g ps assign body).wpIn (Fz none) 0 C.P (λe a w'=>e=.normal/\∃D H3,Sim C.n [D] w0 H0 st H3 a w'/\Kn H3) a w:=by
 obtain⟨hpr,hsm,gf,lb,α,encs,xs,Inv,Ok,hg,hc,hps,h0,hbody,hit,hK⟩:=hr
 obtain⟨ids,hE,hP,hT⟩:=hs
 refine wpIn_rangeFunc ?_
 intro fn hfn
 obtain⟨rec,hrec⟩:∃rec:LoopState->Option Code->Loop,rec=λs pe=>{ state:=s,pending:=pe,fn,tmps:=a.tmps,params:=ps,assign,body,defers:=w.heap.size }:=⟨_,rfl⟩
 obtain⟨D,hD⟩:∃D,D=w.heap.size:=⟨_,rfl⟩
 obtain⟨L,hL⟩:∃L,L=w.heap.size+1:=⟨_,rfl⟩
 have hgv:a.eval g=.func (.func gf) #[] lb:=hE.ev (g:=[]) (by simp[gH]) hg
 obtain⟨fnr,hf1,hf2⟩:=hc
 -- the two blocks
 obtain⟨hDn,t1⟩:=Tr.alloc hT.view (.deferred (some []))
 have t1':Tr w H (w.alloc (.deferred (some []))) H:=t1.forget (Hp.put_le H _ hDn)
 obtain⟨hLn,t2⟩:=Tr.alloc t1'.view (.loop (rec .ready none))
 have eL:(w.alloc (.deferred (some []))).heap.size=L:=by rw[World.size_alloc,hL]
 have t3:=t1'.trans t2
 rw[eL] at hLn t3
 obtain⟨W1,hW1⟩:∃W1,(w.alloc (.deferred (some []))).alloc (.loop (rec .ready none))=W1:=⟨_,rfl⟩
 have t3:Tr w H W1 (H.put L (.loop (rec .ready none))):=by rw[← hW1];exact t3
 have hD1:W1.heap[D]?=some (.deferred (some [])):=by
  rw[← hW1,hD]
  have e1:((w.alloc (.deferred (some []))).alloc (.loop (rec .ready none))).heap[w.heap.size]?=(w.alloc (.deferred (some []))).heap[w.heap.size]?:=by
   show ((w.alloc (.deferred (some []))).heap.push _)[w.heap.size]?=_
   rw[Array.getElem?_push,if_neg (by rw[World.size_alloc];omega)]
  rw[e1];exact World.alloc_heap_new w _
 have round:∀pre x H',Inv pre H'->Ok x H'->H' L=none->FnY C.P L (encs x) (H'.put L (.loop (rec .ready none))) λv Hx=>v=.bool true/\∃H3,Inv (pre++[x]) H3/\H3 L=none/\Hx=H3.put L (.loop (rec .ready none)):=by
  intro pre x H' hi hox hn W hv
  obtain⟨hvH,hWL⟩:=hv.of_put hn
  have hy:=run_yield (P:=C.P) (args:=(encs x).toArray) hWL (by rw[hrec];simpa using hps x)
  rw[hrec] at hy
  refine⟨fn,_,assign,body,hy,roundIn_of_wpIn trivial ?_⟩
  have eR:(Fence.wide.inRound L)=Fz (some L):=rfl
  rw[eR]
  have hEx:z0p C.n [] (ypx (ps.toList.zip (encs x)) st.env) st.priv ids { tmps:=(ps.zip (encs x).toArray).foldl (λt (p,v)=>t.setIfInBounds p v) a.tmps,defers:=[] }:=by
   have:=ypy (ps.toList.zip (encs x)) (λy hy=>hsm _ (List.of_mem_zip hy).1) (hE.ds (d':=[]) (b:={ tmps:=a.tmps,defers:=[] }) rfl)
   rw[← zyb] at this
   exact this
  refine wpIn_mono (zoo (ds:=[]) (ro:=some L) (w0:=W) (H0:=H') hN hM assign (hbody pre x H' hi hox) ⟨ids,hEx,z1v.none hpr,Tr.refl hvH⟩) ?_
  rintro e a1 W1 ⟨st1,H2,⟨ids1,hE1,hP1,hT1⟩,rfl,hp1,hb1⟩
  have hL1:W1.heap[L]?=some (.loop (rec .ready none)):=(hT1.frame L (Array.getElem?_eq_some_iff.1 hWL).1 hn).trans hWL
  have hLn2:H2 L=none:=hT1.none (Array.getElem?_eq_some_iff.1 hWL).1 hn
  refine⟨_,run_beginRound hL1 (by rw[hrec]),?_⟩
  have ta:=hT1.lput hn hWL (.loop { rec .ready none with state:=.busy })
  obtain⟨hv2,hWL2⟩:=ta.view.of_put hLn2
  refine wpIn_mono (zoo (ds:=[]) (ro:=some L) (H0:=H2) hN hM body hb1 ⟨ids1,hE1,z1v.none hp1,Tr.refl hv2⟩) ?_
  rintro e a3 W3 ⟨st3,H3,⟨ids3,_,_,hT3⟩,rfl,hi3⟩
  have hL3:=(hT3.frame L (Array.getElem?_eq_some_iff.1 hWL2).1 hLn2).trans hWL2
  have hLn3:H3 L=none:=hT3.none (Array.getElem?_eq_some_iff.1 hWL2).1 hLn2
  have tb:=hT3.lput hLn2 hWL2 (.loop (rec .ready none))
  refine⟨_,_,?_,.bool true,_,rfl,ta.trans tb,rfl,H3,hi3,hLn3,rfl⟩
  have:=run_endRound (P:=C.P) none hL3
  rw[hrec] at this ⊢
  exact this
 have itc:=hit L (.loop (rec .ready none)) hLn round W1 t3.view
 have hent:(Instr.enterLoop fn a.tmps ps assign body none).run C.P w=.ok (L,[dfr D]) W1:=by
  rw[← hW1,hrec,hL,hD];exact run_enterLoop_outer _ _ _ _ _
 have hres:(resolve a.eval (rangeCall g L) 0).run C.P W1=.ok { target:=.fn (.func gf) lb,args:=#[.func (.yield L) #[] #[]] } W1:=by
  simp only[resolve,hgv]
  simp[go_sem]
 have hinv:(invoke (.fn (.func gf) lb) #[.func (.yield L) #[] #[]]).run C.P W1=.ok (.enter gf (#[.func (.yield L) #[] #[]]++lb)) W1:=by
  simp[invoke,yua hN hf1 hf2]
 have hcall:CallsIn (Fz none) (0-1) C.P gf (#[.func (.yield L) #[] #[]]++lb) W1 (rangePost (Fz none) 0 C.P L (λe a w'=>e=.normal/\∃D H3,Sim C.n [D] w0 H0 st H3 a w'/\Kn H3) { a with defers:=[dfr D]++a.defers }):=by
  refine zc7 (itc.mono ?_)
  rintro e W2 ⟨v,Hx,rfl,hTx,H3,hi3,hLn3,rfl⟩
  obtain⟨hv3,hL3⟩:=hTx.view.of_put hLn3
  refine⟨none,_,by have:=run_endLoop (P:=C.P) hL3 (by rw[hrec];simp);rw[hrec] at this;exact this,rfl,D,H3,?_,hK H3 hi3⟩
  have hDn1:(H.put L (.loop (rec .ready none))) D=none:=by rw[Hp.put_ne _ _ (by omega),hD];exact hDn
  have hDlt:=(Array.getElem?_eq_some_iff.1 hD1).1
  have hDn3:H3 D=none:=by
   have:=hTx.none hDlt hDn1
   rwa [Hp.put_ne _ _ (by omega)] at this
  have hDh:W2.heap[D]?=some (.deferred (some [])):=(hTx.frame D hDlt hDn1).trans hD1
  have hsz:=hT.size
  refine⟨ids,hE.ds (d':=[D]) (by rw[hE.defers];rfl),⟨λj _ _ hj=>(by rw[hpr j] at hj;cases hj),λj hj=>absurd (hpr j) hj,λj hj=>absurd (hpr j) hj,λj _ hj=>absurd (hpr j) hj,λD' hD'=>?_⟩,?_⟩
  ·rw[List.mem_singleton.1 hD']
   exact⟨by omega,hDn3,(World.putObj_heap_other (by omega)).trans hDh⟩
  ·exact(((hT.trans t3).trans hTx).forget (Hp.put_le H3 _ hLn3)).putHid hLn3 (by omega) _
 refine⟨L,[dfr D],W1,{ target:=.fn (.func gf) lb,args:=#[.func (.yield L) #[] #[]] },W1,gf,#[.func (.yield L) #[] #[]]++lb,W1,?_,?_,?_,?_,?_,?_⟩
 ·exact hent
 ·exact hres
 ·exact λ_ _=>trivial
 ·exact hinv
 ·exact λh=>(by cases h)
 ·exact hcall

theorem Fn.of_wp{C:Cfg}{f:FuncId}{fn:Func}{c:Code}{args:List Value}{H:Hp}{post:Value->Hp->Prop}(hf:C.P.funcs[f]?=some fn)(hb:fn.body=some c)(hn:fn.ntmps=C.n)(ha:Nat.ble args.length C.n=true)
  (h:∀w a,Sim C.n [] w H ⟨zrz args,λ_=>none⟩ H a w->c.wpIn (Fz none) 0 C.P (λe a w'=>∃ds,(ds=[]\/∃D,ds=[D])/\Qk C.n ds w H (ytk C fn.results.toList post) e a w') a w):Fn C.P f args.toArray H post:=by
 intro w hv
 have ha':=Nat.le_of_ble_eq_true ha
 refine(callsIn_wide (n:=0)).1 (callsIn_of_wp_marks hf hb trivial (wpIn_mono (h w _ ?_) ?_))
 ·refine⟨λ_=>0,⟨by simp[hn];omega,rfl,λt g v ht _=>?_,λt g v ht hg=>?_,λt g v ht=>?_⟩,z1v.none λ_=>rfl,Tr.refl hv⟩
  ·obtain⟨v',h1,h2⟩:=zs0 ht
   cases h2
   have hlt:t<args.length:=by
    rcases Nat.lt_or_ge t args.length with h|h
    ·exact h
    ·simp[List.getElem?_eq_none h] at h1
   simp only[V0.val]
   rw[Array.getD_eq_getD_getElem?,Array.getElem?_append_left (by simpa using hlt)]
   simp[h1]
  ·obtain⟨v',h1,h2⟩:=zs0 ht
   cases h2
   exact absurd (by simp[gH]) hg
  ·obtain⟨v',h1,h2⟩:=zs0 ht
   cases h2
   trivial
 ·intro e a w' ⟨ds,hds,st,H',⟨ids,hE,hP,hT⟩,hk⟩
  have fin:(match yth C st fn.results.toList with
    | some [v]=>post v H'
    | some vs=>post (.tuple vs.toArray) H'
    | none=>False)->LeavesInM (Fz none) 0 C.P fn a.tmps (λe w'=>∃v H',e=.returned v/\Tr w H w' H'/\post v H') a.defers .returning w':=by
   intro hk
   have res:∀w2,z1v [] st.priv ids H' w2 w.heap.size->Tr w H w2 H'->LeavesInM (Fz none) 0 C.P fn a.tmps (λe w'=>∃v H',e=.returned v/\Tr w H w' H'/\post v H') [] .returning w2:=by
    intro w2 hP2 hT2
    cases hr:yth C st fn.results.toList with
    | none=>simp[hr] at hk
    | some vs =>
     rw[hr] at hk
     have hE2:z0p C.n [] st.env st.priv ids { tmps:=a.tmps,defers:=[] }:=hE.ds rfl
     have hrun:=yuh (C:=C) hE2 hP2 hr
     have hres:(results fn a.tmps).run C.P w2=.ok (if h:vs.toArray.size=1 then vs.toArray[0] else .tuple vs.toArray) w2:=by
      rw[ytj,Sem.run_bind,Array.mapM_eq_mapM_toList,Sem.run_map,hrun]
      rfl
     refine⟨_,hres,_,H',rfl,hT2,?_⟩
     split at hk
     ·rename_i v h1;cases h1;simpa using hk
     ·rename_i vs' hne h1
      cases h1
      have:vs.toArray.size≠1:=by
       intro hl
       obtain⟨v,rfl⟩:=List.length_eq_one_iff.1 (by simpa using hl)
       exact hne v rfl
      rw[dif_neg this];exact hk
     ·exact hk.elim
   rw[hE.defers]
   rcases hds with rfl|⟨D,rfl⟩
   ·exact res w' hP hT
   ·obtain⟨h1,h2,h3⟩:=hP.dfs D List.mem_cons_self
    refine⟨by simp,.inl ⟨D,_,rfl,run_takeDeferred h3,res _ ⟨λj cs t hj=>?_,hP.hid,hP.low,hP.inj,λ_ hD=>(by cases hD)⟩ (hT.putHid h2 h1 _)⟩⟩
    have hb:=hP.blk j cs t hj
    have hne:ids j≠D:=λe=>by rw[e,h3] at hb;cases hb
    exact(World.putObj_heap_other hne).trans hb
  cases e with
  | normal=>exact fin hk
  | ret=>exact fin hk
  | _=>exact hk.elim

end Go.Eng
end
section
/- The engine,part V: functions with ranges over functions at their outermost level,out of their conditions. Conditions: none. -/
namespace Go.Eng

def OfL(ls:List z14)(vs:List Value):Prop:=∀f:List Value->Prop,z5s ls f->f vs
def z1u(pr:z1t):Prop:=∀j,pr j=none

def z10(P:Program)(F:Value)(H:Hp){α:Type}(xs:List α)(Inv:List α->Hp->Prop)(Ok:α->List Value->Hp->Prop)(ar:List (Bool×List z14)):Prop :=
 ∃(gf:FuncId)(lb:Array Value),F=.func (.func gf) #[] lb/\zc6 P gf/\∀(L:Nat)(o:Obj),H L=none ->
  (∀pre x vs H',OfL (ar.flatMap (·.2)) vs->Inv pre H'->Ok x vs H'->H' L=none->FnY P L (x63 ar vs) (H'.put L o) λv Hx=>v=.bool true/\∃H3,Inv (pre++[x]) H3/\H3 L=none/\Hx=H3.put L o) ->
  Fn P gf (#[.func (.yield L) #[] #[]]++lb) (H.put L o) λ_ Hx=>∃H3,Inv xs H3/\H3 L=none/\Hx=H3.put L o

def yqi(C:Cfg)(g:Operand)(ps:Array Tmp)(assign body:Code)(Kn:Hp->Prop)(st:St)(H:Hp):Prop :=
 match Nat.beq C.yp.length ps.size&&ps.toList.all (λp=>Nat.blt p C.n) with
 | true=>match st.env.ev [] g with
  | some (.lit F)=>z1u st.priv/\∃(α:Type)(xs:List α)(Ok:α->List Value->Hp->Prop)(Inv:List α->Hp->Prop),z10 C.P F H xs Inv Ok C.yp/\Inv [] H /\
    (∀(pre:List α)(x:α),z5s (C.yp.flatMap (·.2)) λvs=>∀H',Inv pre H'->Ok x vs H'->vc C assign (λe st' H2=>match e with
     | .normal=>z1u st'.priv/\vc C body (λe _ H3=>match e with
      | .normal=>Inv (pre++[x]) H3
      | _=>False) st' H2
     | _=>False) ⟨ypx (ps.toList.zip (x63 C.yp vs)) st.env,st.priv⟩ H')/\∀H3,Inv xs H3->Kn H3
  | _=>False
 | false=>False

def y52:Code->Option (Code×Operand×Array Tmp×Code×Code)
 | .seq a (.block _ (.rangeFunc g ps s b))=>some (a,g,ps,s,b)
 | _=>none
def vcA(C:Cfg)(Kr:Kc):Code->St->Hp->Prop
 | .seq x b,st,H=>match y52 x with
  | some (a,g,ps,s,d)=>vc C a (λe st H=>match e with
   | .normal=>yqi C g ps s d (λH3=>vc C b Kr st H3) st H
   | e=>Kr e st H) st H
  | none=>vc C x (λe st H=>match e with
   | .normal=>vcA C Kr b st H
   | e=>Kr e st H) st H
 | _,_,_=>False
def x7b(C:Cfg)(fn:Func)(args:List Value)(H:Hp)(post:Value->Hp->Prop):Prop :=
 vcA C (ytk C fn.results.toList post) (zb7 fn) ⟨zrz args,λ_=>none⟩ H

theorem x64:∀(l:List (Bool×List z14))(vs:List Value),(x63 l vs).length=l.length
 | [],_=>rfl
 | (_,_) :: l,vs=>congrArg (·+1) (x64 l _)
theorem y53{x a s b:Code}{g:Operand}{ps:Array Tmp}(h:y52 x=some (a,g,ps,s,b)):∃id,x=.seq a (.block id (.rangeFunc g ps s b)):=by
 unfold y52 at h
 split at h
 ·cases h;exact⟨_,rfl⟩
 ·cases h

theorem z1z.of{C:Cfg}{g:Operand}{ps:Array Tmp}{assign body:Code}{Kn:Hp->Prop}{st:St}{H:Hp}(h:yqi C g ps assign body Kn st H):z1z C g ps assign body Kn st H:=by
 unfold yqi at h
 split at h
 ·rename_i hc
  rw[Bool.and_eq_true,Nat.beq_iff,List.all_eq_true] at hc
  split at h
  ·rename_i F hF
   obtain⟨hp,α,xs,Ok,Inv,⟨gf,lb,rfl,hcal,hit⟩,h0,hb,hk⟩:=h
   refine⟨hp,λp hm=>by have:=hc.2 p hm;rw[Nat.blt_eq] at this;exact this,gf,lb,α×List Value,λx=>x63 C.yp x.2,xs.map (·,[]),λpre H=>Inv (pre.map (·.1)) H,λx H'=>OfL (C.yp.flatMap (·.2)) x.2/\Ok x.1 x.2 H',
    hF,hcal,λx=>(x64 _ _).trans hc.1,h0,λpre x H' hi ho=>?_,λL o hL hr=>?_,λH3 hi=>?_⟩
   ·have:=ho.1 _ (hb (pre.map (·.1)) x.1) H' hi ho.2
    refine zon assign (λe st' H2 hk=>?_) this
    cases e with
    | normal =>
     refine⟨rfl,hk.1,zon body (λe st3 H3 hk=>?_) hk.2⟩
     cases e with
     | normal=>exact⟨rfl,by simpa using hk⟩
     | _=>exact hk.elim
    | _=>exact hk.elim
   ·refine(hit L o hL λpre x vs H' hv hi ho hn=>(hr (pre.map (·,[])) (x,vs) H' (by simpa[Function.comp_def] using hi) ⟨hv,ho⟩ hn).mono λv Hx ⟨e,H3,h3,h4,h5⟩=>⟨e,H3,by simpa[Function.comp_def] using h3,h4,h5⟩).mono λv Hx ⟨H3,h3,h4,h5⟩=>⟨H3,by simpa[Function.comp_def] using h3,h4,h5⟩
   ·exact hk H3 (by simpa[Function.comp_def] using hi)
  ·exact h.elim
 ·exact h.elim

theorem x7a{C:Cfg}{w0:World}{H0:Hp}{K:Kc}(hN:z1j C.P)(hM:C.P.follows .mixedOrders=true):∀(c:Code){st:St}{H:Hp}{a:Act}{w:World},vcA C K c st H->Sim C.n [] w0 H0 st H a w ->
  c.wpIn (Fz none) 0 C.P (λe a w'=>∃ds,(ds=[]\/∃D,ds=[D])/\Qk C.n ds w0 H0 K e a w') a w
 | .seq x b,st,H,a,w,h,hs=>by
  unfold vcA at h
  split at h
  ·rename_i a1 g ps s d hr
   obtain⟨id,rfl⟩:=y53 hr
   refine wpIn_seq (wpIn_seq (wpIn_mono (zoo (ds:=[]) (ro:=none) hN hM a1 h hs) ?_))
   rintro e a2 w2 ⟨st2,H2,hs2,hk2⟩
   cases e with
   | normal =>
    refine wpIn_block (wpIn_mono (x8n hN hM (z1z.of hk2) hs2) ?_)
    rintro e a3 w3 ⟨rfl,D,H3,hs3,hk3⟩
    exact wpIn_mono (zoo (ds:=[D]) (ro:=none) hN hM b hk3 hs3) λe a w hq=>⟨[D],.inr ⟨D,rfl⟩,hq⟩
   | _=>exact⟨[],.inl rfl,st2,H2,hs2,hk2⟩
  ·refine wpIn_seq (wpIn_mono (zoo (ds:=[]) (ro:=none) hN hM x h hs) ?_)
   rintro e a2 w2 ⟨st2,H2,hs2,hk2⟩
   cases e with
   | normal=>exact x7a hN hM b hk2 hs2
   | _=>exact⟨[],.inl rfl,st2,H2,hs2,hk2⟩
 | .skip,_,_,_,_,h,_=>h.elim
 | .region ..,_,_,_,_,h,_=>h.elim
 | .cond ..,_,_,_,_,h,_=>h.elim
 | .block ..,_,_,_,_,h,_=>h.elim
 | .loop _,_,_,_,_,h,_=>h.elim
 | .rangeFunc ..,_,_,_,_,h,_=>h.elim
 | .exit _,_,_,_,_,h,_=>h.elim
 | .scope _,_,_,_,_,h,_=>h.elim
 | .label _,_,_,_,_,h,_=>h.elim
 | .goto _,_,_,_,_,h,_=>h.elim
 | .ret,_,_,_,_,h,_=>h.elim
 | .refuse _,_,_,_,_,h,_=>h.elim

theorem Fn.doorA{C:Cfg}{f:FuncId}{fn:Func}{args:List Value}{H:Hp}{post:Value->Hp->Prop}{T:Prop}(hP:GoodP C.P)(hf:C.P.funcs[f]?=some fn)
  (hb:(fn.body.isSome&&Nat.beq fn.ntmps C.n&&Nat.ble args.length C.n)=true) (e:T=x7b C fn args H post) (h:T):Fn C.P f args.toArray H post:=by
 simp only[Bool.and_eq_true,Nat.beq_iff] at hb
 have h':x7b C fn args H post:=by rw[← e];exact h
 exact Fn.of_wp hf (zb8 hb.1.1) hb.1.2 hb.2 λw a hs=>x7a hP.1 hP.2 _ h' hs
end Go.Eng
end
section
/- The engine,part W: a function whose results stand in cells that others know of,out of its conditions. Conditions: none. -/
namespace Go.Eng

def x62:List Value->Value
 | [v]=>v
 | vs=>.tuple vs.toArray
def ytf(C:Cfg)(st:St)(H:Hp):List ResultVar->(List Value->Prop)->Prop
 | [],k=>k []
 | .tmp t :: rs,k=>match st.env.ev [] (.tmp t) with
  | some (.lit v)=>ytf C st H rs λvs=>k (v :: vs)
  | _=>False
 | .cell t ty :: rs,k=>match st.env.ev [] (.tmp t) with
  | some (.lit (.pointer (some a)))=>match Nat.beq (leaves C.P 9 ty).length (C.P.cellsOf ty)&&(z5o C.P ty||Nat.beq (C.P.cellsOf ty) 1)&&y21 C.P ty with
   | true=>exL (leaves C.P 9 ty) λus=>zco H a 0 us/\ytf C st H rs λvs=>k (mkV (z5o C.P ty) us :: vs)
   | false=>False
  | _=>False
def ytl(C:Cfg)(rs:List ResultVar)(post:Value->Hp->Prop):Kc:=λe st H=>match e with
 | .normal=>ytf C st H rs λvs=>post (x62 vs) H
 | .ret=>ytf C st H rs λvs=>post (x62 vs) H
 | _=>False
def x7c(C:Cfg)(fn:Func)(args:List Value)(H:Hp)(post:Value->Hp->Prop):Prop :=
 vc C (zb7 fn) (ytl C fn.results.toList post) ⟨zrz args,λ_=>none⟩ H

theorem zt9:∀{ls:List z14}{f:List Value->Prop},exL ls f->∃vs,vs.length=ls.length/\f vs
 | [],_,h=>⟨[],rfl,h⟩
 | .int _ :: ls,_,⟨_,h⟩=>let ⟨vs,e,h⟩:=zt9 (ls:=ls) h;⟨_ :: vs,congrArg (·+1) e,h⟩
 | .bool :: ls,_,⟨_,h⟩=>let ⟨vs,e,h⟩:=zt9 (ls:=ls) h;⟨_ :: vs,congrArg (·+1) e,h⟩
 | .sl :: ls,_,⟨_,h⟩=>let ⟨vs,e,h⟩:=zt9 (ls:=ls) h;⟨_ :: vs,congrArg (·+1) e,h⟩
 | .ptr :: ls,_,⟨_,h⟩=>let ⟨vs,e,h⟩:=zt9 (ls:=ls) h;⟨_ :: vs,congrArg (·+1) e,h⟩
 | .mp :: ls,_,⟨_,h⟩=>let ⟨vs,e,h⟩:=zt9 (ls:=ls) h;⟨_ :: vs,congrArg (·+1) e,h⟩
 | .val :: ls,_,⟨_,h⟩=>let ⟨vs,e,h⟩:=zt9 (ls:=ls) h;⟨_ :: vs,congrArg (·+1) e,h⟩
 | .alt :: ls,_,h=>match h with
  | .inl h=>let ⟨vs,e,h⟩:=zt9 (ls:=ls) h;⟨_ :: vs,congrArg (·+1) e,h⟩
  | .inr h=>let ⟨vs,e,h⟩:=zt9 (ls:=ls) h;⟨_ :: vs,congrArg (·+1) e,h⟩
theorem yug{C:Cfg}{ds:List Nat}{st:St}{ids:Nat->Nat}{a:Act}{H:Hp}{w:World}(hE:z0p C.n ds st.env st.priv ids a)(hv:z2k w H) :
  ∀{rs:List ResultVar}{k:List Value->Prop},ytf C st H rs k->∃vs,k vs/\(rs.mapM (ytg a.tmps)).run C.P w=.ok vs w
 | [],k,h=>⟨[],h,by simp⟩
 | .tmp t :: rs,k,h=>by
  simp only[ytf] at h
  split at h
  ·rename_i v hv'
   obtain⟨vs,hk,hr⟩:=yug hE hv h
   have e:a.tmps.getD t undef=v:=hE.ev (g:=[]) (by simp[gH]) hv'
   refine⟨v :: vs,hk,?_⟩
   rw[List.mapM_cons,Sem.run_bind]
   simp only[ytg,Sem.run_pure,Result.andThen_ok,Sem.run_bind,e]
   rw[hr];rfl
  ·exact h.elim
 | .cell p t :: rs,k,h=>by
  simp only[ytf] at h
  split at h
  ·rename_i q hq
   split at h
   ·rename_i hc
    simp only[Bool.and_eq_true,Bool.or_eq_true,Nat.beq_iff] at hc
    obtain⟨⟨hl,h1⟩,hu⟩:=hc
    obtain⟨u,hu⟩:=y22 hu
    obtain⟨us,hul,hcl,hrest⟩:=zt9 h
    obtain⟨vs,hk,hr⟩:=yug hE hv hrest
    have e:a.tmps.getD p undef=.pointer (some q):=hE.ev (g:=[]) (by simp[gH]) hq
    have hrl:=run_loadVar' (P:=C.P) (w:=w) (t:=t) (p:=q) (vs:=us) hu (λj v hj=>by
     have:=zcp us 0 q hcl j v hj
     rw[Nat.zero_add] at this
     exact hv.cell this) (by rw[hul,hl]) h1
    refine⟨_,hk,?_⟩
    rw[List.mapM_cons,Sem.run_bind]
    have e1:(ytg a.tmps (.cell p t)).run C.P w=.ok (mkV (z5o C.P t) us) w:=by
     simp only[ytg,Sem.run_bind,e,asAddr,Sem.run_pure,Result.andThen_ok,hrl]
    rw[e1,Result.andThen_ok,Sem.run_bind,hr];rfl
   ·exact h.elim
  ·exact h.elim

theorem Fn.of_vcR{C:Cfg}{f:FuncId}{fn:Func}{c:Code}{args:List Value}{H:Hp}{post:Value->Hp->Prop}(hN:z1j C.P)(hM:C.P.follows .mixedOrders=true)
  (hf:C.P.funcs[f]?=some fn) (hb:fn.body=some c) (hn:fn.ntmps=C.n) (ha:Nat.ble args.length C.n=true)
  (h:vc C c (ytl C fn.results.toList post) ⟨zrz args,λ_=>none⟩ H):Fn C.P f args.toArray H post:=by
 intro w hv
 have ha':=Nat.le_of_ble_eq_true ha
 refine calls_of_wp hf hb ((wpIn_wide (n:=0)).1 (wpIn_mono (zoo (ds:=[]) (ro:=none) (w0:=w) (H0:=H) hN hM c h ?_) ?_))
 ·refine⟨λ_=>0,⟨by simp[hn];omega,rfl,λt g v ht _=>?_,λt g v ht hg=>?_,λt g v ht=>?_⟩,⟨λ_ _ _ h=>(by cases h),λ_ h=>absurd rfl h,λ_ h=>absurd rfl h,λ_ _ h=>absurd rfl h,λ_ h=>(by cases h)⟩,Tr.refl hv⟩
  ·obtain⟨v',h1,h2⟩:=zs0 ht
   cases h2
   have hlt:t<args.length:=by
    rcases Nat.lt_or_ge t args.length with h|h
    ·exact h
    ·simp[List.getElem?_eq_none h] at h1
   simp only[V0.val]
   rw[Array.getD_eq_getD_getElem?,Array.getElem?_append_left (by simpa using hlt)]
   simp[h1]
  ·obtain⟨v',h1,h2⟩:=zs0 ht
   cases h2
   exact absurd (by simp[gH]) hg
  ·obtain⟨v',h1,h2⟩:=zs0 ht
   cases h2
   trivial
 ·intro e a w' hq
  obtain⟨st,H',⟨ids,hE,hP,hT⟩,hk⟩:=hq
  have fin:(ytf C st H' fn.results.toList λvs=>post (x62 vs) H')->a.defers=[]/\∃v,(results fn a.tmps).run C.P w'=.ok v w'/\∃v1 H1,Ending.returned v=.returned v1/\Tr w H w' H1/\post v1 H1:=by
   intro hk
   obtain⟨vs,hp,hrun⟩:=yug (C:=C) hE hT.view hk
   refine⟨hE.defers,_,?_,x62 vs,H',rfl,hT,hp⟩
   rw[ytj,Sem.run_bind,Array.mapM_eq_mapM_toList,Sem.run_map,hrun]
   show Result.ok _ _=_
   congr 1
   match vs with
   | []=>rfl
   | [v]=>rfl
   | _ :: _ :: _=>rfl
  cases e with
  | normal=>exact fin hk
  | ret=>exact fin hk
  | _=>exact hk.elim

theorem Fn.doorR{C:Cfg}{f:FuncId}{fn:Func}{args:List Value}{H:Hp}{post:Value->Hp->Prop}{T:Prop}(hP:GoodP C.P)(hf:C.P.funcs[f]?=some fn)
  (hb:(fn.body.isSome&&Nat.beq fn.ntmps C.n&&Nat.ble args.length C.n)=true) (e:T=x7c C fn args H post) (h:T):Fn C.P f args.toArray H post:=by
 simp only[Bool.and_eq_true,Nat.beq_iff] at hb
 have h':x7c C fn args H post:=by rw[← e];exact h
 exact Fn.of_vcR hP.1 hP.2 hf (zb8 hb.1.1) hb.1.2 hb.2 h'
end Go.Eng
end
