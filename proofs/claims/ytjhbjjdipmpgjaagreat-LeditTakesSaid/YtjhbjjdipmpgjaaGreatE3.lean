/- The engine, parts EngM, EngN, EngO, EngP, EngQ, EngR, EngS, EngT, put together. Conditions: none. -/
import Derived.Test.YtjhbjjdipmpgjaaGreatE2
import Derived.Deep.LoopGhost
set_option linter.unusedVariables false
section
/- The engine, part M: regions. Conditions: none. -/
namespace Go.Eng

def y4v (o:Oper) (g:Gd):List Nat:=(o.op.operands.toList.filterMap fun | .tmp t=>some t | _=>none)++g.map (·.1)

def y61 (d:Nat):List Nat→Bool
 | []=>false
 | x :: l=>Nat.beq x d||y61 d l

theorem y63 {d:Nat}:∀ {l:List Nat},y61 d l=true↔d∈l
 | []=>by simp [y61]
 | x :: l=>by
  simp only [y61,Bool.or_eq_true,Nat.beq_iff,List.mem_cons,y63 (l:=l)]
  exact or_congr eq_comm Iff.rfl

def z6e (o:Oper) (g:Gd):Option Tmp→Bool
 | none=>true
 | some d=>!y61 d (y4v o g)

def neD:Option Tmp→Option Tmp→Bool
 | some a,some b=>!Nat.beq a b
 | _,_=>true

def yw9 (C:Cfg) (ops:Array Oper) (y x:Nat):Bool :=
 match ops[y]?,ops[x]? with
 | some oy,some ox=>match zio ops (ops.size+1) oy,zio ops (ops.size+1) ox with
  | some gy,some gx=>z6e ox gx oy.dst&&z6e oy gy ox.dst&&neD oy.dst ox.dst&&(swp (cls C oy) (cls C ox)||yr7 (z95 C oy) (z95 C ox))
  | _,_=>false
 | _,_=>false

section
variable {P:Program} {draw:Bool}

theorem yze {nf:NF} {g:Gd} {K:Kop} {pr:z1i} {H:Hp} (hf:NFG g nf) (h:nf.vc P draw K pr H) (hx:Ex H):nf.vc P draw (fun s p H'=>Fg g s∧K s p H') pr H:=by
 cases nf with
 | bad=>exact h
 | pu ob x=>exact yay h fun h'=>⟨hf,h'⟩
 | px ls ob x=>exact zr2 h fun vs h'=>⟨h'.1,hf vs,h'.2⟩
 | rd ls ob x=>exact zr2 h fun vs h'=>⟨h'.1,hf vs,h'.2⟩
 | ow f =>
  simp only [NF.vc] at h ⊢
  cases hff:f pr with
  | none=>simp [hff] at h
  | some y=>simp only [hff] at h ⊢; exact ⟨hf pr _ _ hff,h⟩
 | al c x ob=>exact yay h fun h' b H1 hb e=>⟨hf b,h' b H1 hb e⟩
 | ag gb x ob=>exact ⟨fun e b H1 hb e'=>⟨hf b,h.1 e b H1 hb e'⟩,fun e=>⟨hf 0,h.2 e⟩⟩
 | cf g0 f args sh =>
  have hf':g=[]∧g0=[]:=hf
  obtain ⟨rfl,rfl⟩:=hf'
  exact Fn.mono h fun v H' hq=>yay hq fun hq=>zr2 hq fun vs hq=>⟨hq.1,Fg.some,hq.2⟩
 | cg gb g0 f args sh =>
  have hf':g0=g:=hf
  subst hf'
  exact ⟨fun e=>Fn.mono (h.1 e) fun v H' hq=>yay hq fun hq=>zr2 hq fun vs hq=>⟨hq.1,Fg.some,hq.2⟩,fun e=>⟨Fg.some,h.2 e⟩⟩
 | ce f args sh =>
  have hf':g=[]:=hf
  subst hf'
  exact Fn.mono h fun v H' hq=>zr2 hq fun vs hq=>⟨hq.1,Fg.some,hq.2⟩
 | cy l args sh =>
  have hf':g=[]:=hf
  subst hf'
  exact FnY.mono h fun v H' hq=>zr2 hq fun vs hq=>⟨hq.1,Fg.some,hq.2⟩
 | cv F args sh =>
  have hf':g=[]:=hf
  subst hf'
  obtain ⟨f,first,cap,hF,hc,h⟩:=h
  exact ⟨f,first,cap,hF,hc,Fn.mono h fun v H' hq=>yay hq fun hq=>zr2 hq fun vs hq=>⟨hq.1,Fg.some,hq.2⟩⟩
 | ef s sh =>
  have hf':g=[]:=hf
  subst hf'
  intro w hv
  obtain ⟨v,w',H',hr,ht,hq⟩:=h w hv
  exact ⟨v,w',H',hr,ht,zr2 hq fun vs hq=>⟨hq.1,Fg.some,hq.2⟩⟩
 | st ad vs=>exact ⟨h.1,fun H1 e=>⟨Fg.none,h.2 H1 e⟩⟩

end

theorem put_put {env:Env} {d e:Nat} {x y:Sl} (hne:d≠e) (hx:∀ g v,x=some (g,v)→y6b e g=false) (hy:∀ g v,y=some (g,v)→y6b d g=false):(env.put d x).put e y=(env.put e y).put d x:=by
 funext t
 by_cases h1:t=d
 ·subst h1
  rw [Env.put_at,Env.put_ne hne,Env.put_at]
  cases hxx:x with
  | none=>rfl
  | some z=>obtain ⟨g,v⟩:=z; simp only [hx g v hxx]
 ·by_cases h2:t=e
  ·subst h2
   rw [Env.put_at,Env.put_ne h1,Env.put_at]
   cases hyy:y with
   | none=>rfl
   | some z=>obtain ⟨g,v⟩:=z; simp only [hy g v hyy]
  ·rw [Env.put_ne h2,Env.put_ne h1,Env.put_ne h1,Env.put_ne h2]
   cases env t with
   | none=>rfl
   | some z =>
    obtain ⟨g,v⟩:=z
    simp only
    cases h3:y6b d g <;> cases h4:y6b e g <;> simp [h3,h4]

theorem yjv {env:Env} {a b:Option Tmp} {x y:Sl} {ga gb:Gd} (hne:neD a b=true) (hx:Fg ga x) (hy:Fg gb y) (ha:∀ e,b=some e→y6b e ga=false) (hb:∀ d,a=some d→y6b d gb=false) :
  yjt (yjt env a x) b y=yjt (yjt env b y) a x:=by
 cases a with
 | none=>rfl
 | some d =>
  cases b with
  | none=>rfl
  | some e =>
   have hde:d≠e:=fun h=>by subst h; simp [neD] at hne
   exact put_put hde (fun g v h=>by rw [hx g v h]; exact ha e rfl) (fun g v h=>by rw [hy g v h]; exact hb d rfl)

theorem y7r {a b:Option Tmp} (h:neD a b=true):neD b a=true:=by
 cases a with
 | none=>cases b <;> rfl
 | some d =>
  cases b with
  | none=>rfl
  | some e =>
   simp only [neD,Bool.not_eq_true'] at h ⊢
   cases hb:Nat.beq e d with
   | false=>rfl
   | true=>rw [(Nat.beq_iff _ _).1 hb,Nat.beq_refl] at h; cases h

theorem y6d {d:Nat} {o:Oper} {g:Gd} (h:y61 d (y4v o g)=false):y6b d g=false∧∀ x∈o.op.operands,x≠.tmp d:=by
 have hn:d∉y4v o g:=fun hm=>by rw [y63.2 hm] at h; cases h
 refine ⟨?_,fun x hx e=>hn ?_⟩
 ·cases hm:y6b d g with
  | false=>rfl
  | true =>
   obtain ⟨p,hp,e⟩:=y6c.1 hm
   exact absurd (List.mem_append_right _ (List.mem_map.2 ⟨p,hp,e⟩)) hn
 ·subst e
  exact List.mem_append_left _ (List.mem_filterMap.2 ⟨.tmp d,by simpa using hx,rfl⟩)

theorem ybs {C:Cfg} {env:Env} {dst:Option Tmp} {s:Sl} {g:Gd} {gb:Bool} {o:Oper} (h:z6e o g dst=true):ybq C (yjt env dst s) g gb o=ybq C env g gb o∧(yjt env dst s).gb g=env.gb g:=by
 cases dst with
 | none=>exact ⟨rfl,rfl⟩
 | some d =>
  simp only [z6e,Bool.not_eq_true'] at h
  obtain ⟨hm,hx⟩:=y6d h
  refine ⟨ybr (fun x hxm=>zqf hm (hx x hxm)) fun tc a b ho w=>?_,zwl hm⟩
  have htc:Operand.tmp tc≠.tmp d:=hx (.tmp tc) (by simp [ho,Op.operands])
  have hm':y6b d ((tc,w) :: g)=false:=by
   simp only [y6b,Bool.or_eq_false_iff]
   refine ⟨?_,hm⟩
   cases hb:Nat.beq tc d with
   | false=>rfl
   | true=>exact absurd (by rw [(Nat.beq_iff _ _).1 hb]) htc
  exact ⟨zqf hm' (hx a (by simp [ho,Op.operands])),zqf hm' (hx b (by simp [ho,Op.operands]))⟩

theorem yve {C:Cfg} {ops:Array Oper} {y x:Nat} (hs:yw9 C ops y x=true) {k:St→Hp→Prop} {st:St} {H:Hp} (hx:Ex H) (h:yv9 C true ops y (yv9 C true ops x k) st H) :
  yv9 C true ops x (yv9 C true ops y k) st H:=by
 unfold yw9 at hs
 cases hoy:ops[y]? with
 | none=>simp [hoy] at hs
 | some oy =>
  cases hox:ops[x]? with
  | none=>simp [hoy,hox] at hs
  | some ox =>
   cases hcy:zio ops (ops.size+1) oy with
   | none=>simp [hoy,hox,hcy] at hs
   | some gy =>
    cases hcx:zio ops (ops.size+1) ox with
    | none=>simp [hoy,hox,hcy,hcx] at hs
    | some gx =>
     simp only [hoy,hox,hcy,hcx,Bool.and_eq_true] at hs
     obtain ⟨⟨⟨h1,h2⟩,h3⟩,h4⟩:=hs
     simp only [yv9,hoy,hox,hcy,hcx] at h ⊢
     cases hgy:st.env.gb gy with
     | none=>simp [hgy] at h
     | some by_ =>
      cases hdy:dOk C.n gy oy.dst with
      | false=>simp [hgy,hdy] at h
      | true =>
       simp only [hgy,hdy] at h
       -- the operation behind: its operands are known ahead
       have hinx:∀ s,ybq C (yjt st.env oy.dst s) gx=ybq C (yjt st.env oy.dst s) gx:=fun _=>rfl
       have hgx0:∀ s,(yjt st.env oy.dst s).gb gx=st.env.gb gx:=fun s=>(ybs (C:=C) (gb:=true) (s:=s) (env:=st.env) h1).2
       cases hgx:st.env.gb gx with
       | none =>
        exfalso
        obtain ⟨s,p,H',_,h'⟩:=yzf h hx
        simp only [hgx0 s,hgx] at h'
       | some bx =>
        cases hdx:dOk C.n gx ox.dst with
        | false =>
         exfalso
         obtain ⟨s,p,H',_,h'⟩:=yzf h hx
         simp only [hgx0 s,hgx,hdx] at h'
        | true =>
         simp only
         have hstep:=yzh (K':=fun s p H'=>NF.vc C.P true (fun sx pr H'=>Fg gy s∧Fg gx sx∧k ⟨yjt (yjt st.env oy.dst s) ox.dst sx,pr⟩ H') p H' (ybq C st.env gx bx ox)) (yze (y8r) h hx) hx
          (fun s p H' hx' h'=>by
           obtain ⟨hfs,h'⟩:=h'
           simp only [hgx0 s,hgx,hdx] at h'
           rw [(ybs (C:=C) (gb:=bx) (s:=s) (env:=st.env) h1).1] at h'
           exact yzh (yze y8r h' hx') hx' fun _ _ _ _ h''=>⟨hfs,h''⟩)
         have hcomm:z0j C.P (ybq C st.env gy by_ oy) (ybq C st.env gx bx ox):=by
          rcases Bool.or_eq_true _ _ ▸ h4 with h4 | h4
          ·exact zn4 (P:=C.P) (y8u (C:=C) (env:=st.env) (g:=gy) (gb:=by_) (o:=oy)) (y8u (C:=C) (env:=st.env) (g:=gx) (gb:=bx) (o:=ox)) h4
            (fun d hd he=>by rw [hd,he] at h3; simp [neD] at h3)
          ·exact zne (P:=C.P) (y8u (C:=C) (env:=st.env) (g:=gy) (gb:=by_) (o:=oy)) (y8u (C:=C) (env:=st.env) (g:=gx) (gb:=bx) (o:=ox)) h4
         have hsw:=hcomm _ _ _ hx hstep
         have hgy0:∀ s,(yjt st.env ox.dst s).gb gy=st.env.gb gy:=fun s=>(ybs (C:=C) (gb:=true) (s:=s) (env:=st.env) h2).2
         have hme:∀ (o:Oper) (g:Gd) (dst:Option Tmp),z6e o g dst=true→∀ d,dst=some d→y6b d g=false:=fun o g dst h d hd=>by
          subst hd
          simp only [z6e,Bool.not_eq_true'] at h
          exact (y6d h).1
         refine yzh hsw hx fun s p H' hx' h'=>?_
         simp only [hgy0 s,hgy]
         rw [(ybs (C:=C) (gb:=by_) (s:=s) (env:=st.env) h2).1]
         refine yzh h' hx' fun s' p' H'' _ h''=>?_
         obtain ⟨f1,f2,hk⟩:=h''
         rw [yjv (ga:=gx) (gb:=gy) (y7r h3) f2 f1 (hme ox gx oy.dst h1) (hme oy gy ox.dst h2)]
         exact hk

end Go.Eng
end
section
/- The engine,part N: a region whose order is open. Conditions: none. -/
namespace Go.Eng

def y4d (C:Cfg) (draw:Bool) (ops:Array Oper):List Nat→(St→Hp→Prop)→St→Hp→Prop
 | [],k=>k
 | i :: l,k=>yv9 C draw ops i (y4d C draw ops l k)

theorem yva {C:Cfg} {draw:Bool} {ops:Array Oper} {i:Nat} {k k':St→Hp→Prop} {st:St} {H:Hp} (h:yv9 C draw ops i k st H) (hx:Ex H) (hk:∀ st H,Ex H→k st H→k' st H):yv9 C draw ops i k' st H:=by
 unfold yv9 at *
 cases ho:ops[i]? with
 | none=>simp [ho] at h
 | some o =>
  simp only [ho] at h ⊢
  cases hc:zio ops (ops.size+1) o with
  | none=>simp [hc] at h
  | some g =>
   simp only [hc] at h ⊢
   cases hb:st.env.gb g with
   | none=>simp [hb] at h
   | some gb =>
    cases hd:dOk C.n g o.dst with
    | false=>simp [hb,hd] at h
    | true =>
     simp only [hb,hd] at h ⊢
     exact yzh h hx fun _ _ _ hx' h'=>hk _ _ hx' h'

theorem z9q {C:Cfg} {ops:Array Oper} {x:Nat} {zs:List Nat} {k:St→Hp→Prop}:∀ {ys:List Nat} {st:St} {H:Hp},(∀ y∈ys,yw9 C ops y x=true)→Ex H →
  y4d C true ops (ys++x :: zs) k st H→yv9 C true ops x (y4d C true ops (ys++zs) k) st H
 | [],_,_,_,_,h=>h
 | y :: ys,_,_,hs,hx,h =>
  yve (hs y (List.mem_cons_self ..)) hx (yva h hx fun _ _ hx' h'=>z9q (fun z hz=>hs z (List.mem_cons_of_mem _ hz)) hx' h')

theorem y4i {C:Cfg} {draw:Bool} {ops:Array Oper} {k:St→Hp→Prop} {ds:List Nat} {ro:Option Nat} {H0:Hp} {w0:World} {Q:Exit→Act→World→Prop} (hN:z1b C.P) (hq:∀ a w,Kt C.n ds w0 H0 k a w→Q .normal a w) :
  ∀ (l:List Nat) (st:St) (H:Hp) (a:Act) (w:World),y4d C draw ops l k st H→Sim C.n ds w0 H0 st H a w→wpOpsIn (Fz ro) 0 C.P ops Q l a w
 | [],st,H,a,w,h,hs=>hq a w ⟨st,H,hs,h⟩
 | i :: l,st,H,a,w,h,hs=>by
  rw [wpOpsIn_cons]
  exact wpOpIn_mono (fun a w ⟨st,H,hs,h⟩=>y4i hN hq l st H a w h hs) (yvd hN h hs)

def z49 (ops:Array Oper) (i:Nat):List Nat :=
 match ops[i]? with
 | some o=>(o.after.toList.filter fun e=>Region.binds .any e).map (·.on)
 | none=>[]

def zws (ops:Array Oper):Nat→Nat→Nat→Bool
 | 0,_,_=>false
 | f+1,i,j=>match ops[j]? with
  | some o=>match o.guard with
   | some (g,_)=>y61 g (z49 ops j)&&(y61 i (z49 ops g)||zws ops f i g)
   | none=>false
  | none=>false

theorem zwt {ops:Array Oper} {rem:List Nat} (hcl:∀ e,e∉rem→∀ d∈z49 ops e,d∉rem):∀ (f i j:Nat),(∀ d∈z49 ops j,d∉rem)→zws ops f i j=true→i∉rem
 | 0,_,_,_,h=>by simp [zws] at h
 | f+1,i,j,hj,h=>by
  unfold zws at h
  split at h
  ·split at h
   ·rename_i g _ _
    simp only [Bool.and_eq_true,Bool.or_eq_true] at h
    have hg:=hj g (y63.1 h.1)
    rcases h.2 with h2 | h2
    ·exact hcl g hg i (y63.1 h2)
    ·exact zwt hcl f i g (hcl g hg) h2
   ·cases h
  ·cases h

def zot (ops:Array Oper) (i:Nat):Nat→Nat→List Nat→List Nat
 | 0,_,l=>l
 | n+1,k,l=>zot ops i n (k+1) (match (z49 ops k).any (fun e=>Nat.beq e i||y61 e l) with
  | true=>k :: l
  | false=>l)

theorem zou {ops:Array Oper} {rem:List Nat} {i:Nat} (hcl:∀ e,e∉rem→∀ d∈z49 ops e,d∉rem):∀ (n k:Nat) (l:List Nat),(∀ e∈l,(∀ d∈z49 ops e,d∉rem)→i∉rem) →
  ∀ e∈zot ops i n k l,(∀ d∈z49 ops e,d∉rem)→i∉rem
 | 0,_,_,hl=>hl
 | n+1,k,l,hl=>by
  refine zou hcl n (k+1) _ ?_
  split
  ·rename_i ha
   intro e he hd
   rcases List.mem_cons.1 he with rfl | he
   ·obtain ⟨x,hx,h⟩:=List.any_eq_true.1 ha
    rcases Bool.or_eq_true _ _ ▸ h with h | h
    ·have:x=i:=Nat.eq_of_beq_eq_true h
     subst this; exact hd _ hx
    ·exact hl x (y63.1 h) (hcl x (hd x hx))
   ·exact hl e he hd
  ·exact hl

def z3o (ops:Array Oper) (_ i j:Nat):Bool:=y61 j (zot ops i (j-i) (i+1) [])

theorem z3p {ops:Array Oper} {rem:List Nat} (hcl:∀ e,e∉rem→∀ d∈z49 ops e,d∉rem) (f i j:Nat) (hj:∀ d∈z49 ops j,d∉rem) (h:z3o ops f i j=true):i∉rem :=
 zou hcl _ _ [] (fun e he=>by cases he) j (y63.1 h) hj

def zaa (C:Cfg) (ops:Array Oper):List Nat→Bool
 | []=>true
 | i :: l=>Nat.blt i ops.size&&!y61 i l&&(z49 ops i).all (fun e=>Nat.blt e ops.size&&!y61 e (i :: l)) &&
  l.all (fun j=>y61 i (z49 ops j)||yw9 C ops i j||zws ops 40 i j||z3o ops 6 i j)&&zaa C ops l

theorem z97 {a b:Nat}:Nat.blt a b=true↔a<b:=⟨fun h=>Nat.le_of_ble_eq_true h,fun h=>Nat.ble_eq_true_of_le h⟩

theorem zae {C:Cfg} {ops:Array Oper} {x:Nat} {zs:List Nat}:∀ {ys:List Nat},zaa C ops (ys++x :: zs)=true→zaa C ops (ys++zs)=true∧(∀ y∈ys,((y61 y (z49 ops x)=true∨yw9 C ops y x=true)∨zws ops 40 y x=true)∨z3o ops 6 y x=true)∧x∉ys∧x∉zs
 | [],h=>by
  simp only [List.nil_append,zaa,Bool.and_eq_true] at h
  refine ⟨h.2,by simp,by simp,fun hm=>?_⟩
  have:=h.1.1.1.2
  rw [y63.2 hm] at this; cases this
 | y :: ys,h=>by
  simp only [List.cons_append,zaa,Bool.and_eq_true,List.all_eq_true,Bool.not_eq_true',Bool.or_eq_true] at h
  obtain ⟨⟨⟨⟨h1,h2⟩,h3⟩,h4⟩,h5⟩:=h
  obtain ⟨i1,i2,i3,i4⟩:=zae h5
  have hyn:∀ {l:List Nat},y61 y l=false→y∉l:=fun h hm=>by rw [y63.2 hm] at h; cases h
  have hny:∀ {e:Nat} {l:List Nat},e∉l→y61 e l=false:=fun {e l} h=>by
   cases hb:y61 e l with
   | false=>rfl
   | true=>exact absurd (y63.1 hb) h
  refine ⟨?_,fun z hz=>?_,fun hm=>?_,i4⟩
  ·simp only [List.cons_append,zaa,Bool.and_eq_true,List.all_eq_true,Bool.not_eq_true',Bool.or_eq_true]
   refine ⟨⟨⟨⟨h1,hny fun hm=>hyn h2 ?_⟩,fun e he=>⟨(h3 e he).1,hny fun hm=>?_⟩⟩,fun j hj=>h4 j ?_⟩,i1⟩
   ·rcases List.mem_append.1 hm with hm | hm
    ·exact List.mem_append_left _ hm
    ·exact List.mem_append_right _ (List.mem_cons_of_mem _ hm)
   ·have:=(h3 e he).2
    rw [y63.2] at this
    ·cases this
    ·rcases List.mem_cons.1 hm with rfl | hm
     ·exact List.mem_cons_self ..
     ·rcases List.mem_append.1 hm with hm | hm
      ·exact List.mem_cons_of_mem _ (List.mem_append_left _ hm)
      ·exact List.mem_cons_of_mem _ (List.mem_append_right _ (List.mem_cons_of_mem _ hm))
   ·rcases List.mem_append.1 hj with hj | hj
    ·exact List.mem_append_left _ hj
    ·exact List.mem_append_right _ (List.mem_cons_of_mem _ hj)
  ·rcases List.mem_cons.1 hz with rfl | hz
   ·exact h4 x (List.mem_append_right _ (List.mem_cons_self ..))
   ·exact i2 z hz
  ·rcases List.mem_cons.1 hm with rfl | hm
   ·exact hyn h2 (List.mem_append_right _ (List.mem_cons_self ..))
   ·exact i3 hm

theorem zpd {C:Cfg} {ops:Array Oper} {k:St→Hp→Prop} {ds:List Nat} {ro:Option Nat} {H0:Hp} {w0:World} {Q:Exit→Act→World→Prop} (hN:z1b C.P) (hq:∀ a w,Kt C.n ds w0 H0 k a w→Q .normal a w) :
  ∀ (fuel:Nat) (rem:List Nat) (listed:Array Bool) (st:St) (H:Hp) (a:Act) (w:World),(∀ e,e∉rem→∀ d∈z49 ops e,d∉rem)→zaa C ops rem=true→listed.size=ops.size→(∀ i,i<ops.size→(listed.getD i true=false↔i∈rem))→rem.length≤fuel →
   y4d C true ops rem k st H→Sim C.n ds w0 H0 st H a w→wpAnyIn (Fz ro) 0 C.P .any ops Q fuel listed a w:=by
 intro fuel
 induction fuel with
 | zero =>
  intro rem listed st H a w _ _ hsz hl hf h hs
  have:rem=[]:=List.length_eq_zero_iff.1 (by omega)
  subst this
  refine ⟨?_,hq a w ⟨st,H,hs,h⟩⟩
  rw [List.eq_nil_iff_forall_not_mem]
  intro j hj
  obtain ⟨h0,o,ho,_⟩:=mem_ready.1 hj
  have:=(hl j (Array.getElem?_eq_some_iff.1 ho).1).1 h0
  cases this
 | succ fuel ih =>
  intro rem listed st H a w hcl hc hsz hl hf h hs
  have hlt:∀ e,e<ops.size→e∉rem→listed.getD e false=true:=fun e he hn=>by
   have h1:¬ listed.getD e true=false:=fun h'=>hn ((hl e he).1 h')
   have h2:e<listed.size:=by rw [hsz]; exact he
   simpa [h2] using h1
  refine ⟨fun h0=>?_,fun j hj=>?_⟩
  ·cases rem with
   | nil=>exact hq a w ⟨st,H,hs,h⟩
   | cons i l =>
    exfalso
    simp only [zaa,Bool.and_eq_true,List.all_eq_true,Bool.not_eq_true'] at hc
    obtain ⟨⟨⟨⟨h1,_⟩,h3⟩,_⟩,_⟩:=hc
    have hi:=z97.1 h1
    have hr:i∈Region.ready .any ops listed:=by
     refine mem_ready.2 ⟨(hl i hi).2 (List.mem_cons_self ..),ops[i],by simp [hi],fun e he hb=>?_⟩
     have hm:e.on∈z49 ops i:=by
      unfold z49
      simp only [Array.getElem?_eq_getElem hi]
      exact List.mem_map.2 ⟨e,List.mem_filter.2 ⟨by simpa using he,hb⟩,rfl⟩
     obtain ⟨h5,h6⟩:=h3 _ hm
     exact hlt _ (z97.1 h5) fun hmm=>by rw [y63.2 hmm] at h6; cases h6
    rw [h0] at hr; cases hr
  ·obtain ⟨h0,o,ho,hall⟩:=mem_ready.1 hj
   have hjlt:=(Array.getElem?_eq_some_iff.1 ho).1
   have hjr:=(hl j hjlt).1 h0
   obtain ⟨ys,zs,rfl⟩:=List.append_of_mem hjr
   obtain ⟨c1,c2,c3,c4⟩:=zae hc
   have haf:∀ d∈z49 ops j,d∉ys++j :: zs:=fun d hd hdr=>by
    unfold z49 at hd
    simp only [ho] at hd
    obtain ⟨e,he,rfl⟩:=List.mem_map.1 hd
    obtain ⟨he1,he2⟩:=List.mem_filter.1 he
    have h1:=hall e (by simpa using he1) he2
    have h2:e.on<listed.size:=by
     rcases Nat.lt_or_ge e.on listed.size with h | h
     ·exact h
     ·simp [Array.getElem?_eq_none h] at h1
    have h3:=(hl e.on (by rw [← hsz]; exact h2)).2 hdr
    simp [h2] at h1 h3
    rw [h1] at h3; cases h3
   have hsw:∀ y∈ys,yw9 C ops y j=true:=fun y hy=>by
    rcases c2 y hy with ((h' | h') | h') | h'
    ·exact absurd (List.mem_append_left _ hy) (haf y (y63.1 h'))
    ·exact h'
    ·exact absurd (List.mem_append_left _ hy) (zwt hcl 40 y j haf h')
    ·exact absurd (List.mem_append_left _ hy) (z3p hcl 6 y j haf h')
   have hcl':∀ e,e∉ys++zs→∀ d∈z49 ops e,d∉ys++zs:=fun e he d hd hdr=>by
    have hup:∀ {d},d∈ys++zs→d∈ys++j :: zs:=fun h=>by
     rcases List.mem_append.1 h with h | h
     ·exact List.mem_append_left _ h
     ·exact List.mem_append_right _ (List.mem_cons_of_mem _ h)
    by_cases hej:e=j
    ·subst hej; exact haf d hd (hup hdr)
    ·refine hcl e (fun hm=>he ?_) d hd (hup hdr)
     rcases List.mem_append.1 hm with h | h
     ·exact List.mem_append_left _ h
     ·rcases List.mem_cons.1 h with h | h
      ·exact absurd h hej
      ·exact List.mem_append_right _ h
   have hx:Ex H:=by obtain ⟨ids,_,_,hT⟩:=hs; exact ⟨w,hT.view⟩
   have hb:=z9q hsw hx h
   refine wpOpIn_mono (fun a' w' ⟨st',H',hs',h'⟩=>ih (ys++zs) (listed.setIfInBounds j true) st' H' a' w' hcl' c1 (by simp [hsz]) (fun i hi=>?_) (by simp at hf ⊢; omega) h' hs') (yvd hN hb hs)
   by_cases hij:j=i
   ·subst hij
    have h2:j<listed.size:=by rw [hsz]; exact hi
    constructor
    ·intro h'
     simp [h2] at h'
    ·intro h'
     rcases List.mem_append.1 h' with h' | h'
     ·exact absurd h' c3
     ·exact absurd h' c4
   ·rw [getD_set_ne true hij,hl i hi]
    constructor
    ·intro h'
     rcases List.mem_append.1 h' with h' | h'
     ·exact List.mem_append_left _ h'
     ·rcases List.mem_cons.1 h' with rfl | h'
      ·exact absurd rfl hij
      ·exact List.mem_append_right _ h'
    ·intro h'
     rcases List.mem_append.1 h' with h' | h'
     ·exact List.mem_append_left _ h'
     ·exact List.mem_append_right _ (List.mem_cons_of_mem _ h')

def yh2 (C:Cfg) (ops:Array Oper) (l:List Nat):Bool:=Nat.beq l.length ops.size&&(List.range ops.size).all (fun i=>y61 i l)&&zaa C ops l

theorem yok {C:Cfg} {ops:Array Oper} {k:St→Hp→Prop} {ds:List Nat} {ro:Option Nat} {H0 H:Hp} {w0 w:World} {Q:Exit→Act→World→Prop} {a:Act} {st:St} {id:Nat} {l:List Nat} (hN:z1b C.P) (hM:C.P.follows .mixedOrders=true)
  (hq:∀ a w,Kt C.n ds w0 H0 k a w→Q .normal a w) (hl:yh2 C ops l=true) (h:y4d C true ops l k st H) (hs:Sim C.n ds w0 H0 st H a w):(Code.region id ops true).wpIn (Fz ro) 0 C.P Q a w:=by
 refine wpIn_region_any hM ?_
 simp only [yh2,Bool.and_eq_true,Nat.beq_iff] at hl
 obtain ⟨⟨hlen,hall⟩,hc⟩:=hl
 have hmem:∀ i,i<ops.size→i∈l:=fun i hi=>y63.1 (List.all_eq_true.1 hall i (List.mem_range.2 hi))
 have hs':Sim C.n ds w0 H0 st H a { w with drawn:=w.drawn+1 }:=by
  obtain ⟨ids,hE,hP,hT⟩:=hs
  exact ⟨ids,hE,⟨hP.blk,hP.hid,hP.low,hP.inj,hP.dfs⟩,⟨hT.view,hT.frame,hT.fresh,hT.size,hT.os,hT.tape,hT.output,Nat.le_succ_of_le hT.drawn⟩⟩
 refine zpd hN hq ops.size l (Array.replicate ops.size false) st H a _ (fun e he d hd _=>?_) hc (by simp) (fun i hi=>⟨fun _=>hmem i hi,fun _=>by simp [hi]⟩) (by omega) h hs'
 unfold z49 at hd
 rw [Array.getElem?_eq_none (Nat.le_of_not_lt fun h=>he (hmem e h))] at hd
 cases hd

def zab (C:Cfg) (ops:Array Oper) (x d:Nat):List Nat→Bool
 | []=>true
 | i :: l=>Nat.blt i ops.size&&!y61 i l&&(z49 ops i).all (fun e=>Nat.blt e ops.size&&!y61 e (i :: l)) &&
  l.all (fun j=>y61 i (z49 ops j)||yw9 C ops i j||zws ops 40 i j||z3o ops 6 i j||(Nat.beq i x&&Nat.beq j d))&&zab C ops x d l

theorem zac {C:Cfg} {ops:Array Oper} {x d:Nat}:∀ {l:List Nat},zab C ops x d l=true→(x∉l∨d∉l)→zaa C ops l=true
 | [],_,_=>rfl
 | i :: l,h,hn=>by
  simp only [zab,Bool.and_eq_true,List.all_eq_true,Bool.or_eq_true,Nat.beq_iff] at h
  obtain ⟨⟨⟨⟨h1,h2⟩,h3⟩,h4⟩,h5⟩:=h
  have ih:=zac h5 (by
   rcases hn with hn | hn
   ·exact .inl fun hm=>hn (List.mem_cons_of_mem _ hm)
   ·exact .inr fun hm=>hn (List.mem_cons_of_mem _ hm))
  simp only [zaa,Bool.and_eq_true,List.all_eq_true,Bool.or_eq_true]
  refine ⟨⟨⟨⟨h1,h2⟩,h3⟩,fun j hj=>?_⟩,ih⟩
  rcases h4 j hj with h | ⟨rfl,rfl⟩
  ·exact h
  ·rcases hn with hn | hn
   ·exact absurd (List.mem_cons_self ..) hn
   ·exact absurd (List.mem_cons_of_mem _ hj) hn

theorem zad {C:Cfg} {ops:Array Oper} {p q x:Nat} {zs:List Nat}:∀ {ys:List Nat},zab C ops p q (ys++x :: zs)=true→zab C ops p q (ys++zs)=true∧(∀ y∈ys,(((y61 y (z49 ops x)=true∨yw9 C ops y x=true)∨zws ops 40 y x=true)∨z3o ops 6 y x=true)∨(y=p∧x=q))∧x∉ys∧x∉zs
 | [],h=>by
  simp only [List.nil_append,zab,Bool.and_eq_true] at h
  refine ⟨h.2,by simp,by simp,fun hm=>?_⟩
  have:=h.1.1.1.2
  rw [y63.2 hm] at this; cases this
 | y :: ys,h=>by
  simp only [List.cons_append,zab,Bool.and_eq_true,List.all_eq_true,Bool.not_eq_true',Bool.or_eq_true,Nat.beq_iff] at h
  obtain ⟨⟨⟨⟨h1,h2⟩,h3⟩,h4⟩,h5⟩:=h
  obtain ⟨i1,i2,i3,i4⟩:=zad h5
  have hyn:∀ {l:List Nat},y61 y l=false→y∉l:=fun h hm=>by rw [y63.2 hm] at h; cases h
  have hny:∀ {e:Nat} {l:List Nat},e∉l→y61 e l=false:=fun {e l} h=>by
   cases hb:y61 e l with
   | false=>rfl
   | true=>exact absurd (y63.1 hb) h
  refine ⟨?_,fun z hz=>?_,fun hm=>?_,i4⟩
  ·simp only [List.cons_append,zab,Bool.and_eq_true,List.all_eq_true,Bool.not_eq_true',Bool.or_eq_true,Nat.beq_iff]
   refine ⟨⟨⟨⟨h1,hny fun hm=>hyn h2 ?_⟩,fun e he=>⟨(h3 e he).1,hny fun hm=>?_⟩⟩,fun j hj=>h4 j ?_⟩,i1⟩
   ·rcases List.mem_append.1 hm with hm | hm
    ·exact List.mem_append_left _ hm
    ·exact List.mem_append_right _ (List.mem_cons_of_mem _ hm)
   ·have:=(h3 e he).2
    rw [y63.2] at this
    ·cases this
    ·rcases List.mem_cons.1 hm with rfl | hm
     ·exact List.mem_cons_self ..
     ·rcases List.mem_append.1 hm with hm | hm
      ·exact List.mem_cons_of_mem _ (List.mem_append_left _ hm)
      ·exact List.mem_cons_of_mem _ (List.mem_append_right _ (List.mem_cons_of_mem _ hm))
   ·rcases List.mem_append.1 hj with hj | hj
    ·exact List.mem_append_left _ hj
    ·exact List.mem_append_right _ (List.mem_cons_of_mem _ hj)
  ·rcases List.mem_cons.1 hz with rfl | hz
   ·exact h4 x (List.mem_append_right _ (List.mem_cons_self ..))
   ·exact i2 z hz
  ·rcases List.mem_cons.1 hm with rfl | hm
   ·exact hyn h2 (List.mem_append_right _ (List.mem_cons_self ..))
   ·exact i3 hm

theorem yjh {C:Cfg} {ops:Array Oper} {p q j:Nat} {rem:List Nat} {k:St→Hp→Prop} {st:St} {H:Hp} (hx:Ex H) (hcl:∀ e,e∉rem→∀ d∈z49 ops e,d∉rem) (hc:zab C ops p q rem=true) (haf:∀ d∈z49 ops j,d∉rem) (hjr:j∈rem) (hne:j≠q)
  (h:y4d C true ops rem k st H):∃ ys zs,rem=ys++j :: zs∧zab C ops p q (ys++zs)=true∧j∉ys∧j∉zs∧yv9 C true ops j (y4d C true ops (ys++zs) k) st H:=by
 obtain ⟨ys,zs,rfl⟩:=List.append_of_mem hjr
 obtain ⟨c1,c2,c3,c4⟩:=zad hc
 have hsw:∀ y∈ys,yw9 C ops y j=true:=fun y hy=>by
  rcases c2 y hy with (((h' | h') | h') | h') | h'
  ·exact absurd (List.mem_append_left _ hy) (haf y (y63.1 h'))
  ·exact h'
  ·exact absurd (List.mem_append_left _ hy) (zwt hcl 40 y j haf h')
  ·exact absurd (List.mem_append_left _ hy) (z3p hcl 6 y j haf h')
  ·exact absurd h'.2 hne
 exact ⟨ys,zs,rfl,c1,c3,c4,z9q hsw hx h⟩

theorem y4j {listed:Array Bool} {n j:Nat} {rem rem':List Nat} (hsz:listed.size=n) (hjn:j<n) (hl:∀ i,i<n→(listed.getD i true=false↔i∈rem)) (hm:∀ i,i∈rem'↔i∈rem∧i≠j) :
  ∀ i,i<n→((listed.setIfInBounds j true).getD i true=false↔i∈rem'):=fun i hi=>by
 by_cases hij:j=i
 ·subst hij
  have h2:j<listed.size:=by rw [hsz]; exact hi
  rw [hm]
  constructor
  ·intro h'; simp [h2] at h'
  ·intro h'; exact absurd rfl h'.2
 ·rw [getD_set_ne true hij,hl i hi,hm]
  exact ⟨fun h=>⟨h,fun e=>hij e.symm⟩,fun h=>h.1⟩

theorem y69 {j:Nat} {ys zs:List Nat} (c3:j∉ys) (c4:j∉zs) (i:Nat):i∈ys++zs↔i∈ys++j :: zs∧i≠j:=by
 simp only [List.mem_append,List.mem_cons]
 constructor
 ·rintro (h | h)
  ·exact ⟨.inl h,fun e=>c3 (e ▸ h)⟩
  ·exact ⟨.inr (.inr h),fun e=>c4 (e ▸ h)⟩
 ·rintro ⟨h | h | h,hn⟩
  ·exact .inl h
  ·exact absurd h hn
  ·exact .inr h

theorem y4e {C:Cfg} {draw:Bool} {ops:Array Oper} {k:St→Hp→Prop}:∀ (l m:List Nat),y4d C draw ops (l++m) k=y4d C draw ops l (y4d C draw ops m k)
 | [],_=>rfl
 | i :: l,m=>by
  show yv9 C draw ops i (y4d C draw ops (l++m) k)=yv9 C draw ops i (y4d C draw ops l (y4d C draw ops m k))
  rw [y4e l m]

theorem y4f {C:Cfg} {draw:Bool} {ops:Array Oper} {k k':St→Hp→Prop} (hk:∀ st H,Ex H→k st H→k' st H):∀ (l:List Nat) {st:St} {H:Hp},Ex H→y4d C draw ops l k st H→y4d C draw ops l k' st H
 | [],_,_,hx,h=>hk _ _ hx h
 | _ :: l,_,_,hx,h=>yva h hx fun _ _ hx' h'=>y4f hk l hx' h'

def waits (ops:Array Oper) (x d j:Nat):Bool:=y61 x (z49 ops j)||y61 d (z49 ops j)||z3o ops 6 x j||z3o ops 6 d j

theorem zpe {C:Cfg} {ops:Array Oper} {k:St→Hp→Prop} {ds:List Nat} {ro:Option Nat} {H0:Hp} {w0:World} {Q:Exit→Act→World→Prop} {x d:Nat} {post:List Nat} (hxd:x≠d) (hN:z1b C.P) (hq:∀ a w,Kt C.n ds w0 H0 k a w→Q .normal a w) (hw:∀ j∈post,waits ops x d j=true) :
  ∀ (fuel:Nat) (pre:List Nat) (listed:Array Bool) (st:St) (H:Hp) (a:Act) (w:World),(∀ e,e∉pre++x :: d :: post→∀ f∈z49 ops e,f∉pre++x :: d :: post)→zab C ops x d (pre++x :: d :: post)=true→zab C ops d x (pre++d :: x :: post)=true→listed.size=ops.size →
   (∀ i,i<ops.size→(listed.getD i true=false↔i∈pre++x :: d :: post))→(pre++x :: d :: post).length≤fuel →
   y4d C true ops pre (fun st H=>y4d C true ops (x :: d :: post) k st H∧y4d C true ops (d :: x :: post) k st H) st H→Sim C.n ds w0 H0 st H a w→wpAnyIn (Fz ro) 0 C.P .any ops Q fuel listed a w:=by
 intro fuel
 induction fuel with
 | zero =>
  intro pre listed st H a w _ _ _ _ _ hf _ _
  simp at hf
 | succ fuel ih =>
  intro pre listed st H a w hcl hc1 hc2 hsz hl hf h hs
  have hmm:∀ i,i∈pre++x :: d :: post↔i∈pre++d :: x :: post:=fun i=>by
   simp only [List.mem_append,List.mem_cons]
   constructor
   ·rintro (h | h | h | h)
    ·exact .inl h
    ·exact .inr (.inr (.inl h))
    ·exact .inr (.inl h)
    ·exact .inr (.inr (.inr h))
   ·rintro (h | h | h | h)
    ·exact .inl h
    ·exact .inr (.inr (.inl h))
    ·exact .inr (.inl h)
    ·exact .inr (.inr (.inr h))
  have hcl2:∀ e,e∉pre++d :: x :: post→∀ f∈z49 ops e,f∉pre++d :: x :: post:=fun e he f hf' hdr=>hcl e (fun h=>he ((hmm e).1 h)) f hf' ((hmm f).2 hdr)
  have hx:Ex H:=by obtain ⟨ids,_,_,hT⟩:=hs; exact ⟨w,hT.view⟩
  refine ⟨fun h0=>?_,fun j hj=>?_⟩
  ·exfalso
   have hlt:∀ e,e<ops.size→e∉pre++x :: d :: post→listed.getD e false=true:=fun e he hn=>by
    have h1:¬ listed.getD e true=false:=fun h'=>hn ((hl e he).1 h')
    have h2:e<listed.size:=by rw [hsz]; exact he
    simpa [h2] using h1
   have key:∀ (i:Nat) (l:List Nat),pre++x :: d :: post=i :: l→False:=fun i l e=>by
    rw [e] at hc1 hlt hl
    simp only [zab,Bool.and_eq_true,List.all_eq_true,Bool.not_eq_true'] at hc1
    obtain ⟨⟨⟨⟨g1,_⟩,g3⟩,_⟩,_⟩:=hc1
    have hi:=z97.1 g1
    have hr:i∈Region.ready .any ops listed:=by
     refine mem_ready.2 ⟨(hl i hi).2 (List.mem_cons_self ..),ops[i],by simp [hi],fun e he hb=>?_⟩
     have hm:e.on∈z49 ops i:=by
      unfold z49
      simp only [Array.getElem?_eq_getElem hi]
      exact List.mem_map.2 ⟨e,List.mem_filter.2 ⟨by simpa using he,hb⟩,rfl⟩
     obtain ⟨h5,h6⟩:=g3 _ hm
     exact hlt _ (z97.1 h5) fun hmm=>by rw [y63.2 hmm] at h6; cases h6
    rw [h0] at hr; cases hr
   cases pre with
   | nil=>exact key x (d :: post) rfl
   | cons i l=>exact key i _ rfl
  ·obtain ⟨h0,o,ho,hall⟩:=mem_ready.1 hj
   have hjlt:=(Array.getElem?_eq_some_iff.1 ho).1
   have hjr:=(hl j hjlt).1 h0
   have haf:∀ f∈z49 ops j,f∉pre++x :: d :: post:=fun f hd hdr=>by
    unfold z49 at hd
    simp only [ho] at hd
    obtain ⟨e,he,rfl⟩:=List.mem_map.1 hd
    obtain ⟨he1,he2⟩:=List.mem_filter.1 he
    have h1:=hall e (by simpa using he1) he2
    have h2:e.on<listed.size:=by
     rcases Nat.lt_or_ge e.on listed.size with h | h
     ·exact h
     ·simp [Array.getElem?_eq_none h] at h1
    have h3:=(hl e.on (by rw [← hsz]; exact h2)).2 hdr
    simp [h2] at h1 h3
    rw [h1] at h3; cases h3
   have haf2:∀ f∈z49 ops j,f∉pre++d :: x :: post:=fun f hd hdr=>haf f hd ((hmm f).2 hdr)
   have clos:∀ (rem ys zs:List Nat),(∀ e,e∉rem→∀ d∈z49 ops e,d∉rem)→(∀ d∈z49 ops j,d∉rem)→rem=ys++j :: zs→∀ e,e∉ys++zs→∀ d∈z49 ops e,d∉ys++zs:=fun rem ys zs hcl haf er e he d hd hdr=>by
    have hup:∀ {d},d∈ys++zs→d∈rem:=fun h=>by
     rw [er]
     rcases List.mem_append.1 h with h | h
     ·exact List.mem_append_left _ h
     ·exact List.mem_append_right _ (List.mem_cons_of_mem _ h)
    by_cases hej:e=j
    ·subst hej; exact haf d hd (hup hdr)
    ·refine hcl e (fun hm=>he ?_) d hd (hup hdr)
     rw [er] at hm
     rcases List.mem_append.1 hm with h | h
     ·exact List.mem_append_left _ h
     ·rcases List.mem_cons.1 h with h | h
      ·exact absurd h hej
      ·exact List.mem_append_right _ h
   have h1:y4d C true ops (pre++x :: d :: post) k st H:=by
    rw [y4e]; exact y4f (fun _ _ _ h=>h.1) pre hx h
   have h2:y4d C true ops (pre++d :: x :: post) k st H:=by
    rw [y4e]; exact y4f (fun _ _ _ h=>h.2) pre hx h
   by_cases e1:j=d
   · -- the second list goes on alone
    subst e1
    obtain ⟨ys,zs,er,c1,c3,c4,hb⟩:=yjh hx hcl2 hc2 haf2 ((hmm j).1 hjr) (fun e=>hxd e.symm) h2
    have hm2:∀ i,i<ops.size→(listed.getD i true=false↔i∈pre++j :: x :: post):=fun i hi=>(hl i hi).trans (hmm i)
    have hnj:j∉ys++zs:=fun h=>by
     rcases List.mem_append.1 h with h | h
     ·exact c3 h
     ·exact c4 h
    have hlen:(pre++j :: x :: post).length≤fuel+1:=by simpa using hf
    refine wpOpIn_mono (fun a' w' ⟨st',H',hs',h'⟩=>zpd hN hq fuel (ys++zs) (listed.setIfInBounds j true) st' H' a' w' (clos _ ys zs hcl2 haf2 er) (zac c1 (.inl hnj)) (by simp [hsz]) (y4j hsz hjlt hm2 fun i=>by rw [er]; exact y69 c3 c4 i) (by rw [er] at hlen; simp at hlen ⊢; omega) h' hs') (yvd hN hb hs)
   ·by_cases e2:j=x
    ·subst e2
     obtain ⟨ys,zs,er,c1,c3,c4,hb⟩:=yjh hx hcl hc1 haf hjr hxd h1
     have hnj:j∉ys++zs:=fun h=>by
      rcases List.mem_append.1 h with h | h
      ·exact c3 h
      ·exact c4 h
     refine wpOpIn_mono (fun a' w' ⟨st',H',hs',h'⟩=>zpd hN hq fuel (ys++zs) (listed.setIfInBounds j true) st' H' a' w' (clos _ ys zs hcl haf er) (zac c1 (.inl hnj)) (by simp [hsz]) (y4j hsz hjlt hl fun i=>by rw [er]; exact y69 c3 c4 i) (by rw [er] at hf; simp at hf ⊢; omega) h' hs') (yvd hN hb hs)
    ·have hjp:j∈pre:=by
      rcases List.mem_append.1 hjr with h | h
      ·exact h
      ·exfalso
       rcases List.mem_cons.1 h with h | h
       ·exact e2 h
       ·rcases List.mem_cons.1 h with h | h
        ·exact e1 h
        ·have hw':=hw j h
         have inx:x∈pre++x :: d :: post:=by simp
         have ind:d∈pre++x :: d :: post:=by simp
         simp only [waits,Bool.or_eq_true] at hw'
         rcases hw' with ((hw' | hw') | hw') | hw'
         ·exact haf x (y63.1 hw') inx
         ·exact haf d (y63.1 hw') ind
         ·exact z3p hcl 6 x j haf hw' inx
         ·exact z3p hcl 6 d j haf hw' ind
     obtain ⟨ys,zs,er⟩:=List.append_of_mem hjp
     subst er
     have hc1':=hc1
     rw [List.append_assoc,List.cons_append] at hc1'
     obtain ⟨c1,c2,c3,c4⟩:=zad hc1'
     have hc2':=hc2
     rw [List.append_assoc,List.cons_append] at hc2'
     obtain ⟨d1,d2,d3,d4⟩:=zad hc2'
     have hsw:∀ y∈ys,yw9 C ops y j=true:=fun y hy=>by
      have hym:y∈ys++j :: zs++x :: d :: post:=List.mem_append_left _ (List.mem_append_left _ hy)
      rcases c2 y hy with (((h' | h') | h') | h') | h'
      ·exact absurd hym (haf y (y63.1 h'))
      ·exact h'
      ·exact absurd hym (zwt hcl 40 y j haf h')
      ·exact absurd hym (z3p hcl 6 y j haf h')
      ·exact absurd h'.2 e1
     have hb:=z9q hsw hx h
     have ea:ys++zs++x :: d :: post=ys++(zs++x :: d :: post):=List.append_assoc ..
     have eb:ys++zs++d :: x :: post=ys++(zs++d :: x :: post):=List.append_assoc ..
     have er:ys++j :: zs++x :: d :: post=ys++j :: (zs++x :: d :: post):=by rw [List.append_assoc]; rfl
     refine wpOpIn_mono (fun a' w' ⟨st',H',hs',h'⟩=>ih (ys++zs) (listed.setIfInBounds j true) st' H' a' w' ?_ (by rw [ea]; exact c1) (by rw [eb]; exact d1) (by simp [hsz]) (y4j hsz hjlt hl fun i=>?_) (by simp at hf ⊢; omega) h' hs') (yvd hN hb hs)
     ·rw [ea]; exact clos _ ys _ hcl haf er
     ·rw [ea,er]; exact y69 c3 c4 i

theorem zpf {C:Cfg} {ops:Array Oper} {k:St→Hp→Prop} {ds:List Nat} {ro:Option Nat} {H0:Hp} {w0:World} {Q:Exit→Act→World→Prop} {x m d:Nat} {post:List Nat} (hxd:x≠d) (hN:z1b C.P) (hq:∀ a w,Kt C.n ds w0 H0 k a w→Q .normal a w) (hw:∀ j∈post,waits ops x d j=true) (hmd:m∈z49 ops d) :
  ∀ (fuel:Nat) (pre:List Nat) (listed:Array Bool) (st:St) (H:Hp) (a:Act) (w:World),(∀ e,e∉pre++x :: m :: d :: post→∀ f∈z49 ops e,f∉pre++x :: m :: d :: post)→zab C ops x d (pre++x :: m :: d :: post)=true→zab C ops d x (pre++d :: x :: post)=true→listed.size=ops.size →
   (∀ i,i<ops.size→(listed.getD i true=false↔i∈pre++x :: m :: d :: post))→(pre++x :: m :: d :: post).length≤fuel →
   y4d C true ops pre (fun st H=>y4d C true ops (x :: m :: d :: post) k st H∧yv9 C true ops m (fun st H=>y4d C true ops (x :: d :: post) k st H∧y4d C true ops (d :: x :: post) k st H) st H) st H→Sim C.n ds w0 H0 st H a w→wpAnyIn (Fz ro) 0 C.P .any ops Q fuel listed a w:=by
 intro fuel
 induction fuel with
 | zero =>
  intro pre listed st H a w _ _ _ _ _ hf _ _
  simp at hf
 | succ fuel ih =>
  intro pre listed st H a w hcl hc1 hc2 hsz hl hf h hs
  have hx:Ex H:=by obtain ⟨ids,_,_,hT⟩:=hs; exact ⟨w,hT.view⟩
  refine ⟨fun h0=>?_,fun j hj=>?_⟩
  ·exfalso
   have hlt:∀ e,e<ops.size→e∉pre++x :: m :: d :: post→listed.getD e false=true:=fun e he hn=>by
    have h1:¬ listed.getD e true=false:=fun h'=>hn ((hl e he).1 h')
    have h2:e<listed.size:=by rw [hsz]; exact he
    simpa [h2] using h1
   have key:∀ (i:Nat) (l:List Nat),pre++x :: m :: d :: post=i :: l→False:=fun i l e=>by
    rw [e] at hc1 hlt hl
    simp only [zab,Bool.and_eq_true,List.all_eq_true,Bool.not_eq_true'] at hc1
    obtain ⟨⟨⟨⟨g1,_⟩,g3⟩,_⟩,_⟩:=hc1
    have hi:=z97.1 g1
    have hr:i∈Region.ready .any ops listed:=by
     refine mem_ready.2 ⟨(hl i hi).2 (List.mem_cons_self ..),ops[i],by simp [hi],fun e he hb=>?_⟩
     have hm:e.on∈z49 ops i:=by
      unfold z49
      simp only [Array.getElem?_eq_getElem hi]
      exact List.mem_map.2 ⟨e,List.mem_filter.2 ⟨by simpa using he,hb⟩,rfl⟩
     obtain ⟨h5,h6⟩:=g3 _ hm
     exact hlt _ (z97.1 h5) fun hmm=>by rw [y63.2 hmm] at h6; cases h6
    rw [h0] at hr; cases hr
   cases pre with
   | nil=>exact key x (m :: d :: post) rfl
   | cons i l=>exact key i _ rfl
  ·obtain ⟨h0,o,ho,hall⟩:=mem_ready.1 hj
   have hjlt:=(Array.getElem?_eq_some_iff.1 ho).1
   have hjr:=(hl j hjlt).1 h0
   have haf:∀ f∈z49 ops j,f∉pre++x :: m :: d :: post:=fun f hd hdr=>by
    unfold z49 at hd
    simp only [ho] at hd
    obtain ⟨e,he,rfl⟩:=List.mem_map.1 hd
    obtain ⟨he1,he2⟩:=List.mem_filter.1 he
    have h1:=hall e (by simpa using he1) he2
    have h2:e.on<listed.size:=by
     rcases Nat.lt_or_ge e.on listed.size with h | h
     ·exact h
     ·simp [Array.getElem?_eq_none h] at h1
    have h3:=(hl e.on (by rw [← hsz]; exact h2)).2 hdr
    simp [h2] at h1 h3
    rw [h1] at h3; cases h3
   have clos:∀ (rem ys zs:List Nat),(∀ e,e∉rem→∀ d∈z49 ops e,d∉rem)→(∀ d∈z49 ops j,d∉rem)→rem=ys++j :: zs→∀ e,e∉ys++zs→∀ d∈z49 ops e,d∉ys++zs:=fun rem ys zs hcl haf er e he d hd hdr=>by
    have hup:∀ {d},d∈ys++zs→d∈rem:=fun h=>by
     rw [er]
     rcases List.mem_append.1 h with h | h
     ·exact List.mem_append_left _ h
     ·exact List.mem_append_right _ (List.mem_cons_of_mem _ h)
    by_cases hej:e=j
    ·subst hej; exact haf d hd (hup hdr)
    ·refine hcl e (fun hm=>he ?_) d hd (hup hdr)
     rw [er] at hm
     rcases List.mem_append.1 hm with h | h
     ·exact List.mem_append_left _ h
     ·rcases List.mem_cons.1 h with h | h
      ·exact absurd h hej
      ·exact List.mem_append_right _ h
   have h1:y4d C true ops (pre++x :: m :: d :: post) k st H:=by
    rw [y4e]; exact y4f (fun _ _ _ h=>h.1) pre hx h
   have h2:y4d C true ops (pre++m :: []) (fun st H=>y4d C true ops (x :: d :: post) k st H∧y4d C true ops (d :: x :: post) k st H) st H:=by
    rw [y4e]; exact y4f (fun _ _ _ h=>h.2) pre hx h
   by_cases e1:j=d
   ·subst e1; exact absurd (by simp:m∈pre++x :: m :: j :: post) (haf m hmd)
   by_cases e2:j=x
   ·subst e2
    obtain ⟨ys,zs,er,c1,c3,c4,hb⟩:=yjh hx hcl hc1 haf hjr hxd h1
    have hnj:j∉ys++zs:=fun h=>by
     rcases List.mem_append.1 h with h | h
     ·exact c3 h
     ·exact c4 h
    exact wpOpIn_mono (fun a' w' ⟨st',H',hs',h'⟩=>zpd hN hq fuel (ys++zs) (listed.setIfInBounds j true) st' H' a' w' (clos _ ys zs hcl haf er) (zac c1 (.inl hnj)) (by simp [hsz]) (y4j hsz hjlt hl fun i=>by rw [er]; exact y69 c3 c4 i) (by rw [er] at hf; simp at hf ⊢; omega) h' hs') (yvd hN hb hs)
   by_cases e3:j=m
   ·subst e3
    have ea:pre++x :: j :: d :: post=(pre++[x])++j :: d :: post:=by simp
    have hc1':=hc1
    rw [ea] at hc1'
    obtain ⟨c1,c2,c3,c4⟩:=zad hc1'
    have hsw:∀ y∈pre,yw9 C ops y j=true:=fun y hy=>by
     have hym:y∈pre++x :: j :: d :: post:=List.mem_append_left _ hy
     rcases c2 y (List.mem_append_left _ hy) with (((h' | h') | h') | h') | h'
     ·exact absurd hym (haf y (y63.1 h'))
     ·exact h'
     ·exact absurd hym (zwt hcl 40 y j haf h')
     ·exact absurd hym (z3p hcl 6 y j haf h')
     ·exact absurd h'.2 e1
    have hb:=z9q hsw hx h2
    rw [List.append_nil] at hb
    have eb:(pre++[x])++d :: post=pre++x :: d :: post:=by simp
    refine wpOpIn_mono (fun a' w' ⟨st',H',hs',h'⟩=>zpe hxd hN hq hw fuel pre (listed.setIfInBounds j true) st' H' a' w' ?_ (by rw [← eb]; exact c1) hc2 (by simp [hsz]) (y4j hsz hjlt hl fun i=>?_) (by simp at hf ⊢; omega) h' hs') (yvd hN hb hs)
    ·rw [← eb]; exact clos _ _ _ hcl haf ea
    ·rw [← eb,ea]; exact y69 c3 c4 i
   have hjp:j∈pre:=by
    rcases List.mem_append.1 hjr with h | h
    ·exact h
    ·exfalso
     rcases List.mem_cons.1 h with h | h
     ·exact e2 h
     rcases List.mem_cons.1 h with h | h
     ·exact e3 h
     rcases List.mem_cons.1 h with h | h
     ·exact e1 h
     have hw':=hw j h
     have inx:x∈pre++x :: m :: d :: post:=by simp
     have ind:d∈pre++x :: m :: d :: post:=by simp
     simp only [waits,Bool.or_eq_true] at hw'
     rcases hw' with ((hw' | hw') | hw') | hw'
     ·exact haf x (y63.1 hw') inx
     ·exact haf d (y63.1 hw') ind
     ·exact z3p hcl 6 x j haf hw' inx
     ·exact z3p hcl 6 d j haf hw' ind
   obtain ⟨ys,zs,er⟩:=List.append_of_mem hjp
   subst er
   have hc1':=hc1
   rw [List.append_assoc,List.cons_append] at hc1'
   obtain ⟨c1,c2,c3,c4⟩:=zad hc1'
   have hc2':=hc2
   rw [List.append_assoc,List.cons_append] at hc2'
   obtain ⟨d1,d2,d3,d4⟩:=zad hc2'
   have hsw:∀ y∈ys,yw9 C ops y j=true:=fun y hy=>by
    have hym:y∈ys++j :: zs++x :: m :: d :: post:=List.mem_append_left _ (List.mem_append_left _ hy)
    rcases c2 y hy with (((h' | h') | h') | h') | h'
    ·exact absurd hym (haf y (y63.1 h'))
    ·exact h'
    ·exact absurd hym (zwt hcl 40 y j haf h')
    ·exact absurd hym (z3p hcl 6 y j haf h')
    ·exact absurd h'.2 e1
   have hb:=z9q hsw hx h
   have ea:ys++zs++x :: m :: d :: post=ys++(zs++x :: m :: d :: post):=List.append_assoc ..
   have eb:ys++zs++d :: x :: post=ys++(zs++d :: x :: post):=List.append_assoc ..
   have er:ys++j :: zs++x :: m :: d :: post=ys++j :: (zs++x :: m :: d :: post):=by rw [List.append_assoc]; rfl
   refine wpOpIn_mono (fun a' w' ⟨st',H',hs',h'⟩=>ih (ys++zs) (listed.setIfInBounds j true) st' H' a' w' ?_ (by rw [ea]; exact c1) (by rw [eb]; exact d1) (by simp [hsz]) (y4j hsz hjlt hl fun i=>?_) (by simp at hf ⊢; omega) h' hs') (yvd hN hb hs)
   ·rw [ea]; exact clos _ ys _ hcl haf er
   ·rw [ea,er]; exact y69 c3 c4 i

def yh3 (C:Cfg) (ops:Array Oper) (l:List Nat) (n:Nat):Bool :=
 match l.drop n with
 | x :: d :: post=>Nat.beq l.length ops.size&&(List.range ops.size).all (fun i=>y61 i l)&&zab C ops x d (l.take n++x :: d :: post)&&zab C ops d x (l.take n++d :: x :: post)&&!(Nat.beq x d)&&post.all (waits ops x d)
 | _=>false
def yh4 (C:Cfg) (ops:Array Oper) (l:List Nat) (n:Nat):Bool :=
 match l.drop n with
 | x :: m :: d :: post=>Nat.beq l.length ops.size&&(List.range ops.size).all (fun i=>y61 i l)&&zab C ops x d (l.take n++x :: m :: d :: post)&&zab C ops d x (l.take n++d :: x :: post)&&!(Nat.beq x d)&&post.all (waits ops x d)&&y61 m (z49 ops d)
 | _=>false

def yye (C:Cfg) (ops:Array Oper) (l:List Nat) (n:Nat) (k:St→Hp→Prop) (st:St) (H:Hp):Prop :=
 match l.drop n with
 | x :: d :: post=>y4d C true ops (l.take n) (fun st H=>y4d C true ops (x :: d :: post) k st H∧y4d C true ops (d :: x :: post) k st H) st H
 | _=>False
def yxe (C:Cfg) (ops:Array Oper) (l:List Nat) (n:Nat) (k:St→Hp→Prop) (st:St) (H:Hp):Prop :=
 match l.drop n with
 | x :: m :: d :: post=>y4d C true ops (l.take n) (fun st H=>y4d C true ops (x :: m :: d :: post) k st H∧y4d C true ops [m] (fun st H=>y4d C true ops (x :: d :: post) k st H∧y4d C true ops (d :: x :: post) k st H) st H) st H
 | _=>False

theorem yol {C:Cfg} {ops:Array Oper} {k:St→Hp→Prop} {ds:List Nat} {ro:Option Nat} {H0 H:Hp} {w0 w:World} {Q:Exit→Act→World→Prop} {a:Act} {st:St} {id:Nat} {l:List Nat} {n:Nat} (hN:z1b C.P) (hM:C.P.follows .mixedOrders=true)
  (hq:∀ a w,Kt C.n ds w0 H0 k a w→Q .normal a w) (hl:yh3 C ops l n=true) (h:yye C ops l n k st H) (hs:Sim C.n ds w0 H0 st H a w):(Code.region id ops true).wpIn (Fz ro) 0 C.P Q a w:=by
 refine wpIn_region_any hM ?_
 unfold yh3 at hl
 unfold yye at h
 split at hl
 ·rename_i x d post hd
  have el:l=l.take n++x :: d :: post:=by rw [← hd,List.take_append_drop]
  rw [hd] at h
  simp only at h
  simp only [Bool.and_eq_true,Nat.beq_iff,List.all_eq_true,y63,Bool.not_eq_true'] at hl
  obtain ⟨⟨⟨⟨⟨hlen,hall⟩,hc⟩,hc2⟩,hne⟩,hwt⟩:=hl
  have hmem:∀ i,i<ops.size→i∈l.take n++x :: d :: post:=fun i hi=>by rw [← el]; exact hall i (List.mem_range.2 hi)
  have hs':Sim C.n ds w0 H0 st H a { w with drawn:=w.drawn+1 }:=by
   obtain ⟨ids,hE,hP,hT⟩:=hs
   exact ⟨ids,hE,⟨hP.blk,hP.hid,hP.low,hP.inj,hP.dfs⟩,⟨hT.view,hT.frame,hT.fresh,hT.size,hT.os,hT.tape,hT.output,Nat.le_succ_of_le hT.drawn⟩⟩
  refine zpe (x:=x) (d:=d) (post:=post) (fun e=>by rw [e,Nat.beq_refl] at hne; cases hne) hN hq hwt ops.size (l.take n) (Array.replicate ops.size false) st H a _ (fun e he d hd _=>?_) hc hc2 (by simp) (fun i hi=>⟨fun _=>hmem i hi,fun _=>by simp [hi]⟩) (by rw [← el]; omega) h hs'
  unfold z49 at hd
  rw [Array.getElem?_eq_none (Nat.le_of_not_lt fun h=>he (hmem e h))] at hd
  cases hd
 ·cases hl

theorem yom {C:Cfg} {ops:Array Oper} {k:St→Hp→Prop} {ds:List Nat} {ro:Option Nat} {H0 H:Hp} {w0 w:World} {Q:Exit→Act→World→Prop} {a:Act} {st:St} {id:Nat} {l:List Nat} {n:Nat} (hN:z1b C.P) (hM:C.P.follows .mixedOrders=true)
  (hq:∀ a w,Kt C.n ds w0 H0 k a w→Q .normal a w) (hl:yh4 C ops l n=true) (h:yxe C ops l n k st H) (hs:Sim C.n ds w0 H0 st H a w):(Code.region id ops true).wpIn (Fz ro) 0 C.P Q a w:=by
 refine wpIn_region_any hM ?_
 unfold yh4 at hl
 unfold yxe at h
 split at hl
 ·rename_i x m d post hd
  have el:l=l.take n++x :: m :: d :: post:=by rw [← hd,List.take_append_drop]
  rw [hd] at h
  simp only at h
  simp only [Bool.and_eq_true,Nat.beq_iff,List.all_eq_true,y63,Bool.not_eq_true'] at hl
  obtain ⟨⟨⟨⟨⟨⟨hlen,hall⟩,hc⟩,hc2⟩,hne⟩,hwt⟩,hmd⟩:=hl
  have hmem:∀ i,i<ops.size→i∈l.take n++x :: m :: d :: post:=fun i hi=>by rw [← el]; exact hall i (List.mem_range.2 hi)
  have hs':Sim C.n ds w0 H0 st H a { w with drawn:=w.drawn+1 }:=by
   obtain ⟨ids,hE,hP,hT⟩:=hs
   exact ⟨ids,hE,⟨hP.blk,hP.hid,hP.low,hP.inj,hP.dfs⟩,⟨hT.view,hT.frame,hT.fresh,hT.size,hT.os,hT.tape,hT.output,Nat.le_succ_of_le hT.drawn⟩⟩
  refine zpf (x:=x) (m:=m) (d:=d) (post:=post) (fun e=>by rw [e,Nat.beq_refl] at hne; cases hne) hN hq hwt hmd ops.size (l.take n) (Array.replicate ops.size false) st H a _ (fun e he d hd _=>?_) hc hc2 (by simp) (fun i hi=>⟨fun _=>hmem i hi,fun _=>by simp [hi]⟩) (by rw [← el]; omega) h hs'
  unfold z49 at hd
  rw [Array.getElem?_eq_none (Nat.le_of_not_lt fun h=>he (hmem e h))] at hd
  cases hd
 ·cases hl

def zp9 (C:Cfg) (id:Nat) (ops:Array Oper) (k:St→Hp→Prop) (st:St) (H:Hp):Prop :=
 match C.perm id with
 | some l=>match C.perm2 id with
  | none=>match yh2 C ops l with
   | true=>y4d C true ops l k st H
   | false=>False
  | some (n,false)=>match yh3 C ops l n with
   | true=>yye C ops l n k st H
   | false=>False
  | some (n,true)=>match yh4 C ops l n with
   | true=>yxe C ops l n k st H
   | false=>False
 | none=>False

theorem zpb {C:Cfg} {id:Nat} {ops:Array Oper} {k k':St→Hp→Prop} {st:St} {H:Hp} (hk:∀ l st' H',y4d C true ops l k st' H'→y4d C true ops l k' st' H')
  (hp:∀ (l:List Nat) (j j':St→Hp→Prop),(∀ st H,j st H→j' st H)→∀ st H,y4d C true ops l j st H→y4d C true ops l j' st H) (h:zp9 C id ops k st H):zp9 C id ops k' st H:=by
 unfold zp9 at *
 cases hp1:C.perm id with
 | none=>simp [hp1] at h
 | some l =>
  simp only [hp1] at h ⊢
  cases h2:C.perm2 id with
  | none =>
   simp only [h2] at h ⊢
   cases ho:yh2 C ops l with
   | true=>simp only [ho] at h ⊢; exact hk _ _ _ h
   | false=>simp [ho] at h
  | some y =>
   obtain ⟨n,b⟩:=y
   cases b with
   | false =>
    simp only [h2] at h ⊢
    cases hq:yh3 C ops l n with
    | false=>simp [hq] at h
    | true =>
     simp only [hq] at h ⊢
     unfold yye at *
     split at h
     ·rename_i x d post hd
      exact hp _ _ _ (fun st H h=>⟨hk _ _ _ h.1,hk _ _ _ h.2⟩) _ _ h
     ·exact h.elim
   | true =>
    simp only [h2] at h ⊢
    cases hq:yh4 C ops l n with
    | false=>simp [hq] at h
    | true =>
     simp only [hq] at h ⊢
     unfold yxe at *
     split at h
     ·rename_i x m d post hd
      exact hp _ _ _ (fun st H h=>⟨hk _ _ _ h.1,hp _ _ _ (fun st H h=>⟨hk _ _ _ h.1,hk _ _ _ h.2⟩) _ _ h.2⟩) _ _ h
     ·exact h.elim

theorem zpc {C:Cfg} {ops:Array Oper} {k:St→Hp→Prop} {ds:List Nat} {ro:Option Nat} {H0 H:Hp} {w0 w:World} {Q:Exit→Act→World→Prop} {a:Act} {st:St} {id:Nat} (hN:z1b C.P) (hM:C.P.follows .mixedOrders=true)
  (hq:∀ a w,Kt C.n ds w0 H0 k a w→Q .normal a w) (h:zp9 C id ops k st H) (hs:Sim C.n ds w0 H0 st H a w):(Code.region id ops true).wpIn (Fz ro) 0 C.P Q a w:=by
 unfold zp9 at h
 cases hp1:C.perm id with
 | none=>simp [hp1] at h
 | some l =>
  simp only [hp1] at h
  cases h2:C.perm2 id with
  | none =>
   simp only [h2] at h
   cases ho:yh2 C ops l with
   | true=>simp only [ho] at h; exact yok hN hM hq ho h hs
   | false=>simp [ho] at h
  | some y =>
   obtain ⟨n,b⟩:=y
   cases b with
   | false =>
    simp only [h2] at h
    cases hq':yh3 C ops l n with
    | false=>simp [hq'] at h
    | true=>simp only [hq'] at h; exact yol hN hM hq hq' h hs
   | true =>
    simp only [h2] at h
    cases hq':yh4 C ops l n with
    | false=>simp [hq'] at h
    | true=>simp only [hq'] at h; exact yom hN hM hq hq' h hs

end Go.Eng
end
section
/- The engine,part O: code,loops,functions. Conditions: none. -/
namespace Go.Eng

abbrev Md:=Option (List Nat × List Nat)

def Md.seq:Md→Md→Md
 | some (a,b),some (c,d)=>some (a++c,b++d)
 | _,_=>none
def Md.alt:Md→Md→Md
 | some (a,b),some (c,d)=>some (a++c,b++d)
 | some x,none=>some x
 | none,y=>y

def ybp (C:Cfg) (o:Oper):List Nat × List Nat :=
  (match o.dst with
   | some d=>[d]
   | none=>[],match o.op with
   | .store _ (.tmp x) _=>match C.pv x with
     | true=>[C.nm x]
     | false=>[]
   | _=>[])

def yca (C:Cfg):List Oper→List Nat × List Nat
 | []=>([],[])
 | o :: os=>((ybp C o).1++(yca C os).1,(ybp C o).2++(yca C os).2)

def mod (C:Cfg):Code→Option Nat→Md
 | .region _ ops _,t=>match t with
  | none=>some (yca C ops.toList)
  | some _=>none
 | .skip,t=>match t with
  | none=>some ([],[])
  | some _=>none
 | .exit id,t=>match t with
  | none=>none
  | some k=>match Nat.beq id k with
   | true=>some ([],[])
   | false=>none
 | .seq a b,t=>match t with
  | none=>Md.seq (mod C a none) (mod C b none)
  | some k=>Md.alt (mod C a (some k)) (Md.seq (mod C a none) (mod C b (some k)))
 | .cond _ a b,t=>Md.alt (mod C a t) (mod C b t)
 | .block id b,t=>match t with
  | none=>Md.alt (mod C b none) (mod C b (some id))
  | some k=>match Nat.beq id k with
   | true=>none
   | false=>mod C b (some k)
 | .loop b,t=>match t with
  | none=>none
  | some k=>Md.alt (mod C b (some k)) (Md.seq (mod C b none) (mod C b (some k)))
 | _,_=>none

def Cur (R:Type):List z0x→Type
 | []=>R
 | .int _ :: ls=>Int→Cur R ls
 | .bool :: ls=>Bool→Cur R ls
 | .sl :: ls=>Slc→Cur R ls
 | .ptr :: ls=>Addr→Cur R ls
 | .mp :: ls=>Option Nat→Cur R ls
 | .val :: ls=>Value→Cur R ls

def z6i {R:Type}:(ls:List z0x)→Cur R ls→List Value→Option R
 | [],r,[]=>some r
 | .int k :: ls,f,.int k' n :: vs=>match decide (k=k') with
  | true=>z6i ls (f n) vs
  | false=>none
 | .bool :: ls,f,.bool b :: vs=>z6i ls (f b) vs
 | .sl :: ls,f,.slice a n c :: vs=>z6i ls (f ⟨a,n,c⟩) vs
 | .ptr :: ls,f,.pointer (some a) :: vs=>z6i ls (f a) vs
 | .mp :: ls,f,.map r :: vs=>z6i ls (f r) vs
 | .val :: ls,f,v :: vs=>z6i ls (f v) vs
 | _,_,_=>none

def z5a:List z0x→(List Value→Prop)→Prop
 | [],f=>f []
 | .int k :: ls,f=>∀ n:Int,z5a ls fun vs=>f (.int k n :: vs)
 | .bool :: ls,f=>∀ b:Bool,z5a ls fun vs=>f (.bool b :: vs)
 | .sl :: ls,f=>∀ u:Slc,z5a ls fun vs=>f (u.v :: vs)
 | .ptr :: ls,f=>∀ a:Addr,z5a ls fun vs=>f (.pointer (some a) :: vs)
 | .mp :: ls,f=>∀ r:Option Nat,z5a ls fun vs=>f (.map r :: vs)
 | .val :: ls,f=>∀ v:Value,z5a ls fun vs=>f (v :: vs)

abbrev Lp:=List (Nat × z0x) × List (Nat × List z0x)

def Lp.leaves (l:Lp):List z0x:=l.1.map (·.2)++l.2.flatMap (·.2)

def yte (env:Env):List (Nat × z0x)→Option (List Value)
 | []=>some []
 | (t,_) :: l=>match env t with
  | some ([],.lit v)=>match yte env l with
   | some vs=>some (v :: vs)
   | none=>none
  | _=>none

def yjb (pr:z1i):List (Nat × List z0x)→Option (List Value)
 | []=>some []
 | (j,ls) :: l=>match pr j with
  | some (cs,_)=>match Nat.beq cs.length ls.length,yjb pr l with
   | true,some vs=>some (cs++vs)
   | _,_=>none
  | none=>none

def y51 (l:Lp) (st:St):Option (List Value) :=
 match yte st.env l.1,yjb st.priv l.2 with
 | some a,some b=>some (a++b)
 | _,_=>none

def zy6 (ms:List Nat) (base:Env):List (Nat × z0x)→List Value→Env
 | [],_=>fun t=>match y61 t ms with
  | true=>none
  | false=>match base t with
   | some (g,v)=>match g.any fun p=>y61 p.1 ms with
    | true=>none
    | false=>some (g,v)
   | none=>none
 | (s,_) :: l,vs=>fun t=>match Nat.beq t s with
  | true=>match vs with
   | v :: _=>some ([],.lit v)
   | []=>none
  | false=>zy6 ms base l vs.tail t

def zy8 (base:z1i):List (Nat × List z0x)→List Value→z1i
 | [],_=>base
 | (j,ls) :: l,vs=>fun k=>match Nat.beq k j with
  | true=>match base j with
   | some (_,t)=>some (vs.take ls.length,t)
   | none=>none
  | false=>zy8 base l (vs.drop ls.length) k

def zyc (ms:List Nat) (l:Lp) (st:St) (vs:List Value):St :=
 ⟨zy6 ms st.env l.1 vs,zy8 st.priv l.2 (vs.drop l.1.length)⟩

def ztx:Code→Option Nat
 | .region id _ _=>some id
 | .seq a b=>match ztx a with
  | some i=>some i
  | none=>ztx b
 | .cond _ a b=>match ztx a with
  | some i=>some i
  | none=>ztx b
 | .block _ b=>ztx b
 | .loop b=>match ztx b with
  | some i=>some (i+1000)
  | none=>none
 | _=>none

abbrev Kc:=Exit→St→Hp→Prop

def y4w (body:Kc→St→Hp→Prop) (ms:List Nat) (l:Lp) (K:Kc) (st:St) (H:Hp):Prop :=
  match y51 l st with
  | some v0=>∃ (I:Cur (Hp→Prop) l.leaves) (m:Cur (Hp→Nat) l.leaves),
      (match z6i l.leaves I v0 with
       | some p=>p H
       | none=>False) ∧
      z5a l.leaves fun vs=>∀ H,(match z6i l.leaves I vs with
        | some p=>p H
        | none=>False) →
        body (fun e st' H'=>match e with
          | .normal=>match y51 l st' with
            | some vs'=>match z6i l.leaves I vs',z6i l.leaves m vs',z6i l.leaves m vs with
              | some p,some n',some n=>p H'∧n' H'<n H
              | _,_,_=>False
            | none=>False
          | e=>K e st' H') (zyc ms l st vs) H
  | none=>False

def yj9 (pr:z1i) (j:Nat):Bool :=
 match pr j with
 | none=>true
 | some _=>false

theorem yja {pr:z1i} {j:Nat} (h:yj9 pr j=true):pr j=none:=by
 unfold yj9 at h
 cases hj:pr j with
 | none=>rfl
 | some y=>rw [hj] at h; cases h

def vc (C:Cfg):Code→Kc→St→Hp→Prop
 | .skip,K,st,H=>K .normal st H
 | .region id ops draw,K,st,H=>match draw with
  | false=>y4d C false ops (List.range ops.size) (K .normal) st H
  | true=>zp9 C id ops (K .normal) st H
 | .seq a b,K,st,H=>vc C a (fun e st H=>match e with
  | .normal=>vc C b K st H
  | e=>K e st H) st H
 | .cond c a b,K,st,H=>match st.env.ev [] c with
  | some (.lit (.bool x))=>(x=true→vc C a K st H)∧(x=false→vc C b K st H)
  | _=>False
 | .block id b,K,st,H=>vc C b (fun e st H=>match e with
  | .exit k=>match Nat.beq k id with
   | true=>K .normal st H
   | false=>K (.exit k) st H
  | e=>K e st H) st H
 | .loop b,K,st,H=>match ztx b,mod C b none with
  | some id,some (ms,ps)=>match (ps.all fun j=>y61 j ((C.lp id).2.map (·.1))||yj9 st.priv j)&&((C.lp id).1.all fun x=>y61 x.1 ms)&&((C.lp id).2.all fun x=>y61 x.1 ps) with
   | true=>y4w (vc C b) ms (C.lp id) K st H
   | false=>False
  | some _,none=>vc C b (fun e st' H'=>match e with
   | .normal=>False
   | e=>K e st' H') st H
  | none,_=>False
 | .exit id,K,st,H=>K (.exit id) st H
 | .ret,K,st,H=>K .ret st H
 | _,_,_,_=>False

end Go.Eng
end
section
/- The engine,part P: what code leaves as it was. Conditions: none. -/
namespace Go.Eng

structure z0u (ms ps:List Nat) (st st':St):Prop where
 env:∀ t g v,y61 t ms=false→(∀ p∈g,y61 p.1 ms=false)→st.env t=some (g,v)→st'.env t=some (g,v)
 priv:∀ j,y61 j ps=false→st.priv j≠none→st'.priv j=st.priv j
 typ:∀ j cs T,st.priv j=some (cs,T)→∃ cs',st'.priv j=some (cs',T)

theorem y62 {d:Nat} {a b:List Nat}:y61 d (a++b)=(y61 d a||y61 d b):=by
 induction a with
 | nil=>rfl
 | cons x a ih=>simp only [List.cons_append,y61,ih,Bool.or_assoc]

theorem z0u.refl (ms ps:List Nat) (st:St):z0u ms ps st st:=⟨fun _ _ _ _ _ h=>h,fun _ _ _=>rfl,fun _ cs _ h=>⟨cs,h⟩⟩

theorem z0u.up {ms ps ms' ps':List Nat} {st st':St} (h:z0u ms ps st st') (h1:∀ t,y61 t ms'=false→y61 t ms=false) (h2:∀ t,y61 t ps'=false→y61 t ps=false):z0u ms' ps' st st' :=
 ⟨fun t g v a b c=>h.env t g v (h1 t a) (fun p hp=>h1 _ (b p hp)) c,fun j a b=>h.priv j (h2 j a) b,h.typ⟩

theorem z0u.trans {ms ps ms' ps':List Nat} {st st1 st':St} (h:z0u ms ps st st1) (h':z0u ms' ps' st1 st'):z0u (ms++ms') (ps++ps') st st':=by
 refine ⟨fun t g v a b c=>?_,fun j a b=>?_,fun j cs T hj=>?_⟩
 ·simp only [y62,Bool.or_eq_false_iff] at a b
  exact h'.env t g v a.2 (fun p hp=>(b p hp).2) (h.env t g v a.1 (fun p hp=>(b p hp).1) c)
 ·simp only [y62,Bool.or_eq_false_iff] at a
  have e:=h.priv j a.1 b
  rw [h'.priv j a.2 (by rw [e]; exact b),e]
 ·obtain ⟨c1,h1⟩:=h.typ j cs T hj
  exact h'.typ j c1 T h1

section
variable {P:Program} {draw:Bool} {K K':Kop} {pr:z1i} {H:Hp}

theorem yzi {nf:NF} (h:nf.vc P draw K pr H) (hk:∀ s p H',K s p H'→K' s p H'):nf.vc P draw K' pr H:=by
 cases nf with
 | bad=>exact h
 | pu ob x=>exact yay h (hk _ _ _)
 | px ls ob x=>exact zr2 h fun vs h'=>⟨h'.1,hk _ _ _ h'.2⟩
 | rd ls ob x=>exact zr2 h fun vs h'=>⟨h'.1,hk _ _ _ h'.2⟩
 | ow f =>
  simp only [NF.vc] at h ⊢
  cases hf:f pr with
  | none=>simp [hf] at h
  | some y=>simp only [hf] at h ⊢; exact hk _ _ _ h
 | al c x ob=>exact yay h fun h' b H1 hb e=>hk _ _ _ (h' b H1 hb e)
 | ag gb x ob=>exact ⟨fun e b H1 hb e'=>hk _ _ _ (h.1 e b H1 hb e'),fun e=>hk _ _ _ (h.2 e)⟩
 | cf g0 f args sh=>exact Fn.mono h fun v H' hq=>yay hq fun hq=>zr2 hq fun vs hq=>⟨hq.1,hk _ _ _ hq.2⟩
 | cg gb g0 f args sh=>exact ⟨fun e=>Fn.mono (h.1 e) fun v H' hq=>yay hq fun hq=>zr2 hq fun vs hq=>⟨hq.1,hk _ _ _ hq.2⟩,fun e=>hk _ _ _ (h.2 e)⟩
 | ce f args sh=>exact Fn.mono h fun v H' hq=>zr2 hq fun vs hq=>⟨hq.1,hk _ _ _ hq.2⟩
 | cy l args sh=>exact FnY.mono h fun v H' hq=>zr2 hq fun vs hq=>⟨hq.1,hk _ _ _ hq.2⟩
 | cv F args sh =>
  obtain ⟨f,first,cap,hF,hc,h⟩:=h
  exact ⟨f,first,cap,hF,hc,Fn.mono h fun v H' hq=>yay hq fun hq=>zr2 hq fun vs hq=>⟨hq.1,hk _ _ _ hq.2⟩⟩
 | ef s sh =>
  intro w hv
  obtain ⟨v,w',H',hr,ht,hq⟩:=h w hv
  exact ⟨v,w',H',hr,ht,zr2 hq fun vs hq=>⟨hq.1,hk _ _ _ hq.2⟩⟩
 | st ad vs=>exact ⟨h.1,fun H1 e=>hk _ _ _ (h.2 H1 e)⟩

def NFP (ps:List Nat):NF→Prop
 | .ow f=>∀ pr x pr',f pr=some (x,pr')→(∀ j,y61 j ps=false→pr j≠none→pr' j=pr j)∧∀ j cs T,pr j=some (cs,T)→∃ cs',pr' j=some (cs',T)
 | _=>True

theorem yzk {nf:NF} {ps:List Nat} (hp:NFP ps nf) (h:nf.vc P draw K pr H) :
  nf.vc P draw (fun s p H'=>((∀ j,y61 j ps=false→pr j≠none→p j=pr j)∧∀ j cs T,pr j=some (cs,T)→∃ cs',p j=some (cs',T))∧K s p H') pr H:=by
 have same:(∀ j,y61 j ps=false→pr j≠none→pr j=pr j)∧∀ j cs T,pr j=some (cs,T)→∃ cs',pr j=some (cs',T):=⟨fun _ _ _=>rfl,fun j cs T h=>⟨cs,h⟩⟩
 cases nf with
 | bad=>exact h
 | pu ob x=>exact yay h fun h=>⟨same,h⟩
 | px ls ob x=>exact zr2 h fun vs h'=>⟨h'.1,same,h'.2⟩
 | rd ls ob x=>exact zr2 h fun vs h'=>⟨h'.1,same,h'.2⟩
 | ow f =>
  simp only [NF.vc] at h ⊢
  cases hf:f pr with
  | none=>simp [hf] at h
  | some y=>simp only [hf] at h ⊢; exact ⟨hp pr _ _ hf,h⟩
 | al c x ob=>exact yay h fun h' b H1 hb e=>⟨same,h' b H1 hb e⟩
 | ag gb x ob=>exact ⟨fun e b H1 hb e'=>⟨same,h.1 e b H1 hb e'⟩,fun e=>⟨same,h.2 e⟩⟩
 | cf g0 f args sh=>exact Fn.mono h fun v H' hq=>yay hq fun hq=>zr2 hq fun vs hq=>⟨hq.1,same,hq.2⟩
 | cg gb g0 f args sh=>exact ⟨fun e=>Fn.mono (h.1 e) fun v H' hq=>yay hq fun hq=>zr2 hq fun vs hq=>⟨hq.1,same,hq.2⟩,fun e=>⟨same,h.2 e⟩⟩
 | ce f args sh=>exact Fn.mono h fun v H' hq=>zr2 hq fun vs hq=>⟨hq.1,same,hq.2⟩
 | cy l args sh=>exact FnY.mono h fun v H' hq=>zr2 hq fun vs hq=>⟨hq.1,same,hq.2⟩
 | cv F args sh =>
  obtain ⟨f,first,cap,hF,hc,h⟩:=h
  exact ⟨f,first,cap,hF,hc,Fn.mono h fun v H' hq=>yay hq fun hq=>zr2 hq fun vs hq=>⟨hq.1,same,hq.2⟩⟩
 | ef s sh =>
  intro w hv
  obtain ⟨v,w',H',hr,ht,hq⟩:=h w hv
  exact ⟨v,w',H',hr,ht,zr2 hq fun vs hq=>⟨hq.1,same,hq.2⟩⟩
 | st ad vs=>exact ⟨h.1,fun H1 e=>⟨same,h.2 H1 e⟩⟩

end

theorem y9m {C:Cfg} {env:Env} {g:Gd} {gb:Bool} {t:TypeId} {x:Nat} {ps:List Nat}:NFP ps (y4s C env g gb t x):=by
 unfold y4s
 split
 ·split
  ·intro pr x pr' hf
   dsimp only at hf
   (repeat' split at hf) <;> first | cases hf; exact ⟨fun _ _ _=>rfl,fun j cs T h=>⟨cs,h⟩⟩ | cases hf
  ·trivial
 ·split <;> trivial
 ·trivial

theorem y9p {C:Cfg} {env:Env} {g:Gd} {o:Oper} {t:TypeId} {x:Nat} {y:Operand} (ho:o.op=.store t (.tmp x) y):NFP (ybp C o).2 (yvg C env g t x y):=by
 unfold yvg
 split
 ·rename_i _ j off v hpv hx hy
  simp only [Bool.and_eq_true] at hpv
  split
  ·rename_i hc
   simp only [Bool.and_eq_true,Nat.beq_iff] at hc
   have hps:(ybp C o).2=[j]:=by simp [ybp,ho,hpv.1.1,hc.2]
   rw [hps]
   intro pr z pr' hf
   dsimp only at hf
   cases hj:pr j with
   | none=>simp [hj] at hf
   | some b =>
    obtain ⟨cs,e⟩:=b
    simp only [hj] at hf
    split at hf
    ·cases hf
     refine ⟨fun k hk _=>z1i.set_ne _ _ fun e=>?_,fun k c T hk=>?_⟩
     ·subst e; simp only [y61,Nat.beq_refl,Bool.true_or] at hk; cases hk
     ·by_cases e':k=j
      ·subst e'; rw [hj] at hk; cases hk; exact ⟨_,z1i.set_same _ _ _⟩
      ·rw [z1i.set_ne _ _ e']; exact ⟨c,hk⟩
    ·cases hf
  ·trivial
 ·split <;> trivial
 ·trivial

theorem y9o {P:Program} {env:Env} {g:Gd} {o:Oper} {d:Nat} {ps:List Nat}:NFP ps (yde P env g o d):=by
 unfold yde
 split
 ·split
  ·intro pr x pr' hf
   dsimp only at hf
   cases hd:pr d with
   | some y=>simp [hd] at hf
   | none =>
    simp only [hd,Option.some.injEq,Prod.mk.injEq] at hf
    obtain ⟨rfl,rfl⟩:=hf
    have hne:∀ j,pr j≠none→j≠d:=fun j hj e=>by subst e; exact hj hd
    exact ⟨fun j _ hj=>z1i.set_ne _ _ (hne j hj),fun j cs T hj=>⟨cs,by rw [z1i.set_ne _ _ (hne j (by simp [hj]))]; exact hj⟩⟩
  ·trivial
 ·trivial

theorem y9n {C:Cfg} {env:Env} {g:Gd} {gb:Bool} {o:Oper}:NFP (ybp C o).2 (ybq C env g gb o):=by
 unfold ybq
 (repeat' split) <;> rename_i ho <;> first
  | trivial
  | exact y9m
  | exact y9p ho
  | exact y9o
  | (unfold y79; split <;> trivial)
  | (unfold ya5; (repeat' split) <;> trivial)
  | (unfold yhc; (repeat' split) <;> trivial)
  | (unfold yb2; split <;> trivial)
  | (unfold zno; (repeat' split) <;> trivial)
  | (unfold zzc; (repeat' split) <;> trivial)
  | (unfold yji; (repeat' split) <;> trivial)
  | (unfold y8f; (repeat' split) <;> trivial)
  | (unfold za3; (repeat' split) <;> trivial)
  | (unfold za4; (repeat' split) <;> trivial)

theorem yju {C:Cfg} {o:Oper} {env:Env} {x:Sl} {t:Nat} {g:Gd} {v:V0} (h1:y61 t (ybp C o).1=false) (h2:∀ p∈g,y61 p.1 (ybp C o).1=false) (h:env t=some (g,v)):yjt env o.dst x t=some (g,v):=by
 cases hd:o.dst with
 | none=>exact h
 | some d =>
  have hm:(ybp C o).1=[d]:=by simp [ybp,hd]
  rw [hm] at h1 h2
  have ne:∀ {k:Nat},y61 k [d]=false→k≠d:=fun {k} hk e=>by subst e; simp only [y61,Nat.beq_refl,Bool.true_or] at hk; cases hk
  show env.put d x t=_
  rw [Env.put_ne (ne h1),h]
  simp only
  cases hmm:y6b d g with
  | false=>rfl
  | true =>
   obtain ⟨p,hp,e⟩:=y6c.1 hmm
   exact absurd e (ne (h2 p hp))

theorem yvb {C:Cfg} {draw:Bool} {ops:Array Oper} {i:Nat} {k k':St→Hp→Prop} {st:St} {H:Hp} (h:yv9 C draw ops i k st H) (hk:∀ st H,k st H→k' st H):yv9 C draw ops i k' st H:=by
 unfold yv9 at *
 cases ho:ops[i]? with
 | none=>simp [ho] at h
 | some o =>
  simp only [ho] at h ⊢
  cases hc:zio ops (ops.size+1) o with
  | none=>simp [hc] at h
  | some g =>
   simp only [hc] at h ⊢
   cases hb:st.env.gb g with
   | none=>simp [hb] at h
   | some gb =>
    cases hd:dOk C.n g o.dst with
    | false=>simp [hb,hd] at h
    | true =>
     simp only [hb,hd] at h ⊢
     exact yzi h fun _ _ _ h'=>hk _ _ h'

theorem ycb {C:Cfg} {o:Oper}:∀ {l:List Oper},o∈l→(∀ t,y61 t (yca C l).1=false→y61 t (ybp C o).1=false)∧(∀ t,y61 t (yca C l).2=false→y61 t (ybp C o).2=false)
 | [],h=>by cases h
 | x :: l,h=>by
  simp only [yca,y62,Bool.or_eq_false_iff]
  rcases List.mem_cons.1 h with rfl | h
  ·exact ⟨fun t h=>h.1,fun t h=>h.1⟩
  ·obtain ⟨h1,h2⟩:=ycb h
   exact ⟨fun t h=>h1 t h.2,fun t h=>h2 t h.2⟩

theorem yvc {C:Cfg} {draw:Bool} {ops:Array Oper} {i:Nat} {k:St→Hp→Prop} {st:St} {H:Hp} (h:yv9 C draw ops i k st H) :
  yv9 C draw ops i (fun st' H'=>z0u (yca C ops.toList).1 (yca C ops.toList).2 st st'∧k st' H') st H:=by
 unfold yv9 at *
 cases ho:ops[i]? with
 | none=>simp [ho] at h
 | some o =>
  have hmem:o∈ops.toList:=by simpa using Array.mem_of_getElem? ho
  obtain ⟨hm1,hm2⟩:=ycb (C:=C) hmem
  simp only [ho] at h ⊢
  cases hc:zio ops (ops.size+1) o with
  | none=>simp [hc] at h
  | some g =>
   simp only [hc] at h ⊢
   cases hb:st.env.gb g with
   | none=>simp [hb] at h
   | some gb =>
    cases hd:dOk C.n g o.dst with
    | false=>simp [hb,hd] at h
    | true =>
     simp only [hb,hd] at h ⊢
     refine yzi (yzk y9n h) fun s p H' ⟨⟨h1,h2⟩,h3⟩=>⟨⟨fun t g v a b c=>?_,fun j a b=>h1 j (hm2 j a) b,h2⟩,h3⟩
     exact yju (hm1 t a) (fun p hp=>hm1 _ (b p hp)) c

theorem y4h {C:Cfg} {draw:Bool} {ops:Array Oper} {k k':St→Hp→Prop} (hk:∀ st H,k st H→k' st H):∀ {l:List Nat} {st:St} {H:Hp},y4d C draw ops l k st H→y4d C draw ops l k' st H
 | [],_,_,h=>hk _ _ h
 | _ :: _,_,_,h=>yvb h fun _ _ h'=>y4h hk h'

theorem y4g {C:Cfg} {draw:Bool} {ops:Array Oper} {k:St→Hp→Prop}:∀ {l:List Nat} {st:St} {H:Hp},y4d C draw ops l k st H →
  y4d C draw ops l (fun st' H'=>z0u (yca C ops.toList).1 (yca C ops.toList).2 st st'∧k st' H') st H
 | [],st,_,h=>⟨z0u.refl _ _ st,h⟩
 | i :: l,st,_,h=>yvb (yvc h) fun st1 H1 ⟨hk,h'⟩=>y4h (fun st2 H2 ⟨hk',h''⟩=>⟨(hk.trans hk').up (fun t ht=>by rw [y62,ht]; rfl) (fun t ht=>by rw [y62,ht]; rfl),h''⟩) (y4g h')

theorem z5b:∀ {ls:List z0x} {f f':List Value→Prop},z5a ls f→(∀ vs,f vs→f' vs)→z5a ls f'
 | [],_,_,h,hf=>hf _ h
 | .int _ :: ls,_,_,h,hf=>fun x=>z5b (ls:=ls) (h x) fun _=>hf _
 | .bool :: ls,_,_,h,hf=>fun x=>z5b (ls:=ls) (h x) fun _=>hf _
 | .sl :: ls,_,_,h,hf=>fun x=>z5b (ls:=ls) (h x) fun _=>hf _
 | .ptr :: ls,_,_,h,hf=>fun x=>z5b (ls:=ls) (h x) fun _=>hf _
 | .mp :: ls,_,_,h,hf=>fun x=>z5b (ls:=ls) (h x) fun _=>hf _
 | .val :: ls,_,_,h,hf=>fun x=>z5b (ls:=ls) (h x) fun _=>hf _

theorem zmv {C:Cfg}:∀ (c:Code) {K K':Kc} {st:St} {H:Hp},(∀ e st H,K e st H→K' e st H)→vc C c K st H→vc C c K' st H
 | .skip,_,_,_,_,hk,h=>hk _ _ _ h
 | .ret,_,_,_,_,hk,h=>hk _ _ _ h
 | .exit _,_,_,_,_,hk,h=>hk _ _ _ h
 | .region id ops draw,K,K',st,H,hk,h=>by
  simp only [vc] at h ⊢
  cases draw with
  | false=>exact y4h (hk .normal) h
  | true=>exact zpb (fun l st H h=>y4h (hk .normal) h) (fun l j j' hj st H h=>y4h hj h) h
 | .seq a b,K,K',st,H,hk,h=>by
  simp only [vc] at h ⊢
  refine zmv a (fun e st H h'=>?_) h
  cases e <;> first | exact zmv b hk h' | exact hk _ _ _ h'
 | .cond c a b,K,K',st,H,hk,h=>by
  simp only [vc] at h ⊢
  split at h
  ·exact ⟨fun e=>zmv a hk (h.1 e),fun e=>zmv b hk (h.2 e)⟩
  ·exact h.elim
 | .block id b,K,K',st,H,hk,h=>by
  simp only [vc] at h ⊢
  refine zmv b (fun e st H h'=>?_) h
  cases e with
  | exit k =>
   simp only at h' ⊢
   cases hb:Nat.beq k id with
   | true=>simp only [hb] at h' ⊢; exact hk _ _ _ h'
   | false=>simp only [hb] at h' ⊢; exact hk _ _ _ h'
  | _=>exact hk _ _ _ h'
 | .loop b,K,K',st,H,hk,h=>by
  simp only [vc] at h ⊢
  cases hf:ztx b with
  | none=>simp [hf] at h
  | some id =>
   cases hm:mod C b none with
   | none =>
    rw [hf,hm] at h
    refine zmv b (fun e st' H' h'=>?_) h
    cases e <;> first | exact h' | exact hk _ _ _ h'
   | some mp =>
    obtain ⟨ms,ps⟩:=mp
    rw [hf,hm] at h
    dsimp only at h ⊢
    split at h
    ·unfold y4w at h ⊢
     cases hl:y51 (C.lp id) st with
     | none=>simp [hl] at h
     | some v0 =>
      simp only [hl] at h ⊢
      obtain ⟨I,m,h0,h1⟩:=h
      refine ⟨I,m,h0,z5b h1 fun vs h2 H hI=>zmv b (fun e st' H' h'=>?_) (h2 H hI)⟩
      cases e <;> first | exact h' | exact hk _ _ _ h'
    ·exact h.elim
 | .rangeFunc ..,_,_,_,_,_,h=>h
 | .scope _,_,_,_,_,_,h=>h
 | .label _,_,_,_,_,_,h=>h
 | .goto _,_,_,_,_,_,h=>h
 | .refuse _,_,_,_,_,_,h=>h

def z0v (C:Cfg) (c:Code) (e:Exit) (st st':St):Prop :=
 match e with
 | .normal=>∃ ms ps,mod C c none=some (ms,ps)∧z0u ms ps st st'
 | .exit k=>∃ ms ps,mod C c (some k)=some (ms,ps)∧z0u ms ps st st'
 | _=>True

theorem z62 {x y:Md} {ms ps:List Nat} {st st':St} (h:x=some (ms,ps)) (hk:z0u ms ps st st'):∃ ms' ps',Md.alt x y=some (ms',ps')∧z0u ms' ps' st st':=by
 subst h
 cases y with
 | none=>exact ⟨ms,ps,rfl,hk⟩
 | some z =>
  obtain ⟨c,d⟩:=z
  exact ⟨_,_,rfl,hk.up (fun t ht=>by simp only [y62,Bool.or_eq_false_iff] at ht; exact ht.1) (fun t ht=>by simp only [y62,Bool.or_eq_false_iff] at ht; exact ht.1)⟩

theorem z63 {x y:Md} {ms ps:List Nat} {st st':St} (h:y=some (ms,ps)) (hk:z0u ms ps st st'):∃ ms' ps',Md.alt x y=some (ms',ps')∧z0u ms' ps' st st':=by
 subst h
 cases x with
 | none=>exact ⟨ms,ps,rfl,hk⟩
 | some z =>
  obtain ⟨c,d⟩:=z
  exact ⟨_,_,rfl,hk.up (fun t ht=>by simp only [y62,Bool.or_eq_false_iff] at ht; exact ht.2) (fun t ht=>by simp only [y62,Bool.or_eq_false_iff] at ht; exact ht.2)⟩

theorem yr8 {x y:Md} {ms ps ms' ps':List Nat} {st st1 st':St} (h:x=some (ms,ps)) (h':y=some (ms',ps')) (hk:z0u ms ps st st1) (hk':z0u ms' ps' st1 st'):∃ a b,Md.seq x y=some (a,b)∧z0u a b st st':=by
 subst h; subst h'
 exact ⟨_,_,rfl,hk.trans hk'⟩

end Go.Eng
end
section
/- The engine,part Q: code is sound; functions. Conditions: none. -/
namespace Go.Eng

theorem zy7 {ms:List Nat} {base:Env} {t:Nat}:∀ {l:List (Nat × z0x)} {vs:List Value},(∀ x∈l,x.1≠t)→zy6 ms base l vs t=match y61 t ms with
  | true=>none
  | false=>match base t with
   | some (g,v)=>match g.any fun p=>y61 p.1 ms with
    | true=>none
    | false=>some (g,v)
   | none=>none
 | [],_,_=>rfl
 | x :: l,vs,h=>by
  have hb:Nat.beq t x.1=false:=by
   cases hx:Nat.beq t x.1 with
   | false=>rfl
   | true=>exact absurd ((Nat.beq_iff _ _).1 hx).symm (h x (List.mem_cons_self ..))
  simp only [zy6,hb]
  exact zy7 (l:=l) fun y hy=>h y (List.mem_cons_of_mem _ hy)

theorem zy9 {base:z1i} {k:Nat}:∀ {l:List (Nat × List z0x)} {vs:List Value},(∀ x∈l,x.1≠k)→zy8 base l vs k=base k
 | [],_,_=>rfl
 | x :: l,vs,h=>by
  have hb:Nat.beq k x.1=false:=by
   cases hx:Nat.beq k x.1 with
   | false=>rfl
   | true=>exact absurd ((Nat.beq_iff _ _).1 hx).symm (h x (List.mem_cons_self ..))
  simp only [zy8,hb]
  exact zy9 (l:=l) fun y hy=>h y (List.mem_cons_of_mem _ hy)

theorem zyb {base:z1i} {k:Nat} {cs:List Value} {T:TypeId} (hb:base k=some (cs,T)):∀ {l:List (Nat × List z0x)} {vs:List Value},∃ cs',zy8 base l vs k=some (cs',T)
 | [],_=>⟨cs,hb⟩
 | x :: l,vs=>by
  cases hx:Nat.beq k x.1 with
  | false=>simp only [zy8,hx]; exact zyb hb
  | true =>
   have e:=(Nat.beq_iff _ _).1 hx
   simp only [zy8,hx]
   rw [← e,hb]
   exact ⟨_,rfl⟩

theorem zye {ms ps:List Nat} {l:Lp} {st:St} {vs:List Value} (h1:(l.1.all fun x=>y61 x.1 ms)=true) (h2:(l.2.all fun x=>y61 x.1 ps)=true):z0u ms ps st (zyc ms l st vs):=by
 simp only [List.all_eq_true] at h1 h2
 refine ⟨fun t g v a b c=>?_,fun j a b=>?_,fun j cs T hj=>zyb hj⟩
 ·simp only [zyc]
  rw [zy7 fun x hx e=>by have:=h1 x hx; rw [e,a] at this; cases this]
  have hg:(g.any fun p=>y61 p.1 ms)=false:=by
   rw [List.any_eq_false]; intro p hp; rw [b p hp]; simp
  rw [a,c]; simp only [hg]
 ·simp only [zyc]
  exact zy9 fun x hx e=>by have:=h2 x hx; rw [e,a] at this; cases this

theorem zpa {C:Cfg} {id:Nat} {ops:Array Oper} {k:St→Hp→Prop} {st:St} {H:Hp} (h:zp9 C id ops k st H):zp9 C id ops (fun st' H'=>z0u (yca C ops.toList).1 (yca C ops.toList).2 st st'∧k st' H') st H:=by
 unfold zp9 at *
 cases hp1:C.perm id with
 | none=>simp [hp1] at h
 | some l =>
  simp only [hp1] at h ⊢
  cases h2:C.perm2 id with
  | none =>
   simp only [h2] at h ⊢
   cases ho:yh2 C ops l with
   | true=>simp only [ho] at h ⊢; exact y4g h
   | false=>simp [ho] at h
  | some y =>
   have go:∀ {st1:St} {H1:Hp} {m:List Nat},z0u (yca C ops.toList).1 (yca C ops.toList).2 st st1→y4d C true ops m k st1 H1→y4d C true ops m (fun st' H'=>z0u (yca C ops.toList).1 (yca C ops.toList).2 st st'∧k st' H') st1 H1 :=
    fun hk hA=>y4h (fun st2 H2 ⟨hk',h''⟩=>⟨(hk.trans hk').up (fun t ht=>by rw [y62,ht]; rfl) (fun t ht=>by rw [y62,ht]; rfl),h''⟩) (y4g hA)
   obtain ⟨n,b⟩:=y
   cases b with
   | false =>
    simp only [h2] at h ⊢
    cases hq:yh3 C ops l n with
    | false=>simp [hq] at h
    | true =>
     simp only [hq] at h ⊢
     unfold yye at *
     split at h
     ·rename_i x d post hd
      exact y4h (fun st1 H1 ⟨hk,hA,hB⟩=>⟨go hk hA,go hk hB⟩) (y4g h)
     ·exact h.elim
   | true =>
    simp only [h2] at h ⊢
    cases hq:yh4 C ops l n with
    | false=>simp [hq] at h
    | true =>
     simp only [hq] at h ⊢
     unfold yxe at *
     split at h
     ·rename_i x m d post hd
      refine y4h (fun st1 H1 ⟨hk,hA,hB⟩=>⟨go hk hA,?_⟩) (y4g h)
      exact y4h (fun st2 H2 ⟨hk',hA,hB⟩ =>
       have hk2:=(hk.trans hk').up (ms':=(yca C ops.toList).1) (ps':=(yca C ops.toList).2) (fun t ht=>by rw [y62,ht]; rfl) (fun t ht=>by rw [y62,ht]; rfl)
       ⟨go hk2 hA,go hk2 hB⟩) (y4g hB)
     ·exact h.elim

theorem zmu {C:Cfg}:∀ (c:Code) {K:Kc} {st:St} {H:Hp},vc C c K st H→vc C c (fun e st' H'=>z0v C c e st st'∧K e st' H') st H
 | .skip,_,st,_,h=>⟨⟨_,_,rfl,z0u.refl _ _ st⟩,h⟩
 | .ret,_,_,_,h=>⟨trivial,h⟩
 | .exit id,_,st,_,h=>⟨⟨[],[],by simp [mod,Nat.beq_refl],z0u.refl _ _ st⟩,h⟩
 | .region id ops draw,K,st,H,h=>by
  simp only [vc] at h ⊢
  have key:∀ (dr:Bool) (l:List Nat),y4d C dr ops l (K .normal) st H→y4d C dr ops l (fun st' H'=>z0v C (.region id ops draw) .normal st st'∧K .normal st' H') st H :=
   fun dr l h=>y4h (fun st' H' ⟨hk,h'⟩=>⟨⟨_,_,rfl,hk⟩,h'⟩) (y4g h)
  cases draw with
  | false=>exact key _ _ h
  | true=>exact zpb (fun l st H h=>y4h (fun _ _ h=>h) h) (fun l j j' hj st H h=>y4h hj h) (zpb (fun l st1 H1 h1=>y4h (fun st' H' h'=>⟨⟨_,_,rfl,h'.1⟩,h'.2⟩) h1) (fun l j j' hj st H h=>y4h hj h) (zpa h))
 | .seq a b,K,st,H,h=>by
  simp only [vc] at h ⊢
  refine zmv a (fun e st1 H1 h'=>?_) (zmu a h)
  obtain ⟨hk,h'⟩:=h'
  cases e with
  | normal =>
   obtain ⟨ms,ps,hm,hk⟩:=hk
   refine zmv b (fun e st2 H2 h''=>?_) (zmu b h')
   obtain ⟨hk',h''⟩:=h''
   refine ⟨?_,h''⟩
   cases e with
   | normal=>obtain ⟨ms',ps',hm',hk'⟩:=hk'; exact yr8 hm hm' hk hk'
   | exit k =>
    obtain ⟨ms',ps',hm',hk'⟩:=hk'
    obtain ⟨x,y,h1,h2⟩:=yr8 hm hm' hk hk'
    exact z63 h1 h2
   | _=>trivial
  | exit k =>
   obtain ⟨ms,ps,hm,hk⟩:=hk
   exact ⟨z62 hm hk,h'⟩
  | _=>exact ⟨trivial,h'⟩
 | .cond c a b,K,st,H,h=>by
  simp only [vc] at h ⊢
  split at h
  ·refine ⟨fun e=>?_,fun e=>?_⟩
   ·refine zmv a (fun e st1 H1 h'=>⟨?_,h'.2⟩) (zmu a (h.1 e))
    cases e with
    | normal=>obtain ⟨ms,ps,hm,hk⟩:=h'.1; exact z62 hm hk
    | exit k=>obtain ⟨ms,ps,hm,hk⟩:=h'.1; exact z62 hm hk
    | _=>trivial
   ·refine zmv b (fun e st1 H1 h'=>⟨?_,h'.2⟩) (zmu b (h.2 e))
    cases e with
    | normal=>obtain ⟨ms,ps,hm,hk⟩:=h'.1; exact z63 hm hk
    | exit k=>obtain ⟨ms,ps,hm,hk⟩:=h'.1; exact z63 hm hk
    | _=>trivial
  ·exact h.elim
 | .block id b,K,st,H,h=>by
  simp only [vc] at h ⊢
  refine zmv b (fun e st1 H1 h'=>?_) (zmu b h)
  obtain ⟨hk,h'⟩:=h'
  cases e with
  | normal=>obtain ⟨ms,ps,hm,hk⟩:=hk; exact ⟨z62 hm hk,h'⟩
  | exit k =>
   obtain ⟨ms,ps,hm,hk⟩:=hk
   simp only at h' ⊢
   cases hb:Nat.beq k id with
   | true =>
    simp only [hb] at h' ⊢
    have e:=(Nat.beq_iff _ _).1 hb
    subst e
    exact ⟨z63 hm hk,h'⟩
   | false =>
    simp only [hb] at h' ⊢
    refine ⟨⟨ms,ps,?_,hk⟩,h'⟩
    have:Nat.beq id k=false:=by
     cases hx:Nat.beq id k with
     | false=>rfl
     | true=>rw [(Nat.beq_iff _ _).1 hx,Nat.beq_refl] at hb; cases hb
    simp only [mod,this]; exact hm
  | _=>exact ⟨trivial,h'⟩
 | .loop b,K,st,H,h=>by
  simp only [vc] at h ⊢
  cases hf:ztx b with
  | none=>simp [hf] at h
  | some id =>
   cases hm:mod C b none with
   | none =>
    rw [hf,hm] at h
    refine zmv b (fun e st1 H1 h'=>?_) (zmu b h)
    obtain ⟨hk,h'⟩:=h'
    cases e with
    | normal=>exact h'
    | exit k=>obtain ⟨ms,ps,hm',hk⟩:=hk; exact ⟨z62 hm' hk,h'⟩
    | _=>exact ⟨trivial,h'⟩
   | some mp =>
    obtain ⟨ms,ps⟩:=mp
    rw [hf,hm] at h
    dsimp only at h ⊢
    split at h
    ·rename_i hps
     simp only [Bool.and_eq_true] at hps
     unfold y4w at h ⊢
     cases hl:y51 (C.lp id) st with
     | none=>simp [hl] at h
     | some v0 =>
      simp only [hl] at h ⊢
      obtain ⟨I,m,h0,h1⟩:=h
      refine ⟨I,m,h0,z5b h1 fun vs h2 H hI=>zmv b (fun e st1 H1 h'=>?_) (zmu b (h2 H hI))⟩
      obtain ⟨hk,h'⟩:=h'
      cases e with
      | normal=>exact h'
      | exit k =>
       obtain ⟨ms',ps',hm',hk⟩:=hk
       obtain ⟨x,y,e1,e2⟩:=yr8 hm hm' (zye hps.1.2 hps.2) hk
       exact ⟨z63 e1 e2,h'⟩
      | _=>exact ⟨trivial,h'⟩
    ·exact h.elim
 | .rangeFunc ..,_,_,_,h=>h.elim
 | .scope _,_,_,_,h=>h.elim
 | .label _,_,_,_,h=>h.elim
 | .goto _,_,_,_,h=>h.elim
 | .refuse _,_,_,_,h=>h.elim

end Go.Eng
end
section
/- The engine,part R: code is sound; a function out of its conditions. Conditions: none. -/
namespace Go.Eng

theorem z6k {R:Type}:∀ {ls:List z0x} {r:Cur R ls} {vs:List Value} {x:R},z6i ls r vs=some x→∀ f,z5a ls f→f vs
 | [],_,[],_,_,f,h=>h
 | [],_,_ :: _,_,h,_,_=>by simp [z6i] at h
 | .int k :: ls,r,vs,x,h,f,hf=>by
  cases vs with
  | nil=>simp [z6i] at h
  | cons v vs =>
   cases v with
   | int k' n =>
    simp only [z6i] at h
    split at h
    ·rename_i hk
     have:=of_decide_eq_true hk
     subst this
     exact z6k h _ (hf n)
    ·cases h
   | _=>simp [z6i] at h
 | .bool :: ls,r,vs,x,h,f,hf=>by
  cases vs with
  | nil=>simp [z6i] at h
  | cons v vs =>
   cases v with
   | bool b=>simp only [z6i] at h; exact z6k h _ (hf b)
   | _=>simp [z6i] at h
 | .sl :: ls,r,vs,x,h,f,hf=>by
  cases vs with
  | nil=>simp [z6i] at h
  | cons v vs =>
   cases v with
   | slice a n c=>simp only [z6i] at h; exact z6k h _ (hf ⟨a,n,c⟩)
   | _=>simp [z6i] at h
 | .ptr :: ls,r,vs,x,h,f,hf=>by
  cases vs with
  | nil=>simp [z6i] at h
  | cons v vs =>
   cases v with
   | pointer a =>
    cases a with
    | none=>simp [z6i] at h
    | some a=>simp only [z6i] at h; exact z6k h _ (hf a)
   | _=>simp [z6i] at h
 | .mp :: ls,r,vs,x,h,f,hf=>by
  cases vs with
  | nil=>simp [z6i] at h
  | cons v vs =>
   cases v with
   | map r=>simp only [z6i] at h; exact z6k h _ (hf r)
   | _=>simp [z6i] at h
 | .val :: ls,r,vs,x,h,f,hf=>by
  cases vs with
  | nil=>simp [z6i] at h
  | cons v vs=>simp only [z6i] at h; exact z6k h _ (hf v)

theorem z6j {R S:Type}:∀ {ls:List z0x} {r:Cur R ls} {s:Cur S ls} {vs:List Value} {x:R},z6i ls r vs=some x→∃ y,z6i ls s vs=some y
 | [],_,s,[],_,_=>⟨s,rfl⟩
 | [],_,_,_ :: _,_,h=>by simp [z6i] at h
 | .int k :: ls,r,s,vs,x,h=>by
  cases vs with
  | nil=>simp [z6i] at h
  | cons v vs =>
   cases v with
   | int k' n =>
    simp only [z6i] at h ⊢
    split at h
    ·exact z6j h
    ·cases h
   | _=>simp [z6i] at h
 | .bool :: ls,r,s,vs,x,h=>by
  cases vs with
  | nil=>simp [z6i] at h
  | cons v vs =>
   cases v with
   | bool b=>simp only [z6i] at h ⊢; exact z6j h
   | _=>simp [z6i] at h
 | .sl :: ls,r,s,vs,x,h=>by
  cases vs with
  | nil=>simp [z6i] at h
  | cons v vs =>
   cases v with
   | slice a n c=>simp only [z6i] at h ⊢; exact z6j h
   | _=>simp [z6i] at h
 | .ptr :: ls,r,s,vs,x,h=>by
  cases vs with
  | nil=>simp [z6i] at h
  | cons v vs =>
   cases v with
   | pointer a =>
    cases a with
    | none=>simp [z6i] at h
    | some a=>simp only [z6i] at h ⊢; exact z6j h
   | _=>simp [z6i] at h
 | .mp :: ls,r,s,vs,x,h=>by
  cases vs with
  | nil=>simp [z6i] at h
  | cons v vs =>
   cases v with
   | map r=>simp only [z6i] at h ⊢; exact z6j h
   | _=>simp [z6i] at h
 | .val :: ls,r,s,vs,x,h=>by
  cases vs with
  | nil=>simp [z6i] at h
  | cons v vs=>simp only [z6i] at h ⊢; exact z6j h

structure z26 (st' st:St):Prop where
 env:∀ t e,st.env t=some e→st'.env t=some e
 priv:∀ j b,st.priv j=some b→st'.priv j=some b
 known:∀ t g v,st.env t=some (g,v)→v.known st.priv

theorem Sim.weak {n:Nat} {ds:List Nat} {w0 w:World} {H0 H:Hp} {st st':St} {a:Act} (h:Sim n ds w0 H0 st' H a w) (hw:z26 st' st):Sim n ds w0 H0 st H a w:=by
 obtain ⟨ids,hE,hP,hT⟩:=h
 have hn:∀ j,st.priv j≠none→st'.priv j≠none:=fun j hj=>by
  cases hx:st.priv j with
  | none=>exact absurd hx hj
  | some b=>rw [hw.priv j b hx]; simp
 exact ⟨ids,⟨hE.size,hE.defers,fun t g v ht=>hE.ok t g v (hw.env t _ ht),fun t g v ht=>hE.no t g v (hw.env t _ ht),hw.known⟩,
  ⟨fun j cs t hj=>hP.blk j cs t (hw.priv j _ hj),fun j hj=>hP.hid j (hn j hj),fun j hj=>hP.low j (hn j hj),fun j k hj hk=>hP.inj j k (hn j hj) (hn k hk),hP.dfs⟩,hT⟩

theorem zyd {ms:List Nat} {base env':Env} (hb:∀ t g v,y61 t ms=false→(∀ p∈g,y61 p.1 ms=false)→base t=some (g,v)→env' t=some (g,v)) :
  ∀ {l:List (Nat × z0x)} {vs us:List Value},yte env' l=some vs→∀ t e,zy6 ms base l (vs++us) t=some e→env' t=some e∨∃ x∈l,x.1=t∧env' t=some e
 | [],vs,us,_,t,e,h=>by
  left
  simp only [zy6] at h
  split at h
  ·cases h
  ·rename_i hm
   split at h
   ·rename_i g v hbt
    split at h
    ·cases h
    ·rename_i hg
     cases h
     exact hb t g v hm (fun p hp=>by rw [List.any_eq_false] at hg; simpa using hg p hp) hbt
   ·cases h
 | (s,lf) :: l,vs,us,hv,t,e,h=>by
  simp only [yte] at hv
  split at hv
  ·rename_i v hs
   split at hv
   ·rename_i vs' hv'
    cases hv
    cases hx:Nat.beq t s with
    | true =>
     simp only [zy6,hx,List.cons_append] at h
     cases h
     have:=(Nat.beq_iff _ _).1 hx
     subst this
     exact .inl hs
    | false =>
     simp only [zy6,hx,List.cons_append,List.tail_cons] at h
     rcases zyd hb hv' t e h with h' | ⟨x,hx',h'⟩
     ·exact .inl h'
     ·exact .inl h'.2
   ·cases hv
  ·cases hv

theorem head_priv' {base pr':z1i} (ht:∀ j cs T,base j=some (cs,T)→∃ cs',pr' j=some (cs',T)):∀ {l:List (Nat × List z0x)} {vs us:List Value} {k:Nat} {b:List Value × TypeId},
  yjb pr' l=some vs→((∀ x∈l,x.1≠k)→base k≠none→pr' k=base k)→zy8 base l (vs++us) k=some b→pr' k=some b
 | [],vs,us,k,b,_,hk,h=>by
  simp only [zy8] at h
  rw [hk (by simp) (by simp [h]),h]
 | (j,ls) :: l,vs,us,k,b,hv,hk,h=>by
  simp only [yjb] at hv
  split at hv
  ·rename_i cs T hj
   split at hv
   ·rename_i vs' hlen hv'
    cases hv
    have hlen':cs.length=ls.length:=Nat.eq_of_beq_eq_true hlen
    cases hx:Nat.beq k j with
    | true =>
     have e:=(Nat.beq_iff _ _).1 hx
     subst e
     simp only [zy8,hx] at h
     cases hb:base k with
     | none=>simp [hb] at h
     | some b0 =>
      obtain ⟨c0,T0⟩:=b0
      simp only [hb,Option.some.injEq] at h
      obtain ⟨cs',h2⟩:=ht k c0 T0 hb
      rw [hj] at h2
      cases h2
      rw [hj,← h]
      simp [← hlen']
    | false =>
     simp only [zy8,hx] at h
     have hd:(cs++vs'++us).drop ls.length=vs'++us:=by rw [← hlen',List.append_assoc,List.drop_left]
     rw [hd] at h
     refine head_priv' ht hv' (fun hn=>hk fun x hx'=>?_) h
     rcases List.mem_cons.1 hx' with rfl | hx'
     ·intro e; have e':j=k:=e; rw [e',Nat.beq_refl] at hx; cases hx
     ·exact hn x hx'
   ·cases hv
  ·cases hv

theorem ytf {env:Env}:∀ {l:List (Nat × z0x)} {vs:List Value},yte env l=some vs→vs.length=l.length
 | [],vs,h=>by cases h; rfl
 | (s,lf) :: l,vs,h=>by
  simp only [yte] at h
  split at h
  ·split at h
   ·rename_i hv; cases h; simp [ytf hv]
   ·cases h
  ·cases h

theorem yzt {ms ps:List Nat} {l:Lp} {st st':St} {vs:List Value} (hv:y51 l st'=some vs) (hps:∀ j,y61 j ps=true→st.priv j≠none→∃ x∈l.2,x.1=j) (hkn:∀ t g v,st.env t=some (g,v)→v.known st.priv)
  (he:∀ t g v,y61 t ms=false→(∀ p∈g,y61 p.1 ms=false)→st.env t=some (g,v)→st'.env t=some (g,v)) (hp:∀ j,y61 j ps=false→st.priv j≠none→(∀ x∈l.2,x.1≠j)→st'.priv j=st.priv j)
  (ht:∀ j cs T,st.priv j=some (cs,T)→∃ cs',st'.priv j=some (cs',T)):z26 st' (zyc ms l st vs):=by
 unfold y51 at hv
 split at hv
 ·rename_i v1 v2 h1 h2
  cases hv
  have hlen:=ytf h1
  refine ⟨fun t e h=>?_,fun j b h=>?_,fun t g v h=>?_⟩
  ·rcases zyd he h1 t e h with h | ⟨_,_,_,h⟩ <;> exact h
  ·simp only [zyc] at h
   have hd:(v1++v2).drop l.1.length=v2++[]:=by rw [← hlen,List.drop_left]; simp
   rw [hd] at h
   refine head_priv' ht h2 (fun hn hb=>?_) h
   refine hp j ?_ hb hn
   cases hm:y61 j ps with
   | false=>rfl
   | true=>obtain ⟨x,hx,e⟩:=hps j hm hb; exact absurd e (hn x hx)
  · -- what is known of the pointers
   cases v with
   | lit v=>trivial
   | ptr j o =>
    have key:∀ (l1:List (Nat × z0x)) (vs:List Value),zy6 ms st.env l1 vs t=some (g,.ptr j o)→st.env t=some (g,.ptr j o):=by
     intro l1
     induction l1 with
     | nil =>
      intro vs h
      simp only [zy6] at h
      split at h
      ·cases h
      ·split at h
       ·rename_i hbt
        split at h
        ·cases h
        ·cases h; exact hbt
       ·cases h
     | cons x l1 ih =>
      intro vs h
      simp only [zy6] at h
      split at h
      ·split at h <;> cases h
      ·exact ih _ h
    have h3:=hkn t g _ (key _ _ h)
    show (zyc ms l st (v1++v2)).priv j≠none
    intro hn
    cases hb:st.priv j with
    | none=>exact h3 hb
    | some b =>
     obtain ⟨cs,T⟩:=b
     obtain ⟨cs',h4⟩:=zyb hb (l:=l.2) (vs:=(v1++v2).drop l.1.length)
     simp only [zyc] at hn
     rw [h4] at hn; cases hn
 ·cases hv

def Qk (n:Nat) (ds:List Nat) (w0:World) (H0:Hp) (K:Kc):Exit→Act→World→Prop:=fun e a w=>∃ st H,Sim n ds w0 H0 st H a w∧K e st H

theorem x0e {F:Fence} {m:Nat} {P:Program} {Q:Exit→Act→World→Prop} {a:Act} {w:World} {c:Code} (I:Nat→Act→World→Prop) (n₀:Nat) (h₀:I n₀ a w)
  (round:∀ n a w,I n a w→c.wpIn F m P (Exit.then (fun a' w'=>∃ n',n'<n∧I n' a' w') Q) a w):(Code.loop c).wpIn F m P Q a w:=by
 refine wpIn_loop (fun a w=>∃ n,I n a w) (fun a w=>leastOf (fun n=>I n a w)) ⟨n₀,h₀⟩ ?_
 intro a w hI
 refine wpIn_mono (round _ a w (leastOf_spec hI).1) ?_
 intro e a' w' hq
 cases e with
 | normal =>
  obtain ⟨n',hlt,hI'⟩:=hq
  exact show (∃ n,I n a' w')∧leastOf (fun n=>I n a' w')<leastOf (fun n=>I n a w) from ⟨⟨n',hI'⟩,Nat.lt_of_le_of_lt ((leastOf_spec ⟨n',hI'⟩).2 n' hI') hlt⟩
 | exit id=>exact hq
 | goto l=>exact hq
 | ret=>exact hq
 | panic ch=>exact hq
 | outgrown=>exact hq

theorem zmw {C:Cfg} {ds:List Nat} {ro:Option Nat} {w0:World} {H0:Hp} (hN:z1b C.P) (hM:C.P.follows .mixedOrders=true):∀ (c:Code) {K:Kc} {st:St} {H:Hp} {a:Act} {w:World},
  vc C c K st H→Sim C.n ds w0 H0 st H a w→c.wpIn (Fz ro) 0 C.P (Qk C.n ds w0 H0 K) a w
 | .skip,K,st,H,a,w,h,hs=>wpIn_skip ⟨st,H,hs,h⟩
 | .ret,K,st,H,a,w,h,hs=>wpIn_ret ⟨st,H,hs,h⟩
 | .exit id,K,st,H,a,w,h,hs=>wpIn_exit ⟨st,H,hs,h⟩
 | .region id ops draw,K,st,H,a,w,h,hs=>by
  simp only [vc] at h
  cases draw with
  | false=>exact wpIn_region (y4i hN (fun a w h=>h) _ st H a w h hs)
  | true=>exact zpc hN hM (fun a w h=>h) h hs
 | .seq x y,K,st,H,a,w,h,hs=>by
  simp only [vc] at h
  refine wpIn_seq (wpIn_mono (zmw hN hM x h hs) fun e a w hq=>?_)
  obtain ⟨st',H',hs',h'⟩:=hq
  cases e with
  | normal=>exact zmw hN hM y h' hs'
  | _=>exact ⟨st',H',hs',h'⟩
 | .cond c x y,K,st,H,a,w,h,hs=>by
  simp only [vc] at h
  split at h
  ·rename_i b hb
   have e:a.eval c=.bool b:=by
    obtain ⟨ids,hE,_,_⟩:=hs
    exact hE.ev (g:=[]) (by simp [gH]) hb
   refine wpIn_cond e ?_
   cases b with
   | true=>exact zmw hN hM x (h.1 rfl) hs
   | false=>exact zmw hN hM y (h.2 rfl) hs
  ·exact h.elim
 | .block id b,K,st,H,a,w,h,hs=>by
  simp only [vc] at h
  refine wpIn_block (wpIn_mono (zmw hN hM b h hs) fun e a w hq=>?_)
  obtain ⟨st',H',hs',h'⟩:=hq
  cases e with
  | exit k =>
   simp only [Exit.inBlock]
   by_cases hk:k=id
   ·subst hk
    rw [if_pos rfl]
    simp only [Nat.beq_refl] at h'
    exact ⟨st',H',hs',h'⟩
   ·rw [if_neg hk]
    have:Nat.beq k id=false:=by
     cases hx:Nat.beq k id with
     | false=>rfl
     | true=>exact absurd ((Nat.beq_iff _ _).1 hx) hk
    simp only [this] at h'
    exact ⟨st',H',hs',h'⟩
  | _=>exact ⟨st',H',hs',h'⟩
 | .loop b,K,st,H,a,w,h,hs=>by
  simp only [vc] at h
  cases hf:ztx b with
  | none=>simp [hf] at h
  | some id =>
   cases hm:mod C b none with
   | none =>
    rw [hf,hm] at h
    refine x0e (fun _ a' w'=>a'=a∧w'=w) 0 ⟨rfl,rfl⟩ fun n a' w' ⟨ha,hw⟩=>?_
    subst ha; subst hw
    refine wpIn_mono (zmw hN hM b h hs) fun e a w hq=>?_
    obtain ⟨st',H',hs',h'⟩:=hq
    cases e with
    | normal=>exact h'.elim
    | _=>exact ⟨st',H',hs',h'⟩
   | some mp =>
    obtain ⟨ms,ps⟩:=mp
    rw [hf,hm] at h
    dsimp only at h
    split at h
    ·rename_i hps
     simp only [Bool.and_eq_true,List.all_eq_true] at hps
     obtain ⟨⟨hps,hl1⟩,hl2⟩:=hps
     have hps':∀ j,y61 j ps=true→st.priv j≠none→∃ x∈(C.lp id).2,x.1=j:=fun j hj hn=>by
      rcases Bool.or_eq_true _ _ ▸ hps j (y63.1 hj) with this | this
      ·obtain ⟨x,hx,e⟩:=List.mem_map.1 (y63.1 this)
       exact ⟨x,hx,e⟩
      ·exact absurd (yja this) hn
     unfold y4w at h
     cases hl:y51 (C.lp id) st with
     | none=>simp [hl] at h
     | some v0 =>
      simp only [hl] at h
      obtain ⟨I,m,h0,h1⟩:=h
      have hkn:∀ t g v,st.env t=some (g,v)→v.known st.priv:=by obtain ⟨ids,hE,_,_⟩:=hs; exact hE.known
      -- the relation that is handed on
      cases ha0:z6i (Lp.leaves (C.lp id)) I v0 with
      | none=>simp [ha0] at h0
      | some p0 =>
       simp only [ha0] at h0
       have hm0:∀ vs (p:Hp→Prop),z6i (Lp.leaves (C.lp id)) I vs=some p→∃ f,z6i (Lp.leaves (C.lp id)) m vs=some f:=by
        intro vs p hp; exact z6j hp
       obtain ⟨f0,hf0⟩:=hm0 v0 p0 ha0
       refine x0e (fun k a' w'=>∃ vs H' p f,z6i (Lp.leaves (C.lp id)) I vs=some p∧p H'∧z6i (Lp.leaves (C.lp id)) m vs=some f∧f H'=k∧Sim C.n ds w0 H0 (zyc ms (C.lp id) st vs) H' a' w') (f0 H)
        ⟨v0,H,p0,f0,ha0,h0,hf0,rfl,hs.weak (yzt hl hps' hkn (fun _ _ _ _ _ h=>h) (fun _ _ _ _=>rfl) (fun j cs T h=>⟨cs,h⟩))⟩ ?_
       intro k a1 w1 hJ
       obtain ⟨vs,H1,p,f,hp,hpH,hf1,hk,hs1⟩:=hJ
       have h2:=z6k hp _ h1 H1 (by rw [hp]; exact hpH)
       refine wpIn_mono (zmw hN hM b (zmu b h2) hs1) fun e a2 w2 hq=>?_
       obtain ⟨st2,H2,hs2,hkeep,h'⟩:=hq
       cases e with
       | normal =>
        obtain ⟨ms',ps',hm',hke⟩:=hkeep
        rw [hm] at hm'
        cases hm'
        simp only at h'
        cases hl':y51 (C.lp id) st2 with
        | none=>simp [hl'] at h'
        | some vs' =>
         simp only [hl'] at h'
         cases hp':z6i (Lp.leaves (C.lp id)) I vs' with
         | none=>simp [hp'] at h'
         | some p' =>
          cases hf':z6i (Lp.leaves (C.lp id)) m vs' with
          | none=>simp [hp',hf'] at h'
          | some f' =>
           simp only [hp',hf',hf1] at h'
           refine ⟨f' H2,by rw [← hk]; exact h'.2,vs',H2,p',f',hp',h'.1,hf',rfl,hs2.weak (yzt hl' hps' hkn (fun t g v hm1 hm2 hb=>?_) (fun j hm1 hb hn=>?_) (fun j cs T hj=>?_))⟩
           ·by_cases hc:∃ x∈(C.lp id).1,x.1=t
            ·obtain ⟨x,hx,e⟩:=hc
             have:=hl1 x hx
             rw [e,hm1] at this; cases this
            ·refine hke.env t g v hm1 hm2 ?_
             simp only [zyc]
             rw [zy7 fun x hx e=>hc ⟨x,hx,e⟩]
             have hg:(g.any fun p=>y61 p.1 ms)=false:=by
              rw [List.any_eq_false]; intro p hp; rw [hm2 p hp]; simp
             rw [hm1,hb]; simp only [hg]
           ·have e1:(zyc ms (C.lp id) st vs).priv j=st.priv j:=zy9 hn
            rw [hke.priv j hm1 (by rw [e1]; exact hb),e1]
           ·obtain ⟨cs1,h3⟩:=zyb hj (l:=(C.lp id).2) (vs:=vs.drop (C.lp id).1.length)
            exact hke.typ j cs1 T h3
       | _=>exact ⟨st2,H2,hs2,h'⟩
    ·exact h.elim
 | .rangeFunc ..,_,_,_,_,_,h,_=>h.elim
 | .scope _,_,_,_,_,_,h,_=>h.elim
 | .label _,_,_,_,_,_,h,_=>h.elim
 | .goto _,_,_,_,_,_,h,_=>h.elim
 | .refuse _,_,_,_,_,_,h,_=>h.elim

def ypc (C:Cfg) (st:St):List ResultVar→Option (List Value)
 | []=>some []
 | .tmp t :: rs=>match st.env.ev [] (.tmp t),ypc C st rs with
  | some (.lit v),some vs=>some (v :: vs)
  | _,_=>none
 | .cell t ty :: rs=>match st.env.ev [] (.tmp t),ypc C st rs with
  | some (.ptr j off),some vs=>match st.priv j with
   | some (cs,_)=>match Nat.ble (off+C.P.cellsOf ty) cs.length&&(z56 C.P ty||Nat.beq (C.P.cellsOf ty) 1)&&zy4 C.P ty with
    | true=>some (mkV (z56 C.P ty) ((cs.drop off).take (C.P.cellsOf ty)) :: vs)
    | false=>none
   | none=>none
  | _,_=>none

def ypf (C:Cfg) (rs:List ResultVar) (post:Value→Hp→Prop):Kc:=fun e st H=>match e with
 | .normal=>match ypc C st rs with
  | some [v]=>post v H
  | some vs=>post (.tuple vs.toArray) H
  | none=>False
 | .ret=>match ypc C st rs with
  | some [v]=>post v H
  | some vs=>post (.tuple vs.toArray) H
  | none=>False
 | _=>False

def zq2:List Value→Env
 | []=>fun _=>none
 | v :: vs=>fun t=>match t with
  | 0=>some ([],.lit v)
  | t+1=>zq2 vs t

theorem zq3:∀ {vs:List Value} {t:Nat} {e:Gd × V0},zq2 vs t=some e→∃ v,vs[t]?=some v∧e=([],.lit v)
 | [],t,e,h=>by cases h
 | v :: vs,0,e,h=>by cases h; exact ⟨v,rfl,rfl⟩
 | v :: vs,t+1,e,h=>zq3 (vs:=vs) h

end Go.Eng
end
section
/- The engine,part S: a function out of its conditions. Conditions: none. -/
namespace Go.Eng

def ypb (tmps:Array Value):ResultVar→Sem Value
 | .tmp t=>pure (tmps.getD t undef)
 | .cell p t=>do loadVar t (← asAddr (tmps.getD p undef))

theorem ype (fn:Func) (tmps:Array Value):results fn tmps=(do let vs ← fn.results.mapM (ypb tmps); pure (if h:vs.size=1 then vs[0] else .tuple vs)):=by
 unfold results
 congr 1

theorem yq3 {C:Cfg} {ds:List Nat} {st:St} {ids:Nat→Nat} {a:Act} {H:Hp} {w:World} {B:Nat} (hE:z0m C.n ds st.env st.priv ids a) (hP:z1j ds st.priv ids H w B) :
  ∀ {rs:List ResultVar} {vs:List Value},ypc C st rs=some vs →
   (rs.mapM (ypb a.tmps)).run C.P w=.ok vs w
 | [],vs,h=>by cases h; simp
 | .tmp t :: rs,vs,h=>by
  simp only [ypc] at h
  split at h
  ·rename_i v vs' hv hr
   cases h
   have e:a.tmps.getD t undef=v:=hE.ev (g:=[]) (by simp [gH]) hv
   rw [List.mapM_cons,Sem.run_bind]
   simp only [ypb,Sem.run_pure,Result.andThen_ok,Sem.run_bind,e]
   rw [yq3 hE hP hr]; rfl
  ·cases h
 | .cell p t :: rs,vs,h=>by
  simp only [ypc] at h
  split at h
  ·rename_i j off vs' hv hr
   split at h
   ·rename_i cs T hj
    split at h
    ·rename_i hc
     cases h
     simp only [Bool.and_eq_true,Bool.or_eq_true,Nat.beq_iff] at hc
     obtain ⟨⟨hle,h1⟩,hu⟩:=hc
     obtain ⟨u,hu⟩:=zy5 hu
     have hle':off+C.P.cellsOf t≤cs.length:=Nat.le_of_ble_eq_true hle
     have e:a.tmps.getD p undef=.pointer (some ⟨ids j,off,none⟩):=hE.ev (g:=[]) (by simp [gH]) hv
     have hb:=hP.blk j cs T hj
     have hrl:=run_loadVar' (P:=C.P) (w:=w) (t:=t) (p:=⟨ids j,off,none⟩) (vs:=(cs.drop off).take (C.P.cellsOf t)) hu (fun i v h=>by
      rw [z3n]
      rw [List.getElem?_take] at h
      split at h
      ·rw [List.getElem?_drop] at h
       simp [World.cell?,hb,h]
      ·cases h) (by simp; omega) h1
     rw [List.mapM_cons,Sem.run_bind]
     have e1:(ypb a.tmps (.cell p t)).run C.P w=.ok (mkV (z56 C.P t) ((cs.drop off).take (C.P.cellsOf t))) w:=by
      simp only [ypb,Sem.run_bind,e,asAddr,Sem.run_pure,Result.andThen_ok,hrl]
     rw [e1,Result.andThen_ok,Sem.run_bind,yq3 hE hP hr]; rfl
    ·cases h
   ·cases h
  ·cases h

theorem Fn.of_vc {C:Cfg} {f:FuncId} {fn:Func} {c:Code} {args:List Value} {H:Hp} {post:Value→Hp→Prop} (hN:z1b C.P) (hM:C.P.follows .mixedOrders=true)
  (hf:C.P.funcs[f]?=some fn) (hb:fn.body=some c) (hn:fn.ntmps=C.n) (ha:Nat.ble args.length C.n=true)
  (h:vc C c (ypf C fn.results.toList post) ⟨zq2 args,fun _=>none⟩ H):Fn C.P f args.toArray H post:=by
 intro w hv
 have ha':=Nat.le_of_ble_eq_true ha
 refine calls_of_wp hf hb ((wpIn_wide (n:=0)).1 (wpIn_mono (zmw (ds:=[]) (ro:=none) (w0:=w) (H0:=H) hN hM c h ?_) ?_))
 ·refine ⟨fun _=>0,⟨by simp [hn]; omega,rfl,fun t g v ht _=>?_,fun t g v ht hg=>?_,fun t g v ht=>?_⟩,⟨fun _ _ _ h=>(by cases h),fun _ h=>absurd rfl h,fun _ h=>absurd rfl h,fun _ _ h=>absurd rfl h,fun _ h=>(by cases h)⟩,Tr.refl hv⟩
  ·obtain ⟨v',h1,h2⟩:=zq3 ht
   cases h2
   have hlt:t<args.length:=by
    rcases Nat.lt_or_ge t args.length with h | h
    ·exact h
    ·simp [List.getElem?_eq_none h] at h1
   simp only [V0.val]
   rw [Array.getD_eq_getD_getElem?,Array.getElem?_append_left (by simpa using hlt)]
   simp [h1]
  ·obtain ⟨v',h1,h2⟩:=zq3 ht
   cases h2
   exact absurd (by simp [gH]) hg
  ·obtain ⟨v',h1,h2⟩:=zq3 ht
   cases h2
   trivial
 ·intro e a w' hq
  obtain ⟨st,H',⟨ids,hE,hP,hT⟩,hk⟩:=hq
  have fin:(match ypc C st fn.results.toList with
    | some [v]=>post v H'
    | some vs=>post (.tuple vs.toArray) H'
    | none=>False)→a.defers=[]∧∃ v,(results fn a.tmps).run C.P w'=.ok v w'∧∃ v1 H1,Ending.returned v=.returned v1∧Tr w H w' H1∧post v1 H1:=by
   intro hk
   refine ⟨hE.defers,?_⟩
   cases hr:ypc C st fn.results.toList with
   | none=>simp [hr] at hk
   | some vs =>
    rw [hr] at hk
    have hrun:=yq3 (C:=C) hE hP hr
    have hres:(results fn a.tmps).run C.P w'=.ok (if h:vs.toArray.size=1 then vs.toArray[0] else .tuple vs.toArray) w':=by
     rw [ype,Sem.run_bind,Array.mapM_eq_mapM_toList,Sem.run_map,hrun]
     rfl
    refine ⟨_,hres,?_⟩
    refine ⟨_,H',rfl,hT,?_⟩
    split at hk
    ·rename_i v h1; cases h1; simpa using hk
    ·rename_i vs' hne h1
     cases h1
     have:vs.toArray.size≠1:=by
      intro hl
      obtain ⟨v,rfl⟩:=List.length_eq_one_iff.1 (by simpa using hl)
      exact hne v rfl
     rw [dif_neg this]; exact hk
    ·exact hk.elim
  cases e with
  | normal=>exact fin hk
  | ret=>exact fin hk
  | _=>exact hk.elim

end Go.Eng
end
section
/- The engine,part T: the door. Conditions: none. -/
namespace Go.Eng

def z9d (f:Func):Code :=
 match f.body with
 | some c=>c
 | none=>.skip

theorem z9e {f:Func} (h:f.body.isSome=true):f.body=some (z9d f):=by
 unfold z9d
 cases hb:f.body with
 | none=>rw [hb] at h; cases h
 | some c=>rfl

def GoodP (P:Program):Prop:=z1b P∧P.follows .mixedOrders=true

theorem goodP {P:Program} (h1:(P.funcs.toList.all fun fn=>fn.body.isNone||!(fn.name== "runtime.NumGoroutine"))=true) (h2:P.follows .mixedOrders=true):GoodP P:=by
 refine ⟨fun f fn hf hb=>?_,h2⟩
 have hm:fn∈P.funcs.toList:=by simpa using Array.mem_of_getElem? hf
 have:=List.all_eq_true.1 h1 fn hm
 cases hbb:fn.body with
 | none=>rw [hbb] at hb; cases hb
 | some c=>simpa [hbb] using this

def vcF (C:Cfg) (fn:Func) (args:List Value) (H:Hp) (post:Value→Hp→Prop):Prop :=
 vc C (z9d fn) (ypf C fn.results.toList post) ⟨zq2 args,fun _=>none⟩ H

theorem Fn.door {C:Cfg} {f:FuncId} {fn:Func} {args:List Value} {H:Hp} {post:Value→Hp→Prop} {T:Prop} (hP:GoodP C.P) (hf:C.P.funcs[f]?=some fn)
  (hb:(fn.body.isSome&&Nat.beq fn.ntmps C.n&&Nat.ble args.length C.n)=true) (e:T=vcF C fn args H post) (h:T):Fn C.P f args.toArray H post:=by
 simp only [Bool.and_eq_true,Nat.beq_iff] at hb
 have h':vcF C fn args H post:=by rw [← e]; exact h
 exact Fn.of_vc hP.1 hP.2 hf (z9e hb.1.1) hb.1.2 hb.2 h'

end Go.Eng
end
