/- Texts of this proof, one behind the other. Conditions: those in each theorem. -/
import Derived.Test.YtiacalnkmnckjaaGreatDoorCnQ12
import Derived.Test.YtiacalnkmnckjaaGreatDoorCnQ9
import Derived.Test.YtiacalnkmnckjaaGreatDoorCnQ8
set_option linter.unusedVariables false
set_option linter.unusedSimpArgs false
namespace Go.Proofs.YtiacalnkmnckjaaGreatDoor
open Go.RowKit Go.As
section
mutual
def nmE:Ex→List (List UInt8)
 | .mk op _ _ name kids=>(if op=2 then [name] else [])++nmEs kids
def nmEs:List Ex→List (List UInt8)
 | []=>[]
 | e::l=>nmE e++nmEs l
end
def nmS (s:St):List (List UInt8):=match s with
 | .mk _ n e _ _=>n::nmE e
def nmT (t:Th):List (List UInt8):=t.name::(t.locals.map (·.name)++(flatL 0 t.body).flatMap fun x=>nmS x.1)
def nmP (p:Pg):List (List UInt8):=p.shared.map (·.name)++(p.mutexes++p.threads.flatMap nmT)
section
variable {φ:List UInt8→List UInt8} {nu:List UInt8}
def RelT (φ:List UInt8→List UInt8) (nu:List UInt8) (th th':Thg):Prop:=∀ s,s≠nu→th' (φ s)=th s
def InjT (φ:List UInt8→List UInt8) (nu:List UInt8):Prop:=∀ a b,a≠nu→b≠nu→φ a=φ b→a=b
theorem RelT.of {th th':Thg} (h:RelT φ nu th th') {s:List UInt8} (hs:s≠nu):thOf th' (φ s)=thOf th s:=by unfold thOf;rw [h s hs]
theorem RelT.up (hi:InjT φ nu) {th th':Thg} (h:RelT φ nu th th') {n:List UInt8} (hn:n≠nu) (p:Int×Int):RelT φ nu (upT th n p) (upT th' (φ n) p):=by
 intro s hs
 unfold upT
 by_cases e:s=n
 · subst e
   rw [if_pos rfl,if_pos rfl]
 · rw [if_neg e,if_neg (fun e'=>e (hi _ _ hs hn e'))]
   exact h s hs
theorem RelT.v (hi:InjT φ nu) (k:Int):∀ (l:List Vr) {th th':Thg},RelT φ nu th th'→(∀ n∈l.map (·.name),n≠nu)→RelT φ nu (thV k th l) (thV k th' (l.map (rnV φ)))
 | [],th,th',h,_=>h
 | v::l,th,th',h,hl=>by
   unfold thV at *
   simp only [List.map_cons,List.foldl_cons]
   exact RelT.v hi k l (h.up hi (hl _ (by simp)) _) (fun n hn=>hl n (List.mem_cons_of_mem _ hn))
theorem RelT.m (hi:InjT φ nu):∀ (l:List (List UInt8)) {th th':Thg},RelT φ nu th th'→(∀ n∈l,n≠nu)→RelT φ nu (thM th l) (thM th' (l.map φ))
 | [],th,th',h,_=>h
 | v::l,th,th',h,hl=>by
   unfold thM at *
   simp only [List.map_cons,List.foldl_cons]
   exact RelT.m hi l (h.up hi (hl _ (by simp)) _) (fun n hn=>hl n (List.mem_cons_of_mem _ hn))
theorem RelT.n (hi:InjT φ nu) {p:Pg} {t:Th} (h1:∀ n∈p.shared.map (·.name),n≠nu) (h2:∀ n∈p.mutexes,n≠nu) (h3:∀ n∈t.locals.map (·.name),n≠nu):RelT φ nu (thN p t) (thN (rnP φ p) (rnT φ t)):=by
 unfold thN rnP rnT
 exact RelT.v hi 2 _ (RelT.m hi _ (RelT.v hi 1 _ (fun _ _=>rfl) h1) h2) h3
section
variable {th th':Thg}
mutual
theorem RelT.tch (h:RelT φ nu th th'):∀ e:Ex,(∀ n∈nmE e,n≠nu)→tch th' (rnE φ e)=tch th e
 | .mk op ty bits name kids,hn=>by
   simp only [nmE] at hn
   simp only [rnE,Go.Proofs.YtiacalnkmnckjaaGreatDoor.tch]
   rw [RelT.tchs h kids (fun n hm=>hn n (List.mem_append_right _ hm))]
   by_cases ho:op=2
   · rw [h.of (hn name (List.mem_append_left _ (by rw [if_pos ho];simp)))]
   · rw [if_neg (fun e=>ho e.1),if_neg (fun e=>ho e.1)]
theorem RelT.tchs (h:RelT φ nu th th'):∀ l:List Ex,(∀ n∈nmEs l,n≠nu)→Go.Proofs.YtiacalnkmnckjaaGreatDoor.tchs th' (rnEs φ l)=Go.Proofs.YtiacalnkmnckjaaGreatDoor.tchs th l
 | [],_=>rfl
 | e::l,hn=>by
   simp only [nmEs] at hn
   simp only [rnEs,Go.Proofs.YtiacalnkmnckjaaGreatDoor.tchs]
   rw [RelT.tch h e (fun n hm=>hn n (List.mem_append_left _ hm)),RelT.tchs h l (fun n hm=>hn n (List.mem_append_right _ hm))]
end
mutual
theorem RelT.unk (h:RelT φ nu th th'):∀ e:Ex,(∀ n∈nmE e,n≠nu)→unk th' (rnE φ e)=unk th e
 | .mk op ty bits name kids,hn=>by
   simp only [nmE] at hn
   simp only [rnE,Go.Proofs.YtiacalnkmnckjaaGreatDoor.unk]
   rw [RelT.unks h kids (fun n hm=>hn n (List.mem_append_right _ hm))]
   by_cases ho:op=2
   · rw [h.of (hn name (List.mem_append_left _ (by rw [if_pos ho];simp)))]
   · simp [ho]
theorem RelT.unks (h:RelT φ nu th th'):∀ l:List Ex,(∀ n∈nmEs l,n≠nu)→Go.Proofs.YtiacalnkmnckjaaGreatDoor.unks th' (rnEs φ l)=Go.Proofs.YtiacalnkmnckjaaGreatDoor.unks th l
 | [],_=>rfl
 | e::l,hn=>by
   simp only [nmEs] at hn
   simp only [rnEs,Go.Proofs.YtiacalnkmnckjaaGreatDoor.unks]
   rw [RelT.unk h e (fun n hm=>hn n (List.mem_append_left _ hm)),RelT.unks h l (fun n hm=>hn n (List.mem_append_right _ hm))]
end
mutual
theorem RelT.tyO (h:RelT φ nu th th'):∀ e:Ex,(∀ n∈nmE e,n≠nu)→tyO th' (rnE φ e)=tyO th e
 | .mk op ty bits name kids,hn=>by
   simp only [nmE] at hn
   simp only [rnE,Go.Proofs.YtiacalnkmnckjaaGreatDoor.tyO]
   rw [RelT.tyOs h kids (fun n hm=>hn n (List.mem_append_right _ hm))]
   by_cases ho:op=2
   · rw [h.of (hn name (List.mem_append_left _ (by rw [if_pos ho];simp)))]
   · simp [ho]
theorem RelT.tyOs (h:RelT φ nu th th'):∀ l:List Ex,(∀ n∈nmEs l,n≠nu)→Go.Proofs.YtiacalnkmnckjaaGreatDoor.tyOs th' (rnEs φ l)=Go.Proofs.YtiacalnkmnckjaaGreatDoor.tyOs th l
 | [],_=>rfl
 | e::l,hn=>by
   simp only [nmEs] at hn
   simp only [rnEs,Go.Proofs.YtiacalnkmnckjaaGreatDoor.tyOs]
   rw [RelT.tyO h e (fun n hm=>hn n (List.mem_append_left _ hm)),RelT.tyOs h l (fun n hm=>hn n (List.mem_append_right _ hm))]
end
theorem RelT.msT (h:RelT φ nu th th') (k:Int) (n:List UInt8) (e:Ex) (hn:n≠nu) (he:∀ n∈nmE e,n≠nu):msT th' k (φ n) (rnE φ e)=msT th k n e:=by unfold Go.Proofs.YtiacalnkmnckjaaGreatDoor.msT;rw [h.of hn,h.unk e he]
theorem RelT.tyS (h:RelT φ nu th th') (k:Int) (n:List UInt8) (e:Ex) (hn:n≠nu) (he:∀ n∈nmE e,n≠nu):tyS th' k (φ n) (rnE φ e)=tyS th k n e:=by unfold Go.Proofs.YtiacalnkmnckjaaGreatDoor.tyS;rw [h.of hn,h.tyO e he]
theorem RelT.atS (h:RelT φ nu th th') (k:Int) (n:List UInt8) (e:Ex) (hn:n≠nu) (he:∀ n∈nmE e,n≠nu):atS th' k (φ n) (rnE φ e)=atS th k n e:=by unfold Go.Proofs.YtiacalnkmnckjaaGreatDoor.atS;rw [h.of hn,h.tch e he]
end
theorem lkD_rn (hi:InjT φ nu) {p:Pg} (hp:∀ n∈nmP p,n≠nu) {look:Thg→Int→List UInt8→Ex→Int} (hl:∀ th th' k n e,RelT φ nu th th'→n≠nu→(∀ n∈nmE e,n≠nu)→look th' k (φ n) (rnE φ e)=look th k n e):lkD look (rnP φ p)=lkD look p:=by
 unfold lkD
 refine thrF_map p.threads 0 (fun i t ht=>?_)
 have h3:∀ n∈nmT t,n≠nu:=fun n hn=>hp n (List.mem_append_right _ (List.mem_append_right _ (List.mem_flatMap.2 ⟨t,ht,hn⟩)))
 have hr:RelT φ nu (thN p t) (thN (rnP φ p) (rnT φ t)):=RelT.n hi (fun n hn=>hp n (List.mem_append_left _ hn)) (fun n hn=>hp n (List.mem_append_right _ (List.mem_append_left _ hn))) (fun n hn=>h3 n (List.mem_cons_of_mem _ (List.mem_append_left _ hn)))
 refine spotF_map (i:Int) t.body (fun s d hs=>?_)
 have hs':∀ n∈nmS s,n≠nu:=fun n hn=>h3 n (List.mem_cons_of_mem _ (List.mem_append_right _ (List.mem_flatMap.2 ⟨(s,d),hs,hn⟩)))
 cases s with
 | mk k n e b l=>exact hl _ _ k n e hr (hs' n (by simp [nmS])) (fun m hm=>hs' m (by simp [nmS,hm]))
theorem twV_rn (hi:InjT φ nu):∀ (l:List Vr) {th th':Thg},RelT φ nu th th'→(∀ n∈l.map (·.name),n≠nu)→match twV th' (l.map (rnV φ)),twV th l with
  | some b,some a=>RelT φ nu a b
  | none,none=>True
  | _,_=>False
 | [],th,th',h,_=>h
 | v::l,th,th',h,hl=>by
   have h0:=hl v.name (by simp)
   have ih:=twV_rn hi l (h.up hi h0 (1,v.ty)) (fun n hn=>hl n (List.mem_cons_of_mem _ hn))
   simp only [List.map_cons,twV]
   have e:thOf th' (rnV φ v).name=thOf th v.name:=h.of h0
   rw [e]
   by_cases hc:(thOf th v.name).1=0
   · rw [if_pos hc,if_pos hc]
     exact ih
   · rw [if_neg hc,if_neg hc]
     trivial
theorem twM_rn (hi:InjT φ nu):∀ (l:List (List UInt8)) {th th':Thg},RelT φ nu th th'→(∀ n∈l,n≠nu)→match twM th' (l.map φ),twM th l with
  | some b,some a=>RelT φ nu a b
  | none,none=>True
  | _,_=>False
 | [],th,th',h,_=>h
 | v::l,th,th',h,hl=>by
   have h0:=hl v (by simp)
   have ih:=twM_rn hi l (h.up hi h0 (3,0)) (fun n hn=>hl n (List.mem_cons_of_mem _ hn))
   simp only [List.map_cons,twM]
   rw [h.of h0]
   by_cases hc:(thOf th v).1=0
   · rw [if_pos hc,if_pos hc]
     exact ih
   · rw [if_neg hc,if_neg hc]
     trivial
theorem lcB_rn (hi:InjT φ nu) {th th':Thg} (h:RelT φ nu th th'):∀ (l:List Vr) (own:List (List UInt8)),(∀ n∈own,n≠nu)→(∀ n∈l.map (·.name),n≠nu)→lcB th' (own.map φ) (l.map (rnV φ))=lcB th own l
 | [],own,_,_=>rfl
 | v::l,own,ho,hl=>by
   have h0:=hl v.name (by simp)
   have ih:=lcB_rn hi h l (v.name::own) (fun n hn=>(List.mem_cons.1 hn).elim (fun e=>e ▸ h0) (ho n)) (fun n hn=>hl n (List.mem_cons_of_mem _ hn))
   simp only [List.map_cons,lcB]
   have e:thOf th' (rnV φ v).name=thOf th v.name:=h.of h0
   have em:(rnV φ v).name∈own.map φ↔v.name∈own:=by
    refine ⟨fun hm=>?_,fun hm=>List.mem_map.2 ⟨_,hm,rfl⟩⟩
    obtain ⟨x,hx,hxe⟩:=List.mem_map.1 hm
    have:=hi x v.name (ho x hx) h0 hxe
    exact this ▸ hx
   rw [e]
   simp only [em]
   split
   · rfl
   · exact ih
theorem twT_rn (hi:InjT φ nu):∀ (l:List Th) (i:Nat) {th th':Thg},RelT φ nu th th'→(∀ t∈l,∀ n∈nmT t,n≠nu)→twT i th' (l.map (rnT φ))=twT i th l
 | [],i,th,th',_,_=>rfl
 | t::l,i,th,th',h,hl=>by
   have h0:=hl t (by simp)
   have hn:t.name≠nu:=h0 _ (by simp [nmT])
   simp only [List.map_cons,twT]
   have e:thOf th' (rnT φ t).name=thOf th t.name:=h.of hn
   have e2:lcB th' [] (rnT φ t).locals=lcB th [] t.locals:=lcB_rn hi h t.locals [] (fun _ hm=>by simp at hm) (fun n hm=>h0 n (List.mem_cons_of_mem _ (List.mem_append_left _ hm)))
   have e3:twT (i+1) (upT th' (rnT φ t).name (4,0)) (l.map (rnT φ))=twT (i+1) (upT th t.name (4,0)) l:=twT_rn hi l (i+1) (h.up hi hn (4,0)) (fun t ht=>hl t (List.mem_cons_of_mem _ ht))
   rw [e,e2,e3]
theorem twiceD_rn (hi:InjT φ nu) {p:Pg} (hp:∀ n∈nmP p,n≠nu):twiceD (rnP φ p)=twiceD p:=by
 unfold twiceD
 have h1:=twV_rn hi p.shared (th:=fun _=>none) (th':=fun _=>none) (fun _ _=>rfl) (fun n hn=>hp n (List.mem_append_left _ hn))
 have e1:(rnP φ p).shared=p.shared.map (rnV φ):=rfl
 have e2:(rnP φ p).mutexes=p.mutexes.map φ:=rfl
 have e3:(rnP φ p).threads=p.threads.map (rnT φ):=rfl
 rw [e1,e2,e3]
 revert h1
 cases twV (fun _=>none) (p.shared.map (rnV φ)) <;> cases twV (fun _=>none) p.shared <;> first | exact fun _=>rfl | exact fun h=>h.elim | skip
 rename_i b a
 intro hr
 have h2:=twM_rn hi p.mutexes hr (fun n hn=>hp n (List.mem_append_right _ (List.mem_append_left _ hn)))
 simp only
 revert h2
 cases twM b (p.mutexes.map φ) <;> cases twM a p.mutexes <;> first | exact fun _=>rfl | exact fun h=>h.elim | skip
 intro hr2
 exact twT_rn hi p.threads 0 hr2 (fun t ht n hn=>hp n (List.mem_append_right _ (List.mem_append_right _ (List.mem_flatMap.2 ⟨t,ht,hn⟩))))
theorem longD_rn (p:Pg):longD (rnP φ p)=longD p:=by
 unfold longD
 have e1:(rnP φ p).shared.length=p.shared.length:=List.length_map _
 have e2:(rnP φ p).mutexes.length=p.mutexes.length:=List.length_map _
 have e3:(rnP φ p).threads.length=p.threads.length:=List.length_map _
 rw [e1,e2,e3]
 split
 · rfl
 refine thrF_map p.threads 0 (fun i t ht=>?_)
 unfold lgT rnT
 simp only [List.length_map,rnSs_siz]
 split
 · rfl
 refine spotF_map (i:Int) t.body (fun s d hs=>?_)
 cases s with
 | mk k n e b l=>
   unfold lgF
   show (if 8192<wgt (rnE φ e) then _ else _)=_
   rw [rnE_wgt]
   rfl
end
mutual
theorem stR_flatS (d:Nat):∀ s:St,stR s→∀ x d',(x,d')∈flatS d s→stR x
 | .mk k n e b l,h,x,d',hx=>by
   have h0:=h
   simp only [stR] at h
   simp only [flatS,List.mem_cons,List.mem_append] at hx
   rcases hx with hx | hx | hx
   · injection hx with e1 e2
     rw [e1]
     exact h0
   · exact stR_flatL (d+1) b h.2.2.1 x d' hx
   · exact stR_flatL (d+1) l h.2.2.2 x d' hx
theorem stR_flatL (d:Nat):∀ l:List St,stRs l→∀ x d',(x,d')∈flatL d l→stR x
 | [],_,x,d',hx=>by simp [flatL] at hx
 | s::l,h,x,d',hx=>by
   simp only [stRs] at h
   simp only [flatL,List.mem_append] at hx
   rcases hx with hx | hx
   · exact stR_flatS d s h.1 x d' hx
   · exact stR_flatL d l h.2 x d' hx
end
theorem alS_R {s:St} (h:stR s):pgR (onePg (alS s)):=by
 refine ⟨fun v hv=>by simp [onePg] at hv,fun t ht=>?_⟩
 obtain rfl:t=⟨[116],[],[alS s]⟩:=by simpa [onePg] using ht
 refine ⟨fun v hv=>by simp at hv,?_⟩
 simp only [stRs]
 refine ⟨?_,trivial⟩
 cases s with
 | mk k n e b l=>
   simp only [alS,stR] at h ⊢
   refine ⟨h.1,h.2.1,?_,?_⟩
   · split
     · simp [stRs]
     · exact h.2.2.1
   · split
     · simp [stRs]
     · exact h.2.2.2
section
variable {φ:List UInt8→List UInt8}
theorem oddD_rn (hφ:NmOk φ) {p:Pg} (hR:pgR p):oddD (rnP φ p)=oddD p:=by
 unfold oddD
 have e1:(rnP φ p).shared=p.shared.map (rnV φ):=rfl
 have e2:(rnP φ p).mutexes=p.mutexes.map φ:=rfl
 have e3:(rnP φ p).threads=p.threads.map (rnT φ):=rfl
 rw [e1,e2,e3,List.any_map,List.any_map]
 have a1:(p.shared.any ((fun v=>!(okD ⟨[v],[],[]⟩))∘rnV φ))=p.shared.any fun v=>!(okD ⟨[v],[],[]⟩):=by
  rw [Bool.eq_iff_iff,List.any_eq_true,List.any_eq_true]
  have key:∀ v∈p.shared,okD ⟨[rnV φ v],[],[]⟩=okD ⟨[v],[],[]⟩:=fun v hv=>by
   have:=rnP_okD hφ (p:=⟨[v],[],[]⟩) ⟨fun x hx=>by obtain rfl:x=v:=by simpa using hx
                                                   exact hR.1 _ hv,fun t ht=>by simp at ht⟩
   exact this
  exact ⟨fun ⟨v,hv,h⟩=>⟨v,hv,by rw [← key v hv];exact h⟩,fun ⟨v,hv,h⟩=>⟨v,hv,by show (!(okD ⟨[rnV φ v],[],[]⟩))=true;rw [key v hv];exact h⟩⟩
 have a2:(p.mutexes.any ((fun m=>!(okD ⟨[],[m],[]⟩))∘φ))=p.mutexes.any fun m=>!(okD ⟨[],[m],[]⟩):=by
  rw [Bool.eq_iff_iff,List.any_eq_true,List.any_eq_true]
  have key:∀ m∈p.mutexes,okD ⟨[],[φ m],[]⟩=okD ⟨[],[m],[]⟩:=fun v hv=>rnP_okD hφ (p:=⟨[],[v],[]⟩) ⟨fun x hx=>by simp at hx,fun t ht=>by simp at ht⟩
  exact ⟨fun ⟨v,hv,h⟩=>⟨v,hv,by rw [← key v hv];exact h⟩,fun ⟨v,hv,h⟩=>⟨v,hv,by show (!(okD ⟨[],[φ v],[]⟩))=true;rw [key v hv];exact h⟩⟩
 rw [a1,a2]
 split
 · rfl
 split
 · rfl
 refine thrF_map p.threads 0 (fun i t ht=>?_)
 have hT:=hR.2 t ht
 unfold odT
 have k1:okD ⟨[],[],[⟨(rnT φ t).name,(rnT φ t).locals,[]⟩]⟩=okD ⟨[],[],[⟨t.name,t.locals,[]⟩]⟩:=
  rnP_okD hφ (p:=⟨[],[],[⟨t.name,t.locals,[]⟩]⟩) ⟨fun x hx=>by simp at hx,fun x hx=>by
   obtain rfl:x=⟨t.name,t.locals,[]⟩:=by simpa using hx
   exact ⟨hT.1,by simp [stRs]⟩⟩
 rw [k1]
 split
 · rfl
 refine spotF_map (i:Int) t.body (fun s d hs=>?_)
 unfold odF
 have hs':=stR_flatL 0 t.body hT.2 s d hs
 have nmT':φ [116]=[116]∨True := .inr trivial
 have k2:okD (onePg (alS (rnS φ s)))=okD (onePg (alS s)):=by
  rw [okD_some,okD_some,okP_plain _ (alS_R hs'),okP_plain _ (alS_R (rnS_R s hs'))]
  have e:alS (rnS φ s)=rnS φ (alS s):=by
   cases s with
   | mk k n e b l=>
     simp only [rnS,alS]
     congr 1
     · split <;> simp [rnSs]
     · split <;> simp [rnSs]
  rw [e]
  have h1:=rnS_okS hφ (alS s) 0
  have h2:∀ x:St,okP (onePg x)=okT ⟨[116],[],[x]⟩:=fun x=>by simp [okP,onePg]
  rw [h2,h2]
  unfold okT
  simp only
  have h3:okB 0 [rnS φ (alS s)]=okB 0 [alS s]:=by
   have:=rnSs_okB hφ [alS s] 0
   simpa [rnSs] using this
  rw [h3]
 rw [k2]
theorem checkD_rn (hφ:NmOk φ) {nu:List UInt8} (hi:InjT φ nu) {p:Pg} (hR:pgR p) (hp:∀ n∈nmP p,n≠nu):checkD (rnP φ p)=checkD p:=by
 unfold checkD
 rw [longD_rn,oddD_rn hφ hR,twiceD_rn hi hp,lkD_rn hi hp (look:=msT) (fun th th' k n e h h1 h2=>h.msT k n e h1 h2),lkD_rn hi hp (look:=tyS) (fun th th' k n e h h1 h2=>h.tyS k n e h1 h2),lkD_rn hi hp (look:=atS) (fun th th' k n e h h1 h2=>h.atS k n e h1 h2)]
end
def phi (from_ nu:List UInt8) (s:List UInt8):List UInt8:=if s=from_ then nu else s
theorem phi_ok {a b:List UInt8} (ha:nameB a=true) (hb:nameB b=true):NmOk (phi a b):=by
 have na:a≠[]:=fun h=>by subst h;cases ha
 have nb:b≠[]:=fun h=>by subst h;cases hb
 refine ⟨fun s=>?_,fun s=>?_⟩
 · unfold phi
   split
   · rename_i h;rw [h,ha,hb]
   · rfl
 · unfold phi
   split
   · rename_i h;rw [h];exact ⟨fun e=>(nb e).elim,fun e=>(na e).elim⟩
   · rfl
theorem phi_inj (a b:List UInt8):InjT (phi a b) b:=by
 intro x y hx hy h
 unfold phi at h
 split at h <;> split at h
 · rename_i h1 h2;rw [h1,h2]
 · exact (hy h.symm).elim
 · exact (hx h).elim
 · exact h
end
section
set_option maxRecDepth 100000
mutual
theorem flatS_swt (d:Nat):∀ s:St,∀ x d',(x,d')∈flatS d s→swt x≤swt s∧stB x≤stB s
 | .mk k n e b l,x,d',hx=>by
   simp only [flatS,List.mem_cons,List.mem_append] at hx
   rcases hx with hx | hx | hx
   · injection hx with e1 e2
     rw [e1]
     exact ⟨Nat.le_refl _,Nat.le_refl _⟩
   · have:=flatL_swt (d+1) b x d' hx
     simp only [swt,stB]
     omega
   · have:=flatL_swt (d+1) l x d' hx
     simp only [swt,stB]
     omega
theorem flatL_swt (d:Nat):∀ l:List St,∀ x d',(x,d')∈flatL d l→swt x≤swts l∧stB x≤stBs l
 | [],x,d',hx=>by simp [flatL] at hx
 | s::l,x,d',hx=>by
   simp only [flatL,List.mem_append] at hx
   simp only [swts,stBs]
   rcases hx with hx | hx
   · have:=flatS_swt d s x d' hx
     omega
   · have:=flatL_swt d l x d' hx
     omega
end
theorem alS_B (s:St):pgB (onePg (alS s))≤stB s+2:=by
 cases s with
 | mk k n e b l=>
   simp only [onePg,alS,pgB,sumN,thB,stBs,stB,List.length_cons,List.length_nil]
   have h1:stBs (if k=5∨k=6 then [] else b)≤stBs b:=by split <;> simp [stBs]
   have h2:stBs (if k=5 then [] else l)≤stBs l:=by split <;> simp [stBs]
   omega
theorem calone_any (s:St) (c:List Value) (w:World) (ht:Tab w) (hst:StAt (·<w.heap.size) w s c) (hB:stB s≤90000000) (hR:stR s):
  CB 107 #[.agg c.toArray] w (.bool (okD (onePg (alS s)))):=by
 have hBd:=alS_B s
 have hRR:=alS_R hR
 obtain ⟨uK,us,⟨uo,ut,uv,un,uk⟩,uB,uL⟩:=s
 simp only [StAt] at hst
 obtain ⟨ucs,uj,uh,ubx,ui,uw,ulx,rfl,uhe,uhbs,uhbt,uhls,uhlt⟩:=hst
 have uhe0:=uhe
 simp only [ExAt] at uhe0
 obtain ⟨uf,ug,uex,rfl,_⟩:=uhe0
 by_cases k5:uK=5
 · subst k5
   exact calone_5 us uo ut uv un uk uB uL uj ui uf uh uw ug ubx ulx w ht uhe uhbs uhbt uhls uhlt (by omega) hRR
 by_cases k6:uK=6
 · subst k6
   exact calone_6 us uo ut uv un uk uB uL uj ui uf uh uw ug ubx ulx w ht uhe uhbs uhbt uhls uhlt (by omega) hRR
 exact calone_any0 us uK k5 k6 uo ut uv un uk uB uL uj ui uf uh uw ug ubx ulx w ht uhe uhbs uhbt uhls uhlt (by omega) hRR
theorem pg_th {F:Nat→Prop} {w:World} {t:Th} {c:List Value} {k:Option Addr} {cap:Nat} (hc:ThAt F w t c) (h2:Sy.SlAt F w k 1 3 c):PgAt F w ⟨[],[],[t]⟩ [.slice none 0 0,.slice none 0 0,.slice k 1 cap]:=
 ⟨none,0,[],none,0,[],k,cap,c,rfl,sl_nil _ _ _ _,rfl,sl_nil _ _ _ _,rfl,h2,c,[],(List.append_nil _).symm,hc,rfl⟩
theorem pg_vr {F:Nat→Prop} {w:World} {v:Vr} {c:List Value} {k:Option Addr} {cap:Nat} (hc:VrAt v c) (h2:Sy.SlAt F w k 1 3 c):PgAt F w ⟨[v],[],[]⟩ [.slice k 1 cap,.slice none 0 0,.slice none 0 0]:=
 ⟨k,cap,c,none,0,[],none,0,[],rfl,h2,⟨c,[],(List.append_nil _).symm,hc,rfl⟩,sl_nil _ _ _ _,rfl,sl_nil _ _ _ _,rfl⟩
theorem pg_mx {F:Nat→Prop} {w:World} {m:List UInt8} {c:List Value} {k:Option Addr} {cap:Nat} (hc:TxAt m c) (h2:Sy.SlAt F w k 1 1 c):PgAt F w ⟨[],[m],[]⟩ [.slice none 0 0,.slice k 1 cap,.slice none 0 0]:=
 ⟨none,0,[],k,cap,c,none,0,[],rfl,sl_nil _ _ _ _,rfl,h2,⟨c,[],(List.append_nil _).symm,hc,rfl⟩,sl_nil _ _ _ _,rfl⟩
structure WkI (w:World) (B:Nat→Prop) (w1:World):Prop where
 keep:Sy.Keep (·<w.heap.size) w w1
 old:∀ k,k<w.heap.size→B k
 lt:∀ k,B k→k<w1.heap.size
theorem WkI.refl (w:World):WkI w (·<w.heap.size) w:=⟨Sy.Keep.refl _ _,fun k h=>h,fun k h=>h⟩
theorem WkI.step {w:World} {B B':Nat→Prop} {w1 w2:World} (h:WkI w B w1) (hk:Sy.Keep B w1 w2) (hB:∀ k,B k→B' k) (hB':∀ k,B' k→k<w2.heap.size):WkI w B' w2:=⟨h.keep.trans (hk.mono h.old),fun k hk=>hB k (h.old k hk),hB'⟩
theorem WkI.to {w:World} {B:Nat→Prop} {w1 V:World} (h:WkI w B w1) (hk:Sy.Keep B w1 V):Sy.Keep (·<w.heap.size) w V:=h.keep.trans (hk.mono h.old)
theorem WkI.lt' {w:World} {B:Nat→Prop} {w1 V:World} (h:WkI w B w1) (hk:Sy.Keep B w1 V) (k:Nat) (hb:B k):k<V.heap.size:=Nat.lt_of_lt_of_le (h.lt k hb) hk.size
theorem WkI.up {w:World} {B:Nat→Prop} {w1 V:World} (h:WkI w B w1) (hk:Sy.Keep B w1 V) (k:Nat) (hb:k<w.heap.size):k<V.heap.size:=Nat.lt_of_lt_of_le hb (h.to hk).size
theorem thws_mid {p:List Th} {l1 l3:List Th} {t:Th} (h:p=l1++t::l3):thws [t]≤thws p:=by
 rw [h,thws_app]
 simp only [thws]
 omega
open Go.Sy
theorem clong1_any (s:St) (c:List Value) (deep:Nat) (w:World) (hst:StAt (·<w.heap.size) w s c) (hbd:swt s≤1000000000000):
  CB 166 #[.agg c.toArray,nI (deep:Int)] w (nI (lgF s deep)):=by
 obtain ⟨uK,us,⟨uo,ut,uv,un,uk⟩,uB,uL⟩:=s
 simp only [StAt] at hst
 obtain ⟨ucs,uj,uh,ubx,ui,uw,ulx,rfl,uhe,uhbs,uhbt,uhls,uhlt⟩:=hst
 have uhe0:=uhe
 simp only [ExAt] at uhe0
 obtain ⟨uf,ug,uex,rfl,_⟩:=uhe0
 refine eN [yV uK us uo ut uv un uf uk.length ug uj uB.length uh ui uL.length uw,nI (deep:Int)] Tryz.func166 (fun γ0 hγ0=>?_)
 refine rk ?_
 refine gX [xV uo ut uv un uf uk.length ug] (nI (wgt (Ex.mk uo ut uv un uk):Nat)) (fun W hk=>cparts_any _ (Ex.mk uo ut uv un uk) (xL uo ut uv un uf uk.length ug) W (Nat.le_refl _) (by simp only [swt] at hbd;omega) (uhe.keep hk (kU hk))) ?_
 refine rk ?_
 by_cases hq:8192<wgt (Ex.mk uo ut uv un uk)
 ·
  refine kx 8192 ((wgt (Ex.mk uo ut uv un uk):Nat):Int) (by omega) ?_
  refine rs [] 60 2 ?_
  exact gR (nI 3) (fun W hk=>⟨by unfold lgF;rw [if_pos (show 8192<wgt (St.ex (.mk uK us (Ex.mk uo ut uv un uk) uB uL)) from hq)],hk.below⟩)
 ·
  refine ky 8192 ((wgt (Ex.mk uo ut uv un uk):Nat):Int) (by omega) ?_
  refine rs [] 60 2 ?_
  exact gR (nI 0) (fun W hk=>⟨by unfold lgF;rw [if_neg (show ¬ 8192<wgt (St.ex (.mk uK us (Ex.mk uo ut uv un uk) uB uL)) from hq)],hk.below⟩)
theorem codd1_any (s:St) (c:List Value) (deep:Nat) (w:World) (ht:Tab w) (hst:StAt (·<w.heap.size) w s c) (hB:stB s≤90000000) (hR:stR s):
  CB 170 #[.agg c.toArray,nI (deep:Int)] w (nI (odF s deep)):=by
 have hal:=fun W hk=>calone_any s c W (ht.below (Sy.Keep.below hk)) (hst.keep hk fun k h=>Nat.lt_of_lt_of_le h (Sy.Keep.size hk)) hB hR
 obtain ⟨uK,us,⟨uo,ut,uv,un,uk⟩,uB,uL⟩:=s
 simp only [StAt] at hst
 obtain ⟨ucs,uj,uh,ubx,ui,uw,ulx,rfl,uhe,uhbs,uhbt,uhls,uhlt⟩:=hst
 have uhe0:=uhe
 simp only [ExAt] at uhe0
 obtain ⟨uf,ug,uex,rfl,_⟩:=uhe0
 refine eN [yV uK us uo ut uv un uf uk.length ug uj uB.length uh ui uL.length uw,nI (deep:Int)] Tryz.func170 (fun γ0 hγ0=>?_)
 refine rs [8] 60 0 ?_
 by_cases hq:32<deep
 ·
  refine zx 6 32 (deep:Int) (by omega) ?_
  refine zx 7 32 (deep:Int) (by omega) ?_
  refine rs [] 60 2 ?_
  exact gR (nI 2) (fun W hk=>⟨by unfold odF;rw [if_pos (.inl hq)],hk.below⟩)
 refine zy 6 32 (deep:Int) (by omega) ?_
 refine zy 7 32 (deep:Int) (by omega) ?_
 refine rk ?_
 refine gX [yV uK us uo ut uv un uf uk.length ug uj uB.length uh ui uL.length uw] (.bool (okD (onePg (alS (.mk uK us (Ex.mk uo ut uv un uk) uB uL))))) (fun W hk=>hal W hk) ?_
 refine rk ?_
 rcases Bool.eq_false_or_eq_true (okD (onePg (alS (.mk uK us (Ex.mk uo ut uv un uk) uB uL)))) with ho | ho
 ·
  refine gK false (b:=!(okD (onePg (alS (.mk uK us (Ex.mk uo ut uv un uk) uB uL))))) (by rw [ho];rfl) ?_
  refine rs [] 60 2 ?_
  exact gR (nI 0) (fun W hk=>⟨by unfold odF;rw [if_neg (fun h=>h.elim hq (fun h=>by rw [ho] at h;cases h))],hk.below⟩)
 ·
  refine gK true (b:=!(okD (onePg (alS (.mk uK us (Ex.mk uo ut uv un uk) uB uL))))) (by rw [ho];rfl) ?_
  refine rs [] 60 2 ?_
  exact gR (nI 2) (fun W hk=>⟨by unfold odF;rw [if_pos (.inr ho)],hk.below⟩)
theorem clong_any (p:Pg) {pa pb pd:Option Addr} {vn qm qt qc qd qe:Nat} {zs:List Value} (w:World) (hpns:vn=p.shared.length) (hpnm:qm=p.mutexes.length) (hbd:qt≤1000000000000) (hpnt:qt=p.threads.length) (hzs:SlAt (·<w.heap.size) w pd qt 3 zs) (hzt:LsAt (ThAt (·<w.heap.size) w) p.threads zs) (hbw:thws p.threads≤1000000000000):
  CB 95 #[.agg #[.slice pa vn qc,.slice pb qm qd,.slice pd qt qe]] w (spV (longD p)):=by
 refine eN [.agg #[.slice pa vn qc,.slice pb qm qd,.slice pd qt qe]] Tryz.func95 (fun γ0 hγ0=>?_)
 refine rs [12] 60 0 ?_
 by_cases hc0:qt<1
 ·
  refine zx 10 (qt:Int) 1 (by omega) ?_
  refine zx 11 (qt:Int) 1 (by omega) ?_
  refine rs [] 60 2 ?_
  exact gR (.agg #[nI 3,nI (-1),nI (-1)]) (fun V hk=>⟨by unfold longD;rw [if_pos (by rw [← hpns,← hpnm,← hpnt];omega)];rfl,hk.below⟩)
 refine zy 10 (qt:Int) 1 (by omega) ?_
 refine zy 11 (qt:Int) 1 (by omega) ?_
 refine rs [18] 60 0 ?_
 by_cases hc1:16<qt
 ·
  refine zx 15 16 (qt:Int) (by omega) ?_
  refine zx 16 16 (qt:Int) (by omega) ?_
  refine zx 17 16 (qt:Int) (by omega) ?_
  refine rs [] 60 2 ?_
  exact gR (.agg #[nI 3,nI (-1),nI (-1)]) (fun V hk=>⟨by unfold longD;rw [if_pos (by rw [← hpns,← hpnm,← hpnt];omega)];rfl,hk.below⟩)
 refine zy 15 16 (qt:Int) (by omega) ?_
 refine zy 16 16 (qt:Int) (by omega) ?_
 refine zy 17 16 (qt:Int) (by omega) ?_
 refine rs [24] 60 0 ?_
 by_cases hc2:32<vn
 ·
  refine zx 21 32 (vn:Int) (by omega) ?_
  refine zx 22 32 (vn:Int) (by omega) ?_
  refine zx 23 32 (vn:Int) (by omega) ?_
  refine rs [] 60 2 ?_
  exact gR (.agg #[nI 3,nI (-1),nI (-1)]) (fun V hk=>⟨by unfold longD;rw [if_pos (by rw [← hpns,← hpnm,← hpnt];omega)];rfl,hk.below⟩)
 refine zy 21 32 (vn:Int) (by omega) ?_
 refine zy 22 32 (vn:Int) (by omega) ?_
 refine zy 23 32 (vn:Int) (by omega) ?_
 refine rk ?_
 by_cases hc3:16<qm
 ·
  refine kx 16 (qm:Int) (by omega) ?_
  refine rs [] 60 2 ?_
  exact gR (.agg #[nI 3,nI (-1),nI (-1)]) (fun V hk=>⟨by unfold longD;rw [if_pos (by rw [← hpns,← hpnm,← hpnt];omega)];rfl,hk.below⟩)
 refine ky 16 (qm:Int) (by omega) ?_
 refine rk ?_
 have hdef:longD p=thrF lgT 0 p.threads:=by unfold longD;rw [if_neg (by rw [← hpns,← hpnm,← hpnt];omega)]
 rw [hdef]
 refine good_toLp ?_
 refine good_loopB (fun i:List Th×List Th=>i.2.length) (fun i B w1=>p.threads=i.1++i.2∧thrF lgT 0 p.threads=thrF lgT i.1.length i.2∧WkI w B w1) (fun i=>⟨mkT [(1,.ptr gz 0),(2,.ptr (gz+1) 0),(31,vL pd qt qe),(32,vI (qt:Int)),(33,vI (i.1.length:Int))],mkH [(gz,bK 26 3 [vL pa vn qc,vL pb qm qd,vL pd qt qe]),(gz+1,bK 80 3 [vI 0,vI 0,vI 0])],gz+2,[]⟩) ([],p.threads) ⟨rfl,rfl,.refl w⟩ (by kernel_rfl)
  (fun h=>gU _ [(1,.ptr gz 0),(2,.ptr (gz+1) 0),(31,vL pd qt qe),(32,vI (qt:Int)),(33,vI (([]:List Th).length:Int))] [(gz,bK 26 3 [vL pa vn qc,vL pb qm qd,vL pd qt qe]),(gz+1,bK 80 3 [vI 0,vI 0,vI 0])] (gz+2) (gA hγ0) h) ?_
 rintro ⟨l1,l2⟩ Bc wc ⟨hsp,hth,hN0⟩ ih
 have hsp:p.threads=l1++l2:=hsp
 have hth:thrF lgT 0 p.threads=thrF lgT l1.length l2:=hth
 have hN:WkI w Bc wc:=hN0
 clear hN0
 have hn2:qt=l1.length+l2.length:=by rw [hpnt,hsp,List.length_append]
 refine rk ?_
 cases l2 with
 | nil=>
   have hn3:qt=l1.length:=by rw [hn2];simp
   refine ky (l1.length:Int) (qt:Int) (by omega) ?_
   refine run_ok (sy_cx _ _) 500 [] 60 2 ?_
   exact gR (.agg #[nI 0,nI (-1),nI (-1)]) (fun V hk=>⟨by rw [hth];rfl,(hN.to hk).below⟩)
 | cons th0 l3=>
   have hin:l1.length<qt:=by rw [hn2,List.length_cons];omega
   have hget:p.threads[l1.length]?=some th0:=by rw [hsp];simp
   have hbt:=Nat.le_trans (swts_body hsp) hbw
   have hzt2:=hzt
   rw [hsp] at hzt2
   obtain ⟨c,hc,hcell⟩:=hzt2.at_ (fun _ _ h=>h.len)
   have hc0:=hc
   obtain ⟨la,lcap,lxs,lb,lcap2,lys,rfl,hls,hlt,hbs,hbt2⟩:=hc
   obtain ⟨ln,hln⟩:∃ n,n=th0.locals.length:=⟨_,rfl⟩
   rw [← hln] at hcell hc0 hls
   have hsl0:=(hzs.keep hN.keep).mono hN.old
   refine kx (l1.length:Int) (qt:Int) (by omega) ?_
   refine rk ?_
   refine gI 24 58 qe l1.length hsl0 hin ?_
   refine rk ?_
   refine gD 58 3 [nT th0.name,.slice la ln lcap,.slice lb th0.body.length lcap2] l1.length 0 hsl0 rfl hcell ?_
   refine rs [40] 60 0 ?_
   refine good_giveC 39 (gz+3) 58 3 1 [nT th0.name,.slice la ln lcap,.slice lb th0.body.length lcap2] (by kernel_rfl) (by kernel_rfl) rfl (fun k1 cap1 w1 B1 hk1 hB01 hB1 hs1=>?_)
   have hN1:WkI w B1 w1:=hN.step hk1 hB01 hB1
   refine rs [46] 60 0 ?_
   by_cases hq:16<ln
   ·
    refine zx 44 16 (ln:Int) (by omega) ?_
    refine zx 45 16 (ln:Int) (by omega) ?_
    refine rs [] 60 2 ?_
    exact gR (.agg #[nI 3,nI (l1.length:Int),nI (-1)]) (fun V hk=>⟨by rw [hth];simp only [thrF];have e:lgT l1.length th0=(3,(l1.length:Int),-1):=by { unfold lgT;rw [if_pos (by rw [← hln];exact .inl hq)] };rw [e,if_neg (show ¬ (3:Int)=0 by decide)];rfl,(hN1.to hk).below⟩)
   refine zy 44 16 (ln:Int) (by omega) ?_
   refine zy 45 16 (ln:Int) (by omega) ?_
   refine rk ?_
   refine gX [.agg #[.slice none 0 0,.slice none 0 0,.slice (some ⟨k1,0,none⟩) 1 cap1]] (nI ((sizs th0.body:Nat):Int)) (fun V hk=>(tSize_any ⟨[],[],[th0]⟩ [.slice none 0 0,.slice none 0 0,.slice (some ⟨k1,0,none⟩) 1 cap1] V (by have:=thws_mid hsp;simp only [pwt,List.length_nil,thws] at this ⊢;omega) (pg_th (hc0.keep (hN1.to hk) (hN1.up hk)) ((hs1.keep hk).mono (hN1.lt' hk)))).mono fun e w' h=>⟨by rw [h.1];simp [tsiz],h.2⟩) ?_
   refine rk ?_
   by_cases hq2:1024<sizs th0.body
   ·
    refine kx 1024 ((sizs th0.body:Nat):Int) (by omega) ?_
    refine rs [] 60 2 ?_
    exact gR (.agg #[nI 3,nI (l1.length:Int),nI (-1)]) (fun V hk=>⟨by rw [hth];simp only [thrF];have e:lgT l1.length th0=(3,(l1.length:Int),-1):=by { unfold lgT;rw [if_pos (by exact .inr hq2)] };rw [e,if_neg (show ¬ (3:Int)=0 by decide)];rfl,(hN1.to hk).below⟩)
   refine ky 1024 ((sizs th0.body:Nat):Int) (by omega) ?_
   refine rs [54] 60 0 ?_
   obtain ⟨sp,hsp2⟩:∃ sp,sp=lgT l1.length th0:=⟨_,rfl⟩
   have hsp3:sp=spotF lgF (l1.length:Int) th0.body:=by rw [hsp2];unfold lgT;rw [if_neg (by rw [← hln];omega)]
   refine gN [.agg #[.slice pa vn qc,.slice pb qm qd,.slice pd qt qe],nI (l1.length:Int),.func (.func 166) #[] #[]] (fun v=>v=spV sp) (fun V hk=>(cfirst_any p l1.length th0 166 #[] lgF V hbd hpnt ((hzs.keep (hN1.to hk)).mono (hN1.up hk)) (hzt.imp fun _ _ h=>h.keep (hN1.to hk) (hN1.up hk)) hget hbt
    (fstC_0 (by kernel_rfl) 0 0 (l1.length:Int) (fun s d hs c W hkW hst=>clong1_any s c d W hst (by have:=(flatL_swt 0 _ s d hs).1;omega)))).mono fun e w' h=>⟨_,h.1,by rw [hsp3],h.2⟩) ?_
   rintro v w3 rfl hk3
   refine rk ?_
   by_cases hs0:sp.1=0
   rotate_left
   ·
    refine gK true (b:=!(intEq sp.1 0)) (by rw [eq_f hs0];rfl) ?_
    refine rs [] 60 2 ?_
    exact gR (spV sp) (fun V hk=>⟨by rw [hth];simp only [thrF];rw [← hsp2,if_neg hs0],(hN1.to hk).below⟩)
   refine gK false (b:=!(intEq sp.1 0)) (by rw [eq_t hs0];rfl) ?_
   refine rs [] 60 2 ?_
   refine gJ 33 l1 th0 (by omega) ?_
   exact gU _ [(1,.ptr gz 0),(2,.ptr (gz+1) 0),(31,vL pd qt qe),(32,vI (qt:Int)),(33,vI ((l1++[th0]).length:Int))] [(gz,bK 26 3 [vL pa vn qc,vL pb qm qd,vL pd qt qe]),(gz+1,bK 80 3 [vI 0,vI 0,vI 0])] (gz+2) (gA hγ0) (ih (l1++[th0],l3) B1 w1 ⟨by show p.threads=(l1++[_])++l3;rw [hsp];simp,by show thrF lgT 0 p.threads=thrF lgT (l1++[th0]).length l3;rw [hth];simp only [thrF,List.length_append,List.length_cons,List.length_nil];rw [← hsp2,if_pos hs0],hN1⟩ lS1)
end
section
theorem pgR_vr {p:Pg} {v:Vr} (h:pgR p) (hv:v∈p.shared):pgR ⟨[v],[],[]⟩:=by
 refine ⟨fun x hx=>?_,fun t ht=>by simp at ht⟩
 obtain rfl:x=v:=by simpa using hx
 exact h.1 _ hv
theorem pgR_mx (m:List UInt8):pgR ⟨[],[m],[]⟩:=⟨fun x hx=>by simp at hx,fun t ht=>by simp at ht⟩
theorem pgR_tl {t:Th} (h:thR t):pgR ⟨[],[],[⟨t.name,t.locals,[]⟩]⟩:=by
 refine ⟨fun x hx=>by simp at hx,fun x hx=>?_⟩
 obtain rfl:x=⟨t.name,t.locals,[]⟩:=by simpa using hx
 exact ⟨h.1,by simp [stRs]⟩
theorem mem_mid {α:Type} {p l1 l3:List α} {v:α} (h:p=l1++v::l3):v∈p:=by rw [h];simp
open Go.Sy in
set_option maxRecDepth 100000 in
theorem codd_any (p:Pg) {pa pb pd:Option Addr} {vn qm qt qc qd qe:Nat} {xs ys zs:List Value} (w:World) (hpns:vn=p.shared.length) (hpnm:qm=p.mutexes.length) (hpnt:qt=p.threads.length) (hbd:qt≤1000000000000)
  (hxs:SlAt (·<w.heap.size) w pa vn 3 xs) (hxt:LsAt VrAt p.shared xs) (hys:SlAt (·<w.heap.size) w pb qm 1 ys) (hyt:LsAt TxAt p.mutexes ys) (hzs:SlAt (·<w.heap.size) w pd qt 3 zs) (hzt:LsAt (ThAt (·<w.heap.size) w) p.threads zs) (hbw:thws p.threads≤1000000000000) (hbs:vn≤1000000000000∧qm≤1000000000000) (ht:Tab w) (hB:pgB p≤80000000) (hR:pgR p):
  CB 96 #[.agg #[.slice pa vn qc,.slice pb qm qd,.slice pd qt qe]] w (spV (oddD p)):=by
 refine eN [.agg #[.slice pa vn qc,.slice pb qm qd,.slice pd qt qe]] Tryz.func96 (fun γ0 hγ0=>?_)
 refine rk ?_
 refine good_toLp ?_
 refine good_loopB (fun i:List Vr×List Vr=>i.2.length) (fun i B w1=>p.shared=i.1++i.2∧(i.1.any fun v=>!(okD ⟨[v],[],[]⟩))=false∧WkI w B w1) (fun i=>⟨mkT [(1,.ptr gz 0),(2,.ptr (gz+1) 0),(11,vL pa vn qc),(12,vI (vn:Int)),(13,vI (i.1.length:Int))],mkH [(gz,bK 26 3 [vL pa vn qc,vL pb qm qd,vL pd qt qe]),(gz+1,bK 80 3 [vI 0,vI 0,vI 0])],gz+2,[]⟩) ([],p.shared) ⟨rfl,rfl,.refl w⟩ (by kernel_rfl)
  (fun h=>gU _ [(1,.ptr gz 0),(2,.ptr (gz+1) 0),(11,vL pa vn qc),(12,vI (vn:Int)),(13,vI (([]:List Vr).length:Int))] [(gz,bK 26 3 [vL pa vn qc,vL pb qm qd,vL pd qt qe]),(gz+1,bK 80 3 [vI 0,vI 0,vI 0])] (gz+2) (gA hγ0) h) ?_
 rintro ⟨l1,l2⟩ Bc wc ⟨hsp,hany,hN0⟩ ih
 have hsp:p.shared=l1++l2:=hsp
 have hany:(l1.any fun v=>!(okD ⟨[v],[],[]⟩))=false:=hany
 have hN:WkI w Bc wc:=hN0
 clear hN0
 have hn2:vn=l1.length+l2.length:=by rw [hpns,hsp,List.length_append]
 refine rk ?_
 cases l2 with
 | cons v l3=>
   have hin:l1.length<vn:=by rw [hn2,List.length_cons];omega
   have hxt2:=hxt
   rw [hsp] at hxt2
   obtain ⟨c,hc,hcell⟩:=hxt2.at_ (fun _ _ h=>VrAt.len h)
   have hc0:=hc
   have hsl0:=(hxs.keep hN.keep).mono hN.old
   refine kx (l1.length:Int) (vn:Int) (by omega) ?_
   refine rk ?_
   have hc:c=[nT v.name,.int .u8 v.ty,.int .u64 v.bits]:=hc
   subst hc
   refine gI 22 67 qc l1.length hsl0 hin ?_
   refine rk ?_
   refine gD 67 3 [nT v.name,.int .u8 v.ty,.int .u64 v.bits] l1.length 0 hsl0 rfl hcell ?_
   refine rs [19] 60 0 ?_
   refine good_giveC 18 (gz+3) 67 3 1 [nT v.name,.int .u8 v.ty,.int .u64 v.bits] (by kernel_rfl) (by kernel_rfl) rfl (fun k1 cap1 w1 B1 hk1 hB01 hB1 hs1=>?_)
   have hN1:WkI w B1 w1:=hN.step hk1 hB01 hB1
   refine rk ?_
   refine gX [.agg #[.slice (some ⟨k1,0,none⟩) 1 cap1,.slice none 0 0,.slice none 0 0]] (.bool (okD ⟨[v],[],[]⟩)) (fun V hk=>cprinted_any ⟨[v],[],[]⟩ V (ht.below (hN1.to hk).below) (by have:=sumN_mem (μ:=vrB) (mem_mid hsp);simp only [pgB,sumN] at hB ⊢;omega) (pgR_vr hR (mem_mid hsp)) (pg_vr hc0 ((hs1.keep hk).mono (hN1.lt' hk)))) ?_
   refine rk ?_
   rcases Bool.eq_false_or_eq_true (okD ⟨[v],[],[]⟩) with ho | ho
   rotate_left
   ·
    refine gK true (b:=!(okD ⟨[v],[],[]⟩)) (by rw [ho];rfl) ?_
    refine run_ok (sy_cx _ _) 500 [] 60 2 ?_
    exact gR (.agg #[nI 2,nI (-1),nI (-1)]) (fun V hk=>⟨by unfold oddD;rw [if_pos (List.any_eq_true.2 ⟨v,mem_mid hsp,by rw [ho];rfl⟩)];rfl,(hN1.to hk).below⟩)
   refine gK false (b:=!(okD ⟨[v],[],[]⟩)) (by rw [ho];rfl) ?_
   refine rs [] 60 2 ?_
   refine gJ 13 l1 v (by omega) ?_
   exact gU _ [(1,.ptr gz 0),(2,.ptr (gz+1) 0),(11,vL pa vn qc),(12,vI (vn:Int)),(13,vI ((l1++[v]).length:Int))] [(gz,bK 26 3 [vL pa vn qc,vL pb qm qd,vL pd qt qe]),(gz+1,bK 80 3 [vI 0,vI 0,vI 0])] (gz+2) (gA hγ0) (ih (l1++[v],l3) B1 w1 ⟨by show p.shared=(l1++[_])++l3;rw [hsp];simp,by show ((l1++[v]).any fun v=>!(okD ⟨[v],[],[]⟩))=false;rw [List.any_append,hany];simp [ho],hN1⟩ lS1)
 | nil=>
   have hn3:vn=l1.length:=by rw [hn2];simp
   have hl1:l1=p.shared:=by rw [hsp];simp
   refine ky (l1.length:Int) (vn:Int) (by omega) ?_
   subst hl1
   have hsh:=hany
   clear ih hn2 hn3 hany hsp
   refine rk ?_
   refine good_toLp ?_
   refine good_loopB (fun i:List (List UInt8)×List (List UInt8)=>i.2.length) (fun i B w1=>p.mutexes=i.1++i.2∧(i.1.any fun v=>!(okD ⟨[],[v],[]⟩))=false∧WkI w B w1) (fun i=>⟨mkT [(1,.ptr gz 0),(2,.ptr (gz+1) 0),(25,vL pb qm qd),(26,vI (qm:Int)),(27,vI (i.1.length:Int))],mkH [(gz,bK 26 3 [vL pa vn qc,vL pb qm qd,vL pd qt qe]),(gz+1,bK 80 3 [vI 0,vI 0,vI 0])],gz+2,[]⟩) ([],p.mutexes) ⟨rfl,rfl,hN⟩ (by kernel_rfl)
    (fun h=>gU _ [(1,.ptr gz 0),(2,.ptr (gz+1) 0),(25,vL pb qm qd),(26,vI (qm:Int)),(27,vI (([]:List (List UInt8)).length:Int))] [(gz,bK 26 3 [vL pa vn qc,vL pb qm qd,vL pd qt qe]),(gz+1,bK 80 3 [vI 0,vI 0,vI 0])] (gz+2) (gA hγ0) h) ?_
   rintro ⟨l1,l2⟩ Bc wc ⟨hsp,hany,hN0⟩ ih
   have hsp:p.mutexes=l1++l2:=hsp
   have hany:(l1.any fun v=>!(okD ⟨[],[v],[]⟩))=false:=hany
   have hN:WkI w Bc wc:=hN0
   clear hN0
   have hn2:qm=l1.length+l2.length:=by rw [hpnm,hsp,List.length_append]
   refine rk ?_
   cases l2 with
   | cons v l3=>
     have hin:l1.length<qm:=by rw [hn2,List.length_cons];omega
     have hxt2:=hyt
     rw [hsp] at hxt2
     obtain ⟨c,hc,hcell⟩:=hxt2.at_ (fun _ _ h=>by rw [h];rfl)
     have hc0:=hc
     have hsl0:=(hys.keep hN.keep).mono hN.old
     refine kx (l1.length:Int) (qm:Int) (by omega) ?_
     refine rk ?_
     have hc:c=[nT v]:=hc
     subst hc
     refine gI 23 9 qd l1.length hsl0 hin ?_
     refine rk ?_
     refine gL 9 (nT v) l1.length 0 hsl0 (hcell 0 _ rfl) ?_
     refine rs [33] 60 0 ?_
     refine good_giveC 32 (gz+2) 9 1 1 [nT v] (by kernel_rfl) (by kernel_rfl) rfl (fun k1 cap1 w1 B1 hk1 hB01 hB1 hs1=>?_)
     have hN1:WkI w B1 w1:=hN.step hk1 hB01 hB1
     refine rk ?_
     refine gX [.agg #[.slice none 0 0,.slice (some ⟨k1,0,none⟩) 1 cap1,.slice none 0 0]] (.bool (okD ⟨[],[v],[]⟩)) (fun V hk=>cprinted_any ⟨[],[v],[]⟩ V (ht.below (hN1.to hk).below) (by have:=sumN_mem (μ:=txB) (mem_mid hsp);simp only [pgB,sumN] at hB ⊢;omega) (pgR_mx v) (pg_mx hc0 ((hs1.keep hk).mono (hN1.lt' hk)))) ?_
     refine rk ?_
     rcases Bool.eq_false_or_eq_true (okD ⟨[],[v],[]⟩) with ho | ho
     rotate_left
     ·
      refine gK true (b:=!(okD ⟨[],[v],[]⟩)) (by rw [ho];rfl) ?_
      refine run_ok (sy_cx _ _) 500 [] 60 2 ?_
      exact gR (.agg #[nI 2,nI (-1),nI (-1)]) (fun V hk=>⟨by unfold oddD;rw [if_neg (by rw [hsh];decide),if_pos (List.any_eq_true.2 ⟨v,mem_mid hsp,by rw [ho];rfl⟩)];rfl,(hN1.to hk).below⟩)
     refine gK false (b:=!(okD ⟨[],[v],[]⟩)) (by rw [ho];rfl) ?_
     refine rs [] 60 2 ?_
     refine gJ 27 l1 v (by omega) ?_
     exact gU _ [(1,.ptr gz 0),(2,.ptr (gz+1) 0),(25,vL pb qm qd),(26,vI (qm:Int)),(27,vI ((l1++[v]).length:Int))] [(gz,bK 26 3 [vL pa vn qc,vL pb qm qd,vL pd qt qe]),(gz+1,bK 80 3 [vI 0,vI 0,vI 0])] (gz+2) (gA hγ0) (ih (l1++[v],l3) B1 w1 ⟨by show p.mutexes=(l1++[_])++l3;rw [hsp];simp,by show ((l1++[v]).any fun v=>!(okD ⟨[],[v],[]⟩))=false;rw [List.any_append,hany];simp [ho],hN1⟩ lS1)
   | nil=>
     have hn3:qm=l1.length:=by rw [hn2];simp
     have hl1:l1=p.mutexes:=by rw [hsp];simp
     refine ky (l1.length:Int) (qm:Int) (by omega) ?_
     subst hl1
     have hmx:=hany
     clear ih hn2 hn3 hany hsp
     refine rk ?_
     have hdef:oddD p=thrF odT 0 p.threads:=by unfold oddD;rw [if_neg (by rw [hsh];decide),if_neg (by rw [hmx];decide)]
     rw [hdef]
     refine good_toLp ?_
     refine good_loopB (fun i:List Th×List Th=>i.2.length) (fun i B w1=>p.threads=i.1++i.2∧thrF odT 0 p.threads=thrF odT i.1.length i.2∧WkI w B w1) (fun i=>⟨mkT [(1,.ptr gz 0),(2,.ptr (gz+1) 0),(39,vL pd qt qe),(40,vI (qt:Int)),(41,vI (i.1.length:Int))],mkH [(gz,bK 26 3 [vL pa vn qc,vL pb qm qd,vL pd qt qe]),(gz+1,bK 80 3 [vI 0,vI 0,vI 0])],gz+2,[]⟩) ([],p.threads) ⟨rfl,rfl,hN⟩ (by kernel_rfl)
      (fun h=>gU _ [(1,.ptr gz 0),(2,.ptr (gz+1) 0),(39,vL pd qt qe),(40,vI (qt:Int)),(41,vI (([]:List Th).length:Int))] [(gz,bK 26 3 [vL pa vn qc,vL pb qm qd,vL pd qt qe]),(gz+1,bK 80 3 [vI 0,vI 0,vI 0])] (gz+2) (gA hγ0) h) ?_
     rintro ⟨l1,l2⟩ Bc wc ⟨hsp,hth,hN0⟩ ih
     have hsp:p.threads=l1++l2:=hsp
     have hth:thrF odT 0 p.threads=thrF odT l1.length l2:=hth
     have hN:WkI w Bc wc:=hN0
     clear hN0
     have hn2:qt=l1.length+l2.length:=by rw [hpnt,hsp,List.length_append]
     refine rk ?_
     cases l2 with
     | nil=>
       have hn3:qt=l1.length:=by rw [hn2];simp
       refine ky (l1.length:Int) (qt:Int) (by omega) ?_
       refine run_ok (sy_cx _ _) 500 [] 60 2 ?_
       exact gR (.agg #[nI 0,nI (-1),nI (-1)]) (fun V hk=>⟨by rw [hth];rfl,(hN.to hk).below⟩)
     | cons th0 l3=>
       have hin:l1.length<qt:=by rw [hn2,List.length_cons];omega
       have hget:p.threads[l1.length]?=some th0:=by rw [hsp];simp
       have hbt:=Nat.le_trans (swts_body hsp) hbw
       have hmem:th0∈p.threads:=mem_mid hsp
       have hBt:thB th0≤80000000:=by have:=sumN_mem (μ:=thB) hmem;simp only [pgB] at hB;omega
       have hRt:=hR.2 th0 hmem
       have hzt2:=hzt
       rw [hsp] at hzt2
       obtain ⟨c,hc,hcell⟩:=hzt2.at_ (fun _ _ h=>h.len)
       obtain ⟨la,lcap,lxs,lb,lcap2,lys,rfl,hls,hlt,hbs,hbt2⟩:=hc
       obtain ⟨ln,hln⟩:∃ n,n=th0.locals.length:=⟨_,rfl⟩
       rw [← hln] at hcell hls
       have hsl0:=(hzs.keep hN.keep).mono hN.old
       refine kx (l1.length:Int) (qt:Int) (by omega) ?_
       refine rk ?_
       refine gI 24 58 qe l1.length hsl0 hin ?_
       refine rk ?_
       refine gD 58 3 [nT th0.name,.slice la ln lcap,.slice lb th0.body.length lcap2] l1.length 0 hsl0 rfl hcell ?_
       refine rs [52] 60 0 ?_
       refine good_giveC 51 (gz+3) 58 3 1 [nT th0.name,.slice la ln lcap,.slice none 0 0] (by kernel_rfl) (by kernel_rfl) rfl (fun k1 cap1 w1 B1 hk1 hB01 hB1 hs1=>?_)
       have hN1:WkI w B1 w1:=hN.step hk1 hB01 hB1
       refine rk ?_
       refine gX [.agg #[.slice none 0 0,.slice none 0 0,.slice (some ⟨k1,0,none⟩) 1 cap1]] (.bool (okD ⟨[],[],[⟨th0.name,th0.locals,[]⟩]⟩)) (fun V hk=>cprinted_any ⟨[],[],[⟨th0.name,th0.locals,[]⟩]⟩ V (ht.below (hN1.to hk).below) (by simp only [pgB,sumN,thB,stBs] at hBt ⊢;omega) (pgR_tl hRt)
        (pg_th ⟨la,lcap,lxs,none,0,[],by rw [hln];rfl,by rw [← hln];exact (hls.keep (hN1.to hk)).mono (hN1.up hk),hlt,sl_nil _ _ _ _,rfl⟩ ((hs1.keep hk).mono (hN1.lt' hk)))) ?_
       refine rk ?_
       rcases Bool.eq_false_or_eq_true (okD ⟨[],[],[⟨th0.name,th0.locals,[]⟩]⟩) with ho | ho
       rotate_left
       ·
        refine gK true (b:=!(okD ⟨[],[],[⟨th0.name,th0.locals,[]⟩]⟩)) (by rw [ho];rfl) ?_
        refine run_ok (sy_cx _ _) 500 [] 60 2 ?_
        exact gR (.agg #[nI 2,nI (l1.length:Int),nI (-1)]) (fun V hk=>⟨by rw [hth];simp only [thrF];have e:odT l1.length th0=(2,(l1.length:Int),-1):=(by unfold odT;rw [if_pos ho]);rw [e,if_neg (show ¬ (2:Int)=0 by decide)];rfl,(hN1.to hk).below⟩)
       refine gK false (b:=!(okD ⟨[],[],[⟨th0.name,th0.locals,[]⟩]⟩)) (by rw [ho];rfl) ?_
       refine rs [59] 60 0 ?_
       obtain ⟨sp,hsp2⟩:∃ sp,sp=odT l1.length th0:=⟨_,rfl⟩
       have hsp3:sp=spotF odF (l1.length:Int) th0.body:=by rw [hsp2];unfold odT;rw [if_neg (by rw [ho];decide)]
       refine gN [.agg #[.slice pa vn qc,.slice pb qm qd,.slice pd qt qe],nI (l1.length:Int),.func (.func 170) #[] #[]] (fun v=>v=spV sp) (fun V hk=>(cfirst_any p l1.length th0 170 #[] odF V hbd hpnt ((hzs.keep (hN1.to hk)).mono (hN1.up hk)) (hzt.imp fun _ _ h=>h.keep (hN1.to hk) (hN1.up hk)) hget hbt
        (fstC_0 (by kernel_rfl) 0 0 (l1.length:Int) (fun s d hs c W hkW hst=>codd1_any s c d W (ht.below ((hN1.to hk).trans (hkW.mono (hN1.up hk))).below) hst (by have:=(flatL_swt 0 _ s d hs).2;simp only [thB] at hBt;omega) (stR_flatL 0 _ hRt.2 s d hs)))).mono fun e w' h=>⟨_,h.1,by rw [hsp3],h.2⟩) ?_
       rintro v w3 rfl hk3
       refine rk ?_
       by_cases hs0:sp.1=0
       rotate_left
       ·
        refine gK true (b:=!(intEq sp.1 0)) (by rw [eq_f hs0];rfl) ?_
        refine rs [] 60 2 ?_
        exact gR (spV sp) (fun V hk=>⟨by rw [hth];simp only [thrF];rw [← hsp2,if_neg hs0],(hN1.to hk).below⟩)
       refine gK false (b:=!(intEq sp.1 0)) (by rw [eq_t hs0];rfl) ?_
       refine rs [] 60 2 ?_
       refine gJ 41 l1 th0 (by omega) ?_
       exact gU _ [(1,.ptr gz 0),(2,.ptr (gz+1) 0),(39,vL pd qt qe),(40,vI (qt:Int)),(41,vI ((l1++[th0]).length:Int))] [(gz,bK 26 3 [vL pa vn qc,vL pb qm qd,vL pd qt qe]),(gz+1,bK 80 3 [vI 0,vI 0,vI 0])] (gz+2) (gA hγ0) (ih (l1++[th0],l3) B1 w1 ⟨by show p.threads=(l1++[_])++l3;rw [hsp];simp,by show thrF odT 0 p.threads=thrF odT (l1++[th0]).length l3;rw [hth];simp only [thrF,List.length_append,List.length_cons,List.length_nil];rw [← hsp2,if_pos hs0],hN1⟩ lS1)
end
section
set_option maxRecDepth 100000
def ownF (own:List (List UInt8)):List UInt8→Option Value:=fun s=>if s∈own then some (.bool true) else none
structure OwI (w:World) (ko:Nat) (own:List (List UInt8)) (B:Nat→Prop) (w1:World):Prop where
 wk:WkI w B w1
 has:B ko
 mp:MpAt (·=ko) w1 ko (ownF own)
theorem own_up {w:World} {k:Nat} {own:List (List UInt8)} {s:List UInt8} (h:∀ F':Nat→Prop,F' k→MpAt F' w k fun x=>if x=s then some (.bool true) else ownF own x):MpAt (·=k) w k (ownF (s::own)):=by
 have:=h (·=k) rfl
 have e:(fun x=>if x=s then some (Value.bool true) else ownF own x)=ownF (s::own):=by
  funext x
  unfold ownF
  by_cases h1:x=s
  · rw [if_pos h1,if_pos (by rw [h1];exact List.mem_cons_self)]
  · rw [if_neg h1]
    by_cases h2:x∈own
    · rw [if_pos h2,if_pos (List.mem_cons_of_mem _ h2)]
    · rw [if_neg h2,if_neg (fun h=>(List.mem_cons.1 h).elim h1 h2)]
 rw [← e]
 exact this
open Go.Sy
theorem clocals_any (th0:Th) (th:Thg) (km:Nat) {la lb:Option Addr} {ln lm lcap lcap2:Nat} {lxs:List Value} (w:World) (hm:ThgAt (·<w.heap.size) w km th) (hln:ln=th0.locals.length) (hbl:ln≤1000000000000) (hls:SlAt (·<w.heap.size) w la ln 3 lxs) (hlt:LsAt VrAt th0.locals lxs):
  CB 171 #[.map (some km),.agg #[nT th0.name,.slice la ln lcap,.slice lb lm lcap2]] w (.bool (lcB th [] th0.locals)):=by
 refine eN [.map (some km),.agg #[nT th0.name,.slice la ln lcap,.slice lb lm lcap2]] Tryz.func171 (fun γ0 hγ0=>?_)
 refine rs [11] 60 0 ?_
 refine good_giveMp 5 (gz+1) (by kernel_rfl) (by kernel_rfl) (fun ko w1 B1 hk1 hB01 hBk hnB hB1 hnew=>?_)
 have hnk:w.heap.size≤ko:=Nat.le_of_not_lt hnB
 have hI0:OwI w ko [] B1 w1:=⟨⟨hk1,hB01,hB1⟩,hBk,by
  have:=MpAt.new (F:=(·=ko)) rfl hnew
  have e:(fun _=>none)=ownF []:=by funext x;simp [ownF]
  rw [← e];exact this⟩
 refine rk ?_
 refine good_toLp ?_
 refine good_loopB (fun i:List Vr×List Vr=>i.2.length) (fun i B w1=>th0.locals=i.1++i.2∧∃ own,lcB th [] th0.locals=lcB th own i.2∧OwI w ko own B w1) (fun i=>⟨mkT [(0,.v (.map (some km))),(3,.ptr gz 0),(4,vB false),(5,.v (.map (some ko))),(11,vL la ln lcap),(12,vI (ln:Int)),(13,vI (i.1.length:Int))],mkH [(gz,bK 58 3 [vT th0.name,vL la ln lcap,vL lb lm lcap2])],gz+2,[]⟩) ([],th0.locals) ⟨rfl,[],rfl,hI0⟩ (by kernel_rfl)
  (fun h=>gU _ [(0,.v (.map (some km))),(3,.ptr gz 0),(4,vB false),(5,.v (.map (some ko))),(11,vL la ln lcap),(12,vI (ln:Int)),(13,vI (([]:List Vr).length:Int))] [(gz,bK 58 3 [vT th0.name,vL la ln lcap,vL lb lm lcap2])] (gz+2) (gA hγ0) h) ?_
 clear hI0
 rintro ⟨l1,l2⟩ Bc wc ⟨hsp,own,hlc,hN0⟩ ih
 have hsp:th0.locals=l1++l2:=hsp
 have hlc:lcB th [] th0.locals=lcB th own l2:=hlc
 have hN:OwI w ko own Bc wc:=hN0
 clear hN0
 have hn2:ln=l1.length+l2.length:=by rw [hln,hsp,List.length_append]
 rw [hlc]
 refine rk ?_
 cases l2 with
 | nil=>
   have hn3:ln=l1.length:=by rw [hn2];simp
   refine ky (l1.length:Int) (ln:Int) (by omega) ?_
   refine rs [] 60 2 ?_
   exact gR (.bool false) (fun V hk=>⟨rfl,(hN.wk.to hk).below⟩)
 | cons v l3=>
   have hin:l1.length<ln:=by rw [hn2,List.length_cons];omega
   have hxt2:=hlt
   rw [hsp] at hxt2
   obtain ⟨c,hc,hcell⟩:=hxt2.at_ (fun _ _ h=>VrAt.len h)
   have hsl0:=(hls.keep hN.wk.keep).mono hN.wk.old
   have hc:c=[nT v.name,.int .u8 v.ty,.int .u64 v.bits]:=hc
   subst hc
   refine kx (l1.length:Int) (ln:Int) (by omega) ?_
   refine rk ?_
   refine gI 22 67 lcap l1.length hsl0 hin ?_
   refine rk ?_
   refine gD 67 3 [nT v.name,.int .u8 v.ty,.int .u64 v.bits] l1.length 0 hsl0 rfl hcell ?_
   refine rk ?_
   refine gV (.agg #[nI (thOf th v.name).1,.int .u8 (thOf th v.name).2]) (S:=Instr.lookup 146 (.map (some km)) (nT v.name) false) (fun W hk=>thg_look hm v.name (hN.wk.to hk)) ?_
   refine rk ?_
   have hlk:∀ W,Keep Bc wc W→(Instr.lookup 239 (.map (some ko)) (nT v.name) false).run Tryz.prog W = .ok ((ownF own v.name).getD (.bool false)) W:=fun W hk=>map_lookup (kt:=9) (et:=4) (z := .bool false) (by kernel_rfl) (by kernel_rfl) (by kernel_rfl) hN.mp v.name (hk.mono fun k h=>h ▸ hN.has)
   by_cases hq:v.name∈own
   ·
    refine gV (.bool true) (S:=Instr.lookup 239 (.map (some ko)) (nT v.name) false) (fun W hk=>by rw [hlk W hk];unfold ownF;rw [if_pos hq];rfl) ?_
    refine rs [] 60 2 ?_
    exact gR (.bool true) (fun V hk=>⟨by simp only [lcB];rw [if_pos (.inl hq)],(hN.wk.to hk).below⟩)
   refine gV (.bool false) (S:=Instr.lookup 239 (.map (some ko)) (nT v.name) false) (fun W hk=>by rw [hlk W hk];unfold ownF;rw [if_neg hq];rfl) ?_
   refine rs [31] 60 0 ?_
   by_cases h1:(thOf th v.name).1=1
   ·
    refine gS 28 (x := .bool (intEq (thOf th v.name).1 1)) (.bool true) (by rw [eq_t h1]) ?_
    refine gS 29 (x := .bool (intEq (thOf th v.name).1 1)) (.bool true) (by rw [eq_t h1]) ?_
    refine gS 30 (x := .bool (intEq (thOf th v.name).1 1)) (.bool true) (by rw [eq_t h1]) ?_
    refine rs [] 60 2 ?_
    exact gR (.bool true) (fun V hk=>⟨by simp only [lcB];rw [if_pos (.inr (.inl h1))],(hN.wk.to hk).below⟩)
   refine gS 28 (x := .bool (intEq (thOf th v.name).1 1)) (.bool false) (by rw [eq_f h1]) ?_
   refine gS 29 (x := .bool (intEq (thOf th v.name).1 1)) (.bool false) (by rw [eq_f h1]) ?_
   refine gS 30 (x := .bool (intEq (thOf th v.name).1 1)) (.bool false) (by rw [eq_f h1]) ?_
   refine rk ?_
   by_cases h3:(thOf th v.name).1=3
   ·
    refine kz (thOf th v.name).1 3 h3 ?_
    refine rs [] 60 2 ?_
    exact gR (.bool true) (fun V hk=>⟨by simp only [lcB];rw [if_pos (.inr (.inr h3))],(hN.wk.to hk).below⟩)
   refine kw (thOf th v.name).1 3 h3 ?_
   refine rk ?_
   refine good_mapW 239 (.map (some ko)) (nT v.name) (.bool true) (ay:=vB true) (·=ko) (by kernel_rfl) (by kernel_rfl) (by kernel_rfl) (fun k hk=>hk ▸ hN.has) (fun W hk=>map_update (kt:=9) (et:=4) (by kernel_rfl) (by kernel_rfl) hN.mp v.name _ (hk.mono fun k hk=>hk ▸ hN.has)) ?_
   intro wa wb Bd hka hmp hkk hkF hBd hBd'
   have hN2:OwI w ko (v.name::own) Bd wb:=⟨⟨hN.wk.keep.trans (hkF.mono fun k h=>⟨hN.wk.old k h,fun e=>Nat.not_lt.2 hnk (e ▸ h)⟩),fun k h=>hBd k (hN.wk.old k h),hBd'⟩,hBd _ hN.has,own_up hmp⟩
   refine rk ?_
   refine gJ 13 l1 v (by omega) ?_
   rw [← hlc]
   exact gU _ [(0,.v (.map (some km))),(3,.ptr gz 0),(4,vB false),(5,.v (.map (some ko))),(11,vL la ln lcap),(12,vI (ln:Int)),(13,vI ((l1++[v]).length:Int))] [(gz,bK 58 3 [vT th0.name,vL la ln lcap,vL lb lm lcap2])] (gz+2) (gA hγ0) (ih (l1++[v],l3) Bd wb ⟨by show th0.locals=(l1++[_])++l3;rw [hsp];simp,v.name::own,by show lcB th [] th0.locals=lcB th (v.name::own) l3;rw [hlc];simp only [lcB];rw [if_neg (fun h=>h.elim hq (fun h=>h.elim h1 h3))],hN2⟩ lS1)
theorem ctwice_any (p:Pg) {pa pb pd:Option Addr} {vn qm qt qc qd qe:Nat} {xs ys zs:List Value} (w:World) (hpns:vn=p.shared.length) (hpnm:qm=p.mutexes.length) (hpnt:qt=p.threads.length) (hbd:qt≤1000000000000)
  (hxs:SlAt (·<w.heap.size) w pa vn 3 xs) (hxt:LsAt VrAt p.shared xs) (hys:SlAt (·<w.heap.size) w pb qm 1 ys) (hyt:LsAt TxAt p.mutexes ys) (hzs:SlAt (·<w.heap.size) w pd qt 3 zs) (hzt:LsAt (ThAt (·<w.heap.size) w) p.threads zs) (hbw:thws p.threads≤1000000000000) (hbs:vn≤1000000000000∧qm≤1000000000000):
  CB 97 #[.agg #[.slice pa vn qc,.slice pb qm qd,.slice pd qt qe]] w (spV (twiceD p)):=by
 refine eN [.agg #[.slice pa vn qc,.slice pb qm qd,.slice pd qt qe]] Tryz.func97 (fun γ0 hγ0=>?_)
 refine rs [12] 60 0 ?_
 refine good_giveMp 3 (gz+2) (by kernel_rfl) (by kernel_rfl) (fun km w1 B1 hk1 hB01 hBk hnB hB1 hnew=>?_)
 have hnk:w.heap.size≤km:=Nat.le_of_not_lt hnB
 have hN:NmI w km (fun _=>none) B1 w1:=⟨hk1,hB01,hB1,hBk,MpAt.new (F:=(·=km)) rfl hnew⟩
 refine rk ?_
 refine good_toLp ?_
 refine good_loopB (fun i:List Vr×List Vr=>i.2.length) (fun i B w1=>p.shared=i.1++i.2∧∃ th,twV (fun _=>none) p.shared=twV th i.2∧NmI w km th B w1) (fun i=>⟨mkT [(1,.ptr gz 0),(2,.ptr (gz+1) 0),(3,.v (.map (some km))),(12,vL pa vn qc),(13,vI (vn:Int)),(14,vI (i.1.length:Int))],mkH [(gz,bK 26 3 [vL pa vn qc,vL pb qm qd,vL pd qt qe]),(gz+1,bK 80 3 [vI 0,vI 0,vI 0])],gz+3,[]⟩) ([],p.shared) ⟨rfl,_,rfl,hN⟩ (by kernel_rfl)
  (fun h=>gU _ [(1,.ptr gz 0),(2,.ptr (gz+1) 0),(3,.v (.map (some km))),(12,vL pa vn qc),(13,vI (vn:Int)),(14,vI (([]:List Vr).length:Int))] [(gz,bK 26 3 [vL pa vn qc,vL pb qm qd,vL pd qt qe]),(gz+1,bK 80 3 [vI 0,vI 0,vI 0])] (gz+3) (gA hγ0) h) ?_
 clear hN
 rintro ⟨l1,l2⟩ Bc wc ⟨hsp,th,htw,hN0⟩ ih
 have hsp:p.shared=l1++l2:=hsp
 have htw:twV (fun _=>none) p.shared=twV th l2:=htw
 have hN:NmI w km th Bc wc:=hN0
 clear hN0
 have hn2:vn=l1.length+l2.length:=by rw [hpns,hsp,List.length_append]
 refine rk ?_
 cases l2 with
 | cons v l3=>
   have hin:l1.length<vn:=by rw [hn2,List.length_cons];omega
   have hxt2:=hxt
   rw [hsp] at hxt2
   obtain ⟨c,hc,hcell⟩:=hxt2.at_ (fun _ _ h=>VrAt.len h)
   have hsl0:=(hxs.keep hN.keep).mono hN.old
   refine kx (l1.length:Int) (vn:Int) (by omega) ?_
   refine rk ?_
   have hc:c=[nT v.name,.int .u8 v.ty,.int .u64 v.bits]:=hc
   subst hc
   refine gI 22 67 qc l1.length hsl0 hin ?_
   refine rk ?_
   refine gD 67 3 [nT v.name,.int .u8 v.ty,.int .u64 v.bits] l1.length 0 hsl0 rfl hcell ?_
   refine rk ?_
   refine gV (.agg #[nI (thOf th v.name).1,.int .u8 (thOf th v.name).2]) (S:=Instr.lookup 146 (.map (some km)) (nT v.name) false) (fun W hk=>thg_look hN.thg v.name (hk.mono fun k h=>h ▸ hN.has)) ?_
   refine rk ?_
   by_cases hq:(thOf th v.name).1=0
   rotate_left
   ·
    refine gK true (b:=!(intEq (thOf th v.name).1 0)) (by rw [eq_f hq];rfl) ?_
    refine run_ok (sy_cx _ _) 500 [] 60 2 ?_
    exact gR (.agg #[nI 7,nI (-1),nI (-1)]) (fun V hk=>⟨by have e:twV (fun _=>none) p.shared=none:=(by rw [htw];simp only [twV];rw [if_neg hq]);unfold twiceD;rw [e];rfl,(hN.keep.trans (hk.mono hN.old)).below⟩)
   refine gK false (b:=!(intEq (thOf th v.name).1 0)) (by rw [eq_t hq];rfl) ?_
   refine rk ?_
   refine good_mapW 146 (.map (some km)) (nT v.name) (.agg #[nI 1,.int .u8 v.ty]) (ay:=norm (.agg #[nI 1,.int .u8 v.ty])) (·=km) (by kernel_rfl) (by kernel_rfl) (by kernel_rfl) (fun k hk=>hk ▸ hN.has) (fun W hk=>map_update (kt:=9) (et:=201) (by kernel_rfl) (by kernel_rfl) hN.thg v.name _ (hk.mono fun k hk=>hk ▸ hN.has)) ?_
   intro wa wb Bd hka hmp hkk hkF hBd hBd'
   have hN2:NmI w km (upT th v.name (1,v.ty)) Bd wb:=hN.step hnk hkF hBd hBd' (upT_at hmp)
   refine rk ?_
   refine gJ 14 l1 v (by omega) ?_
   exact gU _ [(1,.ptr gz 0),(2,.ptr (gz+1) 0),(3,.v (.map (some km))),(12,vL pa vn qc),(13,vI (vn:Int)),(14,vI ((l1++[v]).length:Int))] [(gz,bK 26 3 [vL pa vn qc,vL pb qm qd,vL pd qt qe]),(gz+1,bK 80 3 [vI 0,vI 0,vI 0])] (gz+3) (gA hγ0) (ih (l1++[v],l3) Bd wb ⟨by show p.shared=(l1++[_])++l3;rw [hsp];simp,upT th v.name (1,v.ty),by show twV (fun _=>none) p.shared=twV (upT th v.name (1,v.ty)) l3;rw [htw];simp only [twV];rw [if_pos hq],hN2⟩ lS1)
 | nil=>
   have hn3:vn=l1.length:=by rw [hn2];simp
   refine ky (l1.length:Int) (vn:Int) (by omega) ?_
   have hsh:twV (fun _=>none) p.shared=some th:=htw
   have hth1:∃ t1,t1=th:=⟨_,rfl⟩
   obtain ⟨t1,ht1⟩:=hth1
   rw [← ht1] at hsh hN
   clear ih hn2 hn3 htw hsp ht1
   refine rk ?_
   refine good_toLp ?_
   refine good_loopB (fun i:List (List UInt8)×List (List UInt8)=>i.2.length) (fun i B w1=>p.mutexes=i.1++i.2∧∃ th,twM t1 p.mutexes=twM th i.2∧NmI w km th B w1) (fun i=>⟨mkT [(1,.ptr gz 0),(2,.ptr (gz+1) 0),(3,.v (.map (some km))),(34,vL pb qm qd),(35,vI (qm:Int)),(36,vI (i.1.length:Int))],mkH [(gz,bK 26 3 [vL pa vn qc,vL pb qm qd,vL pd qt qe]),(gz+1,bK 80 3 [vI 0,vI 0,vI 0])],gz+3,[]⟩) ([],p.mutexes) ⟨rfl,_,rfl,hN⟩ (by kernel_rfl)
    (fun h=>gU _ [(1,.ptr gz 0),(2,.ptr (gz+1) 0),(3,.v (.map (some km))),(34,vL pb qm qd),(35,vI (qm:Int)),(36,vI (([]:List (List UInt8)).length:Int))] [(gz,bK 26 3 [vL pa vn qc,vL pb qm qd,vL pd qt qe]),(gz+1,bK 80 3 [vI 0,vI 0,vI 0])] (gz+3) (gA hγ0) h) ?_
   clear hN
   rintro ⟨l1,l2⟩ Bc wc ⟨hsp,th,htw,hN0⟩ ih
   have hsp:p.mutexes=l1++l2:=hsp
   have htw:twM t1 p.mutexes=twM th l2:=htw
   have hN:NmI w km th Bc wc:=hN0
   clear hN0
   have hn2:qm=l1.length+l2.length:=by rw [hpnm,hsp,List.length_append]
   refine rk ?_
   cases l2 with
   | cons v l3=>
     have hin:l1.length<qm:=by rw [hn2,List.length_cons];omega
     have hxt2:=hyt
     rw [hsp] at hxt2
     obtain ⟨c,hc,hcell⟩:=hxt2.at_ (fun _ _ h=>by rw [h];rfl)
     have hsl0:=(hys.keep hN.keep).mono hN.old
     refine kx (l1.length:Int) (qm:Int) (by omega) ?_
     refine rk ?_
     have hc:c=[nT v]:=hc
     subst hc
     refine gI 23 9 qd l1.length hsl0 hin ?_
     refine rk ?_
     refine gL 9 (nT v) l1.length 0 hsl0 (hcell 0 _ rfl) ?_
     refine rk ?_
     refine gV (.agg #[nI (thOf th v).1,.int .u8 (thOf th v).2]) (S:=Instr.lookup 146 (.map (some km)) (nT v) false) (fun W hk=>thg_look hN.thg v (hk.mono fun k h=>h ▸ hN.has)) ?_
     refine rk ?_
     by_cases hq:(thOf th v).1=0
     rotate_left
     ·
      refine gK true (b:=!(intEq (thOf th v).1 0)) (by rw [eq_f hq];rfl) ?_
      refine run_ok (sy_cx _ _) 500 [] 60 2 ?_
      exact gR (.agg #[nI 7,nI (-1),nI (-1)]) (fun V hk=>⟨by have e:twM t1 p.mutexes=none:=(by rw [htw];simp only [twM];rw [if_neg hq]);unfold twiceD;rw [hsh];simp only;rw [e];rfl,(hN.keep.trans (hk.mono hN.old)).below⟩)
     refine gK false (b:=!(intEq (thOf th v).1 0)) (by rw [eq_t hq];rfl) ?_
     refine rk ?_
     refine good_mapW 146 (.map (some km)) (nT v) (.agg #[nI 3,.int .u8 0]) (ay:=norm (.agg #[nI 3,.int .u8 0])) (·=km) (by kernel_rfl) (by kernel_rfl) (by kernel_rfl) (fun k hk=>hk ▸ hN.has) (fun W hk=>map_update (kt:=9) (et:=201) (by kernel_rfl) (by kernel_rfl) hN.thg v _ (hk.mono fun k hk=>hk ▸ hN.has)) ?_
     intro wa wb Bd hka hmp hkk hkF hBd hBd'
     have hN2:NmI w km (upT th v (3,0)) Bd wb:=hN.step hnk hkF hBd hBd' (upT_at hmp)
     refine rk ?_
     refine gJ 36 l1 v (by omega) ?_
     exact gU _ [(1,.ptr gz 0),(2,.ptr (gz+1) 0),(3,.v (.map (some km))),(34,vL pb qm qd),(35,vI (qm:Int)),(36,vI ((l1++[v]).length:Int))] [(gz,bK 26 3 [vL pa vn qc,vL pb qm qd,vL pd qt qe]),(gz+1,bK 80 3 [vI 0,vI 0,vI 0])] (gz+3) (gA hγ0) (ih (l1++[v],l3) Bd wb ⟨by show p.mutexes=(l1++[_])++l3;rw [hsp];simp,upT th v (3,0),by show twM t1 p.mutexes=twM (upT th v (3,0)) l3;rw [htw];simp only [twM];rw [if_pos hq],hN2⟩ lS1)
   | nil=>
     have hn3:qm=l1.length:=by rw [hn2];simp
     refine ky (l1.length:Int) (qm:Int) (by omega) ?_
     have hmx:twM t1 p.mutexes=some th:=htw
     have hth2:∃ t2,t2=th:=⟨_,rfl⟩
     obtain ⟨t2,ht2⟩:=hth2
     rw [← ht2] at hmx hN
     clear ih hn2 hn3 htw hsp ht2
     have hdef:twiceD p=twT 0 t2 p.threads:=by unfold twiceD;rw [hsh];simp only;rw [hmx]
     rw [hdef]
     refine rk ?_
     refine good_toLp ?_
     refine good_loopB (fun i:List Th×List Th=>i.2.length) (fun i B w1=>p.threads=i.1++i.2∧∃ th,twT 0 t2 p.threads=twT i.1.length th i.2∧NmI w km th B w1) (fun i=>⟨mkT [(1,.ptr gz 0),(2,.ptr (gz+1) 0),(3,.v (.map (some km))),(51,vL pd qt qe),(52,vI (qt:Int)),(53,vI (i.1.length:Int))],mkH [(gz,bK 26 3 [vL pa vn qc,vL pb qm qd,vL pd qt qe]),(gz+1,bK 80 3 [vI 0,vI 0,vI 0])],gz+3,[]⟩) ([],p.threads) ⟨rfl,_,rfl,hN⟩ (by kernel_rfl)
      (fun h=>gU _ [(1,.ptr gz 0),(2,.ptr (gz+1) 0),(3,.v (.map (some km))),(51,vL pd qt qe),(52,vI (qt:Int)),(53,vI (([]:List Th).length:Int))] [(gz,bK 26 3 [vL pa vn qc,vL pb qm qd,vL pd qt qe]),(gz+1,bK 80 3 [vI 0,vI 0,vI 0])] (gz+3) (gA hγ0) h) ?_
     clear hN
     rintro ⟨l1,l2⟩ Bc wc ⟨hsp,th,htw,hN0⟩ ih
     have hsp:p.threads=l1++l2:=hsp
     have htw:twT 0 t2 p.threads=twT l1.length th l2:=htw
     have hN:NmI w km th Bc wc:=hN0
     clear hN0
     have hn2:qt=l1.length+l2.length:=by rw [hpnt,hsp,List.length_append]
     refine rk ?_
     cases l2 with
     | cons th0 l3=>
       have hin:l1.length<qt:=by rw [hn2,List.length_cons];omega
       have hxt2:=hzt
       rw [hsp] at hxt2
       obtain ⟨c,hc,hcell⟩:=hxt2.at_ (fun _ _ h=>h.len)
       have hsl0:=(hzs.keep hN.keep).mono hN.old
       refine kx (l1.length:Int) (qt:Int) (by omega) ?_
       refine rk ?_
       have hmem:th0∈p.threads:=mem_mid hsp
       obtain ⟨la,lcap,lxs,lb,lcap2,lys,rfl,hls,hlt,hbs,hbt2⟩:=hc
       obtain ⟨ln,hln⟩:∃ n,n=th0.locals.length:=⟨_,rfl⟩
       have hbl:ln≤1000000000000:=by have:=thws_mid hsp;simp only [thws,thw] at this;omega
       rw [← hln] at hcell hls
       refine gI 24 58 qe l1.length hsl0 hin ?_
       refine rk ?_
       refine gD 58 3 [nT th0.name,.slice la ln lcap,.slice lb th0.body.length lcap2] l1.length 0 hsl0 rfl hcell ?_
       refine rk ?_
       refine gV (.agg #[nI (thOf th th0.name).1,.int .u8 (thOf th th0.name).2]) (S:=Instr.lookup 146 (.map (some km)) (nT th0.name) false) (fun W hk=>thg_look hN.thg th0.name (hk.mono fun k h=>h ▸ hN.has)) ?_
       refine rs [65] 60 0 ?_
       by_cases hq:(thOf th th0.name).1=0
       rotate_left
       ·
        refine gS 63 (x := .bool (!(intEq (thOf th th0.name).1 0))) (.bool true) (by rw [eq_f hq];rfl) ?_
        refine gS 64 (x := .bool (!(intEq (thOf th th0.name).1 0))) (.bool true) (by rw [eq_f hq];rfl) ?_
        refine run_ok (sy_cx _ _) 500 [] 60 2 ?_
        exact gR (.agg #[nI 7,nI (l1.length:Int),nI (-1)]) (fun V hk=>⟨by rw [htw];simp only [twT];rw [if_pos (.inl hq)];rfl,(hN.keep.trans (hk.mono hN.old)).below⟩)
       refine gS 63 (x := .bool (!(intEq (thOf th th0.name).1 0))) (.bool false) (by rw [eq_t hq];rfl) ?_
       refine gS 64 (x := .bool (!(intEq (thOf th th0.name).1 0))) (.bool false) (by rw [eq_t hq];rfl) ?_
       refine rk ?_
       refine gX [.map (some km),.agg #[nT th0.name,.slice la ln lcap,.slice lb th0.body.length lcap2]] (.bool (lcB th [] th0.locals)) (fun V hk=>clocals_any th0 th km V (hN.thg.keep (hk.mono fun k h=>h ▸ hN.has) (fun k h=>h ▸ Nat.lt_of_lt_of_le (hN.base _ hN.has) hk.size)) hln hbl ((hls.keep (hN.keep.trans (hk.mono hN.old))).mono fun k h=>Nat.lt_of_lt_of_le (hN.base k (hN.old k h)) hk.size) hlt) ?_
       refine rk ?_
       rcases Bool.eq_false_or_eq_true (lcB th [] th0.locals) with ho | ho
       ·
        refine gK true (b:=lcB th [] th0.locals) (ho) ?_
        refine run_ok (sy_cx _ _) 500 [] 60 2 ?_
        exact gR (.agg #[nI 7,nI (l1.length:Int),nI (-1)]) (fun V hk=>⟨by rw [htw];simp only [twT];rw [if_pos (.inr ho)];rfl,(hN.keep.trans (hk.mono hN.old)).below⟩)
       refine gK false (b:=lcB th [] th0.locals) (ho) ?_
       refine rk ?_
       refine good_mapW 146 (.map (some km)) (nT th0.name) (.agg #[nI 4,.int .u8 0]) (ay:=norm (.agg #[nI 4,.int .u8 0])) (·=km) (by kernel_rfl) (by kernel_rfl) (by kernel_rfl) (fun k hk=>hk ▸ hN.has) (fun W hk=>map_update (kt:=9) (et:=201) (by kernel_rfl) (by kernel_rfl) hN.thg th0.name _ (hk.mono fun k hk=>hk ▸ hN.has)) ?_
       intro wa wb Bd hka hmp hkk hkF hBd hBd'
       have hN2:NmI w km (upT th th0.name (4,0)) Bd wb:=hN.step hnk hkF hBd hBd' (upT_at hmp)
       refine rk ?_
       refine gJ 53 l1 th0 (by omega) ?_
       exact gU _ [(1,.ptr gz 0),(2,.ptr (gz+1) 0),(3,.v (.map (some km))),(51,vL pd qt qe),(52,vI (qt:Int)),(53,vI ((l1++[th0]).length:Int))] [(gz,bK 26 3 [vL pa vn qc,vL pb qm qd,vL pd qt qe]),(gz+1,bK 80 3 [vI 0,vI 0,vI 0])] (gz+3) (gA hγ0) (ih (l1++[th0],l3) Bd wb ⟨by show p.threads=(l1++[_])++l3;rw [hsp];simp,upT th th0.name (4,0),by show twT 0 t2 p.threads=twT (l1++[th0]).length (upT th th0.name (4,0)) l3;rw [htw];simp only [twT,List.length_append,List.length_cons,List.length_nil];rw [if_neg (fun h=>h.elim (fun h=>h hq) (fun h=>by rw [ho] at h;cases h))],hN2⟩ lS1)
     | nil=>
       have hn3:qt=l1.length:=by rw [hn2];simp
       refine ky (l1.length:Int) (qt:Int) (by omega) ?_
       refine run_ok (sy_cx _ _) 500 [] 60 2 ?_
       exact gR (.agg #[nI 0,nI (-1),nI (-1)]) (fun V hk=>⟨by rw [htw];rfl,(hN.keep.trans (hk.mono hN.old)).below⟩)
end
section
theorem firstIx_ne {ft:St→Nat→Int}:∀ {l:List (St×Nat)} {m:Nat} {er:Int} {j:Nat},firstIx ft l m=some (er,j)→er≠0
 | [],m,er,j,h=>by cases h
 | (s,d)::l,m,er,j,h=>by
   simp only [firstIx] at h
   split at h
   · exact firstIx_ne h
   · rename_i h0
     injection h with h
     injection h with h1 h2
     rw [← h1]
     exact h0
theorem firstIx_none {ft:St→Nat→Int}:∀ {l:List (St×Nat)} {m:Nat},firstIx ft l m=none→∀ s d,(s,d)∈l→ft s d=0
 | [],m,h,s,d,hs=>by simp at hs
 | (x,e)::l,m,h,s,d,hs=>by
   simp only [firstIx] at h
   split at h
   · rename_i h0
     rcases List.mem_cons.1 hs with hs | hs
     · injection hs with e1 e2
       rw [e1,e2]
       exact h0
     · exact firstIx_none h s d hs
   · cases h
theorem spotF_fine {ft:St→Nat→Int} {i:Int} {l:List St} (h:(spotF ft i l).1=0):∀ s d,(s,d)∈flatL 0 l→ft s d=0:=by
 unfold spotF at h
 split at h
 · rename_i er j hf
   exact (firstIx_ne hf h).elim
 · rename_i hf
   exact firstIx_none hf
theorem thrF_fine {f:Nat→Th→Spt}:∀ {l:List Th} {i:Nat},(thrF f i l).1=0→∀ j t,l[j]?=some t→(f (i+j) t).1=0
 | [],i,h,j,t,ht=>by simp at ht
 | x::l,i,h,j,t,ht=>by
   simp only [thrF] at h
   split at h
   · rename_i h0
     cases j with
     | zero=>
       simp at ht
       subst ht
       exact h0
     | succ j=>
       rw [show i+(j+1)=i+1+j by omega]
       exact thrF_fine h j t (by simpa using ht)
   · rename_i h0
     exact (h0 h).elim
theorem thrF_ix {f g:Nat→Th→Spt}:∀ (l:List Th) (i:Nat),(∀ j t,l[j]?=some t→f (i+j) t=g (i+j) t)→thrF f i l=thrF g i l
 | [],i,_=>rfl
 | x::l,i,h=>by
   have h0:=h 0 x rfl
   rw [Nat.add_zero] at h0
   have h1:thrF f (i+1) l=thrF g (i+1) l:=thrF_ix l (i+1) (fun j t ht=>by
    have:=h (j+1) t (by simpa using ht)
    rw [show i+1+j=i+(j+1) by omega]
    exact this)
   simp only [thrF]
   rw [h0,h1]
theorem odd_exT {p:Pg} (hR:pgR p) (h:(oddD p).1=0) {i:Nat} {t:Th} (hi:p.threads[i]?=some t) {k:Int} {n:List UInt8} {e:Ex} {b l:List St} {d:Nat} (hs:(St.mk k n e b l,d)∈flatL 0 t.body) (hv:valB k=true):∃ tx,exT e=some tx:=by
 unfold oddD at h
 split at h
 · cases h
 split at h
 · cases h
 have h1:=thrF_fine h i t hi
 unfold odT at h1
 split at h1
 · cases h1
 have h2:=spotF_fine h1 _ _ hs
 unfold odF at h2
 split at h2
 · cases h2
 rename_i h3
 have hok:okD (onePg (alS (.mk k n e b l)))=true:=by
  cases hq:okD (onePg (alS (.mk k n e b l))) with
  | true=>rfl
  | false=>exact (h3 (.inr hq)).elim
 have hRs:=stR_flatL 0 t.body (hR.2 t (List.mem_of_getElem? hi)).2 _ _ hs
 rw [okD_some,okP_plain _ (alS_R hRs)] at hok
 have h4:okT ⟨[116],[],[alS (.mk k n e b l)]⟩=true:=by simpa [okP,onePg] using hok
 unfold okT at h4
 simp only [Bool.and_eq_true] at h4
 have h5:=h4.2.2
 unfold okB at h5
 simp only [stsT] at h5
 rw [if_neg (by omega)] at h5
 have h6:okS 0 (alS (.mk k n e b l))=true:=by
  unfold okS
  cases hq:stT 0 (alS (.mk k n e b l)) with
  | none=>rw [hq] at h5;cases h5
  | some _=>rfl
 have hk:k=1∨k=4∨k=5∨k=6:=by
  unfold valB at hv
  simp only [Sy.intEq_eq,Bool.or_eq_true,decide_eq_true_eq,beq_iff_eq] at hv
  exact hv
 simp only [alS] at h6
 rw [okS_mk _ _ _ _ _ _ (by omega),if_pos hk] at h6
 simp only [Bool.and_eq_true] at h6
 have h7:=h6.2.1
 unfold okE at h7
 simp only [Bool.and_eq_true] at h7
 cases hq:exT e with
 | none=>rw [hq] at h7;exact absurd h7.2 (by simp)
 | some tx=>exact ⟨tx,rfl⟩
open Go.Sy in
theorem cnames_ix (p:Pg) (ti:Nat) (th0:Th) {pa pb pd:Option Addr} {pns pnm pnt pcap pcap2 pcap3:Nat} {xs ys zs:List Value} (w:World) (hbd:pns≤1000000000000∧pnm≤1000000000000∧pnt≤1000000000000) (hpns:pns=p.shared.length) (hpnm:pnm=p.mutexes.length) (hpnt:pnt=p.threads.length) (hti:p.threads[ti]?=some th0) (hloc:th0.locals.length≤1000000000000)
  (hxs:SlAt (·<w.heap.size) w pa pns 3 xs) (hxt:LsAt VrAt p.shared xs) (hys:SlAt (·<w.heap.size) w pb pnm 1 ys) (hyt:LsAt TxAt p.mutexes ys) (hzs:SlAt (·<w.heap.size) w pd pnt 3 zs) (hzt:LsAt (ThAt (·<w.heap.size) w) p.threads zs):
  Calls Tryz.prog 98 #[.agg #[.slice pa pns pcap,.slice pb pnm pcap2,.slice pd pnt pcap3],.int .i64 (ti:Int)] w fun r w'=>∃ km,r = .returned (.map (some km))∧w.heap.size≤km∧ThgAt (·=km) w' km (thN p th0)∧Below w.heap.size w w':=by
 obtain ⟨h,rfl⟩:=List.getElem?_eq_some_iff.1 hti
 exact cnames_any p ti w hbd hpns hpnm hpnt (hpnt ▸ h) hloc hxs hxt hys hyt hzs hzt
end
section
open Go.Sy in
set_option maxRecDepth 100000 in
theorem ccheck1_any (id:FuncId) (r:Int) (i n km acap:Nat) (aa:Option Addr) (kl ka:Nat) (axs:List Value) (deep:Int) (uK:Int) (us:List UInt8) (uo ut uv:Int) (un:List UInt8) (uk:List Ex) (uB uL:List St) (uj ui uf:Option Addr) (uh uw ug:Nat) (w:World) (hbod:bodied Tryz.prog id=some true)
  (hbl:SlAt (·<w.heap.size) w (some ⟨kl,0,none⟩) 1 1 [.func (.func id) #[] #[]]) (hba:SlAt (·<w.heap.size) w (some ⟨ka,0,none⟩) 1 1 [.slice aa n acap]) (hsl:SlAt (·<w.heap.size) w aa n 1 axs) (hin:i<n) (hkm:axs[i]?=some (.map (some km)))
  (hcall:∀ W,Keep (·<w.heap.size) w W→CB id #[.map (some km),yV uK us uo ut uv un uf uk.length ug uj uB.length uh ui uL.length uw] W (nI r)):
  CB 103 #[nI (i:Int),yV uK us uo ut uv un uf uk.length ug uj uB.length uh ui uL.length uw,nI (deep:Int),nP kl,nP ka] w (nI r):=by
 refine eN [nI (i:Int),yV uK us uo ut uv un uf uk.length ug uj uB.length uh ui uL.length uw,nI (deep:Int),nP kl,nP ka] Tryz.func103 (fun γ0 hγ0=>?_)
 refine rk ?_
 refine good_draw sy_mixed (by kernel_rfl) ?_
 refine qL 148 (.func (.func id) #[] #[]) 0 0 hbl rfl ?_
 refine q_run [] 60 ?_
 refine qL 145 (.slice aa n acap) 0 0 hba rfl ?_
 refine q_run [] 60 ?_
 refine qI 145 146 acap i hsl hin ?_
 refine q_run [] 60 ?_
 refine qL 146 (.map (some km)) i 0 hsl (by rw [Nat.mul_one,Nat.add_zero];exact hkm) ?_
 refine q_run [] 60 ?_
 refine q_callB (sy_cx _ _) [.map (some km),yV uK us uo ut uv un uf uk.length ug uj uB.length uh ui uL.length uw] (nI r) (by kernel_rfl) hbod (by kernel_rfl) hcall ?_
 refine q_run [] 60 ?_
 refine qE ?_
 refine rs [] 60 2 ?_
 exact gR (nI r) (fun W hk=>⟨rfl,hk.below⟩)
def LkC (w:World) (id:FuncId) (look:Thg→Int→List UInt8→Ex→Int) (p:Pg):Prop:=
 ∀ (i:Nat) (t:Th),p.threads[i]?=some t→∀ s d,(s,d)∈flatL 0 t.body→∀ (km:Nat) (c:List Value) (W:World),Sy.Keep (·<w.heap.size) w W→ThgAt (·<W.heap.size) W km (thN p t)→StAt (·<W.heap.size) W s c→
   CB id #[.map (some km),.agg c.toArray] W (.int .i64 (lkF look (thN p t) s d))
theorem lkC_of {w:World} {id:FuncId} {look:Thg→Int→List UInt8→Ex→Int} {p:Pg} (hbw:thws p.threads≤1000000000000)
  (h:∀ (km:Nat) (th:Thg) (uK:Int) (us:List UInt8) (uo ut uv:Int) (un:List UInt8) (uk:List Ex) (uB uL:List St) (uj ui uf:Option Addr) (uh uw ug:Nat) (W:World),Sy.Keep (·<w.heap.size) w W→(∃ (i:Nat) (t:Th) (d:Nat),p.threads[i]?=some t∧((St.mk uK us (Ex.mk uo ut uv un uk) uB uL),d)∈flatL 0 t.body)→wgt (Ex.mk uo ut uv un uk)≤1099511627776→ThgAt (·<W.heap.size) W km th→ExAt (·<W.heap.size) W (Ex.mk uo ut uv un uk) [.int .u8 uo,.int .u8 ut,.int .u64 uv,.string (str un),.slice uf uk.length ug]→
   CB id #[.map (some km),.agg #[.int .i64 uK,.string (str us),.int .u8 uo,.int .u8 ut,.int .u64 uv,.string (str un),.slice uf uk.length ug,.slice uj uB.length uh,.slice ui uL.length uw]] W (.int .i64 (look th uK us (Ex.mk uo ut uv un uk)))):LkC w id look p:=by
 intro i t hi s d hs km c W hk hm hst
 have hsw:=(flatL_swt 0 _ s d hs).1
 have htw:swts t.body≤thws p.threads:=by
  obtain ⟨hlt,rfl⟩:=List.getElem?_eq_some_iff.1 hi
  obtain ⟨l1,e,l3,hsp,hl⟩:=ls_split p.threads i hlt
  have he:p.threads[i]=e:=by
   subst hl
   simp [hsp]
  rw [he]
  exact swts_body hsp
 obtain ⟨uK,us,⟨uo,ut,uv,un,uk⟩,uB,uL⟩:=s
 simp only [StAt] at hst
 obtain ⟨ucs,uj,uh,ubx,ui,uw,ulx,rfl,uhe,uhbs,uhbt,uhls,uhlt⟩:=hst
 have uhe0:=uhe
 simp only [ExAt] at uhe0
 obtain ⟨uf,ug,uex,rfl,_⟩:=uhe0
 simp only [swt] at hsw
 exact h km (thN p t) uK us uo ut uv un uk uB uL uj ui uf uh uw ug W hk ⟨i,t,d,hi,hs⟩ (by omega) hm uhe
theorem lkC_eac {w w0:World} {id:FuncId} (hbod:Sy.bodied Tryz.prog id=some true) {look:Thg→Int→List UInt8→Ex→Int} {p:Pg} (h:LkC w id look p) {n acap kl ka:Nat} {aa:Option Addr} {axs:List Value} (hk:Sy.Keep (·<w.heap.size) w w0)
  (hbl:Sy.SlAt (·<w0.heap.size) w0 (some ⟨kl,0,none⟩) 1 1 [.func (.func id) #[] #[]]) (hba:Sy.SlAt (·<w0.heap.size) w0 (some ⟨ka,0,none⟩) 1 1 [.slice aa n acap]) (hsl:Sy.SlAt (·<w0.heap.size) w0 aa n 1 axs)
  (hms:∀ (i:Nat) (t:Th),p.threads[i]?=some t→i<n∧∃ km,axs[i]?=some (.map (some km))∧ThgAt (·<w0.heap.size) w0 km (thN p t)) (ft:Nat→St→Nat→Int) (hft:∀ (i:Nat) (t:Th),p.threads[i]?=some t→ft i=lkF look (thN p t)):
  EaC w0 103 kl ka ft p:=by
 intro i t hi s d hs c W hkW hst
 obtain ⟨hin,km,hkm,hth⟩:=hms i t hi
 have hup:∀ k,k<w0.heap.size→k<W.heap.size:=fun k h=>Nat.lt_of_lt_of_le h hkW.size
 rw [hft i t hi]
 have hst0:=hst
 obtain ⟨uK,us,⟨uo,ut,uv,un,uk⟩,uB,uL⟩:=s
 simp only [StAt] at hst
 obtain ⟨ucs,uj,uh,ubx,ui,uw,ulx,rfl,uhe,uhbs,uhbt,uhls,uhlt⟩:=hst
 simp only [ExAt] at uhe
 obtain ⟨uf,ug,uex,rfl,_⟩:=uhe
 refine ccheck1_any id _ i n km acap aa kl ka axs (d:Int) uK us uo ut uv un uk uB uL uj ui uf uh uw ug W hbod ((hbl.keep hkW).mono hup) ((hba.keep hkW).mono hup) ((hsl.keep hkW).mono hup) hin hkm (fun W' hk'=>?_)
 exact h i t hi _ d hs km _ W' (hk.trans ((hkW.mono (kU hk)).trans (hk'.mono fun k h=>hup k (Nat.lt_of_lt_of_le h hk.size)))) ((hth.keep hkW hup).keep hk' fun k h=>Nat.lt_of_lt_of_le h hk'.size) (hst0.keep hk' fun k h=>Nat.lt_of_lt_of_le h hk'.size)
end
section
def MpsI (p:Pg) (B:Nat→Prop) (w:World) (l:List Th) (xs:List Value):Prop:=∀ (i:Nat) (t:Th),l[i]?=some t→∃ km,xs[i]?=some (.map (some km))∧ThgAt B w km (thN p t)
theorem MpsI.nil {p:Pg} {B:Nat→Prop} {w:World}:MpsI p B w [] []:=fun i t h=>by simp at h
theorem MpsI.keep {p:Pg} {B B':Nat→Prop} {w w':World} {l:List Th} {xs:List Value} (h:MpsI p B w l xs) (hk:Sy.Keep B w w') (hB:∀ k,B k→B' k):MpsI p B' w' l xs:=fun i t hi=>let ⟨km,h1,h2⟩:=h i t hi;⟨km,h1,h2.keep hk hB⟩
theorem MpsI.snoc {p:Pg} {B:Nat→Prop} {w:World} {l:List Th} {xs:List Value} {t0:Th} {km:Nat} (h:MpsI p B w l xs) (hl:xs.length=l.length) (ht:ThgAt B w km (thN p t0)):MpsI p B w (l++[t0]) (xs++[.map (some km)]):=by
 intro i t hi
 rcases Nat.lt_or_ge i l.length with hlt | hge
 · rw [List.getElem?_append_left hlt] at hi
   obtain ⟨k,h1,h2⟩:=h i t hi
   exact ⟨k,by rw [List.getElem?_append_left (by omega)];exact h1,h2⟩
 · rw [List.getElem?_append_right hge] at hi
   have h0:i - l.length=0:=by
    rcases Nat.eq_zero_or_pos (i - l.length) with h0 | h0
    · exact h0
    · rw [List.getElem?_eq_none (by simp;omega)] at hi;cases hi
   rw [h0] at hi
   simp at hi
   subst hi
   exact ⟨km,by rw [List.getElem?_append_right (by omega),hl,h0];rfl,ht⟩
theorem MpsI.all {p:Pg} {B:Nat→Prop} {w:World} {l:List Th} {xs:List Value} (h:MpsI p B w l xs) (hl:l=p.threads) (i:Nat) (t:Th) (hi:p.threads[i]?=some t):i<l.length∧∃ km,xs[i]?=some (.map (some km))∧ThgAt B w km (thN p t):=
 ⟨by rw [hl];exact (List.getElem?_eq_some_iff.1 hi).1,h i t (hl ▸ hi)⟩
open Go.Sy in
set_option maxRecDepth 100000 in
theorem ccheck_any (p:Pg) {pa pb pd:Option Addr} {vn qm qt qc qd qe:Nat} {xs ys zs:List Value} (w:World) (hpns:vn=p.shared.length) (hpnm:qm=p.mutexes.length) (hpnt:qt=p.threads.length) (hbd:qt≤1000000000000)
  (hxs:SlAt (·<w.heap.size) w pa vn 3 xs) (hxt:LsAt VrAt p.shared xs) (hys:SlAt (·<w.heap.size) w pb qm 1 ys) (hyt:LsAt TxAt p.mutexes ys) (hzs:SlAt (·<w.heap.size) w pd qt 3 zs) (hzt:LsAt (ThAt (·<w.heap.size) w) p.threads zs) (hbw:thws p.threads≤1000000000000) (hbs:vn≤1000000000000∧qm≤1000000000000) (ht:Tab w) (hB:pgB p≤80000000) (hR:pgR p):
  CB 44 #[.agg #[.slice pa vn qc,.slice pb qm qd,.slice pd qt qe]] w (spV (checkD p)):=by
 have hN:WkI w (·<w.heap.size) w := .refl w
 obtain ⟨sa,hsa⟩:∃ s,s=longD p:=⟨_,rfl⟩
 obtain ⟨sb,hsb⟩:∃ s,s=oddD p:=⟨_,rfl⟩
 obtain ⟨sc,hsc⟩:∃ s,s=twiceD p:=⟨_,rfl⟩
 refine eN [.agg #[.slice pa vn qc,.slice pb qm qd,.slice pd qt qe]] Tryz.func44 (fun γ0 hγ0=>?_)
 have hγ0:∀ b,gz≤b→γ0 b=none:=hγ0
 refine rk ?_
 refine good_toLp ?_
 refine good_loop (by kernel_rfl) ?_
 refine rs [] 60 1 ?_
 refine gX [.agg #[.slice pa vn qc,.slice pb qm qd,.slice pd qt qe]] (spV sa) (fun V hk=>by rw [hsa];exact clong_any p V hpns hpnm hbd hpnt ((hzs.keep (hN.to hk)).mono (hN.up hk)) (hzt.imp fun _ _ h=>ThAt.keep (hN.to hk) (hN.up hk) h) hbw) ?_
 refine rk ?_
 by_cases hz1:sa.1=0
 rotate_left
 ·
  refine gK true (b:=!(intEq sa.1 0)) (by rw [eq_f hz1];rfl) ?_
  refine rs [] 60 2 ?_
  exact gR (spV sa) (fun V hk=>⟨by unfold checkD orS;rw [← hsa,if_neg hz1],(hN.to hk).below⟩)
 refine gK false (b:=!(intEq sa.1 0)) (by rw [eq_t hz1];rfl) ?_
 refine rs [] 60 2 ?_
 refine good_loop (by kernel_rfl) ?_
 refine rs [] 60 1 ?_
 refine gX [.agg #[.slice pa vn qc,.slice pb qm qd,.slice pd qt qe]] (spV sb) (fun V hk=>by rw [hsb];exact codd_any p V hpns hpnm hpnt hbd ((hxs.keep (hN.to hk)).mono (hN.up hk)) hxt ((hys.keep (hN.to hk)).mono (hN.up hk)) hyt ((hzs.keep (hN.to hk)).mono (hN.up hk)) (hzt.imp fun _ _ h=>ThAt.keep (hN.to hk) (hN.up hk) h) hbw hbs (ht.below (hN.to hk).below) hB hR) ?_
 refine rk ?_
 by_cases hz2:sb.1=0
 rotate_left
 ·
  refine gK true (b:=!(intEq sb.1 0)) (by rw [eq_f hz2];rfl) ?_
  refine rs [] 60 2 ?_
  exact gR (spV sb) (fun V hk=>⟨by unfold checkD orS;rw [← hsa,if_pos hz1,← hsb,if_neg hz2],(hN.to hk).below⟩)
 refine gK false (b:=!(intEq sb.1 0)) (by rw [eq_t hz2];rfl) ?_
 refine rs [] 60 2 ?_
 refine good_loop (by kernel_rfl) ?_
 refine rs [] 60 1 ?_
 refine gX [.agg #[.slice pa vn qc,.slice pb qm qd,.slice pd qt qe]] (spV sc) (fun V hk=>by rw [hsc];exact ctwice_any p V hpns hpnm hpnt hbd ((hxs.keep (hN.to hk)).mono (hN.up hk)) hxt ((hys.keep (hN.to hk)).mono (hN.up hk)) hyt ((hzs.keep (hN.to hk)).mono (hN.up hk)) (hzt.imp fun _ _ h=>ThAt.keep (hN.to hk) (hN.up hk) h) hbw hbs) ?_
 refine rk ?_
 by_cases hz3:sc.1=0
 rotate_left
 ·
  refine gK true (b:=!(intEq sc.1 0)) (by rw [eq_f hz3];rfl) ?_
  refine rs [] 60 2 ?_
  exact gR (spV sc) (fun V hk=>⟨by unfold checkD orS;rw [← hsa,if_pos hz1,← hsb,if_pos hz2,← hsc,if_neg hz3],(hN.to hk).below⟩)
 refine gK false (b:=!(intEq sc.1 0)) (by rw [eq_t hz3];rfl) ?_
 refine rs [] 60 2 ?_
 refine good_loop (by kernel_rfl) ?_
 refine rs [] 60 1 ?_
 refine good_toLp ?_
 refine good_loopB (fun i:CI Th=>i.l2.length) (fun i B w1=>p.threads=i.l1++i.l2∧MpsI p B w1 i.l1 i.xs∧RowAt 146 1 (gz+7) i.l1.length i.xs i.X i.ob∧WkI w B w1) (fun i=>⟨mkT [(1,.ptr gz 0),(2,.ptr (gz+1) 0),(6,.ptr (gz+6) 0),(26,vL pd qt qe),(27,vI (qt:Int)),(28,vI (i.l1.length:Int))],mkH [(gz,bK 26 3 [vL pa vn qc,vL pb qm qd,vL pd qt qe]),(gz+1,bK 80 3 [vI 0,vI 0,vI 0]),((gz+6),bK 145 1 [i.X]),((gz+7),i.ob)],gz+8,[]⟩)
  ⟨[],p.threads,[],vL none 0 0,none⟩ ⟨rfl,MpsI.nil,RowAt.nil _ _ _,hN⟩ (by kernel_rfl)
  (fun h=>gU _ [(1,.ptr gz 0),(2,.ptr (gz+1) 0),(6,.ptr (gz+6) 0),(26,vL pd qt qe),(27,vI (qt:Int)),(28,vI (([]:List Th).length:Int))] [(gz,bK 26 3 [vL pa vn qc,vL pb qm qd,vL pd qt qe]),(gz+1,bK 80 3 [vI 0,vI 0,vI 0]),((gz+6),bK 145 1 [vL none 0 0]),((gz+7),none)] (gz+8) (gA hγ0) h) ?_
 clear hN
 rintro ⟨l1,l2,xk,X,ob⟩ B5 w5 ⟨hsp,hms,hrow,hN0⟩ ih
 simp only at hsp hms hrow
 have hN:WkI w B5 w5:=hN0
 clear hN0
 have hn2:qt=l1.length+l2.length:=by rw [hpnt,hsp,List.length_append]
 have hXlt:avLt (gz+8) X=true:=hrow.lt (by omega)
 refine rk ?_
 cases l2 with
 | cons th0 l3=>
   have hin:l1.length<qt:=by rw [hn2,List.length_cons];omega
   have hget:p.threads[l1.length]?=some th0:=by rw [hsp];simp
   have hbl:th0.locals.length≤1000000000000:=by have:=thws_mid hsp;simp only [thws,thw] at this;omega
   refine kx (l1.length:Int) (qt:Int) (by omega) ?_
   refine rk ?_
   refine good_lock2 [gz,(gz+6)] (gz+8) (by kernel_rfl) ?_
   intro γ2 B6 w6 hle2 hγ2 hB56 hB6 hk56 hLk2
   have hL2:∀ b,hasNat b [gz,(gz+6)]=true→∃ p,γ2 b=some p∧B6 p.1:=fun b hb=>let ⟨p,h1,h2,_⟩:=hLk2 b hb;⟨p,h1,h2⟩
   have hN6:WkI w B6 w6:=hN.step hk56 hB56 hB6
   refine good_plan sy_mixed (.take 0 (.take 1 (.take 2 (.run 3 (.run 4 (.run 5 .done)))))) 6 (by kernel_rfl) ?_
   refine p_load [gz,(gz+6)] X (by kernel_rfl) (by rcases hrow.2 with ⟨h,_⟩ | ⟨h,_⟩ <;> rw [h] <;> kernel_rfl) (Bs:=B6) (ws:=w6) (by kernel_rfl) (fun _ h=>h) hL2 ?_
   refine p_takes [gz,(gz+6)] 2 (Bs:=B6) (ws:=w6) (by kernel_rfl) (fun _ h=>h) hL2 ?_
   refine pR (Keep B6 w6) (fun _ h=>h) ?_
   refine good_callM (sy_cx _ _) [.agg #[.slice pa vn qc,.slice pb qm qd,.slice pd qt qe],nI (l1.length:Int)] (by kernel_rfl) (by kernel_rfl) (by kernel_rfl) (Pr:=fun V r V'=>∃ km,r = .map (some km)∧V.heap.size≤km∧ThgAt (·=km) V' km (thN p th0)) (fun V hk=>(cnames_ix p l1.length th0 V ⟨hbs.1,hbs.2,hbd⟩ hpns hpnm hpnt hget hbl ((hxs.keep (hN6.to hk)).mono (hN6.up hk)) hxt ((hys.keep (hN6.to hk)).mono (hN6.up hk)) hyt ((hzs.keep (hN6.to hk)).mono (hN6.up hk)) (hzt.imp fun _ _ h=>ThAt.keep (hN6.to hk) (hN6.up hk) h)).mono fun e w' ⟨km,h1,h2,h3,h4⟩=>⟨_,h1,⟨km,rfl,h2,h3⟩,h4⟩) ?_
   rintro V r w7 B7 hkV ⟨km,rfl,hkm,hth⟩ hbl7 hk67 hB67 hBn7 hB7
   have hN7:WkI w B7 w7:=hN6.step hk67 hB67 hB7
   have hS7:∀ W,Keep B7 w7 W→Keep B6 w6 W:=fun W hk=>hk67.trans (hk.mono hB67)
   refine rk ?_
   refine pR (Keep B6 w6) hS7 ?_
   refine rk ?_
   refine pR (Keep B6 w6) hS7 ?_
   refine good_plain (gz+6) 0 (by kernel_rfl) (fun xold=>?_)
   refine good_app (t:=145) (e:=146) (.slg (gz+8) 0 1 1) 1 8 (gz+7) l1.length 0 xk X ob [.map (some km)] [31] (by kernel_rfl) (by kernel_rfl) (by kernel_rfl) (by kernel_rfl) hrow (by kernel_rfl) (by kernel_rfl) (by kernel_rfl)
    (by unfold maxLen;omega) (by omega) (by rw [hγ2 _ (by kernel_rfl)];exact hγ0 _ (by omega)) (by kernel_rfl) (by kernel_rfl) (by kernel_rfl) (by kernel_rfl) (by kernel_rfl) (fun X' ob' hrow'=>?_)
   rcases hrow'.2 with ⟨_,_,h0⟩ | ⟨rfl,rfl⟩
   · omega
   refine rk ?_
   refine p_done (by kernel_rfl) ?_ (Keep B6 w6) (by kernel_rfl) hS7
   refine good_unlock [gz,(gz+6)] (by kernel_rfl) (fun b hb=>let ⟨p,h1,_⟩:=hLk2 b hb;⟨p,h1⟩) ?_
   intro B9 hB97 hB79
   refine rk ?_
   refine gJ 28 l1 th0 (by omega) ?_
   have hlk:∀ b p,hasNat b [gz,(gz+6)]=true→γ2 b=some p→B6 p.1∧¬ B5 p.1:=fun b p hb hp=>by
    obtain ⟨q,h1,h2,h3⟩:=hLk2 b hb
    rw [hp] at h1
    injection h1 with h1
    subst h1
    exact ⟨h2,h3⟩
   have hB59:∀ k,B5 k→B9 k:=fun k hk=>hB79 k (hB67 k (hB56 k hk)) (fun b p hb hp e=>(hlk b p hb hp).2 (e ▸ hk))
   have hN9:WkI w B9 w7:=⟨hN7.keep,fun k h=>hB59 k (hN.old k h),fun k h=>hB7 k (hB97 k h)⟩
   have hkmB:B9 km:=by
    have h1:=hkV.size
    refine hB79 km (hBn7 km hkm ?_) (fun b q hb hq e=>?_)
    · obtain ⟨_,l,clk,h2,_⟩:=hth
      exact (Array.getElem?_eq_some_iff.1 h2).1
    · have h2:=hB6 q.1 (hlk b q hb hq).1
      omega
   have hms9:MpsI p B9 w7 (l1++[th0]) (xk++[.map (some km)]):=(hms.keep (hk56.trans (hk67.mono hB56)) hB59).snoc (by have:=hrow.1;omega) (hth.keep (Keep.refl _ _) fun k h=>h ▸ hkmB)
   have hr9:RowAt 146 1 (gz+7) (l1++[th0]).length (xk++[.map (some km)]) (.slg (gz+7) 0 (l1.length+(0+1)) 1) (some (.row 146 (xk++[.map (some km)]))):=by rw [List.length_append];exact hrow'
   exact Good.up (gU _ [(1,.ptr gz 0),(2,.ptr (gz+1) 0),(6,.ptr (gz+6) 0),(26,vL pd qt qe),(27,vI (qt:Int)),(28,vI ((l1++[th0]).length:Int))] [(gz,bK 26 3 [vL pa vn qc,vL pb qm qd,vL pd qt qe]),(gz+1,bK 80 3 [vI 0,vI 0,vI 0]),((gz+6),bK 145 1 [.slg (gz+7) 0 (l1.length+(0+1)) 1]),((gz+7),some (.row 146 (xk++[.map (some km)])))] (gz+8) (fun b hb=>hγ0 b (by omega)) (ih ⟨l1++[th0],l3,xk++[.map (some km)],_,_⟩ B9 w7 ⟨by show p.threads=(l1++[_])++l3;rw [hsp];simp,hms9,hr9,hN9⟩ lS1)) hle2
 | nil=>
   have hn3:qt=l1.length:=by rw [hn2];simp
   have hl1:l1=p.threads:=by rw [hsp];simp
   have hne:l1.length≠0:=fun h0=>by
    rw [hsa] at hz1
    unfold longD at hz1
    rw [if_pos (by rw [← hpnt];omega)] at hz1
    cases hz1
   rcases hrow.2 with ⟨_,_,h0⟩ | ⟨hX,hob⟩
   · exact (hne h0).elim
   subst hX hob
   refine ky (l1.length:Int) (qt:Int) (by omega) ?_
   refine rs [] 60 1 ?_
   refine good_giveB (gz+6) 0 (gz+7) 146 1 l1.length xk (by kernel_rfl) (by kernel_rfl) hrow.1 (fun kr rcap w7 B7 hk57 hB57 hB7 hsl7=>?_)
   have hN7:=hN.step hk57 hB57 hB7
   have hms7:=hms.keep hk57 hB57
   refine gG 6 (gz+6) 145 [.slice (some ⟨kr,0,none⟩) l1.length rcap] (fun ka w8 B8 hk78 hB78 hBk8 hnB8 hB8 hnew8=>?_)
   have hN8:WkI w B8 w8:=hN7.step hk78 hB78 hB8
   have hms8:=hms7.keep hk78 hB78
   have hsl8:=(hsl7.keep hk78).mono hB78
   have hba8:=box_sl hnew8 hBk8 rfl
   clear hN hms ih hN7 hms7 hsl7
   refine rk ?_
   refine good_toLp ?_
   obtain ⟨sd,hsd⟩:∃ s,s=lkD msT p:=⟨_,rfl⟩
   refine good_loop (by kernel_rfl) ?_
   refine rs [45] 60 1 ?_
   refine gG 9 (gz+9) 148 [.func (.func 99) #[] #[]] (fun kl w9 B9 hk9 hB89 hBk9 hnB9 hB9 hnew9=>?_)
   have hN9:WkI w B9 w9:=hN8.step hk9 hB89 hB9
   have hms9:=hms8.keep hk9 hB89
   have hsl9:=(hsl8.keep hk9).mono hB89
   have hba9:=(hba8.keep hk9).mono hB89
   have hbl9:=box_sl hnew9 hBk9 rfl
   refine rs [46] 60 0 ?_
   have hlk0:LkC w 99 msT p:=lkC_of hbw (fun km th uK us uo ut uv un uk uB uL uj ui uf uh uw ug W hk _ hb hm he=>cmissing_any km th uK us uo ut uv un uk uB uL uj ui uf uh uw ug W hb hm he)
   refine gN [.agg #[.slice pa vn qc,.slice pb qm qd,.slice pd qt qe],.func (.func 103) #[] #[nP kl,nP ka]] (fun v=>v=spV sd) (fun V hk=>(ceach_any p 103 kl ka (fun i=>lkF msT (thN p ((p.threads[i]?).getD ⟨[],[],[]⟩))) V hbd hpnt ((hzs.keep (hN9.to hk)).mono (hN9.up hk)) (hzt.imp fun _ _ h=>h.keep (hN9.to hk) (hN9.up hk)) hbw (by kernel_rfl)
    (lkC_eac (by kernel_rfl) hlk0 (hN9.to hk) ((hbl9.keep hk).mono (hN9.lt' hk)) ((hba9.keep hk).mono (hN9.lt' hk)) ((hsl9.keep hk).mono (hN9.lt' hk)) ((hms9.keep hk (hN9.lt' hk)).all hl1) _ (fun i t hi=>by rw [hi];rfl))).mono fun e w' h=>⟨_,h.1,by rw [hsd];unfold lkD;exact congrArg spV (thrF_ix _ _ fun j t hj=>by rw [Nat.zero_add,hj];rfl),h.2⟩) ?_
   rintro v w9b rfl hk9b
   refine rk ?_
   by_cases hz4:sd.1=0
   rotate_left
   ·
    refine gK true (b:=!(intEq sd.1 0)) (by rw [eq_f hz4];rfl) ?_
    refine rs [] 60 2 ?_
    exact gR (spV sd) (fun V hk=>⟨by unfold checkD orS;rw [← hsa,if_pos hz1,← hsb,if_pos hz2,← hsc,if_pos hz3,← hsd,if_neg hz4],(hN9.to hk).below⟩)
   refine gK false (b:=!(intEq sd.1 0)) (by rw [eq_t hz4];rfl) ?_
   refine rs [] 60 2 ?_
   obtain ⟨se,hse⟩:∃ s,s=lkD tyS p:=⟨_,rfl⟩
   refine good_loop (by kernel_rfl) ?_
   refine rs [45] 60 1 ?_
   refine gG 9 (gz+11) 148 [.func (.func 100) #[] #[]] (fun kl w10 B10 hk10 hB910 hBk10 hnB10 hB10 hnew10=>?_)
   have hN10:WkI w B10 w10:=hN9.step hk10 hB910 hB10
   have hms10:=hms9.keep hk10 hB910
   have hsl10:=(hsl9.keep hk10).mono hB910
   have hba10:=(hba9.keep hk10).mono hB910
   have hbl10:=box_sl hnew10 hBk10 rfl
   refine rs [46] 60 0 ?_
   have hlk1:LkC w 100 tyS p:=lkC_of hbw (fun km th uK us uo ut uv un uk uB uL uj ui uf uh uw ug W hk ⟨i,t,d,hi,hs⟩ hb hm he=>by
    by_cases hv:valB uK=true
    · obtain ⟨tx,htx⟩:=odd_exT hR (hsb ▸ hz2) hi hs hv
      exact ctyped_any km th uK us uo ut uv un uk uB uL uj ui uf uh uw ug W hb hm he tx (fun _=>htx)
    · exact ctyped_any km th uK us uo ut uv un uk uB uL uj ui uf uh uw ug W hb hm he [] (fun h=>(hv h).elim))
   refine gN [.agg #[.slice pa vn qc,.slice pb qm qd,.slice pd qt qe],.func (.func 103) #[] #[nP kl,nP ka]] (fun v=>v=spV se) (fun V hk=>(ceach_any p 103 kl ka (fun i=>lkF tyS (thN p ((p.threads[i]?).getD ⟨[],[],[]⟩))) V hbd hpnt ((hzs.keep (hN10.to hk)).mono (hN10.up hk)) (hzt.imp fun _ _ h=>h.keep (hN10.to hk) (hN10.up hk)) hbw (by kernel_rfl)
    (lkC_eac (by kernel_rfl) hlk1 (hN10.to hk) ((hbl10.keep hk).mono (hN10.lt' hk)) ((hba10.keep hk).mono (hN10.lt' hk)) ((hsl10.keep hk).mono (hN10.lt' hk)) ((hms10.keep hk (hN10.lt' hk)).all hl1) _ (fun i t hi=>by rw [hi];rfl))).mono fun e w' h=>⟨_,h.1,by rw [hse];unfold lkD;exact congrArg spV (thrF_ix _ _ fun j t hj=>by rw [Nat.zero_add,hj];rfl),h.2⟩) ?_
   rintro v w10b rfl hk10b
   refine rk ?_
   by_cases hz5:se.1=0
   rotate_left
   ·
    refine gK true (b:=!(intEq se.1 0)) (by rw [eq_f hz5];rfl) ?_
    refine rs [] 60 2 ?_
    exact gR (spV se) (fun V hk=>⟨by unfold checkD orS;rw [← hsa,if_pos hz1,← hsb,if_pos hz2,← hsc,if_pos hz3,← hsd,if_pos hz4,← hse,if_neg hz5],(hN10.to hk).below⟩)
   refine gK false (b:=!(intEq se.1 0)) (by rw [eq_t hz5];rfl) ?_
   refine rs [] 60 2 ?_
   obtain ⟨sf,hsf⟩:∃ s,s=lkD atS p:=⟨_,rfl⟩
   refine good_loop (by kernel_rfl) ?_
   refine rs [45] 60 1 ?_
   refine gG 9 (gz+13) 148 [.func (.func 101) #[] #[]] (fun kl w11 B11 hk11 hB1011 hBk11 hnB11 hB11 hnew11=>?_)
   have hN11:WkI w B11 w11:=hN10.step hk11 hB1011 hB11
   have hms11:=hms10.keep hk11 hB1011
   have hsl11:=(hsl10.keep hk11).mono hB1011
   have hba11:=(hba10.keep hk11).mono hB1011
   have hbl11:=box_sl hnew11 hBk11 rfl
   refine rs [46] 60 0 ?_
   have hlk2:LkC w 101 atS p:=lkC_of hbw (fun km th uK us uo ut uv un uk uB uL uj ui uf uh uw ug W hk _ hb hm he=>catomic_any km th uK us uo ut uv un uk uB uL uj ui uf uh uw ug W hb hm he)
   refine gN [.agg #[.slice pa vn qc,.slice pb qm qd,.slice pd qt qe],.func (.func 103) #[] #[nP kl,nP ka]] (fun v=>v=spV sf) (fun V hk=>(ceach_any p 103 kl ka (fun i=>lkF atS (thN p ((p.threads[i]?).getD ⟨[],[],[]⟩))) V hbd hpnt ((hzs.keep (hN11.to hk)).mono (hN11.up hk)) (hzt.imp fun _ _ h=>h.keep (hN11.to hk) (hN11.up hk)) hbw (by kernel_rfl)
    (lkC_eac (by kernel_rfl) hlk2 (hN11.to hk) ((hbl11.keep hk).mono (hN11.lt' hk)) ((hba11.keep hk).mono (hN11.lt' hk)) ((hsl11.keep hk).mono (hN11.lt' hk)) ((hms11.keep hk (hN11.lt' hk)).all hl1) _ (fun i t hi=>by rw [hi];rfl))).mono fun e w' h=>⟨_,h.1,by rw [hsf];unfold lkD;exact congrArg spV (thrF_ix _ _ fun j t hj=>by rw [Nat.zero_add,hj];rfl),h.2⟩) ?_
   rintro v w11b rfl hk11b
   refine rk ?_
   by_cases hz6:sf.1=0
   rotate_left
   ·
    refine gK true (b:=!(intEq sf.1 0)) (by rw [eq_f hz6];rfl) ?_
    refine rs [] 60 2 ?_
    exact gR (spV sf) (fun V hk=>⟨by unfold checkD orS;rw [← hsa,if_pos hz1,← hsb,if_pos hz2,← hsc,if_pos hz3,← hsd,if_pos hz4,← hse,if_pos hz5,← hsf,if_neg hz6],(hN11.to hk).below⟩)
   refine gK false (b:=!(intEq sf.1 0)) (by rw [eq_t hz6];rfl) ?_
   refine rs [] 60 2 ?_
   refine good_loop (by kernel_rfl) ?_
   refine run_ok (sy_cx _ _) 500 [] 60 2 ?_
   exact gR (.agg #[nI 0,nI (-1),nI (-1)]) (fun V hk=>⟨by unfold checkD orS;rw [← hsa,if_pos hz1,← hsb,if_pos hz2,← hsc,if_pos hz3,← hsd,if_pos hz4,← hse,if_pos hz5,← hsf,if_pos hz6];rfl,(hN11.to hk).below⟩)
end
section
def strsV (l:List (List UInt8)):List Value:=l.map fun s => .string (str s)
theorem strsV_app (l r:List (List UInt8)):strsV (l++r)=strsV l++strsV r:=List.map_append
theorem strsV_one (l:List (List UInt8)):(strsV l).all (fun v=>v.oneCell')=true:=by
 rw [List.all_eq_true]
 intro v hv
 obtain ⟨s,_,rfl⟩:=List.mem_map.1 hv
 rfl
def NmPr (l:List (List UInt8)) (w:World) (v:Value) (w':World):Prop:=∃ a cap,v = .slice a l.length cap∧Sy.SlAt (NewIn w w') w' a l.length 1 (strsV l)
theorem nmEs_app:∀ (l r:List Ex),nmEs (l++r)=nmEs l++nmEs r
 | [],r=>rfl
 | e::l,r=>by simp only [List.cons_append,nmEs];rw [nmEs_app l r,List.append_assoc]
mutual
theorem nmE_len:∀ e:Ex,(nmE e).length≤wgt e
 | .mk op ty bits name kids=>by
   have:=nmEs_len kids
   simp only [nmE,wgt,List.length_append]
   split <;> simp <;> omega
theorem nmEs_len:∀ l:List Ex,(nmEs l).length≤wgts l
 | []=>Nat.le_refl _
 | e::l=>by
   have h1:=nmE_len e
   have h2:=nmEs_len l
   simp only [nmEs,wgts,List.length_append]
   omega
end
open Go.Sy in
set_option maxRecDepth 100000 in
theorem dnames_any:∀ (N:Nat) (e:Ex) (cs:List Value) (w:World),wgt e≤N→wgt e≤1000000000000→ExAt (·<w.heap.size) w e cs→
  Calls Tryz.prog 91 #[.agg cs.toArray] w fun r w'=>∃ v,r = .returned v∧NmPr (nmE e) w v w'∧Below w.heap.size w w':=by
 intro N
 induction N with
 | zero=>intro e cs w h;have:=wgt_pos e;omega
 | succ N ihN=>
   intro e cs w hN hbd he
   obtain ⟨op,ty,bits,name,kids⟩:=e
   simp only [ExAt] at he
   obtain ⟨a,cap,xs,rfl,hsl,hks⟩:=he
   obtain ⟨n,hn⟩:∃ n,n=kids.length:=⟨_,rfl⟩
   rw [← hn] at hsl ⊢
   simp only [wgt] at hN hbd
   have hkl:=wgts_len kids
   obtain ⟨own,hown⟩:∃ own:List (List UInt8),own=if op=2 then [name] else []:=⟨_,rfl⟩
   have hol:own.length≤1:=by rw [hown];split <;> simp
   have hnm:nmE (.mk op ty bits name kids)=own++nmEs kids:=by simp only [nmE];rw [hown]
   have tail:∀ (γ0:Gm),(∀ b,gz≤b→γ0 b=none)→∀ (X:AV) (ob:Option Blk),RowAt 9 1 (gz+1) own.length (strsV own) X ob→
     Go.Sy.Good Tryz.prog (·<w.heap.size) w γ0 Tryz.f91.ntmps (bodyPostD Tryz.prog Tryz.f91 (fun r w'=>∃ v,r = .returned v∧NmPr (nmE (.mk op ty bits name kids)) w v w'∧Below w.heap.size w w')) ⟨[.code (seqR (seqR (seqR (Tryz.f91.body.getD .skip))))],⟨mkT [(1,.ptr gz 0),(3,X)],mkH [(gz,bK 34 5 [.v (.int .u8 op),.v (.int .u8 ty),.v (.int .u64 bits),vT name,vL a n cap]),((gz+1),ob)],gz+2,[]⟩⟩:=by
    intro γ0 hγ0 X0 ob0 hrow0
    refine rk ?_
    refine good_toLp ?_
    refine good_loopB (fun i:CI Ex=>i.l2.length) (fun i B w1=>kids=i.l1++i.l2∧i.xs=strsV (own++nmEs i.l1)∧RowAt 9 1 (gz+1) (own++nmEs i.l1).length i.xs i.X i.ob∧WkI w B w1) (fun i=>⟨mkT [(1,.ptr gz 0),(3,i.X),(4,vI (i.l1.length:Int))],mkH [(gz,bK 34 5 [.v (.int .u8 op),.v (.int .u8 ty),.v (.int .u64 bits),vT name,vL a n cap]),((gz+1),i.ob)],gz+2,[]⟩)
     ⟨[],kids,strsV own,X0,ob0⟩ ⟨rfl,by simp [nmEs],by simpa [nmEs] using hrow0,.refl w⟩ (by kernel_rfl)
     (fun h=>good_sub _ [(1,.ptr gz 0),(3,X0),(4,vI (([]:List Ex).length:Int))] [(gz,bK 34 5 [.v (.int .u8 op),.v (.int .u8 ty),.v (.int .u64 bits),vT name,vL a n cap]),((gz+1),ob0)] (gz+2) rfl (by kernel_rfl) (by kernel_rfl) (allLtT_cons (by kernel_rfl) (allLtT_cons (hrow0.lt (by omega)) (allLtT_cons (by kernel_rfl) rfl))) (by kernel_rfl) (allLtH_cons (by kernel_rfl) (by kernel_rfl) (allLtH_row (by kernel_rfl) hrow0 rfl)) (fun b hb=>hγ0 b (by omega)) (by kernel_rfl) h) ?_
    rintro ⟨l1,l2,xk,X,ob⟩ B5 w5 ⟨hsp,hxk,hrow,hN0⟩ ih
    simp only at hsp hxk hrow
    have hN:WkI w B5 w5:=hN0
    clear hN0
    subst hxk
    have hn2:n=l1.length+l2.length:=by rw [hn,hsp,List.length_append]
    have hw1:wgts kids=wgts l1+wgts l2:=by rw [hsp,wgts_app]
    refine rk ?_
    cases l2 with
    | nil=>
      have hn3:n=l1.length:=by rw [hn2];simp
      have hl1:l1=kids:=by rw [hsp];simp
      refine ky (l1.length:Int) (n:Int) (by omega) ?_
      refine rk ?_
      exact good_endRow (base:=w.heap.size) hrow (by kernel_rfl) (by kernel_rfl) hN.old (fun W a' cap' hk hsl=>⟨_,rfl,⟨a',cap',by rw [hnm,← hl1],by rw [hnm,← hl1];exact hsl⟩,(hN.to hk).below⟩)
    | cons s l3=>
      have hin:l1.length<n:=by rw [hn2,List.length_cons];omega
      have hks2:=ExsAt_ls.1 hks
      rw [hsp] at hks2
      obtain ⟨c,hc,hcell⟩:=hks2.at_ (fun _ _ h=>h.len)
      have hsl0:=(hsl.keep hN.keep).mono hN.old
      have hcn:=hc.keep hN.keep hN.old
      simp only [wgts] at hw1
      have hnl:=nmE_len s
      have hnl1:=nmEs_len l1
      have hc0:=hc
      obtain ⟨op2,ty2,bits2,name2,kids2⟩:=s
      simp only [ExAt] at hc
      obtain ⟨a2,cap2,xs2,rfl,_⟩:=hc
      refine kx (l1.length:Int) (n:Int) (by omega) ?_
      refine rk ?_
      refine gI 32 34 cap l1.length hsl0 hin ?_
      refine rk ?_
      refine gD 34 5 (xL op2 ty2 bits2 name2 a2 kids2.length cap2) l1.length 0 hsl0 rfl hcell ?_
      refine rk ?_
      refine gM [xV op2 ty2 bits2 name2 a2 kids2.length cap2] (fun W hk=>ihN (Ex.mk op2 ty2 bits2 name2 kids2) (xL op2 ty2 bits2 name2 a2 kids2.length cap2) W (by omega) (by omega) (hc0.keep (hN.to hk) (hN.up hk))) ?_
      rintro V r V' B6 hkV ⟨a6,cap6,rfl,hsl6⟩ hbl6 hk56 hB56 hBn6 hB6
      have hN6:=hN.step hk56 hB56 hB6
      refine rs [27] 60 0 ?_
      refine good_appS (t:=23) (e:=9) 1 16 (gz+1) (own++nmEs l1).length (nmE (Ex.mk op2 ty2 bits2 name2 kids2)).length (strsV (own++nmEs l1)) X ob a6 cap6 (strsV (nmE (Ex.mk op2 ty2 bits2 name2 kids2))) [3,20] (by kernel_rfl) (by kernel_rfl) (by kernel_rfl) (by kernel_rfl) (by kernel_rfl) hrow (by kernel_rfl) hsl6 (fun k h=>hBn6 k h.1 h.2) (fun k h=>h.2) (strsV_one _) (by rw [List.length_append];omega) (hγ0 _ (by omega)) (by kernel_rfl) (by kernel_rfl) (by kernel_rfl) (by kernel_rfl) (by kernel_rfl) (fun X2 ob2 hrow2=>?_)
      refine rk ?_
      refine gJ 4 l1 (Ex.mk op2 ty2 bits2 name2 kids2) (by omega) ?_
      have e1:own++nmEs (l1++[(Ex.mk op2 ty2 bits2 name2 kids2)])=own++nmEs l1++nmE (Ex.mk op2 ty2 bits2 name2 kids2):=by rw [nmEs_app];simp [nmEs]
      have hr2:RowAt 9 1 (gz+1) (own++nmEs (l1++[(Ex.mk op2 ty2 bits2 name2 kids2)])).length (strsV (own++nmEs (l1++[(Ex.mk op2 ty2 bits2 name2 kids2)]))) X2 ob2:=by rw [e1,strsV_app,List.length_append];exact hrow2
      exact good_sub _ [(1,.ptr gz 0),(3,X2),(4,vI ((l1++[(Ex.mk op2 ty2 bits2 name2 kids2)]).length:Int))] [(gz,bK 34 5 [.v (.int .u8 op),.v (.int .u8 ty),.v (.int .u64 bits),vT name,vL a n cap]),((gz+1),ob2)] (gz+2) (by kernel_rfl) (by kernel_rfl) (by kernel_rfl) (allLtT_cons (by kernel_rfl) (allLtT_cons (hr2.lt (by omega)) (allLtT_cons (by kernel_rfl) rfl))) (by kernel_rfl) (allLtH_cons (by kernel_rfl) (by kernel_rfl) (allLtH_row (by kernel_rfl) hr2 rfl)) (fun b hb=>hγ0 b (by omega)) (by kernel_rfl) (ih ⟨l1++[(Ex.mk op2 ty2 bits2 name2 kids2)],l3,_,X2,ob2⟩ B6 V' ⟨by show kids=(l1++[_])++l3;rw [hsp];simp,rfl,hr2,hN6⟩ lS1)
   refine eN [xV op ty bits name a n cap] Tryz.func91 (fun γ0 hγ0=>?_)
   have hγ0:∀ b,gz≤b→γ0 b=none:=hγ0
   refine rk ?_
   by_cases ho:op=2
   ·
    refine kz op 2 ho ?_
    have hown1:own=[name]:=by rw [hown,if_pos ho]
    subst hown1
    refine good_sub _ [(1,.ptr gz 0),(3,vL none 0 0)] [(gz,bK 34 5 [.v (.int .u8 op),.v (.int .u8 ty),.v (.int .u64 bits),vT name,vL a n cap])] (gz+2) rfl (by kernel_rfl) (by kernel_rfl) (by kernel_rfl) (by kernel_rfl) (by kernel_rfl) (fun b hb=>hγ0 b (by omega)) (by kernel_rfl) ?_
    refine rs [12] 60 0 ?_
    refine good_app (t:=23) (e:=9) (.slg (gz+2) 0 1 1) 1 16 (gz+1) 0 0 [] (vL none 0 0) none [nT name] [3,8] (by kernel_rfl) (by kernel_rfl) (by kernel_rfl) (by kernel_rfl) (RowAt.nil _ _ _) (by kernel_rfl) (by kernel_rfl) (by kernel_rfl)
     (by unfold maxLen;omega) (by omega) (hγ0 _ (by omega)) (by kernel_rfl) (by kernel_rfl) (by kernel_rfl) (by kernel_rfl) (by kernel_rfl) (fun X2 ob2 hrow2=>?_)
    rcases hrow2.2 with ⟨_,_,h0⟩ | ⟨rfl,rfl⟩
    · omega
    refine rs [] 2 0 ?_
    exact good_sub [.code (seqR (seqR (seqR (Tryz.f91.body.getD .skip))))] [(1,.ptr gz 0),(3,.slg (gz+1) 0 (0+(0+1)) 1)] [(gz,bK 34 5 [.v (.int .u8 op),.v (.int .u8 ty),.v (.int .u64 bits),vT name,vL a n cap]),((gz+1),some (.row 9 ([]++[Value.string (str name)])))] (gz+2) (by kernel_rfl) (by kernel_rfl) (by kernel_rfl) (allLtT_cons (by kernel_rfl) (allLtT_cons (by kernel_rfl) rfl)) (by kernel_rfl) (allLtH_cons (by kernel_rfl) (by kernel_rfl) (allLtH_cons (by kernel_rfl) (by kernel_rfl) rfl)) (fun b hb=>hγ0 b (by omega)) (by kernel_rfl) (tail γ0 hγ0 (.slg (gz+1) 0 (0+(0+1)) 1) (some (.row 9 ([]++[Value.string (str name)]))) (show RowAt 9 1 (gz+1) (0+(0+1)) ([]++[Value.string (str name)]) _ _ from hrow2))
   refine kw op 2 ho ?_
   have hown1:own=[]:=by rw [hown,if_neg ho]
   subst hown1
   refine rs [] 1 0 ?_
   exact good_sub [.code (seqR (seqR (seqR (Tryz.f91.body.getD .skip))))] [(1,.ptr gz 0),(3,vL none 0 0)] [(gz,bK 34 5 [.v (.int .u8 op),.v (.int .u8 ty),.v (.int .u64 bits),vT name,vL a n cap]),((gz+1),none)] (gz+2) (by kernel_rfl) (by kernel_rfl) (by kernel_rfl) (allLtT_cons (by kernel_rfl) (allLtT_cons (by kernel_rfl) rfl)) (by kernel_rfl) (allLtH_cons (by kernel_rfl) (by kernel_rfl) (allLtH_cons (by kernel_rfl) (by kernel_rfl) rfl)) (fun b hb=>hγ0 b (by omega)) (by kernel_rfl) (tail γ0 hγ0 _ _ (RowAt.nil _ _ _))
end
end Go.Proofs.YtiacalnkmnckjaaGreatDoor
