/- Texts of this proof, one behind the other. Conditions: those in each theorem. -/
import Derived.Test.YtijopiphkgddhaaGreatDoorPagQ1
import Derived.Test.YtijopiphkgddhaaGreatDoorPagQ13
import Derived.Test.YtijopiphkgddhaaGreatDoorPagQ4
import Derived.Test.YtijopiphkgddhaaGreatDoorPagQ15
import Derived.Test.YtijopiphkgddhaaGreatDoorPagQ10
import Derived.Test.YtijopiphkgddhaaGreatDoorPagQ14
import Derived.Test.YtijopiphkgddhaaGreatDoorPagQ12
set_option linter.unusedVariables false
set_option linter.unusedSimpArgs false
namespace Go.Proofs.YtijopiphkgddhaaGreatDoor
open Go.RowKit Go.As
section
def aFx (t:Tok):Prop:=(t.kind=2→t.ty=1∧0≤t.bits∧t.bits<9223372036854775808)∧(t.kind=3→t.ty=3∧∃ u:List UInt8,lE u=true∧t.bits=((rpB u:Nat):Int))
def AllOk (ts:List Tok):Prop:=∀ t∈ts,aFx t
theorem AllOk.tail {t:Tok} {ts:List Tok} (h:AllOk (t::ts)):AllOk ts:=fun x hx=>h x (bA _ hx)
theorem cM {s:List UInt8} {ts us:List Tok} (h:bX s ts=some us) (hok:AllOk ts):AllOk us:=by
 cases ts with
 | nil=>cases h
 | cons t ts=>
   simp only [bX] at h
   split at h
   · injection h with h;subst h;exact hok.tail
   · cases h
theorem nJ {ts us:List Tok} {x:List UInt8} (h:eB ts=some (x,us)) (hok:AllOk ts):AllOk us∧b7 x=true:=by
 cases ts with
 | nil=>cases h
 | cons t ts=>
   simp only [eB] at h
   split at h
   · rename_i hn
     injection h with h;injection h with g1 g2;subst g1 g2;exact ⟨hok.tail,hn⟩
   · cases h
theorem jL {x:List UInt8} (h:b7 x=true):x.length≤24:=by
 unfold b7 at h
 split at h
 · cases h
 split at h
 · cases h
 omega
def aHe (ty bits:Int):Prop:=(dA ty bits).isSome=true∧(0≤ty∧ty<256)∧0≤bits∧bits<9223372036854775808
theorem aHd {u:List UInt8} (h:lE u=true):aHe 3 ((rpB u:Nat):Int):=by
 obtain ⟨x,t,h1,_,h2,h3,_⟩:=aVb h
 have hr:=vQ h3
 have hb:=(fD hr).2.1
 rw [h1]
 refine ⟨?_,by decide,by omega,by omega⟩
 unfold dA
 rw [if_neg (by decide),if_neg (by decide),if_pos rfl]
 split
 · rfl
 split
 · rfl
 unfold b8
 rw [if_pos (by omega),Int.toNat_natCast,hr]
 rfl
theorem aNs {t:Tok} {ty bits:Int} (hok:aFx t) (h:jZ t=some (ty,bits)):aHe ty bits:=by
 unfold jZ at h
 split at h
 · rename_i hk
   injection h with h
   injection h with g1 g2
   subst g1 g2
   rcases hk with hk | hk
   · obtain ⟨h1,h2,h3⟩:=hok.1 hk
     rw [h1]
     refine ⟨?_,by decide,h2,h3⟩
     unfold dA b8
     rw [if_pos rfl,if_pos h3]
     rfl
   · obtain ⟨h1,u,h2,h3⟩:=hok.2 hk
     rw [h1,h3]
     exact aHd h2
 split at h
 · injection h with h;injection h with g1 g2;subst g1 g2
   refine ⟨?_,by decide,by decide,by decide⟩
   unfold dA nanBits;rfl
 split at h
 · injection h with h;injection h with g1 g2;subst g1 g2
   refine ⟨?_,by decide,by decide,by decide⟩
   unfold dA nanBits kE;rfl
 split at h
 · injection h with h;injection h with g1 g2;subst g1 g2
   refine ⟨?_,by decide,by decide,by decide⟩
   unfold dA;rfl
 split at h
 · injection h with h;injection h with g1 g2;subst g1 g2
   refine ⟨?_,by decide,by decide,by decide⟩
   unfold dA;rfl
 · cases h
theorem yX {ts us:List Tok} {v:Int×Int} (h:dN ts=some (v,us)) (hok:AllOk ts):AllOk us∧aHe v.1 v.2:=by
 cases ts with
 | nil=>cases h
 | cons t ts=>
   simp only [dN] at h
   obtain ⟨w,hw,h⟩:=aC h
   injection h with g1 g2;subst g1 g2
   exact ⟨hok.tail,aNs (hok t bQ) hw⟩
def ExG (e:Ex):Prop:=(exT e).isSome=true∧hgt e≤32∧exR e∧exB e≤29*wgt e
theorem aTq {ty bits:Int} (h:aHe ty bits):ExG (.mk 1 ty bits [] []):=by
 obtain ⟨h1,h2,h3,h4⟩:=h
 refine ⟨?_,by simp [hgt,dB],?_,by simp [exB,iW,wgt,cL]⟩
 · rw [exT,if_neg (by simp)]
   simp only [kF]
   rw [if_pos trivial]
   exact h1
 · simp only [exR,jS]
   exact ⟨by decide,h2,⟨h3,by omega⟩,trivial⟩
theorem aQz {nm:List UInt8} (h:b7 nm=true):ExG (.mk 2 0 0 nm []):=by
 have hl:=jL h
 refine ⟨?_,by simp [hgt,dB],?_,by simp [exB,iW,wgt,cL];omega⟩
 · rw [exT,if_neg (by simp)]
   simp only [kF]
   rw [if_neg (by decide),if_pos trivial,if_pos h]
   rfl
 · simp only [exR,jS]
   exact ⟨by decide,by decide,by decide,trivial⟩
theorem yO {op:Int} {x:Ex} (ho:op=16∨op=17∨op=18∨op=19) (hx:ExG x) (hh:hgt (.mk op 0 0 [] [x])≤32):ExG (.mk op 0 0 [] [x]):=by
 obtain ⟨h1,h2,h3,h4⟩:=hx
 refine ⟨?_,hh,?_,by simp only [exB,iW,wgt,cL,aD];omega⟩
 · obtain ⟨t,ht⟩:=aQ h1
   rw [exT,if_neg (by simp)]
   simp only [kF,ht]
   rcases ho with rfl | rfl | rfl | rfl <;> rfl
 · simp only [exR,jS]
   exact ⟨by rcases ho with rfl | rfl | rfl | rfl <;> decide,by decide,by decide,h3,trivial⟩
theorem aTw {op:Int} {x y:Ex} (ho:3≤op∧op≤15) (hx:ExG x) (hy:ExG y) (hh:hgt (.mk op 0 0 [] [x,y])≤32):ExG (.mk op 0 0 [] [x,y]):=by
 obtain ⟨h1,h2,h3,h4⟩:=hx
 obtain ⟨g1,g2,g3,g4⟩:=hy
 refine ⟨?_,hh,?_,by simp only [exB,iW,wgt,cL,aD];omega⟩
 · obtain ⟨t,ht⟩:=aQ h1
   obtain ⟨u,hu⟩:=aQ g1
   rw [exT,if_neg (by simp)]
   simp only [kF,ht,hu]
   rw [if_neg (by omega),if_neg (by omega),if_pos ho]
   rfl
 · simp only [exR,jS]
   exact ⟨by omega,by decide,by decide,h3,g3,trivial⟩
theorem aUt {s:List UInt8} (h:0≤(sgK s).2):3≤(sgK s).1∧(sgK s).1≤15:=by
 by_cases c0:s=[124,124]
 · subst c0;decide
 by_cases c1:s=[38,38]
 · subst c1;decide
 by_cases c2:s=[61,61]
 · subst c2;decide
 by_cases c3:s=[33,61]
 · subst c3;decide
 by_cases c4:s=[60]
 · subst c4;decide
 by_cases c5:s=[60,61]
 · subst c5;decide
 by_cases c6:s=[62]
 · subst c6;decide
 by_cases c7:s=[62,61]
 · subst c7;decide
 by_cases c8:s=[43]
 · subst c8;decide
 by_cases c9:s=[45]
 · subst c9;decide
 by_cases c10:s=[42]
 · subst c10;decide
 by_cases c11:s=[47]
 · subst c11;decide
 by_cases c12:s=[37]
 · subst c12;decide
 exfalso
 unfold sgK at h
 rw [if_neg c0,if_neg c1,if_neg c2,if_neg c3,if_neg c4,if_neg c5,if_neg c6,if_neg c7,if_neg c8,if_neg c9,if_neg c10,if_neg c11,if_neg c12] at h
 revert h
 decide
theorem aKm:∀ n:Nat,(∀ l k ts e us,AllOk ts→eK n l k ts=some (e,us)→ExG e∧AllOk us)∧(∀ l k e0 ts e us,ExG e0→AllOk ts→eM n l k e0 ts=some (e,us)→ExG e∧AllOk us)∧
  (∀ k ts e us,AllOk ts→eI n k ts=some (e,us)→ExG e∧AllOk us)∧(∀ k ts e us,AllOk ts→e7 n k ts=some (e,us)→ExG e∧AllOk us)∧(∀ k ts e us,AllOk ts→gY n k ts=some (e,us)→ExG e∧AllOk us)
 | 0=>⟨fun _ _ _ _ _ _ h=>(by simp only [eK] at h;cases h),fun _ _ _ _ _ _ _ _ h=>(by simp only [eM] at h;cases h),fun _ _ _ _ _ h=>(by simp only [eI] at h;cases h),fun _ _ _ _ _ h=>(by simp only [e7] at h;cases h),fun _ _ _ _ _ h=>(by simp only [gY] at h;cases h)⟩
 | n+1=>by
   obtain ⟨hb,hl,hu,hp,hc⟩:=aKm n
   refine ⟨fun l k ts e us ho h=>?_,fun l k e0 ts e us h0 ho h=>?_,fun k ts e us ho h=>?_,fun k ts e us ho h=>?_,fun k ts e us ho h=>?_⟩
   · simp only [eK] at h
     split at h
     · exact hu _ _ _ _ ho h
     split at h
     · cases h
     rename_i h1
     have h1:=hb _ _ _ _ _ ho h1
     exact hl _ _ _ _ _ _ h1.1 h1.2 h
   · cases ts with
     | nil=>
       simp only [eM] at h
       injection h with h;injection h with h1 h2;subst h1 h2;exact ⟨h0,ho⟩
     | cons t ts=>
     simp only [eM] at h
     split at h
     · rename_i hs
       split at h
       · cases h
       rename_i h1
       have h1:=hb _ _ _ _ _ ho.tail h1
       split at h
       · cases h
       rename_i h2
       obtain ⟨h2,hh⟩:=eF h2
       subst h2
       have hy:=aTw (aUt (by omega)) h0 h1.1 hh
       split at h
       · injection h with h;injection h with g1 g2;subst g1 g2;exact ⟨hy,h1.2⟩
       · exact hl _ _ _ _ _ _ hy h1.2 h
     · injection h with h;injection h with h1 h2;subst h1 h2;exact ⟨h0,ho⟩
   · simp only [eI] at h
     split at h
     · rename_i hT
       have hT:=cM hT ho
       split at h <;> first | (cases h;done) | skip
       split at h
       · cases h
       rename_i h1
       have h1:=hu _ _ _ _ hT h1
       obtain ⟨y,hy,h2⟩:=aC h
       obtain ⟨hy,hh⟩:=eF hy
       subst hy
       injection h2 with g1 g2;subst g1 g2
       exact ⟨yO (by simp) h1.1 hh,h1.2⟩
     split at h
     · rename_i hT
       have hT:=cM hT ho
       split at h <;> first | (cases h;done) | skip
       split at h
       · cases h
       rename_i h1
       have h1:=hu _ _ _ _ hT h1
       obtain ⟨y,hy,h2⟩:=aC h
       obtain ⟨hy,hh⟩:=eF hy
       subst hy
       injection h2 with g1 g2;subst g1 g2
       exact ⟨yO (by simp) h1.1 hh,h1.2⟩
     · exact hp _ _ _ _ ho h
   · simp only [e7] at h
     split at h
     · rename_i hT
       have hT:=yX hT ho
       injection h with h;injection h with g1 g2;subst g1 g2
       exact ⟨aTq hT.2,hT.1⟩
     split at h
     · rename_i hT
       have hT:=cM hT ho
       split at h <;> first | (cases h;done) | skip
       exact hc _ _ _ _ hT h
     split at h
     · rename_i hU
       have hU:=cM hU ho
       split at h <;> first | (cases h;done) | skip
       split at h
       · cases h
       rename_i hT
       have hT:=cM hT hU
       split at h
       · cases h
       rename_i h1
       have h1:=hc _ _ _ _ hT h1
       obtain ⟨y,hy,h2⟩:=aC h
       obtain ⟨hy,hh⟩:=eF hy
       subst hy
       injection h2 with g1 g2;subst g1 g2
       exact ⟨yO (by simp) h1.1 hh,h1.2⟩
     split at h
     · rename_i hU
       have hU:=cM hU ho
       split at h <;> first | (cases h;done) | skip
       split at h
       · cases h
       rename_i hT
       have hT:=cM hT hU
       split at h
       · cases h
       rename_i h1
       have h1:=hc _ _ _ _ hT h1
       obtain ⟨y,hy,h2⟩:=aC h
       obtain ⟨hy,hh⟩:=eF hy
       subst hy
       injection h2 with g1 g2;subst g1 g2
       exact ⟨yO (by simp) h1.1 hh,h1.2⟩
     obtain ⟨p,hp',h2⟩:=aC h
     have hp':=nJ hp' ho
     injection h2 with g1 g2;subst g1 g2
     exact ⟨aQz hp'.2,hp'.1⟩
   · simp only [gY] at h
     split at h
     · cases h
     rename_i h1
     have h1:=hb _ _ _ _ _ ho h1
     obtain ⟨vs,hT,h2⟩:=aC h
     have hT:=cM hT h1.2
     injection h2 with g1 g2;subst g1 g2
     exact ⟨h1.1,hT⟩
end
section
theorem zJ {ts us:List Tok} {e:Ex} (hok:AllOk ts) (h:whK ts=some (e,us)):ExG e∧AllOk us:=(aKm _).1 _ _ _ _ _ hok h
theorem aGf {t b:Int} (h:aHe t b):(eG t b).isSome=true:=by
 obtain ⟨h1,h2,h3,h4⟩:=h
 unfold eG
 split
 · rw [if_pos (show b<b8 from h4)];rfl
 split
 · rename_i h5
   rw [if_pos (show b<b8 from h4),← h5];exact h1
 · exact h1
theorem aUe {u:List UInt8} (h:lE u=true):¬ ((rpB u:Nat):Int)=nanBits:=by
 obtain ⟨x,t,h1,_,h2,h3,_⟩:=aVb h
 have hb:=fD (vQ h3)
 obtain ⟨k,n,hl,_⟩:=hb.2.2.lit
 have hn:=hl.bound.2.1
 rw [h1]
 intro e
 have:x=9221120237041090560:=by unfold nanBits at e;omega
 rw [this] at hn
 revert hn
 decide
theorem aRe {t bits:Int} {us vs:List Tok} (hok:AllOk us) (hm:kZ us=true) (h:dN us=some ((t,bits),vs)):(eG t (mF true t bits)).isSome=true∧0≤mF true t bits∧mF true t bits<18446744073709551616:=by
 have hg:=(yX h hok).2
 obtain ⟨g1,g2,g3,g4⟩:=hg
 simp only at g1 g2 g3 g4
 unfold mF
 rw [if_pos rfl]
 by_cases h1:t=1
 · subst h1
   rw [if_pos rfl,IntKind.wrap_u64]
   refine ⟨?_,by omega,by omega⟩
   unfold eG
   rw [if_pos rfl]
   split
   · rfl
   rename_i hs
   unfold b8 at hs ⊢
   rw [if_neg (by omega)]
   rfl
 rw [if_neg h1]
 obtain ⟨b,rfl⟩:∃ b:Nat,bits=(b:Int):=⟨bits.toNat,by omega⟩
 have hx:Go.bits .xor .u64 (b:Int) 9223372036854775808=((b+9223372036854775808:Nat):Int):=by
  rw [aA5 (by omega),jP,if_pos (by omega)]
 rw [hx]
 refine ⟨?_,by omega,by omega⟩
 cases us with
 | nil=>cases h
 | cons k us=>
 simp only [dN] at h
 obtain ⟨w,hw,h⟩:=aC h
 rw [Prod.mk.injEq] at h
 obtain ⟨e1,e2⟩:=h
 rw [e1] at hw
 have hk:=hok k bQ
 unfold kZ at hm
 simp only [aI,bX] at hm
 obtain ⟨m1,m2,m3⟩:=hm
 have n1:¬ k.text=[110,97,110]:=fun e=>by rw [if_pos e] at m1;cases m1
 have n2:¬ k.text=[116,114,117,101]:=fun e=>by rw [if_pos e] at m2;cases m2
 have n3:¬ k.text=[102,97,108,115,101]:=fun e=>by rw [if_pos e] at m3;cases m3
 unfold jZ at hw
 have h3:t=3∧¬ (b:Int)=nanBits:=by
  split at hw
  · rename_i hkk
    injection hw with hw
    injection hw with q1 q2
    rcases hkk with hkk | hkk
    · exact absurd (q1.symm.trans (hk.1 hkk).1) h1
    · obtain ⟨r1,u,r2,r3⟩:=hk.2 hkk
      refine ⟨q1.symm.trans r1,?_⟩
      rw [← q2,r3]
      exact aUe r2
  split at hw
  · injection hw with hw
    injection hw with q1 q2
    refine ⟨q1.symm,?_⟩
    rw [← q2]
    decide
  cases hw
 obtain ⟨rfl,hnn⟩:=h3
 unfold eG
 unfold b8
 rw [if_neg (by decide),if_pos rfl,if_neg (by omega),show (((b+9223372036854775808:Nat):Int) - 9223372036854775808)=(b:Int) by omega,if_neg hnn,Option.isSome_map]
 exact g1
theorem aQl {t b:Int} {ts us:List Tok} (hok:AllOk ts) (h:fQ t ts=some (b,us)):(eG t b).isSome=true∧(0≤b∧b<18446744073709551616)∧AllOk us:=by
 simp only [fQ] at h
 split at h
 · rename_i hT
   have hT:=cM hT hok
   split at h <;> first | (cases h;done) | skip
   rename_i hm
   split at h
   · cases h
   rename_i v vs hL
   obtain ⟨v1,v2⟩:=v
   split at h <;> first | (cases h;done) | skip
   rename_i hv
   injection h with h
   injection h with q1 q2
   subst q1 q2
   simp only at hv
   subst hv
   have:=aRe hT hm hL
   exact ⟨this.1,this.2,(yX hL hT).1⟩
 · split at h
   · cases h
   rename_i v vs hL
   obtain ⟨v1,v2⟩:=v
   split at h <;> first | (cases h;done) | skip
   rename_i hv
   injection h with h
   injection h with q1 q2
   subst q1 q2
   simp only at hv
   subst hv
   have hg:=yX hL hok
   refine ⟨aGf hg.2,⟨hg.2.2.2.1,?_⟩,hg.1⟩
   have:=hg.2.2.2.2
   simp only at this
   omega
theorem aVo:(eG 3 0).isSome=true:=by
 have:=aHd (u:=[48,46,48]) (by decide)
 rw [show rpB [48,46,48]=0 by decide] at this
 exact aGf this
theorem aRm {t:Int} {ts us:List Tok} (hok:AllOk ts) (h:fR ts=some (t,us)):(eG t 0).isSome=true∧(0≤t∧t<256)∧AllOk us:=by
 simp only [fR] at h
 split at h
 · rename_i hT
   have hT:=cM hT hok
   injection h with h;injection h with g1 g2;subst g1 g2
   exact ⟨by unfold eG b8;rfl,by decide,hT⟩
 split at h
 · rename_i hT
   have hT:=cM hT hok
   injection h with h;injection h with g1 g2;subst g1 g2
   exact ⟨by unfold eG dA;rfl,by decide,hT⟩
 split at h
 · rename_i hT
   have hT:=cM hT hok
   injection h with h;injection h with g1 g2;subst g1 g2
   exact ⟨aVo,by decide,hT⟩
 · cases h
def VrG (v:Vr):Prop:=b7 v.name=true∧(eG v.ty v.bits).isSome=true∧vrR v
theorem aKe {v:Vr} (h:VrG v) (wd:List UInt8):(vrT wd v).isSome=true:=by
 unfold vrT
 rw [if_pos h.1,Option.isSome_map]
 exact h.2.1
theorem aF0 {x:Vr} {ts us:List Tok} (hok:AllOk ts) (h:eJ ts=some (x,us)):VrG x∧AllOk us:=by
 simp only [eJ] at h
 split at h
 · cases h
 rename_i hn
 have hn:=nJ hn hok
 split at h
 · cases h
 rename_i ht
 have ht:=aRm hn.1 ht
 split at h
 · rename_i hT
   have hT:=cM hT ht.2.2
   split at h
   · cases h
   rename_i hv
   have hv:=aQl hT hv
   obtain ⟨zs,hz,h⟩:=aC h
   have hz:=cM hz hv.2.2
   injection h with g1 g2;subst g1 g2
   exact ⟨⟨hn.2,hv.1,ht.2.1,hv.2.1⟩,hz⟩
 · obtain ⟨zs,hz,h⟩:=aC h
   have hz:=cM hz ht.2.2
   injection h with g1 g2;subst g1 g2
   exact ⟨⟨hn.2,ht.1,ht.2.1,Int.le_refl _,(by decide:(0:Int)<18446744073709551616)⟩,hz⟩
def StG (d:Nat) (s:St):Prop:=(stT d s).isSome=true∧stR s∧stB s≤30*swt s
theorem aFz {e:Ex} (h:ExG e):(lY e).isSome=true:=by
 unfold lY
 rw [if_pos h.2.1]
 exact h.1
theorem aPu:exR ex0:=by
 unfold ex0
 simp only [exR,jS]
 exact ⟨by decide,by decide,by decide,trivial⟩
theorem qH {d:Nat} {k:Int} {nm:List UInt8} {e:Ex} (hk : -9223372036854775808≤k∧k<9223372036854775808) (hn:nm.length≤24) (he:exR e) (hb:exB e≤29*wgt e) (ht:(stT d (.mk k nm e [] [])).isSome=true):StG d (.mk k nm e [] []):=by
 refine ⟨ht,?_,?_⟩
 · simp only [stR,j5]
   exact ⟨hk,he,trivial,trivial⟩
 · simp only [stB,j4,swt,cS]
   omega
theorem aQf {d:Nat} {ts us:List Tok} {s:St} (hok:AllOk ts) (h:fG ts=some (s,us)):StG d s∧AllOk us:=by
 simp only [fG] at h
 have h0:exB ex0≤29*wgt ex0:=by decide
 split at h
 · rename_i hT
   have hT:=cM hT hok
   obtain ⟨p,hp,h⟩:=aC h
   have hp:=nJ hp hT
   injection h with g1 g2;subst g1 g2
   refine ⟨qH (by decide) (jL hp.2) aPu h0 ?_,hp.1⟩
   simp only [stT]
   rw [if_neg (by decide),if_pos trivial,if_pos ⟨hp.2,by rfl,rfl,rfl⟩]
   rfl
 split at h
 · rename_i hT
   have hT:=cM hT hok
   obtain ⟨p,hp,h⟩:=aC h
   have hp:=nJ hp hT
   injection h with g1 g2;subst g1 g2
   refine ⟨qH (by decide) (jL hp.2) aPu h0 ?_,hp.1⟩
   simp only [stT]
   rw [if_neg (by decide),if_neg (by decide),if_pos trivial,if_pos ⟨hp.2,by rfl,rfl,rfl⟩]
   rfl
 split at h
 · rename_i hT
   have hT:=cM hT hok
   obtain ⟨p,hp,h⟩:=aC h
   have hp:=zJ hT hp
   injection h with g1 g2;subst g1 g2
   refine ⟨qH (by decide) (by simp) hp.1.2.2.1 hp.1.2.2.2 ?_,hp.2⟩
   simp only [stT]
   rw [if_neg (by decide),if_neg (by decide),if_neg (by decide),if_pos trivial,if_pos ⟨trivial,rfl,rfl⟩,Option.isSome_map]
   exact aFz hp.1
 split at h
 · rename_i hT
   have hT:=cM hT hok
   injection h with h;injection h with g1 g2;subst g1 g2
   refine ⟨qH (by decide) (by simp) aPu h0 ?_,hT⟩
   simp only [stT]
   rw [if_neg (by decide),if_neg (by decide),if_neg (by decide),if_neg (by decide),if_pos trivial,if_pos ⟨trivial,by rfl,rfl,rfl⟩]
   rfl
 split at h
 · cases h
 rename_i hn
 have hn:=nJ hn hok
 split at h
 · cases h
 rename_i hT
 have hT:=cM hT hn.1
 obtain ⟨p,hp,h⟩:=aC h
 have hp:=zJ hT hp
 injection h with g1 g2;subst g1 g2
 refine ⟨qH (by decide) (jL hn.2) hp.1.2.2.1 hp.1.2.2.2 ?_,hp.2⟩
 simp only [stT]
 rw [if_pos trivial,if_pos ⟨hn.2,rfl,rfl⟩,Option.isSome_map]
 exact aFz hp.1
def aDy (d:Nat) (l:List St):Prop:=(dQ d l).isSome=true∧j5 l∧j4 l≤30*cS l
theorem aPc {d:Nat} {e:Ex} {b l:List St} (he:ExG e) (hb:aDy (d+1) b) (hl:aDy (d+1) l):StG d (.mk 5 [] e b l):=by
 refine ⟨?_,?_,?_⟩
 · obtain ⟨t,ht⟩:=aQ (aFz he)
   obtain ⟨u,hu⟩:=aQ hb.1
   obtain ⟨v,hv⟩:=aQ hl.1
   simp only [stT,ht,hu,hv]
   rw [if_neg (by decide),if_neg (by decide),if_neg (by decide),if_neg (by decide),if_neg (by decide),if_pos (by decide),if_neg (by simp)]
   rw [if_neg (by decide)]
   split <;> rfl
 · simp only [stR]
   exact ⟨by decide,he.2.2.1,hb.2.1,hl.2.1⟩
 · have:=he.2.2.2
   have:=hb.2.2
   have:=hl.2.2
   simp only [stB,swt,aD]
   omega
theorem aOy {d:Nat} {e:Ex} {b:List St} (he:ExG e) (hb:aDy (d+1) b):StG d (.mk 6 [] e b []):=by
 refine ⟨?_,?_,?_⟩
 · obtain ⟨t,ht⟩:=aQ (aFz he)
   obtain ⟨u,hu⟩:=aQ hb.1
   simp only [stT,dQ,ht,hu]
   rw [if_neg (by decide),if_neg (by decide),if_neg (by decide),if_neg (by decide),if_neg (by decide),if_pos (by decide),if_neg (by simp)]
   rw [if_pos trivial]
   rfl
 · simp only [stR,j5]
   exact ⟨by decide,he.2.2.1,hb.2.1,trivial⟩
 · have:=he.2.2.2
   have:=hb.2.2
   simp only [stB,j4,swt,cS,aD]
   omega
theorem aG3 (d:Nat):aDy d []:=⟨by simp only [dQ];rfl,by simp only [j5],by simp only [j4,cS];omega⟩
theorem aJz:∀ n:Nat,(∀ d ts l us,AllOk ts→fN n d ts=some (l,us)→aDy (d+1) l∧AllOk us)∧(∀ d ts l us,d≤32→AllOk ts→d5 n d ts=some (l,us)→aDy d l∧AllOk us)∧(∀ d ts s us,AllOk ts→stK n d ts=some (s,us)→StG d s∧AllOk us)
 | 0=>⟨fun _ _ _ _ _ h=>(by simp only [fN] at h;cases h),fun _ _ _ _ _ _ h=>(by simp only [d5] at h;cases h),fun _ _ _ _ _ h=>(by simp only [stK] at h;cases h)⟩
 | n+1=>by
   obtain ⟨hb,hl,hs⟩:=aJz n
   refine ⟨fun d ts l us ho h=>?_,fun d ts l us hd ho h=>?_,fun d ts s us ho h=>?_⟩
   · simp only [fN] at h
     split at h
     · cases h
     rename_i hT
     have hT:=cM hT ho
     split at h <;> first | (cases h;done) | skip
     rename_i hd
     split at h
     · cases h
     rename_i h1
     have h1:=hl _ _ _ _ hd hT h1
     obtain ⟨vs,hU,h⟩:=aC h
     have hU:=cM hU h1.2
     injection h with g1 g2;subst g1 g2
     exact ⟨h1.1,hU⟩
   · simp only [d5] at h
     split at h
     · injection h with h;injection h with g1 g2;subst g1 g2;exact ⟨aG3 d,ho⟩
     split at h
     · cases h
     rename_i h1
     have h1:=hs _ _ _ _ ho h1
     obtain ⟨p,hp,h⟩:=aC h
     have hp:=hl _ _ _ _ hd h1.2 hp
     injection h with g1 g2;subst g1 g2
     refine ⟨⟨?_,?_,?_⟩,hp.2⟩
     · obtain ⟨u,hu⟩:=aQ h1.1.1
       obtain ⟨v,hv⟩:=aQ hp.1.1
       simp only [dQ]
       rw [if_neg (by omega),hu]
       simp only []
       rw [hv]
       rfl
     · simp only [j5]
       exact ⟨h1.1.2.1,hp.1.2.1⟩
     · have:=h1.1.2.2
       have:=hp.1.2.2
       simp only [j4,cS]
       omega
   · simp only [stK] at h
     split at h
     · rename_i hT
       have hT:=cM hT ho
       split at h
       · cases h
       rename_i he
       have he:=zJ hT he
       split at h
       · cases h
       rename_i h1
       have h1:=hb _ _ _ _ he.2 h1
       split at h
       · rename_i hU
         have hU:=cM hU h1.2
         obtain ⟨p,hp,h⟩:=aC h
         have hp:=hb _ _ _ _ hU hp
         injection h with g1 g2;subst g1 g2
         exact ⟨aPc he.1 h1.1 hp.1,hp.2⟩
       · injection h with h;injection h with g1 g2;subst g1 g2
         exact ⟨aPc he.1 h1.1 (aG3 _),h1.2⟩
     split at h
     · rename_i hT
       have hT:=cM hT ho
       split at h
       · cases h
       rename_i he
       have he:=zJ hT he
       obtain ⟨p,hp,h⟩:=aC h
       have hp:=hb _ _ _ _ he.2 hp
       injection h with g1 g2;subst g1 g2
       exact ⟨aOy he.1 hp.1,hp.2⟩
     split at h
     · cases h
     rename_i h1
     have h1:=aQf (d:=d) ho h1
     obtain ⟨vs,hU,h⟩:=aC h
     have hU:=cM hU h1.2
     injection h with g1 g2;subst g1 g2
     exact ⟨h1.1,hU⟩
theorem aF9:∀ (n:Nat) {ts us:List Tok} {l:List Vr},AllOk ts→eV n ts=some (l,us)→(∀ v∈l,VrG v)∧AllOk us
 | 0,ts,us,l,ho,h=>by simp only [eV] at h;cases h
 | n+1,ts,us,l,ho,h=>by
   simp only [eV] at h
   split at h
   · injection h with h;injection h with g1 g2;subst g1 g2;exact ⟨fun _ h=>(by cases h),ho⟩
   rename_i hT
   have hT:=cM hT ho
   split at h
   · cases h
   rename_i hv
   have hv:=aF0 hT hv
   obtain ⟨p,hp,h⟩:=aC h
   have hp:=aF9 n hv.2 hp
   injection h with g1 g2;subst g1 g2
   exact ⟨fun v hm=>(bJ hm).elim (fun e=>e ▸ hv.1) (hp.1 v),hp.2⟩
theorem tJ {α:Type} {f:α→Option (List UInt8)}:∀ {l:List α},(∀ x∈l,(f x).isSome=true)→(cE f l).isSome=true
 | [],_=>rfl
 | x::l,h=>by
   obtain ⟨t,ht⟩:=aQ (h x bQ)
   obtain ⟨u,hu⟩:=aQ (tJ (l:=l) fun y hy=>h y (bA _ hy))
   simp only [cE,ht,hu]
   rfl
theorem aSk {l:List Vr} (h:∀ v∈l,VrG v):i7 vrB l≤25*l.length:=by
 induction l with
 | nil=>exact aH _
 | cons v l ih=>
   have h1:=jL (h v bQ).1
   have h2:=ih fun x hx=>h x (bA _ hx)
   simp only [i7,vrB,aB]
   omega
def ThG (t:Th):Prop:=(thT t).isSome=true∧thR t∧thB t≤30*thw t
theorem aQu {x:Th} {ts us:List Tok} (hok:AllOk ts) (h:iY ts=some (x,us)):ThG x∧AllOk us:=by
 simp only [iY] at h
 split at h
 · cases h
 rename_i h1
 have h1:=cM h1 hok
 split at h
 · cases h
 rename_i h2
 have h2:=nJ h2 h1
 split at h
 · cases h
 rename_i h3
 have h3:=cM h3 h2.1
 split at h
 · cases h
 rename_i h4
 have h4:=aF9 _ h3 h4
 split at h
 · cases h
 rename_i h5
 have h5:=(aJz _).2.1 _ _ _ _ (by omega) h4.2 h5
 obtain ⟨q,h6,h⟩:=aC h
 have h6:=cM h6 h5.2
 injection h with g1 g2;subst g1 g2
 refine ⟨⟨?_,⟨fun v hv=>(h4.1 v hv).2.2,h5.1.2.1⟩,?_⟩,h6⟩
 · obtain ⟨u,hu⟩:=aQ (tJ (f:=vrT [32,32,108,111,99,97,108]) fun v hv=>aKe (h4.1 v hv) _)
   obtain ⟨w,hw⟩:=aQ h5.1.1
   unfold thT
   simp only [hu,hw]
   rw [if_pos h2.2]
   rfl
 · have a1:=jL h2.2
   have a2:=aSk h4.1
   have a3:=h5.1.2.2
   simp only [thB,thw]
   omega
theorem aAp:∀ (n:Nat) {ts us:List Tok} {d:List Vr×List (List UInt8)},AllOk ts→dZ n ts=some (d,us)→((∀ v∈d.1,VrG v)∧(∀ m∈d.2,b7 m=true))∧AllOk us∧d.1.length+d.2.length+us.length≤ts.length
 | 0,ts,us,d,ho,h=>by simp only [dZ] at h;cases h
 | n+1,ts,us,d,ho,h=>by
   simp only [dZ] at h
   split at h
   · rename_i hT
     have hl:=b5 hT
     have hT:=cM hT ho
     split at h
     · cases h
     rename_i hv
     have hvl:=zM hv
     have hv:=aF0 hT hv
     obtain ⟨p,hp,h⟩:=aC h
     have hp:=aAp n hv.2 hp
     injection h with g1 g2;subst g1 g2
     refine ⟨⟨fun v hm=>(bJ hm).elim (fun e=>e ▸ hv.1) (hp.1.1 v),hp.1.2⟩,hp.2.1,?_⟩
     have:=hp.2.2
     simp only [aB]
     omega
   · split at h
     · injection h with h;injection h with g1 g2;subst g1 g2
       exact ⟨⟨fun _ h=>(by cases h),fun _ h=>(by cases h)⟩,ho,by simp⟩
     rename_i hT
     have hl:=b5 hT
     have hT:=cM hT ho
     split at h
     · cases h
     rename_i hv
     have hvl:=jN hv
     have hv:=nJ hv hT
     split at h
     · cases h
     rename_i hU
     have hul:=b5 hU
     have hU:=cM hU hv.1
     obtain ⟨p,hp,h⟩:=aC h
     have hp:=aAp n hU hp
     injection h with g1 g2;subst g1 g2
     refine ⟨⟨hp.1.1,fun v hm=>(bJ hm).elim (fun e=>e ▸ hv.2) (hp.1.2 v)⟩,hp.2.1,?_⟩
     have:=hp.2.2
     simp only [aB]
     omega
theorem aHy:∀ (n:Nat) {ts us:List Tok} {l:List Th},AllOk ts→eZ n ts=some (l,us)→(∀ t∈l,ThG t)∧fZ l+us.length≤ts.length
 | 0,ts,us,l,ho,h=>by simp only [eZ] at h;cases h
 | n+1,ts,us,l,ho,h=>by
   simp only [eZ] at h
   split at h
   · injection h with h;injection h with g1 g2;subst g1 g2;exact ⟨fun _ h=>(by cases h),by simp [fZ]⟩
   split at h
   · cases h
   rename_i ht
   have hl:=aKg ht
   have ht:=aQu ho ht
   obtain ⟨p,hp,h⟩:=aC h
   have hp:=aHy n ht.2 hp
   injection h with g1 g2;subst g1 g2
   refine ⟨fun v hm=>(bJ hm).elim (fun e=>e ▸ ht.1) (hp.1 v),?_⟩
   have:=hp.2
   simp only [fZ]
   omega
theorem aVu {l:List Th} (h:∀ v∈l,ThG v):i7 thB l≤30*fZ l:=by
 induction l with
 | nil=>exact aH _
 | cons v l ih=>
   have h1:=(h v bQ).2.2
   have h2:=ih fun x hx=>h x (bA _ hx)
   simp only [i7,fZ]
   omega
theorem aVl {l:List (List UInt8)} (h:∀ v∈l,b7 v=true):i7 txB l≤25*l.length:=by
 induction l with
 | nil=>exact aH _
 | cons v l ih=>
   have h1:=jL (h v bQ)
   have h2:=ih fun x hx=>h x (bA _ hx)
   simp only [i7,txB,aB]
   omega
theorem aS1 {ts us:List Tok} {p:Pg} (hok:AllOk ts) (h:pgK ts=some (p,us)):(pgT p).isSome=true∧pgR p∧pgB p≤30*ts.length∧pwt p≤ts.length:=by
 simp only [pgK] at h
 split at h
 · cases h
 rename_i hd
 have hd:=aAp _ hok hd
 obtain ⟨q,hq,h⟩:=aC h
 have hq:=aHy _ hd.2.1 hq
 injection h with g1 g2;subst g1 g2
 have a1:=aSk hd.1.1
 have a2:=aVl hd.1.2
 have a3:=aVu hq.1
 have a4:=hd.2.2
 have a5:=hq.2
 refine ⟨?_,⟨fun v hv=>(hd.1.1 v hv).2.2,fun t ht=>(hq.1 t ht).2.1⟩,?_,?_⟩
 · obtain ⟨u,hu⟩:=aQ (tJ (f:=vrT [115,104,97,114,101,100]) fun v hv=>aKe (hd.1.1 v hv) _)
   obtain ⟨v,hv⟩:=aQ (tJ (f:=mxT) fun m hm=>by unfold mxT;rw [if_pos (hd.1.2 m hm)];rfl)
   obtain ⟨w,hw⟩:=aQ (tJ (f:=thT) fun t ht=>(hq.1 t ht).1)
   unfold pgT
   simp only [hu,hv,hw]
   rfl
 · simp only [pgB];omega
 · simp only [pwt];omega
end
section
theorem aTa {r:List UInt8} (h:(cY r).err=0) (x:List UInt8) (p:Int):aFx ⟨(cY r).kind,x,p,(cY r).ty,(cY r).va⟩:=by
 cases r with
 | nil=>cases h
 | cons c t=>
   have h:(eQ (c.toNat:Int) (c::t)).err=0:=h
   show aFx ⟨(eQ (c.toNat:Int) (c::t)).kind,x,p,(eQ (c.toNat:Int) (c::t)).ty,(eQ (c.toNat:Int) (c::t)).va⟩
   obtain ⟨r,hr⟩:∃ r,r=c::t:=⟨_,rfl⟩
   rw [← hr] at h ⊢
   unfold eQ at h ⊢
   split
   · rename_i hl
     rw [if_pos hl] at h
     split
     · exact ⟨fun h=>(by cases h),fun h=>(by cases h)⟩
     · exact ⟨fun h=>(by cases h),fun h=>(by cases h)⟩
   rename_i hl
   rw [if_neg hl] at h
   split
   · rename_i hd
     rw [if_pos hd] at h
     split
     · rename_i hn
       rw [if_pos hn] at h
       split
       · exact ⟨fun h=>(by cases h),fun h=>(by cases h)⟩
       · unfold iZ at hn
         unfold nmK nmT nmV
         by_cases hp:ptN r=true
         · rw [if_pos hp] at hn
           simp only [hp,if_true]
           refine ⟨fun h=>(by cases h),fun _=>⟨rfl,fB r,?_,rfl⟩⟩
           have:=eq_of_beq hn
           unfold rpF at this
           split at this
           · assumption
           · cases this
         · rw [if_neg hp] at hn
           simp only [hp,if_false]
           refine ⟨fun _=>?_,fun h=>(by cases h)⟩
           simp only [bN,if_false]
           unfold whT whV
           rw [if_pos hn,if_pos hn]
           unfold fP at hn
           have:=(of_decide_eq_true hn).2
           exact ⟨rfl,by omega,by omega⟩
     · exact ⟨fun h=>(by cases h),fun h=>(by cases h)⟩
   · split
     · exact ⟨fun h=>(by cases h),fun h=>(by cases h)⟩
     · exact ⟨fun h=>(by cases h),fun h=>(by cases h)⟩
theorem aGl {s:List UInt8}:∀ {l:List (Nat×TR)} {at_:Nat},pP s at_ l→AllOk (l.map (jB s))
 | [],_,_=>fun _ h=>(by cases h)
 | (k,R)::l,at_,h=>by
   obtain ⟨h1,hk,h3,hR,he,hc⟩:=h
   intro t ht
   rcases bJ ht with rfl | ht
   · subst hR
     exact aTa he _ _
   · exact aGl hc t ht
theorem z8 {s:List UInt8} {p:Pg} (h:eW s=some p):(pgT p).isSome=true∧pgR p∧pgB p≤1000000∧pwt p≤1000000:=by
 unfold eW at h
 split at h
 · cases h
 rename_i l hL
 have hll:=vU hL
 have hc:pP s 0 l:=by
  unfold iP at hL
  split at hL
  · cases hL
  · exact yG s (s.length+1) 0 l (Nat.zero_le _) (by have:=(lK (s:=s) (Nat.zero_le _)).1;omega) hL
 obtain ⟨q,hq,rfl⟩:=aC h
 have:=aS1 (aGl hc) hq
 rw [List.length_map] at this
 exact ⟨this.1,this.2.1,by omega,by omega⟩
def tk0 (r:List UInt8):Tok:=⟨(cY r).kind,r.take (cY r).len,0,(cY r).ty,(cY r).va⟩
inductive LexTo:List UInt8→List Tok→Prop where
 | nil {r:List UInt8} (h:r.drop (skN false r)=[]):LexTo r []
 | cons {r r':List UInt8} {K:List Tok} (h:r.drop (skN false r)=r') (hne:r'≠[]) (he:(cY r').err=0) (hK:LexTo (r'.drop (cY r').len) K):LexTo r (tk0 r'::K)
theorem aJ8 (s:List UInt8) (k:Nat):s.drop (nxN s k)=(s.drop k).drop (skN false (s.drop k)):=by
 unfold nxN
 rw [List.drop_drop]
theorem aQd {r:List UInt8} {K:List Tok} (h:LexTo r K):∀ (s:List UInt8) (k f:Nat),s.drop k=r→k≤s.length→s.length<f+nxN s k→∃ l,gZ s f (nxN s k) = .ok l∧l.map (fun p=>np (jB s p))=K:=by
 induction h with
 | nil h=>
   intro s k f hr hk hf
   have hd:=aJ8 s k
   rw [hr,h] at hd
   have hlen:=congrArg List.length hd
   rw [bI,aD] at hlen
   cases f with
   | zero=>exact ⟨[],rfl,rfl⟩
   | succ f=>exact ⟨[],by unfold gZ;rw [if_neg (by omega)],rfl⟩
 | cons h hne he hK ih=>
   rename_i r0 r1 K0
   intro s k f hr hk hf
   have hd:=aJ8 s k
   rw [hr,h] at hd
   have hnx:=lK hk
   have hlt:nxN s k<s.length:=by
    rcases aY (nxN s k) s.length with h | h
    · exact h
    · rw [List.drop_eq_nil_of_le h] at hd
      exact absurd hd.symm hne
   have htl:=tL hne he
   have hl1:r1.length=s.length - nxN s k:=by rw [← hd,bI]
   obtain ⟨f,rfl⟩:∃ g,f=g+1:=⟨f - 1,by omega⟩
   have hk2:nxN s k+(cY r1).len≤s.length:=by omega
   have hnx2:=lK hk2
   obtain ⟨l,h1,h2⟩:=ih s (nxN s k+(cY r1).len) f (by rw [← List.drop_drop,hd]) hk2 (by omega)
   refine ⟨(nxN s k,cY r1)::l,?_,?_⟩
   · unfold gZ
     rw [if_pos hlt,hd,if_pos he,h1]
   · rw [List.map_cons,h2]
     congr 1
     unfold np jB tk0
     simp only
     rw [hd]
theorem aH6 {t:List UInt8} {K:List Tok} {p:Pg} {us:List Tok} (h:LexTo t K) (hl:t.length≤16384) (hK:pgK K=some (p,us)):eW t=some p:=by
 obtain ⟨l,h1,h2⟩:=aQd h t 0 (t.length+1) (by simp) (Nat.zero_le _) (by have:=(lK (s:=t) (Nat.zero_le _)).1;omega)
 have hx:iP t = .ok l:=by unfold iP;rw [if_neg (by omega)];exact h1
 unfold eW
 rw [hx]
 simp only
 have hn:∀ k∈K,np k=k:=by
  intro k hk
  rw [← h2] at hk
  obtain ⟨q,_,rfl⟩:=List.mem_map.1 hk
  rfl
 have e:(l.map (jB t)).map np=K.map np:=by
  rw [List.map_map]
  have:K.map np=K:=by rw [List.map_congr_left hn,List.map_id']
  rw [this]
  exact h2
 rw [aJn e,hK]
 rfl
theorem LexTo.same {r q:List UInt8} {K:List Tok} (h:LexTo r K) (e:q.drop (skN false q)=r.drop (skN false r)):LexTo q K:=by
 cases h with
 | nil h=>exact .nil (e.trans h)
 | cons h hne he hK=>exact .cons (e.trans h) hne he hK
theorem aHp {r:List UInt8} {K:List Tok} {c:UInt8} (hc:kM (c.toNat:Int)=true) (h:LexTo r K):LexTo (c::r) K:=h.same (by
 have:skN false (c::r)=skN false r+1:=by
  show (if kM (c.toNat:Int) then skN false r+1 else if c.toNat=35 then skN true r+1 else 0)=_
  rw [if_pos hc]
 rw [this,List.drop_succ_cons])
theorem cV {r:List UInt8} {K:List Tok} (h:LexTo r K):LexTo (32::r) K:=aHp (by decide) h
theorem jA {r:List UInt8} {K:List Tok} (h:LexTo r K):LexTo (10::r) K:=aHp (by decide) h
theorem aU0:LexTo [] [] := .nil rfl
theorem aCl {x r:List UInt8} {K:List Tok} {k ty va:Int} (hx:x≠[]) (ht:cY (x++r)=⟨0,0,k,x.length,ty,va⟩) (h:LexTo r K):LexTo (x++r) (⟨k,x,0,ty,va⟩::K):=by
 obtain ⟨c,t,rfl⟩:∃ c t,x=c::t:=by cases x with | nil=>exact absurd rfl hx | cons c t=>exact ⟨c,t,rfl⟩
 have he:(cY ((c::t)++r)).err=0:=by rw [ht]
 have h0:skN false ((c::t)++r)=0:=aEo he
 have hk:tk0 ((c::t)++r)=⟨k,c::t,0,ty,va⟩:=by
  unfold tk0
  rw [ht]
  simp only
  rw [List.take_left]
 rw [← hk]
 refine .cons (by rw [h0];rfl) (by simp) he ?_
 rw [ht]
 simp only
 rw [List.drop_left]
 exact h
def mI:List UInt8→Prop
 | []=>True
 | c::_=>nmB (c.toNat:Int)=false∧¬ c=46
abbrev skT (s:List UInt8):Tok:=⟨4,s,0,0,0⟩
abbrev wkT (s:List UInt8):Tok:=⟨1,s,0,0,0⟩
def okW:List UInt8→Bool
 | []=>false
 | c::t=>i6 (c.toNat:Int)&&((c::t).all (fun x=>nmB (x.toNat:Int))&&decide ((c::t).length≤24))
theorem aJk {p:UInt8→Bool} {x r:List UInt8} (hx:∀ c∈x,p c=true) (hr:∀ c q,r=c::q→p c=false):(x++r).takeWhile p=x:=by
 rw [List.takeWhile_append_of_pos hx]
 cases r with
 | nil=>simp
 | cons c q=>rw [List.takeWhile_cons,hr c q rfl];simp
theorem dF {x r:List UInt8} {K:List Tok} (hx:okW x=true) (hr:mI r) (h:LexTo r K):LexTo (x++r) (wkT x::K):=by
 cases x with
 | nil=>cases hx
 | cons c t=>
   simp only [okW,aI] at hx
   obtain ⟨h1,h2,h3⟩:=hx
   have h3:=of_decide_eq_true h3
   refine aCl (x:=c::t) (by simp) ?_ h
   show eQ (c.toNat:Int) ((c::t)++r)=_
   have hn:i8 ((c::t)++r)=(c::t).length:=by
    unfold i8
    rw [aJk (fun x hx=>bE h2 x hx) (fun d q e=>by subst e;exact hr.1)]
   unfold eQ
   rw [if_pos h1,hn,if_neg (by omega)]
theorem vD {x:List UInt8} (h:b7 x=true):okW x=true:=by
 have hl:=jL h
 unfold b7 at h
 split at h
 · cases h
 split at h
 · cases h
 split at h <;> first | (cases h;done) | skip
 rename_i h1
 split at h
 · cases h
 cases x with
 | nil=>rename_i h0 _ _;exact absurd (Nat.zero_lt_one) h0
 | cons c t=>
   simp only [okW,aI]
   exact ⟨h1,h,decide_eq_true hl⟩
theorem aC9 {x r:List UInt8} {K:List Tok} {c:UInt8} {t:List UInt8} (hc:x=c::t) (h1:i6 (c.toNat:Int)=false) (h2:eD (c.toNat:Int)=false) (hs:fT (x++r)=x.length) (h:LexTo r K):LexTo (x++r) (skT x::K):=by
 subst hc
 refine aCl (by simp) ?_ h
 show eQ (c.toNat:Int) ((c::t)++r)=_
 unfold eQ
 rw [if_neg (by rw [h1];decide),if_neg (by rw [h2];decide),hs,if_neg (by simp)]
theorem d7 {c:UInt8} {r:List UInt8} {K:List Tok} (hc:c=40∨c=41∨c=59∨c=123∨c=125∨c=45∨c=43∨c=42∨c=47∨c=37) (h:LexTo r K):LexTo (c::r) (skT [c]::K):=by
 refine aC9 (x:=[c]) rfl ?_ ?_ ?_ h
 · rcases hc with rfl | rfl | rfl | rfl | rfl | rfl | rfl | rfl | rfl | rfl <;> decide
 · rcases hc with rfl | rfl | rfl | rfl | rfl | rfl | rfl | rfl | rfl | rfl <;> decide
 · show dS ((c::r).take 2) c=1
   have hne:∀ d e:UInt8,¬ c=d→¬ (((c::r).take 2==[d,e])=true):=fun d e hd h=>hd (by
    have:=eq_of_beq h
    cases r with
    | nil=>simp at this
    | cons x r=>simp at this;exact this.1)
   unfold dS
   rcases hc with rfl | rfl | rfl | rfl | rfl | rfl | rfl | rfl | rfl | rfl <;>
    (rw [if_neg (hne _ _ (by decide)),if_neg (hne _ _ (by decide)),if_neg (hne _ _ (by decide)),if_neg (hne _ _ (by decide)),if_neg (hne _ _ (by decide)),if_neg (hne _ _ (by decide))];rfl)
theorem yA {c d:UInt8} {r:List UInt8} {K:List Tok} (hc:c=61∨c=33∨c=60∨c=62) (hd:¬ d=61) (h:LexTo (d::r) K):LexTo (c::d::r) (skT [c]::K):=by
 refine aC9 (x:=[c]) rfl ?_ ?_ ?_ h
 · rcases hc with rfl | rfl | rfl | rfl <;> decide
 · rcases hc with rfl | rfl | rfl | rfl <;> decide
 · show dS [c,d] c=1
   have hne:∀ x:UInt8,¬ (([c,d]==[x,61])=true):=fun x h=>hd (by
    have:=eq_of_beq h
    injection this with _ this
    injection this)
   have hn2:∀ x e:UInt8,¬ c=x→¬ (([c,d]==[x,e])=true):=fun x e hx h=>hx (by
    have:=eq_of_beq h
    injection this)
   unfold dS
   rcases hc with rfl | rfl | rfl | rfl <;>
    (rw [if_neg (hne _),if_neg (hne _),if_neg (hne _),if_neg (hne _),if_neg (hn2 _ _ (by decide)),if_neg (hn2 _ _ (by decide))];rfl)
theorem zH {c d:UInt8} {r:List UInt8} {K:List Tok} (hc:[c,d]=[61,61]∨[c,d]=[33,61]∨[c,d]=[60,61]∨[c,d]=[62,61]∨[c,d]=[38,38]∨[c,d]=[124,124]) (h:LexTo r K):LexTo (c::d::r) (skT [c,d]::K):=by
 refine aC9 (x:=[c,d]) rfl ?_ ?_ ?_ h
 · rcases hc with e | e | e | e | e | e <;> (injection e with e1 e2;subst e1;decide)
 · rcases hc with e | e | e | e | e | e <;> (injection e with e1 e2;subst e1;decide)
 · show dS [c,d] c=2
   rcases hc with e | e | e | e | e | e <;> (injection e with e1 e2;injection e2 with e2 _;subst e1 e2;rfl)
theorem oX {c:UInt8}:eR c=eD (c.toNat:Int):=by
 unfold eR eD
 by_cases h:48≤c.toNat∧c.toNat≤57
 · rw [decide_eq_true h,decide_eq_true (by omega)]
 · rw [decide_eq_false h,decide_eq_false (by omega)]
theorem aH3 {r:List UInt8} (hr:mI r):∀ c q,r=c::q→eD (c.toNat:Int)=false:=fun c q e=>by
 subst e
 have:=hr.1
 unfold nmB at this
 rw [Bool.or_eq_false_iff] at this
 exact this.2
theorem aAg {x r:List UInt8} (hx:x.all eR=true) (hr:∀ c q,r=c::q→eD (c.toNat:Int)=false):dgN (x++r)=x.length:=by
 unfold dgN
 rw [aJk (fun c hc=>by rw [← oX];exact bE hx c hc) hr]
theorem aOc {r:List UInt8} (hr:mI r):nZ r.head?=false:=by
 cases r with
 | nil=>rfl
 | cons c q=>
   have h1:=hr.1
   unfold nmB at h1
   rw [Bool.or_eq_false_iff] at h1
   simp only [List.head?_cons,nZ]
   rw [h1.1,Bool.false_or]
   have:=hr.2
   exact beq_eq_false_iff_ne.2 (fun e=>this (by
    apply UInt8.toNat_inj.1
    have:(46:UInt8).toNat=46:=rfl
    omega))
theorem aUk {n:Nat} {r:List UInt8} {K:List Tok} (hn:n<9223372036854775808) (hr:mI r) (h:LexTo r K):LexTo (Lib.decDigits n++r) (⟨2,Lib.decDigits n,0,1,(n:Int)⟩::K):=by
 obtain ⟨x,hx⟩:∃ x,x=Lib.decDigits n:=⟨_,rfl⟩
 have hne:=iH n
 have hall:=fW n
 have hv:=tR n
 have hh:x.head?≠some 48∨x=[48]:=by
  rcases bM n with h0 | h0
  · exact .inr (by rw [hx,h0,eS (by omega)];rfl)
  · exact .inl (by rw [hx];exact tN h0)
 rw [← hx] at hne hall hv ⊢
 obtain ⟨c,t,hct⟩:∃ c t,x=c::t:=by cases x with | nil=>exact absurd rfl hne | cons c t=>exact ⟨c,t,rfl⟩
 have hc:eD (c.toNat:Int)=true:=by rw [← oX];exact bE hall c (by rw [hct];exact bQ)
 have hl:i6 (c.toNat:Int)=false:=by
  have:=of_decide_eq_true hc
  unfold i6
  exact decide_eq_false (by omega)
 refine aCl hne ?_ h
 have hd:dgN (x++r)=x.length:=aAg hall (aH3 hr)
 have hp:ptN (x++r)=false:=by
  unfold ptN
  rw [hd,aP (aH _),Nat.sub_self]
  cases r with
  | nil=>rfl
  | cons d q=>
    have:=hr.2
    simp [this]
 have hnl:cK (x++r)=x.length:=by unfold cK;rw [if_neg (by rw [hp];decide),hd]
 have htx:fB (x++r)=x:=by unfold fB;rw [hnl,List.take_left]
 have hw:fP x=true:=by
  unfold fP
  refine decide_eq_true ⟨fun h=>?_,by rw [hv];exact hn⟩
  rcases hh with hh | hh
  · exact hh h.1
  · rw [hh] at h;exact absurd h.2 (by decide)
 have hst:nZ ((x++r)[cK (x++r)]?)=false:=by
  rw [hnl,aP (aH _),Nat.sub_self,← List.head?_eq_getElem?]
  exact aOc hr
 show cY (x++r)=_
 have e:cY (x++r)=eQ (c.toNat:Int) (x++r):=by rw [hct];rfl
 rw [e]
 unfold eQ iZ nmK nmT nmV whT whV
 rw [if_neg (by rw [hl];decide),if_pos hc,htx,hst,hnl]
 simp only [hp,bN,if_false]
 rw [if_pos hw,if_pos hw,if_pos hw,hv]
theorem aTy {n k:Nat} {r:List UInt8} {K:List Tok} (hn:n<1000000000000000) (h1:1≤k) (h6:k≤6) (hr:mI r) (h:LexTo r K):LexTo (fE n k++r) (⟨3,fE n k,0,3,((rpB (fE n k):Nat):Int)⟩::K):=by
 obtain ⟨x,hx⟩:∃ x,x=Lib.decDigits (n / 10 ^ k):=⟨_,rfl⟩
 obtain ⟨y,hy⟩:∃ y,y=dgw k n:=⟨_,rfl⟩
 have hz:fE n k=x++46::y:=by rw [hx,hy];rfl
 have hne:x≠[]:=by rw [hx];exact iH _
 have hall:x.all eR=true:=by rw [hx];exact fW _
 have hall2:y.all eR=true:=by rw [hy];exact aC5 _ _
 have hyl:y.length=k:=by rw [hy];exact f8 _ _
 have hok:=aG7 hn h1 h6
 obtain ⟨z,hzz⟩:∃ z,z=fE n k:=⟨_,rfl⟩
 rw [← hzz] at hz hok ⊢
 obtain ⟨c,t,hct⟩:∃ c t,x=c::t:=by cases x with | nil=>exact absurd rfl hne | cons c t=>exact ⟨c,t,rfl⟩
 have hc:eD (c.toNat:Int)=true:=by rw [← oX];exact bE hall c (by rw [hct];exact bQ)
 have hl:i6 (c.toNat:Int)=false:=by
  have:=of_decide_eq_true hc
  unfold i6
  exact decide_eq_false (by omega)
 have ezr:z++r=x++(46::(y++r)):=by rw [hz];simp
 have hd:dgN (z++r)=x.length:=by rw [ezr];exact aAg hall (fun c q e=>by injection e with e _;subst e;decide)
 have hdrop:(z++r).drop (x.length+1)=y++r:=by rw [ezr,← List.drop_drop,List.drop_left];rfl
 have hp:ptN (z++r)=true:=by
  unfold ptN
  rw [hd,hdrop,ezr,aP (aH _),Nat.sub_self]
  cases hyy:y with
  | nil=>rw [hyy] at hyl;simp at hyl;omega
  | cons d q=>
    have:eD (d.toNat:Int)=true:=by rw [← oX];exact bE hall2 d (by rw [hyy];exact bQ)
    simp [this]
 have hnl:cK (z++r)=z.length:=by
  unfold cK
  rw [if_pos hp,hd,hdrop,aAg hall2 (aH3 hr),hz]
  simp
  omega
 have htx:fB (z++r)=z:=by unfold fB;rw [hnl,List.take_left]
 have hrp:rpF z=0:=by unfold rpF;rw [hok,if_pos rfl]
 have hst:nZ ((z++r)[cK (z++r)]?)=false:=by
  rw [hnl,aP (aH _),Nat.sub_self,← List.head?_eq_getElem?]
  exact aOc hr
 refine aCl (by rw [hz,hct];simp) ?_ h
 have e:cY (z++r)=eQ (c.toNat:Int) (z++r):=by rw [hz,hct];rfl
 rw [e]
 unfold eQ iZ nmK nmT nmV
 rw [if_neg (by rw [hl];decide),if_pos hc,htx,hst,hnl]
 simp only [hp,if_true]
 rw [hrp]
 rfl
end
section
noncomputable def ltK (ty bits:Int) (t:List UInt8):Tok:=
 if ty=1 then ⟨2,t,0,1,bits⟩ else if ty=2∨bits=nanBits∨bits=kE then wkT t else ⟨3,t,0,3,bits⟩
mutual
noncomputable def exK:Ex→List Tok
 | .mk op ty bits name kids=>if op=1 then [ltK ty bits ((dA ty bits).getD [])] else if op=2 then [wkT name]
   else if op=16 then skT [45]::(l8 kids).flatten else if op=17 then skT [33]::(l8 kids).flatten
   else if op=18 then wkT [105,110,116]::skT [40]::((l8 kids).flatten++[skT [41]]) else if op=19 then wkT [114,101,97,108]::skT [40]::((l8 kids).flatten++[skT [41]])
   else match l8 kids with
    | [a,b]=>skT [40]::(a++(skT (jR op)::(b++[skT [41]])))
    | _=>[]
noncomputable def l8:List Ex→List (List Tok)
 | []=>[]
 | e::l=>exK e::l8 l
end
def mU (least:Nat):List Tok→Prop
 | []=>True
 | t::_=>¬ (t.kind=4∧(least:Int)≤(sgK t.text).2)
theorem aBe {n least nest:Nat} {e:Ex} {ts:List Tok} (h:mU least ts):eM (n+1) least nest e ts=some (e,ts):=by
 cases ts with
 | nil=>simp only [eM]
 | cons t us=>
   simp only [eM]
   rw [if_neg]
   rintro ⟨h1,h2⟩
   exact h ⟨h1,by omega⟩
theorem aQ6 {l m:Nat} {ts:List Tok} (h:mU l ts) (hm:l≤m):mU m ts:=by
 cases ts with
 | nil=>trivial
 | cons t us=>exact fun ⟨h1,h2⟩=>h ⟨h1,by omega⟩
theorem xR {N nest:Nat} {e:Ex} {ts rest:List Tok} (hu:∀ n,N≤n→eI n nest ts=some (e,rest)):∀ (k least:Nat),least+k=5→mU least rest→∀ n,N+k+1≤n→eK n least nest ts=some (e,rest)
 | 0,least,hk,hs,n,hn=>by
   obtain ⟨m,rfl⟩:∃ m,n=m+1:=⟨n - 1,by omega⟩
   simp only [eK]
   rw [if_pos (by omega),hu m (by omega)]
 | k+1,least,hk,hs,n,hn=>by
   obtain ⟨m,rfl⟩:∃ m,n=m+1:=⟨n - 1,by omega⟩
   simp only [eK]
   rw [if_neg (by omega),xR hu k (least+1) (by omega) (aQ6 hs (by omega)) m (by omega)]
   obtain ⟨q,rfl⟩:∃ q,m=q+1:=⟨m - 1,by omega⟩
   exact aBe hs
theorem aFy (least:Nat) (ts:List Tok):mU least (skT [41]::ts):=by
 rintro ⟨_,h⟩
 have:(sgK (skT [41]).text).2 = -1:=by decide
 omega
theorem aVm {op:Int} (h:3≤op∧op≤15):∃ T:Nat,T≤4∧sgK (jR op)=(op,(T:Int)):=by
 obtain rfl | rfl | rfl | rfl | rfl | rfl | rfl | rfl | rfl | rfl | rfl | rfl | rfl:op=3∨op=4∨op=5∨op=6∨op=7∨op=8∨op=9∨op=10∨op=11∨op=12∨op=13∨op=14∨op=15:=by omega
 · exact ⟨0,by omega,by decide⟩
 · exact ⟨1,by omega,by decide⟩
 iterate 6 (· exact ⟨2,by omega,by decide⟩)
 iterate 2 (· exact ⟨3,by omega,by decide⟩)
 iterate 3 (· exact ⟨4,by omega,by decide⟩)
theorem sX {e:Ex} (h:hgt e≤32):dY e=some e:=by unfold dY;rw [if_pos h]
theorem aJ5 {Na Nb nest T:Nat} {op:Int} {a b:Ex} {ta tb rest:List Tok} (hT:T≤4) (hs:sgK (jR op)=(op,(T:Int))) (hh:hgt (.mk op 0 0 [] [a,b])≤32)
  (ha:∀ n rest,Na≤n→eI n nest (ta++rest)=some (a,rest)) (hb:∀ n rest,Nb≤n→eI n nest (tb++rest)=some (b,rest)):
  ∀ (k least:Nat),least+k=T→∀ n,Na+Nb+10+k≤n→eK n least nest (ta++(skT (jR op)::(tb++(skT [41]::rest))))=some (.mk op 0 0 [] [a,b],skT [41]::rest)
 | 0,least,hk,n,hn=>by
   obtain ⟨m,rfl⟩:∃ m,n=m+1:=⟨n - 1,by omega⟩
   have hl:least=T:=by omega
   subst hl
   have hst:mU (least+1) (skT (jR op)::(tb++(skT [41]::rest))):=by
    rintro ⟨_,h⟩
    have:(sgK (skT (jR op)).text).2=(least:Int):=by show (sgK (jR op)).2=_;rw [hs]
    omega
   simp only [eK]
   rw [if_neg (by omega),xR (N:=Na) (fun n hn=>ha n _ hn) (4 - least) (least+1) (by omega) hst m (by omega)]
   obtain ⟨q,rfl⟩:∃ q,m=q+1:=⟨m - 1,by omega⟩
   simp only [eM]
   have e2:sgK (skT (jR op)).text=(op,(least:Int)):=hs
   rw [e2,if_pos ⟨by first | rfl | trivial,rfl⟩,xR (N:=Nb) (fun n hn=>hb n _ hn) (4 - least) (least+1) (by omega) (aFy _ _) q (by omega)]
   simp only [sX hh]
   split
   · rfl
   · obtain ⟨z,rfl⟩:∃ z,q=z+1:=⟨q - 1,by omega⟩
     exact aBe (aFy _ _)
 | k+1,least,hk,n,hn=>by
   obtain ⟨m,rfl⟩:∃ m,n=m+1:=⟨n - 1,by omega⟩
   simp only [eK]
   rw [if_neg (by omega),aJ5 hT hs hh ha hb k (least+1) (by omega) m (by omega)]
   obtain ⟨q,rfl⟩:∃ q,m=q+1:=⟨m - 1,by omega⟩
   exact aBe (aFy _ _)
theorem cN {k p ty va:Int} {us:List Tok} {s:List UInt8}:bX s (⟨k,s,p,ty,va⟩::us)=some us:=by simp only [bX,if_true]
theorem cD {t:Tok} {us:List Tok} {s:List UInt8} (h:¬ t.text=s):bX s (t::us)=none:=by simp only [bX];rw [if_neg h]
theorem aTi {s:List UInt8} (h:b7 s=true):s≠[45]∧s≠[33]∧s≠[40]∧s≠[105,110,116]∧s≠[114,101,97,108]∧s≠[110,97,110]∧s≠[105,110,102]∧s≠[116,114,117,101]∧s≠[102,97,108,115,101]:=by
 refine ⟨?_,?_,?_,?_,?_,?_,?_,?_,?_⟩ <;> (rintro rfl;revert h;decide)
theorem aO8 {op ty bits:Int} {name t:List UInt8} {kids:List Ex} (h:exT (.mk op ty bits name kids)=some t):(op≠1→ty=0∧bits=0)∧(op≠2→name=[]):=by
 rw [exT] at h
 split at h
 · cases h
 rename_i hc
 refine ⟨fun h1=>?_,fun h2=>?_⟩
 · by_cases hz:ty=0∧bits=0
   · exact hz
   · exact absurd (.inl ⟨h1,hz⟩) hc
 · by_cases hz:name=[]
   · exact hz
   · exact absurd (.inr ⟨h2,hz⟩) hc
theorem aGp {ty bits:Int} {name t:List UInt8} {kids:List Ex} (h:exT (.mk 2 ty bits name kids)=some t):b7 name=true:=by
 rw [exT] at h
 split at h
 · cases h
 split at h
 · cases h
 rw [if_neg (by decide),if_pos rfl] at h
 split at h
 · split at h
   · assumption
   · cases h
 · cases h
theorem aA0 {t:List UInt8} (h:∃ c u,t=c::u∧nmB (c.toNat:Int)=true) {s:List UInt8} (hs:∀ c u,s=c::u→nmB (c.toNat:Int)=false):¬ t=s:=by
 rintro rfl
 obtain ⟨c,u,h,h1⟩:=h
 rw [hs c u h] at h1
 cases h1
theorem zA {ty bits:Int} {t:List UInt8} (h:dA ty bits=some t) (hb:0≤bits):jZ (ltK ty bits t)=some (ty,bits)∧(ltK ty bits t).text=t∧(∃ c u,t=c::u∧nmB (c.toNat:Int)=true)∧∀ r K,mI r→LexTo r K→LexTo (t++r) (ltK ty bits t::K):=by
 unfold dA at h
 unfold ltK
 split at h
 · rename_i h1
   subst h1
   split at h <;> first | (cases h;done) | skip
   rename_i hs
   injection h with h
   subst h
   rw [if_pos rfl]
   refine ⟨by unfold jZ;rw [if_pos (.inl rfl)],rfl,?_,fun r K hr hK=>?_⟩
   · have hd:=fW bits.toNat
     have hn:=iH bits.toNat
     cases hx:Lib.decDigits bits.toNat with
     | nil=>exact absurd hx hn
     | cons c u=>
       rw [hx,List.all_cons,aI] at hd
       refine ⟨c,u,rfl,?_⟩
       unfold nmB
       rw [← oX,hd.1,Bool.or_true]
   · unfold b8 at hs
     have:=aUk (n:=bits.toNat) (by omega) hr hK
     rw [show ((bits.toNat:Nat):Int)=bits by omega] at this
     exact this
 rename_i h1
 rw [if_neg h1]
 split at h
 · rename_i h2
   subst h2
   rw [if_pos (.inl rfl)]
   split at h
   · rename_i hb
     injection h with h
     subst h hb
     exact ⟨by decide,rfl,⟨_,_,rfl,by decide⟩,fun r K hr hK=>dF (by decide) hr hK⟩
   split at h <;> first | (cases h;done) | skip
   rename_i hb
   injection h with h
   subst h hb
   exact ⟨by decide,rfl,⟨_,_,rfl,by decide⟩,fun r K hr hK=>dF (by decide) hr hK⟩
 rename_i h2
 split at h <;> first | (cases h;done) | skip
 rename_i h3
 subst h3
 split at h
 · rename_i hb
   injection h with h
   subst h hb
   rw [if_pos (.inr (.inl rfl))]
   exact ⟨by decide,rfl,⟨_,_,rfl,by decide⟩,fun r K hr hK=>dF (by decide) hr hK⟩
 rename_i hb1
 split at h
 · rename_i hb
   injection h with h
   subst h hb
   rw [if_pos (.inr (.inr rfl))]
   exact ⟨by decide,rfl,⟨_,_,rfl,by decide⟩,fun r K hr hK=>dF (by decide) hr hK⟩
 rename_i hb2
 rw [if_neg (by rintro (h | h | h);exact h2 h;exact hb1 h;exact hb2 h)]
 split at h <;> first | (cases h;done) | skip
 obtain ⟨g1,g2,g3⟩:=fD h
 obtain ⟨k,n,hl,rfl⟩:=g3.lit
 obtain ⟨d,r,hd,q1,q2⟩:=aHb n k
 have hpar:=sG hl.2.2.1 hl.1 hl.2.1
 rw [hl.2.2.2] at hpar
 refine ⟨by unfold jZ;rw [if_pos (.inr rfl)],rfl,⟨d,r,hd,?_⟩,fun r K hr hK=>?_⟩
 · unfold nmB
   rw [show eD (d.toNat:Int)=true from decide_eq_true (by omega),Bool.or_true]
 · have:=aTy hl.2.2.1 hl.1 hl.2.1 hr hK
   rw [hpar.1,show ((bits.toNat:Nat):Int)=bits by omega] at this
   exact this
theorem aUv {op:Int} (h:3≤op∧op≤15) {r:List UInt8} {K:List Tok} (hK:LexTo r K):LexTo (fA op++(32::r)) (skT (jR op)::K):=by
 obtain rfl | rfl | rfl | rfl | rfl | rfl | rfl | rfl | rfl | rfl | rfl | rfl | rfl:op=3∨op=4∨op=5∨op=6∨op=7∨op=8∨op=9∨op=10∨op=11∨op=12∨op=13∨op=14∨op=15:=by omega
 · exact zH (by decide) (cV hK)
 · exact zH (by decide) (cV hK)
 · exact zH (by decide) (cV hK)
 · exact zH (by decide) (cV hK)
 · exact yA (by decide) (by decide) (cV hK)
 · exact zH (by decide) (cV hK)
 · exact yA (by decide) (by decide) (cV hK)
 · exact zH (by decide) (cV hK)
 · exact d7 (by decide) (cV hK)
 · exact d7 (by decide) (cV hK)
 · exact d7 (by decide) (cV hK)
 · exact d7 (by decide) (cV hK)
 · exact d7 (by decide) (cV hK)
theorem cQ (c:UInt8) (r:List UInt8) (hc:c=41∨c=40∨c=32∨c=59∨c=10):mI (c::r):=by
 rcases hc with rfl | rfl | rfl | rfl | rfl <;> exact ⟨by decide,by decide⟩
theorem aR0 {c:UInt8} (h:nmB (c.toNat:Int)=true):¬ c=61:=by
 rintro rfl
 revert h
 decide
theorem mJ:∀ (N:Nat) (e:Ex) (t:List UInt8),wgt e≤N→exT e=some t→exR e→(∃ c u,t=c::u∧¬ c=61)∧∀ r K,mI r→LexTo r K→LexTo (t++r) (exK e++K)
 | 0,e,t,h,_,_=>by have:=fS e;omega
 | N+1,.mk op ty bits name kids,t,hN,ht,hR=>by
   simp only [wgt] at hN
   have hR0:=hR
   simp only [exR] at hR0
   obtain ⟨_,_,hR1,hR2⟩:=hR0
   rcases tE ht with ⟨h1,h2,h3⟩ | ⟨h1,h2,h3⟩ | ⟨h1,x,tx,h2,h3,h4⟩ | ⟨h1,x,tx,h2,h3,h4⟩ | ⟨h1,x,tx,h2,h3,h4⟩ | ⟨h1,x,tx,h2,h3,h4⟩ | ⟨h1,x,y,tx,tY,h2,h3,h4,h5⟩
   · subst h1 h2
     obtain ⟨g1,g2,⟨c,u,g3,g4⟩,g5⟩:=zA h3 hR1.1
     refine ⟨⟨c,u,g3,aR0 g4⟩,fun r K hr hK=>?_⟩
     simp only [exK,if_true]
     rw [h3]
     exact g5 r K hr hK
   · subst h1 h3
     have hw:=vD (aGp ht)
     refine ⟨?_,fun r K hr hK=>?_⟩
     · cases t with
       | nil=>cases hw
       | cons c u=>
         refine ⟨c,u,rfl,aR0 ?_⟩
         simp only [okW,List.all_cons,aI] at hw
         exact hw.2.1.1
     · rw [exK,if_neg (by decide),if_pos rfl]
       exact dF hw hr hK
   · subst h1 h2 h4
     simp only [jS] at hR2
     simp only [cL] at hN
     obtain ⟨_,ih⟩:=mJ N x tx (by omega) h3 hR2.1
     refine ⟨⟨_,_,rfl,by decide⟩,fun r K hr hK=>?_⟩
     have:=dF (x:=[105,110,116]) (by decide) (cQ 40 _ (by decide)) (d7 (c:=40) (by decide) (ih (41::r) _ (cQ 41 _ (by decide)) (d7 (c:=41) (by decide) hK)))
     simpa [exK,l8] using this
   · subst h1 h2 h4
     simp only [jS] at hR2
     simp only [cL] at hN
     obtain ⟨_,ih⟩:=mJ N x tx (by omega) h3 hR2.1
     refine ⟨⟨_,_,rfl,by decide⟩,fun r K hr hK=>?_⟩
     have:=dF (x:=[114,101,97,108]) (by decide) (cQ 40 _ (by decide)) (d7 (c:=40) (by decide) (ih (41::r) _ (cQ 41 _ (by decide)) (d7 (c:=41) (by decide) hK)))
     simpa [exK,l8] using this
   · subst h1 h2 h4
     simp only [jS] at hR2
     simp only [cL] at hN
     obtain ⟨_,ih⟩:=mJ N x tx (by omega) h3 hR2.1
     refine ⟨⟨_,_,rfl,by decide⟩,fun r K hr hK=>?_⟩
     have:=d7 (c:=45) (by decide) (ih r K hr hK)
     simpa [exK,l8] using this
   · subst h1 h2 h4
     simp only [jS] at hR2
     simp only [cL] at hN
     obtain ⟨⟨c,u,hc,hne⟩,ih⟩:=mJ N x tx (by omega) h3 hR2.1
     refine ⟨⟨_,_,rfl,by decide⟩,fun r K hr hK=>?_⟩
     have h0:=ih r K hr hK
     subst hc
     have:=yA (c:=33) (by decide) hne h0
     simpa [exK,l8] using this
   · subst h2 h5
     simp only [jS] at hR2
     simp only [cL] at hN
     obtain ⟨_,ih⟩:=mJ N x tx (by omega) h3 hR2.1
     obtain ⟨_,ih2⟩:=mJ N y tY (by omega) h4 hR2.2.1
     refine ⟨⟨_,_,rfl,by decide⟩,fun r K hr hK=>?_⟩
     have:=d7 (c:=40) (by decide) (ih (32::(fA op++(32::(tY++(41::r))))) _ (cQ 32 _ (by decide)) (cV (aUv h1 (ih2 (41::r) _ (cQ 41 _ (by decide)) (d7 (c:=41) (by decide) hK)))))
     rw [exK,if_neg (by omega),if_neg (by omega),if_neg (by omega),if_neg (by omega),if_neg (by omega),if_neg (by omega)]
     simpa [l8] using this
theorem aAt {t:Tok} {us:List Tok} (h:¬ (t.kind=2∨t.kind=3)) (h1:¬ t.text=[110,97,110]) (h2:¬ t.text=[105,110,102]) (h3:¬ t.text=[116,114,117,101]) (h4:¬ t.text=[102,97,108,115,101]):dN (t::us)=none:=by
 show (jZ t).map _=none
 unfold jZ
 rw [if_neg h,if_neg h1,if_neg h2,if_neg h3,if_neg h4]
 rfl
theorem zF (e:Ex):1≤hgt e:=by cases e;simp only [hgt];omega
theorem aJ4:∀ (e:Ex) {t:List UInt8},exT e=some t→1≤(exK e).length
 | .mk op ty bits name kids,t,ht=>by
   rcases tE ht with ⟨h1,h2,h3⟩ | ⟨h1,h2,h3⟩ | ⟨h1,x,tx,h2,h3,h4⟩ | ⟨h1,x,tx,h2,h3,h4⟩ | ⟨h1,x,tx,h2,h3,h4⟩ | ⟨h1,x,tx,h2,h3,h4⟩ | ⟨h1,x,y,tx,tY,h2,h3,h4,h5⟩
   iterate 6 (· subst h1;simp [exK])
   · subst h2
     rw [exK,if_neg (by omega),if_neg (by omega),if_neg (by omega),if_neg (by omega),if_neg (by omega),if_neg (by omega)]
     simp [l8]
theorem wR:∀ (N:Nat) (e:Ex) (t:List UInt8) (nest:Nat),wgt e≤N→exT e=some t→exR e→hgt e≤32→nest+hgt e≤33→∀ n rest,10*(exK e).length≤n→eI n nest (exK e++rest)=some (e,rest)
 | 0,e,t,nest,h,_,_,_,_,_,_,_=>by have:=fS e;omega
 | N+1,.mk op ty bits name kids,t,nest,hN,ht,hR,hh,hne,n,rest,hn=>by
   have hz:=aO8 ht
   simp only [wgt] at hN
   have hR0:=hR
   simp only [exR] at hR0
   obtain ⟨_,_,hR1,hR2⟩:=hR0
   rcases tE ht with ⟨h1,h2,h3⟩ | ⟨h1,h2,h3⟩ | ⟨h1,x,tx,h2,h3,h4⟩ | ⟨h1,x,tx,h2,h3,h4⟩ | ⟨h1,x,tx,h2,h3,h4⟩ | ⟨h1,x,tx,h2,h3,h4⟩ | ⟨h1,x,y,tx,tY,h2,h3,h4,h5⟩
   · subst h1 h2
     obtain ⟨g1,g2,g3,g4⟩:=zA h3 hR1.1
     simp only [exK,if_true] at hn ⊢
     rw [h3] at hn ⊢
     simp only [bT,List.length_singleton] at hn ⊢
     obtain ⟨m,rfl⟩:∃ m,n=m+2:=⟨n - 2,by omega⟩
     rw [bS]
     rw [eI,cD (by rw [g2];exact aA0 g3 (fun c u e=>by injection e with e _;subst e;decide)),cD (by rw [g2];exact aA0 g3 (fun c u e=>by injection e with e _;subst e;decide))]
     have hl:dN (ltK ty bits t::rest)=some ((ty,bits),rest):=by show (jZ _).map _=_;rw [g1];rfl
     simp only [e7,hl]
     rw [hz.2 (by decide)]
   · subst h1 h2
     have hnm:=aTi (aGp ht)
     obtain ⟨rfl,rfl⟩:=hz.1 (by decide)
     rw [exK,if_neg (by decide),if_pos rfl] at hn ⊢
     simp only [List.length_singleton] at hn
     obtain ⟨m,rfl⟩:∃ m,n=m+2:=⟨n - 2,by omega⟩
     rw [bS]
     obtain ⟨n1,n2,n3,n4,n5,n6,n7,n8,n9⟩:=hnm
     have hl:dN (wkT name::rest)=none:=aAt (by show ¬ ((1:Int)=2∨(1:Int)=3);decide) n6 n7 n8 n9
     have hk:eB (wkT name::rest)=some (name,rest):=by show (if b7 name=true then _ else _)=_;rw [if_pos (aGp ht)]
     rw [eI,cD (show ¬ (wkT name).text=[45] from n1),cD (show ¬ (wkT name).text=[33] from n2)]
     simp only [e7,hl,hk]
     rw [cD (show ¬ (wkT name).text=[40] from n3),cD (show ¬ (wkT name).text=[105,110,116] from n4),cD (show ¬ (wkT name).text=[114,101,97,108] from n5)]
     rfl
   iterate 2
    (· subst h1 h2
       obtain ⟨rfl,rfl⟩:=hz.1 (by decide)
       obtain rfl:=hz.2 (by decide)
       simp only [cL] at hN
       simp only [jS] at hR2
       have hhx:hgt x+1≤32:=by simpa [hgt,dB] using hh
       have hnx:nest+(hgt x+1)≤33:=by simpa [hgt,dB] using hne
       have hp:=zF x
       have ih:=wR N x tx (nest+1) (by omega) h3 hR2.1 (by omega) (by omega)
       simp [exK,l8] at hn ⊢
       obtain ⟨m,rfl⟩:∃ m,n=m+3:=⟨n - 3,by omega⟩
       rw [eI,cD (by decide),cD (by decide)]
       simp only [e7]
       rw [aAt (by decide) (by decide) (by decide) (by decide) (by decide)]
       simp only []
       have hb:eK m 0 (nest+1) (exK x++(skT [41]::rest))=some (x,skT [41]::rest):=xR (N:=10*(exK x).length) (fun n hn=>ih n _ hn) 5 0 rfl (aFy _ _) m (by omega)
       have hc:gY (m+1) (nest+1) (exK x++(skT [41]::rest))=some (x,rest):=by
        rw [gY,hb]
        simp only []
        rw [cN]
        rfl
       rw [cD (by decide)]
       simp only []
       first
        | (rw [cN]
           simp only []
           rw [if_pos (by omega),cN]
           simp only []
           rw [hc]
           simp only []
           rw [sX hh]
           rfl)
        | (rw [cD (by decide),cN]
           simp only []
           rw [if_pos (by omega),cN]
           simp only []
           rw [hc]
           simp only []
           rw [sX hh]
           rfl))
   iterate 2
    (· subst h1 h2
       obtain ⟨rfl,rfl⟩:=hz.1 (by decide)
       obtain rfl:=hz.2 (by decide)
       simp only [cL] at hN
       simp only [jS] at hR2
       have hhx:hgt x+1≤32:=by simpa [hgt,dB] using hh
       have hnx:nest+(hgt x+1)≤33:=by simpa [hgt,dB] using hne
       have hp:=zF x
       have ih:=wR N x tx (nest+1) (by omega) h3 hR2.1 (by omega) (by omega)
       simp [exK,l8] at hn ⊢
       obtain ⟨m,rfl⟩:∃ m,n=m+1:=⟨n - 1,by omega⟩
       have h0:=ih m rest (by omega)
       rw [eI]
       first
        | (rw [cN]
           simp only []
           rw [if_pos (by omega),h0]
           simp only []
           rw [sX hh]
           rfl)
        | (rw [cD (by decide),cN]
           simp only []
           rw [if_pos (by omega),h0]
           simp only []
           rw [sX hh]
           rfl))
   · subst h2
     obtain ⟨rfl,rfl⟩:=hz.1 (by omega)
     obtain rfl:=hz.2 (by omega)
     simp only [cL] at hN
     simp only [jS] at hR2
     have hhx:max (hgt x) (hgt y)+1≤32:=by simpa [hgt,dB] using hh
     have hnx:nest+(max (hgt x) (hgt y)+1)≤33:=by simpa [hgt,dB] using hne
     have hp:=zF x
     have hp2:=zF y
     have hlx:=aJ4 x h3
     have hly:=aJ4 y h4
     have ih:=wR N x tx (nest+1) (by omega) h3 hR2.1 (by omega) (by omega)
     have ih2:=wR N y tY (nest+1) (by omega) h4 hR2.2.1 (by omega) (by omega)
     obtain ⟨T,hT,hs⟩:=aVm h1
     have hb:=aJ5 (rest:=rest) hT hs hh (fun n r hn=>ih n r hn) (fun n r hn=>ih2 n r hn) T 0 (by omega)
     rw [exK,if_neg (by omega),if_neg (by omega),if_neg (by omega),if_neg (by omega),if_neg (by omega),if_neg (by omega)] at hn ⊢
     simp [l8] at hn ⊢
     obtain ⟨m,rfl⟩:∃ m,n=m+3:=⟨n - 3,by omega⟩
     rw [eI,cD (by decide),cD (by decide)]
     simp only [e7]
     rw [aAt (by decide) (by decide) (by decide) (by decide) (by decide),cN]
     simp only []
     rw [if_pos (by omega),gY,hb m (by omega)]
     simp only []
     rw [cN]
     rfl
theorem tQ {e:Ex} {t:List UInt8} (h:exT e=some t) (hR:exR e) (hh:hgt e≤32) {rest:List Tok} (hs:mU 0 rest):whK (exK e++rest)=some (e,rest):=by
 unfold whK
 refine xR (N:=10*(exK e).length) (fun n hn=>wR (wgt e) e t 0 (aH _) h hR hh (by omega) n _ hn) 5 0 rfl hs _ ?_
 simp only [aA]
 omega
end
section
mutual
def stD (d:Nat):St→Prop
 | .mk kind _ _ b l=>((kind=5∨kind=6)→d+1≤32)∧jU (d+1) b∧jU (d+1) l
def jU (d:Nat):List St→Prop
 | []=>True
 | s::l=>stD d s∧jU d l
end
theorem aRf {d:Nat} {ts us:List Tok} {s:St} (h:fG ts=some (s,us)):stD d s:=by
 have key:∀ k nm e,¬ (k=5∨k=6)→stD d (.mk k nm e [] []):=fun k nm e hk=>by
  simp only [stD,jU]
  exact ⟨fun h=>absurd h hk,trivial,trivial⟩
 simp only [fG] at h
 split at h
 · obtain ⟨p,hp,h⟩:=aC h
   injection h with g1 g2;subst g1;exact key _ _ _ (by decide)
 split at h
 · obtain ⟨p,hp,h⟩:=aC h
   injection h with g1 g2;subst g1;exact key _ _ _ (by decide)
 split at h
 · obtain ⟨p,hp,h⟩:=aC h
   injection h with g1 g2;subst g1;exact key _ _ _ (by decide)
 split at h
 · injection h with h;injection h with g1 g2;subst g1;exact key _ _ _ (by decide)
 split at h
 · cases h
 split at h
 · cases h
 obtain ⟨p,hp,h⟩:=aC h
 injection h with g1 g2;subst g1;exact key _ _ _ (by decide)
theorem aJy:∀ n:Nat,(∀ d ts l us,fN n d ts=some (l,us)→d+1≤32∧jU (d+1) l)∧(∀ d ts l us,d5 n d ts=some (l,us)→jU d l)∧(∀ d ts s us,stK n d ts=some (s,us)→stD d s)
 | 0=>⟨fun _ _ _ _ h=>(by simp only [fN] at h;cases h),fun _ _ _ _ h=>(by simp only [d5] at h;cases h),fun _ _ _ _ h=>(by simp only [stK] at h;cases h)⟩
 | n+1=>by
   obtain ⟨hb,hl,hs⟩:=aJy n
   refine ⟨fun d ts l us h=>?_,fun d ts l us h=>?_,fun d ts s us h=>?_⟩
   · simp only [fN] at h
     split at h
     · cases h
     split at h <;> first | (cases h;done) | skip
     rename_i hd
     split at h
     · cases h
     rename_i h1
     have h1:=hl _ _ _ _ h1
     obtain ⟨vs,hU,h⟩:=aC h
     injection h with g1 g2;subst g1 g2
     exact ⟨hd,h1⟩
   · simp only [d5] at h
     split at h
     · injection h with h;injection h with g1 g2;subst g1;simp only [jU]
     split at h
     · cases h
     rename_i h1
     have h1:=hs _ _ _ _ h1
     obtain ⟨p,hp,h⟩:=aC h
     have hp:=hl _ _ _ _ hp
     injection h with g1 g2;subst g1
     simp only [jU]
     exact ⟨h1,hp⟩
   · simp only [stK] at h
     split at h
     · split at h
       · cases h
       split at h
       · cases h
       rename_i h1
       have h1:=hb _ _ _ _ h1
       split at h
       · obtain ⟨p,hp,h⟩:=aC h
         have hp:=hb _ _ _ _ hp
         injection h with g1 g2;subst g1
         simp only [stD]
         exact ⟨fun _=>hp.1,h1.2,hp.2⟩
       · injection h with h;injection h with g1 g2;subst g1
         simp only [stD,jU]
         exact ⟨fun _=>h1.1,h1.2,trivial⟩
     split at h
     · split at h
       · cases h
       obtain ⟨p,hp,h⟩:=aC h
       have hp:=hb _ _ _ _ hp
       injection h with g1 g2;subst g1
       simp only [stD,jU]
       exact ⟨fun _=>hp.1,hp.2,trivial⟩
     split at h
     · cases h
     rename_i h1
     have h1:=aRf (d:=d) h1
     obtain ⟨vs,hU,h⟩:=aC h
     injection h with g1 g2;subst g1
     exact h1
theorem aRp {x:Th} {ts us:List Tok} (h:iY ts=some (x,us)):jU 0 x.body:=by
 simp only [iY] at h
 split at h
 · cases h
 split at h
 · cases h
 split at h
 · cases h
 split at h
 · cases h
 split at h
 · cases h
 rename_i h5
 have h5:=(aJy _).2.1 _ _ _ _ h5
 obtain ⟨q,h6,h⟩:=aC h
 injection h with g1 g2;subst g1
 exact h5
theorem aHl:∀ (n:Nat) {ts us:List Tok} {l:List Th},eZ n ts=some (l,us)→∀ t∈l,jU 0 t.body
 | 0,ts,us,l,h=>by simp only [eZ] at h;cases h
 | n+1,ts,us,l,h=>by
   simp only [eZ] at h
   split at h
   · injection h with h;injection h with g1 g2;subst g1;exact fun _ h=>(by cases h)
   split at h
   · cases h
   rename_i ht
   have ht:=aRp ht
   obtain ⟨p,hp,h⟩:=aC h
   have hp:=aHl n hp
   injection h with g1 g2;subst g1
   exact fun v hm=>(bJ hm).elim (fun e=>e ▸ ht) (hp v)
theorem aSn {ts us:List Tok} {p:Pg} (h:pgK ts=some (p,us)):∀ t∈p.threads,jU 0 t.body:=by
 simp only [pgK] at h
 split at h
 · cases h
 obtain ⟨q,hq,h⟩:=aC h
 have hq:=aHl _ hq
 injection h with g1 g2;subst g1
 exact hq
theorem aJu {ty bits:Int} {t:List UInt8} (h:dA ty bits=some t):ty=1∨ty=2∨ty=3:=by
 unfold dA at h
 by_cases h1:ty=1
 · exact .inl h1
 by_cases h2:ty=2
 · exact .inr (.inl h2)
 by_cases h3:ty=3
 · exact .inr (.inr h3)
 rw [if_neg h1,if_neg h2,if_neg h3] at h
 cases h
theorem aOu {ty b:Int} {t:List UInt8} (h:dA ty b=some t) (hc:ty=1∨ty=3∧¬ b=nanBits) (us:List Tok) {k:Tok} (hk:k.text=t):kZ (k::us)=true:=by
 have hx:t=[105,110,102]∨∃ c u,t=c::u∧c.toNat≤57:=by
  rcases hc with rfl | ⟨rfl,hb⟩
  · unfold dA at h
    rw [if_pos rfl] at h
    split at h <;> first | (cases h;done) | skip
    injection h with h
    subst h
    have hd:=fW b.toNat
    have hn:=iH b.toNat
    cases hx:Lib.decDigits b.toNat with
    | nil=>exact absurd hx hn
    | cons c u=>
      rw [hx,List.all_cons,aI] at hd
      exact .inr ⟨c,u,rfl,(j6 hd.1).2⟩
  · unfold dA at h
    rw [if_neg (by decide),if_neg (by decide),if_pos rfl,if_neg hb] at h
    split at h
    · injection h with h
      exact .inl h.symm
    split at h <;> first | (cases h;done) | skip
    obtain ⟨k,n,hl,rfl⟩:=(fD h).2.2.lit
    obtain ⟨d,r,hd,q1,q2⟩:=aHb n k
    exact .inr ⟨d,r,hd,q2⟩
 have hne:∀ s:List UInt8,(s=[110,97,110]∨s=[116,114,117,101]∨s=[102,97,108,115,101])→¬ t=s:=by
  rintro s hs rfl
  rcases hx with hx | ⟨c,u,hx,hc⟩
  · rw [hx] at hs
    revert hs
    decide
  · rcases hs with hs | hs | hs <;> (rw [hs] at hx;injection hx with hx _;subst hx;revert hc;decide)
 unfold kZ
 rw [cD (by rw [hk];exact hne _ (.inl rfl)),cD (by rw [hk];exact hne _ (.inr (.inl rfl))),cD (by rw [hk];exact hne _ (.inr (.inr rfl)))]
 rfl
theorem aRh {ty bits:Int} {t:List UInt8} (h:eG ty bits=some t) (hb:0≤bits∧bits<18446744073709551616):(ty=1∨ty=2∨ty=3)∧∃ K,(∀ r L,mI r→LexTo r L→LexTo (t++r) (K++L))∧∀ rest,fQ ty (K++rest)=some (bits,rest):=by
 have plus:dA ty bits=some t→(ty=1∨ty=2∨ty=3)∧∃ K,(∀ r L,mI r→LexTo r L→LexTo (t++r) (K++L))∧∀ rest,fQ ty (K++rest)=some (bits,rest):=fun hl=>by
  obtain ⟨g1,g2,g3,g4⟩:=zA hl hb.1
  refine ⟨aJu hl,[ltK ty bits t],g4,fun rest=>?_⟩
  rw [bS]
  unfold fQ
  rw [cD (by rw [g2];exact aA0 g3 (fun c u e=>by injection e with e _;subst e;decide))]
  simp only [dN,g1,aL,if_true]
 have minus:∀ b x,0≤b→t=45::x→dA ty b=some x→(ty=1∨ty=3∧¬ b=nanBits)→mF true ty b=bits→(ty=1∨ty=2∨ty=3)∧∃ K,(∀ r L,mI r→LexTo r L→LexTo (t++r) (K++L))∧∀ rest,fQ ty (K++rest)=some (bits,rest):=fun b x hb0 ht hl hc hs=>by
  obtain ⟨g1,g2,g3,g4⟩:=zA hl hb0
  subst ht
  refine ⟨aJu hl,[skT [45],ltK ty b x],fun r L hr hL=>d7 (by decide) (g4 r L hr hL),fun rest=>?_⟩
  have hm:=aOu hl hc rest g2
  show fQ ty (skT [45]::ltK ty b x::rest)=_
  unfold fQ
  rw [cN]
  simp only [hm,dN,g1,aL,if_true,hs]
 unfold eG at h
 split at h
 · rename_i h1
   subst h1
   split at h
   · rename_i h2
     exact plus (by unfold dA;rw [if_pos rfl,if_pos h2];exact h)
   rename_i h2
   split at h
   · cases h
   rename_i h3
   injection h with h
   unfold b8 at h2 h3
   refine minus (18446744073709551616 - bits) _ (by omega) h.symm (by unfold dA b8;rw [if_pos rfl,if_pos (by omega)]) (.inl rfl) ?_
   unfold mF
   rw [if_pos rfl,if_pos rfl,IntKind.wrap_u64]
   omega
 split at h
 · rename_i h1
   subst h1
   split at h
   · exact plus h
   rename_i h2
   split at h
   · cases h
   rename_i h3
   obtain ⟨x,hx,h⟩:=aC h
   unfold b8 at h2 h3 hx
   refine minus (bits - 9223372036854775808) x (by omega) h.symm hx (.inr ⟨rfl,h3⟩) ?_
   obtain ⟨b,hbb⟩:∃ b:Nat,bits - 9223372036854775808=(b:Int):=⟨(bits - 9223372036854775808).toNat,by omega⟩
   unfold mF
   rw [if_pos rfl,if_neg (by decide),hbb,aA5 (by omega),jP,if_pos (by omega)]
   omega
 · exact plus h
theorem aGr {wd t:List UInt8} {v:Vr} (h:vrT wd v=some t) (hR:vrR v):∃ x K,t=wd++(32::x)∧(∀ r L,LexTo r L→LexTo (x++r) (K++L))∧∀ rest,eJ (K++rest)=some (v,rest):=by
 unfold vrT at h
 split at h <;> first | (cases h;done) | skip
 rename_i hn
 obtain ⟨u,hu,h⟩:=aC h
 obtain ⟨hty,K,hK1,hK2⟩:=aRh hu ⟨hR.2.1,hR.2.2⟩
 refine ⟨_,wkT v.name::wkT (fL v.ty)::skT [61]::(K++[skT [59]]),h.symm,fun r L hL=>?_,fun rest=>?_⟩
 · have h1:=hK1 (59::10::r) _ (cQ 59 _ (by decide)) (d7 (c:=59) (by decide) (jA hL))
   have h2:=yA (c:=61) (by decide) (by decide:¬ (32:UInt8)=61) (cV h1)
   have hw:okW (fL v.ty)=true:=by
    rcases hty with e | e | e <;> (rw [e];decide)
   have h3:=dF (vD hn) (cQ 32 _ (by decide)) (cV (dF hw (cQ 32 _ (by decide)) (cV h2)))
   simpa using h3
 · have ht:fR (wkT (fL v.ty)::skT [61]::(K++skT [59]::rest))=some (v.ty,skT [61]::(K++skT [59]::rest)):=by
    rcases hty with e | e | e <;> (rw [e];rfl)
   have hk:eB (wkT v.name::wkT (fL v.ty)::skT [61]::(K++skT [59]::rest))=some (v.name,wkT (fL v.ty)::skT [61]::(K++skT [59]::rest)):=by show (if b7 v.name=true then _ else _)=_;rw [if_pos hn]
   simp only [bO,aK,bR]
   unfold eJ
   rw [hk]
   simp only []
   rw [ht]
   simp only []
   rw [cN]
   simp only []
   rw [hK2]
   simp only []
   rw [cN]
   rfl
theorem iE {r:List UInt8} {K:List Tok} (h:LexTo r K):∀ d:Nat,LexTo (cW d++r) K
 | 0=>cV (cV h)
 | d+1=>cV (cV (iE h d))
def HeadOk (K:List Tok):Prop:=∃ t u,K=t::u∧¬ t.text=[125]∧¬ t.text=[101,108,115,101]∧¬ t.text=[108,111,99,97,108]
theorem HeadOk.pos {K:List Tok} (h:HeadOk K):1≤K.length:=by
 obtain ⟨t,u,rfl,_⟩:=h
 simp
theorem xP {e:Ex} (h:iS e=true):e=ex0:=by
 cases e with
 | mk op ty bits name kids=>
   have:=of_decide_eq_true h
   obtain ⟨rfl,rfl,rfl,rfl,hk⟩:=this
   have:=aF hk
   subst this
   rfl
theorem aPo {s:List UInt8} (h:b7 s=true):(s≠[125]∧s≠[101,108,115,101]∧s≠[108,111,99,97,108])∧s≠[105,102]∧s≠[119,104,105,108,101]∧s≠[108,111,99,107]∧s≠[117,110,108,111,99,107]∧s≠[97,115,115,101,114,116]∧s≠[115,107,105,112]:=by
 refine ⟨⟨?_,?_,?_⟩,?_,?_,?_,?_,?_,?_⟩ <;> (rintro rfl;revert h;decide)
def StK (d:Nat) (s:St) (t:List UInt8) (K:List Tok):Prop:=HeadOk K∧(∀ r L,LexTo r L→LexTo (t++r) (K++L))∧∀ rest,bX [101,108,115,101] rest=none→∀ n,4*K.length≤n→stK n d (K++rest)=some (s,rest)
def aU9 (d:Nat) (l:List St) (t:List UInt8) (K:List Tok):Prop:=(K=[]∨HeadOk K)∧(∀ r L,LexTo r L→LexTo (t++r) (K++L))∧∀ rest n,4*K.length+1≤n→d5 n d (K++(skT [125]::rest))=some (l,skT [125]::rest)
theorem aD9 (ts:List Tok):mU 0 (skT [59]::ts):=by
 rintro ⟨_,h⟩
 have:(sgK (skT [59]).text).2 = -1:=by decide
 omega
theorem vF (ts:List Tok):mU 0 (skT [123]::ts):=by
 rintro ⟨_,h⟩
 have:(sgK (skT [123]).text).2 = -1:=by decide
 omega
theorem o8 {s:List UInt8} (h:b7 s=true) (us:List Tok):eB (wkT s::us)=some (s,us):=by
 show (if b7 s=true then _ else _)=_
 rw [if_pos h]
theorem aAf {e:Ex} {t:List UInt8} (h:lY e=some t):exT e=some t∧hgt e≤32:=by
 unfold lY at h
 split at h
 · exact ⟨h,by assumption⟩
 · cases h
theorem xU {d:Nat} {s:St} {t:List UInt8} {k:Tok} {K:List Tok} (h1:¬ k.text=[125]∧¬ k.text=[101,108,115,101]∧¬ k.text=[108,111,99,97,108]) (h2:¬ k.text=[105,102]) (h3:¬ k.text=[119,104,105,108,101])
  (hL:∀ r L,LexTo r L→LexTo (t++r) (k::(K++(skT [59]::L)))) (hs:∀ rest,fG (k::(K++(skT [59]::rest)))=some (s,skT [59]::rest)):∃ K,StK d s t K:=by
 refine ⟨k::(K++[skT [59]]),⟨k,_,rfl,h1⟩,fun r L h=>?_,fun rest hr n hn=>?_⟩
 · have:=hL r L h
   simpa using this
 · simp only [aB] at hn
   obtain ⟨m,rfl⟩:∃ m,n=m+1:=⟨n - 1,by omega⟩
   rw [show (k::(K++[skT [59]]))++rest=k::(K++(skT [59]::rest)) by simp]
   rw [stK,cD h2,cD h3]
   simp only []
   rw [hs]
   simp only []
   rw [cN]
   rfl
theorem aB6 {d:Nat} {l:List St} {t:List UInt8} {K:List Tok} (h:aU9 (d+1) l t K) (hd:d+1≤32) (rest:List Tok) {n:Nat} (hn:4*K.length+2≤n):fN n d (skT [123]::(K++(skT [125]::rest)))=some (l,rest):=by
 obtain ⟨m,rfl⟩:∃ m,n=m+1:=⟨n - 1,by omega⟩
 rw [fN,cN]
 simp only []
 rw [if_pos hd,h.2.2 rest m (by omega)]
 simp only []
 rw [cN]
 rfl
theorem vV {N:Nat} (hs:∀ (s:St) (d:Nat) (t:List UInt8),swt s≤N→stT d s=some t→stR s→stD d s→∃ K,StK d s t K):∀ (l:List St) (d:Nat) (t:List UInt8),cS l≤N→dQ d l=some t→j5 l→jU d l→∃ K,aU9 d l t K
 | [],d,t,_,ht,_,_=>by
   simp only [dQ] at ht
   injection ht with ht
   subst ht
   refine ⟨[],.inl rfl,fun r L h=>h,fun rest n hn=>?_⟩
   obtain ⟨m,rfl⟩:∃ m,n=m+1:=⟨n - 1,by omega⟩
   rw [bR,d5,if_pos (.inr (by rw [cN];rfl))]
 | s::l,d,t,hN,ht,hR,hD=>by
   simp only [cS] at hN
   simp only [j5] at hR
   simp only [jU] at hD
   simp only [dQ] at ht
   split at ht
   · cases ht
   split at ht
   · cases ht
   rename_i u hu
   split at ht
   · cases ht
   rename_i v hv
   injection ht with ht
   obtain ⟨K1,a1,a2,a3⟩:=hs s d u (by omega) hu hR.1 hD.1
   obtain ⟨K2,b1,b2,b3⟩:=vV hs l d v (by omega) hv hR.2 hD.2
   subst ht
   have hp:=a1.pos
   refine ⟨K1++K2,.inr ?_,fun r L h=>?_,fun rest n hn=>?_⟩
   · obtain ⟨k,w,rfl,hk⟩:=a1
     exact ⟨k,w++K2,rfl,hk⟩
   · have:=a2 _ _ (b2 r L h)
     simpa using this
   · simp only [aA] at hn
     obtain ⟨m,rfl⟩:∃ m,n=m+1:=⟨n - 1,by omega⟩
     have hne:bX [101,108,115,101] (K2++(skT [125]::rest))=none:=by
      rcases b1 with rfl | ⟨k,w,rfl,hk⟩
      · exact cD (by decide)
      · exact cD hk.2.1
     have h1:=a3 _ hne m (by omega)
     have h2:=b3 rest m (by omega)
     rw [aK,d5,if_neg,h1]
     · simp only []
       rw [h2]
       rfl
     · obtain ⟨k,w,rfl,hk⟩:=a1
       rintro (e | e)
       · cases e
       · rw [bO,cD hk.1] at e
         cases e
theorem aC4:∀ (N:Nat) (s:St) (d:Nat) (t:List UInt8),swt s≤N→stT d s=some t→stR s→stD d s→∃ K,StK d s t K
 | 0,s,d,t,h,_,_,_=>by cases s;simp only [swt] at h;omega
 | N+1,.mk kind name e body els,d,t,hN,ht,hR,hD=>by
   simp only [swt] at hN
   simp only [stR] at hR
   simp only [stD] at hD
   simp only [stT] at ht
   obtain ⟨_,hRe,hRb,hRl⟩:=hR
   obtain ⟨hd,hDb,hDl⟩:=hD
   by_cases c1:kind=1
   · subst c1
     rw [if_pos rfl] at ht
     split at ht <;> first | (cases ht;done) | skip
     rename_i hc
     obtain ⟨hn,hb,hl⟩:=hc
     obtain rfl:=aF hb
     obtain rfl:=aF hl
     obtain ⟨te,he,ht⟩:=aC ht
     obtain ⟨he,hh⟩:=aAf he
     subst ht
     obtain ⟨q1,q2,q3,q4,q5,q6,q7⟩:=aPo hn
     refine xU (k:=wkT name) (K:=skT [61]::exK e) q1 q2 q3 (fun r L h=>?_) (fun rest=>?_)
     · have h1:=(mJ _ e te (aH _) he hRe).2 (59::10::r) _ (cQ 59 _ (by decide)) (d7 (c:=59) (by decide) (jA h))
       have h2:=iE (dF (vD hn) (cQ 32 _ (by decide)) (cV (yA (c:=61) (by decide) (by decide:¬ (32:UInt8)=61) (cV h1)))) d
       simpa using h2
     · unfold fG
       rw [cD q4,cD q5,cD q6,cD q7,o8 hn]
       simp only []
       rw [bO,cN]
       simp only []
       rw [tQ he hRe hh (aD9 _)]
       rfl
   rw [if_neg c1] at ht
   by_cases c2:kind=2
   · subst c2
     rw [if_pos rfl] at ht
     split at ht <;> first | (cases ht;done) | skip
     rename_i hc
     obtain ⟨hn,hx,hb,hl⟩:=hc
     obtain rfl:=aF hb
     obtain rfl:=aF hl
     obtain rfl:=xP hx
     injection ht with ht
     subst ht
     refine xU (k:=wkT [108,111,99,107]) (K:=[wkT name]) (by decide) (by decide) (by decide) (fun r L h=>?_) (fun rest=>?_)
     · have h2:=iE (dF (x:=[108,111,99,107]) (by decide) (cQ 32 _ (by decide)) (cV (dF (vD hn) (cQ 59 _ (by decide)) (d7 (c:=59) (by decide) (jA h))))) d
       simpa using h2
     · unfold fG
       rw [cN]
       simp only []
       rw [bS,o8 hn]
       rfl
   rw [if_neg c2] at ht
   by_cases c3:kind=3
   · subst c3
     rw [if_pos rfl] at ht
     split at ht <;> first | (cases ht;done) | skip
     rename_i hc
     obtain ⟨hn,hx,hb,hl⟩:=hc
     obtain rfl:=aF hb
     obtain rfl:=aF hl
     obtain rfl:=xP hx
     injection ht with ht
     subst ht
     refine xU (k:=wkT [117,110,108,111,99,107]) (K:=[wkT name]) (by decide) (by decide) (by decide) (fun r L h=>?_) (fun rest=>?_)
     · have h2:=iE (dF (x:=[117,110,108,111,99,107]) (by decide) (cQ 32 _ (by decide)) (cV (dF (vD hn) (cQ 59 _ (by decide)) (d7 (c:=59) (by decide) (jA h))))) d
       simpa using h2
     · unfold fG
       rw [cD (by decide),cN]
       simp only []
       rw [bS,o8 hn]
       rfl
   rw [if_neg c3] at ht
   by_cases c4:kind=4
   · subst c4
     rw [if_pos rfl] at ht
     split at ht <;> first | (cases ht;done) | skip
     rename_i hc
     obtain ⟨hn,hb,hl⟩:=hc
     obtain rfl:=aF hb
     obtain rfl:=aF hl
     subst hn
     obtain ⟨te,he,ht⟩:=aC ht
     obtain ⟨he,hh⟩:=aAf he
     subst ht
     refine xU (k:=wkT [97,115,115,101,114,116]) (K:=exK e) (by decide) (by decide) (by decide) (fun r L h=>?_) (fun rest=>?_)
     · have h1:=(mJ _ e te (aH _) he hRe).2 (59::10::r) _ (cQ 59 _ (by decide)) (d7 (c:=59) (by decide) (jA h))
       have h2:=iE (dF (x:=[97,115,115,101,114,116]) (by decide) (cQ 32 _ (by decide)) (cV h1)) d
       simpa using h2
     · unfold fG
       rw [cD (by decide),cD (by decide),cN]
       simp only []
       rw [tQ he hRe hh (aD9 _)]
       rfl
   rw [if_neg c4] at ht
   by_cases c7:kind=7
   · subst c7
     rw [if_pos rfl] at ht
     split at ht <;> first | (cases ht;done) | skip
     rename_i hc
     obtain ⟨hn,hx,hb,hl⟩:=hc
     obtain rfl:=aF hb
     obtain rfl:=aF hl
     obtain rfl:=xP hx
     subst hn
     injection ht with ht
     subst ht
     refine xU (k:=wkT [115,107,105,112]) (K:=[]) (by decide) (by decide) (by decide) (fun r L h=>?_) (fun rest=>?_)
     · have h2:=iE (dF (x:=[115,107,105,112]) (by decide) (cQ 59 _ (by decide)) (d7 (c:=59) (by decide) (jA h))) d
       simpa using h2
     · unfold fG
       rw [cD (by decide),cD (by decide),cD (by decide),cN]
       rfl
   rw [if_neg c7] at ht
   by_cases c5:kind=5∨kind=6
   · rw [if_pos c5] at ht
     have hdd:d+1≤32:=hd c5
     split at ht <;> first | (cases ht;done) | skip
     rename_i tb tl te hb hl he
     split at ht
     · cases ht
     rename_i hc
     have hname:name=[]:=by
      by_cases h:name=[]
      · exact h
      · exact absurd (.inl h) hc
     subst hname
     obtain ⟨he,hh⟩:=aAf he
     obtain ⟨Kb,hKb⟩:=vV (aC4 N) body (d+1) tb (by omega) hb hRb hDb
     have hex:=(mJ _ e te (aH _) he hRe).2
     split at ht
     · rename_i c6
       subst c6
       have hle:els=[]:=by
        cases els with
        | nil=>rfl
        | cons x l=>exact absurd (.inr ⟨rfl,by simp⟩) hc
       subst hle
       injection ht with ht
       subst ht
       refine ⟨wkT [119,104,105,108,101]::(exK e++(skT [123]::(Kb++[skT [125]]))),⟨_,_,rfl,by decide⟩,fun r L h=>?_,fun rest hr n hn=>?_⟩
       · have h1:=hKb.2.1 _ _ (iE (d7 (c:=125) (by decide) (jA h)) d)
         have h2:=iE (dF (x:=[119,104,105,108,101]) (by decide) (cQ 32 _ (by decide)) (cV (hex _ _ (cQ 32 _ (by decide)) (cV (d7 (c:=123) (by decide) (jA h1)))))) d
         simpa using h2
       · simp only [aB,aA,aD] at hn
         obtain ⟨m,rfl⟩:∃ m,n=m+1:=⟨n - 1,by omega⟩
         rw [show (wkT [119,104,105,108,101]::(exK e++(skT [123]::(Kb++[skT [125]]))))++rest=wkT [119,104,105,108,101]::(exK e++(skT [123]::(Kb++(skT [125]::rest)))) by simp]
         rw [stK,cD (by decide),cN]
         simp only []
         rw [tQ he hRe hh (vF _)]
         simp only []
         rw [aB6 hKb hdd rest (by omega)]
         rfl
     rename_i c6
     have c5:kind=5:=c5.resolve_right c6
     subst c5
     split at ht
     · rename_i hpos
       obtain ⟨Kl,hKl⟩:=vV (aC4 N) els (d+1) tl (by omega) hl hRl hDl
       injection ht with ht
       subst ht
       refine ⟨wkT [105,102]::(exK e++(skT [123]::(Kb++(skT [125]::wkT [101,108,115,101]::skT [123]::(Kl++[skT [125]]))))),⟨_,_,rfl,by decide⟩,fun r L h=>?_,fun rest hr n hn=>?_⟩
       · have h0:=hKl.2.1 _ _ (iE (d7 (c:=125) (by decide) (jA h)) d)
         have h1:=hKb.2.1 _ _ (iE (d7 (c:=125) (by decide) (cV (dF (x:=[101,108,115,101]) (by decide) (cQ 32 _ (by decide)) (cV (d7 (c:=123) (by decide) (jA h0)))))) d)
         have h2:=iE (dF (x:=[105,102]) (by decide) (cQ 32 _ (by decide)) (cV (hex _ _ (cQ 32 _ (by decide)) (cV (d7 (c:=123) (by decide) (jA h1)))))) d
         simpa using h2
       · simp only [aB,aA,aD] at hn
         obtain ⟨m,rfl⟩:∃ m,n=m+1:=⟨n - 1,by omega⟩
         rw [show (wkT [105,102]::(exK e++(skT [123]::(Kb++(skT [125]::wkT [101,108,115,101]::skT [123]::(Kl++[skT [125]]))))))++rest=wkT [105,102]::(exK e++(skT [123]::(Kb++(skT [125]::wkT [101,108,115,101]::skT [123]::(Kl++(skT [125]::rest)))))) by simp]
         rw [stK,cN]
         simp only []
         rw [tQ he hRe hh (vF _)]
         simp only []
         rw [aB6 hKb hdd _ (by omega)]
         simp only []
         rw [cN]
         simp only []
         rw [aB6 hKl hdd rest (by omega)]
         rfl
     · rename_i hpos
       have hle:els=[]:=aF (by omega)
       subst hle
       injection ht with ht
       subst ht
       refine ⟨wkT [105,102]::(exK e++(skT [123]::(Kb++[skT [125]]))),⟨_,_,rfl,by decide⟩,fun r L h=>?_,fun rest hr n hn=>?_⟩
       · have h1:=hKb.2.1 _ _ (iE (d7 (c:=125) (by decide) (jA h)) d)
         have h2:=iE (dF (x:=[105,102]) (by decide) (cQ 32 _ (by decide)) (cV (hex _ _ (cQ 32 _ (by decide)) (cV (d7 (c:=123) (by decide) (jA h1)))))) d
         simpa using h2
       · simp only [aB,aA,aD] at hn
         obtain ⟨m,rfl⟩:∃ m,n=m+1:=⟨n - 1,by omega⟩
         rw [show (wkT [105,102]::(exK e++(skT [123]::(Kb++[skT [125]]))))++rest=wkT [105,102]::(exK e++(skT [123]::(Kb++(skT [125]::rest)))) by simp]
         rw [stK,cN]
         simp only []
         rw [tQ he hRe hh (vF _)]
         simp only []
         rw [aB6 hKb hdd rest (by omega)]
         simp only []
         rw [hr]
   · rw [if_neg c5] at ht
     cases ht
theorem aGk:∀ (l:List Vr) (t:List UInt8),cE (vrT [32,32,108,111,99,97,108]) l=some t→(∀ v∈l,vrR v)→∃ K,(∀ r L,LexTo r L→LexTo (t++r) (K++L))∧l.length≤K.length∧∀ rest n,bX [108,111,99,97,108] rest=none→l.length+1≤n→eV n (K++rest)=some (l,rest)
 | [],t,h,_=>by
   simp only [cE] at h
   injection h with h
   subst h
   refine ⟨[],fun r L h=>h,aH _,fun rest n hr hn=>?_⟩
   obtain ⟨m,rfl⟩:∃ m,n=m+1:=⟨n - 1,by omega⟩
   rw [bR,eV,hr]
 | v::l,t,h,hR=>by
   simp only [cE] at h
   split at h
   · cases h
   rename_i u hu
   split at h
   · cases h
   rename_i w hw
   injection h with h
   subst h
   obtain ⟨x,K,hx,hK1,hK2⟩:=aGr hu (hR v bQ)
   obtain ⟨M,hM1,hM2,hM3⟩:=aGk l w hw fun y hy=>hR y (bA _ hy)
   subst hx
   refine ⟨wkT [108,111,99,97,108]::(K++M),fun r L h=>?_,by simp only [aB,aA];omega,fun rest n hr hn=>?_⟩
   · have:=cV (cV (dF (x:=[108,111,99,97,108]) (by decide) (cQ 32 _ (by decide)) (cV (hK1 _ _ (hM1 r L h)))))
     simpa using this
   · simp only [aB] at hn
     obtain ⟨m,rfl⟩:∃ m,n=m+1:=⟨n - 1,by omega⟩
     rw [bO,aK,eV,cN]
     simp only []
     rw [hK2]
     simp only []
     rw [hM3 rest m hr (by omega)]
     rfl
theorem aSm {x:Th} {t:List UInt8} (h:thT x=some t) (hR:thR x) (hD:jU 0 x.body):∃ K,(∀ r L,LexTo r L→LexTo (t++r) (wkT [116,104,114,101,97,100]::(K++L)))∧∀ rest,iY (wkT [116,104,114,101,97,100]::(K++rest))=some (x,rest):=by
 unfold thT at h
 split at h <;> first | (cases h;done) | skip
 rename_i a b ha hb
 split at h <;> first | (cases h;done) | skip
 rename_i hn
 injection h with h
 subst h
 obtain ⟨K1,a1,a2,a3⟩:=aGk _ _ ha hR.1
 obtain ⟨K2,b1,b2,b3⟩:=vV (aC4 (cS x.body)) x.body 0 b (aH _) hb hR.2 hD
 refine ⟨wkT x.name::skT [123]::(K1++(K2++[skT [125]])),fun r L h=>?_,fun rest=>?_⟩
 · have h1:=a1 _ _ (b2 _ _ (d7 (c:=125) (by decide) (jA h)))
   have h2:=dF (x:=[116,104,114,101,97,100]) (by decide) (cQ 32 _ (by decide)) (cV (dF (vD hn) (cQ 32 _ (by decide)) (cV (d7 (c:=123) (by decide) (jA h1)))))
   simpa using h2
 · rw [show wkT [116,104,114,101,97,100]::((wkT x.name::skT [123]::(K1++(K2++[skT [125]])))++rest)=wkT [116,104,114,101,97,100]::wkT x.name::skT [123]::(K1++(K2++(skT [125]::rest))) by simp]
   have hne:bX [108,111,99,97,108] (K2++(skT [125]::rest))=none:=by
    rcases b1 with rfl | ⟨k,w,rfl,hk⟩
    · exact cD (by decide)
    · exact cD hk.2.2
   unfold iY
   rw [cN]
   simp only []
   rw [o8 hn]
   simp only []
   rw [cN]
   simp only []
   rw [a3 _ _ hne (by simp only [aA];omega)]
   simp only []
   rw [b3 rest _ (by simp only [aA];omega)]
   simp only []
   rw [cN]
   rfl
theorem aF4:∀ (l:List Th) (t:List UInt8),cE thT l=some t→(∀ x∈l,thR x)→(∀ x∈l,jU 0 x.body)→∃ K,LexTo t K∧(K=[]∨∃ u,K=wkT [116,104,114,101,97,100]::u)∧l.length≤K.length∧∀ n,l.length+1≤n→eZ n K=some (l,[])
 | [],t,h,_,_=>by
   simp only [cE] at h
   injection h with h
   subst h
   refine ⟨[],aU0,.inl rfl,aH _,fun n hn=>?_⟩
   obtain ⟨m,rfl⟩:∃ m,n=m+1:=⟨n - 1,by omega⟩
   rw [eZ,if_pos rfl]
 | x::l,t,h,hR,hD=>by
   simp only [cE] at h
   split at h
   · cases h
   rename_i u hu
   split at h
   · cases h
   rename_i w hw
   injection h with h
   subst h
   obtain ⟨K,hK1,hK2⟩:=aSm hu (hR x bQ) (hD x bQ)
   obtain ⟨M,hM1,_,hM2,hM3⟩:=aF4 l w hw (fun y hy=>hR y (bA _ hy)) (fun y hy=>hD y (bA _ hy))
   refine ⟨wkT [116,104,114,101,97,100]::(K++M),hK1 _ _ hM1,.inr ⟨_,rfl⟩,by simp only [aB,aA];omega,fun n hn=>?_⟩
   simp only [aB] at hn
   obtain ⟨m,rfl⟩:∃ m,n=m+1:=⟨n - 1,by omega⟩
   rw [eZ,if_neg (by simp),hK2]
   simp only []
   rw [hM3 m (by omega)]
   rfl
theorem aHf:∀ (l:List (List UInt8)) (t:List UInt8),cE mxT l=some t→∃ K,(∀ r L,LexTo r L→LexTo (t++r) (K++L))∧l.length≤K.length∧∀ rest n,bX [115,104,97,114,101,100] rest=none→bX [109,117,116,101,120] rest=none→l.length+1≤n→dZ n (K++rest)=some (([],l),rest)
 | [],t,h=>by
   simp only [cE] at h
   injection h with h
   subst h
   refine ⟨[],fun r L h=>h,aH _,fun rest n hr hq hn=>?_⟩
   obtain ⟨m,rfl⟩:∃ m,n=m+1:=⟨n - 1,by omega⟩
   rw [bR,dZ,hr,hq]
 | v::l,t,h=>by
   simp only [cE] at h
   split at h
   · cases h
   rename_i u hu
   split at h
   · cases h
   rename_i w hw
   injection h with h
   subst h
   unfold mxT at hu
   split at hu <;> first | (cases hu;done) | skip
   rename_i hn
   injection hu with hu
   subst hu
   obtain ⟨M,hM1,hM2,hM3⟩:=aHf l w hw
   refine ⟨wkT [109,117,116,101,120]::wkT v::skT [59]::M,fun r L h=>?_,by simp only [aB];omega,fun rest n hr hq hk=>?_⟩
   · have:=dF (x:=[109,117,116,101,120]) (by decide) (cQ 32 _ (by decide)) (cV (dF (vD hn) (cQ 59 _ (by decide)) (d7 (c:=59) (by decide) (jA (hM1 r L h)))))
     simpa using this
   · simp only [aB] at hk
     obtain ⟨m,rfl⟩:∃ m,n=m+1:=⟨n - 1,by omega⟩
     simp only [bO]
     rw [dZ,cD (by decide),cN]
     simp only []
     rw [o8 hn]
     simp only []
     rw [cN]
     simp only []
     rw [hM3 rest m hr hq (by omega)]
     rfl
theorem aG4:∀ (l:List Vr) (t:List UInt8) {ms:List (List UInt8)} {N:Nat} {K us:List Tok},cE (vrT [115,104,97,114,101,100]) l=some t→(∀ v∈l,vrR v)→(∀ n,N≤n→dZ n K=some (([],ms),us))→∃ M,(∀ r L,LexTo r L→LexTo (t++r) (M++L))∧l.length≤M.length∧∀ n,N+l.length≤n→dZ n (M++K)=some ((l,ms),us)
 | [],t,ms,N,K,us,h,_,hK=>by
   simp only [cE] at h
   injection h with h
   subst h
   exact ⟨[],fun r L h=>h,aH _,fun n hn=>hK n hn⟩
 | v::l,t,ms,N,K,us,h,hR,hK=>by
   simp only [cE] at h
   split at h
   · cases h
   rename_i u hu
   split at h
   · cases h
   rename_i w hw
   injection h with h
   subst h
   obtain ⟨x,Kv,hx,hK1,hK2⟩:=aGr hu (hR v bQ)
   obtain ⟨M,hM1,hM2,hM3⟩:=aG4 l w hw (fun y hy=>hR y (bA _ hy)) hK
   subst hx
   refine ⟨wkT [115,104,97,114,101,100]::(Kv++M),fun r L h=>?_,by simp only [aB,aA];omega,fun n hn=>?_⟩
   · have:=dF (x:=[115,104,97,114,101,100]) (by decide) (cQ 32 _ (by decide)) (cV (hK1 _ _ (hM1 r L h)))
     simpa using this
   · simp only [aB] at hn
     obtain ⟨m,rfl⟩:∃ m,n=m+1:=⟨n - 1,by omega⟩
     rw [bO,aK,dZ,cN]
     simp only []
     rw [hK2]
     simp only []
     rw [hM3 m (by omega)]
     rfl
theorem aSy {p:Pg} {t:List UInt8} (h:pgT p=some t) (hR:pgR p) (hD:∀ x∈p.threads,jU 0 x.body):∃ K,LexTo t K∧pgK K=some (p,[]):=by
 unfold pgT at h
 split at h <;> first | (cases h;done) | skip
 rename_i a b c ha hb hc
 injection h with h
 subst h
 obtain ⟨K3,c1,c2,c3,c4⟩:=aF4 _ _ hc hR.2 hD
 obtain ⟨K2,b1,b2,b3⟩:=aHf _ _ hb
 have hs:bX [115,104,97,114,101,100] K3=none:=by
  rcases c2 with rfl | ⟨u,rfl⟩
  · rfl
  · exact cD (by decide)
 have hm:bX [109,117,116,101,120] K3=none:=by
  rcases c2 with rfl | ⟨u,rfl⟩
  · rfl
  · exact cD (by decide)
 obtain ⟨K1,a1,a2,a3⟩:=aG4 _ _ ha hR.1 (fun n hn=>b3 K3 n hs hm hn)
 refine ⟨K1++(K2++K3),a1 _ _ (b1 _ _ c1),?_⟩
 unfold pgK
 rw [a3 _ (by simp only [aA];omega)]
 simp only []
 rw [c4 _ (by omega)]
 rfl
theorem aIn {s:List UInt8} {p:Pg} (h:eW s=some p):∀ x∈p.threads,jU 0 x.body:=by
 unfold eW at h
 split at h
 · cases h
 obtain ⟨q,hq,rfl⟩:=aC h
 exact aSn hq
theorem aIu {s t:List UInt8} {p:Pg} (h:eW s=some p) (ht:pgT p=some t) (hl:t.length≤16384):eW t=some p:=by
 obtain ⟨K,h1,h2⟩:=aSy ht (z8 h).2.1 (aIn h)
 exact aH6 h1 hl h2
end
section
theorem wI (s:List UInt8):∀ (l:List (Nat×TR)),(cB s l).length≤l.length*(s.length+1)
 | []=>by simp [cB]
 | (k,R)::l=>by
   have:=wI s l
   rw [k8,aA,aB,aB,aT,bI,bD]
   omega
theorem aEa (s:List UInt8) (l:List (Nat×TR)) (k:Nat) (R:TR):cB s (l++[(k,R)])=cB s l++((s.drop k).take R.len++[32]):=by
 unfold cB
 rw [List.flatMap_append,List.flatMap_cons,List.flatMap_nil,bF]
theorem sR (s:List UInt8):∀ (l1:List (Nat×TR)) (p:Nat×TR) (l3:List (Nat×TR)) (j:Nat),j<5→(eT s (l1++p::l3))[l1.length*5+j]?=(aCi s p)[j]?
 | [],p,l3,j,hj=>by
   unfold eT
   rw [bR,List.flatMap_cons,aD,Nat.zero_mul,bH,bG (by exact hj)]
 | q::l1,p,l3,j,hj=>by
   have ih:=sR s l1 p l3 j hj
   unfold eT at *
   rw [bO,List.flatMap_cons,aB,aP (by show 5≤_;omega)]
   show (List.flatMap (aCi s) (l1++p::l3))[(l1.length+1)*5+j - 5]?=_
   rw [show (l1.length+1)*5+j - 5=l1.length*5+j by omega]
   exact ih
theorem aK9:Tryz.prog.eqGuardType Tryz.prog.depth 30=false:=by kernel_rfl
theorem aFg (a b c d:Int) (k:Nat) (w:World):
  (Op.equalIn (k+2) 30 (.agg #[.int .i64 a,.int .i64 b]) (.agg #[.int .i64 c,.int .i64 d])).run Tryz.prog w = .ok (vEq a b c d) w:=by
 have h0:Tryz.prog.underlying 30=some (.struct (Tryz.prog.fieldsOf 30)):=by rw [Program.fieldsOf,Tryz.underlying30]
 rw [run_equalIn_agg w (k+1) _ _ _ h0 (by kernel_rfl)]
 have h1:=run_equalIn_int (P:=Tryz.prog) w k 28 .i64 .i64 a c Tryz.underlying28
 have h2:=run_equalIn_int (P:=Tryz.prog) w k 3 .i64 .i64 b d Tryz.underlying3
 rw [Program.fieldsOf,Tryz.underlying30]
 unfold vEq
 rw [Sy.intEq_eq,Sy.intEq_eq]
 go_simp
 by_cases ha:a=c <;> by_cases hb:b=d <;> simp [ha,hb]
theorem aVc {a b:Int} (h:¬ a=0):vEq a b 0 0=false:=by
 unfold vEq
 rw [Sy.intEq_eq]
 simp [h]
theorem aE1 (ox oy:Operand) (a b:Int) (w:World):
  (do eqGuard .neq 30 ox oy (.agg #[.int .i64 a,.int .i64 b]) (.agg #[.int .i64 0,.int .i64 0]);binOp .neq 30 (.agg #[.int .i64 a,.int .i64 b]) (.agg #[.int .i64 0,.int .i64 0]):Sem Value).run Tryz.prog w = .ok (.bool (!(vEq a b 0 0))) w:=by
 have h1:(eqGuard .neq 30 ox oy (.agg #[.int .i64 a,.int .i64 b]) (.agg #[.int .i64 0,.int .i64 0])).run Tryz.prog w = .ok () w:=by
  have:=aK9
  unfold eqGuard
  go_simp
 have h2:(binOp .neq 30 (.agg #[.int .i64 a,.int .i64 b]) (.agg #[.int .i64 0,.int .i64 0])).run Tryz.prog w = .ok (.bool (!(vEq a b 0 0))) w:=by
  rw [run_neq_struct,aFg]
  rfl
 exact Sy.eqG2 h1 h2
open Go.Sy in
set_option maxRecDepth 100000 in
theorem aDp (s:List UInt8) (w:World) (ht:Tab w):CB 3 #[nT s] w (.bool true):=by
 refine eN [nT s] Tryz.func3 (fun γ0 hγ0=>?_)
 have hγ0:∀ b,gz≤b→γ0 b=none:=hγ0
 refine rk ?_
 refine gX [] (.bool true) (fun W hk=>aDh W (ht.below hk.below)) (rk ?_)
 rcases hP:eW s with _ | p
 ·
  refine iR (bV _ _) [nT s] (by kernel_rfl) (by kernel_rfl) (by kernel_rfl) (Pr:=fun W v W'=>∃ ee pp:Int,¬ ee=0∧v = .tuple #[.agg #[.slice none 0 0,.slice none 0 0,.slice none 0 0],.agg #[nI ee,nI pp]]) (fun W hk=>(oZ s W).mono fun e w' ⟨h1,h2⟩=>by rw [hP] at h2;obtain ⟨ee,pp,h3,h4⟩:=h2;exact ⟨_,h4,⟨ee,pp,h3,rfl⟩,h1⟩) ?_
  rintro V r w1 B1 hkV ⟨ee,pp,hee,rfl⟩ hbl1 hk01 hB01 hBn1 hB1
  refine rs [24] 60 0 ?_
  refine gV (.bool true) (S:=do eqGuard .neq 30 (.tmp 22) (.tmp 23) (.agg #[nI ee,nI pp]) (.agg #[nI 0,nI 0]);binOp .neq 30 (.agg #[nI ee,nI pp]) (.agg #[nI 0,nI 0])) (fun W _=>by rw [aE1,aVc hee];rfl) (rs [] 60 2 ?_)
  exact gR (.bool true) (fun W hk=>⟨rfl,(hk01.trans (hk.mono hB01)).below⟩)
 obtain ⟨hTS,hR,hB,hW⟩:=z8 hP
 obtain ⟨t,hT⟩:=aQ hTS
 have hTl:=aS2 hR hT
 refine iR (bV _ _) [nT s] (by kernel_rfl) (by kernel_rfl) (by kernel_rfl) (Pr:=fun W v W'=>∃ ds:List Value,v = .tuple #[.agg ds.toArray,.agg #[nI 0,nI 0]]∧PgAt (dC W W') W' p ds) (fun W hk=>(oZ s W).mono fun e w' ⟨h1,h2⟩=>by rw [hP] at h2;obtain ⟨ds,h3,h4⟩:=h2;exact ⟨_,h3,⟨ds,rfl,h4⟩,h1⟩) ?_
 rintro V r w1 B1 hkV ⟨ds,rfl,hpg⟩ hbl1 hk01 hB01 hBn1 hB1
 have hp1:PgAt B1 w1 p ds:=hpg.keep (Keep.refl _ _) fun j h=>hBn1 j h.1 h.2
 have hp10:=hp1
 obtain ⟨pa1,pc1,px1,pb1,pd1,py1,pe1,pf1,pz1,rfl,_⟩:=hp10
 refine rs [32] 60 1 ?_
 refine gX [.agg #[.slice pa1 p.shared.length pc1,.slice pb1 p.mutexes.length pd1,.slice pe1 p.threads.length pf1]] (.tuple #[nT (oW p),nI (kQ p)]) (fun W hk=>aK7 p [.slice pa1 p.shared.length pc1,.slice pb1 p.mutexes.length pd1,.slice pe1 p.threads.length pf1] W (by omega) hR (ht.below (hk01.trans (hk.mono hB01)).below) (fun t' h=>by rw [hT] at h;injection h with h;subst h;omega) (hp1.keep hk (fun j h=>aE (hB1 j h) hk.size))) (rs [31] 60 0 ?_)
 by_cases hlong:16384<t.length
 ·
  have hpE:kQ p=3:=by unfold kQ;rw [hT];simp only [];rw [if_pos hlong]
  refine gS 7 (x:=nI (kQ p)) (nI 3) (by rw [hpE]) (rs [] 60 1 ?_)
  obtain ⟨l,hL,hK⟩:∃ l,iP s = .ok l∧True:=by
   unfold eW at hP
   split at hP
   · cases hP
   · exact ⟨_,by assumption,trivial⟩
  have hll:=vU hL
  refine iR (bV _ _) [nT s] (Pr:=fun W r W'=>∃ x,r = .tuple #[x,.agg #[nI 0,nI 0]]∧W'.ownsRow W.heap.size 44 5 x l.length (eT s l)) (by kernel_rfl) (by kernel_rfl) (by kernel_rfl) (fun W hk=>(y6 s W).mono fun e w' ⟨h1,h2⟩=>by
   rw [hL] at h2
   obtain ⟨x,h3,h4⟩:=h2
   exact ⟨_,h3,⟨x,rfl,h4⟩,h1⟩) ?_
  rintro V2 r w2 B2 hkV2 ⟨x,rfl,hown⟩ hbl2 hk12 hB12 hBn2 hB2
  obtain ⟨a,cap,rfl,hcap,hsl⟩:=SlAt.of_own (F:=B2) hown (fun k h1 h2=>hBn2 k h1 h2)
  refine rs [] 60 1 ?_
  refine cF ?_
  refine cZ (fun i:List (Nat×TR)×List (Nat×TR)=>i.2.length) (fun i=>l=i.1++i.2) (fun i=>⟨mkT [(0,vT s),(3,vB true),(4,.ptr gz 0),(10,vL a l.length cap),(12,vT (cB s i.1)),(13,vI ((i.1.length:Nat):Int))],mkH [(gz,bK 27 3 [vL pa1 p.shared.length pc1,vL pb1 p.mutexes.length pd1,vL pe1 p.threads.length pf1])],gz+3,[]⟩)
   ([],l) rfl (by kernel_rfl)
   (fun h=>gU _ [(0,vT s),(3,vB true),(4,.ptr gz 0),(10,vL a l.length cap),(12,vT (cB s ([]:List (Nat×TR)))),(13,vI ((([]:List (Nat×TR)).length:Nat):Int))] [(gz,bK 27 3 [vL pa1 p.shared.length pc1,vL pb1 p.mutexes.length pd1,vL pe1 p.threads.length pf1])] (gz+3) (gA hγ0) h) ?_
  rintro ⟨l1,l2⟩ hi ih
  have hi:l=l1++l2:=hi
  have hl12:l1.length+l2.length=l.length:=by rw [hi,aA]
  have hjl:=wI s l1
  have hjb:(cB s l1).length≤270000000:=by
   have:l1.length*(s.length+1)≤16385*16385:=Nat.mul_le_mul (by omega) (by omega)
   omega
  refine rk ?_
  rcases l2 with _ | ⟨⟨k,R⟩,l3⟩
  rotate_left
  ·
   have hin:l1.length<l.length:=by rw [aB] at hl12;omega
   obtain ⟨tx,htx⟩:∃ tx,tx=(s.drop k).take R.len:=⟨_,rfl⟩
   have htl:tx.length≤16384:=by rw [htx,aT,bI];omega
   have hcell:(eT s l)[l1.length*5+1]?=some (nT tx):=by rw [hi,sR s l1 (k,R) l3 1 (by decide),htx];rfl
   refine kx ((l1.length:Nat):Int) (l.length:Int) (by omega) (rk ?_)
   refine gI 36 44 cap l1.length hsl hin (rk ?_)
   refine gL 9 (nT tx) l1.length 1 hsl hcell (rs [71] 60 0 ?_)
   refine gC (cB s l1) (tx) (by omega) (rs [72] 60 0 ?_)
   refine gC (cB s l1++tx) ([32]) (by simp;omega) (rs [] 9 0 ?_)
   refine gS 12 (x:=nT (cB s l1++tx++[32])) (nT (cB s (l1++[(k,R)]))) (by rw [aEa,htx,aK]) (rk ?_)
   refine gS 13 (x:=nI (cA .i64 (((l1.length:Nat):Int)+1))) (nI (((l1++[(k,R)]).length:Nat):Int)) (by rw [cR (by omega) (by omega),aA];rfl) ?_
   exact gU _ [(0,vT s),(3,vB true),(4,.ptr gz 0),(10,vL a l.length cap),(12,vT (cB s (l1++[(k,R)]))),(13,vI (((l1++[(k,R)]).length:Nat):Int))] [(gz,bK 27 3 [vL pa1 p.shared.length pc1,vL pb1 p.mutexes.length pd1,vL pe1 p.threads.length pf1])] (gz+3) (gA hγ0) (ih (l1++[(k,R)],l3) (by show l=_;rw [hi];simp) (by show l3.length<((k,R)::l3).length;simp))
  obtain rfl:l=l1:=by rw [hi,bF]
  refine ky ((l.length:Nat):Int) (l.length:Int) (by omega) (rk ?_)
  have hk0m:=hk01.trans (hk12.mono hB01)
  have hB0m:∀ j,j<w.heap.size→B2 j:=fun j h=>hB12 j (hB01 j h)
  have hpm:=hp1.keep hk12 hB12
  by_cases hj:16384<(cB s l).length
  ·
   refine gK true (b:=intLt 16384 ((str (cB s l)).size:Nat)) (by rw [str_size];exact qC (by omega)) (rs [] 60 2 ?_)
   exact gR (.bool true) (fun W hk=>⟨rfl,(hk0m.trans (hk.mono hB0m)).below⟩)
  refine gK false (b:=intLt 16384 ((str (cB s l)).size:Nat)) (by rw [str_size];exact rE (by omega)) (rk ?_)
  have hPj:eW (cB s l)=some p:=(xJ hL hj).trans hP
  refine iR (bV _ _) [nT (cB s l)] (by kernel_rfl) (by kernel_rfl) (by kernel_rfl) (Pr:=fun W v W'=>∃ ds:List Value,v = .tuple #[.agg ds.toArray,.agg #[nI 0,nI 0]]∧PgAt (dC W W') W' p ds) (fun W hk=>(oZ (cB s l) W).mono fun e w' ⟨h1,h2⟩=>by rw [hPj] at h2;obtain ⟨ds,h3,h4⟩:=h2;exact ⟨_,h3,⟨ds,rfl,h4⟩,h1⟩) ?_
  rintro V3 r w3 B3 hkV3 ⟨ds,rfl,hpg⟩ hbl3 hk23 hB23 hBn3 hB3
  have hp3:PgAt B3 w3 p ds:=hpg.keep (Keep.refl _ _) fun j h=>hBn3 j h.1 h.2
  have hp30:=hp3
  obtain ⟨pa3,pc3,px3,pb3,pd3,py3,pe3,pf3,pz3,rfl,_⟩:=hp30
  have hpq:=hpm.keep hk23 hB23
  refine rk ?_
  refine gX [.agg #[.slice pa3 p.shared.length pc3,.slice pb3 p.mutexes.length pd3,.slice pe3 p.threads.length pf3],.agg #[.slice pa1 p.shared.length pc1,.slice pb1 p.mutexes.length pd1,.slice pe1 p.threads.length pf1]] (.bool true) (fun W hk=>by
   have h:=rP p p [.slice pa3 p.shared.length pc3,.slice pb3 p.mutexes.length pd3,.slice pe3 p.threads.length pf3] [.slice pa1 p.shared.length pc1,.slice pb1 p.mutexes.length pd1,.slice pe1 p.threads.length pf1] W (by omega) (hp3.keep hk (fun j h=>aE (hB3 j h) hk.size)) (hpq.keep hk (fun j h=>aE (hB3 j h) hk.size))
   rw [sameB_t.2 rfl] at h
   exact h) ?_
  refine rs [] 60 2 ?_
  exact gR (.bool true) (fun W hk=>⟨rfl,(hk0m.trans ((hk23.trans (hk.mono hB23)).mono hB0m)).below⟩)
 have hpE:kQ p=0:=by unfold kQ;rw [hT];simp only [];rw [if_neg hlong]
 have hpS:oW p=t:=by unfold oW;rw [hT];simp only [];rw [if_neg hlong]
 have hPt:=aIu hP hT (by omega)
 refine gS 7 (x:=nI (kQ p)) (nI 0) (by rw [hpE]) ?_
 refine gS 6 (x:=nT (oW p)) (nT t) (by rw [hpS]) (rs [] 60 1 ?_)
 refine iR (bV _ _) [nT t] (by kernel_rfl) (by kernel_rfl) (by kernel_rfl) (Pr:=fun W v W'=>∃ ds:List Value,v = .tuple #[.agg ds.toArray,.agg #[nI 0,nI 0]]∧PgAt (dC W W') W' p ds) (fun W hk=>(oZ t W).mono fun e w' ⟨h1,h2⟩=>by rw [hPt] at h2;obtain ⟨ds,h3,h4⟩:=h2;exact ⟨_,h3,⟨ds,rfl,h4⟩,h1⟩) ?_
 rintro V2 r w2 B2 hkV2 ⟨ds,rfl,hpg⟩ hbl2 hk12 hB12 hBn2 hB2
 have hp2:PgAt B2 w2 p ds:=hpg.keep (Keep.refl _ _) fun j h=>hBn2 j h.1 h.2
 have hp20:=hp2
 obtain ⟨pa2,pc2,px2,pb2,pd2,py2,pe2,pf2,pz2,rfl,_⟩:=hp20
 have hp12:=hp1.keep hk12 hB12
 refine rk ?_
 refine gX [.agg #[.slice pa2 p.shared.length pc2,.slice pb2 p.mutexes.length pd2,.slice pe2 p.threads.length pf2],.agg #[.slice pa1 p.shared.length pc1,.slice pb1 p.mutexes.length pd1,.slice pe1 p.threads.length pf1]] (.bool true) (fun W hk=>by
  have h:=aOq p p [.slice pa2 p.shared.length pc2,.slice pb2 p.mutexes.length pd2,.slice pe2 p.threads.length pf2] [.slice pa1 p.shared.length pc1,.slice pb1 p.mutexes.length pd1,.slice pe1 p.threads.length pf1] W (by omega) (hp2.keep hk (fun j h=>aE (hB2 j h) hk.size)) (hp12.keep hk (fun j h=>aE (hB2 j h) hk.size))
  rw [sameB_t.2 rfl] at h
  exact h) ?_
 refine rs [] 60 1 ?_
 obtain ⟨l,hL,hK⟩:∃ l,iP s = .ok l∧True:=by
  unfold eW at hP
  split at hP
  · cases hP
  · exact ⟨_,by assumption,trivial⟩
 have hll:=vU hL
 refine iR (bV _ _) [nT s] (Pr:=fun W r W'=>∃ x,r = .tuple #[x,.agg #[nI 0,nI 0]]∧W'.ownsRow W.heap.size 44 5 x l.length (eT s l)) (by kernel_rfl) (by kernel_rfl) (by kernel_rfl) (fun W hk=>(y6 s W).mono fun e w' ⟨h1,h2⟩=>by
  rw [hL] at h2
  obtain ⟨x,h3,h4⟩:=h2
  exact ⟨_,h3,⟨x,rfl,h4⟩,h1⟩) ?_
 rintro V3 r w3 B3 hkV3 ⟨x,rfl,hown⟩ hbl3 hk23 hB23 hBn3 hB3
 obtain ⟨a,cap,rfl,hcap,hsl⟩:=SlAt.of_own (F:=B3) hown (fun k h1 h2=>hBn3 k h1 h2)
 refine rs [] 60 1 ?_
 refine cF ?_
 refine cZ (fun i:List (Nat×TR)×List (Nat×TR)=>i.2.length) (fun i=>l=i.1++i.2) (fun i=>⟨mkT [(0,vT s),(3,vB true),(4,.ptr gz 0),(10,vL a l.length cap),(12,vT (cB s i.1)),(13,vI ((i.1.length:Nat):Int))],mkH [(gz,bK 27 3 [vL pa1 p.shared.length pc1,vL pb1 p.mutexes.length pd1,vL pe1 p.threads.length pf1])],gz+5,[]⟩)
  ([],l) rfl (by kernel_rfl)
  (fun h=>gU _ [(0,vT s),(3,vB true),(4,.ptr gz 0),(10,vL a l.length cap),(12,vT (cB s ([]:List (Nat×TR)))),(13,vI ((([]:List (Nat×TR)).length:Nat):Int))] [(gz,bK 27 3 [vL pa1 p.shared.length pc1,vL pb1 p.mutexes.length pd1,vL pe1 p.threads.length pf1])] (gz+5) (gA hγ0) h) ?_
 rintro ⟨l1,l2⟩ hi ih
 have hi:l=l1++l2:=hi
 have hl12:l1.length+l2.length=l.length:=by rw [hi,aA]
 have hjl:=wI s l1
 have hjb:(cB s l1).length≤270000000:=by
  have:l1.length*(s.length+1)≤16385*16385:=Nat.mul_le_mul (by omega) (by omega)
  omega
 refine rk ?_
 rcases l2 with _ | ⟨⟨k,R⟩,l3⟩
 rotate_left
 ·
  have hin:l1.length<l.length:=by rw [aB] at hl12;omega
  obtain ⟨tx,htx⟩:∃ tx,tx=(s.drop k).take R.len:=⟨_,rfl⟩
  have htl:tx.length≤16384:=by rw [htx,aT,bI];omega
  have hcell:(eT s l)[l1.length*5+1]?=some (nT tx):=by rw [hi,sR s l1 (k,R) l3 1 (by decide),htx];rfl
  refine kx ((l1.length:Nat):Int) (l.length:Int) (by omega) (rk ?_)
  refine gI 36 44 cap l1.length hsl hin (rk ?_)
  refine gL 9 (nT tx) l1.length 1 hsl hcell (rs [71] 60 0 ?_)
  refine gC (cB s l1) (tx) (by omega) (rs [72] 60 0 ?_)
  refine gC (cB s l1++tx) ([32]) (by simp;omega) (rs [] 9 0 ?_)
  refine gS 12 (x:=nT (cB s l1++tx++[32])) (nT (cB s (l1++[(k,R)]))) (by rw [aEa,htx,aK]) (rk ?_)
  refine gS 13 (x:=nI (cA .i64 (((l1.length:Nat):Int)+1))) (nI (((l1++[(k,R)]).length:Nat):Int)) (by rw [cR (by omega) (by omega),aA];rfl) ?_
  exact gU _ [(0,vT s),(3,vB true),(4,.ptr gz 0),(10,vL a l.length cap),(12,vT (cB s (l1++[(k,R)]))),(13,vI (((l1++[(k,R)]).length:Nat):Int))] [(gz,bK 27 3 [vL pa1 p.shared.length pc1,vL pb1 p.mutexes.length pd1,vL pe1 p.threads.length pf1])] (gz+5) (gA hγ0) (ih (l1++[(k,R)],l3) (by show l=_;rw [hi];simp) (by show l3.length<((k,R)::l3).length;simp))
 obtain rfl:l=l1:=by rw [hi,bF]
 refine ky ((l.length:Nat):Int) (l.length:Int) (by omega) (rk ?_)
 have hk0m:=hk01.trans ((hk12.trans (hk23.mono hB12)).mono hB01)
 have hB0m:∀ j,j<w.heap.size→B3 j:=fun j h=>hB23 j (hB12 j (hB01 j h))
 have hpm:=(hp1.keep hk12 hB12).keep hk23 hB23
 by_cases hj:16384<(cB s l).length
 ·
  refine gK true (b:=intLt 16384 ((str (cB s l)).size:Nat)) (by rw [str_size];exact qC (by omega)) (rs [] 60 2 ?_)
  exact gR (.bool true) (fun W hk=>⟨rfl,(hk0m.trans (hk.mono hB0m)).below⟩)
 refine gK false (b:=intLt 16384 ((str (cB s l)).size:Nat)) (by rw [str_size];exact rE (by omega)) (rk ?_)
 have hPj:eW (cB s l)=some p:=(xJ hL hj).trans hP
 refine iR (bV _ _) [nT (cB s l)] (by kernel_rfl) (by kernel_rfl) (by kernel_rfl) (Pr:=fun W v W'=>∃ ds:List Value,v = .tuple #[.agg ds.toArray,.agg #[nI 0,nI 0]]∧PgAt (dC W W') W' p ds) (fun W hk=>(oZ (cB s l) W).mono fun e w' ⟨h1,h2⟩=>by rw [hPj] at h2;obtain ⟨ds,h3,h4⟩:=h2;exact ⟨_,h3,⟨ds,rfl,h4⟩,h1⟩) ?_
 rintro V4 r w4 B4 hkV4 ⟨ds,rfl,hpg⟩ hbl4 hk34 hB34 hBn4 hB4
 have hp4:PgAt B4 w4 p ds:=hpg.keep (Keep.refl _ _) fun j h=>hBn4 j h.1 h.2
 have hp40:=hp4
 obtain ⟨pa4,pc4,px4,pb4,pd4,py4,pe4,pf4,pz4,rfl,_⟩:=hp40
 have hpq:=hpm.keep hk34 hB34
 refine rk ?_
 refine gX [.agg #[.slice pa4 p.shared.length pc4,.slice pb4 p.mutexes.length pd4,.slice pe4 p.threads.length pf4],.agg #[.slice pa1 p.shared.length pc1,.slice pb1 p.mutexes.length pd1,.slice pe1 p.threads.length pf1]] (.bool true) (fun W hk=>by
  have h:=rP p p [.slice pa4 p.shared.length pc4,.slice pb4 p.mutexes.length pd4,.slice pe4 p.threads.length pf4] [.slice pa1 p.shared.length pc1,.slice pb1 p.mutexes.length pd1,.slice pe1 p.threads.length pf1] W (by omega) (hp4.keep hk (fun j h=>aE (hB4 j h) hk.size)) (hpq.keep hk (fun j h=>aE (hB4 j h) hk.size))
  rw [sameB_t.2 rfl] at h
  exact h) ?_
 refine rs [] 60 2 ?_
 exact gR (.bool true) (fun W hk=>⟨rfl,(hk0m.trans ((hk34.trans (hk.mono hB34)).mono hB0m)).below⟩)
end
end Go.Proofs.YtijopiphkgddhaaGreatDoor
