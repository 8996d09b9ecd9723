/- Texts of this proof, one behind the other. Conditions: those in each theorem. -/
import Derived.Test.YtiacalnkmnckjaaGreatDoorCnQ10
import Derived.Test.YtiacalnkmnckjaaGreatDoorCnQ8
import Derived.Test.YtiacalnkmnckjaaGreatDoorCnQ2
import Derived.Test.YtiacalnkmnckjaaGreatDoorCnQ1
import Derived.Test.YtiacalnkmnckjaaGreatDoorCnQ7
import Derived.Test.YtiacalnkmnckjaaGreatDoorCnQ9
set_option linter.unusedVariables false
set_option linter.unusedSimpArgs false
namespace Go.Proofs.YtiacalnkmnckjaaGreatDoor
open Go.RowKit Go.As
section
set_option maxRecDepth 100000
noncomputable def okV (v:Vr):Bool:=nameB v.name&&firB v.ty v.bits.toNat
theorem okV_vrT (word:List UInt8) (v:Vr) (hR:vrR v):(vrT word v).isSome=okV v:=by
 obtain ⟨_,h1,h2⟩:=hR
 unfold vrT okV
 cases hx:nameB v.name with
 | false=>rfl
 | true=>
   have:=(fir_plain v.ty v.bits.toNat (by omega)).1
   rw [this,show ((v.bits.toNat:Nat):Int)=v.bits by omega,if_pos rfl,Option.isSome_map,Bool.true_and]
open Go.Sy
theorem tvariable_any (v:Vr) (w:World) (hB:vrB v≤1000000000000) (hR:vrR v) (ht:Tab w):CB 116 #[.agg #[nT v.name,.int .u8 v.ty,.int .u64 v.bits]] w (.bool (okV v)):=by
 unfold vrB at hB
 have hnm:v.name.length≤maxLen:=by unfold maxLen;omega
 obtain ⟨_,hb1,hb2⟩:=hR
 refine eN [.agg #[nT v.name,.int .u8 v.ty,.int .u64 v.bits]] Tryz.func116 (fun γ0 hγ0=>?_)
 refine rk ?_
 cases hx:nameB v.name with
 | false=>
   refine gP [nT v.name] (.bool false) (fun W hk=>by rw [← hx];exact name_any v.name W hnm) ?_
   refine rs [] 60 2 ?_
   exact gR (.bool false) (fun W hk=>⟨by unfold okV;rw [hx];rfl,hk.below⟩)
 | true=>
   refine gP [nT v.name] (.bool true) (fun W hk=>by rw [← hx];exact name_any v.name W hnm) ?_
   refine rs [] 60 2 ?_
   refine gX [.agg #[.int .u8 v.ty,.int .u64 v.bits]] (.bool (firB v.ty v.bits.toNat)) (fun W hk=>by have:=tfirst_any v.ty v.bits.toNat (by omega) W (ht.below (Keep.below hk));rw [show ((v.bits.toNat:Nat):Int)=v.bits by omega] at this;exact this) ?_
   refine rs [] 60 2 ?_
   exact gR (.bool (firB v.ty v.bits.toNat)) (fun W hk=>⟨by unfold okV;rw [hx];rfl,hk.below⟩)
theorem tprogram1_any (v:Vr) (cs:List Value) (w:World) (hB:vrB v≤1000000000000) (hR:vrR v) (ht:Tab w) (hc:VrAt v cs):CB 115 #[.agg cs.toArray] w (.bool (!(okV v))):=by
 obtain rfl:cs=[nT v.name,.int .u8 v.ty,.int .u64 v.bits]:=hc
 refine eN [.agg #[nT v.name,.int .u8 v.ty,.int .u64 v.bits]] Tryz.func115 (fun γ0 hγ0=>?_)
 refine rk ?_
 refine gX [.agg #[nT v.name,.int .u8 v.ty,.int .u64 v.bits]] (.bool (okV v)) (fun W hk=>tvariable_any v W hB hR (ht.below (Keep.below hk))) ?_
 refine rk ?_
 exact gR (.bool (!(okV v))) (fun W hk=>⟨rfl,hk.below⟩)
theorem tprogram2_any (s:List UInt8) (cs:List Value) (w:World) (hB:txB s≤1000000000000) (hc:TxAt s cs):Calls Tryz.prog 119 cs.toArray w fun e w'=>e = .returned (.bool (!(nameB s)))∧Below w.heap.size w w':=by
 obtain rfl:cs=[nT s]:=hc
 refine eN [nT s] Tryz.func119 (fun γ0 hγ0=>?_)
 refine rk ?_
 refine gP [nT s] (.bool (nameB s)) (fun W hk=>name_any s W (by unfold maxLen;unfold txB at hB;omega)) ?_
 refine rk ?_
 exact gR (.bool (!(nameB s))) (fun W hk=>⟨rfl,hk.below⟩)
noncomputable def okT (x:Th):Bool:=nameB x.name&&(!(x.locals.any fun v=>!(okV v))&&okB 0 x.body)
theorem tprogram3_any (x:Th) (cs:List Value) (q:Nat) (w:World) (hB:thB x≤400000000000) (hR:thR x) (ht:Tab w) (hq:SlAt (·<w.heap.size) w (some ⟨q,0,none⟩) 1 1 [.func (.func 115) #[] #[]]) (hc:ThAt (·<w.heap.size) w x cs):
  CB 122 #[.agg cs.toArray,nP q] w (.bool (!(okT x))):=by
 obtain ⟨ua,ucap,uxs,ub,ucap2,uys,rfl,h1,h2,h3,h4⟩:=hc
 unfold thB at hB
 obtain ⟨hRl,hRb⟩:=hR
 have hnm:x.name.length≤maxLen:=by unfold maxLen;omega
 have hl1:=len_sumN (μ:=vrB) (fun v=>by unfold vrB;omega) x.locals
 have hl2:=swts_stBs x.body
 refine eN [.agg #[nT x.name,.slice ua x.locals.length ucap,.slice ub x.body.length ucap2],nP q] Tryz.func122 (fun γ0 hγ0=>?_)
 refine rk ?_
 cases hx:nameB x.name with
 | false=>
   refine gP [nT x.name] (.bool false) (fun W hk=>by rw [← hx];exact name_any x.name W hnm) ?_
   refine rs [] 60 2 ?_
   exact gR (.bool true) (fun W hk=>⟨by unfold okT;rw [hx];rfl,hk.below⟩)
 | true=>
   refine gP [nT x.name] (.bool true) (fun W hk=>by rw [← hx];exact name_any x.name W hnm) ?_
   refine rs [] 60 2 ?_
   refine gV (.func (.func 115) #[] #[]) (S:=Instr.loadAt 161 (.pointer (some ⟨q,0+0,none⟩))) (fun W hk=>ld_pt hq (by kernel_rfl) 0 rfl hk) ?_
   refine rs [] 60 2 ?_
   cases hy:x.locals.any (fun v=>!(okV v)) with
   | true=>
     refine gN [.slice ua x.locals.length ucap,.func (.func 115) #[] #[]] (fun v=>v = .bool true) (fun W hk=>(conVr_any (fun v=>!(okV v)) x.locals ua x.locals.length ucap uxs W rfl (by omega) ((h1.keep hk).mono (kU hk)) h2 (fun v hv cs W2 hk2 hc=>tprogram1_any v cs W2 (by have:=sumN_mem (μ:=vrB) hv;omega) (hRl v hv) (ht.below ((hk.trans (hk2.mono (kU hk))).below)) hc)).mono fun e w' ⟨h1,h2⟩=>⟨_,h1,(by rw [hy]),h2⟩) ?_
     rintro v w2 rfl hk2
     refine rs [] 60 2 ?_
     exact gR (.bool true) (fun W hk=>⟨by unfold okT;rw [hx,hy];rfl,hk.below⟩)
   | false=>
     refine gN [.slice ua x.locals.length ucap,.func (.func 115) #[] #[]] (fun v=>v = .bool false) (fun W hk=>(conVr_any (fun v=>!(okV v)) x.locals ua x.locals.length ucap uxs W rfl (by omega) ((h1.keep hk).mono (kU hk)) h2 (fun v hv cs W2 hk2 hc=>tprogram1_any v cs W2 (by have:=sumN_mem (μ:=vrB) hv;omega) (hRl v hv) (ht.below ((hk.trans (hk2.mono (kU hk))).below)) hc)).mono fun e w' ⟨h1,h2⟩=>⟨_,h1,(by rw [hy]),h2⟩) ?_
     rintro v w2 rfl hk2
     refine rs [] 60 2 ?_
     refine gX [.slice ub x.body.length ucap2,nI 0] (.bool (okB 0 x.body)) (fun W hk=>by have:=tblock_any x.body ub x.body.length ucap2 uys 0 W rfl (by omega) (by decide) (by omega) hRb (ht.below (Keep.below hk)) ((h3.keep hk).mono (kU hk)) (StsAt_ls.1 (h4.keep hk (kU hk))) (by omega);exact this) ?_
     refine rs [] 60 2 ?_
     exact gR (.bool (!(okB 0 x.body))) (fun W hk=>⟨by unfold okT;rw [hx,hy];rfl,hk.below⟩)
noncomputable def okP (p:Pg):Bool:=!(p.shared.any fun v=>!(okV v))&&(!(p.mutexes.any fun s=>!(nameB s))&&!(p.threads.any fun x=>!(okT x)))
theorem tprogram_any (p:Pg) (cs:List Value) (w:World) (hB:pgB p≤400000000000) (hR:pgR p) (ht:Tab w) (hp:PgAt (·<w.heap.size) w p cs):
  CB 51 #[.agg cs.toArray] w (.bool (okP p)):=by
 obtain ⟨a,cap,xs,b,cap2,ys,d,cap3,zs,rfl,hxs,hxt,hys,hyt,hzs,hzt⟩:=hp
 unfold pgB at hB
 obtain ⟨hRs,hRt⟩:=hR
 have hl1:=len_sumN (μ:=vrB) (fun v=>by unfold vrB;omega) p.shared
 have hl2:=len_sumN (μ:=txB) (fun v=>by unfold txB;omega) p.mutexes
 have hl3:=len_sumN (μ:=thB) (fun v=>by unfold thB;omega) p.threads
 refine eN [.agg #[.slice a p.shared.length cap,.slice b p.mutexes.length cap2,.slice d p.threads.length cap3]] Tryz.func51 (fun γ0 hγ0=>?_)
 refine rs [4] 60 0 ?_
 refine gG 3 (gz+1) 161 [.func (.func 115) #[] #[]] (fun q w1 B1 hk1 hB01 hBq hnq hB1 hq=>?_)
 have hq1:=box_sl hq hBq (n:=1) rfl
 have KW:∀ W,Keep B1 w1 W→Keep (·<w.heap.size) w W:=fun W hk=>hk1.trans (hk.mono hB01)
 refine rk ?_
 refine gV (.func (.func 115) #[] #[]) (S:=Instr.loadAt 161 (.pointer (some ⟨q,0+0,none⟩))) (fun W hk=>ld_pt hq1 (by kernel_rfl) 0 rfl hk) ?_
 refine rk ?_
 cases hv1:p.shared.any (fun v=>!(okV v)) with
 | true=>
   refine gN [.slice a p.shared.length cap,.func (.func 115) #[] #[]] (fun v=>v = .bool true) (fun W hk=>by
    have hk:=KW W hk
    exact (conVr_any (fun v=>!(okV v)) p.shared a p.shared.length cap xs W rfl (by omega) ((hxs.keep hk).mono (kU hk)) hxt (fun v hv cs W2 hk2 hc=>tprogram1_any v cs W2 (by have:=sumN_mem (μ:=vrB) hv;omega) (hRs v hv) (ht.below ((hk.trans (hk2.mono (kU hk))).below)) hc)).mono fun e w' ⟨h1,h2⟩=>⟨_,h1,(by rw [hv1]),h2⟩) ?_
   rintro v w2 rfl hk2
   refine rs [] 60 4 ?_
   exact gR (.bool false) (fun W hk=>⟨by unfold okP;rw [hv1];rfl,(KW W hk).below⟩)
 | false=>
   refine gN [.slice a p.shared.length cap,.func (.func 115) #[] #[]] (fun v=>v = .bool false) (fun W hk=>by
    have hk:=KW W hk
    exact (conVr_any (fun v=>!(okV v)) p.shared a p.shared.length cap xs W rfl (by omega) ((hxs.keep hk).mono (kU hk)) hxt (fun v hv cs W2 hk2 hc=>tprogram1_any v cs W2 (by have:=sumN_mem (μ:=vrB) hv;omega) (hRs v hv) (ht.below ((hk.trans (hk2.mono (kU hk))).below)) hc)).mono fun e w' ⟨h1,h2⟩=>⟨_,h1,(by rw [hv1]),h2⟩) ?_
   rintro v w2 rfl hk2
   refine rs [] 60 2 ?_
   cases hv2:p.mutexes.any (fun s=>!(nameB s)) with
   | true=>
     refine gN [.slice b p.mutexes.length cap2,.func (.func 119) #[] #[]] (fun v=>v = .bool true) (fun W hk=>by
      have hk:=KW W hk
      exact (conTx_any (fun s=>!(nameB s)) p.mutexes b p.mutexes.length cap2 ys W rfl (by omega) ((hys.keep hk).mono (kU hk)) hyt (fun s hs cs W2 hk2 hc=>tprogram2_any s cs W2 (by have:=sumN_mem (μ:=txB) hs;omega) hc)).mono fun e w' ⟨h1,h2⟩=>⟨_,h1,(by rw [hv2]),h2⟩) ?_
     rintro v w3 rfl hk3
     refine rs [] 60 4 ?_
     exact gR (.bool false) (fun W hk=>⟨by unfold okP;rw [hv1,hv2];rfl,(KW W hk).below⟩)
   | false=>
     refine gN [.slice b p.mutexes.length cap2,.func (.func 119) #[] #[]] (fun v=>v = .bool false) (fun W hk=>by
      have hk:=KW W hk
      exact (conTx_any (fun s=>!(nameB s)) p.mutexes b p.mutexes.length cap2 ys W rfl (by omega) ((hys.keep hk).mono (kU hk)) hyt (fun s hs cs W2 hk2 hc=>tprogram2_any s cs W2 (by have:=sumN_mem (μ:=txB) hs;omega) hc)).mono fun e w' ⟨h1,h2⟩=>⟨_,h1,(by rw [hv2]),h2⟩) ?_
     rintro v w3 rfl hk3
     refine rs [] 60 4 ?_
     refine gN [.slice d p.threads.length cap3,.func (.func 122) #[] #[nP q]] (fun v=>v = .bool (p.threads.any fun x=>!(okT x))) (fun W hk0=>by
      have hk:=KW W hk0
      exact (conTh_any (fun x=>!(okT x)) q p.threads d p.threads.length cap3 zs W rfl (by omega) ((hzs.keep hk).mono (kU hk)) (hzt.imp fun x c hc=>hc.keep hk (kU hk)) (fun x hx cs W2 hk2 hc=>tprogram3_any x cs q W2 (by have:=sumN_mem (μ:=thB) hx;omega) (hRt x hx) (ht.below ((hk.trans (hk2.mono (kU hk))).below)) ((((hq1.keep hk0).mono fun k h=>Nat.lt_of_lt_of_le (hB1 k h) hk0.size).keep hk2).mono (kU hk2)) hc)).mono fun e w' ⟨h1,h2⟩=>⟨_,h1,rfl,h2⟩) ?_
     rintro v w4 rfl hk4
     refine rk ?_
     exact gR (.bool (!(p.threads.any fun x=>!(okT x)))) (fun W hk=>⟨by unfold okP;rw [hv1,hv2];rfl,(KW W hk).below⟩)
end
end Go.Proofs.YtiacalnkmnckjaaGreatDoor
section
namespace Go.Proofs
open Go.Shelf Go.RowKit
section
variable {P:Program} {ρ:Ren}
set_option maxHeartbeats 1000000 in
set_option maxRecDepth 100000 in
theorem fresh_in (L:Lays.n240 P ρ) (X:Builder.X72 P ρ) (T:TypeId) (hT:liesAt P P.depth T (2 / P.cellsOf T) 0 (ρ.t 72) 1=true) (b:Nat) (w:World) (h0:w.cell? ⟨b,0,none⟩=some (.pointer none)) (hsh:w.shape? b=some (T,2)) (hfz:w.frozen? ⟨b,0,none⟩=false):
  Calls P (ρ.f 240) #[.pointer (some ⟨b,0,none⟩)] w fun e w'=>e = .returned (.tuple #[])∧w'=w.setCell ⟨b,0,none⟩ (.pointer (some ⟨b,0,none⟩)):=by
 obtain ⟨j,hj,hjs⟩:=Option.map_eq_some_iff.1 X.sizeBuilder
 have mixed:=L.mixed
 have t72:=L.t72;have a72:=L.a72;have z72:=L.z72;have v72:=L.v72;have u72:=run_underlying L.t72
 have t70:=L.t70;have a70:=L.a70;have z70:=L.z70;have v70:=L.v70;have u70:=run_underlying L.t70
 have t9:=L.t9;have a9:=L.a9;have z9:=L.z9;have v9:=L.v9;have u9:=run_underlying L.t9
 have t4:=L.t4;have a4:=L.a4;have z4:=L.z4;have v4:=L.v4;have u4:=run_underlying L.t4
 have t164:=L.t164;have a164:=L.a164;have z164:=L.z164;have v164:=L.v164;have u164:=run_underlying L.t164
 go_enter L.f240,Body.n240_ntmps ρ
 go_wp2
 rw [Lib.run_to_unsafe w ⟨b,0,none⟩ L.t70 L.t164 hj (by rw [hjs];decide) hsh (Nat.zero_lt_succ 1)]
 simp only [Result.andThen]
 rw [Oper.upon_value]
 go_wp2
 rw [run_callFunc_extern L.f276 (by kernel_rfl) (by kernel_rfl) (by kernel_rfl) (e:=Extern.AbiNoEscape.same) (by kernel_rfl)]
 rw [Lib.run_noEscape]
 simp only [Result.andThen]
 rw [Oper.upon_value]
 go_wp2
 rw [Lib.run_from_unsafe w ⟨b,0,none⟩ L.t164 L.t70 hj hsh hT]
 simp only [Result.andThen]
 rw [Oper.upon_value]
 go_wp2
 go_end0
 exact ⟨rfl,rfl⟩
set_option maxHeartbeats 2000000 in
set_option maxRecDepth 100000 in
theorem string_in (L:Lays.n169 P ρ) (X:Builder.Extra P ρ) (T:TypeId) (b n cap:Nat) (ao q:Option Addr) (p:Value) (r:ByteArray) (w w2:World) (hbk:w.heap[b]?=some (.cells #[p,.slice ao n cap] T (0,0)))
  (hSD:(Builtin.unsafeSliceData_ #[(ρ.t 37)] (ρ.t 127) #[.slice ao n cap]).run P w.drew = .ok (.pointer q) w.drew)
  (hUS:(Builtin.unsafeString_ #[(ρ.t 127),(ρ.t 3)] (ρ.t 9) #[.pointer q,.int .i64 n]).run P w.drew = .ok (.string r) w2):
  Calls P (ρ.f 169) #[.pointer (some ⟨b,0,none⟩)] w fun e w'=>e = .returned (.string r)∧w'=w2:=by
 have c1:w.drew.cell? ⟨b,1,none⟩=some (.slice ao n cap):=by
  have:w.drew.heap[b]?=some (.cells #[p,.slice ao n cap] T (0,0)):=hbk
  rw [Lib.cell_of_heap this];rfl
 have mixed:=L.mixed
 have t72:=L.t72;have a72:=L.a72;have z72:=L.z72;have v72:=L.v72;have u72:=run_underlying L.t72
 have t70:=L.t70;have a70:=L.a70;have z70:=L.z70;have v70:=L.v70;have u70:=run_underlying L.t70
 have t37:=L.t37;have a37:=L.a37;have z37:=L.z37;have v37:=L.v37;have u37:=run_underlying L.t37
 have t127:=L.t127;have a127:=L.a127;have z127:=L.z127;have v127:=L.v127;have u127:=run_underlying L.t127
 have t3:=L.t3;have a3:=L.a3;have z3:=L.z3;have v3:=L.v3;have u3:=run_underlying L.t3
 have t9:=L.t9;have a9:=L.a9;have z9:=L.z9;have v9:=L.v9;have u9:=run_underlying L.t9
 have t5:=X.t5;have a5:=X.a5;have z5:=X.z5;have v5:=X.v5;have u5:=run_underlying X.t5
 go_enter L.f169,Body.n169_ntmps ρ
 go_wp2
 go_region_o
 all_goals (go_wp2;go_ret;exact ⟨rfl,rfl⟩)
end
end Go.Proofs
namespace Go.Proofs.YtiacalnkmnckjaaGreatDoor
open Go.RowKit Go.As
def Bu (b:Nat) (l:List UInt8) (w:World):Prop:=∃ p ao n cap,(p = .pointer none∨p = .pointer (some ⟨b,0,none⟩))∧w.heap[b]?=some (.cells #[p,.slice ao n cap] 94 (0,0))∧
 w.ownsRow 0 5 1 (.slice ao n cap) l.length (Lib.byteCells l)∧(Value.slice ao n cap).ownBlock≠some b∧(l=[]→ao=none)
def BuF (b:Nat) (w:World) (k:Nat):Prop:=k=b∨∃ p v t fz,w.heap[b]?=some (.cells #[p,v] t fz)∧v.ownBlock=some k
theorem BuF.at_ {b:Nat} {p v:Value} {t:TypeId} {fz:Nat×Nat} {w:World} (h:w.heap[b]?=some (.cells #[p,v] t fz)) {k:Nat}:BuF b w k↔k=b∨v.ownBlock=some k:=by
 constructor
 · rintro (rfl | ⟨p',v',t',fz',h1,h2⟩)
   · exact .inl rfl
   · rw [h] at h1
     simp only [Option.some.injEq,Obj.cells.injEq,Array.mk.injEq,List.cons.injEq] at h1
     rw [← h1.1.2.1] at h2
     exact .inr h2
 · rintro (rfl | h1)
   · exact .inl rfl
   · exact .inr ⟨_,_,_,_,h,h1⟩
structure WrR (b:Nat) (l:List UInt8) (w w':World):Prop where
 bu:Bu b l w'
 kp:Sy.Keep (fun k=>k<w.heap.size∧¬ BuF b w k) w w'
 old:∀ k,BuF b w' k→BuF b w k∨w.heap.size≤k
theorem bu_lies:liesAt Tryz.prog Tryz.prog.depth 94 (2 / Tryz.prog.cellsOf 94) 0 92 1=true:=by kernel_rfl
theorem set0_heap {w:World} {b:Nat} {p q v:Value} {t:TypeId} (h:w.heap[b]?=some (.cells #[p,v] t (0,0))):(w.setCell ⟨b,0,none⟩ q).heap[b]?=some (.cells #[q,v] t (0,0)):=by
 have hlt:=(Array.getElem?_eq_some_iff.1 h).1
 simp [World.setCell,Array.getElem?_modify,h]
theorem setc_keep (w:World) (b o:Nat) (q:Value):Sy.Keep (fun k=>k<w.heap.size∧k≠b) w (w.setCell ⟨b,o,none⟩ q):=
 ⟨rfl,rfl,rfl,by simp [World.setCell],fun k hk=>Below.heap_setCell _ _ _ _ (fun e=>hk.2 (by simp [e]))⟩
theorem copyCheck_any (b:Nat) (p v:Value) (w:World) (hp:p = .pointer none∨p = .pointer (some ⟨b,0,none⟩)) (h:w.heap[b]?=some (.cells #[p,v] 94 (0,0))):
  Calls Tryz.prog 125 #[.pointer (some ⟨b,0,none⟩)] w fun e w'=>e = .returned (.tuple #[])∧w'.heap[b]?=some (.cells #[.pointer (some ⟨b,0,none⟩),v] 94 (0,0))∧Sy.Keep (fun k=>k<w.heap.size∧k≠b) w w':=by
 have c0:w.cell? ⟨b,0,none⟩=some p:=by rw [Lib.cell_of_heap h];rfl
 rcases hp with rfl | rfl
 · refine (fresh_in (L:={ Tryz.lays105 with }) Tryz.Builder_Extra_105.toX72 94 bu_lies b w c0 (by simp [World.shape?,h]) (Lib.frozen_of_heap h 0)).mono ?_
   rintro e w' ⟨rfl,rfl⟩
   exact ⟨rfl,set0_heap h,setc_keep _ _ _ _⟩
 · refine (Any.Builder_copyCheck_used (L:={ Tryz.lays105 with }) Tryz.Builder_Extra_105.toX72 b w c0).mono ?_
   rintro e w' ⟨rfl,rfl⟩
   exact ⟨rfl,h,Sy.Keep.refl _ _⟩
end Go.Proofs.YtiacalnkmnckjaaGreatDoor
end
namespace Go.Proofs.YtiacalnkmnckjaaGreatDoor
open Go.RowKit Go.As
section
theorem own_kept0 {w W:World} {e:TypeId} {v:Value} {n:Nat} {xs:List Value} (h:w.ownsRow 0 e 1 v n xs) (hk:∀ k,v.ownBlock=some k→W.heap[k]?=w.heap[k]?):W.ownsRow 0 e 1 v n xs:=by
 refine ⟨h.1,?_⟩
 rcases h.2 with hn | ⟨g,cap,cur,rfl,hb,hgg,rest⟩
 · exact .inl hn
 · exact .inr ⟨g,cap,cur,rfl,hb,(hk g rfl).trans hgg,rest⟩
theorem own_form0 {w:World} {e:TypeId} {v:Value} {n:Nat} {xs:List Value} (h:w.ownsRow 0 e 1 v n xs):∃ ao cap,v = .slice ao n cap:=by
 rcases h.2 with ⟨rfl,rfl⟩ | ⟨g,cap,cur,rfl,_⟩
 · exact ⟨_,_,rfl⟩
 · exact ⟨_,_,rfl⟩
theorem app_strB (ty:TypeId) (ao:Option Addr) (n cap:Nat) (l s:List UInt8) (w:World) (hown:w.ownsRow 0 5 1 (.slice ao n cap) l.length (Lib.byteCells l)) (hlen:l.length+s.length≤140737488355328) (hnil:l=[]→ao=none):
  ∃ ao' n' cap' w',(Builtin.append_ #[90,9] ty #[.slice ao n cap,.string (str s)]).run Tryz.prog w = .ok (.slice ao' n' cap') w'∧w'.ownsRow 0 5 1 (.slice ao' n' cap') (l.length+s.length) (Lib.byteCells (l++s))∧
    w.grownBy w' (Value.slice ao n cap).ownBlock∧SameOrNew w (.slice ao n cap) (.slice ao' n' cap')∧(l++s=[]→ao'=none):=by
 obtain ⟨v',w',h1,h2,h3,h4⟩:=run_app_str (P:=Tryz.prog) 0 90 9 ty 5 (by kernel_rfl) (by kernel_rfl) (by kernel_rfl) _ _ _ hown s hlen (Nat.zero_le _)
 obtain ⟨i,hi,hz,hs,hb⟩:=info_parts (P:=Tryz.prog) (e:=5) (z := .int .u8 0) (size:=1) (bytes:=1) (by kernel_rfl)
 obtain ⟨v2,w2,g1,-,-,g4⟩:=Lib.run_append_own_string (P:=Tryz.prog) w 0 90 9 ty 5 i (by kernel_rfl) (by kernel_rfl) hi hz hs hb _ _ _ hown (str s) (by rw [str_size];unfold maxLen;omega) (by rw [str_size];omega) (Nat.zero_le _)
 rw [h1] at g1
 injection g1 with e1 e2
 subst e1 e2
 obtain ⟨ao',cap',rfl⟩:=own_form0 h2
 have e:Lib.byteCells l++byt s=Lib.byteCells (l++s):=by simp [Lib.byteCells,byt]
 rw [e] at h2
 refine ⟨ao',_,cap',w',h1,h2,h3,h4,fun hls=>?_⟩
 obtain ⟨rfl,rfl⟩:=List.append_eq_nil_iff.1 hls
 have hao:=hnil rfl
 subst hao
 have h5:n=0∧cap=0:=by
  rcases hown.2 with ⟨h6,_⟩ | ⟨g,c,cur,h6,_⟩
  · injection h6 with _ a b
    exact ⟨a,b⟩
  · cases h6
 obtain ⟨rfl,rfl⟩:=h5
 have:=g4.2 ⟨rfl,rfl⟩
 injection this
theorem own_lt0 {w:World} {e:TypeId} {v:Value} {n:Nat} {xs:List Value} (h:w.ownsRow 0 e 1 v n xs) {k:Nat} (hk:v.ownBlock=some k):k<w.heap.size:=(h.lt k hk).2
open Go.Sy in
set_option maxRecDepth 100000 in
theorem writeString_any (b:Nat) (l s:List UInt8) (w:World) (hb:Bu b l w) (hlen:l.length+s.length≤140737488355328):
  Calls Tryz.prog 53 #[.pointer (some ⟨b,0,none⟩),.string (str s)] w fun e w'=>e = .returned (.tuple #[.int .i64 s.length,.nilIface])∧WrR b (l++s) w w':=by
 obtain ⟨p,ao,n,cap,hp,hbk,hown,hne,hnil⟩:=hb
 have hblt:b<w.heap.size:=(Array.getElem?_eq_some_iff.1 hbk).1
 refine Sy.enter (vs:=[.pointer (some ⟨b,0,none⟩),.string (str s)]) sy_fine Tryz.func53 rfl (fun γ=>norms_LR _) rfl (fun γ0 hγ0=>?_)
 refine rk ?_
 refine good_callW (sy_cx _ _) [.pointer (some ⟨b,0,none⟩)] (fun k=>k=b) (Pr:=fun w1 r w2=>r = .tuple #[]∧w2.heap[b]?=some (.cells #[.pointer (some ⟨b,0,none⟩),.slice ao n cap] 94 (0,0))) (by kernel_rfl) (by kernel_rfl) (by kernel_rfl) (by kernel_rfl) (fun k e=>by subst e;exact hblt)
  (fun W hk=>(copyCheck_any b p (.slice ao n cap) W hp ((hk.block b hblt).trans hbk)).mono fun e w' ⟨h1,h2,h3⟩=>⟨_,h1,⟨rfl,h2⟩,h3⟩) ?_
 rintro w1 r w2 B2 hk1 ⟨rfl,hb2⟩ hk2 hk02 hB2 hB2n hB2s
 refine rk ?_
 have hog:∀ k,(Value.slice ao n cap).ownBlock=some k→k<w.heap.size:=fun k hk=>own_lt0 hown hk
 have hw2:∀ W,Keep B2 w2 W→∀ k,k<w.heap.size→k≠b→W.heap[k]?=w.heap[k]?:=fun W hk k h1 h2=>
  (hk.block k (hB2 k h1)).trans (hk02.block k ⟨h1,h2⟩)
 have hbW:∀ W,Keep B2 w2 W→W.heap[b]?=some (.cells #[.pointer (some ⟨b,0,none⟩),.slice ao n cap] 94 (0,0)):=fun W hk=>(hk.block b (hB2 b hblt)).trans hb2
 have hs2:=hk02.size
 refine gV (.slice ao n cap) (S:=Instr.loadAt 90 (.pointer (some ⟨b,1,none⟩))) (fun W hk=>load_cell (o:=0) (j:=1) (by kernel_rfl) (by rw [Lib.cell_of_heap (hbW W hk)];rfl)) ?_
 refine rs [14] 60 0 ?_
 refine good_biW .append [90,9] [.slice ao n cap,.string (str s)] (fun k=>(Value.slice ao n cap).ownBlock=some k)
  (Pr:=fun W r W'=>∃ ao' n' cap',r = .slice ao' n' cap'∧W'.ownsRow 0 5 1 r (l.length+s.length) (Lib.byteCells (l++s))∧W.grownBy W' (Value.slice ao n cap).ownBlock∧SameOrNew W (.slice ao n cap) r∧(l++s=[]→ao'=none))
  (by kernel_rfl) (by kernel_rfl) (fun k hk=>hB2 k (hog k hk)) (fun W hk hs ty cs=>?g2) ?g3
 case g2=>
  obtain ⟨ao',n',cap',W',h1,h2,h3,h4,h5⟩:=app_strB ty ao n cap l s W (own_kept0 hown fun k hk2=>hw2 W hk k (hog k hk2) (fun e=>hne (e ▸ hk2))) hlen hnil
  refine ⟨_,W',?_,⟨ao',n',cap',rfl,h2,h3,h4,h5⟩,⟨h3.os,h3.tape,h3.output,h3.size,fun k hk2=>h3.block k hk2.1 (fun e=>hk2.2 e.symm)⟩⟩
  simp only [builtin,Sem.run_bind,h1,Result.andThen_ok,Sem.run_pure]
 rintro w3 r w4 B4 hk3 ⟨ao',n',cap',rfl,hown',hgrow,hsn,hnil'⟩ hk4 hk24 hB4 hB4n hB4s
 have hb4:w4.heap[b]?=some (.cells #[.pointer (some ⟨b,0,none⟩),.slice ao n cap] 94 (0,0)):=(hk24.block b ⟨hB2 b hblt,hne⟩).trans hb2
 have hbnew:(Value.slice ao' n' cap').ownBlock≠some b:=Lib.ownBlock_ne hown' hb4 (by decide)
 refine rk ?_
 have hb4k:∀ k,(Value.slice ao' n' cap').ownBlock=some k→B4 k:=fun k hk=>(hsn k hk).elim (fun h=>hB4 _ (hB2 _ (hog k h))) (fun h=>hB4n k h (own_lt0 hown' hk))
 refine good_storeW 90 (.pointer (some ⟨b,1,none⟩)) (.slice ao' n' cap') (fun k=>k=b) (Pr:=fun W W'=>W'.heap[b]?=some (.cells #[.pointer (some ⟨b,0,none⟩),.slice ao' n' cap'] 94 (0,0))) (by kernel_rfl) (by kernel_rfl) (fun k e=>by subst e;exact hB4 _ (hB2 _ hblt)) (fun W hk=>?g4) ?g5
 case g4=>
  have hW:=(hk.block b (hB4 _ (hB2 _ hblt))).trans hb4
  refine ⟨_,store_soft (o:=1) (by kernel_rfl) hW (by simp) rfl rfl,setRow_heap _ _ _ _ _ _ hW,⟨rfl,rfl,rfl,by simp,fun k hk=>setRow_other _ _ _ _ hk.2⟩⟩
 rintro w5 w6 B6 hk5 hb6 hk6 hk46 hB6 hB6s
 refine rk ?_
 have hs4:=hk24.size
 have hs6:=hk46.size
 have hs3:=hk3.size
 refine gR (.tuple #[.int .i64 (str s).size,.nilIface]) (fun W hk=>⟨by rw [str_size],⟨?_,?_,?_⟩⟩)
 · refine ⟨_,ao',n',cap',.inr rfl,(hk.block b (hB6 _ (hB4 _ (hB2 _ hblt)))).trans hb6,?_,hbnew,hnil'⟩
   have:=own_kept0 hown' (W:=W) fun k hk2=>(hk.block k (hB6 k (hb4k k hk2))).trans (hk46.block k ⟨hb4k k hk2,fun e=>hbnew (e ▸ hk2)⟩)
   rw [List.length_append]
   exact this
 · refine ⟨hk.os.trans (hk46.os.trans (hk24.os.trans hk02.os)),hk.tape.trans (hk46.tape.trans (hk24.tape.trans hk02.tape)),hk.output.trans (hk46.output.trans (hk24.output.trans hk02.output)),by have:=hk.size;omega,fun k hk2=>?_⟩
   have hnb:k≠b:=fun e=>hk2.2 (.inl e)
   have hno:¬ (Value.slice ao n cap).ownBlock=some k:=fun e=>hk2.2 ((BuF.at_ hbk).2 (.inr e))
   exact (hk.block k (hB6 _ (hB4 _ (hB2 _ hk2.1)))).trans ((hk46.block k ⟨hB4 _ (hB2 _ hk2.1),hnb⟩).trans ((hk24.block k ⟨hB2 _ hk2.1,hno⟩).trans (hk02.block k ⟨hk2.1,hnb⟩)))
 · intro k hk2
   rcases (BuF.at_ ((hk.block b (hB6 _ (hB4 _ (hB2 _ hblt)))).trans hb6)).1 hk2 with h | h
   · exact .inl (.inl h)
   · rcases hsn k h with h | h
     · exact .inl ((BuF.at_ hbk).2 (.inr h))
     · exact .inr (by omega)
theorem Bu.slice {b:Nat} {l:List UInt8} {w:World} (h:Bu b l w):∃ p ao cap,(p = .pointer none∨p = .pointer (some ⟨b,0,none⟩))∧w.heap[b]?=some (.cells #[p,.slice ao l.length cap] 94 (0,0))∧
  w.ownsRow 0 5 1 (.slice ao l.length cap) l.length (Lib.byteCells l)∧(Value.slice ao l.length cap).ownBlock≠some b∧(l=[]→ao=none):=by
 obtain ⟨p,ao,n,cap,h1,h2,h3,h4,h5⟩:=h
 have:n=l.length:=by
  obtain ⟨_,_,h6⟩:=own_form0 h3
  injection h6
 subst this
 exact ⟨p,ao,cap,h1,h2,h3,h4,h5⟩
open Go.Sy in
set_option maxRecDepth 100000 in
theorem bLen_any (b:Nat) (l:List UInt8) (w:World) (hb:Bu b l w):
  Calls Tryz.prog 55 #[.pointer (some ⟨b,0,none⟩)] w fun e w'=>e = .returned (.int .i64 l.length)∧Below w.heap.size w w':=by
 obtain ⟨p,ao,cap,hp,hbk,hown,hne,hnil⟩:=hb.slice
 have hblt:b<w.heap.size:=(Array.getElem?_eq_some_iff.1 hbk).1
 refine Sy.enter (vs:=[.pointer (some ⟨b,0,none⟩)]) sy_fine Tryz.func55 rfl (fun γ=>norms_LR _) rfl (fun γ0 hγ0=>?_)
 refine rk ?_
 refine gV (.slice ao l.length cap) (S:=Instr.loadAt 90 (.pointer (some ⟨b,1,none⟩))) (fun W hk=>load_cell (o:=0) (j:=1) (by kernel_rfl) (by rw [Lib.cell_of_heap ((hk.block b hblt).trans hbk)];rfl)) ?_
 refine rk ?_
 exact gR (.int .i64 l.length) (fun W hk=>⟨rfl,hk.below⟩)
theorem bString_any (b:Nat) (l:List UInt8) (w:World) (hb:Bu b l w):
  Calls Tryz.prog 56 #[.pointer (some ⟨b,0,none⟩)] w fun e w'=>e = .returned (.string (str l))∧Sy.Keep (fun k=>k<w.heap.size∧¬ BuF b w k) w w':=by
 obtain ⟨p,ao,cap,hp,hbk,hown,hne,hnil⟩:=hb.slice
 have k0:Sy.Keep (fun k=>k<w.heap.size∧¬ BuF b w k) w w.drew:=(Sy.Keep.refl _ w).drew
 by_cases h0:l=[]
 · subst h0
   obtain rfl:=hnil rfl
   refine (string_in (L:={ Tryz.lays105 with }) Tryz.Builder_Extra_105 94 b 0 cap none none p (str []) w w.drew hbk rfl (Lib.run_unsafeString_none w.drew _ _ _ none)).mono ?_
   rintro e w' ⟨rfl,rfl⟩
   exact ⟨rfl,k0⟩
 · have hl0:l.length≠0:=by simpa using h0
   obtain ⟨g,cap',cur,hv,-,hg,hnc,hcm,hcs,htake⟩:∃ g cap' cur,Value.slice ao l.length cap = .slice (some ⟨g,0,none⟩) l.length cap'∧0≤g∧w.heap[g]?=some (.cells cur 5 (0,0))∧l.length≤cap'∧cap'≤maxLen∧cur.size=cap'*1∧cur.toList.take (l.length*1)=Lib.byteCells l:=by
    rcases hown.2 with ⟨_,hz⟩ | ⟨g,cap',cur,hv,r⟩
    · exact absurd hz hl0
    · exact ⟨g,cap',cur,hv,r⟩
   injection hv with e1 _ e3
   subst e1 e3
   refine (string_in (L:={ Tryz.lays105 with }) Tryz.Builder_Extra_105 94 b l.length cap (some ⟨g,0,none⟩) (some ⟨g,0,none⟩) p (str l) w (w.drew.freeze ⟨g,0,none⟩ l.length) hbk (Lib.run_unsafeSliceData_row _ _ _ _ _ _ (by omega)) ?_).mono ?_
   · refine Lib.run_unsafeString_row w.drew _ _ _ 5 (by kernel_rfl) (by kernel_rfl) g cur.size (by have hg':w.drew.heap[g]?=some (.cells cur 5 (0,0)):=hg;simp [World.shape?,hg']) l h0 (by omega) (by unfold maxLen at hcm;omega) ?_
     intro j x hx
     exact hown.cells (g:=g) rfl j (.int .u8 x.toNat) (by simp [Lib.byteCells,hx])
   · rintro e w' ⟨rfl,rfl⟩
     exact ⟨rfl,k0.freeze (p:=⟨g,0,none⟩) (fun h=>h.2 ((BuF.at_ hbk).2 (.inr rfl))) _⟩
structure Ch (b:Nat) (l:List UInt8) (A:Nat→Prop) (win w:World) (B:Nat→Prop):Prop where
 bu:Bu b l w
 bB:∀ k,BuF b w k→B k
 AB:∀ k,A k→B k
 kp:Sy.Keep A win w
 old:∀ k,BuF b w k→BuF b win k∨win.heap.size≤k
 A0:∀ k,A k→k<win.heap.size∧¬ BuF b win k
theorem Ch.disj {b:Nat} {l:List UInt8} {A B:Nat→Prop} {win w:World} (h:Ch b l A win w B) {k:Nat} (hA:A k):¬ BuF b w k:=fun hF=>by
 have:=h.A0 k hA
 rcases h.old k hF with h1 | h1
 · exact this.2 h1
 · omega
def Out (b:Nat) (w:World) (k:Nat):Prop:=k<w.heap.size∧¬ BuF b w k
theorem Bu.at_ {b:Nat} {l:List UInt8} {w W:World} (h:Bu b l w) (hk:∀ k,BuF b w k→W.heap[k]?=w.heap[k]?):Bu b l W∧(∀ k,BuF b W k↔BuF b w k):=by
 obtain ⟨p,ao,cap,h1,h2,h3,h4,h5⟩:=h.slice
 have h6:=(hk b (.inl rfl)).trans h2
 exact ⟨⟨p,ao,_,cap,h1,h6,own_kept0 h3 fun k hk2=>hk k ((BuF.at_ h2).2 (.inr hk2)),h4,h5⟩,fun k=>(BuF.at_ h6).trans (BuF.at_ h2).symm⟩
theorem Bu.lt {b:Nat} {l:List UInt8} {w:World} (h:Bu b l w) {k:Nat} (hk:BuF b w k):k<w.heap.size:=by
 obtain ⟨p,ao,cap,h1,h2,h3,h4,h5⟩:=h.slice
 rcases (BuF.at_ h2).1 hk with rfl | h6
 · exact (Array.getElem?_eq_some_iff.1 h2).1
 · exact own_lt0 h3 h6
theorem Ch.start {b:Nat} {l:List UInt8} {w:World} (h:Bu b l w):Ch b l (Out b w) w w (·<w.heap.size):=
 ⟨h,fun k hk=>h.lt hk,fun k hk=>hk.1,Sy.Keep.refl _ _,fun k hk => .inl hk,fun k hk=>hk⟩
theorem Ch.seen {b:Nat} {l:List UInt8} {A B:Nat→Prop} {win w W:World} (h:Ch b l A win w B) (hk:Sy.Keep B w W):Bu b l W∧(∀ k,BuF b W k↔BuF b w k):=
 h.bu.at_ fun k hF=>hk.block k (h.bB k hF)
theorem Ch.keep {b:Nat} {l:List UInt8} {A B:Nat→Prop} {win w W:World} (h:Ch b l A win w B) (hk:Sy.Keep B w W):Sy.Keep A win W:=h.kp.trans (hk.mono h.AB)
theorem Ch.fin {b:Nat} {l:List UInt8} {B:Nat→Prop} {win w W:World} (h:Ch b l (Out b win) win w B) (hk:Sy.Keep B w W):WrR b l win W:=
 ⟨(h.seen hk).1,h.keep hk,fun k hF=>h.old k (((h.seen hk).2 k).1 hF)⟩
section
open Go.Sy
variable {P:Program} {I:Aux} {B:Nat→Prop} {w0:World} {γ0:Gm} {nt:Nat} {Q:Exit→Act→World→Prop} {g:Cfg}
theorem good_wr (cx:Cx P I B w0) {f:FuncId} (xs:List Value) (b:Nat) (t:List UInt8) (r0:Value) {l:List UInt8} {A:Nat→Prop} {win:World} (hch:Ch b l A win w0 B) (h:hdCall P nt g=some (f,xs.map norm)) (hbod:bodied P f=some true) (hx:closeLL (xs.map norm)=some xs)
  (hown:trAll blkOwned g.s.h=true)
  (hc:∀ w,Keep B w0 w→Bu b l w→(∀ k,A k→Out b w k)→Calls P f xs.toArray w fun e w'=>e = .returned r0∧WrR b (l++t) w w')
  (hg:∀ w' B',Ch b (l++t) A win w' B'→(∀ k,B k→B' k)→Keep (fun k=>B k∧¬ BuF b w0 k) w0 w'→Sy.Good P B' w' γ0 nt Q (nx0 g (norm r0))):Sy.Good P B w0 γ0 nt Q g:=by
 refine good_callW cx xs (BuF b w0) (Pr:=fun w r w'=>r=r0∧WrR b (l++t) w w') h hbod hx hown hch.bB (fun w hk=>?_) ?_
 · obtain ⟨h1,h2⟩:=hch.seen hk
   refine (hc w hk h1 (fun k hA=>?_)).mono fun e w' ⟨e1,e2⟩=>⟨r0,e1,⟨rfl,e2⟩,e2.kp.mono fun k hk2=>⟨hk2.1,fun hF=>hk2.2 ((h2 k).1 hF)⟩⟩
   exact ⟨Nat.lt_of_lt_of_le (hch.A0 k hA).1 (hch.keep hk).size,fun hF=>hch.disj hA ((h2 k).1 hF)⟩
 · rintro w r w' B' hk ⟨rfl,hR⟩ h1 h2 h3 h4 h5
   refine hg w' B' ⟨hR.bu,fun k hF=>?_,fun k hA=>h3 k (hch.AB k hA),?_,fun k hF=>?_,hch.A0⟩ h3 h2
   · rcases hR.old k hF with h | h
     · exact h3 k (hch.bB k (((hch.seen hk).2 k).1 h))
     · exact h4 k h (hR.bu.lt hF)
   · exact hch.kp.trans (h2.mono fun k hA=>⟨hch.AB k hA,hch.disj hA⟩)
   · rcases hR.old k hF with h | h
     · exact hch.old k (((hch.seen hk).2 k).1 h)
     · exact .inr (Nat.le_trans (Nat.le_trans hch.kp.size hk.size) h)
end
end
end Go.Proofs.YtiacalnkmnckjaaGreatDoor
section
namespace Go.Proofs.YtiacalnkmnckjaaGreatDoor
open Go.RowKit Go.As Go.Sy
section
variable {B:Nat→Prop} {w0:World} {γ0:Gm} {nt:Nat} {Q:Exit→Act→World→Prop} {g:Cfg}
theorem gH {f:FuncId} (xs:List Value) (b:Nat) (t:List UInt8) (r0:Value) {l:List UInt8} {A:Nat→Prop} {win:World} (hch:Ch b l A win w0 B)
  (hc:∀ w,Keep B w0 w→Bu b l w→(∀ k,A k→Out b w k)→Calls Tryz.prog f xs.toArray w fun e w'=>e = .returned r0∧WrR b (l++t) w w')
  (hg:∀ w' B',Ch b (l++t) A win w' B'→(∀ k,B k→B' k)→Keep (fun k=>B k∧¬ BuF b w0 k) w0 w'→Sy.Good Tryz.prog B' w' γ0 nt Q (nx0 g (norm r0)))
  (h:hdCall Tryz.prog nt g=some (f,xs.map norm):=by kernel_rfl) (hbod:bodied Tryz.prog f=some true:=by kernel_rfl) (hx:closeLL (xs.map norm)=some xs:=by kernel_rfl) (hown:trAll blkOwned g.s.h=true:=by kernel_rfl):Sy.Good Tryz.prog B w0 γ0 nt Q g:=
 good_wr (sy_cx _ _) xs b t r0 hch h hbod hx hown hc hg
theorem gw (b:Nat) (t:List UInt8) {l:List UInt8} {A:Nat→Prop} {win:World} (hch:Ch b l A win w0 B) (hl:l.length+t.length≤140737488355328)
  (hg:∀ w' B',Ch b (l++t) A win w' B'→(∀ k,B k→B' k)→Keep (fun k=>B k∧¬ BuF b w0 k) w0 w'→Sy.Good Tryz.prog B' w' γ0 nt Q (nx0 g (norm (.tuple #[.int .i64 (t.length:Int),.nilIface]))))
  (h:hdCall Tryz.prog nt g=some (53,[norm (.pointer (some ⟨b,0,none⟩)),norm (.string (str t))]):=by kernel_rfl) (hx:closeLL ([norm (.pointer (some ⟨b,0,none⟩)),norm (.string (str t))])=some [.pointer (some ⟨b,0,none⟩),.string (str t)]:=by kernel_rfl) (hown:trAll blkOwned g.s.h=true:=by kernel_rfl):Sy.Good Tryz.prog B w0 γ0 nt Q g:=
 good_wr (sy_cx _ _) [.pointer (some ⟨b,0,none⟩),.string (str t)] b t (.tuple #[.int .i64 (t.length:Int),.nilIface]) hch h (by kernel_rfl) hx hown (fun W hk hbu hA=>writeString_any b l t W hbu hl) hg
end
end Go.Proofs.YtiacalnkmnckjaaGreatDoor
end
namespace Go.Proofs.YtiacalnkmnckjaaGreatDoor
open Go.RowKit Go.As
section
theorem Tab.out {b:Nat} {l:List UInt8} {w w':World} (h:Tab w) (hb:Bu b l w) (hk:Sy.Keep (Out b w) w w'):Tab w':=by
 unfold Tab Lib.TabIs World.var? at *
 cases hg:Tryz.prog.globalNamed "internal/strconv.uint64pow10" with
 | none=>simp [hg] at h
 | some g=>
   simp only [hg,Option.bind_some] at h ⊢
   have hlt:g<w.heap.size:=by
    rcases Nat.lt_or_ge g w.heap.size with h' | h'
    · exact h'
    · rw [Array.getElem?_eq_none h'] at h;simp at h
   have hno:¬ BuF b w g:=fun hF=>by
    obtain ⟨p,ao,cap,h1,h2,h3,h4,h5⟩:=hb.slice
    rcases (BuF.at_ h2).1 hF with rfl | h6
    · rw [h2] at h
      simp only [Option.some.injEq] at h
      have:=congrArg Array.size h
      simp [Lib.pow10Tab] at this
    · by_cases hl:l=[]
      · rw [h5 hl] at h6;simp [Value.ownBlock] at h6
      · rcases h3.2 with ⟨h7,_⟩ | ⟨g',cap',cur,h7,_,h8,_,_,_,h9⟩
        · rw [h7] at h6;simp [Value.ownBlock] at h6
        · injection h7 with e1
          subst e1
          simp only [Value.ownBlock,Option.some.injEq] at h6
          subst h6
          rw [h8] at h
          simp only [Option.some.injEq] at h
          subst h
          cases l with
          | nil=>exact hl rfl
          | cons x l=>
            have:=congrArg (fun z=>z[0]?) h9
            simp [Lib.byteCells,Lib.pow10Tab,List.getElem?_take] at this
   rw [hk.block g ⟨hlt,hno⟩]
   exact h
theorem exT_one {kids:List Ex} {ks:List (List UInt8)} {t:List UInt8} {f:List UInt8→List UInt8} (hks:exTs kids=some ks) (h:(match (generalizing:=false) ks with | [a]=>some (f a) | _=>none)=some t):∃ x tx,kids=[x]∧exT x=some tx∧t=f tx:=by
 have hl:=exTs_len hks
 match ks,hks,h,hl with
 | [ta],hks,h,hl=>
   injection h with h
   match kids,hks,hl with
   | [x],hks,_=>
     simp only [exTs] at hks
     split at hks
     · cases hks
     rename_i tx htx
     injection hks with hks
     injection hks with hks
     subst hks
     exact ⟨x,tx,rfl,htx,h.symm⟩
theorem exT_two {kids:List Ex} {ks:List (List UInt8)} {t:List UInt8} {f:List UInt8→List UInt8→List UInt8} (hks:exTs kids=some ks) (h:(match (generalizing:=false) ks with | [a,b]=>some (f a b) | _=>none)=some t):∃ x y tx ty,kids=[x,y]∧exT x=some tx∧exT y=some ty∧t=f tx ty:=by
 have hl:=exTs_len hks
 match ks,hks,h,hl with
 | [ta,tb],hks,h,hl=>
   injection h with h
   match kids,hks,hl with
   | [x,y],hks,_=>
     simp only [exTs] at hks
     split at hks
     · cases hks
     rename_i tx htx
     split at hks
     · cases hks
     rename_i ts hts
     split at hts
     · cases hts
     rename_i ty' hty
     injection hts with hts
     injection hks with hks
     subst hts
     injection hks with e1 e2
     injection e2 with e2 _
     subst e1 e2
     exact ⟨x,y,_,_,rfl,htx,hty,h.symm⟩
theorem exT_inv {op ty bits:Int} {name t:List UInt8} {kids:List Ex} (h:exT (.mk op ty bits name kids)=some t):
  (op=1∧kids=[]∧litT ty bits=some t)∨(op=2∧kids=[]∧t=name)∨
  (op=18∧∃ x tx,kids=[x]∧exT x=some tx∧t=[105,110,116,40]++(tx++[41]))∨(op=19∧∃ x tx,kids=[x]∧exT x=some tx∧t=[114,101,97,108,40]++(tx++[41]))∨
  (op=16∧∃ x tx,kids=[x]∧exT x=some tx∧t=[45]++tx)∨(op=17∧∃ x tx,kids=[x]∧exT x=some tx∧t=[33]++tx)∨
  ((3≤op∧op≤15)∧∃ x y tx ty',kids=[x,y]∧exT x=some tx∧exT y=some ty'∧t=[40]++(tx++(([32]++psignT op++[32])++(ty'++[41])))):=by
 simp only [exT] at h
 split at h
 · cases h
 split at h
 · cases h
 rename_i ks hks
 have hl:=exTs_len hks
 by_cases c1:op=1
 · rw [if_pos c1] at h
   cases ks with
   | nil=>exact .inl ⟨c1,List.eq_nil_of_length_eq_zero hl.symm,h⟩
   | cons _ _=>cases h
 rw [if_neg c1] at h
 by_cases c2:op=2
 · rw [if_pos c2] at h
   cases ks with
   | nil=>
     simp only at h
     split at h
     · injection h with h
       exact .inr (.inl ⟨c2,List.eq_nil_of_length_eq_zero hl.symm,h.symm⟩)
     · cases h
   | cons _ _=>cases h
 rw [if_neg c2] at h
 by_cases c3:3≤op∧op≤15
 · rw [if_pos c3] at h
   obtain ⟨x,y,tx,ty',e1,e2,e3,e4⟩:=exT_two (f:=fun a b=>40::(a++(32::(signT op++(32::(b++[41])))))) hks h
   refine .inr (.inr (.inr (.inr (.inr (.inr ⟨c3,x,y,tx,ty',e1,e2,e3,?_⟩)))))
   rw [e4]
   have:psignT op=signT op:=by unfold psignT;rw [if_neg (by omega),if_neg (by omega)]
   rw [this]
   simp
 rw [if_neg c3] at h
 by_cases c4:op=16
 · rw [if_pos c4] at h
   exact .inr (.inr (.inr (.inr (.inl ⟨c4,exT_one (f:=fun a=>[45]++a) hks h⟩))))
 rw [if_neg c4] at h
 by_cases c5:op=17
 · rw [if_pos c5] at h
   exact .inr (.inr (.inr (.inr (.inr (.inl ⟨c5,exT_one (f:=fun a=>[33]++a) hks h⟩)))))
 rw [if_neg c5] at h
 by_cases c6:op=18
 · rw [if_pos c6] at h
   exact .inr (.inr (.inl ⟨c6,exT_one (f:=fun a=>[105,110,116,40]++(a++[41])) hks h⟩))
 rw [if_neg c6] at h
 by_cases c7:op=19
 · rw [if_pos c7] at h
   exact .inr (.inr (.inr (.inl ⟨c7,exT_one (f:=fun a=>[114,101,97,108,40]++(a++[41])) hks h⟩)))
 rw [if_neg c7] at h
 cases h
end
section
set_option maxRecDepth 100000
def tyK (op:Int):List Int→Int
 | [a]=>if a=0 then 0 else resT op a 0
 | [a,b]=>if a=0 then 0 else if b=0 then 0 else resT op a b
 | _=>0
mutual
def tyO (th:Thg):Ex→Int
 | .mk op ty _ name kids=>if op=1 then ty else if op=2 then (thOf th name).2 else tyK op (tyOs th kids)
def tyOs (th:Thg):List Ex→List Int
 | []=>[]
 | e::l=>tyO th e::tyOs th l
end
theorem tyO_kids {th:Thg} {op ty bits:Int} {name:List UInt8} {kids:List Ex} (c1:¬ op=1) (c2:¬ op=2):tyO th (.mk op ty bits name kids)=tyK op (tyOs th kids):=by
 rw [tyO,if_neg c1,if_neg c2]
open Go.Sy
theorem cnone0_any (k0 k1:Int) (w:World):CB 177 #[.agg #[.int .u8 k0,.int .u8 k1],nI 0] w (.bool (intEq k0 0)):=by
 refine eN [.agg #[.int .u8 k0,.int .u8 k1],nI 0] Tryz.func177 (fun γ0 hγ0=>?_)
 refine rs [] 60 5 ?_
 exact gR (.bool (intEq k0 0)) (fun W hk=>⟨rfl,hk.below⟩)
theorem cnone1_any (k0 k1:Int) (w:World):CB 177 #[.agg #[.int .u8 k0,.int .u8 k1],nI 1] w (.bool (intEq k1 0)):=by
 refine eN [.agg #[.int .u8 k0,.int .u8 k1],nI 1] Tryz.func177 (fun γ0 hγ0=>?_)
 refine rs [] 60 5 ?_
 exact gR (.bool (intEq k1 0)) (fun W hk=>⟨rfl,hk.below⟩)
theorem ctype_lit (km:Nat) (ty bits:Int) (name:List UInt8) (a:Option Addr) (cap:Nat) (w:World):CB 109 #[.map (some km),xV 1 ty bits name a 0 cap] w (.int .u8 (ty)):=by
 refine eN [.map (some km),xV 1 ty bits name a 0 cap] Tryz.func109 (fun γ0 hγ0=>?_)
 refine rk ?_
 refine good_toLp ?_
 refine good_loop (by kernel_rfl) ?_
 refine rs [] 60 9 ?_
 exact gR (.int .u8 ty) (fun W hk=>⟨rfl,hk.below⟩)
theorem ctype_name (km:Nat) (th:Thg) (ty bits:Int) (name:List UInt8) (a:Option Addr) (cap:Nat) (w:World) (hm:ThgAt (·<w.heap.size) w km th):CB 109 #[.map (some km),xV 2 ty bits name a 0 cap] w (.int .u8 ((thOf th name).2)):=by
 refine eN [.map (some km),xV 2 ty bits name a 0 cap] Tryz.func109 (fun γ0 hγ0=>?_)
 refine rk ?_
 refine good_toLp ?_
 refine good_loop (by kernel_rfl) ?_
 refine rs [39] 60 9 ?_
 refine gV (.agg #[nI (thOf th name).1,.int .u8 (thOf th name).2]) (S:=Instr.lookup 146 (.map (some km)) (nT name) false) (fun W hk=>thg_look hm name hk) ?_
 refine rs [] 60 3 ?_
 exact gR (.int .u8 (thOf th name).2) (fun W hk=>⟨rfl,hk.below⟩)
theorem ctype_1 (km:Nat) (th:Thg) (N:Nat) (ihN:∀ (e:Ex) (cs:List Value) (w:World) (t:List UInt8),wgt e≤N→exT e=some t→ThgAt (·<w.heap.size) w km th→ExAt (·<w.heap.size) w e cs→
  CB 109 #[.map (some km),.agg cs.toArray] w (.int .u8 (tyO th e)))
  (op ty bits:Int) (name:List UInt8) (op1 ty1 bits1:Int) (name1:List UInt8) (kids1:List Ex) (t1:List UInt8) (ht1:exT (Ex.mk op1 ty1 bits1 name1 kids1)=some t1) (hw1:wgt (Ex.mk op1 ty1 bits1 name1 kids1)≤N) (a:Option Addr) (cap:Nat) (xs:List Value) (w:World) (hop:3≤op∧op≤19) (hm:ThgAt (·<w.heap.size) w km th)
  (hsl:SlAt (·<w.heap.size) w a 1 5 xs) (hks:ExsAt (·<w.heap.size) w [(Ex.mk op1 ty1 bits1 name1 kids1)] xs):
  CB 109 #[.map (some km),xV op ty bits name a 1 cap] w (.int .u8 (tyO th (.mk op ty bits name [(Ex.mk op1 ty1 bits1 name1 kids1)]))):=by
 have c1:¬ op=1:=by omega
 have c2:¬ op=2:=by omega
 refine eN [.map (some km),xV op ty bits name a 1 cap] Tryz.func109 (fun γ0 hγ0=>?_)
 refine rk ?_
 refine good_toLp ?_
 obtain ⟨c1,hc1,hcell1⟩:=ExsAt.at_ (l1:=([]:List Ex)) (e:=(Ex.mk op1 ty1 bits1 name1 kids1)) (l3:=[]) hks
 have hcl1:=hc1.len
 have hc10:=hc1
 simp only [ExAt] at hc10
 obtain ⟨a1,cap1,xs1,rfl,_⟩:=hc10
 refine good_loop (by kernel_rfl) ?_
 refine rs [] 60 1 ?_
 refine gI 32 34 cap (([]:List Ex).length) hsl (show ([]:List Ex).length<1 by simp) ?_
 refine rk ?_
 refine gV (xV op1 ty1 bits1 name1 a1 kids1.length cap1) (S:=Instr.loadAt 34 (.pointer (some ⟨gB a,oB a+([]:List Ex).length*5+0,none⟩))) (fun W hk=>load_slA (P:=Tryz.prog) (ty:=34) (m:=5) (cs:=(xL op1 ty1 bits1 name1 a1 kids1.length cap1)) hsl (by kernel_rfl) (by kernel_rfl) (([]:List Ex).length) 0 hcl1 hcell1 (W:=W) hk) ?_
 refine rs [] 60 1 ?_
 refine gX [.map (some km),xV op1 ty1 bits1 name1 a1 kids1.length cap1] (.int .u8 (tyO th (Ex.mk op1 ty1 bits1 name1 kids1))) (fun W hk=>ihN (Ex.mk op1 ty1 bits1 name1 kids1) _ W t1 (by omega) ht1 (hm.keep hk (kU hk)) (hc1.keep hk (kU hk))) ?_
 refine rk ?_
 refine gX [.agg #[.int .u8 (tyO th (Ex.mk op1 ty1 bits1 name1 kids1)),.int .u8 (0)],nI 0] (.bool (intEq (tyO th (Ex.mk op1 ty1 bits1 name1 kids1)) 0)) (fun W hk=>cnone0_any _ _ W) ?_
 refine rk ?_
 by_cases z1:tyO th (Ex.mk op1 ty1 bits1 name1 kids1)=0
 ·
  refine kz (tyO th (Ex.mk op1 ty1 bits1 name1 kids1)) 0 z1 ?_
  refine rs [] 60 3 ?_
  exact gR (.int .u8 0) (fun W hk=>⟨by rw [tyO_kids c1 c2];show _=Ending.returned (.int .u8 (tyK op [tyO th (Ex.mk op1 ty1 bits1 name1 kids1)]));simp only [tyK];rw [if_pos z1],hk.below⟩)
 refine kw (tyO th (Ex.mk op1 ty1 bits1 name1 kids1)) 0 z1 ?_
 refine rk ?_
 refine good_loop (by kernel_rfl) ?_
 refine rs [] 60 1 ?_
 refine kw op 1 c1 ?_
 refine rk ?_
 refine kw op 2 c2 ?_
 refine rk ?_
 refine gX [.int .u8 op,.int .u8 (tyO th (Ex.mk op1 ty1 bits1 name1 kids1)),.int .u8 (0)] (.int .u8 (resT op (tyO th (Ex.mk op1 ty1 bits1 name1 kids1)) (0))) (fun W hk=>cresult_any _ _ _ W hop) ?_
 refine rs [] 60 3 ?_
 exact gR (.int .u8 (resT op (tyO th (Ex.mk op1 ty1 bits1 name1 kids1)) (0))) (fun W hk=>⟨by rw [tyO_kids c1 c2];show _=Ending.returned (.int .u8 (tyK op [tyO th (Ex.mk op1 ty1 bits1 name1 kids1)]));simp only [tyK];rw [if_neg z1],hk.below⟩)
theorem ctype_2 (km:Nat) (th:Thg) (N:Nat) (ihN:∀ (e:Ex) (cs:List Value) (w:World) (t:List UInt8),wgt e≤N→exT e=some t→ThgAt (·<w.heap.size) w km th→ExAt (·<w.heap.size) w e cs→
  CB 109 #[.map (some km),.agg cs.toArray] w (.int .u8 (tyO th e)))
  (op ty bits:Int) (name:List UInt8) (op1 ty1 bits1:Int) (name1:List UInt8) (kids1:List Ex) (t1:List UInt8) (ht1:exT (Ex.mk op1 ty1 bits1 name1 kids1)=some t1) (hw1:wgt (Ex.mk op1 ty1 bits1 name1 kids1)≤N) (op2 ty2 bits2:Int) (name2:List UInt8) (kids2:List Ex) (t2:List UInt8) (ht2:exT (Ex.mk op2 ty2 bits2 name2 kids2)=some t2) (hw2:wgt (Ex.mk op2 ty2 bits2 name2 kids2)≤N) (a:Option Addr) (cap:Nat) (xs:List Value) (w:World) (hop:3≤op∧op≤19) (hm:ThgAt (·<w.heap.size) w km th)
  (hsl:SlAt (·<w.heap.size) w a 2 5 xs) (hks:ExsAt (·<w.heap.size) w [(Ex.mk op1 ty1 bits1 name1 kids1),(Ex.mk op2 ty2 bits2 name2 kids2)] xs):
  CB 109 #[.map (some km),xV op ty bits name a 2 cap] w (.int .u8 (tyO th (.mk op ty bits name [(Ex.mk op1 ty1 bits1 name1 kids1),(Ex.mk op2 ty2 bits2 name2 kids2)]))):=by
 have c1:¬ op=1:=by omega
 have c2:¬ op=2:=by omega
 refine eN [.map (some km),xV op ty bits name a 2 cap] Tryz.func109 (fun γ0 hγ0=>?_)
 refine rk ?_
 refine good_toLp ?_
 obtain ⟨c1,hc1,hcell1⟩:=ExsAt.at_ (l1:=([]:List Ex)) (e:=(Ex.mk op1 ty1 bits1 name1 kids1)) (l3:=[(Ex.mk op2 ty2 bits2 name2 kids2)]) hks
 have hcl1:=hc1.len
 have hc10:=hc1
 simp only [ExAt] at hc10
 obtain ⟨a1,cap1,xs1,rfl,_⟩:=hc10
 refine good_loop (by kernel_rfl) ?_
 refine rs [] 60 1 ?_
 refine gI 32 34 cap (([]:List Ex).length) hsl (show ([]:List Ex).length<2 by simp) ?_
 refine rk ?_
 refine gV (xV op1 ty1 bits1 name1 a1 kids1.length cap1) (S:=Instr.loadAt 34 (.pointer (some ⟨gB a,oB a+([]:List Ex).length*5+0,none⟩))) (fun W hk=>load_slA (P:=Tryz.prog) (ty:=34) (m:=5) (cs:=(xL op1 ty1 bits1 name1 a1 kids1.length cap1)) hsl (by kernel_rfl) (by kernel_rfl) (([]:List Ex).length) 0 hcl1 hcell1 (W:=W) hk) ?_
 refine rs [] 60 1 ?_
 refine gX [.map (some km),xV op1 ty1 bits1 name1 a1 kids1.length cap1] (.int .u8 (tyO th (Ex.mk op1 ty1 bits1 name1 kids1))) (fun W hk=>ihN (Ex.mk op1 ty1 bits1 name1 kids1) _ W t1 (by omega) ht1 (hm.keep hk (kU hk)) (hc1.keep hk (kU hk))) ?_
 refine rk ?_
 refine gX [.agg #[.int .u8 (tyO th (Ex.mk op1 ty1 bits1 name1 kids1)),.int .u8 (0)],nI 0] (.bool (intEq (tyO th (Ex.mk op1 ty1 bits1 name1 kids1)) 0)) (fun W hk=>cnone0_any _ _ W) ?_
 refine rk ?_
 by_cases z1:tyO th (Ex.mk op1 ty1 bits1 name1 kids1)=0
 ·
  refine kz (tyO th (Ex.mk op1 ty1 bits1 name1 kids1)) 0 z1 ?_
  refine rs [] 60 3 ?_
  exact gR (.int .u8 0) (fun W hk=>⟨by rw [tyO_kids c1 c2];show _=Ending.returned (.int .u8 (tyK op [tyO th (Ex.mk op1 ty1 bits1 name1 kids1),tyO th (Ex.mk op2 ty2 bits2 name2 kids2)]));simp only [tyK];rw [if_pos z1],hk.below⟩)
 refine kw (tyO th (Ex.mk op1 ty1 bits1 name1 kids1)) 0 z1 ?_
 refine rk ?_
 obtain ⟨c2,hc2,hcell2⟩:=ExsAt.at_ (l1:=[(Ex.mk op1 ty1 bits1 name1 kids1)]) (e:=(Ex.mk op2 ty2 bits2 name2 kids2)) (l3:=[]) hks
 have hcl2:=hc2.len
 have hc20:=hc2
 simp only [ExAt] at hc20
 obtain ⟨a2,cap2,xs2,rfl,_⟩:=hc20
 refine good_loop (by kernel_rfl) ?_
 refine rs [] 60 1 ?_
 refine gI 32 34 cap (([(Ex.mk op1 ty1 bits1 name1 kids1)]:List Ex).length) hsl (show ([(Ex.mk op1 ty1 bits1 name1 kids1)]:List Ex).length<2 by simp) ?_
 refine rk ?_
 refine gV (xV op2 ty2 bits2 name2 a2 kids2.length cap2) (S:=Instr.loadAt 34 (.pointer (some ⟨gB a,oB a+([(Ex.mk op1 ty1 bits1 name1 kids1)]:List Ex).length*5+0,none⟩))) (fun W hk=>load_slA (P:=Tryz.prog) (ty:=34) (m:=5) (cs:=(xL op2 ty2 bits2 name2 a2 kids2.length cap2)) hsl (by kernel_rfl) (by kernel_rfl) (([(Ex.mk op1 ty1 bits1 name1 kids1)]:List Ex).length) 0 hcl2 hcell2 (W:=W) hk) ?_
 refine rs [] 60 1 ?_
 refine gX [.map (some km),xV op2 ty2 bits2 name2 a2 kids2.length cap2] (.int .u8 (tyO th (Ex.mk op2 ty2 bits2 name2 kids2))) (fun W hk=>ihN (Ex.mk op2 ty2 bits2 name2 kids2) _ W t2 (by omega) ht2 (hm.keep hk (kU hk)) (hc2.keep hk (kU hk))) ?_
 refine rk ?_
 refine gX [.agg #[.int .u8 (tyO th (Ex.mk op1 ty1 bits1 name1 kids1)),.int .u8 (tyO th (Ex.mk op2 ty2 bits2 name2 kids2))],nI 1] (.bool (intEq (tyO th (Ex.mk op2 ty2 bits2 name2 kids2)) 0)) (fun W hk=>cnone1_any _ _ W) ?_
 refine rk ?_
 by_cases z2:tyO th (Ex.mk op2 ty2 bits2 name2 kids2)=0
 ·
  refine kz (tyO th (Ex.mk op2 ty2 bits2 name2 kids2)) 0 z2 ?_
  refine rs [] 60 3 ?_
  exact gR (.int .u8 0) (fun W hk=>⟨by rw [tyO_kids c1 c2];show _=Ending.returned (.int .u8 (tyK op [tyO th (Ex.mk op1 ty1 bits1 name1 kids1),tyO th (Ex.mk op2 ty2 bits2 name2 kids2)]));simp only [tyK];rw [if_neg z1,if_pos z2],hk.below⟩)
 refine kw (tyO th (Ex.mk op2 ty2 bits2 name2 kids2)) 0 z2 ?_
 refine rk ?_
 refine good_loop (by kernel_rfl) ?_
 refine rs [] 60 1 ?_
 refine kw op 1 c1 ?_
 refine rk ?_
 refine kw op 2 c2 ?_
 refine rk ?_
 refine gX [.int .u8 op,.int .u8 (tyO th (Ex.mk op1 ty1 bits1 name1 kids1)),.int .u8 (tyO th (Ex.mk op2 ty2 bits2 name2 kids2))] (.int .u8 (resT op (tyO th (Ex.mk op1 ty1 bits1 name1 kids1)) (tyO th (Ex.mk op2 ty2 bits2 name2 kids2)))) (fun W hk=>cresult_any _ _ _ W hop) ?_
 refine rs [] 60 3 ?_
 exact gR (.int .u8 (resT op (tyO th (Ex.mk op1 ty1 bits1 name1 kids1)) (tyO th (Ex.mk op2 ty2 bits2 name2 kids2)))) (fun W hk=>⟨by rw [tyO_kids c1 c2];show _=Ending.returned (.int .u8 (tyK op [tyO th (Ex.mk op1 ty1 bits1 name1 kids1),tyO th (Ex.mk op2 ty2 bits2 name2 kids2)]));simp only [tyK];rw [if_neg z1,if_neg z2],hk.below⟩)
theorem ctype_any (km:Nat) (th:Thg):∀ (N:Nat),∀ (e:Ex) (cs:List Value) (w:World) (t:List UInt8),wgt e≤N→exT e=some t→ThgAt (·<w.heap.size) w km th→ExAt (·<w.heap.size) w e cs→
  CB 109 #[.map (some km),.agg cs.toArray] w (.int .u8 (tyO th e)):=by
 intro N
 induction N with
 | zero=>intro e cs w t h;have:=wgt_pos e;omega
 | succ N ihN=>
   intro e cs w t hN ht hm hat
   obtain ⟨op,ty,bits,name,kids⟩:=e
   simp only [ExAt] at hat
   obtain ⟨a,cap,xs,rfl,hsl,hks⟩:=hat
   simp only [wgt] at hN
   have one:∀ (x:Ex) (tx:List UInt8),3≤op∧op≤19→kids=[x]→exT x=some tx→CB 109 #[.map (some km),.agg [.int .u8 op,.int .u8 ty,.int .u64 bits,.string (str name),.slice a kids.length cap].toArray] w (.int .u8 (tyO th (.mk op ty bits name kids))):=fun x tx hop hk hx=>by
    subst hk
    obtain ⟨op1,ty1,bits1,name1,kids1⟩:=x
    simp only [wgts] at hN
    exact ctype_1 km th N ihN op ty bits name op1 ty1 bits1 name1 kids1 tx hx (by omega) a cap xs w hop hm hsl hks
   rcases exT_inv ht with ⟨h1,h2,h3⟩ | ⟨h1,h2,h3⟩ | ⟨h1,x,tx,h2,h3,h4⟩ | ⟨h1,x,tx,h2,h3,h4⟩ | ⟨h1,x,tx,h2,h3,h4⟩ | ⟨h1,x,tx,h2,h3,h4⟩ | ⟨h1,x,y,tx,tY,h2,h3,h4,h5⟩
   · subst h1 h2
     exact ctype_lit km ty bits name a cap w
   · subst h1 h2
     exact ctype_name km th ty bits name a cap w hm
   · exact one x tx (by omega) h2 h3
   · exact one x tx (by omega) h2 h3
   · exact one x tx (by omega) h2 h3
   · exact one x tx (by omega) h2 h3
   · subst h2
     obtain ⟨op1,ty1,bits1,name1,kids1⟩:=x
     obtain ⟨op2,ty2,bits2,name2,kids2⟩:=y
     simp only [wgts] at hN
     exact ctype_2 km th N ihN op ty bits name op1 ty1 bits1 name1 kids1 tx h3 (by omega) op2 ty2 bits2 name2 kids2 tY h4 (by omega) a cap xs w (by omega) hm hsl hks
end
section
set_option maxRecDepth 100000
def valB (k:Int):Bool:=Sy.intEq k 1 || (Sy.intEq k 4 || (Sy.intEq k 5 || Sy.intEq k 6))
def msT (th:Thg) (kind:Int) (name:List UInt8) (e:Ex):Int:=if kind=2∨kind=3 then (if (thOf th name).1=3 then 0 else 6) else if kind=1∧isVar (thOf th name).1=false then 6 else if valB kind=true∧unk th e=true then 6 else 0
def tyS (th:Thg) (kind:Int) (name:List UInt8) (e:Ex):Int:=if valB kind=false then 0 else if tyO th e=(if kind=1 then (thOf th name).2 else 2) then 0 else 9
def atS (th:Thg) (kind:Int) (name:List UInt8) (e:Ex):Int:=if 1<tch th e+(if kind=1∧(thOf th name).1=1 then 1 else 0) then 170 else 0
open Go.Sy
theorem cvalued_any (uK:Int) (us:List UInt8) (uo ut uv:Int) (un:List UInt8) (uk:List Ex) (uB uL:List St) (uj ui uf:Option Addr) (uh uw ug:Nat) (w:World):
  CB 173 #[yV uK us uo ut uv un uf uk.length ug uj uB.length uh ui uL.length uw] w (.bool (valB uK)):=by
 refine eN [yV uK us uo ut uv un uf uk.length ug uj uB.length uh ui uL.length uw] Tryz.func173 (fun γ0 hγ0=>?_)
 refine rs [6] 60 0 ?_
 by_cases h1:uK=1
 ·
  refine gT 5 uK 1 h1 ?_
  refine rs [] 60 3 ?_
  exact gR (.bool true) (fun W hk=>⟨by unfold valB;rw [eq_t h1];rfl,hk.below⟩)
 refine gF 5 uK 1 h1 ?_
 refine rs [10] 60 3 ?_
 by_cases h4:uK=4
 ·
  refine gT 9 uK 4 h4 ?_
  refine rs [] 60 3 ?_
  exact gR (.bool true) (fun W hk=>⟨by unfold valB;rw [eq_f h1,eq_t h4];rfl,hk.below⟩)
 refine gF 9 uK 4 h4 ?_
 refine rs [15] 60 3 ?_
 by_cases h5:uK=5
 ·
  refine gT 14 uK 5 h5 ?_
  refine rs [] 60 3 ?_
  exact gR (.bool true) (fun W hk=>⟨by unfold valB;rw [eq_f h1,eq_f h4,eq_t h5];rfl,hk.below⟩)
 refine gF 14 uK 5 h5 ?_
 refine rs [] 60 3 ?_
 exact gR (.bool (intEq uK 6)) (fun W hk=>⟨by unfold valB;rw [eq_f h1,eq_f h4,eq_f h5];rfl,hk.below⟩)
theorem cmissing_any (km:Nat) (th:Thg) (uK:Int) (us:List UInt8) (uo ut uv:Int) (un:List UInt8) (uk:List Ex) (uB uL:List St) (uj ui uf:Option Addr) (uh uw ug:Nat) (w:World) (hbd:wgt (Ex.mk uo ut uv un uk)≤1099511627776) (hm:ThgAt (·<w.heap.size) w km th) (uhe:ExAt (·<w.heap.size) w (Ex.mk uo ut uv un uk) (xL uo ut uv un uf uk.length ug)):
  CB 99 #[.map (some km),yV uK us uo ut uv un uf uk.length ug uj uB.length uh ui uL.length uw] w (nI (msT th uK us (Ex.mk uo ut uv un uk))):=by
 refine eN [.map (some km),yV uK us uo ut uv un uf uk.length ug uj uB.length uh ui uL.length uw] Tryz.func99 (fun γ0 hγ0=>?_)
 refine rs [9] 60 0 ?_
 by_cases k2:uK=2
 ·
  have hlk:uK=2∨uK=3 := .inl k2
  refine gT 8 uK 2 k2 ?_
  refine rs [17] 60 3 ?_
  refine gV (.agg #[nI (thOf th us).1,.int .u8 (thOf th us).2]) (S:=Instr.lookup 146 (.map (some km)) (nT us) false) (fun W hk=>thg_look hm us hk) ?_
  refine rk ?_
  by_cases h3:(thOf th us).1=3
  ·
   refine gK false (b:=!(intEq (thOf th us).1 3)) (by rw [eq_t h3];rfl) ?_
   refine rs [] 60 2 ?_
   exact gR (nI 0) (fun W hk=>⟨by unfold msT;rw [if_pos hlk,if_pos h3],hk.below⟩)
  refine gK true (b:=!(intEq (thOf th us).1 3)) (by rw [eq_f h3];rfl) ?_
  refine rs [] 60 2 ?_
  exact gR (nI 6) (fun W hk=>⟨by unfold msT;rw [if_pos hlk,if_neg h3],hk.below⟩)
 refine gF 8 uK 2 k2 ?_
 refine rs [13] 60 0 ?_
 by_cases k3:uK=3
 ·
  have hlk:uK=2∨uK=3 := .inr k3
  refine gT 12 uK 3 k3 ?_
  refine rs [17] 60 3 ?_
  refine gV (.agg #[nI (thOf th us).1,.int .u8 (thOf th us).2]) (S:=Instr.lookup 146 (.map (some km)) (nT us) false) (fun W hk=>thg_look hm us hk) ?_
  refine rk ?_
  by_cases h3:(thOf th us).1=3
  ·
   refine gK false (b:=!(intEq (thOf th us).1 3)) (by rw [eq_t h3];rfl) ?_
   refine rs [] 60 2 ?_
   exact gR (nI 0) (fun W hk=>⟨by unfold msT;rw [if_pos hlk,if_pos h3],hk.below⟩)
  refine gK true (b:=!(intEq (thOf th us).1 3)) (by rw [eq_f h3];rfl) ?_
  refine rs [] 60 2 ?_
  exact gR (nI 6) (fun W hk=>⟨by unfold msT;rw [if_pos hlk,if_neg h3],hk.below⟩)
 refine gF 12 uK 3 k3 ?_
 refine rs [24] 60 2 ?_
 have hnl:¬ (uK=2∨uK=3):=fun h=>h.elim k2 k3
 by_cases k1:uK=1
 ·
  refine gT 23 uK 1 k1 ?_
  refine rs [28] 60 0 ?_
  refine gV (.agg #[nI (thOf th us).1,.int .u8 (thOf th us).2]) (S:=Instr.lookup 146 (.map (some km)) (nT us) false) (fun W hk=>thg_look hm us hk) ?_
  refine rs [29] 60 0 ?_
  rcases Bool.eq_false_or_eq_true (isVar (thOf th us).1) with hv | hv
  rotate_left
  ·
   refine gX [.agg #[nI (thOf th us).1,.int .u8 (thOf th us).2]] (.bool false) (fun W hk=>by rw [← hv];exact cvar_any _ _ W) ?_
   refine rs [] 60 3 ?_
   exact gR (nI 6) (fun W hk=>⟨by unfold msT;rw [if_neg hnl,if_pos ⟨k1,hv⟩],hk.below⟩)
  refine gX [.agg #[nI (thOf th us).1,.int .u8 (thOf th us).2]] (.bool true) (fun W hk=>by rw [← hv];exact cvar_any _ _ W) ?_
  refine rs [] 60 2 ?_
  have hno:¬ (uK=1∧isVar (thOf th us).1=false):=fun h=>by rw [hv] at h;cases h.2
  rcases Bool.eq_false_or_eq_true (valB uK) with hvb | hvb
  rotate_left
  ·
   refine gX [yV uK us uo ut uv un uf uk.length ug uj uB.length uh ui uL.length uw] (.bool false) (fun W hk=>by rw [← hvb];exact cvalued_any _ _ _ _ _ _ _ _ _ _ _ _ _ _ _ W) ?_
   refine rs [] 60 3 ?_
   exact gR (nI 0) (fun W hk=>⟨by unfold msT;rw [if_neg hnl,if_neg hno,if_neg (fun h=>by rw [hvb] at h;cases h.1)],hk.below⟩)
  refine gX [yV uK us uo ut uv un uf uk.length ug uj uB.length uh ui uL.length uw] (.bool true) (fun W hk=>by rw [← hvb];exact cvalued_any _ _ _ _ _ _ _ _ _ _ _ _ _ _ _ W) ?_
  refine rk ?_
  rcases Bool.eq_false_or_eq_true (unk th (Ex.mk uo ut uv un uk)) with hu | hu
  ·
   refine gX [.map (some km),xV uo ut uv un uf uk.length ug] (.bool true) (fun W hk=>by rw [← hu];exact cunknown_any km th _ (Ex.mk uo ut uv un uk) _ W (Nat.le_refl _) hbd (hm.keep hk (kU hk)) (uhe.keep hk (kU hk))) ?_
   refine rs [] 60 3 ?_
   exact gR (nI 6) (fun W hk=>⟨by unfold msT;rw [if_neg hnl,if_neg hno,if_pos ⟨hvb,hu⟩],hk.below⟩)
  ·
   refine gX [.map (some km),xV uo ut uv un uf uk.length ug] (.bool false) (fun W hk=>by rw [← hu];exact cunknown_any km th _ (Ex.mk uo ut uv un uk) _ W (Nat.le_refl _) hbd (hm.keep hk (kU hk)) (uhe.keep hk (kU hk))) ?_
   refine rs [] 60 3 ?_
   exact gR (nI 0) (fun W hk=>⟨by unfold msT;rw [if_neg hnl,if_neg hno,if_neg (fun h=>by rw [hu] at h;cases h.2)],hk.below⟩)
 refine gF 23 uK 1 k1 ?_
 refine rs [] 60 2 ?_
 have hno:¬ (uK=1∧isVar (thOf th us).1=false):=fun h=>k1 h.1
 rcases Bool.eq_false_or_eq_true (valB uK) with hvb | hvb
 rotate_left
 ·
  refine gX [yV uK us uo ut uv un uf uk.length ug uj uB.length uh ui uL.length uw] (.bool false) (fun W hk=>by rw [← hvb];exact cvalued_any _ _ _ _ _ _ _ _ _ _ _ _ _ _ _ W) ?_
  refine rs [] 60 3 ?_
  exact gR (nI 0) (fun W hk=>⟨by unfold msT;rw [if_neg hnl,if_neg hno,if_neg (fun h=>by rw [hvb] at h;cases h.1)],hk.below⟩)
 refine gX [yV uK us uo ut uv un uf uk.length ug uj uB.length uh ui uL.length uw] (.bool true) (fun W hk=>by rw [← hvb];exact cvalued_any _ _ _ _ _ _ _ _ _ _ _ _ _ _ _ W) ?_
 refine rk ?_
 rcases Bool.eq_false_or_eq_true (unk th (Ex.mk uo ut uv un uk)) with hu | hu
 ·
  refine gX [.map (some km),xV uo ut uv un uf uk.length ug] (.bool true) (fun W hk=>by rw [← hu];exact cunknown_any km th _ (Ex.mk uo ut uv un uk) _ W (Nat.le_refl _) hbd (hm.keep hk (kU hk)) (uhe.keep hk (kU hk))) ?_
  refine rs [] 60 3 ?_
  exact gR (nI 6) (fun W hk=>⟨by unfold msT;rw [if_neg hnl,if_neg hno,if_pos ⟨hvb,hu⟩],hk.below⟩)
 ·
  refine gX [.map (some km),xV uo ut uv un uf uk.length ug] (.bool false) (fun W hk=>by rw [← hu];exact cunknown_any km th _ (Ex.mk uo ut uv un uk) _ W (Nat.le_refl _) hbd (hm.keep hk (kU hk)) (uhe.keep hk (kU hk))) ?_
  refine rs [] 60 3 ?_
  exact gR (nI 0) (fun W hk=>⟨by unfold msT;rw [if_neg hnl,if_neg hno,if_neg (fun h=>by rw [hu] at h;cases h.2)],hk.below⟩)
theorem ctyped_any (km:Nat) (th:Thg) (uK:Int) (us:List UInt8) (uo ut uv:Int) (un:List UInt8) (uk:List Ex) (uB uL:List St) (uj ui uf:Option Addr) (uh uw ug:Nat) (w:World) (hbd:wgt (Ex.mk uo ut uv un uk)≤1099511627776) (hm:ThgAt (·<w.heap.size) w km th) (uhe:ExAt (·<w.heap.size) w (Ex.mk uo ut uv un uk) (xL uo ut uv un uf uk.length ug)) (tx:List UInt8) (htx:valB uK=true→exT (Ex.mk uo ut uv un uk)=some tx):
  CB 100 #[.map (some km),yV uK us uo ut uv un uf uk.length ug uj uB.length uh ui uL.length uw] w (nI (tyS th uK us (Ex.mk uo ut uv un uk))):=by
 refine eN [.map (some km),yV uK us uo ut uv un uf uk.length ug uj uB.length uh ui uL.length uw] Tryz.func100 (fun γ0 hγ0=>?_)
 refine rk ?_
 rcases Bool.eq_false_or_eq_true (valB uK) with hvb | hvb
 rotate_left
 ·
  refine gX [yV uK us uo ut uv un uf uk.length ug uj uB.length uh ui uL.length uw] (.bool false) (fun W hk=>by rw [← hvb];exact cvalued_any _ _ _ _ _ _ _ _ _ _ _ _ _ _ _ W) ?_
  refine rs [] 60 3 ?_
  exact gR (nI 0) (fun W hk=>⟨by unfold tyS;rw [if_pos hvb],hk.below⟩)
 refine gX [yV uK us uo ut uv un uf uk.length ug uj uB.length uh ui uL.length uw] (.bool true) (fun W hk=>by rw [← hvb];exact cvalued_any _ _ _ _ _ _ _ _ _ _ _ _ _ _ _ W) ?_
 refine rs [] 60 1 ?_
 have hvn:¬ valB uK=false:=by rw [hvb];simp
 by_cases k1:uK=1
 ·
  refine kz uK 1 k1 ?_
  refine rs [15] 60 0 ?_
  refine gV (.agg #[nI (thOf th us).1,.int .u8 (thOf th us).2]) (S:=Instr.lookup 146 (.map (some km)) (nT us) false) (fun W hk=>thg_look hm us hk) ?_
  refine rk ?_
  refine gX [.map (some km),xV uo ut uv un uf uk.length ug] (.int .u8 (tyO th (Ex.mk uo ut uv un uk))) (fun W hk=>ctype_any km th _ (Ex.mk uo ut uv un uk) _ W tx (Nat.le_refl _) (htx hvb) (hm.keep hk (kU hk)) (uhe.keep hk (kU hk))) ?_
  refine rk ?_
  by_cases hq:tyO th (Ex.mk uo ut uv un uk)=(thOf th us).2
  ·
   refine gK false (b:=!(intEq (tyO th (Ex.mk uo ut uv un uk)) ((thOf th us).2))) (by rw [eq_t hq];rfl) ?_
   refine rs [] 60 2 ?_
   exact gR (nI 0) (fun W hk=>⟨by unfold tyS;rw [if_neg hvn,if_pos k1,if_pos hq],hk.below⟩)
  refine gK true (b:=!(intEq (tyO th (Ex.mk uo ut uv un uk)) ((thOf th us).2))) (by rw [eq_f hq];rfl) ?_
  refine rs [] 60 2 ?_
  exact gR (nI 9) (fun W hk=>⟨by unfold tyS;rw [if_neg hvn,if_pos k1,if_neg hq],hk.below⟩)
 refine kw uK 1 k1 ?_
 refine rs [] 60 1 ?_
 refine gX [.map (some km),xV uo ut uv un uf uk.length ug] (.int .u8 (tyO th (Ex.mk uo ut uv un uk))) (fun W hk=>ctype_any km th _ (Ex.mk uo ut uv un uk) _ W tx (Nat.le_refl _) (htx hvb) (hm.keep hk (kU hk)) (uhe.keep hk (kU hk))) ?_
 refine rk ?_
 by_cases hq:tyO th (Ex.mk uo ut uv un uk)=2
 ·
  refine gK false (b:=!(intEq (tyO th (Ex.mk uo ut uv un uk)) (2))) (by rw [eq_t hq];rfl) ?_
  refine rs [] 60 2 ?_
  exact gR (nI 0) (fun W hk=>⟨by unfold tyS;rw [if_neg hvn,if_neg k1,if_pos hq],hk.below⟩)
 refine gK true (b:=!(intEq (tyO th (Ex.mk uo ut uv un uk)) (2))) (by rw [eq_f hq];rfl) ?_
 refine rs [] 60 2 ?_
 exact gR (nI 9) (fun W hk=>⟨by unfold tyS;rw [if_neg hvn,if_neg k1,if_neg hq],hk.below⟩)
theorem catomic_any (km:Nat) (th:Thg) (uK:Int) (us:List UInt8) (uo ut uv:Int) (un:List UInt8) (uk:List Ex) (uB uL:List St) (uj ui uf:Option Addr) (uh uw ug:Nat) (w:World) (hbd:wgt (Ex.mk uo ut uv un uk)≤1099511627776) (hm:ThgAt (·<w.heap.size) w km th) (uhe:ExAt (·<w.heap.size) w (Ex.mk uo ut uv un uk) (xL uo ut uv un uf uk.length ug)):
  CB 101 #[.map (some km),yV uK us uo ut uv un uf uk.length ug uj uB.length uh ui uL.length uw] w (nI (atS th uK us (Ex.mk uo ut uv un uk))):=by
 have htl:=tch_le th (Ex.mk uo ut uv un uk)
 refine eN [.map (some km),yV uK us uo ut uv un uf uk.length ug uj uB.length uh ui uL.length uw] Tryz.func101 (fun γ0 hγ0=>?_)
 refine rk ?_
 refine gX [.map (some km),xV uo ut uv un uf uk.length ug] (nI (tch th (Ex.mk uo ut uv un uk):Nat)) (fun W hk=>ctouches_any km th _ (Ex.mk uo ut uv un uk) _ W (Nat.le_refl _) hbd (hm.keep hk (kU hk)) (uhe.keep hk (kU hk))) ?_
 refine rs [13] 60 0 ?_
 by_cases k1:uK=1
 rotate_left
 ·
  refine gF 12 uK 1 k1 ?_
  refine rs [] 60 1 ?_
  by_cases hq:(1:Int)<((tch th (Ex.mk uo ut uv un uk):Nat):Int)
  ·
   refine kx 1 (((tch th (Ex.mk uo ut uv un uk):Nat):Int)) hq ?_
   refine rs [] 60 2 ?_
   exact gR (nI 170) (fun W hk=>⟨by unfold atS;rw [if_neg (show ¬ (uK=1∧(thOf th us).1=1) from fun h=>k1 h.1),if_pos (by omega)],hk.below⟩)
  refine ky 1 (((tch th (Ex.mk uo ut uv un uk):Nat):Int)) hq ?_
  refine rs [] 60 2 ?_
  exact gR (nI 0) (fun W hk=>⟨by unfold atS;rw [if_neg (show ¬ (uK=1∧(thOf th us).1=1) from fun h=>k1 h.1),if_neg (by omega)],hk.below⟩)
 refine gT 12 uK 1 k1 ?_
 refine rs [17] 60 0 ?_
 refine gV (.agg #[nI (thOf th us).1,.int .u8 (thOf th us).2]) (S:=Instr.lookup 146 (.map (some km)) (nT us) false) (fun W hk=>thg_look hm us hk) ?_
 refine rs [20] 60 0 ?_
 by_cases h3:(thOf th us).1=1
 rotate_left
 ·
  refine gS 19 (x := .bool (intEq (thOf th us).1 1)) (.bool false) (by rw [eq_f h3]) ?_
  refine rs [] 60 1 ?_
  by_cases hq:(1:Int)<((tch th (Ex.mk uo ut uv un uk):Nat):Int)
  ·
   refine kx 1 (((tch th (Ex.mk uo ut uv un uk):Nat):Int)) hq ?_
   refine rs [] 60 2 ?_
   exact gR (nI 170) (fun W hk=>⟨by unfold atS;rw [if_neg (show ¬ (uK=1∧(thOf th us).1=1) from fun h=>h3 h.2),if_pos (by omega)],hk.below⟩)
  refine ky 1 (((tch th (Ex.mk uo ut uv un uk):Nat):Int)) hq ?_
  refine rs [] 60 2 ?_
  exact gR (nI 0) (fun W hk=>⟨by unfold atS;rw [if_neg (show ¬ (uK=1∧(thOf th us).1=1) from fun h=>h3 h.2),if_neg (by omega)],hk.below⟩)
 refine gS 19 (x := .bool (intEq (thOf th us).1 1)) (.bool true) (by rw [eq_t h3]) ?_
 refine rs [23] 60 1 ?_
 refine gS 5 (x:=nI (wrapF .i64 (((tch th (Ex.mk uo ut uv un uk):Nat):Int)+1))) (nI (((tch th (Ex.mk uo ut uv un uk)+1:Nat):Int))) (by rw [wr64 (n:=((tch th (Ex.mk uo ut uv un uk):Nat):Int)+1) (by omega) (by omega)];congr 1) ?_
 refine rk ?_
 by_cases hq:(1:Int)<((tch th (Ex.mk uo ut uv un uk)+1:Nat):Int)
 ·
  refine kx 1 (((tch th (Ex.mk uo ut uv un uk)+1:Nat):Int)) hq ?_
  refine rs [] 60 2 ?_
  exact gR (nI 170) (fun W hk=>⟨by unfold atS;rw [if_pos (And.intro k1 h3),if_pos (by omega)],hk.below⟩)
 refine ky 1 (((tch th (Ex.mk uo ut uv un uk)+1:Nat):Int)) hq ?_
 refine rs [] 60 2 ?_
 exact gR (nI 0) (fun W hk=>⟨by unfold atS;rw [if_pos (And.intro k1 h3),if_neg (by omega)],hk.below⟩)
end
section
def upT (th:Thg) (s:List UInt8) (p:Int×Int):Thg:=fun x=>if x=s then some p else th x
def thV (k:Int) (th:Thg) (l:List Vr):Thg:=l.foldl (fun th v=>upT th v.name (k,v.ty)) th
def thM (th:Thg) (l:List (List UInt8)):Thg:=l.foldl (fun th x=>upT th x (3,0)) th
def thN (p:Pg) (t:Th):Thg:=thV 2 (thM (thV 1 (fun _=>none) p.shared) p.mutexes) t.locals
theorem thV_app (k:Int) (th:Thg) (l:List Vr) (v:Vr):thV k th (l++[v])=upT (thV k th l) v.name (k,v.ty):=by unfold thV;rw [List.foldl_append];rfl
theorem thM_app (th:Thg) (l:List (List UInt8)) (x:List UInt8):thM th (l++[x])=upT (thM th l) x (3,0):=by unfold thM;rw [List.foldl_append];rfl
theorem upT_at {w:World} {k:Nat} {th:Thg} {s:List UInt8} {a b:Int} (h:∀ F':Nat→Prop,F' k→MpAt F' w k fun x=>if x=s then some (.agg #[.int .i64 a,.int .u8 b]) else (th x).map fun p => .agg #[.int .i64 p.1,.int .u8 p.2]):ThgAt (·=k) w k (upT th s (a,b)):=by
 have:=h (·=k) rfl
 unfold ThgAt
 have e:(fun x=>if x=s then some (Value.agg #[.int .i64 a,.int .u8 b]) else (th x).map fun p=>Value.agg #[.int .i64 p.1,.int .u8 p.2])=(fun x=>(upT th s (a,b) x).map fun p=>Value.agg #[.int .i64 p.1,.int .u8 p.2]):=by
  funext x
  unfold upT
  split <;> rfl
 rw [← e]
 exact this
structure NmI (w:World) (km:Nat) (th:Thg) (B:Nat→Prop) (w1:World):Prop where
 keep:Sy.Keep (·<w.heap.size) w w1
 old:∀ k,k<w.heap.size→B k
 base:∀ k,B k→k<w1.heap.size
 has:B km
 thg:ThgAt (·=km) w1 km th
theorem NmI.step {w:World} {km:Nat} {th th':Thg} {B B':Nat→Prop} {w1 w2:World} (h:NmI w km th B w1) (hnk:w.heap.size≤km) (hk:Sy.Keep (fun k=>B k∧¬ k=km) w1 w2) (hB:∀ k,B k→B' k) (hB':∀ k,B' k→k<w2.heap.size) (ht:ThgAt (·=km) w2 km th'):NmI w km th' B' w2:=
 ⟨h.keep.trans (hk.mono fun k hk=>⟨h.old k hk,by omega⟩),fun k hk=>hB k (h.old k hk),hB',hB km h.has,ht⟩
open Go.Sy in
set_option maxRecDepth 100000 in
theorem cnames_any (p:Pg) (ti:Nat) {pa pb pd:Option Addr} {vn qm qt qc qd qe:Nat} {xs ys zs:List Value} (w:World) (hbd:vn≤1000000000000∧qm≤1000000000000∧qt≤1000000000000) (hpns:vn=p.shared.length) (hpnm:qm=p.mutexes.length) (hpnt:qt=p.threads.length) (hti:ti<qt) (hloc:(p.threads[ti]'(hpnt ▸ hti)).locals.length≤1000000000000)
  (hxs:SlAt (·<w.heap.size) w pa vn 3 xs) (hxt:LsAt VrAt p.shared xs) (hys:SlAt (·<w.heap.size) w pb qm 1 ys) (hyt:LsAt TxAt p.mutexes ys) (hzs:SlAt (·<w.heap.size) w pd qt 3 zs) (hzt:LsAt (ThAt (·<w.heap.size) w) p.threads zs):
  Calls Tryz.prog 98 #[.agg #[.slice pa vn qc,.slice pb qm qd,.slice pd qt qe],nI (ti:Int)] w fun r w'=>∃ km,r = .returned (.map (some km))∧w.heap.size≤km∧ThgAt (·=km) w' km (thN p (p.threads[ti]'(hpnt ▸ hti)))∧Below w.heap.size w w':=by
 refine eN [.agg #[.slice pa vn qc,.slice pb qm qd,.slice pd qt qe],nI (ti:Int)] Tryz.func98 (fun γ0 hγ0=>?_)
 refine rs [14] 60 0 ?_
 refine good_giveMp 5 (gz+1) (by kernel_rfl) (by kernel_rfl) (fun km w1 B1 hk1 hB01 hBk hnB hB1 hnew=>?_)
 have hnk:w.heap.size≤km:=Nat.le_of_not_lt hnB
 have hI0:NmI w km (fun _=>none) B1 w1:=⟨hk1,hB01,hB1,hBk,MpAt.new (F:=(·=km)) rfl hnew⟩
 refine rk ?_
 refine good_toLp ?_
 refine good_loopB (fun i:List Vr×List Vr=>i.2.length) (fun (i:List Vr×List Vr) B w1=>p.shared=i.1++i.2∧NmI w km (thV 1 (fun _=>none) i.1) B w1) (fun i=>⟨mkT [(1,vI (ti:Int)),(2,.ptr gz 0),(5,.v (.map (some km))),(14,vL pa vn qc),(15,vI (vn:Int)),(16,vI (i.1.length:Int))],mkH [(gz,bK 26 3 [vL pa vn qc,vL pb qm qd,vL pd qt qe])],gz+2,[]⟩) ([],p.shared) ⟨rfl,hI0⟩ (by kernel_rfl)
  (fun h=>gU _ [(1,vI (ti:Int)),(2,.ptr gz 0),(5,.v (.map (some km))),(14,vL pa vn qc),(15,vI (vn:Int)),(16,vI (([]:List Vr).length:Int))] [(gz,bK 26 3 [vL pa vn qc,vL pb qm qd,vL pd qt qe])] (gz+2) (gA hγ0) h) ?_
 clear hI0
 rintro ⟨l1,l2⟩ Bc wc ⟨hsp,hN⟩ ih
 have hsp:p.shared=l1++l2:=hsp
 have hn2:vn=l1.length+l2.length:=by rw [hpns,hsp,List.length_append]
 have hsl:=((hxs).keep hN.keep).mono hN.old
 refine rk ?_
 cases l2 with
 | cons v l3=>
   have hin:l1.length<vn:=by rw [hn2,List.length_cons];omega
   have hat:=hxt
   rw [hsp] at hat
   obtain ⟨c,hc,hcell⟩:=hat.at_ (fun _ _ h=>VrAt.len h)
   have hc:c=[nT v.name,.int .u8 v.ty,.int .u64 v.bits]:=hc
   subst hc
   refine kx (l1.length:Int) (vn:Int) (by omega) ?_
   refine rk ?_
   refine gI 22 67 qc l1.length hsl hin ?_
   refine rk ?_
   refine gD 67 3 [nT v.name,.int .u8 v.ty,.int .u64 v.bits] l1.length 0 hsl rfl hcell ?_
   refine rk ?_
   refine good_mapW 146 (.map (some km)) (nT v.name) (.agg #[nI 1,.int .u8 v.ty]) (ay:=norm (.agg #[nI 1,.int .u8 v.ty])) (·=km) (by kernel_rfl) (by kernel_rfl) (by kernel_rfl) (fun k hk=>hk ▸ hN.has) (fun W hk=>map_update (kt:=9) (et:=201) (by kernel_rfl) (by kernel_rfl) hN.thg v.name _ (hk.mono fun k hk=>hk ▸ hN.has)) ?_
   intro wa wb Bd hka hmp hkk hkF hBd hBd'
   have hth:=upT_at hmp
   refine rk ?_
   refine gJ 16 l1 v (by omega) ?_
   exact gU _ [(1,vI (ti:Int)),(2,.ptr gz 0),(5,.v (.map (some km))),(14,vL pa vn qc),(15,vI (vn:Int)),(16,vI ((l1++[v]).length:Int))] [(gz,bK 26 3 [vL pa vn qc,vL pb qm qd,vL pd qt qe])] (gz+2) (gA hγ0) (ih (l1++[v],l3) Bd wb ⟨by show p.shared=(l1++[_])++l3;rw [hsp];simp,by show NmI w km (thV 1 (fun _=>none) (l1++[v])) Bd wb;rw [thV_app];exact hN.step hnk hkF hBd hBd' hth⟩ lS1)
 | nil=>
   have hn3:vn=l1.length:=by rw [hn2];simp
   have hl1:l1=p.shared:=by rw [hsp];simp
   refine ky (l1.length:Int) (vn:Int) (by omega) ?_
   subst hl1
   refine rk ?_
   have hI0:=hN
   clear ih hN
   clear hn2 hn3 hsl hsp
   refine good_toLp ?_
   refine good_loopB (fun i:List (List UInt8)×List (List UInt8)=>i.2.length) (fun (i:List (List UInt8)×List (List UInt8)) B w1=>p.mutexes=i.1++i.2∧NmI w km (thM (thV 1 (fun _=>none) p.shared) i.1) B w1) (fun i=>⟨mkT [(1,vI (ti:Int)),(2,.ptr gz 0),(5,.v (.map (some km))),(29,vL pb qm qd),(30,vI (qm:Int)),(31,vI (i.1.length:Int))],mkH [(gz,bK 26 3 [vL pa vn qc,vL pb qm qd,vL pd qt qe])],gz+2,[]⟩) ([],p.mutexes) ⟨rfl,hI0⟩ (by kernel_rfl)
    (fun h=>gU _ [(1,vI (ti:Int)),(2,.ptr gz 0),(5,.v (.map (some km))),(29,vL pb qm qd),(30,vI (qm:Int)),(31,vI (([]:List (List UInt8)).length:Int))] [(gz,bK 26 3 [vL pa vn qc,vL pb qm qd,vL pd qt qe])] (gz+2) (gA hγ0) h) ?_
   clear hI0
   rintro ⟨l1,l2⟩ Bc wc ⟨hsp,hN⟩ ih
   have hsp:p.mutexes=l1++l2:=hsp
   have hn2:qm=l1.length+l2.length:=by rw [hpnm,hsp,List.length_append]
   have hsl:=((hys).keep hN.keep).mono hN.old
   refine rk ?_
   cases l2 with
   | cons v l3=>
     have hin:l1.length<qm:=by rw [hn2,List.length_cons];omega
     have hat:=hyt
     rw [hsp] at hat
     obtain ⟨c,hc,hcell⟩:=hat.at_ (fun _ _ h=>by rw [h];rfl)
     have hc:c=[nT v]:=hc
     subst hc
     refine kx (l1.length:Int) (qm:Int) (by omega) ?_
     refine rk ?_
     refine gI 23 9 qd l1.length hsl hin ?_
     refine rk ?_
     refine gL 9 (nT v) l1.length 0 hsl (hcell 0 _ rfl) ?_
     refine rk ?_
     refine good_mapW 146 (.map (some km)) (nT v) (.agg #[nI 3,.int .u8 0]) (ay:=norm (.agg #[nI 3,.int .u8 0])) (·=km) (by kernel_rfl) (by kernel_rfl) (by kernel_rfl) (fun k hk=>hk ▸ hN.has) (fun W hk=>map_update (kt:=9) (et:=201) (by kernel_rfl) (by kernel_rfl) hN.thg v _ (hk.mono fun k hk=>hk ▸ hN.has)) ?_
     intro wa wb Bd hka hmp hkk hkF hBd hBd'
     have hth:=upT_at hmp
     refine rk ?_
     refine gJ 31 l1 v (by omega) ?_
     exact gU _ [(1,vI (ti:Int)),(2,.ptr gz 0),(5,.v (.map (some km))),(29,vL pb qm qd),(30,vI (qm:Int)),(31,vI ((l1++[v]).length:Int))] [(gz,bK 26 3 [vL pa vn qc,vL pb qm qd,vL pd qt qe])] (gz+2) (gA hγ0) (ih (l1++[v],l3) Bd wb ⟨by show p.mutexes=(l1++[_])++l3;rw [hsp];simp,by show NmI w km (thM (thV 1 (fun _=>none) p.shared) (l1++[v])) Bd wb;rw [thM_app];exact hN.step hnk hkF hBd hBd' hth⟩ lS1)
   | nil=>
     have hn3:qm=l1.length:=by rw [hn2];simp
     have hl1:l1=p.mutexes:=by rw [hsp];simp
     refine ky (l1.length:Int) (qm:Int) (by omega) ?_
     subst hl1
     refine rk ?_
     have hI0:=hN
     clear ih hN
     clear hn2 hn3 hsl hsp
     obtain ⟨c,hc,hcell⟩:=(show LsAt (ThAt (·<w.heap.size) w) (p.threads.take ti++p.threads[ti]'(hpnt ▸ hti)::p.threads.drop (ti+1)) zs by rw [← List.drop_eq_getElem_cons (hpnt ▸ hti),List.take_append_drop];exact hzt).at_ (fun _ _ h=>h.len)
     have hlen:(p.threads.take ti).length=ti:=by rw [List.length_take];omega
     rw [hlen] at hcell
     generalize hth0:p.threads[ti]'(hpnt ▸ hti)=th0 at hc hcell hloc ⊢
     obtain ⟨la,lcap,lxs,lb,lcap2,lys,rfl,hls,hlt,_,_⟩:=hc
     obtain ⟨ln,hln⟩:∃ n,n=th0.locals.length:=⟨_,rfl⟩
     rw [← hln] at hls hcell hloc
     have hzs1:=(hzs.keep hI0.keep).mono hI0.old
     refine gI 24 58 qe ti hzs1 hti ?_
     refine rk ?_
     refine gL 22 (.slice la ln lcap) ti 1 hzs1 (hcell 1 _ rfl) ?_
     refine rk ?_
     refine good_toLp ?_
     refine good_loopB (fun i:List Vr×List Vr=>i.2.length) (fun (i:List Vr×List Vr) B w1=>th0.locals=i.1++i.2∧NmI w km (thV 2 (thM (thV 1 (fun _=>none) p.shared) p.mutexes) i.1) B w1) (fun i=>⟨mkT [(1,vI (ti:Int)),(2,.ptr gz 0),(5,.v (.map (some km))),(44,vL la ln lcap),(45,vI (ln:Int)),(46,vI (i.1.length:Int))],mkH [(gz,bK 26 3 [vL pa vn qc,vL pb qm qd,vL pd qt qe])],gz+2,[]⟩) ([],th0.locals) ⟨rfl,hI0⟩ (by kernel_rfl)
      (fun h=>gU _ [(1,vI (ti:Int)),(2,.ptr gz 0),(5,.v (.map (some km))),(44,vL la ln lcap),(45,vI (ln:Int)),(46,vI (([]:List Vr).length:Int))] [(gz,bK 26 3 [vL pa vn qc,vL pb qm qd,vL pd qt qe])] (gz+2) (gA hγ0) h) ?_
     clear hI0
     rintro ⟨l1,l2⟩ Bc wc ⟨hsp,hN⟩ ih
     have hsp:th0.locals=l1++l2:=hsp
     have hn2:ln=l1.length+l2.length:=by rw [hln,hsp,List.length_append]
     have hsl:=((hls).keep hN.keep).mono hN.old
     refine rk ?_
     cases l2 with
     | cons v l3=>
       have hin:l1.length<ln:=by rw [hn2,List.length_cons];omega
       have hat:=hlt
       rw [hsp] at hat
       obtain ⟨c,hc,hcell⟩:=hat.at_ (fun _ _ h=>VrAt.len h)
       have hc:c=[nT v.name,.int .u8 v.ty,.int .u64 v.bits]:=hc
       subst hc
       refine kx (l1.length:Int) (ln:Int) (by omega) ?_
       refine rk ?_
       refine gI 22 67 lcap l1.length hsl hin ?_
       refine rk ?_
       refine gD 67 3 [nT v.name,.int .u8 v.ty,.int .u64 v.bits] l1.length 0 hsl rfl hcell ?_
       refine rk ?_
       refine good_mapW 146 (.map (some km)) (nT v.name) (.agg #[nI 2,.int .u8 v.ty]) (ay:=norm (.agg #[nI 2,.int .u8 v.ty])) (·=km) (by kernel_rfl) (by kernel_rfl) (by kernel_rfl) (fun k hk=>hk ▸ hN.has) (fun W hk=>map_update (kt:=9) (et:=201) (by kernel_rfl) (by kernel_rfl) hN.thg v.name _ (hk.mono fun k hk=>hk ▸ hN.has)) ?_
       intro wa wb Bd hka hmp hkk hkF hBd hBd'
       have hth:=upT_at hmp
       refine rk ?_
       refine gJ 46 l1 v (by omega) ?_
       exact gU _ [(1,vI (ti:Int)),(2,.ptr gz 0),(5,.v (.map (some km))),(44,vL la ln lcap),(45,vI (ln:Int)),(46,vI ((l1++[v]).length:Int))] [(gz,bK 26 3 [vL pa vn qc,vL pb qm qd,vL pd qt qe])] (gz+2) (gA hγ0) (ih (l1++[v],l3) Bd wb ⟨by show th0.locals=(l1++[_])++l3;rw [hsp];simp,by show NmI w km (thV 2 (thM (thV 1 (fun _=>none) p.shared) p.mutexes) (l1++[v])) Bd wb;rw [thV_app];exact hN.step hnk hkF hBd hBd' hth⟩ lS1)
     | nil=>
       have hn3:ln=l1.length:=by rw [hn2];simp
       have hl1:l1=th0.locals:=by rw [hsp];simp
       refine ky (l1.length:Int) (ln:Int) (by omega) ?_
       subst hl1
       refine rs [] 60 2 ?_
       exact gR (.map (some km)) (fun W hk=>⟨km,rfl,hnk,hN.thg.keep (hk.mono fun k h=>h ▸ hN.has) (fun k h=>h),(hN.keep.trans (hk.mono hN.old)).below⟩)
end
section
theorem psignT_len (op:Int):(psignT op).length≤2:=by
 have key:∀ (c:Prop) [Decidable c] (a b:List UInt8),a.length≤2→b.length≤2→(if c then a else b).length≤2:=fun c _ a b h1 h2=>by
  by_cases hc:c
  · rw [if_pos hc];exact h1
  · rw [if_neg hc];exact h2
 unfold psignT signT
 repeat refine key _ _ _ (by decide) ?_
 decide
open Go.Sy in
set_option maxRecDepth 100000 in
theorem put_any:∀ (N:Nat) (e:Ex) (cs:List Value) (t l:List UInt8) (b:Nat) (w:World),wgt e≤N→exB e≤1000000000000→exR e→Tab w→exT e=some t→Bu b l w→l.length+t.length≤140737488355328→ExAt (Out b w) w e cs→
  Calls Tryz.prog 60 #[nP b,.agg cs.toArray] w fun e w'=>e = .returned (.tuple #[])∧WrR b (l++t) w w':=by
 intro N
 induction N with
 | zero=>
   intro e cs t l b w hN
   have:=wgt_pos e
   omega
 | succ N ihN=>
   intro e cs t l b w hN hB hR ht hT hb hlen hat
   obtain ⟨op,ty,bits,name,kids⟩:=e
   simp only [ExAt] at hat
   obtain ⟨a,cap,xs,rfl,hsl,hks⟩:=hat
   simp only [exR] at hR
   obtain ⟨hop,hty',hbit,hkR⟩:=hR
   obtain ⟨bn,rfl⟩:∃ bn:Nat,bits=(bn:Int):=⟨bits.toNat,by omega⟩
   have hbn:bn<18446744073709551616:=by omega
   simp only [wgt] at hN
   simp only [exB] at hB
   have h0:=Ch.start hb
   refine eN [nP b,xV op ty (bn:Int) name a kids.length cap] Tryz.func60 (fun γ0 hγ0=>?_)
   rcases exT_inv hT with ⟨rfl,rfl,hlit⟩ | ⟨rfl,rfl,rfl⟩ | ⟨rfl,x,tx,rfl,htx,rfl⟩ | ⟨rfl,x,tx,rfl,htx,rfl⟩ | ⟨rfl,x,tx,rfl,htx,rfl⟩ | ⟨rfl,x,tx,rfl,htx,rfl⟩ | ⟨⟨o1,o2⟩,x,y,tx,ty',rfl,htx,hty,rfl⟩
   ·
    refine rs [] 60 1 ?_
    refine good_drawL sy_mixed (by kernel_rfl) ?_
    refine q_run [] 60 ?_
    refine qB [.agg #[.int .u8 ty,.int .u64 (bn:Int)]] (nT t) (fun W hk=>by have:=tvalue_any ty bn hbn W (ht.below (Keep.below hk));rw [(lit_plain ty bn hbn).2 t hlit] at this;exact this) ?_
    refine q_run [] 60 ?_
    refine qE ?_
    refine rk ?_
    refine gw b (t) h0 (by first | omega | (simp only [List.length_append,List.length_cons,List.length_nil] at hlen ⊢;omega)) ?_
    intro w1 B1 hc1 _ _
    refine rk ?_
    refine gR (.tuple #[]) (fun W hk=>⟨rfl,?_⟩)
    have:=hc1.fin hk
    simpa only [List.append_assoc] using this
   ·
    refine rs [] 60 2 ?_
    refine good_drawL sy_mixed (by kernel_rfl) ?_
    refine q_run [] 60 ?_
    refine qE ?_
    refine rk ?_
    refine gw b (t) h0 (by first | omega | (simp only [List.length_append,List.length_cons,List.length_nil] at hlen ⊢;omega)) ?_
    intro w1 B1 hc1 _ _
    refine rk ?_
    refine gR (.tuple #[]) (fun W hk=>⟨rfl,?_⟩)
    have:=hc1.fin hk
    simpa only [List.append_assoc] using this
   ·
    simp only [ExsAt] at hks
    obtain ⟨c,r,hxs,hc,rfl⟩:=hks
    have hcell0:∀ (j:Nat) (v:Value),c[j]?=some v→xs[0*5+0+j]?=some v:=fun j v hv=>by rw [hxs];simpa using hv
    refine rs [] 60 9 ?_
    refine gw b ([105,110,116,40]) h0 (by first | omega | (simp only [List.length_append,List.length_cons,List.length_nil] at hlen ⊢;omega)) ?_
    intro w1 B1 hc1 _ _
    refine rk ?_
    refine gI 32 34 cap 0 hsl (show 0<1 by decide) ?_
    refine rk ?_
    have hxR0:=exRs_mem.1 hkR x (by simp)
    have hcl0:=hc.len
    have hld0:=fun W (hk:Sy.Keep _ _ W)=>load_slA (P:=Tryz.prog) (ty:=34) (m:=5) (cs:=c) hsl (by kernel_rfl) (by kernel_rfl) 0 0 hcl0 hcell0 (W:=W) (hc1.keep hk)
    have hcall0:=fun W (hk:Sy.Keep _ _ W) hbu hA=>ihN x c tx (l++[105,110,116,40]) b W (by simp only [wgts] at hN;omega) (by simp only [exBs] at hB;omega) hxR0 (ht.out hb (hc1.keep hk)) htx hbu (by first | omega | (simp only [List.length_append,List.length_cons,List.length_nil] at hlen ⊢;omega)) (hc.keep (hc1.keep hk) hA)
    obtain ⟨op0,ty0,bits0,name0,kids0⟩:=x
    simp only [ExAt] at hc
    obtain ⟨a0,cap0,xs0,rfl,_⟩:=hc
    refine gV (xV op0 ty0 bits0 name0 a0 kids0.length cap0) (S:=Instr.loadAt 34 (.pointer (some ⟨gB a,oB a+0*5+0,none⟩))) (fun W hk=>hld0 W hk) ?_
    refine rk ?_
    refine gH [nP b,xV op0 ty0 bits0 name0 a0 kids0.length cap0] b (tx) (.tuple #[]) hc1 (fun W hk hbu hA=>hcall0 W hk hbu hA) ?_
    intro w2 B2 hc2 _ _
    refine rk ?_
    refine gw b ([41]) hc2 (by first | omega | (simp only [List.length_append,List.length_cons,List.length_nil] at hlen ⊢;omega)) ?_
    intro w3 B3 hc3 _ _
    refine rk ?_
    refine gR (.tuple #[]) (fun W hk=>⟨rfl,?_⟩)
    have:=hc3.fin hk
    simpa only [List.append_assoc] using this
   ·
    simp only [ExsAt] at hks
    obtain ⟨c,r,hxs,hc,rfl⟩:=hks
    have hcell0:∀ (j:Nat) (v:Value),c[j]?=some v→xs[0*5+0+j]?=some v:=fun j v hv=>by rw [hxs];simpa using hv
    refine rs [] 60 9 ?_
    refine gw b ([114,101,97,108,40]) h0 (by first | omega | (simp only [List.length_append,List.length_cons,List.length_nil] at hlen ⊢;omega)) ?_
    intro w1 B1 hc1 _ _
    refine rk ?_
    refine gI 32 34 cap 0 hsl (show 0<1 by decide) ?_
    refine rk ?_
    have hxR0:=exRs_mem.1 hkR x (by simp)
    have hcl0:=hc.len
    have hld0:=fun W (hk:Sy.Keep _ _ W)=>load_slA (P:=Tryz.prog) (ty:=34) (m:=5) (cs:=c) hsl (by kernel_rfl) (by kernel_rfl) 0 0 hcl0 hcell0 (W:=W) (hc1.keep hk)
    have hcall0:=fun W (hk:Sy.Keep _ _ W) hbu hA=>ihN x c tx (l++[114,101,97,108,40]) b W (by simp only [wgts] at hN;omega) (by simp only [exBs] at hB;omega) hxR0 (ht.out hb (hc1.keep hk)) htx hbu (by first | omega | (simp only [List.length_append,List.length_cons,List.length_nil] at hlen ⊢;omega)) (hc.keep (hc1.keep hk) hA)
    obtain ⟨op0,ty0,bits0,name0,kids0⟩:=x
    simp only [ExAt] at hc
    obtain ⟨a0,cap0,xs0,rfl,_⟩:=hc
    refine gV (xV op0 ty0 bits0 name0 a0 kids0.length cap0) (S:=Instr.loadAt 34 (.pointer (some ⟨gB a,oB a+0*5+0,none⟩))) (fun W hk=>hld0 W hk) ?_
    refine rk ?_
    refine gH [nP b,xV op0 ty0 bits0 name0 a0 kids0.length cap0] b (tx) (.tuple #[]) hc1 (fun W hk hbu hA=>hcall0 W hk hbu hA) ?_
    intro w2 B2 hc2 _ _
    refine rk ?_
    refine gw b ([41]) hc2 (by first | omega | (simp only [List.length_append,List.length_cons,List.length_nil] at hlen ⊢;omega)) ?_
    intro w3 B3 hc3 _ _
    refine rk ?_
    refine gR (.tuple #[]) (fun W hk=>⟨rfl,?_⟩)
    have:=hc3.fin hk
    simpa only [List.append_assoc] using this
   ·
    simp only [ExsAt] at hks
    obtain ⟨c,r,hxs,hc,rfl⟩:=hks
    have hcell0:∀ (j:Nat) (v:Value),c[j]?=some v→xs[0*5+0+j]?=some v:=fun j v hv=>by rw [hxs];simpa using hv
    refine rs [] 60 9 ?_
    refine good_drawL sy_mixed (by kernel_rfl) ?_
    refine q_run [] 60 ?_
    refine qB [.int .u8 16] (nT [45]) (fun W hk=>psign_any 16 W) ?_
    refine q_run [] 60 ?_
    refine qE ?_
    refine rk ?_
    refine gw b ([45]) h0 (by first | omega | (simp only [List.length_append,List.length_cons,List.length_nil] at hlen ⊢;omega)) ?_
    intro w1 B1 hc1 _ _
    refine rk ?_
    refine gI 32 34 cap 0 hsl (show 0<1 by decide) ?_
    refine rk ?_
    have hxR0:=exRs_mem.1 hkR x (by simp)
    have hcl0:=hc.len
    have hld0:=fun W (hk:Sy.Keep _ _ W)=>load_slA (P:=Tryz.prog) (ty:=34) (m:=5) (cs:=c) hsl (by kernel_rfl) (by kernel_rfl) 0 0 hcl0 hcell0 (W:=W) (hc1.keep hk)
    have hcall0:=fun W (hk:Sy.Keep _ _ W) hbu hA=>ihN x c tx (l++[45]) b W (by simp only [wgts] at hN;omega) (by simp only [exBs] at hB;omega) hxR0 (ht.out hb (hc1.keep hk)) htx hbu (by first | omega | (simp only [List.length_append,List.length_cons,List.length_nil] at hlen ⊢;omega)) (hc.keep (hc1.keep hk) hA)
    obtain ⟨op0,ty0,bits0,name0,kids0⟩:=x
    simp only [ExAt] at hc
    obtain ⟨a0,cap0,xs0,rfl,_⟩:=hc
    refine gV (xV op0 ty0 bits0 name0 a0 kids0.length cap0) (S:=Instr.loadAt 34 (.pointer (some ⟨gB a,oB a+0*5+0,none⟩))) (fun W hk=>hld0 W hk) ?_
    refine rk ?_
    refine gH [nP b,xV op0 ty0 bits0 name0 a0 kids0.length cap0] b (tx) (.tuple #[]) hc1 (fun W hk hbu hA=>hcall0 W hk hbu hA) ?_
    intro w2 B2 hc2 _ _
    refine rk ?_
    refine gR (.tuple #[]) (fun W hk=>⟨rfl,?_⟩)
    have:=hc2.fin hk
    simpa only [List.append_assoc] using this
   ·
    simp only [ExsAt] at hks
    obtain ⟨c,r,hxs,hc,rfl⟩:=hks
    have hcell0:∀ (j:Nat) (v:Value),c[j]?=some v→xs[0*5+0+j]?=some v:=fun j v hv=>by rw [hxs];simpa using hv
    refine rs [] 60 9 ?_
    refine good_drawL sy_mixed (by kernel_rfl) ?_
    refine q_run [] 60 ?_
    refine qB [.int .u8 17] (nT [33]) (fun W hk=>psign_any 17 W) ?_
    refine q_run [] 60 ?_
    refine qE ?_
    refine rk ?_
    refine gw b ([33]) h0 (by first | omega | (simp only [List.length_append,List.length_cons,List.length_nil] at hlen ⊢;omega)) ?_
    intro w1 B1 hc1 _ _
    refine rk ?_
    refine gI 32 34 cap 0 hsl (show 0<1 by decide) ?_
    refine rk ?_
    have hxR0:=exRs_mem.1 hkR x (by simp)
    have hcl0:=hc.len
    have hld0:=fun W (hk:Sy.Keep _ _ W)=>load_slA (P:=Tryz.prog) (ty:=34) (m:=5) (cs:=c) hsl (by kernel_rfl) (by kernel_rfl) 0 0 hcl0 hcell0 (W:=W) (hc1.keep hk)
    have hcall0:=fun W (hk:Sy.Keep _ _ W) hbu hA=>ihN x c tx (l++[33]) b W (by simp only [wgts] at hN;omega) (by simp only [exBs] at hB;omega) hxR0 (ht.out hb (hc1.keep hk)) htx hbu (by first | omega | (simp only [List.length_append,List.length_cons,List.length_nil] at hlen ⊢;omega)) (hc.keep (hc1.keep hk) hA)
    obtain ⟨op0,ty0,bits0,name0,kids0⟩:=x
    simp only [ExAt] at hc
    obtain ⟨a0,cap0,xs0,rfl,_⟩:=hc
    refine gV (xV op0 ty0 bits0 name0 a0 kids0.length cap0) (S:=Instr.loadAt 34 (.pointer (some ⟨gB a,oB a+0*5+0,none⟩))) (fun W hk=>hld0 W hk) ?_
    refine rk ?_
    refine gH [nP b,xV op0 ty0 bits0 name0 a0 kids0.length cap0] b (tx) (.tuple #[]) hc1 (fun W hk hbu hA=>hcall0 W hk hbu hA) ?_
    intro w2 B2 hc2 _ _
    refine rk ?_
    refine gR (.tuple #[]) (fun W hk=>⟨rfl,?_⟩)
    have:=hc2.fin hk
    simpa only [List.append_assoc] using this
   ·
    simp only [ExsAt] at hks
    obtain ⟨c,r,hxs,hc,d,r2,rfl,hd,rfl⟩:=hks
    have hcell0:∀ (j:Nat) (v:Value),c[j]?=some v→xs[0*5+0+j]?=some v:=fun j v hv=>by
     rw [hxs,List.getElem?_append_left (by have:=(List.getElem?_eq_some_iff.1 hv).1;omega)];simpa using hv
    have hcell1:∀ (j:Nat) (v:Value),d[j]?=some v→xs[1*5+0+j]?=some v:=fun j v hv=>by
     have:=hc.len
     rw [hxs,List.getElem?_append_right (by omega),this];simpa using hv
    refine rk ?_
    refine kw op 1 (by omega) ?_
    refine rk ?_
    refine kw op 2 (by omega) ?_
    refine rs [60] 60 0 ?_
    refine gF 58 op 18 (by omega) ?_
    refine gF 59 op 18 (by omega) ?_
    refine rk ?_
    refine kw op 19 (by omega) ?_
    refine rs [] 60 1 ?_
    refine gw b ([40]) h0 (by first | omega | (simp only [List.length_append,List.length_cons,List.length_nil] at hlen ⊢;omega)) ?_
    intro w1 B1 hc1 _ _
    refine rk ?_
    refine gI 32 34 cap 0 hsl (show 0<2 by decide) ?_
    refine rk ?_
    have hxR0:=exRs_mem.1 hkR x (by simp)
    have hcl0:=hc.len
    have hld0:=fun W (hk:Sy.Keep _ _ W)=>load_slA (P:=Tryz.prog) (ty:=34) (m:=5) (cs:=c) hsl (by kernel_rfl) (by kernel_rfl) 0 0 hcl0 hcell0 (W:=W) (hc1.keep hk)
    have hcall0:=fun W (hk:Sy.Keep _ _ W) hbu hA=>ihN x c tx (l++[40]) b W (by simp only [wgts] at hN;omega) (by simp only [exBs] at hB;omega) hxR0 (ht.out hb (hc1.keep hk)) htx hbu (by first | omega | (simp only [List.length_append,List.length_cons,List.length_nil] at hlen ⊢;omega)) (hc.keep (hc1.keep hk) hA)
    obtain ⟨op0,ty0,bits0,name0,kids0⟩:=x
    simp only [ExAt] at hc
    obtain ⟨a0,cap0,xs0,rfl,_⟩:=hc
    refine gV (xV op0 ty0 bits0 name0 a0 kids0.length cap0) (S:=Instr.loadAt 34 (.pointer (some ⟨gB a,oB a+0*5+0,none⟩))) (fun W hk=>hld0 W hk) ?_
    refine rk ?_
    refine gH [nP b,xV op0 ty0 bits0 name0 a0 kids0.length cap0] b (tx) (.tuple #[]) hc1 (fun W hk hbu hA=>hcall0 W hk hbu hA) ?_
    intro w2 B2 hc2 _ _
    refine rk ?_
    refine good_drawL sy_mixed (by kernel_rfl) ?_
    refine q_run [] 60 ?_
    refine qB [.int .u8 op] (nT (psignT op)) (fun W hk=>psign_any op W) ?_
    refine q_run [21] 60 ?_
    refine qV (nT ([32]++psignT op)) (S:=(do eqGuard .add 9 (.const (nT [32])) (.tmp 20) (nT ([32])) (nT (psignT op));binOp .add 9 (nT ([32])) (nT (psignT op)))) (fun W _=>cat_str _ _ ([32]) (psignT op) (by have:=psignT_len op;simp;omega) W) ?_
    refine q_run [22] 60 ?_
    refine qV (nT ([32]++psignT op++[32])) (S:=(do eqGuard .add 9 (.tmp 21) (.const (nT [32])) (nT ([32]++psignT op)) (nT ([32]));binOp .add 9 (nT ([32]++psignT op)) (nT ([32])))) (fun W _=>cat_str _ _ ([32]++psignT op) ([32]) (by have:=psignT_len op;simp;omega) W) ?_
    refine q_run [] 60 ?_
    refine qE ?_
    refine rk ?_
    refine gw b ([32]++psignT op++[32]) hc2 (by first | omega | (simp only [List.length_append,List.length_cons,List.length_nil] at hlen ⊢;omega)) ?_
    intro w3 B3 hc3 _ _
    refine rk ?_
    refine gI 32 34 cap 1 hsl (show 1<2 by decide) ?_
    refine rk ?_
    have hxR1:=exRs_mem.1 hkR y (by simp)
    have hcl1:=hd.len
    have hld1:=fun W (hk:Sy.Keep _ _ W)=>load_slA (P:=Tryz.prog) (ty:=34) (m:=5) (cs:=d) hsl (by kernel_rfl) (by kernel_rfl) 1 0 hcl1 hcell1 (W:=W) (hc3.keep hk)
    have hcall1:=fun W (hk:Sy.Keep _ _ W) hbu hA=>ihN y d ty' (l++[40]++tx++([32]++psignT op++[32])) b W (by simp only [wgts] at hN;omega) (by simp only [exBs] at hB;omega) hxR1 (ht.out hb (hc3.keep hk)) hty hbu (by first | omega | (simp only [List.length_append,List.length_cons,List.length_nil] at hlen ⊢;omega)) (hd.keep (hc3.keep hk) hA)
    obtain ⟨op1,ty1,bits1,name1,kids1⟩:=y
    simp only [ExAt] at hd
    obtain ⟨a1,cap1,xs1,rfl,_⟩:=hd
    refine gV (xV op1 ty1 bits1 name1 a1 kids1.length cap1) (S:=Instr.loadAt 34 (.pointer (some ⟨gB a,oB a+1*5+0,none⟩))) (fun W hk=>hld1 W hk) ?_
    refine rk ?_
    refine gH [nP b,xV op1 ty1 bits1 name1 a1 kids1.length cap1] b (ty') (.tuple #[]) hc3 (fun W hk hbu hA=>hcall1 W hk hbu hA) ?_
    intro w4 B4 hc4 _ _
    refine rk ?_
    refine gw b ([41]) hc4 (by first | omega | (simp only [List.length_append,List.length_cons,List.length_nil] at hlen ⊢;omega)) ?_
    intro w5 B5 hc5 _ _
    refine rk ?_
    refine gR (.tuple #[]) (fun W hk=>⟨rfl,?_⟩)
    have:=hc5.fin hk
    simpa only [List.append_assoc] using this
end
section
set_option maxRecDepth 100000
theorem typT_eq {ty bits:Int} {t:List UInt8} (h:valT ty bits=some t):ptypT ty=typT ty:=by
 unfold ptypT typT
 by_cases h1:ty=1
 · subst h1;rfl
 by_cases h2:ty=2
 · subst h2;rfl
 by_cases h3:ty=3
 · subst h3;rfl
 unfold valT litT at h
 rw [if_neg h1,if_neg h3,if_neg h1,if_neg h2,if_neg h3] at h
 cases h
open Go.Sy
theorem pvariable_any (wd:List UInt8) (v:Vr) (u l:List UInt8) (b:Nat) (w:World) (hR:vrR v) (ht:Tab w) (hT:vrT wd v=some u) (hb:Bu b l w) (hlen:l.length+u.length≤140737488355328):
  Calls Tryz.prog 52 #[nP b,nT wd,.agg #[nT v.name,.int .u8 v.ty,.int .u64 v.bits]] w fun e w'=>e = .returned (.tuple #[])∧WrR b (l++u) w w':=by
 obtain ⟨name,ty,bits⟩:=v
 obtain ⟨_,hb1,hb2⟩:=hR
 simp only at hb1 hb2 ⊢
 obtain ⟨bn,rfl⟩:∃ bn:Nat,bits=(bn:Int):=⟨bits.toNat,by omega⟩
 have hbn:bn<18446744073709551616:=by omega
 unfold vrT at hT
 simp only at hT
 split at hT
 rotate_left
 · cases hT
 rw [Option.map_eq_some_iff] at hT
 obtain ⟨t,hv,rfl⟩:=hT
 have h0:=Ch.start hb
 refine eN [nP b,nT wd,.agg #[nT name,.int .u8 ty,.int .u64 (bn:Int)]] Tryz.func52 (fun γ0 hγ0=>?_)
 refine rs [] 4 0 ?_
 refine good_drawL sy_mixed (by kernel_rfl) ?_
 refine q_run [10] 60 ?_
 refine qV (nT (wd++[32])) (S:=(do eqGuard .add 9 (.tmp 9) (.const (nT [32])) (nT (wd)) (nT ([32]));binOp .add 9 (nT (wd)) (nT ([32])))) (fun W _=>cat_str _ _ (wd) ([32]) (by simp only [List.length_append,List.length_cons,List.length_nil] at hlen ⊢;omega) W) ?_
 refine q_run [13] 60 ?_
 refine qV (nT (wd++[32]++name)) (S:=(do eqGuard .add 9 (.tmp 10) (.tmp 12) (nT (wd++[32])) (nT (name));binOp .add 9 (nT (wd++[32])) (nT (name)))) (fun W _=>cat_str _ _ (wd++[32]) (name) (by simp only [List.length_append,List.length_cons,List.length_nil] at hlen ⊢;omega) W) ?_
 refine q_run [14] 60 ?_
 refine qV (nT (wd++[32]++name++[32])) (S:=(do eqGuard .add 9 (.tmp 13) (.const (nT [32])) (nT (wd++[32]++name)) (nT ([32]));binOp .add 9 (nT (wd++[32]++name)) (nT ([32])))) (fun W _=>cat_str _ _ (wd++[32]++name) ([32]) (by simp only [List.length_append,List.length_cons,List.length_nil] at hlen ⊢;omega) W) ?_
 refine q_run [19] 60 ?_
 refine qB [.int .u8 ty] (nT (typT ty)) (fun W hk=>by have:=ptype_any ty W;rw [typT_eq hv] at this;exact this) ?_
 refine q_run [19] 60 ?_
 refine qV (nT (wd++[32]++name++[32]++typT ty)) (S:=(do eqGuard .add 9 (.tmp 14) (.tmp 18) (nT (wd++[32]++name++[32])) (nT (typT ty));binOp .add 9 (nT (wd++[32]++name++[32])) (nT (typT ty)))) (fun W _=>cat_str _ _ (wd++[32]++name++[32]) (typT ty) (by simp only [List.length_append,List.length_cons,List.length_nil] at hlen ⊢;omega) W) ?_
 refine q_run [20] 60 ?_
 refine qV (nT (wd++[32]++name++[32]++typT ty++[32,61,32])) (S:=(do eqGuard .add 9 (.tmp 19) (.const (nT [32,61,32])) (nT (wd++[32]++name++[32]++typT ty)) (nT ([32,61,32]));binOp .add 9 (nT (wd++[32]++name++[32]++typT ty)) (nT ([32,61,32])))) (fun W _=>cat_str _ _ (wd++[32]++name++[32]++typT ty) ([32,61,32]) (by simp only [List.length_append,List.length_cons,List.length_nil] at hlen ⊢;omega) W) ?_
 refine q_run [24] 60 ?_
 refine qB [.agg #[.int .u8 ty,.int .u64 (bn:Int)]] (nT t) (fun W hk=>by have:=tvalue_any ty bn hbn W (ht.below (Keep.below hk));rw [(fir_plain ty bn hbn).2 t hv] at this;exact this) ?_
 refine q_run [24] 60 ?_
 refine qV (nT (wd++[32]++name++[32]++typT ty++[32,61,32]++t)) (S:=(do eqGuard .add 9 (.tmp 20) (.tmp 23) (nT (wd++[32]++name++[32]++typT ty++[32,61,32])) (nT (t));binOp .add 9 (nT (wd++[32]++name++[32]++typT ty++[32,61,32])) (nT (t)))) (fun W _=>cat_str _ _ (wd++[32]++name++[32]++typT ty++[32,61,32]) (t) (by simp only [List.length_append,List.length_cons,List.length_nil] at hlen ⊢;omega) W) ?_
 refine q_run [25] 60 ?_
 refine qV (nT (wd++[32]++name++[32]++typT ty++[32,61,32]++t++[59,10])) (S:=(do eqGuard .add 9 (.tmp 24) (.const (nT [59,10])) (nT (wd++[32]++name++[32]++typT ty++[32,61,32]++t)) (nT ([59,10]));binOp .add 9 (nT (wd++[32]++name++[32]++typT ty++[32,61,32]++t)) (nT ([59,10])))) (fun W _=>cat_str _ _ (wd++[32]++name++[32]++typT ty++[32,61,32]++t) ([59,10]) (by simp only [List.length_append,List.length_cons,List.length_nil] at hlen ⊢;omega) W) ?_
 refine q_run [] 60 ?_
 refine qE ?_
 refine rk ?_
 refine gw b (wd++[32]++name++[32]++typT ty++[32,61,32]++t++[59,10]) h0 (by first | omega | (simp only [List.length_append,List.length_cons,List.length_nil] at hlen ⊢;omega)) ?_
 intro w1 B1 hc1 _ _
 refine rk ?_
 refine gR (.tuple #[]) (fun W hk=>⟨rfl,?_⟩)
 have:=hc1.fin hk
 simpa only [List.append_assoc,List.cons_append,List.nil_append] using this
theorem repeatL_flat (x:List UInt8):∀ n,Lib.repeatL x n=(List.replicate n x).flatten
 | 0=>rfl
 | n+1=>by
   show x++Lib.repeatL x n=_
   rw [repeatL_flat x n,List.replicate_succ,List.flatten_cons]
theorem margT_len (deep:Nat):(margT deep).length=2*(deep+1):=by
 unfold margT
 rw [← repeatL_flat,Lib.repeatL_length]
 simp
 omega
theorem pindent_any (deep:Nat) (l:List UInt8) (b:Nat) (w:World) (hd:deep≤1000000) (hb:Bu b l w) (hlen:l.length+(margT deep).length≤140737488355328):
  Calls Tryz.prog 126 #[nP b,nI (deep:Int)] w fun e w'=>e = .returned (.tuple #[])∧WrR b (l++margT deep) w w':=by
 have h0:=Ch.start hb
 refine eN [nP b,nI (deep:Int)] Tryz.func126 (fun γ0 hγ0=>?_)
 refine rk ?_
 refine good_drawL sy_mixed (by kernel_rfl) ?_
 refine q_run [9] 60 ?_
 refine qS 8 (x:=nI (wrapF .i64 ((deep:Int)+1))) (nI ((deep+1:Nat):Int)) (by rw [wr64 (by omega) (by omega)];rfl) ?_
 refine q_run [] 60 ?_
 refine qB [nT [32,32],nI ((deep+1:Nat):Int)] (nT (margT deep)) (fun W hk=>by have:=Tryz.strings_Repeat (str [32,32]) (deep+1) W (by omega) (by rw [str_size];simp only [List.length_cons,List.length_nil];omega);rw [show (⟨(Lib.repeatL (str [32,32]).data.toList (deep+1)).toArray⟩:ByteArray)=str (margT deep) from congrArg str (repeatL_flat _ _)] at this;exact this) ?_
 refine q_run [] 60 ?_
 refine qE ?_
 refine rk ?_
 refine gw b (margT deep) h0 (by first | omega | (simp only [List.length_append,List.length_cons,List.length_nil] at hlen ⊢;omega)) ?_
 intro w1 B1 hc1 _ _
 refine rk ?_
 refine gR (.tuple #[]) (fun W hk=>⟨rfl,?_⟩)
 have:=hc1.fin hk
 simpa only [List.append_assoc] using this
theorem pheaded_any (wd en:List UInt8) (e:Ex) (cs:List Value) (t l:List UInt8) (b:Nat) (w:World) (hB:exB e≤1000000000000) (hR:exR e) (ht:Tab w) (hT:exT e=some t) (hb:Bu b l w) (hlen:l.length+(wd++([32]++(t++(en++[10])))).length≤140737488355328) (hat:ExAt (Out b w) w e cs):
  Calls Tryz.prog 127 #[nP b,nT wd,.agg cs.toArray,nT en] w fun e w'=>e = .returned (.tuple #[])∧WrR b (l++(wd++([32]++(t++(en++[10]))))) w w':=by
 obtain ⟨uo,ut,uv,un,uk⟩:=e
 have hat0:=hat
 simp only [ExAt] at hat0
 obtain ⟨uf,ug,uex,rfl,_⟩:=hat0
 have h0:=Ch.start hb
 refine eN [nP b,nT wd,xV uo ut uv un uf uk.length ug,nT en] Tryz.func127 (fun γ0 hγ0=>?_)
 refine rs [12] 60 0 ?_
 refine gC (wd) ([32]) (by simp only [List.length_append,List.length_cons,List.length_nil] at hlen ⊢;omega) ?_
 refine rk ?_
 refine gw b (wd++[32]) h0 (by first | omega | (simp only [List.length_append,List.length_cons,List.length_nil] at hlen ⊢;omega)) ?_
 intro w1 B1 hc1 _ _
 refine rk ?_
 refine gH [nP b,xV uo ut uv un uf uk.length ug] b (t) (.tuple #[]) hc1 (fun W hk hbu hA=>put_any _ (Ex.mk uo ut uv un uk) (xL uo ut uv un uf uk.length ug) t _ b W (Nat.le_refl _) hB hR (ht.out hb (hc1.keep hk)) hT hbu (by simp only [List.length_append,List.length_cons,List.length_nil] at hlen ⊢;omega) (hat.keep (hc1.keep hk) hA)) ?_
 intro w2 B2 hc2 _ _
 refine rs [21] 60 0 ?_
 refine gC (en) ([10]) (by simp only [List.length_append,List.length_cons,List.length_nil] at hlen ⊢;omega) ?_
 refine rk ?_
 refine gw b (en++[10]) hc2 (by first | omega | (simp only [List.length_append,List.length_cons,List.length_nil] at hlen ⊢;omega)) ?_
 intro w3 B3 hc3 _ _
 refine rk ?_
 refine gR (.tuple #[]) (fun W hk=>⟨rfl,?_⟩)
 have:=hc3.fin hk
 simpa only [List.append_assoc] using this
end
end Go.Proofs.YtiacalnkmnckjaaGreatDoor
