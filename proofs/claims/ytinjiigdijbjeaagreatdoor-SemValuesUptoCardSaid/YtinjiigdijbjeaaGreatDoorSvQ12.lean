/- Texts of this proof, one behind the other. Conditions: those in each theorem. -/
import Derived.Test.YtinjiigdijbjeaaGreatDoorSvQ11
import Derived.Test.YtinjiigdijbjeaaGreatDoorSvQ9
set_option linter.unusedVariables false
set_option linter.unusedSimpArgs false
namespace Go.Proofs.YtinjiigdijbjeaaGreatDoor
open Go.RowKit Go.As
section
set_option maxRecDepth 100000
theorem typT_eq {ty bits:Int} {t:List UInt8} (h:valT ty bits=some t):ptypT ty=typT ty:=by
 unfold ptypT typT
 by_cases h1:ty=1
 · subst h1;rfl
 by_cases h2:ty=2
 · subst h2;rfl
 by_cases h3:ty=3
 · subst h3;rfl
 unfold valT litT at h
 rw [if_neg h1,if_neg h3,if_neg h1,if_neg h2,if_neg h3] at h
 cases h
open Go.Sy
theorem pvariable_any (wd:List UInt8) (v:Vr) (u l:List UInt8) (b:Nat) (w:World) (hR:vrR v) (ht:Tab w) (hT:vrT wd v=some u) (hb:Bu b l w) (hlen:l.length+u.length≤140737488355328):
  Calls Tryz.prog 167 #[nP b,nT wd,.agg #[nT v.name,n8 v.ty,n6 v.bits]] w fun e w'=>e = .returned (.tuple #[])∧WrR b (l++u) w w':=by
 obtain ⟨name,ty,bits⟩:=v
 obtain ⟨_,hb1,hb2⟩:=hR
 simp only at hb1 hb2 ⊢
 obtain ⟨bn,rfl⟩:∃ bn:Nat,bits=(bn:Int):=⟨bits.toNat,by omega⟩
 have hbn:bn<18446744073709551616:=by omega
 unfold vrT at hT
 simp only at hT
 split at hT
 rotate_left
 · cases hT
 rw [Option.map_eq_some_iff] at hT
 obtain ⟨t,hv,rfl⟩:=hT
 have h0:=Ch.start hb
 refine eN [nP b,nT wd,.agg #[nT name,n8 ty,n6 (bn:Int)]] Tryz.func167 (fun γ0 hγ0=>?_)
 refine rs [] 4 0 ?_
 refine good_drawL sy_mixed (by kernel_rfl) ?_
 refine q_run [10] 60 ?_
 refine qV (nT (wd++[32])) (S:=(do eqGuard .add 9 (.tmp 9) (.const (nT [32])) (nT (wd)) (nT ([32]));binOp .add 9 (nT (wd)) (nT ([32])))) (fun W _=>cat_str _ _ (wd) ([32]) (by simp only [List.length_append,List.length_cons,List.length_nil] at hlen ⊢;omega) W) ?_
 refine q_run [13] 60 ?_
 refine qV (nT (wd++[32]++name)) (S:=(do eqGuard .add 9 (.tmp 10) (.tmp 12) (nT (wd++[32])) (nT (name));binOp .add 9 (nT (wd++[32])) (nT (name)))) (fun W _=>cat_str _ _ (wd++[32]) (name) (by simp only [List.length_append,List.length_cons,List.length_nil] at hlen ⊢;omega) W) ?_
 refine q_run [14] 60 ?_
 refine qV (nT (wd++[32]++name++[32])) (S:=(do eqGuard .add 9 (.tmp 13) (.const (nT [32])) (nT (wd++[32]++name)) (nT ([32]));binOp .add 9 (nT (wd++[32]++name)) (nT ([32])))) (fun W _=>cat_str _ _ (wd++[32]++name) ([32]) (by simp only [List.length_append,List.length_cons,List.length_nil] at hlen ⊢;omega) W) ?_
 refine q_run [19] 60 ?_
 refine qB [n8 ty] (nT (typT ty)) (fun W hk=>by have:=ptype_any ty W;rw [typT_eq hv] at this;exact this) ?_
 refine q_run [19] 60 ?_
 refine qV (nT (wd++[32]++name++[32]++typT ty)) (S:=(do eqGuard .add 9 (.tmp 14) (.tmp 18) (nT (wd++[32]++name++[32])) (nT (typT ty));binOp .add 9 (nT (wd++[32]++name++[32])) (nT (typT ty)))) (fun W _=>cat_str _ _ (wd++[32]++name++[32]) (typT ty) (by simp only [List.length_append,List.length_cons,List.length_nil] at hlen ⊢;omega) W) ?_
 refine q_run [20] 60 ?_
 refine qV (nT (wd++[32]++name++[32]++typT ty++[32,61,32])) (S:=(do eqGuard .add 9 (.tmp 19) (.const (nT [32,61,32])) (nT (wd++[32]++name++[32]++typT ty)) (nT ([32,61,32]));binOp .add 9 (nT (wd++[32]++name++[32]++typT ty)) (nT ([32,61,32])))) (fun W _=>cat_str _ _ (wd++[32]++name++[32]++typT ty) ([32,61,32]) (by simp only [List.length_append,List.length_cons,List.length_nil] at hlen ⊢;omega) W) ?_
 refine q_run [24] 60 ?_
 refine qB [.agg #[n8 ty,n6 (bn:Int)]] (nT t) (fun W hk=>by have:=tvalue_any ty bn hbn W (ht.below (Keep.below hk));rw [(fir_plain ty bn hbn).2 t hv] at this;exact this) ?_
 refine q_run [24] 60 ?_
 refine qV (nT (wd++[32]++name++[32]++typT ty++[32,61,32]++t)) (S:=(do eqGuard .add 9 (.tmp 20) (.tmp 23) (nT (wd++[32]++name++[32]++typT ty++[32,61,32])) (nT (t));binOp .add 9 (nT (wd++[32]++name++[32]++typT ty++[32,61,32])) (nT (t)))) (fun W _=>cat_str _ _ (wd++[32]++name++[32]++typT ty++[32,61,32]) (t) (by simp only [List.length_append,List.length_cons,List.length_nil] at hlen ⊢;omega) W) ?_
 refine q_run [25] 60 ?_
 refine qV (nT (wd++[32]++name++[32]++typT ty++[32,61,32]++t++[59,10])) (S:=(do eqGuard .add 9 (.tmp 24) (.const (nT [59,10])) (nT (wd++[32]++name++[32]++typT ty++[32,61,32]++t)) (nT ([59,10]));binOp .add 9 (nT (wd++[32]++name++[32]++typT ty++[32,61,32]++t)) (nT ([59,10])))) (fun W _=>cat_str _ _ (wd++[32]++name++[32]++typT ty++[32,61,32]++t) ([59,10]) (by simp only [List.length_append,List.length_cons,List.length_nil] at hlen ⊢;omega) W) ?_
 refine q_run [] 60 ?_
 refine qE ?_
 refine rk ?_
 refine gw b (wd++[32]++name++[32]++typT ty++[32,61,32]++t++[59,10]) h0 (by first | omega | (simp only [List.length_append,List.length_cons,List.length_nil] at hlen ⊢;omega)) ?_
 intro w1 B1 hc1 _ _
 refine rk ?_
 refine gR (.tuple #[]) (fun W hk=>⟨rfl,?_⟩)
 have:=hc1.fin hk
 simpa only [List.append_assoc,List.cons_append,List.nil_append] using this
theorem repeatL_flat (x:List UInt8):∀ n,Lib.repeatL x n=(List.replicate n x).flatten
 | 0=>rfl
 | n+1=>by
   show x++Lib.repeatL x n=_
   rw [repeatL_flat x n,List.replicate_succ,List.flatten_cons]
theorem margT_len (deep:Nat):(margT deep).length=2*(deep+1):=by
 unfold margT
 rw [← repeatL_flat,Lib.repeatL_length]
 simp
 omega
theorem pindent_any (deep:Nat) (l:List UInt8) (b:Nat) (w:World) (hd:deep≤1000000) (hb:Bu b l w) (hlen:l.length+(margT deep).length≤140737488355328):
  Calls Tryz.prog 207 #[nP b,nI (deep:Int)] w fun e w'=>e = .returned (.tuple #[])∧WrR b (l++margT deep) w w':=by
 have h0:=Ch.start hb
 refine eN [nP b,nI (deep:Int)] Tryz.func207 (fun γ0 hγ0=>?_)
 refine rk ?_
 refine good_drawL sy_mixed (by kernel_rfl) ?_
 refine q_run [9] 60 ?_
 refine qS 8 (x:=nI (wrapF .i64 ((deep:Int)+1))) (nI ((deep+1:Nat):Int)) (by rw [wr64 (by omega) (by omega)];rfl) ?_
 refine q_run [] 60 ?_
 refine qB [nT [32,32],nI ((deep+1:Nat):Int)] (nT (margT deep)) (fun W hk=>by have:=Tryz.strings_Repeat (str [32,32]) (deep+1) W (by omega) (by rw [str_size];simp only [List.length_cons,List.length_nil];omega);rw [show (⟨(Lib.repeatL (str [32,32]).data.toList (deep+1)).toArray⟩:ByteArray)=str (margT deep) from congrArg str (repeatL_flat _ _)] at this;exact this) ?_
 refine q_run [] 60 ?_
 refine qE ?_
 refine rk ?_
 refine gw b (margT deep) h0 (by first | omega | (simp only [List.length_append,List.length_cons,List.length_nil] at hlen ⊢;omega)) ?_
 intro w1 B1 hc1 _ _
 refine rk ?_
 refine gR (.tuple #[]) (fun W hk=>⟨rfl,?_⟩)
 have:=hc1.fin hk
 simpa only [List.append_assoc] using this
theorem pheaded_any (wd en:List UInt8) (e:Ex) (cs:List Value) (t l:List UInt8) (b:Nat) (w:World) (hB:exB e≤1000000000000) (hR:exR e) (ht:Tab w) (hT:exT e=some t) (hb:Bu b l w) (hlen:l.length+(wd++([32]++(t++(en++[10])))).length≤140737488355328) (hat:ExAt (Out b w) w e cs):
  Calls Tryz.prog 208 #[nP b,nT wd,.agg cs.toArray,nT en] w fun e w'=>e = .returned (.tuple #[])∧WrR b (l++(wd++([32]++(t++(en++[10]))))) w w':=by
 obtain ⟨uo,ut,uv,un,uk⟩:=e
 have hat0:=hat
 simp only [ExAt] at hat0
 obtain ⟨uf,ug,uex,rfl,_⟩:=hat0
 have h0:=Ch.start hb
 refine eN [nP b,nT wd,xV uo ut uv un uf uk.length ug,nT en] Tryz.func208 (fun γ0 hγ0=>?_)
 refine rs [12] 60 0 ?_
 refine gC (wd) ([32]) (by simp only [List.length_append,List.length_cons,List.length_nil] at hlen ⊢;omega) ?_
 refine rk ?_
 refine gw b (wd++[32]) h0 (by first | omega | (simp only [List.length_append,List.length_cons,List.length_nil] at hlen ⊢;omega)) ?_
 intro w1 B1 hc1 _ _
 refine rk ?_
 refine gH [nP b,xV uo ut uv un uf uk.length ug] b (t) (.tuple #[]) hc1 (fun W hk hbu hA=>put_any _ (Ex.mk uo ut uv un uk) (xL uo ut uv un uf uk.length ug) t _ b W (Nat.le_refl _) hB hR (ht.out hb (hc1.keep hk)) hT hbu (by simp only [List.length_append,List.length_cons,List.length_nil] at hlen ⊢;omega) (hat.keep (hc1.keep hk) hA)) ?_
 intro w2 B2 hc2 _ _
 refine rs [21] 60 0 ?_
 refine gC (en) ([10]) (by simp only [List.length_append,List.length_cons,List.length_nil] at hlen ⊢;omega) ?_
 refine rk ?_
 refine gw b (en++[10]) hc2 (by first | omega | (simp only [List.length_append,List.length_cons,List.length_nil] at hlen ⊢;omega)) ?_
 intro w3 B3 hc3 _ _
 refine rk ?_
 refine gR (.tuple #[]) (fun W hk=>⟨rfl,?_⟩)
 have:=hc3.fin hk
 simpa only [List.append_assoc] using this
end
section
set_option maxRecDepth 100000
def wdT (kind:Int):List UInt8:=if kind=5 then [105,102] else [119,104,105,108,101]
def nsT (deep:Nat) (kind:Int) (te tb tl:List UInt8) (n:Nat):List UInt8:=
 (wdT kind++([32]++(te++([32,123]++[10]))))++(tb++(margT deep++((if 0<n then [125,32,101,108,115,101,32,123,10]++(tl++margT deep) else [])++[125,10])))
theorem ex32_exT {e:Ex} {t:List UInt8} (h:ex32 e=some t):exT e=some t:=by
 unfold ex32 at h
 split at h
 · exact h
 · cases h
theorem stT_inv {deep:Nat} {kind:Int} {name t:List UInt8} {e:Ex} {body els:List St} (h:stT deep (.mk kind name e body els)=some t):
  (kind=1∧∃ te,exT e=some te∧t=margT deep++((name++[32,61])++([32]++(te++([59]++[10])))))∨
  (kind=2∧t=margT deep++([108,111,99,107,32]++name++[59,10]))∨
  (kind=3∧t=margT deep++([117,110,108,111,99,107,32]++name++[59,10]))∨
  (kind=4∧∃ te,exT e=some te∧t=margT deep++([97,115,115,101,114,116]++([32]++(te++([59]++[10])))))∨
  (kind=7∧t=margT deep++[115,107,105,112,59,10])∨
  (kind=5∧∃ te tb tl,exT e=some te∧stsT (deep+1) body=some tb∧stsT (deep+1) els=some tl∧t=margT deep++nsT deep kind te tb tl els.length)∨
  (kind=6∧∃ te tb tl,exT e=some te∧stsT (deep+1) body=some tb∧stsT (deep+1) els=some tl∧t=margT deep++nsT deep kind te tb tl els.length):=by
 simp only [stT] at h
 by_cases c1:kind=1
 · rw [if_pos c1] at h
   split at h
   · rw [Option.map_eq_some_iff] at h
     obtain ⟨te,he,rfl⟩:=h
     exact .inl ⟨c1,te,ex32_exT he,by simp⟩
   · cases h
 rw [if_neg c1] at h
 by_cases c2:kind=2
 · rw [if_pos c2] at h
   split at h
   · injection h with h
     exact .inr (.inl ⟨c2,by rw [← h];simp⟩)
   · cases h
 rw [if_neg c2] at h
 by_cases c3:kind=3
 · rw [if_pos c3] at h
   split at h
   · injection h with h
     exact .inr (.inr (.inl ⟨c3,by rw [← h];simp⟩))
   · cases h
 rw [if_neg c3] at h
 by_cases c4:kind=4
 · rw [if_pos c4] at h
   split at h
   · rw [Option.map_eq_some_iff] at h
     obtain ⟨te,he,rfl⟩:=h
     exact .inr (.inr (.inr (.inl ⟨c4,te,ex32_exT he,by simp⟩)))
   · cases h
 rw [if_neg c4] at h
 by_cases c7:kind=7
 · rw [if_pos c7] at h
   split at h
   · injection h with h
     exact .inr (.inr (.inr (.inr (.inl ⟨c7,by rw [← h]⟩))))
   · cases h
 rw [if_neg c7] at h
 by_cases c5:kind=5∨kind=6
 · rw [if_pos c5] at h
   cases hb:stsT (deep+1) body with
   | none=>rw [hb] at h;cases h
   | some tb=>
     cases hl:stsT (deep+1) els with
     | none=>rw [hb,hl] at h;cases h
     | some tl=>
       cases he:ex32 e with
       | none=>rw [hb,hl,he] at h;cases h
       | some te=>
         rw [hb,hl,he] at h
         simp only at h
         split at h
         · cases h
         rename_i hz
         have key:t=margT deep++nsT deep kind te tb tl els.length:=by
          unfold nsT wdT
          by_cases c6:kind=6
          · rw [if_pos c6] at h
            injection h with h
            rw [← h,if_neg (show ¬ kind=5 by omega),if_neg (fun hp=>hz (.inr ⟨c6,hp⟩))]
            simp
          · rw [if_neg c6] at h
            rw [if_pos (show kind=5 by omega)]
            split at h
            · rename_i hp
              injection h with h
              rw [← h,if_pos hp]
              simp
            · rename_i hp
              injection h with h
              rw [← h,if_neg hp]
              simp
         rcases c5 with c5 | c5
         · exact .inr (.inr (.inr (.inr (.inr (.inl ⟨c5,te,tb,tl,ex32_exT he,rfl,rfl,key⟩)))))
         · exact .inr (.inr (.inr (.inr (.inr (.inr ⟨c5,te,tb,tl,ex32_exT he,rfl,rfl,key⟩)))))
 · rw [if_neg c5] at h
   cases h
theorem stsT_some {deep:Nat} {L:List St} {t:List UInt8} (h:stsT deep L=some t):allT (stT deep) L=some t∧(L=[]∨deep≤32):=by
 rw [stsT_all] at h
 split at h
 · cases h
 rename_i hn
 refine ⟨h,?_⟩
 cases L with
 | nil=>exact .inl rfl
 | cons x l=>right;simp at hn;exact hn
theorem allT_mid {α:Type} {f:α→Option (List UInt8)} {l1 l3:List α} {x:α} {t t1:List UInt8} (h:allT f (l1++x::l3)=some t) (h1:allT f l1=some t1):∃ tx t3,f x=some tx∧t=t1++(tx++t3)∧allT f (l1++[x])=some (t1++tx):=by
 rw [allT_app,h1] at h
 simp only [allT] at h
 cases hx:f x with
 | none=>rw [hx] at h;cases h
 | some tx=>
   rw [hx] at h
   cases h3:allT f l3 with
   | none=>rw [h3] at h;cases h
   | some t3=>
     rw [h3] at h
     injection h with h
     refine ⟨tx,t3,rfl,h.symm,?_⟩
     rw [allT_app,h1]
     simp only [allT,hx,List.append_nil]
def BlkW (N:Nat):Prop:=∀ (L:List St) (a:Option Addr) (n cap:Nat) (xs:List Value) (deep:Nat) (t l:List UInt8) (b:Nat) (w:World),n=L.length→swts L<N→swts L≤1000000000000→deep≤1000→stBs L≤1000000000000→stRs L→Tab w→stsT deep L=some t→Bu b l w→l.length+t.length≤140737488355328→Sy.SlAt (Out b w) w a n 9 xs→LsAt (StAt (Out b w) w) L xs→
    Calls Tryz.prog 168 #[.pointer (some ⟨b,0,none⟩),.slice a n cap,.int .i64 (deep:Int)] w fun e w'=>e = .returned (.tuple #[])∧WrR b (l++t) w w'
open Go.Sy
theorem pnested5_of (N:Nat) (ih:BlkW N) (us:List UInt8) (uo ut uv:Int) (un:List UInt8) (uk:List Ex) (uB uL:List St) (uj ui uf:Option Addr) (uh uw ug:Nat) (deep:Nat) (ubx ulx:List Value) (te tb tl l:List UInt8) (b:Nat) (w:World) (hN:swt (St.mk 5 us (Ex.mk uo ut uv un uk) uB uL)≤N) (hbd:swt (St.mk 5 us (Ex.mk uo ut uv un uk) uB uL)≤1000000000000) (hdeep:deep≤999) (hB:stB (St.mk 5 us (Ex.mk uo ut uv un uk) uB uL)≤1000000000000) (hR:stR (St.mk 5 us (Ex.mk uo ut uv un uk) uB uL)) (ht:Tab w)
  (hte:exT (Ex.mk uo ut uv un uk)=some te) (htb:stsT (deep+1) uB=some tb) (htl:stsT (deep+1) uL=some tl) (hb:Bu b l w) (hlen:l.length+(nsT deep 5 te tb tl uL.length).length≤140737488355328)
  (uhe:ExAt (Out b w) w (Ex.mk uo ut uv un uk) (xL uo ut uv un uf uk.length ug)) (uhbs:SlAt (Out b w) w uj uB.length 9 ubx) (uhbt:StsAt (Out b w) w uB ubx) (uhls:SlAt (Out b w) w ui uL.length 9 ulx) (uhlt:StsAt (Out b w) w uL ulx):
  Calls Tryz.prog 209 #[nP b,yV 5 us uo ut uv un uf uk.length ug uj uB.length uh ui uL.length uw,nI (deep:Int)] w fun e w'=>e = .returned (.tuple #[])∧WrR b (l++nsT deep 5 te tb tl uL.length) w w':=by
 simp only [swt] at hN hbd
 simp only [stB] at hB
 obtain ⟨_,hRe,hRb,hRl⟩:=hR
 have hnb:=swts_len uB
 have hnl:=swts_len uL
 have hwe:=wgt_pos (Ex.mk uo ut uv un uk)
 unfold nsT at hlen ⊢
 rw [show wdT 5=[105,102] from rfl] at hlen ⊢
 have h0:=Ch.start hb
 refine eN [nP b,yV 5 us uo ut uv un uf uk.length ug uj uB.length uh ui uL.length uw,nI (deep:Int)] Tryz.func209 (fun γ0 hγ0=>?_)
 refine rs [] 60 2 ?_
 refine gH [nP b,nT [105,102],xV uo ut uv un uf uk.length ug,nT [32,123]] b ([105,102]++([32]++(te++([32,123]++[10])))) (.tuple #[]) h0 (fun W hk hbu hA=>pheaded_any [105,102] [32,123] (Ex.mk uo ut uv un uk) (xL uo ut uv un uf uk.length ug) te _ b W (by omega) hRe (ht.out hb (h0.keep hk)) hte hbu (by simp only [List.length_append,List.length_cons,List.length_nil] at hlen ⊢;omega) (uhe.keep (h0.keep hk) hA)) ?_
 intro w1 B1 hc1 _ _
 refine rk ?_
 refine gS 19 (x:=nI (wrapF .i64 ((deep:Int)+1))) (nI ((deep+1:Nat):Int)) (by rw [wr64 (by omega) (by omega)];rfl) ?_
 refine gH [nP b,.slice uj uB.length uh,nI ((deep+1:Nat):Int)] b (tb) (.tuple #[]) hc1 (fun W hk hbu hA=>ih uB uj uB.length uh ubx (deep+1) tb _ b W rfl (by omega) (by omega) (by omega) (by omega) hRb (ht.out hb (hc1.keep hk)) htb hbu (by simp only [List.length_append,List.length_cons,List.length_nil] at hlen ⊢;omega) ((uhbs.keep (hc1.keep hk)).mono hA) (StsAt_ls.1 (uhbt.keep (hc1.keep hk) hA))) ?_
 intro w2 B2 hc2 _ _
 refine rk ?_
 refine gH [nP b,nI (deep:Int)] b (margT deep) (.tuple #[]) hc2 (fun W hk hbu hA=>pindent_any deep _ b W (by omega) hbu (by simp only [List.length_append,List.length_cons,List.length_nil] at hlen ⊢;omega)) ?_
 intro w3 B3 hc3 _ _
 refine rk ?_
 rcases Nat.eq_zero_or_pos uL.length with hz | hz
 ·
  rw [if_neg (show ¬ 0<uL.length by omega)] at hlen ⊢
  refine ky 0 (uL.length:Int) (by omega) ?_
  refine rk ?_
  refine gw b ([125,10]) hc3 (by simp only [List.length_append,List.length_cons,List.length_nil] at hlen ⊢;omega) ?_
  intro w4 B4 hc4 _ _
  refine rk ?_
  refine gR (.tuple #[]) (fun W hk=>⟨rfl,?_⟩)
  have:=hc4.fin hk
  simpa only [List.append_assoc,List.nil_append] using this
 ·
  rw [if_pos hz] at hlen ⊢
  refine kx 0 (uL.length:Int) (by omega) ?_
  refine rk ?_
  refine gw b ([125,32,101,108,115,101,32,123,10]) hc3 (by simp only [List.length_append,List.length_cons,List.length_nil] at hlen ⊢;omega) ?_
  intro w4 B4 hc4 _ _
  refine rk ?_
  refine gS 36 (x:=nI (wrapF .i64 ((deep:Int)+1))) (nI ((deep+1:Nat):Int)) (by rw [wr64 (by omega) (by omega)];rfl) ?_
  refine gH [nP b,.slice ui uL.length uw,nI ((deep+1:Nat):Int)] b (tl) (.tuple #[]) hc4 (fun W hk hbu hA=>ih uL ui uL.length uw ulx (deep+1) tl _ b W rfl (by omega) (by omega) (by omega) (by omega) hRl (ht.out hb (hc4.keep hk)) htl hbu (by simp only [List.length_append,List.length_cons,List.length_nil] at hlen ⊢;omega) ((uhls.keep (hc4.keep hk)).mono hA) (StsAt_ls.1 (uhlt.keep (hc4.keep hk) hA))) ?_
  intro w5 B5 hc5 _ _
  refine rk ?_
  refine gH [nP b,nI (deep:Int)] b (margT deep) (.tuple #[]) hc5 (fun W hk hbu hA=>pindent_any deep _ b W (by omega) hbu (by simp only [List.length_append,List.length_cons,List.length_nil] at hlen ⊢;omega)) ?_
  intro w6 B6 hc6 _ _
  refine rk ?_
  refine gw b ([125,10]) hc6 (by simp only [List.length_append,List.length_cons,List.length_nil] at hlen ⊢;omega) ?_
  intro w7 B7 hc7 _ _
  refine rk ?_
  refine gR (.tuple #[]) (fun W hk=>⟨rfl,?_⟩)
  have:=hc7.fin hk
  simpa only [List.append_assoc,List.nil_append] using this
theorem pnested6_of (N:Nat) (ih:BlkW N) (us:List UInt8) (uo ut uv:Int) (un:List UInt8) (uk:List Ex) (uB uL:List St) (uj ui uf:Option Addr) (uh uw ug:Nat) (deep:Nat) (ubx ulx:List Value) (te tb tl l:List UInt8) (b:Nat) (w:World) (hN:swt (St.mk 6 us (Ex.mk uo ut uv un uk) uB uL)≤N) (hbd:swt (St.mk 6 us (Ex.mk uo ut uv un uk) uB uL)≤1000000000000) (hdeep:deep≤999) (hB:stB (St.mk 6 us (Ex.mk uo ut uv un uk) uB uL)≤1000000000000) (hR:stR (St.mk 6 us (Ex.mk uo ut uv un uk) uB uL)) (ht:Tab w)
  (hte:exT (Ex.mk uo ut uv un uk)=some te) (htb:stsT (deep+1) uB=some tb) (htl:stsT (deep+1) uL=some tl) (hb:Bu b l w) (hlen:l.length+(nsT deep 6 te tb tl uL.length).length≤140737488355328)
  (uhe:ExAt (Out b w) w (Ex.mk uo ut uv un uk) (xL uo ut uv un uf uk.length ug)) (uhbs:SlAt (Out b w) w uj uB.length 9 ubx) (uhbt:StsAt (Out b w) w uB ubx) (uhls:SlAt (Out b w) w ui uL.length 9 ulx) (uhlt:StsAt (Out b w) w uL ulx):
  Calls Tryz.prog 209 #[nP b,yV 6 us uo ut uv un uf uk.length ug uj uB.length uh ui uL.length uw,nI (deep:Int)] w fun e w'=>e = .returned (.tuple #[])∧WrR b (l++nsT deep 6 te tb tl uL.length) w w':=by
 simp only [swt] at hN hbd
 simp only [stB] at hB
 obtain ⟨_,hRe,hRb,hRl⟩:=hR
 have hnb:=swts_len uB
 have hnl:=swts_len uL
 have hwe:=wgt_pos (Ex.mk uo ut uv un uk)
 unfold nsT at hlen ⊢
 rw [show wdT 6=[119,104,105,108,101] from rfl] at hlen ⊢
 have h0:=Ch.start hb
 refine eN [nP b,yV 6 us uo ut uv un uf uk.length ug uj uB.length uh ui uL.length uw,nI (deep:Int)] Tryz.func209 (fun γ0 hγ0=>?_)
 refine rs [] 60 2 ?_
 refine gH [nP b,nT [119,104,105,108,101],xV uo ut uv un uf uk.length ug,nT [32,123]] b ([119,104,105,108,101]++([32]++(te++([32,123]++[10])))) (.tuple #[]) h0 (fun W hk hbu hA=>pheaded_any [119,104,105,108,101] [32,123] (Ex.mk uo ut uv un uk) (xL uo ut uv un uf uk.length ug) te _ b W (by omega) hRe (ht.out hb (h0.keep hk)) hte hbu (by simp only [List.length_append,List.length_cons,List.length_nil] at hlen ⊢;omega) (uhe.keep (h0.keep hk) hA)) ?_
 intro w1 B1 hc1 _ _
 refine rk ?_
 refine gS 19 (x:=nI (wrapF .i64 ((deep:Int)+1))) (nI ((deep+1:Nat):Int)) (by rw [wr64 (by omega) (by omega)];rfl) ?_
 refine gH [nP b,.slice uj uB.length uh,nI ((deep+1:Nat):Int)] b (tb) (.tuple #[]) hc1 (fun W hk hbu hA=>ih uB uj uB.length uh ubx (deep+1) tb _ b W rfl (by omega) (by omega) (by omega) (by omega) hRb (ht.out hb (hc1.keep hk)) htb hbu (by simp only [List.length_append,List.length_cons,List.length_nil] at hlen ⊢;omega) ((uhbs.keep (hc1.keep hk)).mono hA) (StsAt_ls.1 (uhbt.keep (hc1.keep hk) hA))) ?_
 intro w2 B2 hc2 _ _
 refine rk ?_
 refine gH [nP b,nI (deep:Int)] b (margT deep) (.tuple #[]) hc2 (fun W hk hbu hA=>pindent_any deep _ b W (by omega) hbu (by simp only [List.length_append,List.length_cons,List.length_nil] at hlen ⊢;omega)) ?_
 intro w3 B3 hc3 _ _
 refine rk ?_
 rcases Nat.eq_zero_or_pos uL.length with hz | hz
 ·
  rw [if_neg (show ¬ 0<uL.length by omega)] at hlen ⊢
  refine ky 0 (uL.length:Int) (by omega) ?_
  refine rk ?_
  refine gw b ([125,10]) hc3 (by simp only [List.length_append,List.length_cons,List.length_nil] at hlen ⊢;omega) ?_
  intro w4 B4 hc4 _ _
  refine rk ?_
  refine gR (.tuple #[]) (fun W hk=>⟨rfl,?_⟩)
  have:=hc4.fin hk
  simpa only [List.append_assoc,List.nil_append] using this
 ·
  rw [if_pos hz] at hlen ⊢
  refine kx 0 (uL.length:Int) (by omega) ?_
  refine rk ?_
  refine gw b ([125,32,101,108,115,101,32,123,10]) hc3 (by simp only [List.length_append,List.length_cons,List.length_nil] at hlen ⊢;omega) ?_
  intro w4 B4 hc4 _ _
  refine rk ?_
  refine gS 36 (x:=nI (wrapF .i64 ((deep:Int)+1))) (nI ((deep+1:Nat):Int)) (by rw [wr64 (by omega) (by omega)];rfl) ?_
  refine gH [nP b,.slice ui uL.length uw,nI ((deep+1:Nat):Int)] b (tl) (.tuple #[]) hc4 (fun W hk hbu hA=>ih uL ui uL.length uw ulx (deep+1) tl _ b W rfl (by omega) (by omega) (by omega) (by omega) hRl (ht.out hb (hc4.keep hk)) htl hbu (by simp only [List.length_append,List.length_cons,List.length_nil] at hlen ⊢;omega) ((uhls.keep (hc4.keep hk)).mono hA) (StsAt_ls.1 (uhlt.keep (hc4.keep hk) hA))) ?_
  intro w5 B5 hc5 _ _
  refine rk ?_
  refine gH [nP b,nI (deep:Int)] b (margT deep) (.tuple #[]) hc5 (fun W hk hbu hA=>pindent_any deep _ b W (by omega) hbu (by simp only [List.length_append,List.length_cons,List.length_nil] at hlen ⊢;omega)) ?_
  intro w6 B6 hc6 _ _
  refine rk ?_
  refine gw b ([125,10]) hc6 (by simp only [List.length_append,List.length_cons,List.length_nil] at hlen ⊢;omega) ?_
  intro w7 B7 hc7 _ _
  refine rk ?_
  refine gR (.tuple #[]) (fun W hk=>⟨rfl,?_⟩)
  have:=hc7.fin hk
  simpa only [List.append_assoc,List.nil_append] using this
end
section
open Go.Sy in
set_option maxRecDepth 100000 in
theorem blkW:∀ N,BlkW N:=by
 intro N
 induction N with
 | zero=>intro L a n cap xs deep t l b w _ h;omega
 | succ N ih=>
   intro L a n cap xs deep t l b w hn hN hbd hdeep hB hR ht hT0 hb hlen hsl hks
   obtain ⟨hT,hd⟩:=stsT_some hT0
   have hnl:=swts_len L
   have h0:=Ch.start hb
   refine eN [nP b,.slice a n cap,nI (deep:Int)] Tryz.func168 (fun γ0 hγ0=>?_)
   refine rk ?_
   refine good_toLp ?_
   refine good_loopB (fun i:List St×List St=>i.2.length) (fun i B1 w1=>L=i.1++i.2∧∃ t1,allT (stT deep) i.1=some t1∧Ch b (l++t1) (Out b w) w w1 B1) (fun i=>⟨mkT [(0,vP b),(2,vI (deep:Int)),(8,vL a n cap),(9,vI (n:Int)),(10,vI (i.1.length:Int))],mkH [],gz,[]⟩)
    ([],L) ⟨rfl,[],rfl,by rw [List.append_nil];exact h0⟩ (by kernel_rfl)
    (fun h=>gU _ [(0,vP b),(2,vI (deep:Int)),(8,vL a n cap),(9,vI (n:Int)),(10,vI (([]:List St).length:Int))] [] gz hγ0 h) ?_
   rintro ⟨l1,l2⟩ B1 w1 ⟨hI,t1,ht1,hch⟩ ih2
   have hI:L=l1++l2:=hI
   have ht1:allT (stT deep) l1=some t1:=ht1
   have hn2:n=l1.length+l2.length:=by rw [hn,hI,List.length_append]
   have hw1:swts L=swts l1+swts l2:=by rw [hI,swts_app]
   refine rk ?_
   cases l2 with
   | nil=>
     refine ky (l1.length:Int) (n:Int) (by simp at hn2;omega) ?_
     refine rs [] 60 1 ?_
     refine gR (.tuple #[]) (fun W hk=>⟨rfl,?_⟩)
     have:=hch.fin hk
     rw [hI,List.append_nil,ht1] at hT
     injection hT with hT
     rwa [hT] at this
   | cons x l3=>
     have hin:l1.length<n:=by rw [hn2,List.length_cons];omega
     have hks2:=StsAt_ls.2 hks
     have hT2:=hT
     rw [hI] at hks2 hT2
     obtain ⟨tx,t3,htx,rfl,htn⟩:=allT_mid hT2 ht1
     obtain ⟨c,hc,hcell⟩:=hks2.at_
     simp only [swts] at hw1
     have hdp:deep≤32:=hd.elim (fun e=>by rw [hI] at e;simp at e) id
     have hxR:stR x:=stRs_mem.1 hR x (by rw [hI];simp)
     have hxB:=stBs_mem (x:=x) (l:=L) (by rw [hI];simp)
     refine kx (l1.length:Int) (n:Int) (by omega) ?_
     refine rk ?_
     refine gI 53 91 cap l1.length hsl hin ?_
     refine rk ?_
     have hcl:=hc.len
     have hld:=fun W (hk:Keep _ _ W)=>load_slA (P:=Tryz.prog) (ty:=91) (m:=9) (cs:=c) hsl (by kernel_rfl) (by kernel_rfl) l1.length 0 hcl (fun j v hv=>by rw [Nat.add_zero];exact hcell j v hv) (W:=W) (hch.keep hk)
     obtain ⟨uK,us,⟨uo,ut,uv,un,uk⟩,uB,uL⟩:=x
     simp only [StAt] at hc
     obtain ⟨ucs,uj,uh,ubx,ui,uw,ulx,rfl,uhe,uhbs,uhbt,uhls,uhlt⟩:=hc
     have uhe0:=uhe
     simp only [ExAt] at uhe0
     obtain ⟨uf,ug,uex,rfl,_⟩:=uhe0
     have hxB2:=hxB
     simp only [stB] at hxB2
     obtain ⟨_,hRe,_,_⟩:=id hxR
     rcases stT_inv htx with ⟨rfl,te,hte,rfl⟩ | ⟨rfl,rfl⟩ | ⟨rfl,rfl⟩ | ⟨rfl,te,hte,rfl⟩ | ⟨rfl,rfl⟩ | ⟨rfl,te,tb,tl,hte,htb,htl,rfl⟩ | ⟨rfl,te,tb,tl,hte,htb,htl,rfl⟩
     ·
      refine gV (yV 1 us uo ut uv un uf uk.length ug uj uB.length uh ui uL.length uw) (S:=Instr.loadAt 91 (.pointer (some ⟨gB a,oB a+l1.length*9+0,none⟩))) (fun W hk=>hld W hk) ?_
      refine rk ?_
      refine gH [nP b,nI (deep:Int)] b (margT deep) (.tuple #[]) hch (fun W hk hbu hA=>pindent_any deep _ b W (by omega) hbu (by simp only [List.length_append,List.length_cons,List.length_nil] at hlen ⊢;omega)) ?_
      intro w1 B1 hc1 _ _
      refine rs [24] 60 9 ?_
      refine gC (us) ([32,61]) (by simp only [List.length_append,List.length_cons,List.length_nil] at hlen ⊢;omega) ?_
      refine rk ?_
      refine gH [nP b,nT (us++[32,61]),xV uo ut uv un uf uk.length ug,nT [59]] b ((us++[32,61])++([32]++(te++([59]++[10])))) (.tuple #[]) hc1 (fun W hk hbu hA=>pheaded_any (us++[32,61]) [59] (Ex.mk uo ut uv un uk) (xL uo ut uv un uf uk.length ug) te _ b W (by omega) hRe (ht.out hb (hc1.keep hk)) hte hbu (by simp only [List.length_append,List.length_cons,List.length_nil] at hlen ⊢;omega) (uhe.keep (hc1.keep hk) hA)) ?_
      intro w2 B2 hc2 _ _
      refine rk ?_
      refine gS 10 (x:=nI (wrapF .i64 ((l1.length:Int)+1))) (nI ((l1++[(St.mk 1 us (Ex.mk uo ut uv un uk) uB uL)]).length:Nat)) (by rw [wr64 (by omega) (by omega)];congr 1;simp) ?_
      exact gU _ [(0,vP b),(2,vI (deep:Int)),(8,vL a n cap),(9,vI (n:Int)),(10,vI ((l1++[(St.mk 1 us (Ex.mk uo ut uv un uk) uB uL)]).length:Int))] [] gz hγ0 (ih2 (l1++[(St.mk 1 us (Ex.mk uo ut uv un uk) uB uL)],l3) _ _ ⟨by show L=(l1++[_])++l3;rw [hI];simp,_,htn,by simpa only [List.append_assoc] using hc2⟩ lS1)
     ·
      refine gV (yV 2 us uo ut uv un uf uk.length ug uj uB.length uh ui uL.length uw) (S:=Instr.loadAt 91 (.pointer (some ⟨gB a,oB a+l1.length*9+0,none⟩))) (fun W hk=>hld W hk) ?_
      refine rk ?_
      refine gH [nP b,nI (deep:Int)] b (margT deep) (.tuple #[]) hch (fun W hk hbu hA=>pindent_any deep _ b W (by omega) hbu (by simp only [List.length_append,List.length_cons,List.length_nil] at hlen ⊢;omega)) ?_
      intro w1 B1 hc1 _ _
      refine rs [35] 19 9 ?_
      refine good_drawL sy_mixed (by kernel_rfl) ?_
      refine q_run [35] 60 ?_
      refine qV (nT ([108,111,99,107,32]++us)) (S:=(do eqGuard .add 9 (.const (nT [108,111,99,107,32])) (.tmp 34) (nT ([108,111,99,107,32])) (nT (us));binOp .add 9 (nT ([108,111,99,107,32])) (nT (us)))) (fun W _=>cat_str _ _ ([108,111,99,107,32]) (us) (by simp only [List.length_append,List.length_cons,List.length_nil] at hlen ⊢;omega) W) ?_
      refine q_run [36] 60 ?_
      refine qV (nT ([108,111,99,107,32]++us++[59,10])) (S:=(do eqGuard .add 9 (.tmp 35) (.const (nT [59,10])) (nT ([108,111,99,107,32]++us)) (nT ([59,10]));binOp .add 9 (nT ([108,111,99,107,32]++us)) (nT ([59,10])))) (fun W _=>cat_str _ _ ([108,111,99,107,32]++us) ([59,10]) (by simp only [List.length_append,List.length_cons,List.length_nil] at hlen ⊢;omega) W) ?_
      refine q_run [] 60 ?_
      refine qE ?_
      refine rk ?_
      refine gw b ([108,111,99,107,32]++us++[59,10]) hc1 (by simp only [List.length_append,List.length_cons,List.length_nil] at hlen ⊢;omega) ?_
      intro w2 B2 hc2 _ _
      refine rk ?_
      refine gS 10 (x:=nI (wrapF .i64 ((l1.length:Int)+1))) (nI ((l1++[(St.mk 2 us (Ex.mk uo ut uv un uk) uB uL)]).length:Nat)) (by rw [wr64 (by omega) (by omega)];congr 1;simp) ?_
      exact gU _ [(0,vP b),(2,vI (deep:Int)),(8,vL a n cap),(9,vI (n:Int)),(10,vI ((l1++[(St.mk 2 us (Ex.mk uo ut uv un uk) uB uL)]).length:Int))] [] gz hγ0 (ih2 (l1++[(St.mk 2 us (Ex.mk uo ut uv un uk) uB uL)],l3) _ _ ⟨by show L=(l1++[_])++l3;rw [hI];simp,_,htn,by simpa only [List.append_assoc] using hc2⟩ lS1)
     ·
      refine gV (yV 3 us uo ut uv un uf uk.length ug uj uB.length uh ui uL.length uw) (S:=Instr.loadAt 91 (.pointer (some ⟨gB a,oB a+l1.length*9+0,none⟩))) (fun W hk=>hld W hk) ?_
      refine rk ?_
      refine gH [nP b,nI (deep:Int)] b (margT deep) (.tuple #[]) hch (fun W hk hbu hA=>pindent_any deep _ b W (by omega) hbu (by simp only [List.length_append,List.length_cons,List.length_nil] at hlen ⊢;omega)) ?_
      intro w1 B1 hc1 _ _
      refine rs [45] 25 9 ?_
      refine good_drawL sy_mixed (by kernel_rfl) ?_
      refine q_run [45] 60 ?_
      refine qV (nT ([117,110,108,111,99,107,32]++us)) (S:=(do eqGuard .add 9 (.const (nT [117,110,108,111,99,107,32])) (.tmp 44) (nT ([117,110,108,111,99,107,32])) (nT (us));binOp .add 9 (nT ([117,110,108,111,99,107,32])) (nT (us)))) (fun W _=>cat_str _ _ ([117,110,108,111,99,107,32]) (us) (by simp only [List.length_append,List.length_cons,List.length_nil] at hlen ⊢;omega) W) ?_
      refine q_run [46] 60 ?_
      refine qV (nT ([117,110,108,111,99,107,32]++us++[59,10])) (S:=(do eqGuard .add 9 (.tmp 45) (.const (nT [59,10])) (nT ([117,110,108,111,99,107,32]++us)) (nT ([59,10]));binOp .add 9 (nT ([117,110,108,111,99,107,32]++us)) (nT ([59,10])))) (fun W _=>cat_str _ _ ([117,110,108,111,99,107,32]++us) ([59,10]) (by simp only [List.length_append,List.length_cons,List.length_nil] at hlen ⊢;omega) W) ?_
      refine q_run [] 60 ?_
      refine qE ?_
      refine rk ?_
      refine gw b ([117,110,108,111,99,107,32]++us++[59,10]) hc1 (by simp only [List.length_append,List.length_cons,List.length_nil] at hlen ⊢;omega) ?_
      intro w2 B2 hc2 _ _
      refine rk ?_
      refine gS 10 (x:=nI (wrapF .i64 ((l1.length:Int)+1))) (nI ((l1++[(St.mk 3 us (Ex.mk uo ut uv un uk) uB uL)]).length:Nat)) (by rw [wr64 (by omega) (by omega)];congr 1;simp) ?_
      exact gU _ [(0,vP b),(2,vI (deep:Int)),(8,vL a n cap),(9,vI (n:Int)),(10,vI ((l1++[(St.mk 3 us (Ex.mk uo ut uv un uk) uB uL)]).length:Int))] [] gz hγ0 (ih2 (l1++[(St.mk 3 us (Ex.mk uo ut uv un uk) uB uL)],l3) _ _ ⟨by show L=(l1++[_])++l3;rw [hI];simp,_,htn,by simpa only [List.append_assoc] using hc2⟩ lS1)
     ·
      refine gV (yV 4 us uo ut uv un uf uk.length ug uj uB.length uh ui uL.length uw) (S:=Instr.loadAt 91 (.pointer (some ⟨gB a,oB a+l1.length*9+0,none⟩))) (fun W hk=>hld W hk) ?_
      refine rk ?_
      refine gH [nP b,nI (deep:Int)] b (margT deep) (.tuple #[]) hch (fun W hk hbu hA=>pindent_any deep _ b W (by omega) hbu (by simp only [List.length_append,List.length_cons,List.length_nil] at hlen ⊢;omega)) ?_
      intro w1 B1 hc1 _ _
      refine rs [] 60 9 ?_
      refine gH [nP b,nT [97,115,115,101,114,116],xV uo ut uv un uf uk.length ug,nT [59]] b ([97,115,115,101,114,116]++([32]++(te++([59]++[10])))) (.tuple #[]) hc1 (fun W hk hbu hA=>pheaded_any [97,115,115,101,114,116] [59] (Ex.mk uo ut uv un uk) (xL uo ut uv un uf uk.length ug) te _ b W (by omega) hRe (ht.out hb (hc1.keep hk)) hte hbu (by simp only [List.length_append,List.length_cons,List.length_nil] at hlen ⊢;omega) (uhe.keep (hc1.keep hk) hA)) ?_
      intro w2 B2 hc2 _ _
      refine rk ?_
      refine gS 10 (x:=nI (wrapF .i64 ((l1.length:Int)+1))) (nI ((l1++[(St.mk 4 us (Ex.mk uo ut uv un uk) uB uL)]).length:Nat)) (by rw [wr64 (by omega) (by omega)];congr 1;simp) ?_
      exact gU _ [(0,vP b),(2,vI (deep:Int)),(8,vL a n cap),(9,vI (n:Int)),(10,vI ((l1++[(St.mk 4 us (Ex.mk uo ut uv un uk) uB uL)]).length:Int))] [] gz hγ0 (ih2 (l1++[(St.mk 4 us (Ex.mk uo ut uv un uk) uB uL)],l3) _ _ ⟨by show L=(l1++[_])++l3;rw [hI];simp,_,htn,by simpa only [List.append_assoc] using hc2⟩ lS1)
     ·
      refine gV (yV 7 us uo ut uv un uf uk.length ug uj uB.length uh ui uL.length uw) (S:=Instr.loadAt 91 (.pointer (some ⟨gB a,oB a+l1.length*9+0,none⟩))) (fun W hk=>hld W hk) ?_
      refine rk ?_
      refine gH [nP b,nI (deep:Int)] b (margT deep) (.tuple #[]) hch (fun W hk hbu hA=>pindent_any deep _ b W (by omega) hbu (by simp only [List.length_append,List.length_cons,List.length_nil] at hlen ⊢;omega)) ?_
      intro w1 B1 hc1 _ _
      refine rs [] 60 9 ?_
      refine gw b ([115,107,105,112,59,10]) hc1 (by simp only [List.length_append,List.length_cons,List.length_nil] at hlen ⊢;omega) ?_
      intro w2 B2 hc2 _ _
      refine rk ?_
      refine gS 10 (x:=nI (wrapF .i64 ((l1.length:Int)+1))) (nI ((l1++[(St.mk 7 us (Ex.mk uo ut uv un uk) uB uL)]).length:Nat)) (by rw [wr64 (by omega) (by omega)];congr 1;simp) ?_
      exact gU _ [(0,vP b),(2,vI (deep:Int)),(8,vL a n cap),(9,vI (n:Int)),(10,vI ((l1++[(St.mk 7 us (Ex.mk uo ut uv un uk) uB uL)]).length:Int))] [] gz hγ0 (ih2 (l1++[(St.mk 7 us (Ex.mk uo ut uv un uk) uB uL)],l3) _ _ ⟨by show L=(l1++[_])++l3;rw [hI];simp,_,htn,by simpa only [List.append_assoc] using hc2⟩ lS1)
     ·
      refine gV (yV 5 us uo ut uv un uf uk.length ug uj uB.length uh ui uL.length uw) (S:=Instr.loadAt 91 (.pointer (some ⟨gB a,oB a+l1.length*9+0,none⟩))) (fun W hk=>hld W hk) ?_
      refine rk ?_
      refine gH [nP b,nI (deep:Int)] b (margT deep) (.tuple #[]) hch (fun W hk hbu hA=>pindent_any deep _ b W (by omega) hbu (by simp only [List.length_append,List.length_cons,List.length_nil] at hlen ⊢;omega)) ?_
      intro w1 B1 hc1 _ _
      refine rs [] 60 9 ?_
      refine gH [nP b,yV 5 us uo ut uv un uf uk.length ug uj uB.length uh ui uL.length uw,nI (deep:Int)] b (nsT deep 5 te tb tl uL.length) (.tuple #[]) hc1 (fun W hk hbu hA=>pnested5_of N ih us uo ut uv un uk uB uL uj ui uf uh uw ug deep ubx ulx te tb tl _ b W (by omega) (by omega) (by omega) (by omega) hxR (ht.out hb (hc1.keep hk)) hte htb htl hbu (by simp only [List.length_append,List.length_cons,List.length_nil] at hlen ⊢;omega) (uhe.keep (hc1.keep hk) hA) ((uhbs.keep (hc1.keep hk)).mono hA) (uhbt.keep (hc1.keep hk) hA) ((uhls.keep (hc1.keep hk)).mono hA) (uhlt.keep (hc1.keep hk) hA)) ?_
      intro w2 B2 hc2 _ _
      refine rk ?_
      refine gS 10 (x:=nI (wrapF .i64 ((l1.length:Int)+1))) (nI ((l1++[(St.mk 5 us (Ex.mk uo ut uv un uk) uB uL)]).length:Nat)) (by rw [wr64 (by omega) (by omega)];congr 1;simp) ?_
      exact gU _ [(0,vP b),(2,vI (deep:Int)),(8,vL a n cap),(9,vI (n:Int)),(10,vI ((l1++[(St.mk 5 us (Ex.mk uo ut uv un uk) uB uL)]).length:Int))] [] gz hγ0 (ih2 (l1++[(St.mk 5 us (Ex.mk uo ut uv un uk) uB uL)],l3) _ _ ⟨by show L=(l1++[_])++l3;rw [hI];simp,_,htn,by simpa only [List.append_assoc] using hc2⟩ lS1)
     ·
      refine gV (yV 6 us uo ut uv un uf uk.length ug uj uB.length uh ui uL.length uw) (S:=Instr.loadAt 91 (.pointer (some ⟨gB a,oB a+l1.length*9+0,none⟩))) (fun W hk=>hld W hk) ?_
      refine rk ?_
      refine gH [nP b,nI (deep:Int)] b (margT deep) (.tuple #[]) hch (fun W hk hbu hA=>pindent_any deep _ b W (by omega) hbu (by simp only [List.length_append,List.length_cons,List.length_nil] at hlen ⊢;omega)) ?_
      intro w1 B1 hc1 _ _
      refine rs [] 60 9 ?_
      refine gH [nP b,yV 6 us uo ut uv un uf uk.length ug uj uB.length uh ui uL.length uw,nI (deep:Int)] b (nsT deep 6 te tb tl uL.length) (.tuple #[]) hc1 (fun W hk hbu hA=>pnested6_of N ih us uo ut uv un uk uB uL uj ui uf uh uw ug deep ubx ulx te tb tl _ b W (by omega) (by omega) (by omega) (by omega) hxR (ht.out hb (hc1.keep hk)) hte htb htl hbu (by simp only [List.length_append,List.length_cons,List.length_nil] at hlen ⊢;omega) (uhe.keep (hc1.keep hk) hA) ((uhbs.keep (hc1.keep hk)).mono hA) (uhbt.keep (hc1.keep hk) hA) ((uhls.keep (hc1.keep hk)).mono hA) (uhlt.keep (hc1.keep hk) hA)) ?_
      intro w2 B2 hc2 _ _
      refine rk ?_
      refine gS 10 (x:=nI (wrapF .i64 ((l1.length:Int)+1))) (nI ((l1++[(St.mk 6 us (Ex.mk uo ut uv un uk) uB uL)]).length:Nat)) (by rw [wr64 (by omega) (by omega)];congr 1;simp) ?_
      exact gU _ [(0,vP b),(2,vI (deep:Int)),(8,vL a n cap),(9,vI (n:Int)),(10,vI ((l1++[(St.mk 6 us (Ex.mk uo ut uv un uk) uB uL)]).length:Int))] [] gz hγ0 (ih2 (l1++[(St.mk 6 us (Ex.mk uo ut uv un uk) uB uL)],l3) _ _ ⟨by show L=(l1++[_])++l3;rw [hI];simp,_,htn,by simpa only [List.append_assoc] using hc2⟩ lS1)
end
section
theorem allT_isSome {α:Type} {f:α→Option (List UInt8)} {ok:α→Bool}:∀ (l:List α),(∀ x∈l,(f x).isSome=ok x)→(allT f l).isSome=!(l.any fun x=>!(ok x))
 | [],_=>rfl
 | x::l,h=>by
   have h1:=h x (by simp)
   have ih:=allT_isSome l (fun y hy=>h y (by simp [hy]))
   simp only [allT,List.any_cons]
   cases hx:f x with
   | none=>rw [hx] at h1;rw [← h1];simp
   | some t=>
     rw [hx] at h1
     rw [← h1]
     cases ht:allT f l with
     | none=>rw [ht] at ih;simp at ih ⊢;exact ih
     | some s=>rw [ht] at ih;simp at ih ⊢;exact ih
theorem okT_plain (x:Th) (h:thR x):(thT x).isSome=okT x:=by
 have h1:=allT_isSome (f:=vrT [32,32,108,111,99,97,108]) (ok:=okV) x.locals (fun v hv=>okV_vrT _ v (h.1 v hv))
 unfold thT okT okB
 cases ha:allT (vrT [32,32,108,111,99,97,108]) x.locals with
 | none=>rw [ha] at h1;rw [← h1];simp
 | some a=>
   rw [ha] at h1
   rw [← h1]
   cases hb:stsT 0 x.body with
   | none=>simp
   | some b=>cases hn:nameB x.name <;> simp
theorem okM_plain (m:List UInt8):(mxT m).isSome=nameB m:=by
 unfold mxT
 cases hn:nameB m <;> simp
theorem okP_plain (p:Pg) (h:pgR p):(pgT p).isSome=okP p:=by
 have h1:=allT_isSome (f:=vrT [115,104,97,114,101,100]) (ok:=okV) p.shared (fun v hv=>okV_vrT _ v (h.1 v hv))
 have h2:=allT_isSome (f:=mxT) (ok:=nameB) p.mutexes (fun m _=>okM_plain m)
 have h3:=allT_isSome (f:=thT) (ok:=okT) p.threads (fun x hx=>okT_plain x (h.2 x hx))
 unfold pgT okP
 rw [← h1,← h2,← h3]
 cases allT (vrT [115,104,97,114,101,100]) p.shared <;> cases allT mxT p.mutexes <;> cases allT thT p.threads <;> rfl
theorem Ch.give {k:Nat} {w1:World} {A B1:Nat→Prop} (hq:w1.heap[k]?=some (.cells #[.pointer none,.slice none 0 0] 86 (0,0))) (hB:B1 k) (hA:∀ j,A j→B1 j) (hn:¬ A k) (hB1:∀ j,B1 j→j<w1.heap.size):Ch k [] A w1 w1 B1:=by
 have hF:∀ j,BuF k w1 j↔j=k:=fun j=>by rw [BuF.at_ hq];simp [Value.ownBlock]
 refine ⟨⟨_,none,0,0,.inl rfl,hq,World.ownsRow_nil _ _ _ _,by simp [Value.ownBlock],fun _=>rfl⟩,fun j hj=>?_,hA,Sy.Keep.refl _ _,fun j hj => .inl hj,fun j hj=>⟨hB1 j (hA j hj),fun h=>?_⟩⟩
 · rw [(hF j).1 hj];exact hB
 · rw [(hF j).1 h] at hj;exact hn hj
section
open Go.Sy
variable {I:Aux} {B:Nat→Prop} {w0:World} {γ0:Gm} {nt:Nat} {Q:Exit→Act→World→Prop} {g:Cfg}
theorem good_bStr (cx:Cx Tryz.prog I B w0) {b:Nat} {l:List UInt8} {A:Nat→Prop} {win:World} (hch:Ch b l A win w0 B) (h:hdCall Tryz.prog nt g=some (33,[Value.pointer (some ⟨b,0,none⟩)].map norm)) (hbod:bodied Tryz.prog 33=some true) (hx:closeLL ([Value.pointer (some ⟨b,0,none⟩)].map norm)=some [Value.pointer (some ⟨b,0,none⟩)])
  (hown:trAll blkOwned g.s.h=true)
  (hg:∀ w' B',Keep A win w'→(∀ k,A k→B' k)→Sy.Good Tryz.prog B' w' γ0 nt Q (nx0 g (norm (.string (str l))))):Sy.Good Tryz.prog B w0 γ0 nt Q g:=by
 refine good_callW cx [.pointer (some ⟨b,0,none⟩)] (BuF b w0) (Pr:=fun w r w'=>r = .string (str l)) h hbod hx hown hch.bB (fun w hk=>?_) ?_
 · obtain ⟨h1,h2⟩:=hch.seen hk
   exact (bString_any b l w h1).mono fun e w' ⟨e1,e2⟩=>⟨_,e1,rfl,e2.mono fun k hk2=>⟨hk2.1,fun hF=>hk2.2 ((h2 k).1 hF)⟩⟩
 · rintro w r w' B' hk rfl h1 h2 h3 h4 h5
   exact hg w' B' (hch.kp.trans (h2.mono fun k hA=>⟨hch.AB k hA,hch.disj hA⟩)) (fun k hA=>h3 k (hch.AB k hA))
end
open Go.Sy in
set_option maxRecDepth 100000 in
theorem tExpr_any (e:Ex) (cs:List Value) (w:World) (hbd:wgt e≤1000000000000) (hB:exB e≤1000000000000) (hR:exR e) (ht:Tab w) (hlen:∀ t,ex32 e=some t→t.length≤140737488355328) (hat:ExAt (·<w.heap.size) w e cs):
  CB 13 #[.agg cs.toArray] w (.tuple #[nT (exprS e),nI (exprE e)]):=by
 obtain ⟨op,ty,bits,name,kids⟩:=e
 have hat0:=hat
 simp only [ExAt] at hat0
 obtain ⟨a,cap,xs,rfl,_,_⟩:=hat0
 refine eN [xV op ty bits name a kids.length cap] Tryz.func13 (fun γ0 hγ0=>?_)
 refine rk ?_
 cases hv:ex32 (Ex.mk op ty bits name kids) with
 | none=>
   refine gE [xV op ty bits name a kids.length cap,nI 32] (fun v=>∃ h,v = .tuple #[nI h,.bool false]) (fun W hk=>by
    have:=texpr_any _ (Ex.mk op ty bits name kids) (xL op ty bits name a kids.length cap) 32 W (Nat.le_refl _) hbd (by decide) hB hR (ht.below (Keep.below hk)) (hat.keep hk (kU hk))
    rw [← ex32_some,hv] at this
    exact this.mono fun e w' ⟨h,h1,h2,h3⟩=>⟨_,h1,⟨h,rfl⟩,h3⟩) ?_
   rintro v w2 ⟨h,rfl⟩ hk2
   refine rs [] 60 4 ?_
   exact gR (.tuple #[nT [],nI 2]) (fun W hk=>⟨by unfold exprS exprE;rw [hv],hk.below⟩)
 | some t=>
   refine gE [xV op ty bits name a kids.length cap,nI 32] (fun v=>∃ h,v = .tuple #[nI h,.bool true]) (fun W hk=>by
    have:=texpr_any _ (Ex.mk op ty bits name kids) (xL op ty bits name a kids.length cap) 32 W (Nat.le_refl _) hbd (by decide) hB hR (ht.below (Keep.below hk)) (hat.keep hk (kU hk))
    rw [← ex32_some,hv] at this
    exact this.mono fun e w' ⟨h,h1,h2,h3⟩=>⟨_,h1,⟨h,rfl⟩,h3⟩) ?_
   rintro v w2 ⟨h,rfl⟩ hk2
   refine rs [] 60 2 ?_
   refine gG 6 (gz+1) 86 [.pointer none,.slice none 0 0] (fun q w1 B1 hk1 hB01 hBq hnq hB1 hq=>?_)
   have hch:=Ch.give hq hBq hB01 hnq hB1
   have hk1:Keep (·<w.heap.size) w w1:=hk1
   refine rk ?_
   refine gH [nP q,xV op ty bits name a kids.length cap] q (t) (.tuple #[]) hch (fun W hk hbu hA=>by
    have kw:Keep (·<w.heap.size) w W:=hk1.trans (hch.keep hk)
    exact put_any _ (Ex.mk op ty bits name kids) (xL op ty bits name a kids.length cap) t _ q W (Nat.le_refl _) hB hR (ht.below kw.below) (ex32_exT hv) hbu (by rw [List.length_nil,Nat.zero_add];exact hlen t hv) (hat.keep kw hA)) ?_
   intro w3 B3 hc1 _ _
   refine rk ?_
   refine good_bStr (sy_cx _ _) hc1 (by kernel_rfl) (by kernel_rfl) (by kernel_rfl) (by kernel_rfl) (fun w4 B4 hk4 hB4=>?_)
   refine rk ?_
   exact gR (.tuple #[nT t,nI 0]) (fun W hk=>⟨by unfold exprS exprE;rw [hv],((hk1.trans hk4).trans (hk.mono hB4)).below⟩)
end
section
theorem pgT_inv {p:Pg} {t:List UInt8} (h:pgT p=some t):∃ a b c,allT (vrT [115,104,97,114,101,100]) p.shared=some a∧allT mxT p.mutexes=some b∧allT thT p.threads=some c∧t=a++(b++c):=by
 unfold pgT at h
 cases h1:allT (vrT [115,104,97,114,101,100]) p.shared with
 | none=>rw [h1] at h;cases h
 | some a=>
   cases h2:allT mxT p.mutexes with
   | none=>rw [h1,h2] at h;cases h
   | some b=>
     cases h3:allT thT p.threads with
     | none=>rw [h1,h2,h3] at h;cases h
     | some c=>
       rw [h1,h2,h3] at h
       injection h with h
       exact ⟨a,b,c,rfl,rfl,rfl,h.symm⟩
theorem thT_inv {x:Th} {t:List UInt8} (h:thT x=some t):∃ a b,allT (vrT [32,32,108,111,99,97,108]) x.locals=some a∧stsT 0 x.body=some b∧t=([116,104,114,101,97,100,32]++x.name++[32,123,10])++(a++(b++[125,10])):=by
 unfold thT at h
 cases h1:allT (vrT [32,32,108,111,99,97,108]) x.locals with
 | none=>rw [h1] at h;cases h
 | some a=>
   cases h2:stsT 0 x.body with
   | none=>rw [h1,h2] at h;cases h
   | some b=>
     rw [h1,h2] at h
     simp only at h
     split at h
     · injection h with h
       exact ⟨a,b,rfl,rfl,by rw [← h];simp⟩
     · cases h
theorem mxT_inv {m t:List UInt8} (h:mxT m=some t):t=[109,117,116,101,120,32]++m++[59,10]:=by
 unfold mxT at h
 split at h
 · injection h with h
   rw [← h];simp
 · cases h
open Go.Sy in
set_option maxRecDepth 100000 in
theorem tPrint_any (p:Pg) (cs:List Value) (w:World) (hB:pgB p≤400000000000) (hR:pgR p) (ht:Tab w) (hlen:∀ t,pgT p=some t→t.length≤140737488355328) (hp:PgAt (·<w.heap.size) w p cs):
  CB 128 #[.agg cs.toArray] w (.tuple #[nT (printS p),nI (printE p)]):=by
 have hp0:=hp
 obtain ⟨a,cap,xs,b,cap2,ys,d,cap3,zs,rfl,_⟩:=hp0
 refine eN [.agg #[.slice a p.shared.length cap,.slice b p.mutexes.length cap2,.slice d p.threads.length cap3]] Tryz.func128 (fun γ0 hγ0=>?_)
 refine rk ?_
 cases hv:pgT p with
 | none=>
   refine gX [.agg #[.slice a p.shared.length cap,.slice b p.mutexes.length cap2,.slice d p.threads.length cap3]] (.bool false) (fun W hk=>by
    have:=tprogram_any p [.slice a p.shared.length cap,.slice b p.mutexes.length cap2,.slice d p.threads.length cap3] W hB hR (ht.below (Keep.below hk)) (hp.keep hk (kU hk))
    rw [← okP_plain p hR,hv] at this
    exact this) ?_
   refine rs [] 60 4 ?_
   exact gR (.tuple #[nT [],nI 2]) (fun W hk=>⟨by unfold printS printE;rw [hv],hk.below⟩)
 | some t=>
   have hlen:=hlen t hv
   obtain ⟨tS,tM,tT,hS,hM,hT,rfl⟩:=pgT_inv hv
   unfold pgB at hB
   obtain ⟨hRs,hRt⟩:=id hR
   have hl1:=len_sumN (μ:=vrB) (fun v=>by unfold vrB;omega) p.shared
   have hl2:=len_sumN (μ:=txB) (fun v=>by unfold txB;omega) p.mutexes
   have hl3:=len_sumN (μ:=thB) (fun v=>by unfold thB;omega) p.threads
   obtain ⟨a',cap',xs',b',cap2',ys',d',cap3',zs',he,hxs,hxt,hys,hyt,hzs,hzt⟩:=id hp
   simp only [List.cons.injEq,Value.slice.injEq,true_and,and_true] at he
   obtain ⟨⟨rfl,rfl⟩,⟨rfl,rfl⟩,rfl,rfl⟩:=he
   refine gX [.agg #[.slice a p.shared.length cap,.slice b p.mutexes.length cap2,.slice d p.threads.length cap3]] (.bool true) (fun W hk=>by
    have:=tprogram_any p [.slice a p.shared.length cap,.slice b p.mutexes.length cap2,.slice d p.threads.length cap3] W hB hR (ht.below (Keep.below hk)) (hp.keep hk (kU hk))
    rw [← okP_plain p hR,hv] at this
    exact this) ?_
   refine rs [] 60 2 ?_
   refine gG 4 (gz+1) 86 [.pointer none,.slice none 0 0] (fun q w1 B1 hk1 hB01 hBq hnq hB1 hq=>?_)
   have hch:=Ch.give hq hBq hB01 hnq hB1
   have hk1:Keep (·<w.heap.size) w w1:=hk1
   obtain ⟨A,hA⟩:∃ A:Nat→Prop,A=(·<w.heap.size):=⟨_,rfl⟩
   have hch:Ch q [] A w1 w1 B1:=by rw [hA];exact hch
   have KW:∀ {l B w3} (h:Ch q l A w1 w3 B) {W},Keep B w3 W→Keep (·<w.heap.size) w W:=fun h W hk=>by
    have:=h.keep hk
    rw [hA] at this
    exact hk1.trans this
   have OUT:∀ {l B w3} (h:Ch q l A w1 w3 B) {W},(∀ k,A k→Out q W k)→∀ k,k<w.heap.size→Out q W k:=fun h W hh k hk=>hh k (by rw [hA];exact hk)
   refine rk ?_
   refine good_toLp ?_
   refine good_loopB (fun i:List Vr×List Vr=>i.2.length) (fun i B3 w3=>p.shared=i.1++i.2∧∃ t1,allT (vrT [115,104,97,114,101,100]) i.1=some t1∧Ch q t1 A w1 w3 B3) (fun i=>⟨mkT [(1,.ptr gz 0),(4,vP q),(17,vL a p.shared.length cap),(18,vI (p.shared.length:Int)),(19,vI (i.1.length:Int))],mkH [(gz,bK 58 3 [vL a p.shared.length cap,vL b p.mutexes.length cap2,vL d p.threads.length cap3])],gz+2,[]⟩)
    ([],p.shared) ⟨rfl,[],rfl,hch⟩ (by kernel_rfl)
    (fun h=>gU _ [(1,.ptr gz 0),(4,vP q),(17,vL a p.shared.length cap),(18,vI (p.shared.length:Int)),(19,vI (([]:List Vr).length:Int))] [(gz,bK 58 3 [vL a p.shared.length cap,vL b p.mutexes.length cap2,vL d p.threads.length cap3])] (gz+2) (gA hγ0) h) ?_
   rintro ⟨l1,l2⟩ B3 w3 ⟨hI1,t1,ht1,hc3⟩ ih3
   have hI1:p.shared=l1++l2:=hI1
   have ht1:allT (vrT [115,104,97,114,101,100]) l1=some t1:=ht1
   have hnl1:p.shared.length=l1.length+l2.length:=by rw [hI1,List.length_append]
   refine rk ?_
   cases l2 with
   | cons v l3=>
     have hT2:=hS
     have hks2:=hxt
     rw [hI1] at hT2 hks2
     obtain ⟨tx,t3,htx,htt,htn⟩:=allT_mid hT2 ht1
     obtain ⟨c,hc,hcell⟩:=hks2.at_ (fun _ _ h=>h.len)
     obtain rfl:c=[nT v.name,n8 v.ty,n6 v.bits]:=hc
     have hin:l1.length<p.shared.length:=by rw [hnl1,List.length_cons];omega
     have hlt:=congrArg List.length htt
     simp only [List.length_append] at hlt
     refine kx (l1.length:Int) (p.shared.length:Int) (by omega) ?_
     refine rk ?_
     refine gI 52 108 cap l1.length hxs hin ?_
     refine rk ?_
     refine gV (.agg #[nT v.name,n8 v.ty,n6 v.bits]) (S:=Instr.loadAt 108 (.pointer (some ⟨gB a,oB a+l1.length*3+0,none⟩))) (fun W hk=>load_slA (P:=Tryz.prog) (ty:=108) (m:=3) (cs:=[nT v.name,n8 v.ty,n6 v.bits]) hxs (by kernel_rfl) (by kernel_rfl) l1.length 0 rfl (fun j v hv=>by rw [Nat.add_zero];exact hcell j v hv) (W:=W) (KW hc3 hk)) ?_
     refine rk ?_
     refine gH [nP q,nT [115,104,97,114,101,100],.agg #[nT v.name,n8 v.ty,n6 v.bits]] q (tx) (.tuple #[]) hc3 (fun W hk hbu hA=>pvariable_any [115,104,97,114,101,100] v tx _ q W (hRs v (by rw [hI1];simp)) (ht.below (KW hc3 hk).below) htx hbu (by simp only [List.length_append,List.length_cons,List.length_nil] at hlen ⊢;omega)) ?_
     intro w9 B9 hc9 _ _
     refine rk ?_
     refine gS 19 (x:=nI (wrapF .i64 ((l1.length:Int)+1))) (nI ((l1++[v]).length:Nat)) (by rw [wr64 (by omega) (by omega)];congr 1;simp) ?_
     exact gU _ [(1,.ptr gz 0),(4,vP q),(17,vL a p.shared.length cap),(18,vI (p.shared.length:Int)),(19,vI ((l1++[v]).length:Int))] [(gz,bK 58 3 [vL a p.shared.length cap,vL b p.mutexes.length cap2,vL d p.threads.length cap3])] (gz+2) (gA hγ0) (ih3 (l1++[v],l3) _ _ ⟨by show p.shared=(l1++[_])++l3;rw [hI1];simp,_,htn,by simpa only [List.append_assoc] using hc9⟩ lS1)
   | nil=>
     rw [hI1,List.append_nil,ht1] at hS
     injection hS with hS
     subst hS
     refine ky (l1.length:Int) (p.shared.length:Int) (by simp at hnl1;omega) ?_
     refine rk ?_
     refine good_toLp ?_
     refine good_loopB (fun i:List (List UInt8)×List (List UInt8)=>i.2.length) (fun i B4 w4=>p.mutexes=i.1++i.2∧∃ t2,allT mxT i.1=some t2∧Ch q (t1++t2) A w1 w4 B4) (fun i=>⟨mkT [(1,.ptr gz 0),(4,vP q),(27,vL b p.mutexes.length cap2),(28,vI (p.mutexes.length:Int)),(29,vI (i.1.length:Int))],mkH [(gz,bK 58 3 [vL a p.shared.length cap,vL b p.mutexes.length cap2,vL d p.threads.length cap3])],gz+2,[]⟩)
      ([],p.mutexes) ⟨rfl,[],rfl,by rw [List.append_nil];exact hc3⟩ (by kernel_rfl)
      (fun h=>gU _ [(1,.ptr gz 0),(4,vP q),(27,vL b p.mutexes.length cap2),(28,vI (p.mutexes.length:Int)),(29,vI (([]:List (List UInt8)).length:Int))] [(gz,bK 58 3 [vL a p.shared.length cap,vL b p.mutexes.length cap2,vL d p.threads.length cap3])] (gz+2) (gA hγ0) h) ?_
     rintro ⟨m1,m2⟩ B4 w4 ⟨hI2,t2,ht2,hc4⟩ ih4
     have hI2:p.mutexes=m1++m2:=hI2
     have ht2:allT mxT m1=some t2:=ht2
     have hnm1:p.mutexes.length=m1.length+m2.length:=by rw [hI2,List.length_append]
     refine rk ?_
     cases m2 with
     | cons s m3=>
       have hT2:=hM
       have hks2:=hyt
       rw [hI2] at hT2 hks2
       obtain ⟨tx,t3,htx,htt,htn⟩:=allT_mid hT2 ht2
       obtain ⟨c,hc,hcell⟩:=hks2.at_ (k:=1) (fun _ _ h=>by rw [show _=_ from h];rfl)
       obtain rfl:c=[nT s]:=hc
       obtain rfl:=mxT_inv htx
       have hin:m1.length<p.mutexes.length:=by rw [hnm1,List.length_cons];omega
       have hlt:=congrArg List.length htt
       simp only [List.length_append,List.length_cons,List.length_nil] at hlt
       refine kx (m1.length:Int) (p.mutexes.length:Int) (by omega) ?_
       refine rk ?_
       refine gI 30 9 cap2 m1.length hys hin ?_
       refine rk ?_
       refine gV (nT s) (S:=Instr.loadAt 9 (.pointer (some ⟨gB b,oB b+m1.length*1+0,none⟩))) (fun W hk=>load_sl hys (by kernel_rfl) m1.length 0 (by rw [Nat.add_zero];exact hcell 0 _ rfl) (KW hc4 hk)) ?_
       refine rs [35] 60 0 ?_
       refine gC ([109,117,116,101,120,32]) (s) (by simp only [List.length_append,List.length_cons,List.length_nil] at hlen ⊢;omega) ?_
       refine rs [36] 60 0 ?_
       refine gC ([109,117,116,101,120,32]++s) ([59,10]) (by simp only [List.length_append,List.length_cons,List.length_nil] at hlen ⊢;omega) ?_
       refine rk ?_
       refine gw q ([109,117,116,101,120,32]++s++[59,10]) hc4 (by simp only [List.length_append,List.length_cons,List.length_nil] at hlen ⊢;omega) ?_
       intro w9 B9 hc9 _ _
       refine rk ?_
       refine gS 29 (x:=nI (wrapF .i64 ((m1.length:Int)+1))) (nI ((m1++[s]).length:Nat)) (by rw [wr64 (by omega) (by omega)];congr 1;simp) ?_
       exact gU _ [(1,.ptr gz 0),(4,vP q),(27,vL b p.mutexes.length cap2),(28,vI (p.mutexes.length:Int)),(29,vI ((m1++[s]).length:Int))] [(gz,bK 58 3 [vL a p.shared.length cap,vL b p.mutexes.length cap2,vL d p.threads.length cap3])] (gz+2) (gA hγ0) (ih4 (m1++[s],m3) _ _ ⟨by show p.mutexes=(m1++[_])++m3;rw [hI2];simp,_,htn,by simpa only [List.append_assoc] using hc9⟩ lS1)
     | nil=>
       rw [hI2,List.append_nil,ht2] at hM
       injection hM with hM
       subst hM
       refine ky (m1.length:Int) (p.mutexes.length:Int) (by simp at hnm1;omega) ?_
       refine rk ?_
       refine good_toLp ?_
       refine good_loopB (fun i:List Th×List Th=>i.2.length) (fun i B5 w5=>p.threads=i.1++i.2∧∃ t3,allT thT i.1=some t3∧Ch q (t1++(t2++t3)) A w1 w5 B5) (fun i=>⟨mkT [(1,.ptr gz 0),(4,vP q),(40,vL d p.threads.length cap3),(41,vI (p.threads.length:Int)),(42,vI (i.1.length:Int))],mkH [(gz,bK 58 3 [vL a p.shared.length cap,vL b p.mutexes.length cap2,vL d p.threads.length cap3])],gz+2,[]⟩)
        ([],p.threads) ⟨rfl,[],rfl,by rw [List.append_nil];exact hc4⟩ (by kernel_rfl)
        (fun h=>gU _ [(1,.ptr gz 0),(4,vP q),(40,vL d p.threads.length cap3),(41,vI (p.threads.length:Int)),(42,vI (([]:List Th).length:Int))] [(gz,bK 58 3 [vL a p.shared.length cap,vL b p.mutexes.length cap2,vL d p.threads.length cap3])] (gz+2) (gA hγ0) h) ?_
       rintro ⟨k1,k2⟩ B5 w5 ⟨hI3,t3,ht3,hc5⟩ ih5
       have hI3:p.threads=k1++k2:=hI3
       have ht3:allT thT k1=some t3:=ht3
       have hnk1:p.threads.length=k1.length+k2.length:=by rw [hI3,List.length_append]
       refine rk ?_
       cases k2 with
       | cons x k3=>
         have hT2:=hT
         have hks2:=hzt
         rw [hI3] at hT2 hks2
         obtain ⟨ty,t4,hty,htt,hto⟩:=allT_mid hT2 ht3
         obtain ⟨c,hc,hcell⟩:=hks2.at_ (k:=3) (fun _ _ h=>h.len)
         have hxR:=hRt x (by rw [hI3];simp)
         have hxB:x.name.length+1+sumN vrB x.locals+stBs x.body≤sumN thB p.threads:=sumN_mem (μ:=thB) (x:=x) (l:=p.threads) (by rw [hI3];simp)
         obtain ⟨hxRl,hxRb⟩:=hxR
         have hkl:=len_sumN (μ:=vrB) (fun v=>by unfold vrB;omega) x.locals
         have hkb:=swts_stBs x.body
         obtain ⟨xa,xcap,xxs,xb,xcap2,xys,rfl,xh1,xh2,xh3,xh4⟩:=hc
         obtain ⟨tA,tB,hTA,hTB,rfl⟩:=thT_inv hty
         have hin:k1.length<p.threads.length:=by rw [hnk1,List.length_cons];omega
         have hlt:=congrArg List.length htt
         simp only [List.length_append,List.length_cons,List.length_nil] at hlt
         refine kx (k1.length:Int) (p.threads.length:Int) (by omega) ?_
         refine rk ?_
         refine gI 56 55 cap3 k1.length hzs hin ?_
         refine rk ?_
         refine gV (.agg #[nT x.name,.slice xa x.locals.length xcap,.slice xb x.body.length xcap2]) (S:=Instr.loadAt 55 (.pointer (some ⟨gB d,oB d+k1.length*3+0,none⟩))) (fun W hk=>load_slA (P:=Tryz.prog) (ty:=55) (m:=3) (cs:=[nT x.name,.slice xa x.locals.length xcap,.slice xb x.body.length xcap2]) hzs (by kernel_rfl) (by kernel_rfl) k1.length 0 rfl (fun j v hv=>by rw [Nat.add_zero];exact hcell j v hv) (W:=W) (KW hc5 hk)) ?_
         refine rs [49] 60 0 ?_
         refine gC ([116,104,114,101,97,100,32]) (x.name) (by simp only [List.length_append,List.length_cons,List.length_nil] at hlen ⊢;omega) ?_
         refine rs [50] 60 0 ?_
         refine gC ([116,104,114,101,97,100,32]++x.name) ([32,123,10]) (by simp only [List.length_append,List.length_cons,List.length_nil] at hlen ⊢;omega) ?_
         refine rk ?_
         refine gw q ([116,104,114,101,97,100,32]++x.name++[32,123,10]) hc5 (by simp only [List.length_append,List.length_cons,List.length_nil] at hlen ⊢;omega) ?_
         intro w6 B6 hc6 _ _
         refine rk ?_
         refine good_toLp ?_
         refine good_loopB (fun i:List Vr×List Vr=>i.2.length) (fun i B7 w7=>x.locals=i.1++i.2∧∃ t6,allT (vrT [32,32,108,111,99,97,108]) i.1=some t6∧Ch q ((t1++(t2++t3))++(([116,104,114,101,97,100,32]++x.name++[32,123,10])++t6)) A w1 w7 B7) (fun i=>⟨mkT [(1,.ptr gz 0),(4,vP q),(40,vL d p.threads.length cap3),(41,vI (p.threads.length:Int)),(42,vI (k1.length:Int)),(10,.ptr (gz+2) 0),(53,vL xa x.locals.length xcap),(54,vI (x.locals.length:Int)),(55,vI (i.1.length:Int))],mkH [(gz,bK 58 3 [vL a p.shared.length cap,vL b p.mutexes.length cap2,vL d p.threads.length cap3]),(gz+2,bK 55 3 [vT x.name,vL xa x.locals.length xcap,vL xb x.body.length xcap2])],gz+3,[]⟩)
          ([],x.locals) ⟨rfl,[],rfl,by rw [List.append_nil];exact hc6⟩ (by kernel_rfl)
          (fun h=>gU _ [(1,.ptr gz 0),(4,vP q),(40,vL d p.threads.length cap3),(41,vI (p.threads.length:Int)),(42,vI (k1.length:Int)),(10,.ptr (gz+2) 0),(53,vL xa x.locals.length xcap),(54,vI (x.locals.length:Int)),(55,vI (([]:List Vr).length:Int))] [(gz,bK 58 3 [vL a p.shared.length cap,vL b p.mutexes.length cap2,vL d p.threads.length cap3]),(gz+2,bK 55 3 [vT x.name,vL xa x.locals.length xcap,vL xb x.body.length xcap2])] (gz+3) (gA hγ0) h) ?_
         rintro ⟨j1,j2⟩ B7 w7 ⟨hI4,t6,ht6,hc7⟩ ih7
         have hI4:x.locals=j1++j2:=hI4
         have ht6:allT (vrT [32,32,108,111,99,97,108]) j1=some t6:=ht6
         have hnj1:x.locals.length=j1.length+j2.length:=by rw [hI4,List.length_append]
         refine rk ?_
         cases j2 with
         | cons v j3=>
           have xh1k:=xh1
           have hT2:=hTA
           have hks2:=xh2
           rw [hI4] at hT2 hks2
           obtain ⟨tx,t8,htx,htt6,htn⟩:=allT_mid hT2 ht6
           obtain ⟨c6,hc6x,hcell6⟩:=hks2.at_ (fun _ _ h=>h.len)
           obtain rfl:c6=[nT v.name,n8 v.ty,n6 v.bits]:=hc6x
           have hin:j1.length<x.locals.length:=by rw [hnj1,List.length_cons];omega
           have hlt6:=congrArg List.length htt6
           simp only [List.length_append] at hlt6
           refine kx (j1.length:Int) (x.locals.length:Int) (by omega) ?_
           refine rk ?_
           refine gI 52 108 xcap j1.length xh1 hin ?_
           refine rk ?_
           refine gV (.agg #[nT v.name,n8 v.ty,n6 v.bits]) (S:=Instr.loadAt 108 (.pointer (some ⟨gB xa,oB xa+j1.length*3+0,none⟩))) (fun W hk=>load_slA (P:=Tryz.prog) (ty:=108) (m:=3) (cs:=[nT v.name,n8 v.ty,n6 v.bits]) xh1 (by kernel_rfl) (by kernel_rfl) j1.length 0 rfl (fun j v hv=>by rw [Nat.add_zero];exact hcell6 j v hv) (W:=W) (KW hc7 hk)) ?_
           refine rk ?_
           refine gH [nP q,nT [32,32,108,111,99,97,108],.agg #[nT v.name,n8 v.ty,n6 v.bits]] q (tx) (.tuple #[]) hc7 (fun W hk hbu hA=>pvariable_any [32,32,108,111,99,97,108] v tx _ q W (hxRl v (by rw [hI4];simp)) (ht.below (KW hc7 hk).below) htx hbu (by simp only [List.length_append,List.length_cons,List.length_nil] at hlen ⊢;omega)) ?_
           intro w9 B9 hc9 _ _
           refine rk ?_
           refine gS 55 (x:=nI (wrapF .i64 ((j1.length:Int)+1))) (nI ((j1++[v]).length:Nat)) (by rw [wr64 (by omega) (by omega)];congr 1;simp) ?_
           exact gU _ [(1,.ptr gz 0),(4,vP q),(40,vL d p.threads.length cap3),(41,vI (p.threads.length:Int)),(42,vI (k1.length:Int)),(10,.ptr (gz+2) 0),(53,vL xa x.locals.length xcap),(54,vI (x.locals.length:Int)),(55,vI ((j1++[v]).length:Int))] [(gz,bK 58 3 [vL a p.shared.length cap,vL b p.mutexes.length cap2,vL d p.threads.length cap3]),(gz+2,bK 55 3 [vT x.name,vL xa x.locals.length xcap,vL xb x.body.length xcap2])] (gz+3) (gA hγ0) (ih7 (j1++[v],j3) _ _ ⟨by show x.locals=(j1++[_])++j3;rw [hI4];simp,_,htn,by simpa only [List.append_assoc] using hc9⟩ lS1)
         | nil=>
           rw [hI4,List.append_nil,ht6] at hTA
           injection hTA with hTA
           subst hTA
           refine ky (j1.length:Int) (x.locals.length:Int) (by simp at hnj1;omega) ?_
           refine rk ?_
           refine gH [nP q,.slice xb x.body.length xcap2,nI ((0:Nat):Int)] q (tB) (.tuple #[]) hc7 (fun W hk hbu hA=>blkW _ x.body xb x.body.length xcap2 xys 0 tB _ q W rfl (Nat.lt_succ_self _) (by omega) (by omega) (by omega) hxRb (ht.below (KW hc7 hk).below) hTB hbu (by simp only [List.length_append,List.length_cons,List.length_nil] at hlen ⊢;omega) ((xh3.keep (KW hc7 hk)).mono (OUT hc7 hA)) (StsAt_ls.1 (xh4.keep (KW hc7 hk) (OUT hc7 hA)))) ?_
           intro w8 B8 hc8 _ _
           refine rk ?_
           refine gw q ([125,10]) hc8 (by simp only [List.length_append,List.length_cons,List.length_nil] at hlen ⊢;omega) ?_
           intro w9 B9 hc9 _ _
           refine rk ?_
           refine gS 42 (x:=nI (wrapF .i64 ((k1.length:Int)+1))) (nI ((k1++[x]).length:Nat)) (by rw [wr64 (by omega) (by omega)];congr 1;simp) ?_
           exact gU _ [(1,.ptr gz 0),(4,vP q),(40,vL d p.threads.length cap3),(41,vI (p.threads.length:Int)),(42,vI ((k1++[x]).length:Int))] [(gz,bK 58 3 [vL a p.shared.length cap,vL b p.mutexes.length cap2,vL d p.threads.length cap3])] (gz+2) (gA hγ0) (ih5 (k1++[x],k3) _ _ ⟨by show p.threads=(k1++[_])++k3;rw [hI3];simp,_,hto,by simpa only [List.append_assoc] using hc9⟩ lS1)
       | nil=>
         rw [hI3,List.append_nil,ht3] at hT
         injection hT with hT
         subst hT
         refine ky (k1.length:Int) (p.threads.length:Int) (by simp at hnk1;omega) ?_
         refine rk ?_
         refine gX [nP q] (nI (((t1++(t2++t3):List UInt8).length:Nat):Int)) (fun W hk=>bLen_any q _ W (hc5.seen hk).1) ?_
         refine rk ?_
         by_cases hm:16384<(t1++(t2++t3)).length
         ·
          refine kx 16384 (((t1++(t2++t3):List UInt8).length:Nat):Int) (by omega) ?_
          refine rs [] 60 1 ?_
          exact gR (.tuple #[nT [],nI 3]) (fun W hk=>⟨by unfold printS printE;rw [hv];simp only [if_pos hm],(KW hc5 hk).below⟩)
         refine ky 16384 (((t1++(t2++t3):List UInt8).length:Nat):Int) (by omega) ?_
         refine rk ?_
         refine good_bStr (sy_cx _ _) hc5 (by kernel_rfl) (by kernel_rfl) (by kernel_rfl) (by kernel_rfl) (fun w4 B4 hk4 hB4=>?_)
         refine rk ?_
         rw [hA] at hk4 hB4
         exact gR (.tuple #[nT (t1++(t2++t3)),nI 0]) (fun W hk=>⟨by unfold printS printE;rw [hv];simp only [if_neg hm],((hk1.trans hk4).trans (hk.mono hB4)).below⟩)
end
section
theorem sgn_lt {n:Nat} (h:n<9223372036854775808):(n:Int)<signBits:=by unfold signBits;omega
theorem sgn_ge {n:Nat} (h:¬ n<9223372036854775808):¬ (n:Int)<signBits:=by unfold signBits;omega
theorem valT_one {n:Nat} (h:¬ 9223372036854775808<n):valT 1 (n:Int)=litT 1 (n:Int):=by
 rw [litT1]
 unfold valT
 rw [if_pos rfl]
 by_cases hy:(n:Int)<signBits
 · rw [if_pos hy,if_pos hy]
 · rw [if_neg hy,if_neg hy,if_pos (show (n:Int)=signBits by unfold signBits at hy ⊢;omega)]
theorem valT_neg {n m:Nat} (h:9223372036854775808<n) (hm:(m:Int)=18446744073709551616 - (n:Int)):valT 1 (n:Int)=some ([45]++Lib.decDigits m):=by
 unfold valT
 rw [if_pos rfl,if_neg (show ¬ (n:Int)<signBits by unfold signBits;omega),if_neg (show ¬ (n:Int)=signBits by unfold signBits;omega),← hm,Int.toNat_natCast,List.singleton_append]
theorem valT_real {n:Nat} (h:n<9223372036854775808):valT 3 (n:Int)=litT 3 (n:Int):=by
 unfold valT
 rw [if_neg (by decide),if_pos rfl,if_pos (sgn_lt h)]
theorem valT_rnan {n m:Nat} (h:¬ n<9223372036854775808) (hm:(m:Int)=(n:Int) - signBits) (hq:(m:Int)=nanBits):valT 3 (n:Int)=none:=by
 unfold valT
 rw [if_neg (by decide),if_pos rfl,if_neg (sgn_ge h),← hm,if_pos hq]
theorem valT_rneg {n m:Nat} (h:¬ n<9223372036854775808) (hm:(m:Int)=(n:Int) - signBits) (hq:¬ (m:Int)=nanBits):valT 3 (n:Int)=(litT 3 (m:Int)).map (45::·):=by
 unfold valT
 rw [if_neg (by decide),if_pos rfl,if_neg (sgn_ge h),← hm,if_neg hq]
theorem valT_other {ty:Int} (c1:¬ ty=1) (c3:¬ ty=3) (n:Int):valT ty n=litT ty n:=by
 unfold valT
 rw [if_neg c1,if_neg c3]
end
section
set_option maxRecDepth 100000
theorem digit_at (d:Nat) (hd:d<10) (w:World):(Instr.sliceAt 9 (.string (str [48,49,50,51,52,53,54,55,56,57])) (some (.int .u64 (d:Nat))) (some (.int .u64 ((d+1:Nat):Int))) none).run Tryz.prog w = .ok (.string (str [UInt8.ofNat (48+d)])) w:=by
 have:d=0∨d=1∨d=2∨d=3∨d=4∨d=5∨d=6∨d=7∨d=8∨d=9:=by omega
 rcases this with rfl | rfl | rfl | rfl | rfl | rfl | rfl | rfl | rfl | rfl <;> rfl
theorem decDigits_le:∀ (k n:Nat),n<10 ^ (k+1)→(Lib.decDigits n).length≤k+1
 | 0,n,h=>by
   rw [Lib.decDigits,dif_pos (by simpa using h)]
   simp
 | k+1,n,h=>by
   rw [Lib.decDigits]
   split
   · simp
   · have:=decDigits_le k (n / 10) (by rw [Nat.pow_succ] at h;omega)
     simp
     omega
theorem decDigits_len20 {n:Nat} (h:n<18446744073709551616):(Lib.decDigits n).length≤20:=decDigits_le 19 n (Nat.lt_trans h (by decide))
open Go.Sy
theorem rDec_any:∀ (N n:Nat) (w:World),n<N→n<18446744073709551616→
  CB 134 #[n6 (n:Int)] w (nT (Lib.decDigits n)):=by
 intro N
 induction N with
 | zero=>intro n w h;omega
 | succ N ih=>
   intro n w hN hn
   refine eN [n6 (n:Int)] Tryz.func134 (fun γ0 hγ0=>?_)
   refine rk ?_
   by_cases h10:n<10
   ·
    refine kx (n:Int) 10 (by omega) ?_
    refine rs [8] 60 0 ?_
    have hd:n<10:=h10
    refine gS 7 (x:=n6 (wrapF .u64 ((n:Int)+1))) (n6 ((n+1:Nat):Int)) (by rw [wrapF_eq,IntKind.wrap_u64];congr 1;omega) ?_
    refine gV (nT [UInt8.ofNat (48+n)]) (S:=Instr.sliceAt 9 (nT [48,49,50,51,52,53,54,55,56,57]) (some (n6 (n:Nat))) (some (n6 ((n+1:Nat):Int))) none) (fun W _=>digit_at n hd W) ?_
    refine rk ?_
    exact gR (nT [UInt8.ofNat (48+n)]) (fun W hk=>⟨by rw [Lib.decDigits,dif_pos h10],hk.below⟩)
   refine ky (n:Int) 10 (by omega) ?_
   refine rk ?_
   refine good_draw sy_mixed (by kernel_rfl) ?_
   refine q_run [11] 60 ?_
   refine qS 10 (x:=n6 (IntKind.wrap .u64 (Int.tdiv (n:Int) 10))) (n6 ((n / 10:Nat):Int)) (by rw [IntKind.wrap_u64,Int.tdiv_eq_ediv_of_nonneg (by omega)];congr 1;omega) ?_
   refine q_run [11] 60 ?_
   refine qB [n6 ((n / 10:Nat):Int)] (nT (Lib.decDigits (n / 10))) (fun W hk=>ih (n / 10) W (by omega) (by omega)) ?_
   refine q_run [14] 60 ?_
   have hd:n % 10<10:=by omega
   refine qS 13 (x:=n6 (Int.tmod (n:Int) 10)) (n6 ((n % 10:Nat):Int)) (by rw [Int.tmod_eq_emod_of_nonneg (by omega)];congr 1) ?_
   refine q_run [16] 60 ?_
   refine qS 15 (x:=n6 (Int.tmod (n:Int) 10)) (n6 ((n % 10:Nat):Int)) (by rw [Int.tmod_eq_emod_of_nonneg (by omega)];congr 1) ?_
   refine q_run [17] 60 ?_
   refine qS 16 (x:=n6 (wrapF .u64 (((n % 10:Nat):Int)+1))) (n6 ((n % 10+1:Nat):Int)) (by rw [wrapF_eq,IntKind.wrap_u64];congr 1;omega) ?_
   refine qV (nT [UInt8.ofNat (48+(n % 10))]) (S:=Instr.sliceAt 9 (nT [48,49,50,51,52,53,54,55,56,57]) (some (n6 ((n % 10):Nat))) (some (n6 (((n % 10)+1:Nat):Int))) none) (fun W _=>digit_at (n % 10) hd W) ?_
   refine q_run [18] 60 ?_
   refine qV (nT (Lib.decDigits (n / 10)++[UInt8.ofNat (48+(n % 10))])) (S:=(do eqGuard .add 9 (.tmp 11) (.tmp 17) (nT (Lib.decDigits (n / 10))) (nT ([UInt8.ofNat (48+(n % 10))]));binOp .add 9 (nT (Lib.decDigits (n / 10))) (nT ([UInt8.ofNat (48+(n % 10))])))) (fun W _=>cat_str _ _ (Lib.decDigits (n / 10)) ([UInt8.ofNat (48+(n % 10))]) (by have:=decDigits_len20 (n:=n / 10) (by omega);simp;omega) W) ?_
   refine q_run [] 60 ?_
   refine qE ?_
   refine rk ?_
   exact gR (nT (Lib.decDigits (n / 10)++[UInt8.ofNat (48+(n % 10))])) (fun W hk=>⟨by rw [Lib.decDigits.eq_1 n,dif_neg h10],hk.below⟩)
theorem rlit_any (ty:Int) (n:Nat) (hn:n<18446744073709551616) (w:World):
  Calls Tryz.prog 83 #[.agg #[n8 ty,n6 (n:Int)]] w fun e w'=>∃ s,e = .returned (.tuple #[nT s,.bool (litT ty (n:Int)).isSome])∧(∀ t,litT ty (n:Int)=some t→s=t)∧Below w.heap.size w w':=by
 refine eN [.agg #[n8 ty,n6 (n:Int)]] Tryz.func83 (fun γ0 hγ0=>?_)
 refine rk ?_
 by_cases c1:ty=1
 ·
  refine kz ty 1 c1 ?_
  refine rk ?_
  refine good_draw sy_mixed (by kernel_rfl) ?_
  refine q_run [] 60 ?_
  refine qB [n6 (n:Int)] (nT (Lib.decDigits n)) (fun W hk=>rDec_any _ n W (Nat.lt_succ_self _) hn) ?_
  refine q_run [] 60 ?_
  refine qE ?_
  refine rk ?_
  by_cases hz:n<9223372036854775808
  ·
   refine zx 3 (n:Int) 9223372036854775808 (by omega) ?_
   have hl:litT ty (n:Int)=some (Lib.decDigits n):=by rw [c1,litT1];unfold signBits;rw [if_pos (show (n:Int)<9223372036854775808 by omega)];rfl
   refine gR (.tuple #[nT (Lib.decDigits n),.bool (true)]) (fun W hk=>⟨Lib.decDigits n,?_,?_,hk.below⟩)
   · rw [hl];rfl
   · intro u hu;rw [hl] at hu;injection hu
  ·
   refine zy 3 (n:Int) 9223372036854775808 (by omega) ?_
   have hl:litT ty (n:Int)=none:=by rw [c1,litT1];unfold signBits;rw [if_neg (show ¬ (n:Int)<9223372036854775808 by omega)]
   refine gR (.tuple #[nT (Lib.decDigits n),.bool (false)]) (fun W hk=>⟨Lib.decDigits n,?_,?_,hk.below⟩)
   · rw [hl];rfl
   · intro u hu;rw [hl] at hu;cases hu
 refine kw ty 1 c1 ?_
 refine rk ?_
 by_cases c2:ty=2
 ·
  refine kz ty 2 c2 ?_
  refine rk ?_
  by_cases d1:(n:Int)=1
  ·
   refine kz (n:Int) 1 d1 ?_
   refine rk ?_
   have hl:litT ty (n:Int)=some [116,114,117,101]:=by rw [c2,litT2,if_pos d1]
   refine gR (.tuple #[nT ([116,114,117,101]),.bool (true)]) (fun W hk=>⟨[116,114,117,101],?_,?_,hk.below⟩)
   · rw [hl];rfl
   · intro u hu;rw [hl] at hu;injection hu
  refine kw (n:Int) 1 d1 ?_
  refine rk ?_
  by_cases d0:(n:Int)=0
  ·
   refine gS 3 (x := .bool (intEq (n:Int) 0)) (.bool true) (by rw [eq_t d0]) ?_
   have hl:litT ty (n:Int)=some [102,97,108,115,101]:=by rw [c2,litT2,if_neg d1,if_pos d0]
   refine gR (.tuple #[nT ([102,97,108,115,101]),.bool (true)]) (fun W hk=>⟨[102,97,108,115,101],?_,?_,hk.below⟩)
   · rw [hl];rfl
   · intro u hu;rw [hl] at hu;injection hu
  ·
   refine gS 3 (x := .bool (intEq (n:Int) 0)) (.bool false) (by rw [eq_f d0]) ?_
   have hl:litT ty (n:Int)=none:=by rw [c2,litT2,if_neg d1,if_neg d0]
   refine gR (.tuple #[nT ([102,97,108,115,101]),.bool (false)]) (fun W hk=>⟨[102,97,108,115,101],?_,?_,hk.below⟩)
   · rw [hl];rfl
   · intro u hu;rw [hl] at hu;cases hu
 refine kw ty 2 c2 ?_
 refine rk ?_
 by_cases c3:ty=3
 ·
  refine kz ty 3 c3 ?_
  refine rk ?_
  by_cases d1:(n:Int)=9221120237041090560
  ·
   refine kz (n:Int) 9221120237041090560 d1 ?_
   refine rk ?_
   have hl:litT ty (n:Int)=some [110,97,110]:=by rw [c3,litT3,if_pos (show (n:Int)=nanBits from d1)]
   refine gR (.tuple #[nT ([110,97,110]),.bool (true)]) (fun W hk=>⟨[110,97,110],?_,?_,hk.below⟩)
   · rw [hl];rfl
   · intro u hu;rw [hl] at hu;injection hu
  refine kw (n:Int) 9221120237041090560 d1 ?_
  refine rk ?_
  by_cases d2:(n:Int)=9218868437227405312
  ·
   refine kz (n:Int) 9218868437227405312 d2 ?_
   refine rk ?_
   have hl:litT ty (n:Int)=some [105,110,102]:=by rw [c3,litT3,if_neg (show ¬ (n:Int)=nanBits from d1),if_pos (show (n:Int)=infBits from d2)]
   refine gR (.tuple #[nT ([105,110,102]),.bool (true)]) (fun W hk=>⟨[105,110,102],?_,?_,hk.below⟩)
   · rw [hl];rfl
   · intro u hu;rw [hl] at hu;injection hu
  refine kw (n:Int) 9218868437227405312 d2 ?_
  refine rk ?_
  have hl:litT ty (n:Int)=if (n:Int)<signBits then realP n else none:=by rw [c3,litT3,if_neg (show ¬ (n:Int)=nanBits from d1),if_neg (show ¬ (n:Int)=infBits from d2)];rfl
  cases hr:realP n with
  | none=>
    refine gX [n6 (n:Int)] (.tuple #[nT [],nI 2]) (fun W hk=>by have:=qprint_P n hn W;rw [hr] at this;exact this) ?_
    refine rs [] 60 3 ?_
    have hl:litT ty (n:Int)=none:=by rw [hl,hr];split <;> rfl
    refine gR (.tuple #[nT ([]),.bool (false)]) (fun W hk=>⟨[],?_,?_,hk.below⟩)
    · rw [hl];rfl
    · intro u hu;rw [hl] at hu;cases hu
  | some t=>
    refine gX [n6 (n:Int)] (.tuple #[nT t,nI 0]) (fun W hk=>by have:=qprint_P n hn W;rw [hr] at this;exact this) ?_
    refine rs [] 60 3 ?_
    have hl:litT ty (n:Int)=some t:=by rw [hl,hr,if_pos (by have:=(realP_bound hr).2.1;unfold signBits;omega)]
    have hlt:(n:Int)<9223372036854775808:=by have:=(realP_bound hr).2.1;omega
    refine zx 3 (n:Int) 9223372036854775808 hlt ?_
    refine gR (.tuple #[nT (t),.bool (true)]) (fun W hk=>⟨t,?_,?_,hk.below⟩)
    · rw [hl];rfl
    · intro u hu;rw [hl] at hu;injection hu
 refine kw ty 3 c3 ?_
 refine rs [] 60 3 ?_
 have hl:litT ty (n:Int)=none:=litT0 c1 c2 c3 _
 refine gR (.tuple #[nT ([]),.bool (false)]) (fun W hk=>⟨[],?_,?_,hk.below⟩)
 · rw [hl];rfl
 · intro u hu;rw [hl] at hu;cases hu
theorem lit_len {ty:Int} {n:Nat} {t:List UInt8} (hn:n<18446744073709551616) (h:litT ty (n:Int)=some t):t.length≤1048600:=by
 unfold litT at h
 split at h
 · split at h
   · injection h with h
     have:=decDigits_len20 hn
     rw [← h]
     show (Lib.decDigits ((n:Int).toNat)).length≤_
     rw [Int.toNat_natCast]
     omega
   · cases h
 split at h
 · split at h
   · injection h with h;rw [← h];simp
   · split at h
     · injection h with h;rw [← h];simp
     · cases h
 split at h
 · split at h
   · injection h with h;rw [← h];simp
   · split at h
     · injection h with h;rw [← h];simp
     · split at h
       · have:=(realP_bound h).2.2.len;omega
       · cases h
 · cases h
end
section
theorem exT_of {op ty bits:Int} {name:List UInt8} {kids:List Ex} {ks:List (List UInt8)} (hz:¬ ((op≠1∧¬ (ty=0∧bits=0))∨(op≠2∧name≠[]))) (hks:exTs kids=some ks):exT (.mk op ty bits name kids)=
  if op=1 then (match (generalizing:=false) ks with | []=>litT ty bits | _=>none)
  else if op=2 then (match (generalizing:=false) ks with | []=>if nameB name=true then some name else none | _=>none)
  else if 3≤op∧op≤15 then (match (generalizing:=false) ks with | [a,b]=>some (40::(a++(32::(signT op++(32::(b++[41])))))) | _=>none)
  else if op=16 then (match (generalizing:=false) ks with | [a]=>some (45::a) | _=>none)
  else if op=17 then (match (generalizing:=false) ks with | [a]=>some (33::a) | _=>none)
  else if op=18 then (match (generalizing:=false) ks with | [a]=>some ([105,110,116,40]++(a++[41])) | _=>none)
  else if op=19 then (match (generalizing:=false) ks with | [a]=>some ([114,101,97,108,40]++(a++[41])) | _=>none)
  else none:=by
 simp only [exT]
 rw [if_neg hz,hks]
 rfl
theorem exT_no {op ty bits:Int} {name:List UInt8} {kids:List Ex} (hz:(op≠1∧¬ (ty=0∧bits=0))∨(op≠2∧name≠[])):exT (.mk op ty bits name kids)=none:=by
 simp only [exT]
 rw [if_pos hz]
theorem exT_kid {op ty bits:Int} {name:List UInt8} {kids:List Ex} (h:exTs kids=none):exT (.mk op ty bits name kids)=none:=by
 simp only [exT]
 rw [h]
 split <;> rfl
theorem exTs_app:∀ (l r:List Ex),exTs (l++r)=match exTs l,exTs r with
  | some a,some b=>some (a++b)
  | _,_=>none
 | [],r=>by
   simp only [List.nil_append,exTs]
   cases exTs r <;> simp
 | x::l,r=>by
   simp only [List.cons_append,exTs]
   rw [exTs_app l r]
   cases exT x with
   | none=>rfl
   | some a=>
     cases exTs l with
     | none=>rfl
     | some b=>
       cases exTs r with
       | none=>rfl
       | some c=>simp
mutual
theorem exT_len:∀ (e:Ex) {t:List UInt8},exR e→exT e=some t→t.length≤1048600*exB e
 | .mk op ty bits name kids,t,hR,h=>by
   simp only [exR] at hR
   obtain ⟨_,_,hb,hk⟩:=hR
   simp only [exB]
   rcases exT_inv h with ⟨rfl,rfl,hl⟩ | ⟨rfl,rfl,rfl⟩ | ⟨rfl,x,tx,rfl,hx,rfl⟩ | ⟨rfl,x,tx,rfl,hx,rfl⟩ | ⟨rfl,x,tx,rfl,hx,rfl⟩ | ⟨rfl,x,tx,rfl,hx,rfl⟩ | ⟨_,x,y,tx,ty',rfl,hx,hy,rfl⟩
   · obtain ⟨n,rfl⟩:∃ n:Nat,bits=(n:Int):=⟨bits.toNat,by omega⟩
     have:=lit_len (by omega) hl
     omega
   · omega
   all_goals
    simp only [exRs] at hk
    have h1:=exT_len x hk.1 hx
    simp only [exBs,List.length_append,List.length_cons,List.length_nil]
   · omega
   · omega
   · omega
   · omega
   · have h2:=exT_len y hk.2.1 hy
     have h3:=psignT_len op
     omega
end
end
end Go.Proofs.YtinjiigdijbjeaaGreatDoor
