/- Texts of this proof, one behind the other. Conditions: those in each theorem. -/
import Derived.Test.YtiacalnkmnckjaaGreatDoorTapQ11
import Derived.Test.YtiacalnkmnckjaaGreatDoorTapQ7
set_option linter.unusedVariables false
set_option linter.unusedSimpArgs false
section
namespace Go.Proofs.YtiacalnkmnckjaaGreatDoor
open Go.RowKit Go.As
theorem typT_eq {ty bits:Int} {t:List UInt8} (h:valT ty bits=some t):ptypT ty=typT ty:=by
 unfold ptypT typT
 by_cases h1:ty=1
 · subst h1;rfl
 by_cases h2:ty=2
 · subst h2;rfl
 by_cases h3:ty=3
 · subst h3;rfl
 unfold valT litT at h
 rw [if_neg h1,if_neg h3,if_neg h1,if_neg h2,if_neg h3] at h
 cases h
open Go.Sy in
set_option maxRecDepth 100000 in
theorem pvariable_any (wd:List UInt8) (v:Vr) (u l:List UInt8) (b:Nat) (w:World) (hR:vrR v) (ht:Tab w) (hT:vrT wd v=some u) (hb:Bu b l w) (hlen:l.length+u.length≤140737488355328):
  Calls Tryz.prog 52 #[.pointer (some ⟨b,0,none⟩),.string (str wd),.agg #[.string (str v.name),.int .u8 v.ty,.int .u64 v.bits]] w fun e w'=>e = .returned (.tuple #[])∧WrR b (l++u) w w':=by
 obtain ⟨name,ty,bits⟩:=v
 obtain ⟨_,hb1,hb2⟩:=hR
 simp only at hb1 hb2 ⊢
 obtain ⟨bn,rfl⟩:∃ bn:Nat,bits=(bn:Int):=⟨bits.toNat,by omega⟩
 have hbn:bn<18446744073709551616:=by omega
 unfold vrT at hT
 simp only at hT
 split at hT
 rotate_left
 · cases hT
 rw [Option.map_eq_some_iff] at hT
 obtain ⟨t,hv,rfl⟩:=hT
 have h0:=Ch.start hb
 refine Sy.enter (vs:=[.pointer (some ⟨b,0,none⟩),.string (str wd),.agg #[.string (str name),.int .u8 ty,.int .u64 (bn:Int)]]) sy_fine Tryz.func52 rfl (fun γ=>norms_LR _) rfl (fun γ0 hγ0=>?_)
 refine rs [] 4 0 ?_
 refine good_drawL sy_mixed (by kernel_rfl) ?_
 refine q_run [10] 60 ?_
 refine qV (.string (str (wd++[32]))) (S:=(do eqGuard .add 9 (.tmp 9) (.const (.string (str [32]))) (.string (str (wd))) (.string (str ([32])));binOp .add 9 (.string (str (wd))) (.string (str ([32]))))) (fun W _=>cat_str _ _ (wd) ([32]) (by simp only [List.length_append,List.length_cons,List.length_nil] at hlen ⊢;omega) W) ?_
 refine q_run [13] 60 ?_
 refine qV (.string (str (wd++[32]++name))) (S:=(do eqGuard .add 9 (.tmp 10) (.tmp 12) (.string (str (wd++[32]))) (.string (str (name)));binOp .add 9 (.string (str (wd++[32]))) (.string (str (name))))) (fun W _=>cat_str _ _ (wd++[32]) (name) (by simp only [List.length_append,List.length_cons,List.length_nil] at hlen ⊢;omega) W) ?_
 refine q_run [14] 60 ?_
 refine qV (.string (str (wd++[32]++name++[32]))) (S:=(do eqGuard .add 9 (.tmp 13) (.const (.string (str [32]))) (.string (str (wd++[32]++name))) (.string (str ([32])));binOp .add 9 (.string (str (wd++[32]++name))) (.string (str ([32]))))) (fun W _=>cat_str _ _ (wd++[32]++name) ([32]) (by simp only [List.length_append,List.length_cons,List.length_nil] at hlen ⊢;omega) W) ?_
 refine q_run [19] 60 ?_
 refine qB [.int .u8 ty] (.string (str (typT ty))) (fun W hk=>by have:=ptype_any ty W;rw [typT_eq hv] at this;exact this) ?_
 refine q_run [19] 60 ?_
 refine qV (.string (str (wd++[32]++name++[32]++typT ty))) (S:=(do eqGuard .add 9 (.tmp 14) (.tmp 18) (.string (str (wd++[32]++name++[32]))) (.string (str (typT ty)));binOp .add 9 (.string (str (wd++[32]++name++[32]))) (.string (str (typT ty))))) (fun W _=>cat_str _ _ (wd++[32]++name++[32]) (typT ty) (by simp only [List.length_append,List.length_cons,List.length_nil] at hlen ⊢;omega) W) ?_
 refine q_run [20] 60 ?_
 refine qV (.string (str (wd++[32]++name++[32]++typT ty++[32,61,32]))) (S:=(do eqGuard .add 9 (.tmp 19) (.const (.string (str [32,61,32]))) (.string (str (wd++[32]++name++[32]++typT ty))) (.string (str ([32,61,32])));binOp .add 9 (.string (str (wd++[32]++name++[32]++typT ty))) (.string (str ([32,61,32]))))) (fun W _=>cat_str _ _ (wd++[32]++name++[32]++typT ty) ([32,61,32]) (by simp only [List.length_append,List.length_cons,List.length_nil] at hlen ⊢;omega) W) ?_
 refine q_run [24] 60 ?_
 refine qB [.agg #[.int .u8 ty,.int .u64 (bn:Int)]] (.string (str t)) (fun W hk=>by have:=tvalue_any ty bn hbn W (ht.below (Keep.below hk));rw [(fir_plain ty bn hbn).2 t hv] at this;exact this) ?_
 refine q_run [24] 60 ?_
 refine qV (.string (str (wd++[32]++name++[32]++typT ty++[32,61,32]++t))) (S:=(do eqGuard .add 9 (.tmp 20) (.tmp 23) (.string (str (wd++[32]++name++[32]++typT ty++[32,61,32]))) (.string (str (t)));binOp .add 9 (.string (str (wd++[32]++name++[32]++typT ty++[32,61,32]))) (.string (str (t))))) (fun W _=>cat_str _ _ (wd++[32]++name++[32]++typT ty++[32,61,32]) (t) (by simp only [List.length_append,List.length_cons,List.length_nil] at hlen ⊢;omega) W) ?_
 refine q_run [25] 60 ?_
 refine qV (.string (str (wd++[32]++name++[32]++typT ty++[32,61,32]++t++[59,10]))) (S:=(do eqGuard .add 9 (.tmp 24) (.const (.string (str [59,10]))) (.string (str (wd++[32]++name++[32]++typT ty++[32,61,32]++t))) (.string (str ([59,10])));binOp .add 9 (.string (str (wd++[32]++name++[32]++typT ty++[32,61,32]++t))) (.string (str ([59,10]))))) (fun W _=>cat_str _ _ (wd++[32]++name++[32]++typT ty++[32,61,32]++t) ([59,10]) (by simp only [List.length_append,List.length_cons,List.length_nil] at hlen ⊢;omega) W) ?_
 refine q_run [] 60 ?_
 refine qE ?_
 refine rk ?_
 refine good_wr (sy_cx _ _) [.pointer (some ⟨b,0,none⟩),.string (str (wd++[32]++name++[32]++typT ty++[32,61,32]++t++[59,10]))] b (wd++[32]++name++[32]++typT ty++[32,61,32]++t++[59,10]) (.tuple #[.int .i64 ((wd++[32]++name++[32]++typT ty++[32,61,32]++t++[59,10]:List UInt8).length:Int),.nilIface]) h0 (by kernel_rfl) (by kernel_rfl) (by kernel_rfl) (by kernel_rfl) (fun W hk hbu hA=>writeString_any b _ (wd++[32]++name++[32]++typT ty++[32,61,32]++t++[59,10]) W hbu (by first | omega | (simp only [List.length_append,List.length_cons,List.length_nil] at hlen ⊢;omega))) ?_
 intro w1 B1 hc1 _ _
 refine rk ?_
 refine gR (.tuple #[]) (fun W hk=>⟨rfl,?_⟩)
 have:=hc1.fin hk
 simpa only [List.append_assoc,List.cons_append,List.nil_append] using this
theorem repeatL_flat (x:List UInt8):∀ n,Lib.repeatL x n=(List.replicate n x).flatten
 | 0=>rfl
 | n+1=>by
   show x++Lib.repeatL x n=_
   rw [repeatL_flat x n,List.replicate_succ,List.flatten_cons]
theorem margT_len (deep:Nat):(margT deep).length=2*(deep+1):=by
 unfold margT
 rw [← repeatL_flat,Lib.repeatL_length]
 simp
 omega
open Go.Sy in
set_option maxRecDepth 100000 in
theorem pindent_any (deep:Nat) (l:List UInt8) (b:Nat) (w:World) (hd:deep≤1000000) (hb:Bu b l w) (hlen:l.length+(margT deep).length≤140737488355328):
  Calls Tryz.prog 126 #[.pointer (some ⟨b,0,none⟩),.int .i64 (deep:Int)] w fun e w'=>e = .returned (.tuple #[])∧WrR b (l++margT deep) w w':=by
 have h0:=Ch.start hb
 refine Sy.enter (vs:=[.pointer (some ⟨b,0,none⟩),.int .i64 (deep:Int)]) sy_fine Tryz.func126 rfl (fun γ=>norms_LR _) rfl (fun γ0 hγ0=>?_)
 refine rk ?_
 refine good_drawL sy_mixed (by kernel_rfl) ?_
 refine q_run [9] 60 ?_
 refine qS 8 (x := .int .i64 (wrapF .i64 ((deep:Int)+1))) (.int .i64 ((deep+1:Nat):Int)) (by rw [wr64 (by omega) (by omega)];rfl) ?_
 refine q_run [] 60 ?_
 refine qB [.string (str [32,32]),.int .i64 ((deep+1:Nat):Int)] (.string (str (margT deep))) (fun W hk=>by have:=Tryz.strings_Repeat (str [32,32]) (deep+1) W (by omega) (by rw [str_size];simp only [List.length_cons,List.length_nil];omega);rw [show (⟨(Lib.repeatL (str [32,32]).data.toList (deep+1)).toArray⟩:ByteArray)=str (margT deep) from congrArg str (repeatL_flat _ _)] at this;exact this) ?_
 refine q_run [] 60 ?_
 refine qE ?_
 refine rk ?_
 refine good_wr (sy_cx _ _) [.pointer (some ⟨b,0,none⟩),.string (str (margT deep))] b (margT deep) (.tuple #[.int .i64 ((margT deep:List UInt8).length:Int),.nilIface]) h0 (by kernel_rfl) (by kernel_rfl) (by kernel_rfl) (by kernel_rfl) (fun W hk hbu hA=>writeString_any b _ (margT deep) W hbu (by first | omega | (simp only [List.length_append,List.length_cons,List.length_nil] at hlen ⊢;omega))) ?_
 intro w1 B1 hc1 _ _
 refine rk ?_
 refine gR (.tuple #[]) (fun W hk=>⟨rfl,?_⟩)
 have:=hc1.fin hk
 simpa only [List.append_assoc] using this
open Go.Sy in
set_option maxRecDepth 100000 in
theorem pheaded_any (wd en:List UInt8) (e:Ex) (cs:List Value) (t l:List UInt8) (b:Nat) (w:World) (hB:exB e≤1000000000000) (hR:exR e) (ht:Tab w) (hT:exT e=some t) (hb:Bu b l w) (hlen:l.length+(wd++([32]++(t++(en++[10])))).length≤140737488355328) (hat:ExAt (Out b w) w e cs):
  Calls Tryz.prog 127 #[.pointer (some ⟨b,0,none⟩),.string (str wd),.agg cs.toArray,.string (str en)] w fun e w'=>e = .returned (.tuple #[])∧WrR b (l++(wd++([32]++(t++(en++[10]))))) w w':=by
 obtain ⟨uop,uty,ubits,uen,uek⟩:=e
 have hat0:=hat
 simp only [ExAt] at hat0
 obtain ⟨uea,uec,uex,rfl,_⟩:=hat0
 have h0:=Ch.start hb
 refine Sy.enter (vs:=[.pointer (some ⟨b,0,none⟩),.string (str wd),.agg #[.int .u8 uop,.int .u8 uty,.int .u64 ubits,.string (str uen),.slice uea uek.length uec],.string (str en)]) sy_fine Tryz.func127 rfl (fun γ=>norms_LR _) rfl (fun γ0 hγ0=>?_)
 refine rs [12] 60 0 ?_
 refine gC (wd) ([32]) (by simp only [List.length_append,List.length_cons,List.length_nil] at hlen ⊢;omega) ?_
 refine rk ?_
 refine good_wr (sy_cx _ _) [.pointer (some ⟨b,0,none⟩),.string (str (wd++[32]))] b (wd++[32]) (.tuple #[.int .i64 ((wd++[32]:List UInt8).length:Int),.nilIface]) h0 (by kernel_rfl) (by kernel_rfl) (by kernel_rfl) (by kernel_rfl) (fun W hk hbu hA=>writeString_any b _ (wd++[32]) W hbu (by first | omega | (simp only [List.length_append,List.length_cons,List.length_nil] at hlen ⊢;omega))) ?_
 intro w1 B1 hc1 _ _
 refine rk ?_
 refine good_wr (sy_cx _ _) [.pointer (some ⟨b,0,none⟩),.agg #[.int .u8 uop,.int .u8 uty,.int .u64 ubits,.string (str uen),.slice uea uek.length uec]] b (t) (.tuple #[]) hc1 (by kernel_rfl) (by kernel_rfl) (by kernel_rfl) (by kernel_rfl) (fun W hk hbu hA=>put_any _ (Ex.mk uop uty ubits uen uek) [.int .u8 uop,.int .u8 uty,.int .u64 ubits,.string (str uen),.slice uea uek.length uec] t _ b W (Nat.le_refl _) hB hR (ht.out hb (hc1.keep hk)) hT hbu (by simp only [List.length_append,List.length_cons,List.length_nil] at hlen ⊢;omega) (hat.keep (hc1.keep hk) hA)) ?_
 intro w2 B2 hc2 _ _
 refine rs [21] 60 0 ?_
 refine gC (en) ([10]) (by simp only [List.length_append,List.length_cons,List.length_nil] at hlen ⊢;omega) ?_
 refine rk ?_
 refine good_wr (sy_cx _ _) [.pointer (some ⟨b,0,none⟩),.string (str (en++[10]))] b (en++[10]) (.tuple #[.int .i64 ((en++[10]:List UInt8).length:Int),.nilIface]) hc2 (by kernel_rfl) (by kernel_rfl) (by kernel_rfl) (by kernel_rfl) (fun W hk hbu hA=>writeString_any b _ (en++[10]) W hbu (by first | omega | (simp only [List.length_append,List.length_cons,List.length_nil] at hlen ⊢;omega))) ?_
 intro w3 B3 hc3 _ _
 refine rk ?_
 refine gR (.tuple #[]) (fun W hk=>⟨rfl,?_⟩)
 have:=hc3.fin hk
 simpa only [List.append_assoc] using this
end Go.Proofs.YtiacalnkmnckjaaGreatDoor
end
section
namespace Go.Proofs.YtiacalnkmnckjaaGreatDoor
open Go.RowKit Go.As
def wdT (kind:Int):List UInt8:=if kind=5 then [105,102] else [119,104,105,108,101]
def nsT (deep:Nat) (kind:Int) (te tb tl:List UInt8) (n:Nat):List UInt8:=
 (wdT kind++([32]++(te++([32,123]++[10]))))++(tb++(margT deep++((if 0<n then [125,32,101,108,115,101,32,123,10]++(tl++margT deep) else [])++[125,10])))
theorem ex32_exT {e:Ex} {t:List UInt8} (h:ex32 e=some t):exT e=some t:=by
 unfold ex32 at h
 split at h
 · exact h
 · cases h
theorem stT_inv {deep:Nat} {kind:Int} {name t:List UInt8} {e:Ex} {body els:List St} (h:stT deep (.mk kind name e body els)=some t):
  (kind=1∧∃ te,exT e=some te∧t=margT deep++((name++[32,61])++([32]++(te++([59]++[10])))))∨
  (kind=2∧t=margT deep++([108,111,99,107,32]++name++[59,10]))∨
  (kind=3∧t=margT deep++([117,110,108,111,99,107,32]++name++[59,10]))∨
  (kind=4∧∃ te,exT e=some te∧t=margT deep++([97,115,115,101,114,116]++([32]++(te++([59]++[10])))))∨
  (kind=7∧t=margT deep++[115,107,105,112,59,10])∨
  (kind=5∧∃ te tb tl,exT e=some te∧stsT (deep+1) body=some tb∧stsT (deep+1) els=some tl∧t=margT deep++nsT deep kind te tb tl els.length)∨
  (kind=6∧∃ te tb tl,exT e=some te∧stsT (deep+1) body=some tb∧stsT (deep+1) els=some tl∧t=margT deep++nsT deep kind te tb tl els.length):=by
 simp only [stT] at h
 by_cases c1:kind=1
 · rw [if_pos c1] at h
   split at h
   · rw [Option.map_eq_some_iff] at h
     obtain ⟨te,he,rfl⟩:=h
     exact .inl ⟨c1,te,ex32_exT he,by simp⟩
   · cases h
 rw [if_neg c1] at h
 by_cases c2:kind=2
 · rw [if_pos c2] at h
   split at h
   · injection h with h
     exact .inr (.inl ⟨c2,by rw [← h];simp⟩)
   · cases h
 rw [if_neg c2] at h
 by_cases c3:kind=3
 · rw [if_pos c3] at h
   split at h
   · injection h with h
     exact .inr (.inr (.inl ⟨c3,by rw [← h];simp⟩))
   · cases h
 rw [if_neg c3] at h
 by_cases c4:kind=4
 · rw [if_pos c4] at h
   split at h
   · rw [Option.map_eq_some_iff] at h
     obtain ⟨te,he,rfl⟩:=h
     exact .inr (.inr (.inr (.inl ⟨c4,te,ex32_exT he,by simp⟩)))
   · cases h
 rw [if_neg c4] at h
 by_cases c7:kind=7
 · rw [if_pos c7] at h
   split at h
   · injection h with h
     exact .inr (.inr (.inr (.inr (.inl ⟨c7,by rw [← h]⟩))))
   · cases h
 rw [if_neg c7] at h
 by_cases c5:kind=5∨kind=6
 · rw [if_pos c5] at h
   cases hb:stsT (deep+1) body with
   | none=>rw [hb] at h;cases h
   | some tb=>
     cases hl:stsT (deep+1) els with
     | none=>rw [hb,hl] at h;cases h
     | some tl=>
       cases he:ex32 e with
       | none=>rw [hb,hl,he] at h;cases h
       | some te=>
         rw [hb,hl,he] at h
         simp only at h
         split at h
         · cases h
         rename_i hz
         have key:t=margT deep++nsT deep kind te tb tl els.length:=by
          unfold nsT wdT
          by_cases c6:kind=6
          · rw [if_pos c6] at h
            injection h with h
            rw [← h,if_neg (show ¬ kind=5 by omega),if_neg (fun hp=>hz (.inr ⟨c6,hp⟩))]
            simp
          · rw [if_neg c6] at h
            rw [if_pos (show kind=5 by omega)]
            split at h
            · rename_i hp
              injection h with h
              rw [← h,if_pos hp]
              simp
            · rename_i hp
              injection h with h
              rw [← h,if_neg hp]
              simp
         rcases c5 with c5 | c5
         · exact .inr (.inr (.inr (.inr (.inr (.inl ⟨c5,te,tb,tl,ex32_exT he,rfl,rfl,key⟩)))))
         · exact .inr (.inr (.inr (.inr (.inr (.inr ⟨c5,te,tb,tl,ex32_exT he,rfl,rfl,key⟩)))))
 · rw [if_neg c5] at h
   cases h
theorem stsT_some {deep:Nat} {L:List St} {t:List UInt8} (h:stsT deep L=some t):allT (stT deep) L=some t∧(L=[]∨deep≤32):=by
 rw [stsT_all] at h
 split at h
 · cases h
 rename_i hn
 refine ⟨h,?_⟩
 cases L with
 | nil=>exact .inl rfl
 | cons x l=>right;simp at hn;exact hn
theorem allT_mid {α:Type} {f:α→Option (List UInt8)} {l1 l3:List α} {x:α} {t t1:List UInt8} (h:allT f (l1++x::l3)=some t) (h1:allT f l1=some t1):∃ tx t3,f x=some tx∧t=t1++(tx++t3)∧allT f (l1++[x])=some (t1++tx):=by
 rw [allT_app,h1] at h
 simp only [allT] at h
 cases hx:f x with
 | none=>rw [hx] at h;cases h
 | some tx=>
   rw [hx] at h
   cases h3:allT f l3 with
   | none=>rw [h3] at h;cases h
   | some t3=>
     rw [h3] at h
     injection h with h
     refine ⟨tx,t3,rfl,h.symm,?_⟩
     rw [allT_app,h1]
     simp only [allT,hx,List.append_nil]
def BlkW (N:Nat):Prop:=∀ (L:List St) (a:Option Addr) (n cap:Nat) (xs:List Value) (deep:Nat) (t l:List UInt8) (b:Nat) (w:World),n=L.length→swts L<N→swts L≤1000000000000→deep≤1000→stBs L≤1000000000000→stRs L→Tab w→stsT deep L=some t→Bu b l w→l.length+t.length≤140737488355328→Sy.SlAt (Out b w) w a n 9 xs→LsAt (StAt (Out b w) w) L xs→
    Calls Tryz.prog 54 #[.pointer (some ⟨b,0,none⟩),.slice a n cap,.int .i64 (deep:Int)] w fun e w'=>e = .returned (.tuple #[])∧WrR b (l++t) w w'
open Go.Sy in
set_option maxRecDepth 100000 in
theorem pnested5_of (N:Nat) (ih:BlkW N) (usn:List UInt8) (uop uty ubits:Int) (uen:List UInt8) (uek:List Ex) (ubody uels:List St) (uba ula uea:Option Addr) (ubc ulc uec:Nat) (deep:Nat) (ubx ulx:List Value) (te tb tl l:List UInt8) (b:Nat) (w:World) (hN:swt (St.mk 5 usn (Ex.mk uop uty ubits uen uek) ubody uels)≤N) (hbd:swt (St.mk 5 usn (Ex.mk uop uty ubits uen uek) ubody uels)≤1000000000000) (hdeep:deep≤999) (hB:stB (St.mk 5 usn (Ex.mk uop uty ubits uen uek) ubody uels)≤1000000000000) (hR:stR (St.mk 5 usn (Ex.mk uop uty ubits uen uek) ubody uels)) (ht:Tab w)
  (hte:exT (Ex.mk uop uty ubits uen uek)=some te) (htb:stsT (deep+1) ubody=some tb) (htl:stsT (deep+1) uels=some tl) (hb:Bu b l w) (hlen:l.length+(nsT deep 5 te tb tl uels.length).length≤140737488355328)
  (uhe:ExAt (Out b w) w (Ex.mk uop uty ubits uen uek) [.int .u8 uop,.int .u8 uty,.int .u64 ubits,.string (str uen),.slice uea uek.length uec]) (uhbs:SlAt (Out b w) w uba ubody.length 9 ubx) (uhbt:StsAt (Out b w) w ubody ubx) (uhls:SlAt (Out b w) w ula uels.length 9 ulx) (uhlt:StsAt (Out b w) w uels ulx):
  Calls Tryz.prog 128 #[.pointer (some ⟨b,0,none⟩),.agg #[.int .i64 5,.string (str usn),.int .u8 uop,.int .u8 uty,.int .u64 ubits,.string (str uen),.slice uea uek.length uec,.slice uba ubody.length ubc,.slice ula uels.length ulc],.int .i64 (deep:Int)] w fun e w'=>e = .returned (.tuple #[])∧WrR b (l++nsT deep 5 te tb tl uels.length) w w':=by
 simp only [swt] at hN hbd
 simp only [stB] at hB
 obtain ⟨_,hRe,hRb,hRl⟩:=hR
 have hnb:=swts_len ubody
 have hnl:=swts_len uels
 have hwe:=wgt_pos (Ex.mk uop uty ubits uen uek)
 unfold nsT at hlen ⊢
 rw [show wdT 5=[105,102] from rfl] at hlen ⊢
 have h0:=Ch.start hb
 refine Sy.enter (vs:=[.pointer (some ⟨b,0,none⟩),.agg #[.int .i64 5,.string (str usn),.int .u8 uop,.int .u8 uty,.int .u64 ubits,.string (str uen),.slice uea uek.length uec,.slice uba ubody.length ubc,.slice ula uels.length ulc],.int .i64 (deep:Int)]) sy_fine Tryz.func128 rfl (fun γ=>norms_LR _) rfl (fun γ0 hγ0=>?_)
 refine rs [] 60 2 ?_
 refine good_wr (sy_cx _ _) [.pointer (some ⟨b,0,none⟩),.string (str [105,102]),.agg #[.int .u8 uop,.int .u8 uty,.int .u64 ubits,.string (str uen),.slice uea uek.length uec],.string (str [32,123])] b ([105,102]++([32]++(te++([32,123]++[10])))) (.tuple #[]) h0 (by kernel_rfl) (by kernel_rfl) (by kernel_rfl) (by kernel_rfl) (fun W hk hbu hA=>pheaded_any [105,102] [32,123] (Ex.mk uop uty ubits uen uek) [.int .u8 uop,.int .u8 uty,.int .u64 ubits,.string (str uen),.slice uea uek.length uec] te _ b W (by omega) hRe (ht.out hb (h0.keep hk)) hte hbu (by simp only [List.length_append,List.length_cons,List.length_nil] at hlen ⊢;omega) (uhe.keep (h0.keep hk) hA)) ?_
 intro w1 B1 hc1 _ _
 refine rk ?_
 refine gS 19 (x := .int .i64 (wrapF .i64 ((deep:Int)+1))) (.int .i64 ((deep+1:Nat):Int)) (by rw [wr64 (by omega) (by omega)];rfl) ?_
 refine good_wr (sy_cx _ _) [.pointer (some ⟨b,0,none⟩),.slice uba ubody.length ubc,.int .i64 ((deep+1:Nat):Int)] b (tb) (.tuple #[]) hc1 (by kernel_rfl) (by kernel_rfl) (by kernel_rfl) (by kernel_rfl) (fun W hk hbu hA=>ih ubody uba ubody.length ubc ubx (deep+1) tb _ b W rfl (by omega) (by omega) (by omega) (by omega) hRb (ht.out hb (hc1.keep hk)) htb hbu (by simp only [List.length_append,List.length_cons,List.length_nil] at hlen ⊢;omega) ((uhbs.keep (hc1.keep hk)).mono hA) (StsAt_ls.1 (uhbt.keep (hc1.keep hk) hA))) ?_
 intro w2 B2 hc2 _ _
 refine rk ?_
 refine good_wr (sy_cx _ _) [.pointer (some ⟨b,0,none⟩),.int .i64 (deep:Int)] b (margT deep) (.tuple #[]) hc2 (by kernel_rfl) (by kernel_rfl) (by kernel_rfl) (by kernel_rfl) (fun W hk hbu hA=>pindent_any deep _ b W (by omega) hbu (by simp only [List.length_append,List.length_cons,List.length_nil] at hlen ⊢;omega)) ?_
 intro w3 B3 hc3 _ _
 refine rk ?_
 rcases Nat.eq_zero_or_pos uels.length with hz | hz
 ·
  rw [if_neg (show ¬ 0<uels.length by omega)] at hlen ⊢
  refine gK false (b:=intLt 0 (uels.length:Int)) (lt_f (by omega)) ?_
  refine rk ?_
  refine good_wr (sy_cx _ _) [.pointer (some ⟨b,0,none⟩),.string (str [125,10])] b ([125,10]) (.tuple #[.int .i64 (([125,10]:List UInt8).length:Int),.nilIface]) hc3 (by kernel_rfl) (by kernel_rfl) (by kernel_rfl) (by kernel_rfl) (fun W hk hbu hA=>writeString_any b _ ([125,10]) W hbu (by simp only [List.length_append,List.length_cons,List.length_nil] at hlen ⊢;omega)) ?_
  intro w4 B4 hc4 _ _
  refine rk ?_
  refine gR (.tuple #[]) (fun W hk=>⟨rfl,?_⟩)
  have:=hc4.fin hk
  simpa only [List.append_assoc,List.nil_append] using this
 ·
  rw [if_pos hz] at hlen ⊢
  refine gK true (b:=intLt 0 (uels.length:Int)) (lt_t (by omega)) ?_
  refine rk ?_
  refine good_wr (sy_cx _ _) [.pointer (some ⟨b,0,none⟩),.string (str [125,32,101,108,115,101,32,123,10])] b ([125,32,101,108,115,101,32,123,10]) (.tuple #[.int .i64 (([125,32,101,108,115,101,32,123,10]:List UInt8).length:Int),.nilIface]) hc3 (by kernel_rfl) (by kernel_rfl) (by kernel_rfl) (by kernel_rfl) (fun W hk hbu hA=>writeString_any b _ ([125,32,101,108,115,101,32,123,10]) W hbu (by simp only [List.length_append,List.length_cons,List.length_nil] at hlen ⊢;omega)) ?_
  intro w4 B4 hc4 _ _
  refine rk ?_
  refine gS 36 (x := .int .i64 (wrapF .i64 ((deep:Int)+1))) (.int .i64 ((deep+1:Nat):Int)) (by rw [wr64 (by omega) (by omega)];rfl) ?_
  refine good_wr (sy_cx _ _) [.pointer (some ⟨b,0,none⟩),.slice ula uels.length ulc,.int .i64 ((deep+1:Nat):Int)] b (tl) (.tuple #[]) hc4 (by kernel_rfl) (by kernel_rfl) (by kernel_rfl) (by kernel_rfl) (fun W hk hbu hA=>ih uels ula uels.length ulc ulx (deep+1) tl _ b W rfl (by omega) (by omega) (by omega) (by omega) hRl (ht.out hb (hc4.keep hk)) htl hbu (by simp only [List.length_append,List.length_cons,List.length_nil] at hlen ⊢;omega) ((uhls.keep (hc4.keep hk)).mono hA) (StsAt_ls.1 (uhlt.keep (hc4.keep hk) hA))) ?_
  intro w5 B5 hc5 _ _
  refine rk ?_
  refine good_wr (sy_cx _ _) [.pointer (some ⟨b,0,none⟩),.int .i64 (deep:Int)] b (margT deep) (.tuple #[]) hc5 (by kernel_rfl) (by kernel_rfl) (by kernel_rfl) (by kernel_rfl) (fun W hk hbu hA=>pindent_any deep _ b W (by omega) hbu (by simp only [List.length_append,List.length_cons,List.length_nil] at hlen ⊢;omega)) ?_
  intro w6 B6 hc6 _ _
  refine rk ?_
  refine good_wr (sy_cx _ _) [.pointer (some ⟨b,0,none⟩),.string (str [125,10])] b ([125,10]) (.tuple #[.int .i64 (([125,10]:List UInt8).length:Int),.nilIface]) hc6 (by kernel_rfl) (by kernel_rfl) (by kernel_rfl) (by kernel_rfl) (fun W hk hbu hA=>writeString_any b _ ([125,10]) W hbu (by simp only [List.length_append,List.length_cons,List.length_nil] at hlen ⊢;omega)) ?_
  intro w7 B7 hc7 _ _
  refine rk ?_
  refine gR (.tuple #[]) (fun W hk=>⟨rfl,?_⟩)
  have:=hc7.fin hk
  simpa only [List.append_assoc,List.nil_append] using this
open Go.Sy in
set_option maxRecDepth 100000 in
theorem pnested6_of (N:Nat) (ih:BlkW N) (usn:List UInt8) (uop uty ubits:Int) (uen:List UInt8) (uek:List Ex) (ubody uels:List St) (uba ula uea:Option Addr) (ubc ulc uec:Nat) (deep:Nat) (ubx ulx:List Value) (te tb tl l:List UInt8) (b:Nat) (w:World) (hN:swt (St.mk 6 usn (Ex.mk uop uty ubits uen uek) ubody uels)≤N) (hbd:swt (St.mk 6 usn (Ex.mk uop uty ubits uen uek) ubody uels)≤1000000000000) (hdeep:deep≤999) (hB:stB (St.mk 6 usn (Ex.mk uop uty ubits uen uek) ubody uels)≤1000000000000) (hR:stR (St.mk 6 usn (Ex.mk uop uty ubits uen uek) ubody uels)) (ht:Tab w)
  (hte:exT (Ex.mk uop uty ubits uen uek)=some te) (htb:stsT (deep+1) ubody=some tb) (htl:stsT (deep+1) uels=some tl) (hb:Bu b l w) (hlen:l.length+(nsT deep 6 te tb tl uels.length).length≤140737488355328)
  (uhe:ExAt (Out b w) w (Ex.mk uop uty ubits uen uek) [.int .u8 uop,.int .u8 uty,.int .u64 ubits,.string (str uen),.slice uea uek.length uec]) (uhbs:SlAt (Out b w) w uba ubody.length 9 ubx) (uhbt:StsAt (Out b w) w ubody ubx) (uhls:SlAt (Out b w) w ula uels.length 9 ulx) (uhlt:StsAt (Out b w) w uels ulx):
  Calls Tryz.prog 128 #[.pointer (some ⟨b,0,none⟩),.agg #[.int .i64 6,.string (str usn),.int .u8 uop,.int .u8 uty,.int .u64 ubits,.string (str uen),.slice uea uek.length uec,.slice uba ubody.length ubc,.slice ula uels.length ulc],.int .i64 (deep:Int)] w fun e w'=>e = .returned (.tuple #[])∧WrR b (l++nsT deep 6 te tb tl uels.length) w w':=by
 simp only [swt] at hN hbd
 simp only [stB] at hB
 obtain ⟨_,hRe,hRb,hRl⟩:=hR
 have hnb:=swts_len ubody
 have hnl:=swts_len uels
 have hwe:=wgt_pos (Ex.mk uop uty ubits uen uek)
 unfold nsT at hlen ⊢
 rw [show wdT 6=[119,104,105,108,101] from rfl] at hlen ⊢
 have h0:=Ch.start hb
 refine Sy.enter (vs:=[.pointer (some ⟨b,0,none⟩),.agg #[.int .i64 6,.string (str usn),.int .u8 uop,.int .u8 uty,.int .u64 ubits,.string (str uen),.slice uea uek.length uec,.slice uba ubody.length ubc,.slice ula uels.length ulc],.int .i64 (deep:Int)]) sy_fine Tryz.func128 rfl (fun γ=>norms_LR _) rfl (fun γ0 hγ0=>?_)
 refine rs [] 60 2 ?_
 refine good_wr (sy_cx _ _) [.pointer (some ⟨b,0,none⟩),.string (str [119,104,105,108,101]),.agg #[.int .u8 uop,.int .u8 uty,.int .u64 ubits,.string (str uen),.slice uea uek.length uec],.string (str [32,123])] b ([119,104,105,108,101]++([32]++(te++([32,123]++[10])))) (.tuple #[]) h0 (by kernel_rfl) (by kernel_rfl) (by kernel_rfl) (by kernel_rfl) (fun W hk hbu hA=>pheaded_any [119,104,105,108,101] [32,123] (Ex.mk uop uty ubits uen uek) [.int .u8 uop,.int .u8 uty,.int .u64 ubits,.string (str uen),.slice uea uek.length uec] te _ b W (by omega) hRe (ht.out hb (h0.keep hk)) hte hbu (by simp only [List.length_append,List.length_cons,List.length_nil] at hlen ⊢;omega) (uhe.keep (h0.keep hk) hA)) ?_
 intro w1 B1 hc1 _ _
 refine rk ?_
 refine gS 19 (x := .int .i64 (wrapF .i64 ((deep:Int)+1))) (.int .i64 ((deep+1:Nat):Int)) (by rw [wr64 (by omega) (by omega)];rfl) ?_
 refine good_wr (sy_cx _ _) [.pointer (some ⟨b,0,none⟩),.slice uba ubody.length ubc,.int .i64 ((deep+1:Nat):Int)] b (tb) (.tuple #[]) hc1 (by kernel_rfl) (by kernel_rfl) (by kernel_rfl) (by kernel_rfl) (fun W hk hbu hA=>ih ubody uba ubody.length ubc ubx (deep+1) tb _ b W rfl (by omega) (by omega) (by omega) (by omega) hRb (ht.out hb (hc1.keep hk)) htb hbu (by simp only [List.length_append,List.length_cons,List.length_nil] at hlen ⊢;omega) ((uhbs.keep (hc1.keep hk)).mono hA) (StsAt_ls.1 (uhbt.keep (hc1.keep hk) hA))) ?_
 intro w2 B2 hc2 _ _
 refine rk ?_
 refine good_wr (sy_cx _ _) [.pointer (some ⟨b,0,none⟩),.int .i64 (deep:Int)] b (margT deep) (.tuple #[]) hc2 (by kernel_rfl) (by kernel_rfl) (by kernel_rfl) (by kernel_rfl) (fun W hk hbu hA=>pindent_any deep _ b W (by omega) hbu (by simp only [List.length_append,List.length_cons,List.length_nil] at hlen ⊢;omega)) ?_
 intro w3 B3 hc3 _ _
 refine rk ?_
 rcases Nat.eq_zero_or_pos uels.length with hz | hz
 ·
  rw [if_neg (show ¬ 0<uels.length by omega)] at hlen ⊢
  refine gK false (b:=intLt 0 (uels.length:Int)) (lt_f (by omega)) ?_
  refine rk ?_
  refine good_wr (sy_cx _ _) [.pointer (some ⟨b,0,none⟩),.string (str [125,10])] b ([125,10]) (.tuple #[.int .i64 (([125,10]:List UInt8).length:Int),.nilIface]) hc3 (by kernel_rfl) (by kernel_rfl) (by kernel_rfl) (by kernel_rfl) (fun W hk hbu hA=>writeString_any b _ ([125,10]) W hbu (by simp only [List.length_append,List.length_cons,List.length_nil] at hlen ⊢;omega)) ?_
  intro w4 B4 hc4 _ _
  refine rk ?_
  refine gR (.tuple #[]) (fun W hk=>⟨rfl,?_⟩)
  have:=hc4.fin hk
  simpa only [List.append_assoc,List.nil_append] using this
 ·
  rw [if_pos hz] at hlen ⊢
  refine gK true (b:=intLt 0 (uels.length:Int)) (lt_t (by omega)) ?_
  refine rk ?_
  refine good_wr (sy_cx _ _) [.pointer (some ⟨b,0,none⟩),.string (str [125,32,101,108,115,101,32,123,10])] b ([125,32,101,108,115,101,32,123,10]) (.tuple #[.int .i64 (([125,32,101,108,115,101,32,123,10]:List UInt8).length:Int),.nilIface]) hc3 (by kernel_rfl) (by kernel_rfl) (by kernel_rfl) (by kernel_rfl) (fun W hk hbu hA=>writeString_any b _ ([125,32,101,108,115,101,32,123,10]) W hbu (by simp only [List.length_append,List.length_cons,List.length_nil] at hlen ⊢;omega)) ?_
  intro w4 B4 hc4 _ _
  refine rk ?_
  refine gS 36 (x := .int .i64 (wrapF .i64 ((deep:Int)+1))) (.int .i64 ((deep+1:Nat):Int)) (by rw [wr64 (by omega) (by omega)];rfl) ?_
  refine good_wr (sy_cx _ _) [.pointer (some ⟨b,0,none⟩),.slice ula uels.length ulc,.int .i64 ((deep+1:Nat):Int)] b (tl) (.tuple #[]) hc4 (by kernel_rfl) (by kernel_rfl) (by kernel_rfl) (by kernel_rfl) (fun W hk hbu hA=>ih uels ula uels.length ulc ulx (deep+1) tl _ b W rfl (by omega) (by omega) (by omega) (by omega) hRl (ht.out hb (hc4.keep hk)) htl hbu (by simp only [List.length_append,List.length_cons,List.length_nil] at hlen ⊢;omega) ((uhls.keep (hc4.keep hk)).mono hA) (StsAt_ls.1 (uhlt.keep (hc4.keep hk) hA))) ?_
  intro w5 B5 hc5 _ _
  refine rk ?_
  refine good_wr (sy_cx _ _) [.pointer (some ⟨b,0,none⟩),.int .i64 (deep:Int)] b (margT deep) (.tuple #[]) hc5 (by kernel_rfl) (by kernel_rfl) (by kernel_rfl) (by kernel_rfl) (fun W hk hbu hA=>pindent_any deep _ b W (by omega) hbu (by simp only [List.length_append,List.length_cons,List.length_nil] at hlen ⊢;omega)) ?_
  intro w6 B6 hc6 _ _
  refine rk ?_
  refine good_wr (sy_cx _ _) [.pointer (some ⟨b,0,none⟩),.string (str [125,10])] b ([125,10]) (.tuple #[.int .i64 (([125,10]:List UInt8).length:Int),.nilIface]) hc6 (by kernel_rfl) (by kernel_rfl) (by kernel_rfl) (by kernel_rfl) (fun W hk hbu hA=>writeString_any b _ ([125,10]) W hbu (by simp only [List.length_append,List.length_cons,List.length_nil] at hlen ⊢;omega)) ?_
  intro w7 B7 hc7 _ _
  refine rk ?_
  refine gR (.tuple #[]) (fun W hk=>⟨rfl,?_⟩)
  have:=hc7.fin hk
  simpa only [List.append_assoc,List.nil_append] using this
end Go.Proofs.YtiacalnkmnckjaaGreatDoor
end
section
namespace Go.Proofs.YtiacalnkmnckjaaGreatDoor
open Go.RowKit Go.As
open Go.Sy in
set_option maxRecDepth 100000 in
theorem blkW:∀ N,BlkW N:=by
 intro N
 induction N with
 | zero=>intro L a n cap xs deep t l b w _ h;omega
 | succ N ih=>
   intro L a n cap xs deep t l b w hn hN hbd hdeep hB hR ht hT0 hb hlen hsl hks
   obtain ⟨hT,hd⟩:=stsT_some hT0
   have hnl:=swts_len L
   have h0:=Ch.start hb
   refine Sy.enter (vs:=[.pointer (some ⟨b,0,none⟩),.slice a n cap,.int .i64 (deep:Int)]) sy_fine Tryz.func54 rfl (fun γ=>norms_LR _) rfl (fun γ0 hγ0=>?_)
   refine rk ?_
   refine good_toLp ?_
   refine good_loopB (fun i:List St×List St=>i.2.length) (fun i B1 w1=>L=i.1++i.2∧∃ t1,allT (stT deep) i.1=some t1∧Ch b (l++t1) (Out b w) w w1 B1) (fun i=>⟨mkT [(0,.v (.pointer (some ⟨b,0,none⟩))),(2,.v (.int .i64 (deep:Int))),(8,.v (.slice a n cap)),(9,.v (.int .i64 (n:Int))),(10,.v (.int .i64 (i.1.length:Int)))],mkH [],gz,[]⟩)
    ([],L) ⟨rfl,[],rfl,by rw [List.append_nil];exact h0⟩ (by kernel_rfl)
    (fun h=>good_sub _ [(0,.v (.pointer (some ⟨b,0,none⟩))),(2,.v (.int .i64 (deep:Int))),(8,.v (.slice a n cap)),(9,.v (.int .i64 (n:Int))),(10,.v (.int .i64 (([]:List St).length:Int)))] [] gz rfl (by kernel_rfl) (by kernel_rfl) (by kernel_rfl) (by kernel_rfl) (by kernel_rfl) hγ0 (by kernel_rfl) h) ?_
   rintro ⟨l1,l2⟩ B1 w1 ⟨hI,t1,ht1,hch⟩ ih2
   have hI:L=l1++l2:=hI
   have ht1:allT (stT deep) l1=some t1:=ht1
   have hn2:n=l1.length+l2.length:=by rw [hn,hI,List.length_append]
   have hw1:swts L=swts l1+swts l2:=by rw [hI,swts_app]
   refine rk ?_
   cases l2 with
   | nil=>
     refine gK false (b:=intLt (l1.length:Int) (n:Int)) (lt_f (by simp at hn2;omega)) ?_
     refine rs [] 60 1 ?_
     refine gR (.tuple #[]) (fun W hk=>⟨rfl,?_⟩)
     have:=hch.fin hk
     rw [hI,List.append_nil,ht1] at hT
     injection hT with hT
     rwa [hT] at this
   | cons x l3=>
     have hin:l1.length<n:=by rw [hn2,List.length_cons];omega
     have hks2:=StsAt_ls.2 hks
     have hT2:=hT
     rw [hI] at hks2 hT2
     obtain ⟨tx,t3,htx,rfl,htn⟩:=allT_mid hT2 ht1
     obtain ⟨c,hc,hcell⟩:=hks2.at_
     simp only [swts] at hw1
     have hdp:deep≤32:=hd.elim (fun e=>by rw [hI] at e;simp at e) id
     have hxR:stR x:=stRs_mem.1 hR x (by rw [hI];simp)
     have hxB:=stBs_mem (x:=x) (l:=L) (by rw [hI];simp)
     refine gK true (b:=intLt (l1.length:Int) (n:Int)) (lt_t (by omega)) ?_
     refine rk ?_
     refine gV (.pointer (some ⟨gB a,oB a+l1.length*9,none⟩)) (S:=Instr.indexAt 54 (.slice a n cap) (.int .i64 (l1.length:Int))) (fun W _=>idx_sl (e:=56) hsl (by kernel_rfl) (by kernel_rfl) hin W) ?_
     refine rk ?_
     have hcl:=hc.len
     have hld:=fun W (hk:Keep _ _ W)=>load_slA (P:=Tryz.prog) (ty:=56) (m:=9) (cs:=c) hsl (by kernel_rfl) (by kernel_rfl) l1.length 0 hcl (fun j v hv=>by rw [Nat.add_zero];exact hcell j v hv) (W:=W) (hch.keep hk)
     obtain ⟨ukind,usn,⟨uop,uty,ubits,uen,uek⟩,ubody,uels⟩:=x
     simp only [StAt] at hc
     obtain ⟨ucs,uba,ubc,ubx,ula,ulc,ulx,rfl,uhe,uhbs,uhbt,uhls,uhlt⟩:=hc
     have uhe0:=uhe
     simp only [ExAt] at uhe0
     obtain ⟨uea,uec,uex,rfl,_⟩:=uhe0
     have hxB2:=hxB
     simp only [stB] at hxB2
     obtain ⟨_,hRe,_,_⟩:=id hxR
     rcases stT_inv htx with ⟨rfl,te,hte,rfl⟩ | ⟨rfl,rfl⟩ | ⟨rfl,rfl⟩ | ⟨rfl,te,hte,rfl⟩ | ⟨rfl,rfl⟩ | ⟨rfl,te,tb,tl,hte,htb,htl,rfl⟩ | ⟨rfl,te,tb,tl,hte,htb,htl,rfl⟩
     ·
      refine gV (.agg #[.int .i64 1,.string (str usn),.int .u8 uop,.int .u8 uty,.int .u64 ubits,.string (str uen),.slice uea uek.length uec,.slice uba ubody.length ubc,.slice ula uels.length ulc]) (S:=Instr.loadAt 56 (.pointer (some ⟨gB a,oB a+l1.length*9+0,none⟩))) (fun W hk=>hld W hk) ?_
      refine rk ?_
      refine good_wr (sy_cx _ _) [.pointer (some ⟨b,0,none⟩),.int .i64 (deep:Int)] b (margT deep) (.tuple #[]) hch (by kernel_rfl) (by kernel_rfl) (by kernel_rfl) (by kernel_rfl) (fun W hk hbu hA=>pindent_any deep _ b W (by omega) hbu (by simp only [List.length_append,List.length_cons,List.length_nil] at hlen ⊢;omega)) ?_
      intro w1 B1 hc1 _ _
      refine rs [24] 60 9 ?_
      refine gC (usn) ([32,61]) (by simp only [List.length_append,List.length_cons,List.length_nil] at hlen ⊢;omega) ?_
      refine rk ?_
      refine good_wr (sy_cx _ _) [.pointer (some ⟨b,0,none⟩),.string (str (usn++[32,61])),.agg #[.int .u8 uop,.int .u8 uty,.int .u64 ubits,.string (str uen),.slice uea uek.length uec],.string (str [59])] b ((usn++[32,61])++([32]++(te++([59]++[10])))) (.tuple #[]) hc1 (by kernel_rfl) (by kernel_rfl) (by kernel_rfl) (by kernel_rfl) (fun W hk hbu hA=>pheaded_any (usn++[32,61]) [59] (Ex.mk uop uty ubits uen uek) [.int .u8 uop,.int .u8 uty,.int .u64 ubits,.string (str uen),.slice uea uek.length uec] te _ b W (by omega) hRe (ht.out hb (hc1.keep hk)) hte hbu (by simp only [List.length_append,List.length_cons,List.length_nil] at hlen ⊢;omega) (uhe.keep (hc1.keep hk) hA)) ?_
      intro w2 B2 hc2 _ _
      refine rk ?_
      refine gS 10 (x := .int .i64 (wrapF .i64 ((l1.length:Int)+1))) (.int .i64 ((l1++[(St.mk 1 usn (Ex.mk uop uty ubits uen uek) ubody uels)]).length:Nat)) (by rw [wr64 (by omega) (by omega)];congr 1;simp) ?_
      exact gU _ [(0,.v (.pointer (some ⟨b,0,none⟩))),(2,.v (.int .i64 (deep:Int))),(8,.v (.slice a n cap)),(9,.v (.int .i64 (n:Int))),(10,.v (.int .i64 ((l1++[(St.mk 1 usn (Ex.mk uop uty ubits uen uek) ubody uels)]).length:Int)))] [] gz hγ0 (ih2 (l1++[(St.mk 1 usn (Ex.mk uop uty ubits uen uek) ubody uels)],l3) _ _ ⟨by show L=(l1++[_])++l3;rw [hI];simp,_,htn,by simpa only [List.append_assoc] using hc2⟩ (by show l3.length<(_::l3).length;simp))
     ·
      refine gV (.agg #[.int .i64 2,.string (str usn),.int .u8 uop,.int .u8 uty,.int .u64 ubits,.string (str uen),.slice uea uek.length uec,.slice uba ubody.length ubc,.slice ula uels.length ulc]) (S:=Instr.loadAt 56 (.pointer (some ⟨gB a,oB a+l1.length*9+0,none⟩))) (fun W hk=>hld W hk) ?_
      refine rk ?_
      refine good_wr (sy_cx _ _) [.pointer (some ⟨b,0,none⟩),.int .i64 (deep:Int)] b (margT deep) (.tuple #[]) hch (by kernel_rfl) (by kernel_rfl) (by kernel_rfl) (by kernel_rfl) (fun W hk hbu hA=>pindent_any deep _ b W (by omega) hbu (by simp only [List.length_append,List.length_cons,List.length_nil] at hlen ⊢;omega)) ?_
      intro w1 B1 hc1 _ _
      refine rs [35] 19 9 ?_
      refine good_drawL sy_mixed (by kernel_rfl) ?_
      refine q_run [35] 60 ?_
      refine qV (.string (str ([108,111,99,107,32]++usn))) (S:=(do eqGuard .add 9 (.const (.string (str [108,111,99,107,32]))) (.tmp 34) (.string (str ([108,111,99,107,32]))) (.string (str (usn)));binOp .add 9 (.string (str ([108,111,99,107,32]))) (.string (str (usn))))) (fun W _=>cat_str _ _ ([108,111,99,107,32]) (usn) (by simp only [List.length_append,List.length_cons,List.length_nil] at hlen ⊢;omega) W) ?_
      refine q_run [36] 60 ?_
      refine qV (.string (str ([108,111,99,107,32]++usn++[59,10]))) (S:=(do eqGuard .add 9 (.tmp 35) (.const (.string (str [59,10]))) (.string (str ([108,111,99,107,32]++usn))) (.string (str ([59,10])));binOp .add 9 (.string (str ([108,111,99,107,32]++usn))) (.string (str ([59,10]))))) (fun W _=>cat_str _ _ ([108,111,99,107,32]++usn) ([59,10]) (by simp only [List.length_append,List.length_cons,List.length_nil] at hlen ⊢;omega) W) ?_
      refine q_run [] 60 ?_
      refine qE ?_
      refine rk ?_
      refine good_wr (sy_cx _ _) [.pointer (some ⟨b,0,none⟩),.string (str ([108,111,99,107,32]++usn++[59,10]))] b ([108,111,99,107,32]++usn++[59,10]) (.tuple #[.int .i64 (([108,111,99,107,32]++usn++[59,10]:List UInt8).length:Int),.nilIface]) hc1 (by kernel_rfl) (by kernel_rfl) (by kernel_rfl) (by kernel_rfl) (fun W hk hbu hA=>writeString_any b _ ([108,111,99,107,32]++usn++[59,10]) W hbu (by simp only [List.length_append,List.length_cons,List.length_nil] at hlen ⊢;omega)) ?_
      intro w2 B2 hc2 _ _
      refine rk ?_
      refine gS 10 (x := .int .i64 (wrapF .i64 ((l1.length:Int)+1))) (.int .i64 ((l1++[(St.mk 2 usn (Ex.mk uop uty ubits uen uek) ubody uels)]).length:Nat)) (by rw [wr64 (by omega) (by omega)];congr 1;simp) ?_
      exact gU _ [(0,.v (.pointer (some ⟨b,0,none⟩))),(2,.v (.int .i64 (deep:Int))),(8,.v (.slice a n cap)),(9,.v (.int .i64 (n:Int))),(10,.v (.int .i64 ((l1++[(St.mk 2 usn (Ex.mk uop uty ubits uen uek) ubody uels)]).length:Int)))] [] gz hγ0 (ih2 (l1++[(St.mk 2 usn (Ex.mk uop uty ubits uen uek) ubody uels)],l3) _ _ ⟨by show L=(l1++[_])++l3;rw [hI];simp,_,htn,by simpa only [List.append_assoc] using hc2⟩ (by show l3.length<(_::l3).length;simp))
     ·
      refine gV (.agg #[.int .i64 3,.string (str usn),.int .u8 uop,.int .u8 uty,.int .u64 ubits,.string (str uen),.slice uea uek.length uec,.slice uba ubody.length ubc,.slice ula uels.length ulc]) (S:=Instr.loadAt 56 (.pointer (some ⟨gB a,oB a+l1.length*9+0,none⟩))) (fun W hk=>hld W hk) ?_
      refine rk ?_
      refine good_wr (sy_cx _ _) [.pointer (some ⟨b,0,none⟩),.int .i64 (deep:Int)] b (margT deep) (.tuple #[]) hch (by kernel_rfl) (by kernel_rfl) (by kernel_rfl) (by kernel_rfl) (fun W hk hbu hA=>pindent_any deep _ b W (by omega) hbu (by simp only [List.length_append,List.length_cons,List.length_nil] at hlen ⊢;omega)) ?_
      intro w1 B1 hc1 _ _
      refine rs [45] 25 9 ?_
      refine good_drawL sy_mixed (by kernel_rfl) ?_
      refine q_run [45] 60 ?_
      refine qV (.string (str ([117,110,108,111,99,107,32]++usn))) (S:=(do eqGuard .add 9 (.const (.string (str [117,110,108,111,99,107,32]))) (.tmp 44) (.string (str ([117,110,108,111,99,107,32]))) (.string (str (usn)));binOp .add 9 (.string (str ([117,110,108,111,99,107,32]))) (.string (str (usn))))) (fun W _=>cat_str _ _ ([117,110,108,111,99,107,32]) (usn) (by simp only [List.length_append,List.length_cons,List.length_nil] at hlen ⊢;omega) W) ?_
      refine q_run [46] 60 ?_
      refine qV (.string (str ([117,110,108,111,99,107,32]++usn++[59,10]))) (S:=(do eqGuard .add 9 (.tmp 45) (.const (.string (str [59,10]))) (.string (str ([117,110,108,111,99,107,32]++usn))) (.string (str ([59,10])));binOp .add 9 (.string (str ([117,110,108,111,99,107,32]++usn))) (.string (str ([59,10]))))) (fun W _=>cat_str _ _ ([117,110,108,111,99,107,32]++usn) ([59,10]) (by simp only [List.length_append,List.length_cons,List.length_nil] at hlen ⊢;omega) W) ?_
      refine q_run [] 60 ?_
      refine qE ?_
      refine rk ?_
      refine good_wr (sy_cx _ _) [.pointer (some ⟨b,0,none⟩),.string (str ([117,110,108,111,99,107,32]++usn++[59,10]))] b ([117,110,108,111,99,107,32]++usn++[59,10]) (.tuple #[.int .i64 (([117,110,108,111,99,107,32]++usn++[59,10]:List UInt8).length:Int),.nilIface]) hc1 (by kernel_rfl) (by kernel_rfl) (by kernel_rfl) (by kernel_rfl) (fun W hk hbu hA=>writeString_any b _ ([117,110,108,111,99,107,32]++usn++[59,10]) W hbu (by simp only [List.length_append,List.length_cons,List.length_nil] at hlen ⊢;omega)) ?_
      intro w2 B2 hc2 _ _
      refine rk ?_
      refine gS 10 (x := .int .i64 (wrapF .i64 ((l1.length:Int)+1))) (.int .i64 ((l1++[(St.mk 3 usn (Ex.mk uop uty ubits uen uek) ubody uels)]).length:Nat)) (by rw [wr64 (by omega) (by omega)];congr 1;simp) ?_
      exact gU _ [(0,.v (.pointer (some ⟨b,0,none⟩))),(2,.v (.int .i64 (deep:Int))),(8,.v (.slice a n cap)),(9,.v (.int .i64 (n:Int))),(10,.v (.int .i64 ((l1++[(St.mk 3 usn (Ex.mk uop uty ubits uen uek) ubody uels)]).length:Int)))] [] gz hγ0 (ih2 (l1++[(St.mk 3 usn (Ex.mk uop uty ubits uen uek) ubody uels)],l3) _ _ ⟨by show L=(l1++[_])++l3;rw [hI];simp,_,htn,by simpa only [List.append_assoc] using hc2⟩ (by show l3.length<(_::l3).length;simp))
     ·
      refine gV (.agg #[.int .i64 4,.string (str usn),.int .u8 uop,.int .u8 uty,.int .u64 ubits,.string (str uen),.slice uea uek.length uec,.slice uba ubody.length ubc,.slice ula uels.length ulc]) (S:=Instr.loadAt 56 (.pointer (some ⟨gB a,oB a+l1.length*9+0,none⟩))) (fun W hk=>hld W hk) ?_
      refine rk ?_
      refine good_wr (sy_cx _ _) [.pointer (some ⟨b,0,none⟩),.int .i64 (deep:Int)] b (margT deep) (.tuple #[]) hch (by kernel_rfl) (by kernel_rfl) (by kernel_rfl) (by kernel_rfl) (fun W hk hbu hA=>pindent_any deep _ b W (by omega) hbu (by simp only [List.length_append,List.length_cons,List.length_nil] at hlen ⊢;omega)) ?_
      intro w1 B1 hc1 _ _
      refine rs [] 60 9 ?_
      refine good_wr (sy_cx _ _) [.pointer (some ⟨b,0,none⟩),.string (str [97,115,115,101,114,116]),.agg #[.int .u8 uop,.int .u8 uty,.int .u64 ubits,.string (str uen),.slice uea uek.length uec],.string (str [59])] b ([97,115,115,101,114,116]++([32]++(te++([59]++[10])))) (.tuple #[]) hc1 (by kernel_rfl) (by kernel_rfl) (by kernel_rfl) (by kernel_rfl) (fun W hk hbu hA=>pheaded_any [97,115,115,101,114,116] [59] (Ex.mk uop uty ubits uen uek) [.int .u8 uop,.int .u8 uty,.int .u64 ubits,.string (str uen),.slice uea uek.length uec] te _ b W (by omega) hRe (ht.out hb (hc1.keep hk)) hte hbu (by simp only [List.length_append,List.length_cons,List.length_nil] at hlen ⊢;omega) (uhe.keep (hc1.keep hk) hA)) ?_
      intro w2 B2 hc2 _ _
      refine rk ?_
      refine gS 10 (x := .int .i64 (wrapF .i64 ((l1.length:Int)+1))) (.int .i64 ((l1++[(St.mk 4 usn (Ex.mk uop uty ubits uen uek) ubody uels)]).length:Nat)) (by rw [wr64 (by omega) (by omega)];congr 1;simp) ?_
      exact gU _ [(0,.v (.pointer (some ⟨b,0,none⟩))),(2,.v (.int .i64 (deep:Int))),(8,.v (.slice a n cap)),(9,.v (.int .i64 (n:Int))),(10,.v (.int .i64 ((l1++[(St.mk 4 usn (Ex.mk uop uty ubits uen uek) ubody uels)]).length:Int)))] [] gz hγ0 (ih2 (l1++[(St.mk 4 usn (Ex.mk uop uty ubits uen uek) ubody uels)],l3) _ _ ⟨by show L=(l1++[_])++l3;rw [hI];simp,_,htn,by simpa only [List.append_assoc] using hc2⟩ (by show l3.length<(_::l3).length;simp))
     ·
      refine gV (.agg #[.int .i64 7,.string (str usn),.int .u8 uop,.int .u8 uty,.int .u64 ubits,.string (str uen),.slice uea uek.length uec,.slice uba ubody.length ubc,.slice ula uels.length ulc]) (S:=Instr.loadAt 56 (.pointer (some ⟨gB a,oB a+l1.length*9+0,none⟩))) (fun W hk=>hld W hk) ?_
      refine rk ?_
      refine good_wr (sy_cx _ _) [.pointer (some ⟨b,0,none⟩),.int .i64 (deep:Int)] b (margT deep) (.tuple #[]) hch (by kernel_rfl) (by kernel_rfl) (by kernel_rfl) (by kernel_rfl) (fun W hk hbu hA=>pindent_any deep _ b W (by omega) hbu (by simp only [List.length_append,List.length_cons,List.length_nil] at hlen ⊢;omega)) ?_
      intro w1 B1 hc1 _ _
      refine rs [] 60 9 ?_
      refine good_wr (sy_cx _ _) [.pointer (some ⟨b,0,none⟩),.string (str [115,107,105,112,59,10])] b ([115,107,105,112,59,10]) (.tuple #[.int .i64 (([115,107,105,112,59,10]:List UInt8).length:Int),.nilIface]) hc1 (by kernel_rfl) (by kernel_rfl) (by kernel_rfl) (by kernel_rfl) (fun W hk hbu hA=>writeString_any b _ ([115,107,105,112,59,10]) W hbu (by simp only [List.length_append,List.length_cons,List.length_nil] at hlen ⊢;omega)) ?_
      intro w2 B2 hc2 _ _
      refine rk ?_
      refine gS 10 (x := .int .i64 (wrapF .i64 ((l1.length:Int)+1))) (.int .i64 ((l1++[(St.mk 7 usn (Ex.mk uop uty ubits uen uek) ubody uels)]).length:Nat)) (by rw [wr64 (by omega) (by omega)];congr 1;simp) ?_
      exact gU _ [(0,.v (.pointer (some ⟨b,0,none⟩))),(2,.v (.int .i64 (deep:Int))),(8,.v (.slice a n cap)),(9,.v (.int .i64 (n:Int))),(10,.v (.int .i64 ((l1++[(St.mk 7 usn (Ex.mk uop uty ubits uen uek) ubody uels)]).length:Int)))] [] gz hγ0 (ih2 (l1++[(St.mk 7 usn (Ex.mk uop uty ubits uen uek) ubody uels)],l3) _ _ ⟨by show L=(l1++[_])++l3;rw [hI];simp,_,htn,by simpa only [List.append_assoc] using hc2⟩ (by show l3.length<(_::l3).length;simp))
     ·
      refine gV (.agg #[.int .i64 5,.string (str usn),.int .u8 uop,.int .u8 uty,.int .u64 ubits,.string (str uen),.slice uea uek.length uec,.slice uba ubody.length ubc,.slice ula uels.length ulc]) (S:=Instr.loadAt 56 (.pointer (some ⟨gB a,oB a+l1.length*9+0,none⟩))) (fun W hk=>hld W hk) ?_
      refine rk ?_
      refine good_wr (sy_cx _ _) [.pointer (some ⟨b,0,none⟩),.int .i64 (deep:Int)] b (margT deep) (.tuple #[]) hch (by kernel_rfl) (by kernel_rfl) (by kernel_rfl) (by kernel_rfl) (fun W hk hbu hA=>pindent_any deep _ b W (by omega) hbu (by simp only [List.length_append,List.length_cons,List.length_nil] at hlen ⊢;omega)) ?_
      intro w1 B1 hc1 _ _
      refine rs [] 60 9 ?_
      refine good_wr (sy_cx _ _) [.pointer (some ⟨b,0,none⟩),.agg #[.int .i64 5,.string (str usn),.int .u8 uop,.int .u8 uty,.int .u64 ubits,.string (str uen),.slice uea uek.length uec,.slice uba ubody.length ubc,.slice ula uels.length ulc],.int .i64 (deep:Int)] b (nsT deep 5 te tb tl uels.length) (.tuple #[]) hc1 (by kernel_rfl) (by kernel_rfl) (by kernel_rfl) (by kernel_rfl) (fun W hk hbu hA=>pnested5_of N ih usn uop uty ubits uen uek ubody uels uba ula uea ubc ulc uec deep ubx ulx te tb tl _ b W (by omega) (by omega) (by omega) (by omega) hxR (ht.out hb (hc1.keep hk)) hte htb htl hbu (by simp only [List.length_append,List.length_cons,List.length_nil] at hlen ⊢;omega) (uhe.keep (hc1.keep hk) hA) ((uhbs.keep (hc1.keep hk)).mono hA) (uhbt.keep (hc1.keep hk) hA) ((uhls.keep (hc1.keep hk)).mono hA) (uhlt.keep (hc1.keep hk) hA)) ?_
      intro w2 B2 hc2 _ _
      refine rk ?_
      refine gS 10 (x := .int .i64 (wrapF .i64 ((l1.length:Int)+1))) (.int .i64 ((l1++[(St.mk 5 usn (Ex.mk uop uty ubits uen uek) ubody uels)]).length:Nat)) (by rw [wr64 (by omega) (by omega)];congr 1;simp) ?_
      exact gU _ [(0,.v (.pointer (some ⟨b,0,none⟩))),(2,.v (.int .i64 (deep:Int))),(8,.v (.slice a n cap)),(9,.v (.int .i64 (n:Int))),(10,.v (.int .i64 ((l1++[(St.mk 5 usn (Ex.mk uop uty ubits uen uek) ubody uels)]).length:Int)))] [] gz hγ0 (ih2 (l1++[(St.mk 5 usn (Ex.mk uop uty ubits uen uek) ubody uels)],l3) _ _ ⟨by show L=(l1++[_])++l3;rw [hI];simp,_,htn,by simpa only [List.append_assoc] using hc2⟩ (by show l3.length<(_::l3).length;simp))
     ·
      refine gV (.agg #[.int .i64 6,.string (str usn),.int .u8 uop,.int .u8 uty,.int .u64 ubits,.string (str uen),.slice uea uek.length uec,.slice uba ubody.length ubc,.slice ula uels.length ulc]) (S:=Instr.loadAt 56 (.pointer (some ⟨gB a,oB a+l1.length*9+0,none⟩))) (fun W hk=>hld W hk) ?_
      refine rk ?_
      refine good_wr (sy_cx _ _) [.pointer (some ⟨b,0,none⟩),.int .i64 (deep:Int)] b (margT deep) (.tuple #[]) hch (by kernel_rfl) (by kernel_rfl) (by kernel_rfl) (by kernel_rfl) (fun W hk hbu hA=>pindent_any deep _ b W (by omega) hbu (by simp only [List.length_append,List.length_cons,List.length_nil] at hlen ⊢;omega)) ?_
      intro w1 B1 hc1 _ _
      refine rs [] 60 9 ?_
      refine good_wr (sy_cx _ _) [.pointer (some ⟨b,0,none⟩),.agg #[.int .i64 6,.string (str usn),.int .u8 uop,.int .u8 uty,.int .u64 ubits,.string (str uen),.slice uea uek.length uec,.slice uba ubody.length ubc,.slice ula uels.length ulc],.int .i64 (deep:Int)] b (nsT deep 6 te tb tl uels.length) (.tuple #[]) hc1 (by kernel_rfl) (by kernel_rfl) (by kernel_rfl) (by kernel_rfl) (fun W hk hbu hA=>pnested6_of N ih usn uop uty ubits uen uek ubody uels uba ula uea ubc ulc uec deep ubx ulx te tb tl _ b W (by omega) (by omega) (by omega) (by omega) hxR (ht.out hb (hc1.keep hk)) hte htb htl hbu (by simp only [List.length_append,List.length_cons,List.length_nil] at hlen ⊢;omega) (uhe.keep (hc1.keep hk) hA) ((uhbs.keep (hc1.keep hk)).mono hA) (uhbt.keep (hc1.keep hk) hA) ((uhls.keep (hc1.keep hk)).mono hA) (uhlt.keep (hc1.keep hk) hA)) ?_
      intro w2 B2 hc2 _ _
      refine rk ?_
      refine gS 10 (x := .int .i64 (wrapF .i64 ((l1.length:Int)+1))) (.int .i64 ((l1++[(St.mk 6 usn (Ex.mk uop uty ubits uen uek) ubody uels)]).length:Nat)) (by rw [wr64 (by omega) (by omega)];congr 1;simp) ?_
      exact gU _ [(0,.v (.pointer (some ⟨b,0,none⟩))),(2,.v (.int .i64 (deep:Int))),(8,.v (.slice a n cap)),(9,.v (.int .i64 (n:Int))),(10,.v (.int .i64 ((l1++[(St.mk 6 usn (Ex.mk uop uty ubits uen uek) ubody uels)]).length:Int)))] [] gz hγ0 (ih2 (l1++[(St.mk 6 usn (Ex.mk uop uty ubits uen uek) ubody uels)],l3) _ _ ⟨by show L=(l1++[_])++l3;rw [hI];simp,_,htn,by simpa only [List.append_assoc] using hc2⟩ (by show l3.length<(_::l3).length;simp))
end Go.Proofs.YtiacalnkmnckjaaGreatDoor
end
section
namespace Go.Proofs.YtiacalnkmnckjaaGreatDoor
open Go.RowKit Go.As
theorem allT_isSome {α:Type} {f:α→Option (List UInt8)} {ok:α→Bool}:∀ (l:List α),(∀ x∈l,(f x).isSome=ok x)→(allT f l).isSome=!(l.any fun x=>!(ok x))
 | [],_=>rfl
 | x::l,h=>by
   have h1:=h x (by simp)
   have ih:=allT_isSome l (fun y hy=>h y (by simp [hy]))
   simp only [allT,List.any_cons]
   cases hx:f x with
   | none=>rw [hx] at h1;rw [← h1];simp
   | some t=>
     rw [hx] at h1
     rw [← h1]
     cases ht:allT f l with
     | none=>rw [ht] at ih;simp at ih ⊢;exact ih
     | some s=>rw [ht] at ih;simp at ih ⊢;exact ih
theorem okT_plain (x:Th) (h:thR x):(thT x).isSome=okT x:=by
 have h1:=allT_isSome (f:=vrT [32,32,108,111,99,97,108]) (ok:=okV) x.locals (fun v hv=>okV_vrT _ v (h.1 v hv))
 unfold thT okT okB
 cases ha:allT (vrT [32,32,108,111,99,97,108]) x.locals with
 | none=>rw [ha] at h1;rw [← h1];simp
 | some a=>
   rw [ha] at h1
   rw [← h1]
   cases hb:stsT 0 x.body with
   | none=>simp
   | some b=>cases hn:nameB x.name <;> simp
theorem okM_plain (m:List UInt8):(mxT m).isSome=nameB m:=by
 unfold mxT
 cases hn:nameB m <;> simp
theorem okP_plain (p:Pg) (h:pgR p):(pgT p).isSome=okP p:=by
 have h1:=allT_isSome (f:=vrT [115,104,97,114,101,100]) (ok:=okV) p.shared (fun v hv=>okV_vrT _ v (h.1 v hv))
 have h2:=allT_isSome (f:=mxT) (ok:=nameB) p.mutexes (fun m _=>okM_plain m)
 have h3:=allT_isSome (f:=thT) (ok:=okT) p.threads (fun x hx=>okT_plain x (h.2 x hx))
 unfold pgT okP
 rw [← h1,← h2,← h3]
 cases allT (vrT [115,104,97,114,101,100]) p.shared <;> cases allT mxT p.mutexes <;> cases allT thT p.threads <;> rfl
theorem Ch.give {k:Nat} {w1:World} {A B1:Nat→Prop} (hq:w1.heap[k]?=some (.cells #[.pointer none,.slice none 0 0] 94 (0,0))) (hB:B1 k) (hA:∀ j,A j→B1 j) (hn:¬ A k) (hB1:∀ j,B1 j→j<w1.heap.size):Ch k [] A w1 w1 B1:=by
 have hF:∀ j,BuF k w1 j↔j=k:=fun j=>by rw [BuF.at_ hq];simp [Value.ownBlock]
 refine ⟨⟨_,none,0,0,.inl rfl,hq,World.ownsRow_nil _ _ _ _,by simp [Value.ownBlock],fun _=>rfl⟩,fun j hj=>?_,hA,Sy.Keep.refl _ _,fun j hj => .inl hj,fun j hj=>⟨hB1 j (hA j hj),fun h=>?_⟩⟩
 · rw [(hF j).1 hj];exact hB
 · rw [(hF j).1 h] at hj;exact hn hj
section
open Go.Sy
variable {I:Aux} {B:Nat→Prop} {w0:World} {γ0:Gm} {nt:Nat} {Q:Exit→Act→World→Prop} {g:Cfg}
theorem good_bStr (cx:Cx Tryz.prog I B w0) {b:Nat} {l:List UInt8} {A:Nat→Prop} {win:World} (hch:Ch b l A win w0 B) (h:hdCall Tryz.prog nt g=some (56,[Value.pointer (some ⟨b,0,none⟩)].map norm)) (hbod:bodied Tryz.prog 56=some true) (hx:closeLL ([Value.pointer (some ⟨b,0,none⟩)].map norm)=some [Value.pointer (some ⟨b,0,none⟩)])
  (hown:trAll blkOwned g.s.h=true)
  (hg:∀ w' B',Keep A win w'→(∀ k,A k→B' k)→Sy.Good Tryz.prog B' w' γ0 nt Q (nx0 g (norm (.string (str l))))):Sy.Good Tryz.prog B w0 γ0 nt Q g:=by
 refine good_callW cx [.pointer (some ⟨b,0,none⟩)] (BuF b w0) (Pr:=fun w r w'=>r = .string (str l)) h hbod hx hown hch.bB (fun w hk=>?_) ?_
 · obtain ⟨h1,h2⟩:=hch.seen hk
   exact (bString_any b l w h1).mono fun e w' ⟨e1,e2⟩=>⟨_,e1,rfl,e2.mono fun k hk2=>⟨hk2.1,fun hF=>hk2.2 ((h2 k).1 hF)⟩⟩
 · rintro w r w' B' hk rfl h1 h2 h3 h4 h5
   exact hg w' B' (hch.kp.trans (h2.mono fun k hA=>⟨hch.AB k hA,hch.disj hA⟩)) (fun k hA=>h3 k (hch.AB k hA))
end
end Go.Proofs.YtiacalnkmnckjaaGreatDoor
end
section
namespace Go.Proofs.YtiacalnkmnckjaaGreatDoor
open Go.RowKit Go.As
theorem pgT_inv {p:Pg} {t:List UInt8} (h:pgT p=some t):∃ a b c,allT (vrT [115,104,97,114,101,100]) p.shared=some a∧allT mxT p.mutexes=some b∧allT thT p.threads=some c∧t=a++(b++c):=by
 unfold pgT at h
 cases h1:allT (vrT [115,104,97,114,101,100]) p.shared with
 | none=>rw [h1] at h;cases h
 | some a=>
   cases h2:allT mxT p.mutexes with
   | none=>rw [h1,h2] at h;cases h
   | some b=>
     cases h3:allT thT p.threads with
     | none=>rw [h1,h2,h3] at h;cases h
     | some c=>
       rw [h1,h2,h3] at h
       injection h with h
       exact ⟨a,b,c,rfl,rfl,rfl,h.symm⟩
theorem thT_inv {x:Th} {t:List UInt8} (h:thT x=some t):∃ a b,allT (vrT [32,32,108,111,99,97,108]) x.locals=some a∧stsT 0 x.body=some b∧t=([116,104,114,101,97,100,32]++x.name++[32,123,10])++(a++(b++[125,10])):=by
 unfold thT at h
 cases h1:allT (vrT [32,32,108,111,99,97,108]) x.locals with
 | none=>rw [h1] at h;cases h
 | some a=>
   cases h2:stsT 0 x.body with
   | none=>rw [h1,h2] at h;cases h
   | some b=>
     rw [h1,h2] at h
     simp only at h
     split at h
     · injection h with h
       exact ⟨a,b,rfl,rfl,by rw [← h];simp⟩
     · cases h
theorem mxT_inv {m t:List UInt8} (h:mxT m=some t):t=[109,117,116,101,120,32]++m++[59,10]:=by
 unfold mxT at h
 split at h
 · injection h with h
   rw [← h];simp
 · cases h
open Go.Sy in
set_option maxRecDepth 100000 in
theorem tPrint_any (p:Pg) (cs:List Value) (w:World) (hB:pgB p≤400000000000) (hR:pgR p) (ht:Tab w) (hlen:∀ t,pgT p=some t→t.length≤140737488355328) (hp:PgAt (·<w.heap.size) w p cs):
  Calls Tryz.prog 16 #[.agg cs.toArray] w fun v w'=>v = .returned (.tuple #[.string (str (printS p)),.int .i64 (printE p)])∧Below w.heap.size w w':=by
 have hp0:=hp
 obtain ⟨a,cap,xs,b,cap2,ys,d,cap3,zs,rfl,_⟩:=hp0
 refine Sy.enter (vs:=[.agg #[.slice a p.shared.length cap,.slice b p.mutexes.length cap2,.slice d p.threads.length cap3]]) sy_fine Tryz.func16 rfl (fun γ=>norms_LR _) rfl (fun γ0 hγ0=>?_)
 refine rk ?_
 cases hv:pgT p with
 | none=>
   refine gX [.agg #[.slice a p.shared.length cap,.slice b p.mutexes.length cap2,.slice d p.threads.length cap3]] (.bool false) (fun W hk=>by
    have:=tprogram_any p [.slice a p.shared.length cap,.slice b p.mutexes.length cap2,.slice d p.threads.length cap3] W hB hR (ht.below (Keep.below hk)) (hp.keep hk (fun k h=>Nat.lt_of_lt_of_le h hk.size))
    rw [← okP_plain p hR,hv] at this
    exact this) ?_
   refine rs [] 60 4 ?_
   exact gR (.tuple #[.string (str []),.int .i64 2]) (fun W hk=>⟨by unfold printS printE;rw [hv],hk.below⟩)
 | some t=>
   have hlen:=hlen t hv
   obtain ⟨tS,tM,tT,hS,hM,hT,rfl⟩:=pgT_inv hv
   unfold pgB at hB
   obtain ⟨hRs,hRt⟩:=id hR
   have hl1:=len_sumN (μ:=vrB) (fun v=>by unfold vrB;omega) p.shared
   have hl2:=len_sumN (μ:=txB) (fun v=>by unfold txB;omega) p.mutexes
   have hl3:=len_sumN (μ:=thB) (fun v=>by unfold thB;omega) p.threads
   obtain ⟨a',cap',xs',b',cap2',ys',d',cap3',zs',he,hxs,hxt,hys,hyt,hzs,hzt⟩:=id hp
   simp only [List.cons.injEq,Value.slice.injEq,true_and,and_true] at he
   obtain ⟨⟨rfl,rfl⟩,⟨rfl,rfl⟩,rfl,rfl⟩:=he
   refine gX [.agg #[.slice a p.shared.length cap,.slice b p.mutexes.length cap2,.slice d p.threads.length cap3]] (.bool true) (fun W hk=>by
    have:=tprogram_any p [.slice a p.shared.length cap,.slice b p.mutexes.length cap2,.slice d p.threads.length cap3] W hB hR (ht.below (Keep.below hk)) (hp.keep hk (fun k h=>Nat.lt_of_lt_of_le h hk.size))
    rw [← okP_plain p hR,hv] at this
    exact this) ?_
   refine rs [] 60 2 ?_
   refine gG 4 (gz+1) 94 [.pointer none,.slice none 0 0] (fun q w1 B1 hk1 hB01 hBq hnq hB1 hq=>?_)
   have hch:=Ch.give hq hBq hB01 hnq hB1
   have hk1:Keep (·<w.heap.size) w w1:=hk1
   obtain ⟨A,hA⟩:∃ A:Nat→Prop,A=(·<w.heap.size):=⟨_,rfl⟩
   have hch:Ch q [] A w1 w1 B1:=by rw [hA];exact hch
   have KW:∀ {l B w3} (h:Ch q l A w1 w3 B) {W},Keep B w3 W→Keep (·<w.heap.size) w W:=fun h W hk=>by
    have:=h.keep hk
    rw [hA] at this
    exact hk1.trans this
   have OUT:∀ {l B w3} (h:Ch q l A w1 w3 B) {W},(∀ k,A k→Out q W k)→∀ k,k<w.heap.size→Out q W k:=fun h W hh k hk=>hh k (by rw [hA];exact hk)
   refine rk ?_
   refine good_toLp ?_
   refine good_loopB (fun i:List Vr×List Vr=>i.2.length) (fun i B3 w3=>p.shared=i.1++i.2∧∃ t1,allT (vrT [115,104,97,114,101,100]) i.1=some t1∧Ch q t1 A w1 w3 B3) (fun i=>⟨mkT [(1,.ptr gz 0),(4,.v (.pointer (some ⟨q,0,none⟩))),(17,.v (.slice a p.shared.length cap)),(18,.v (.int .i64 (p.shared.length:Int))),(19,.v (.int .i64 (i.1.length:Int)))],mkH [(gz,some (.cells 26 true true true 3 (putL .leaf 0 [.v (.slice a p.shared.length cap),.v (.slice b p.mutexes.length cap2),.v (.slice d p.threads.length cap3)])))],gz+2,[]⟩)
    ([],p.shared) ⟨rfl,[],rfl,hch⟩ (by kernel_rfl)
    (fun h=>good_sub _ [(1,.ptr gz 0),(4,.v (.pointer (some ⟨q,0,none⟩))),(17,.v (.slice a p.shared.length cap)),(18,.v (.int .i64 (p.shared.length:Int))),(19,.v (.int .i64 (([]:List Vr).length:Int)))] [(gz,some (.cells 26 true true true 3 (putL .leaf 0 [.v (.slice a p.shared.length cap),.v (.slice b p.mutexes.length cap2),.v (.slice d p.threads.length cap3)])))] (gz+2) rfl (by kernel_rfl) (by kernel_rfl) (by kernel_rfl) (by kernel_rfl) (by kernel_rfl) (fun b hb=>hγ0 b (Nat.le_trans (Nat.le_add_right _ _) hb)) (by kernel_rfl) h) ?_
   rintro ⟨l1,l2⟩ B3 w3 ⟨hI1,t1,ht1,hc3⟩ ih3
   have hI1:p.shared=l1++l2:=hI1
   have ht1:allT (vrT [115,104,97,114,101,100]) l1=some t1:=ht1
   have hnl1:p.shared.length=l1.length+l2.length:=by rw [hI1,List.length_append]
   refine rk ?_
   cases l2 with
   | cons v l3=>
     have hT2:=hS
     have hks2:=hxt
     rw [hI1] at hT2 hks2
     obtain ⟨tx,t3,htx,htt,htn⟩:=allT_mid hT2 ht1
     obtain ⟨c,hc,hcell⟩:=hks2.at_ (fun _ _ h=>h.len)
     obtain rfl:c=[.string (str v.name),.int .u8 v.ty,.int .u64 v.bits]:=hc
     have hin:l1.length<p.shared.length:=by rw [hnl1,List.length_cons];omega
     have hlt:=congrArg List.length htt
     simp only [List.length_append] at hlt
     refine gK true (b:=intLt (l1.length:Int) (p.shared.length:Int)) (lt_t (by omega)) ?_
     refine rk ?_
     refine gV (.pointer (some ⟨gB a,oB a+l1.length*3,none⟩)) (S:=Instr.indexAt 22 (.slice a p.shared.length cap) (.int .i64 (l1.length:Int))) (fun W _=>idx_sl (e:=67) hxs (by kernel_rfl) (by kernel_rfl) hin W) ?_
     refine rk ?_
     refine gV (.agg #[.string (str v.name),.int .u8 v.ty,.int .u64 v.bits]) (S:=Instr.loadAt 67 (.pointer (some ⟨gB a,oB a+l1.length*3+0,none⟩))) (fun W hk=>load_slA (P:=Tryz.prog) (ty:=67) (m:=3) (cs:=[.string (str v.name),.int .u8 v.ty,.int .u64 v.bits]) hxs (by kernel_rfl) (by kernel_rfl) l1.length 0 rfl (fun j v hv=>by rw [Nat.add_zero];exact hcell j v hv) (W:=W) (KW hc3 hk)) ?_
     refine rk ?_
     refine good_wr (sy_cx _ _) [.pointer (some ⟨q,0,none⟩),.string (str [115,104,97,114,101,100]),.agg #[.string (str v.name),.int .u8 v.ty,.int .u64 v.bits]] q (tx) (.tuple #[]) hc3 (by kernel_rfl) (by kernel_rfl) (by kernel_rfl) (by kernel_rfl) (fun W hk hbu hA=>pvariable_any [115,104,97,114,101,100] v tx _ q W (hRs v (by rw [hI1];simp)) (ht.below (KW hc3 hk).below) htx hbu (by simp only [List.length_append,List.length_cons,List.length_nil] at hlen ⊢;omega)) ?_
     intro w9 B9 hc9 _ _
     refine rk ?_
     refine gS 19 (x := .int .i64 (wrapF .i64 ((l1.length:Int)+1))) (.int .i64 ((l1++[v]).length:Nat)) (by rw [wr64 (by omega) (by omega)];congr 1;simp) ?_
     exact gU _ [(1,.ptr gz 0),(4,.v (.pointer (some ⟨q,0,none⟩))),(17,.v (.slice a p.shared.length cap)),(18,.v (.int .i64 (p.shared.length:Int))),(19,.v (.int .i64 ((l1++[v]).length:Int)))] [(gz,some (.cells 26 true true true 3 (putL .leaf 0 [.v (.slice a p.shared.length cap),.v (.slice b p.mutexes.length cap2),.v (.slice d p.threads.length cap3)])))] (gz+2) (fun b hb=>hγ0 b (Nat.le_trans (Nat.le_add_right _ _) hb)) (ih3 (l1++[v],l3) _ _ ⟨by show p.shared=(l1++[_])++l3;rw [hI1];simp,_,htn,by simpa only [List.append_assoc] using hc9⟩ (by show l3.length<(_::l3).length;simp))
   | nil=>
     rw [hI1,List.append_nil,ht1] at hS
     injection hS with hS
     subst hS
     refine gK false (b:=intLt (l1.length:Int) (p.shared.length:Int)) (lt_f (by simp at hnl1;omega)) ?_
     refine rk ?_
     refine good_toLp ?_
     refine good_loopB (fun i:List (List UInt8)×List (List UInt8)=>i.2.length) (fun i B4 w4=>p.mutexes=i.1++i.2∧∃ t2,allT mxT i.1=some t2∧Ch q (t1++t2) A w1 w4 B4) (fun i=>⟨mkT [(1,.ptr gz 0),(4,.v (.pointer (some ⟨q,0,none⟩))),(27,.v (.slice b p.mutexes.length cap2)),(28,.v (.int .i64 (p.mutexes.length:Int))),(29,.v (.int .i64 (i.1.length:Int)))],mkH [(gz,some (.cells 26 true true true 3 (putL .leaf 0 [.v (.slice a p.shared.length cap),.v (.slice b p.mutexes.length cap2),.v (.slice d p.threads.length cap3)])))],gz+2,[]⟩)
      ([],p.mutexes) ⟨rfl,[],rfl,by rw [List.append_nil];exact hc3⟩ (by kernel_rfl)
      (fun h=>good_sub _ [(1,.ptr gz 0),(4,.v (.pointer (some ⟨q,0,none⟩))),(27,.v (.slice b p.mutexes.length cap2)),(28,.v (.int .i64 (p.mutexes.length:Int))),(29,.v (.int .i64 (([]:List (List UInt8)).length:Int)))] [(gz,some (.cells 26 true true true 3 (putL .leaf 0 [.v (.slice a p.shared.length cap),.v (.slice b p.mutexes.length cap2),.v (.slice d p.threads.length cap3)])))] (gz+2) rfl (by kernel_rfl) (by kernel_rfl) (by kernel_rfl) (by kernel_rfl) (by kernel_rfl) (fun b hb=>hγ0 b (Nat.le_trans (Nat.le_add_right _ _) hb)) (by kernel_rfl) h) ?_
     rintro ⟨m1,m2⟩ B4 w4 ⟨hI2,t2,ht2,hc4⟩ ih4
     have hI2:p.mutexes=m1++m2:=hI2
     have ht2:allT mxT m1=some t2:=ht2
     have hnm1:p.mutexes.length=m1.length+m2.length:=by rw [hI2,List.length_append]
     refine rk ?_
     cases m2 with
     | cons s m3=>
       have hT2:=hM
       have hks2:=hyt
       rw [hI2] at hT2 hks2
       obtain ⟨tx,t3,htx,htt,htn⟩:=allT_mid hT2 ht2
       obtain ⟨c,hc,hcell⟩:=hks2.at_ (k:=1) (fun _ _ h=>by rw [show _=_ from h];rfl)
       obtain rfl:c=[.string (str s)]:=hc
       obtain rfl:=mxT_inv htx
       have hin:m1.length<p.mutexes.length:=by rw [hnm1,List.length_cons];omega
       have hlt:=congrArg List.length htt
       simp only [List.length_append,List.length_cons,List.length_nil] at hlt
       refine gK true (b:=intLt (m1.length:Int) (p.mutexes.length:Int)) (lt_t (by omega)) ?_
       refine rk ?_
       refine gV (.pointer (some ⟨gB b,oB b+m1.length*1,none⟩)) (S:=Instr.indexAt 23 (.slice b p.mutexes.length cap2) (.int .i64 (m1.length:Int))) (fun W _=>idx_sl (e:=9) hys (by kernel_rfl) (by kernel_rfl) hin W) ?_
       refine rk ?_
       refine gV (.string (str s)) (S:=Instr.loadAt 9 (.pointer (some ⟨gB b,oB b+m1.length*1+0,none⟩))) (fun W hk=>load_sl hys (by kernel_rfl) m1.length 0 (by rw [Nat.add_zero];exact hcell 0 _ rfl) (KW hc4 hk)) ?_
       refine rs [35] 60 0 ?_
       refine gC ([109,117,116,101,120,32]) (s) (by simp only [List.length_append,List.length_cons,List.length_nil] at hlen ⊢;omega) ?_
       refine rs [36] 60 0 ?_
       refine gC ([109,117,116,101,120,32]++s) ([59,10]) (by simp only [List.length_append,List.length_cons,List.length_nil] at hlen ⊢;omega) ?_
       refine rk ?_
       refine good_wr (sy_cx _ _) [.pointer (some ⟨q,0,none⟩),.string (str ([109,117,116,101,120,32]++s++[59,10]))] q ([109,117,116,101,120,32]++s++[59,10]) (.tuple #[.int .i64 ((([109,117,116,101,120,32]++s++[59,10]):List UInt8).length:Int),.nilIface]) hc4 (by kernel_rfl) (by kernel_rfl) (by kernel_rfl) (by kernel_rfl) (fun W hk hbu hA=>writeString_any q _ ([109,117,116,101,120,32]++s++[59,10]) W hbu (by simp only [List.length_append,List.length_cons,List.length_nil] at hlen ⊢;omega)) ?_
       intro w9 B9 hc9 _ _
       refine rk ?_
       refine gS 29 (x := .int .i64 (wrapF .i64 ((m1.length:Int)+1))) (.int .i64 ((m1++[s]).length:Nat)) (by rw [wr64 (by omega) (by omega)];congr 1;simp) ?_
       exact gU _ [(1,.ptr gz 0),(4,.v (.pointer (some ⟨q,0,none⟩))),(27,.v (.slice b p.mutexes.length cap2)),(28,.v (.int .i64 (p.mutexes.length:Int))),(29,.v (.int .i64 ((m1++[s]).length:Int)))] [(gz,some (.cells 26 true true true 3 (putL .leaf 0 [.v (.slice a p.shared.length cap),.v (.slice b p.mutexes.length cap2),.v (.slice d p.threads.length cap3)])))] (gz+2) (fun b hb=>hγ0 b (Nat.le_trans (Nat.le_add_right _ _) hb)) (ih4 (m1++[s],m3) _ _ ⟨by show p.mutexes=(m1++[_])++m3;rw [hI2];simp,_,htn,by simpa only [List.append_assoc] using hc9⟩ (by show m3.length<(_::m3).length;simp))
     | nil=>
       rw [hI2,List.append_nil,ht2] at hM
       injection hM with hM
       subst hM
       refine gK false (b:=intLt (m1.length:Int) (p.mutexes.length:Int)) (lt_f (by simp at hnm1;omega)) ?_
       refine rk ?_
       refine good_toLp ?_
       refine good_loopB (fun i:List Th×List Th=>i.2.length) (fun i B5 w5=>p.threads=i.1++i.2∧∃ t3,allT thT i.1=some t3∧Ch q (t1++(t2++t3)) A w1 w5 B5) (fun i=>⟨mkT [(1,.ptr gz 0),(4,.v (.pointer (some ⟨q,0,none⟩))),(40,.v (.slice d p.threads.length cap3)),(41,.v (.int .i64 (p.threads.length:Int))),(42,.v (.int .i64 (i.1.length:Int)))],mkH [(gz,some (.cells 26 true true true 3 (putL .leaf 0 [.v (.slice a p.shared.length cap),.v (.slice b p.mutexes.length cap2),.v (.slice d p.threads.length cap3)])))],gz+2,[]⟩)
        ([],p.threads) ⟨rfl,[],rfl,by rw [List.append_nil];exact hc4⟩ (by kernel_rfl)
        (fun h=>good_sub _ [(1,.ptr gz 0),(4,.v (.pointer (some ⟨q,0,none⟩))),(40,.v (.slice d p.threads.length cap3)),(41,.v (.int .i64 (p.threads.length:Int))),(42,.v (.int .i64 (([]:List Th).length:Int)))] [(gz,some (.cells 26 true true true 3 (putL .leaf 0 [.v (.slice a p.shared.length cap),.v (.slice b p.mutexes.length cap2),.v (.slice d p.threads.length cap3)])))] (gz+2) rfl (by kernel_rfl) (by kernel_rfl) (by kernel_rfl) (by kernel_rfl) (by kernel_rfl) (fun b hb=>hγ0 b (Nat.le_trans (Nat.le_add_right _ _) hb)) (by kernel_rfl) h) ?_
       rintro ⟨k1,k2⟩ B5 w5 ⟨hI3,t3,ht3,hc5⟩ ih5
       have hI3:p.threads=k1++k2:=hI3
       have ht3:allT thT k1=some t3:=ht3
       have hnk1:p.threads.length=k1.length+k2.length:=by rw [hI3,List.length_append]
       refine rk ?_
       cases k2 with
       | cons x k3=>
         have hT2:=hT
         have hks2:=hzt
         rw [hI3] at hT2 hks2
         obtain ⟨ty,t4,hty,htt,hto⟩:=allT_mid hT2 ht3
         obtain ⟨c,hc,hcell⟩:=hks2.at_ (k:=3) (fun _ _ h=>h.len)
         have hxR:=hRt x (by rw [hI3];simp)
         have hxB:x.name.length+1+sumN vrB x.locals+stBs x.body≤sumN thB p.threads:=sumN_mem (μ:=thB) (x:=x) (l:=p.threads) (by rw [hI3];simp)
         obtain ⟨hxRl,hxRb⟩:=hxR
         have hkl:=len_sumN (μ:=vrB) (fun v=>by unfold vrB;omega) x.locals
         have hkb:=swts_stBs x.body
         obtain ⟨xa,xcap,xxs,xb,xcap2,xys,rfl,xh1,xh2,xh3,xh4⟩:=hc
         obtain ⟨tA,tB,hTA,hTB,rfl⟩:=thT_inv hty
         have hin:k1.length<p.threads.length:=by rw [hnk1,List.length_cons];omega
         have hlt:=congrArg List.length htt
         simp only [List.length_append,List.length_cons,List.length_nil] at hlt
         refine gK true (b:=intLt (k1.length:Int) (p.threads.length:Int)) (lt_t (by omega)) ?_
         refine rk ?_
         refine gV (.pointer (some ⟨gB d,oB d+k1.length*3,none⟩)) (S:=Instr.indexAt 24 (.slice d p.threads.length cap3) (.int .i64 (k1.length:Int))) (fun W _=>idx_sl (e:=58) hzs (by kernel_rfl) (by kernel_rfl) hin W) ?_
         refine rk ?_
         refine gV (.agg #[.string (str x.name),.slice xa x.locals.length xcap,.slice xb x.body.length xcap2]) (S:=Instr.loadAt 58 (.pointer (some ⟨gB d,oB d+k1.length*3+0,none⟩))) (fun W hk=>load_slA (P:=Tryz.prog) (ty:=58) (m:=3) (cs:=[.string (str x.name),.slice xa x.locals.length xcap,.slice xb x.body.length xcap2]) hzs (by kernel_rfl) (by kernel_rfl) k1.length 0 rfl (fun j v hv=>by rw [Nat.add_zero];exact hcell j v hv) (W:=W) (KW hc5 hk)) ?_
         refine rs [49] 60 0 ?_
         refine gC ([116,104,114,101,97,100,32]) (x.name) (by simp only [List.length_append,List.length_cons,List.length_nil] at hlen ⊢;omega) ?_
         refine rs [50] 60 0 ?_
         refine gC ([116,104,114,101,97,100,32]++x.name) ([32,123,10]) (by simp only [List.length_append,List.length_cons,List.length_nil] at hlen ⊢;omega) ?_
         refine rk ?_
         refine good_wr (sy_cx _ _) [.pointer (some ⟨q,0,none⟩),.string (str ([116,104,114,101,97,100,32]++x.name++[32,123,10]))] q ([116,104,114,101,97,100,32]++x.name++[32,123,10]) (.tuple #[.int .i64 ((([116,104,114,101,97,100,32]++x.name++[32,123,10]):List UInt8).length:Int),.nilIface]) hc5 (by kernel_rfl) (by kernel_rfl) (by kernel_rfl) (by kernel_rfl) (fun W hk hbu hA=>writeString_any q _ ([116,104,114,101,97,100,32]++x.name++[32,123,10]) W hbu (by simp only [List.length_append,List.length_cons,List.length_nil] at hlen ⊢;omega)) ?_
         intro w6 B6 hc6 _ _
         refine rk ?_
         refine good_toLp ?_
         refine good_loopB (fun i:List Vr×List Vr=>i.2.length) (fun i B7 w7=>x.locals=i.1++i.2∧∃ t6,allT (vrT [32,32,108,111,99,97,108]) i.1=some t6∧Ch q ((t1++(t2++t3))++(([116,104,114,101,97,100,32]++x.name++[32,123,10])++t6)) A w1 w7 B7) (fun i=>⟨mkT [(1,.ptr gz 0),(4,.v (.pointer (some ⟨q,0,none⟩))),(40,.v (.slice d p.threads.length cap3)),(41,.v (.int .i64 (p.threads.length:Int))),(42,.v (.int .i64 (k1.length:Int))),(10,.ptr (gz+2) 0),(53,.v (.slice xa x.locals.length xcap)),(54,.v (.int .i64 (x.locals.length:Int))),(55,.v (.int .i64 (i.1.length:Int)))],mkH [(gz,some (.cells 26 true true true 3 (putL .leaf 0 [.v (.slice a p.shared.length cap),.v (.slice b p.mutexes.length cap2),.v (.slice d p.threads.length cap3)]))),(gz+2,some (.cells 58 true true true 3 (putL .leaf 0 [.v (.string (str x.name)),.v (.slice xa x.locals.length xcap),.v (.slice xb x.body.length xcap2)])))],gz+3,[]⟩)
          ([],x.locals) ⟨rfl,[],rfl,by rw [List.append_nil];exact hc6⟩ (by kernel_rfl)
          (fun h=>good_sub _ [(1,.ptr gz 0),(4,.v (.pointer (some ⟨q,0,none⟩))),(40,.v (.slice d p.threads.length cap3)),(41,.v (.int .i64 (p.threads.length:Int))),(42,.v (.int .i64 (k1.length:Int))),(10,.ptr (gz+2) 0),(53,.v (.slice xa x.locals.length xcap)),(54,.v (.int .i64 (x.locals.length:Int))),(55,.v (.int .i64 (([]:List Vr).length:Int)))] [(gz,some (.cells 26 true true true 3 (putL .leaf 0 [.v (.slice a p.shared.length cap),.v (.slice b p.mutexes.length cap2),.v (.slice d p.threads.length cap3)]))),(gz+2,some (.cells 58 true true true 3 (putL .leaf 0 [.v (.string (str x.name)),.v (.slice xa x.locals.length xcap),.v (.slice xb x.body.length xcap2)])))] (gz+3) rfl (by kernel_rfl) (by kernel_rfl) (by kernel_rfl) (by kernel_rfl) (by kernel_rfl) (fun b hb=>hγ0 b (Nat.le_trans (Nat.le_add_right _ _) hb)) (by kernel_rfl) h) ?_
         rintro ⟨j1,j2⟩ B7 w7 ⟨hI4,t6,ht6,hc7⟩ ih7
         have hI4:x.locals=j1++j2:=hI4
         have ht6:allT (vrT [32,32,108,111,99,97,108]) j1=some t6:=ht6
         have hnj1:x.locals.length=j1.length+j2.length:=by rw [hI4,List.length_append]
         refine rk ?_
         cases j2 with
         | cons v j3=>
           have xh1k:=xh1
           have hT2:=hTA
           have hks2:=xh2
           rw [hI4] at hT2 hks2
           obtain ⟨tx,t8,htx,htt6,htn⟩:=allT_mid hT2 ht6
           obtain ⟨c6,hc6x,hcell6⟩:=hks2.at_ (fun _ _ h=>h.len)
           obtain rfl:c6=[.string (str v.name),.int .u8 v.ty,.int .u64 v.bits]:=hc6x
           have hin:j1.length<x.locals.length:=by rw [hnj1,List.length_cons];omega
           have hlt6:=congrArg List.length htt6
           simp only [List.length_append] at hlt6
           refine gK true (b:=intLt (j1.length:Int) (x.locals.length:Int)) (lt_t (by omega)) ?_
           refine rk ?_
           refine gV (.pointer (some ⟨gB xa,oB xa+j1.length*3,none⟩)) (S:=Instr.indexAt 22 (.slice xa x.locals.length xcap) (.int .i64 (j1.length:Int))) (fun W _=>idx_sl (e:=67) xh1 (by kernel_rfl) (by kernel_rfl) hin W) ?_
           refine rk ?_
           refine gV (.agg #[.string (str v.name),.int .u8 v.ty,.int .u64 v.bits]) (S:=Instr.loadAt 67 (.pointer (some ⟨gB xa,oB xa+j1.length*3+0,none⟩))) (fun W hk=>load_slA (P:=Tryz.prog) (ty:=67) (m:=3) (cs:=[.string (str v.name),.int .u8 v.ty,.int .u64 v.bits]) xh1 (by kernel_rfl) (by kernel_rfl) j1.length 0 rfl (fun j v hv=>by rw [Nat.add_zero];exact hcell6 j v hv) (W:=W) (KW hc7 hk)) ?_
           refine rk ?_
           refine good_wr (sy_cx _ _) [.pointer (some ⟨q,0,none⟩),.string (str [32,32,108,111,99,97,108]),.agg #[.string (str v.name),.int .u8 v.ty,.int .u64 v.bits]] q (tx) (.tuple #[]) hc7 (by kernel_rfl) (by kernel_rfl) (by kernel_rfl) (by kernel_rfl) (fun W hk hbu hA=>pvariable_any [32,32,108,111,99,97,108] v tx _ q W (hxRl v (by rw [hI4];simp)) (ht.below (KW hc7 hk).below) htx hbu (by simp only [List.length_append,List.length_cons,List.length_nil] at hlen ⊢;omega)) ?_
           intro w9 B9 hc9 _ _
           refine rk ?_
           refine gS 55 (x := .int .i64 (wrapF .i64 ((j1.length:Int)+1))) (.int .i64 ((j1++[v]).length:Nat)) (by rw [wr64 (by omega) (by omega)];congr 1;simp) ?_
           exact gU _ [(1,.ptr gz 0),(4,.v (.pointer (some ⟨q,0,none⟩))),(40,.v (.slice d p.threads.length cap3)),(41,.v (.int .i64 (p.threads.length:Int))),(42,.v (.int .i64 (k1.length:Int))),(10,.ptr (gz+2) 0),(53,.v (.slice xa x.locals.length xcap)),(54,.v (.int .i64 (x.locals.length:Int))),(55,.v (.int .i64 ((j1++[v]).length:Int)))] [(gz,some (.cells 26 true true true 3 (putL .leaf 0 [.v (.slice a p.shared.length cap),.v (.slice b p.mutexes.length cap2),.v (.slice d p.threads.length cap3)]))),(gz+2,some (.cells 58 true true true 3 (putL .leaf 0 [.v (.string (str x.name)),.v (.slice xa x.locals.length xcap),.v (.slice xb x.body.length xcap2)])))] (gz+3) (fun b hb=>hγ0 b (Nat.le_trans (Nat.le_add_right _ _) hb)) (ih7 (j1++[v],j3) _ _ ⟨by show x.locals=(j1++[_])++j3;rw [hI4];simp,_,htn,by simpa only [List.append_assoc] using hc9⟩ (by show j3.length<(_::j3).length;simp))
         | nil=>
           rw [hI4,List.append_nil,ht6] at hTA
           injection hTA with hTA
           subst hTA
           refine gK false (b:=intLt (j1.length:Int) (x.locals.length:Int)) (lt_f (by simp at hnj1;omega)) ?_
           refine rk ?_
           refine good_wr (sy_cx _ _) [.pointer (some ⟨q,0,none⟩),.slice xb x.body.length xcap2,.int .i64 ((0:Nat):Int)] q (tB) (.tuple #[]) hc7 (by kernel_rfl) (by kernel_rfl) (by kernel_rfl) (by kernel_rfl) (fun W hk hbu hA=>blkW _ x.body xb x.body.length xcap2 xys 0 tB _ q W rfl (Nat.lt_succ_self _) (by omega) (by omega) (by omega) hxRb (ht.below (KW hc7 hk).below) hTB hbu (by simp only [List.length_append,List.length_cons,List.length_nil] at hlen ⊢;omega) ((xh3.keep (KW hc7 hk)).mono (OUT hc7 hA)) (StsAt_ls.1 (xh4.keep (KW hc7 hk) (OUT hc7 hA)))) ?_
           intro w8 B8 hc8 _ _
           refine rk ?_
           refine good_wr (sy_cx _ _) [.pointer (some ⟨q,0,none⟩),.string (str ([125,10]))] q ([125,10]) (.tuple #[.int .i64 ((([125,10]):List UInt8).length:Int),.nilIface]) hc8 (by kernel_rfl) (by kernel_rfl) (by kernel_rfl) (by kernel_rfl) (fun W hk hbu hA=>writeString_any q _ ([125,10]) W hbu (by simp only [List.length_append,List.length_cons,List.length_nil] at hlen ⊢;omega)) ?_
           intro w9 B9 hc9 _ _
           refine rk ?_
           refine gS 42 (x := .int .i64 (wrapF .i64 ((k1.length:Int)+1))) (.int .i64 ((k1++[x]).length:Nat)) (by rw [wr64 (by omega) (by omega)];congr 1;simp) ?_
           exact gU _ [(1,.ptr gz 0),(4,.v (.pointer (some ⟨q,0,none⟩))),(40,.v (.slice d p.threads.length cap3)),(41,.v (.int .i64 (p.threads.length:Int))),(42,.v (.int .i64 ((k1++[x]).length:Int)))] [(gz,some (.cells 26 true true true 3 (putL .leaf 0 [.v (.slice a p.shared.length cap),.v (.slice b p.mutexes.length cap2),.v (.slice d p.threads.length cap3)])))] (gz+2) (fun b hb=>hγ0 b (Nat.le_trans (Nat.le_add_right _ _) hb)) (ih5 (k1++[x],k3) _ _ ⟨by show p.threads=(k1++[_])++k3;rw [hI3];simp,_,hto,by simpa only [List.append_assoc] using hc9⟩ (by show k3.length<(_::k3).length;simp))
       | nil=>
         rw [hI3,List.append_nil,ht3] at hT
         injection hT with hT
         subst hT
         refine gK false (b:=intLt (k1.length:Int) (p.threads.length:Int)) (lt_f (by simp at hnk1;omega)) ?_
         refine rk ?_
         refine gX [.pointer (some ⟨q,0,none⟩)] (.int .i64 (((t1++(t2++t3):List UInt8).length:Nat):Int)) (fun W hk=>bLen_any q _ W (hc5.seen hk).1) ?_
         refine rk ?_
         by_cases hm:16384<(t1++(t2++t3)).length
         ·
          refine gK true (b:=intLt 16384 (((t1++(t2++t3):List UInt8).length:Nat):Int)) (lt_t (by omega)) ?_
          refine rs [] 60 1 ?_
          exact gR (.tuple #[.string (str []),.int .i64 3]) (fun W hk=>⟨by unfold printS printE;rw [hv];simp only [if_pos hm],(KW hc5 hk).below⟩)
         refine gK false (b:=intLt 16384 (((t1++(t2++t3):List UInt8).length:Nat):Int)) (lt_f (by omega)) ?_
         refine rk ?_
         refine good_bStr (sy_cx _ _) hc5 (by kernel_rfl) (by kernel_rfl) (by kernel_rfl) (by kernel_rfl) (fun w4 B4 hk4 hB4=>?_)
         refine rk ?_
         rw [hA] at hk4 hB4
         exact gR (.tuple #[.string (str (t1++(t2++t3))),.int .i64 0]) (fun W hk=>⟨by unfold printS printE;rw [hv];simp only [if_neg hm],((hk1.trans hk4).trans (hk.mono hB4)).below⟩)
end Go.Proofs.YtiacalnkmnckjaaGreatDoor
end
section
namespace Go.Proofs.YtiacalnkmnckjaaGreatDoor
open Go.RowKit Go.As
theorem sgn_lt {n:Nat} (h:n<9223372036854775808):(n:Int)<signBits:=by unfold signBits;omega
theorem sgn_ge {n:Nat} (h:¬ n<9223372036854775808):¬ (n:Int)<signBits:=by unfold signBits;omega
theorem valT_one {n:Nat} (h:¬ 9223372036854775808<n):valT 1 (n:Int)=litT 1 (n:Int):=by
 rw [litT1]
 unfold valT
 rw [if_pos rfl]
 by_cases hy:(n:Int)<signBits
 · rw [if_pos hy,if_pos hy]
 · rw [if_neg hy,if_neg hy,if_pos (show (n:Int)=signBits by unfold signBits at hy ⊢;omega)]
theorem valT_neg {n m:Nat} (h:9223372036854775808<n) (hm:(m:Int)=18446744073709551616 - (n:Int)):valT 1 (n:Int)=some ([45]++Lib.decDigits m):=by
 unfold valT
 rw [if_pos rfl,if_neg (show ¬ (n:Int)<signBits by unfold signBits;omega),if_neg (show ¬ (n:Int)=signBits by unfold signBits;omega),← hm,Int.toNat_natCast,List.singleton_append]
theorem valT_real {n:Nat} (h:n<9223372036854775808):valT 3 (n:Int)=litT 3 (n:Int):=by
 unfold valT
 rw [if_neg (by decide),if_pos rfl,if_pos (sgn_lt h)]
theorem valT_rnan {n m:Nat} (h:¬ n<9223372036854775808) (hm:(m:Int)=(n:Int) - signBits) (hq:(m:Int)=nanBits):valT 3 (n:Int)=none:=by
 unfold valT
 rw [if_neg (by decide),if_pos rfl,if_neg (sgn_ge h),← hm,if_pos hq]
theorem valT_rneg {n m:Nat} (h:¬ n<9223372036854775808) (hm:(m:Int)=(n:Int) - signBits) (hq:¬ (m:Int)=nanBits):valT 3 (n:Int)=(litT 3 (m:Int)).map (45::·):=by
 unfold valT
 rw [if_neg (by decide),if_pos rfl,if_neg (sgn_ge h),← hm,if_neg hq]
theorem valT_other {ty:Int} (c1:¬ ty=1) (c3:¬ ty=3) (n:Int):valT ty n=litT ty n:=by
 unfold valT
 rw [if_neg c1,if_neg c3]
end Go.Proofs.YtiacalnkmnckjaaGreatDoor
end
section
namespace Go.Proofs.YtiacalnkmnckjaaGreatDoor
open Go.RowKit Go.As
def atC (c:UInt8):Bool:=nmC (c.toNat:Int) || decide (c.toNat=46)
theorem at_dig {c:UInt8} (h:digB c=true):atC c=true:=by
 have:=digB_val h
 unfold atC nmC digitB
 simp only [Bool.or_eq_true,decide_eq_true_eq]
 left;right;omega
theorem at_nm {c:UInt8} (h:nmC (c.toNat:Int)=true):atC c=true:=by
 unfold atC
 rw [h,Bool.true_or]
theorem all_mono {p q:UInt8→Bool} (h:∀ c,p c=true→q c=true):∀ {l:List UInt8},l.all p=true→l.all q=true
 | [],_=>rfl
 | c::l,g=>by
   rw [List.all_cons,Bool.and_eq_true] at g ⊢
   exact ⟨h c g.1,all_mono h g.2⟩
theorem take_at {p:UInt8→Bool}:∀ {t r:List UInt8},t.all p=true→p (r.headD 0)=false→r≠[]→(t++r).takeWhile p=t∧(t++r).dropWhile p=r
 | [],[],_,_,h=>absurd rfl h
 | [],c::r,_,h,_=>by
   rw [List.headD_cons] at h
   rw [List.nil_append,List.takeWhile_cons,List.dropWhile_cons,h]
   exact ⟨rfl,rfl⟩
 | c::t,r,g,h,hr=>by
   rw [List.all_cons,Bool.and_eq_true] at g
   obtain ⟨h1,h2⟩:=take_at g.2 h hr
   rw [List.cons_append,List.takeWhile_cons,List.dropWhile_cons,g.1]
   exact ⟨congrArg (c::·) h1,h2⟩
theorem litT_inv {ty bits:Int} {t:List UInt8} (h:litT ty bits=some t):
  (ty=1∧bits<signBits∧t=Lib.decDigits bits.toNat)∨(ty=2∧bits=1∧t=[116,114,117,101])∨(ty=2∧bits=0∧t=[102,97,108,115,101])∨
  (ty=3∧bits=nanBits∧t=[110,97,110])∨(ty=3∧bits=infBits∧t=[105,110,102])∨(ty=3∧bits<signBits∧∃ k n,LitIs (toN bits.toNat) k n∧t=litS n k):=by
 unfold litT at h
 split at h
 · rename_i c
   split at h
   · rename_i d
     injection h with h
     exact .inl ⟨c,d,h.symm⟩
   · cases h
 split at h
 · rename_i c
   split at h
   · rename_i d
     injection h with h
     exact .inr (.inl ⟨c,d,h.symm⟩)
   split at h
   · rename_i d
     injection h with h
     exact .inr (.inr (.inl ⟨c,d,h.symm⟩))
   · cases h
 split at h
 · rename_i c
   split at h
   · rename_i d
     injection h with h
     exact .inr (.inr (.inr (.inl ⟨c,d,h.symm⟩)))
   split at h
   · rename_i d
     injection h with h
     exact .inr (.inr (.inr (.inr (.inl ⟨c,d,h.symm⟩))))
   split at h
   · rename_i d
     refine .inr (.inr (.inr (.inr (.inr ⟨c,d,?_⟩))))
     unfold realP at h
     split at h
     · rename_i hx
       injection h with h
       have hs:=hx.choose_spec
       rw [h] at hs
       rcases hs with ⟨_,k,n,h1,h2,_⟩ | ⟨e,_⟩
       · exact ⟨k,n,h1,h2⟩
       · cases e
     · cases h
   · cases h
 · cases h
def lk (t:List UInt8):Int:=if t=[110,97,110]∨t=[105,110,102] then 3 else if t=[116,114,117,101]∨t=[102,97,108,115,101] then 2 else if (46:UInt8)∈t then 3 else 1
theorem lk_num {d:UInt8} {r:List UInt8} (h:digB d=true):lk (d::r)=if (46:UInt8)∈d::r then 3 else 1:=by
 have hv:=digB_val h
 unfold lk
 rw [if_neg,if_neg]
 · rintro (e | e) <;> injection e with e _ <;> subst e <;> revert hv <;> decide
 · rintro (e | e) <;> injection e with e _ <;> subst e <;> revert hv <;> decide
theorem dec_cons (n:Nat):∃ d r,Lib.decDigits n=d::r∧digB d=true:=by
 have h1:=decDigits_ne n
 have h2:=decDigits_all n
 cases h:Lib.decDigits n with
 | nil=>exact absurd h h1
 | cons d r=>
   rw [h,List.all_cons,Bool.and_eq_true] at h2
   exact ⟨d,r,rfl,h2.1⟩
theorem lk_dec (n:Nat):lk (Lib.decDigits n)=1:=by
 have h46:=no_point (decDigits_all n)
 obtain ⟨d,r,e,hd⟩:=dec_cons n
 rw [e] at h46 ⊢
 rw [lk_num hd,if_neg h46]
theorem lk_real (n k:Nat):lk (litS n k)=3:=by
 obtain ⟨d,r,e,hd⟩:=dec_cons (n / 10 ^ k)
 unfold litS
 rw [e,List.cons_append,lk_num hd,if_pos (by simp)]
theorem litT_lk {ty bits:Int} {t:List UInt8} (h:litT ty bits=some t):lk t=ty:=by
 rcases litT_inv h with ⟨rfl,_,rfl⟩ | ⟨rfl,_,rfl⟩ | ⟨rfl,_,rfl⟩ | ⟨rfl,_,rfl⟩ | ⟨rfl,_,rfl⟩ | ⟨rfl,_,k,n,_,rfl⟩
 · exact lk_dec _
 · decide
 · decide
 · decide
 · decide
 · exact lk_real n k
theorem litT_at {ty bits:Int} {t:List UInt8} (h:litT ty bits=some t):t.all atC=true:=by
 rcases litT_inv h with ⟨rfl,_,rfl⟩ | ⟨rfl,_,rfl⟩ | ⟨rfl,_,rfl⟩ | ⟨rfl,_,rfl⟩ | ⟨rfl,_,rfl⟩ | ⟨rfl,_,k,n,_,rfl⟩
 · exact all_mono (fun c=>at_dig) (decDigits_all _)
 · decide
 · decide
 · decide
 · decide
 · unfold litS
   rw [List.all_append,List.all_cons,Bool.and_eq_true,Bool.and_eq_true]
   exact ⟨all_mono (fun c=>at_dig) (decDigits_all _),by decide,all_mono (fun c=>at_dig) (dgw_all _ _)⟩
theorem num_noname {d:UInt8} {r:List UInt8} (h:digB d=true):nameB (d::r)=false:=by
 have hv:=digB_val h
 have hl:letterB (((d::r).headD 0).toNat:Int)=false:=by
  rw [List.headD_cons]
  unfold letterB
  exact decide_eq_false (by omega)
 unfold nameB
 rw [hl]
 split
 · rfl
 · split <;> rfl
theorem litT_ne {ty bits:Int} {t:List UInt8} (h:litT ty bits=some t):t≠[]∧nameB t=false:=by
 rcases litT_inv h with ⟨rfl,_,rfl⟩ | ⟨rfl,_,rfl⟩ | ⟨rfl,_,rfl⟩ | ⟨rfl,_,rfl⟩ | ⟨rfl,_,rfl⟩ | ⟨rfl,_,k,n,_,rfl⟩
 · obtain ⟨d,r,e,hd⟩:=dec_cons bits.toNat
   rw [e]
   exact ⟨by simp,num_noname hd⟩
 · decide
 · decide
 · decide
 · decide
 · obtain ⟨d,r,e,hd⟩:=dec_cons (n / 10 ^ k)
   unfold litS
   rw [e]
   exact ⟨by simp,num_noname hd⟩
theorem litT_inj {ty bits ty' bits':Int} {t:List UInt8} (h0:0≤bits) (h0':0≤bits') (h:litT ty bits=some t) (g:litT ty' bits'=some t):ty=ty'∧bits=bits':=by
 have hty:ty=ty':=(litT_lk h).symm.trans (litT_lk g)
 subst hty
 refine ⟨rfl,?_⟩
 have reals:∀ {k n:Nat} {b:Nat},LitIs (toN b) k n→toN b=b:=fun {k n b} hl=>by
  rcases toN_cases b with ⟨_,h⟩ | ⟨_,h⟩
  · exact h
  · have:=hl.bound.2.1
    rw [h,nan_lit] at this
    cases this
 have num:∀ (n k:Nat),∃ d r,litS n k=d::r∧digB d=true:=fun n k=>by
  obtain ⟨d,r,e,hd⟩:=dec_cons (n / 10 ^ k)
  exact ⟨d,r++46::dgw k n,by unfold litS;rw [e];rfl,hd⟩
 rcases litT_inv h with ⟨e1,_,e2⟩ | ⟨e1,e3,e2⟩ | ⟨e1,e3,e2⟩ | ⟨e1,e3,e2⟩ | ⟨e1,e3,e2⟩ | ⟨e1,_,k,n,hl,e2⟩
 all_goals rcases litT_inv g with ⟨g1,_,g2⟩ | ⟨g1,g3,g2⟩ | ⟨g1,g3,g2⟩ | ⟨g1,g3,g2⟩ | ⟨g1,g3,g2⟩ | ⟨g1,_,l,m,gl,g2⟩
 all_goals first
  | (exfalso;rw [e1] at g1;revert g1;decide)
  | (rw [e3,g3];done)
  | (exfalso;rw [e2] at g2;revert g2;decide)
  | skip
 · have:=congrArg decV (e2.symm.trans g2)
   rw [decV_decDigits,decV_decDigits] at this
   omega
 · exfalso
   obtain ⟨d,r,e,hd⟩:=num m l
   rw [e2,e] at g2
   injection g2 with g2 _
   subst g2
   revert hd;decide
 · exfalso
   obtain ⟨d,r,e,hd⟩:=num m l
   rw [e2,e] at g2
   injection g2 with g2 _
   subst g2
   revert hd;decide
 · exfalso
   obtain ⟨d,r,e,hd⟩:=num n k
   rw [g2,e] at e2
   injection e2 with e2 _
   subst e2
   revert hd;decide
 · exfalso
   obtain ⟨d,r,e,hd⟩:=num n k
   rw [g2,e] at e2
   injection e2 with e2 _
   subst e2
   revert hd;decide
 · obtain ⟨a1,a2⟩:=lit_inj (e2.symm.trans g2)
   subst a1
   subst a2
   have r1:=reals hl
   have r2:=reals gl
   have:=hl.2.2.2.symm.trans gl.2.2.2
   rw [r1,r2] at this
   omega
theorem valT_inv {ty bits:Int} {t:List UInt8} (hb:0≤bits∧bits<18446744073709551616) (h:valT ty bits=some t):
  litT ty bits=some t∨∃ b s,0≤b∧litT ty b=some s∧t=45::s∧((ty=1∧bits=18446744073709551616 - b)∨(ty=3∧bits=b+signBits)):=by
 unfold valT at h
 have hs:signBits=9223372036854775808:=rfl
 split at h
 · rename_i c
   split at h
   · rename_i d
     left
     unfold litT
     rw [if_pos c,if_pos d]
     exact h
   split at h
   · cases h
   · rename_i d1 d2
     injection h with h
     right
     refine ⟨18446744073709551616 - bits,Lib.decDigits (18446744073709551616 - bits).toNat,by omega,?_,h.symm,.inl ⟨c,by omega⟩⟩
     unfold litT
     rw [if_pos c,if_pos (by omega)]
 split at h
 · rename_i c
   split at h
   · rename_i d
     left
     rw [c]
     exact h
   split at h
   · cases h
   · rename_i d1 d2
     rw [Option.map_eq_some_iff] at h
     obtain ⟨s,h1,h2⟩:=h
     right
     refine ⟨bits - signBits,s,by omega,by rw [c];exact h1,h2.symm,.inr ⟨c,by omega⟩⟩
 · exact .inl h
theorem at_head {t:List UInt8} (h:t.all atC=true) {r:List UInt8}:t≠45::r:=by
 rintro rfl
 rw [List.all_cons,Bool.and_eq_true] at h
 exact absurd h.1 (by decide)
theorem valT_inj {ty bits ty' bits':Int} {t:List UInt8} (h0:0≤bits∧bits<18446744073709551616) (h0':0≤bits'∧bits'<18446744073709551616) (h:valT ty bits=some t) (g:valT ty' bits'=some t):ty=ty'∧bits=bits':=by
 rcases valT_inv h0 h with h | ⟨b,s,hb,h1,rfl,h2⟩
 · rcases valT_inv h0' g with g | ⟨b',s',hb',g1,e,g2⟩
   · exact litT_inj h0.1 h0'.1 h g
   · exact absurd e (at_head (litT_at h))
 · rcases valT_inv h0' g with g | ⟨b',s',hb',g1,e,g2⟩
   · exact absurd rfl (at_head (litT_at g))
   · injection e with _ e
     subst e
     obtain ⟨e1,e2⟩:=litT_inj hb hb' h1 g1
     subst e1
     subst e2
     refine ⟨rfl,?_⟩
     rcases h2 with ⟨h2,h3⟩ | ⟨h2,h3⟩
     · rcases g2 with ⟨g2,g3⟩ | ⟨g2,g3⟩
       · rw [h3,g3]
       · rw [h2] at g2;cases g2
     · rcases g2 with ⟨g2,g3⟩ | ⟨g2,g3⟩
       · rw [h2] at g2;cases g2
       · rw [h3,g3]
theorem name_at {s:List UInt8} (h:nameB s=true):s.all atC=true∧s≠[]∧wordB s=false:=by
 unfold nameB at h
 split at h
 · cases h
 rename_i h1
 split at h
 · cases h
 split at h
 · split at h
   · cases h
   · rename_i hw
     refine ⟨all_mono (fun c=>at_nm) h,?_,by simpa using hw⟩
     rintro rfl
     exact h1 (by decide)
 · cases h
theorem exT_g {op ty bits:Int} {name t:List UInt8} {kids:List Ex} (h:exT (.mk op ty bits name kids)=some t):(op=1∨(ty=0∧bits=0))∧(op=2∨name=[])∧(op=2→nameB name=true∧kids=[]∧t=name):=by
 have h':=h
 simp only [exT] at h
 split at h
 · cases h
 rename_i hg
 refine ⟨?_,?_,fun e=>?_⟩
 · by_cases c:op=1
   · exact .inl c
   · right
     by_cases d:ty=0∧bits=0
     · exact d
     · exact absurd (.inl ⟨c,d⟩) hg
 · by_cases c:op=2
   · exact .inl c
   · right
     by_cases d:name=[]
     · exact d
     · exact absurd (.inr ⟨c,d⟩) hg
 · split at h
   · cases h
   rename_i ks hks
   have hl:=exTs_len hks
   subst e
   rw [if_neg (by decide),if_pos rfl] at h
   cases ks with
   | nil=>
     simp only at h
     split at h
     · rename_i hn
       injection h with h
       exact ⟨hn,List.eq_nil_of_length_eq_zero hl.symm,h.symm⟩
     · cases h
   | cons _ _=>cases h
noncomputable def atomOf (w:List UInt8):Ex:=open Classical in if h:∃ e:Ex,exR e∧(∃ op ty bits name kids,e = .mk op ty bits name kids∧(op=1∨op=2))∧exT e=some w then h.choose else .mk 0 0 0 [] []
theorem atom_inj {e e':Ex} {w:List UInt8} (hr:exR e) (hr':exR e') (ha:∃ op ty bits name kids,e = .mk op ty bits name kids∧(op=1∨op=2)) (ha':∃ op ty bits name kids,e' = .mk op ty bits name kids∧(op=1∨op=2)) (h:exT e=some w) (h':exT e'=some w):e=e':=by
 obtain ⟨op,ty,bits,name,kids,rfl,ho⟩:=ha
 obtain ⟨op',ty',bits',name',kids',rfl,ho'⟩:=ha'
 simp only [exR] at hr hr'
 have G:=exT_g h
 have G':=exT_g h'
 have lit:∀ {op ty bits:Int} {name:List UInt8} {kids:List Ex},exT (.mk op ty bits name kids)=some w→op=1→litT ty bits=some w∧kids=[]:=fun hx hop=>by
  rcases exT_inv hx with ⟨_,a,b⟩ | ⟨a,_⟩ | ⟨a,_⟩ | ⟨a,_⟩ | ⟨a,_⟩ | ⟨a,_⟩ | ⟨a,_⟩
  · exact ⟨b,a⟩
  all_goals (exfalso;omega)
 rcases ho with rfl | rfl
 · obtain ⟨l1,l2⟩:=lit h rfl
   rcases ho' with rfl | rfl
   · obtain ⟨m1,m2⟩:=lit h' rfl
     obtain ⟨e1,e2⟩:=litT_inj hr.2.2.1.1 hr'.2.2.1.1 l1 m1
     have n1:=G.2.1.resolve_left (by decide)
     have n2:=G'.2.1.resolve_left (by decide)
     rw [e1,e2,n1,n2,l2,m2]
   · obtain ⟨a1,a2,a3⟩:=G'.2.2 rfl
     rw [← a3,(litT_ne l1).2] at a1
     cases a1
 · obtain ⟨a1,a2,a3⟩:=G.2.2 rfl
   rcases ho' with rfl | rfl
   · obtain ⟨m1,m2⟩:=lit h' rfl
     rw [← a3,(litT_ne m1).2] at a1
     cases a1
   · obtain ⟨b1,b2,b3⟩:=G'.2.2 rfl
     have c1:=G.1.resolve_left (by decide)
     have c2:=G'.1.resolve_left (by decide)
     rw [c1.1,c1.2,c2.1,c2.2,a2,b2,← a3,← b3]
theorem atom_ok {op ty bits:Int} {name w:List UInt8} {kids:List Ex} (hr:exR (.mk op ty bits name kids)) (ho:op=1∨op=2) (h:exT (.mk op ty bits name kids)=some w):atomOf w = .mk op ty bits name kids:=by
 unfold atomOf
 have hx:∃ e:Ex,exR e∧(∃ op ty bits name kids,e = .mk op ty bits name kids∧(op=1∨op=2))∧exT e=some w:=⟨_,hr,⟨_,_,_,_,_,rfl,ho⟩,h⟩
 rw [dif_pos hx]
 have hs:=hx.choose_spec
 exact atom_inj hs.1 hr hs.2.1 ⟨_,_,_,_,_,rfl,ho⟩ hs.2.2 h
def opOf (s:List UInt8):Int:=
 if s=[124,124] then 3 else if s=[38,38] then 4 else if s=[61,61] then 5 else if s=[33,61] then 6 else if s=[60] then 7 else if s=[60,61] then 8 else if s=[62] then 9 else if s=[62,61] then 10
 else if s=[43] then 11 else if s=[45] then 12 else if s=[42] then 13 else if s=[47] then 14 else 15
def noBl (c:UInt8):Bool:=!(c==32)
theorem opOf_sign {op:Int} (h:3≤op∧op≤15):opOf (psignT op)=op∧(psignT op).all noBl=true:=by
 have:op=3∨op=4∨op=5∨op=6∨op=7∨op=8∨op=9∨op=10∨op=11∨op=12∨op=13∨op=14∨op=15:=by omega
 rcases this with rfl | rfl | rfl | rfl | rfl | rfl | rfl | rfl | rfl | rfl | rfl | rfl | rfl <;> decide
noncomputable def rdE:Nat→List UInt8→Ex×List UInt8
 | 0,l=>(.mk 0 0 0 [] [],l)
 | N+1,l=>
   if l.headD 0=45 then (.mk 16 0 0 [] [(rdE N l.tail).1],(rdE N l.tail).2)
   else if l.headD 0=33 then (.mk 17 0 0 [] [(rdE N l.tail).1],(rdE N l.tail).2)
   else if l.headD 0=40 then
    (.mk (opOf ((rdE N l.tail).2.tail.takeWhile noBl)) 0 0 [] [(rdE N l.tail).1,(rdE N ((rdE N l.tail).2.tail.dropWhile noBl).tail).1],(rdE N ((rdE N l.tail).2.tail.dropWhile noBl).tail).2.tail)
   else if (l.dropWhile atC).headD 0=40 then
    (.mk (if l.takeWhile atC=[105,110,116] then 18 else 19) 0 0 [] [(rdE N (l.dropWhile atC).tail).1],(rdE N (l.dropWhile atC).tail).2.tail)
   else (atomOf (l.takeWhile atC),l.dropWhile atC)
def StopE (r:List UInt8):Prop:=r.headD 0=32∨r.headD 0=41∨r.headD 0=59
theorem StopE.ne {r:List UInt8} (h:StopE r):r≠[]∧atC (r.headD 0)=false∧r.headD 0≠40:=by
 refine ⟨?_,?_,?_⟩
 · rintro rfl
   revert h
   unfold StopE
   decide
 · rcases h with h | h | h <;> rw [h] <;> decide
 · rcases h with h | h | h <;> rw [h] <;> decide
theorem at_heads {w r:List UInt8} (hw:w.all atC=true) (hn:w≠[]):(w++r).headD 0≠45∧(w++r).headD 0≠33∧(w++r).headD 0≠40:=by
 cases w with
 | nil=>exact absurd rfl hn
 | cons c w=>
   rw [List.all_cons,Bool.and_eq_true] at hw
   have h:=hw.1
   rw [List.cons_append,List.headD_cons]
   refine ⟨?_,?_,?_⟩ <;> (intro e;rw [e] at h;revert h;decide)
theorem rdE_ok:∀ (N:Nat) (e:Ex) (t r:List UInt8),wgt e≤N→exR e→exT e=some t→StopE r→rdE N (t++r)=(e,r)
 | 0,e,_,_,h,_,_,_=>by
   cases e
   simp only [wgt] at h
   omega
 | N+1,.mk op ty bits name kids,t,r,hN,hR,ht,hs=>by
   obtain ⟨hr1,hr2,hr3⟩:=hs.ne
   have G:=exT_g ht
   have hR':=hR
   simp only [exR] at hR
   simp only [wgt] at hN
   have bare:op≠1→op≠2→ty=0∧bits=0∧name=[]:=fun h1 h2=>by
    have:=G.1.resolve_left h1
    exact ⟨this.1,this.2,G.2.1.resolve_left h2⟩
   have atom:(op=1∨op=2)→t.all atC=true→t≠[]→rdE (N+1) (t++r)=(.mk op ty bits name kids,r):=fun ho ha hn=>by
    obtain ⟨a1,a2,a3⟩:=at_heads (r:=r) ha hn
    obtain ⟨b1,b2⟩:=take_at ha hr2 hr1
    rw [rdE,if_neg a1,if_neg a2,if_neg a3,b1,b2,if_neg hr3,atom_ok hR' ho ht]
   rcases exT_inv ht with ⟨h1,h2,h3⟩ | ⟨h1,h2,h3⟩ | ⟨h1,x,tx,h2,h3,h4⟩ | ⟨h1,x,tx,h2,h3,h4⟩ | ⟨h1,x,tx,h2,h3,h4⟩ | ⟨h1,x,tx,h2,h3,h4⟩ | ⟨h1,x,y,tx,tY,h2,h3,h4,h5⟩
   · exact atom (.inl h1) (litT_at h3) (litT_ne h3).1
   · obtain ⟨a1,a2,a3⟩:=G.2.2 h1
     have:=name_at a1
     rw [← h3] at this
     exact atom (.inr h1) this.1 this.2.1
   · obtain ⟨b1,b2,b3⟩:=bare (by omega) (by omega)
     subst h1 h2 b1 b2 b3
     simp only [wgts] at hN
     have hx:exR x:=hR.2.2.2.1
     have ih:=rdE_ok N x tx (41::r) (by omega) hx h3 (.inr (.inl rfl))
     have hw:([105,110,116]:List UInt8).all atC=true:=by decide
     have e:t++r=[105,110,116]++(40::(tx++(41::r))):=by rw [h4];simp
     obtain ⟨a1,a2,a3⟩:=at_heads (r:=40::(tx++(41::r))) hw (by simp)
     obtain ⟨c1,c2⟩:=take_at (r:=40::(tx++(41::r))) hw (by rfl) (by simp)
     rw [e,rdE,if_neg a1,if_neg a2,if_neg a3,c1,c2,List.headD_cons,if_pos rfl,if_pos rfl,List.tail_cons,ih]
     rfl
   · obtain ⟨b1,b2,b3⟩:=bare (by omega) (by omega)
     subst h1 h2 b1 b2 b3
     simp only [wgts] at hN
     have hx:exR x:=hR.2.2.2.1
     have ih:=rdE_ok N x tx (41::r) (by omega) hx h3 (.inr (.inl rfl))
     have hw:([114,101,97,108]:List UInt8).all atC=true:=by decide
     have e:t++r=[114,101,97,108]++(40::(tx++(41::r))):=by rw [h4];simp
     obtain ⟨a1,a2,a3⟩:=at_heads (r:=40::(tx++(41::r))) hw (by simp)
     obtain ⟨c1,c2⟩:=take_at (r:=40::(tx++(41::r))) hw (by rfl) (by simp)
     rw [e,rdE,if_neg a1,if_neg a2,if_neg a3,c1,c2,List.headD_cons,if_pos rfl,if_neg (by decide),List.tail_cons,ih]
     rfl
   · obtain ⟨b1,b2,b3⟩:=bare (by omega) (by omega)
     subst h1 h2 b1 b2 b3
     simp only [wgts] at hN
     have hx:exR x:=hR.2.2.2.1
     have ih:=rdE_ok N x tx r (by omega) hx h3 hs
     have e:t++r=45::(tx++r):=by rw [h4];simp
     rw [e,rdE,List.headD_cons,if_pos rfl,List.tail_cons,ih]
   · obtain ⟨b1,b2,b3⟩:=bare (by omega) (by omega)
     subst h1 h2 b1 b2 b3
     simp only [wgts] at hN
     have hx:exR x:=hR.2.2.2.1
     have ih:=rdE_ok N x tx r (by omega) hx h3 hs
     have e:t++r=33::(tx++r):=by rw [h4];simp
     rw [e,rdE,List.headD_cons,if_neg (by decide),if_pos rfl,List.tail_cons,ih]
   · obtain ⟨b1,b2,b3⟩:=bare (by omega) (by omega)
     subst h2 b1 b2 b3
     simp only [wgts] at hN
     have hx:exR x:=hR.2.2.2.1
     have hy:exR y:=hR.2.2.2.2.1
     obtain ⟨s1,s2⟩:=opOf_sign h1
     have ih1:=rdE_ok N x tx (32::(psignT op++(32::(tY++(41::r))))) (by omega) hx h3 (.inl rfl)
     have ih2:=rdE_ok N y tY (41::r) (by omega) hy h4 (.inr (.inl rfl))
     obtain ⟨c1,c2⟩:=take_at (r:=32::(tY++(41::r))) s2 (by rfl) (by simp)
     have e:t++r=40::(tx++(32::(psignT op++(32::(tY++(41::r)))))):=by rw [h5];simp
     rw [e,rdE,List.headD_cons,if_neg (by decide),if_neg (by decide),if_pos rfl,List.tail_cons,ih1]
     simp only [List.tail_cons]
     rw [c1,c2]
     simp only [List.tail_cons]
     rw [ih2,s1]
     rfl
end Go.Proofs.YtiacalnkmnckjaaGreatDoor
end
