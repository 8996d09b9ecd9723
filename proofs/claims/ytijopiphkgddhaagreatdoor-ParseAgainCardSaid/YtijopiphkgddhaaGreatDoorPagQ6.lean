/- Texts of this proof, one behind the other. Conditions: those in each theorem. -/
import Derived.Test.YtijopiphkgddhaaGreatDoorPagQ1
import Derived.Test.YtijopiphkgddhaaGreatDoorPagQ5
import Derived.Lib.ConvBytes
import Derived.Lib.AppendStr
import Derived.Lib.UnsafeStr
import Derived.Lib.Builder
import Derived.Laws.IdiomStrings
set_option linter.unusedVariables false
set_option linter.unusedSimpArgs false
section
noncomputable section
namespace Go.Sy
open Go Go.RowKit
def m8:List UInt8→List AV
 | []=>[]
 | b::l => .v (.int .u8 (.ofNat b.toNat))::m8 l
theorem uR {γ:Gm}:∀ (l:List UInt8),LR γ (m8 l) (l.map fun b=>Value.int .u8 b.toNat)
 | []=>LR.nil
 | b::l=>LR.cons (.v _) (uR l)
section
variable {P:Program} {B:Nat→Prop} {G:Nat} {γ:Gm} {h:Hp} {c:Nat} {w w0:World} {o:Oper} {a:Act} {K:Act→World→Prop} {Q:Exit→Act→World→Prop}
def u8B (P:Program) (e:TypeId):Bool:=match P.underlying e with
 | some (.int .u8)=>true
 | _=>false
theorem aN0 {e:TypeId} (hh:u8B P e=true):P.underlying e=some (.int .u8):=by
 unfold u8B at hh
 split at hh
 · assumption
 · cases hh
def sC (P:Program) (src dst:TypeId) (x:AV) (h:Hp) (c:Nat):R1:=match x with
 | .v (.string s)=>match P.underlying src,P.underlying dst with
   | some _,some (.slice e)=>match u8B P e,Nat.ble s.data.toList.length 140737488355328 with
     | true,true => .val (.slg c 0 s.data.toList.length 1) (h.put c (some (.cells e true false false s.data.toList.length (d6 .leaf 0 (m8 s.data.toList))))) (Nat.succ c)
     | _,_ => .fail
   | _,_ => .fail
 | _ => .fail
theorem aGq (hr:HR B G γ h c w) (hb:Keep B w0 w) {src dst:TypeId} {x:Operand} {ax:AV} (ho:o.op = .convert src dst x) (hx:VR γ ax (a.eval x)) (hk:KOk B G γ w0 a o.dst K Q (sC P src dst ax h c)):o.wp P a w K Q:=by
 unfold sC at hk
 split at hk <;> first | exact hk.elim | skip
 rename_i s
 split at hk <;> first | exact hk.elim | skip
 rename_i u e hu hd
 split at hk <;> first | exact hk.elim | skip
 rename_i he hle
 have he:=aN0 he
 have hle:=aN hle
 have hsz:s.data.toList.length=s.size:=Array.length_toList
 generalize hvx:a.eval x=vx at hx
 cases hx
 have hge:=grownCap_ge w s.size 0 e
 have hml:maxLen=9223372036854775807:=rfl
 have hcm:grownCap w s.size 0 e≤maxLen:=grownCap_le_maxLen w s.size 0 e (by rw [hml];omega)
 have hrun:=Lib.run_convert_string_bytes (P:=P) w src dst e s hu hd he
 have hle2:=Gm.upd_le (hr.fresh c (aH _)) (w.heap.size,(Lib.bytesCells w e s).size)
 have hcs:(Lib.bytesCells w e s).size=grownCap w s.size 0 e:=by
  simp only [Lib.bytesCells,Array.size_append,Array.size_map,Array.size_replicate]
  have:s.data.size=s.size:=rfl
  omega
 refine dM (v := .slice (some ⟨w.heap.size,0,none⟩) s.data.toList.length (grownCap w s.size 0 e)) (w':=Lib.bytesWorld w e s) ?_
  (hk _ _ _ hle2 (.slg (Gm.upd_same _ _ _) (by omega) hcm (fun _=>⟨rfl,by rw [hcs];omega⟩)) ?_ ?_)
 · unfold execOp
   rw [ho]
   simp only [hvx,Sem.run_bind,hrun,Result.andThen_ok,hsz]
   rfl
 · refine hr.add (w.heap.size,(Lib.bytesCells w e s).size) (.cells e true false false s.data.toList.length (d6 .leaf 0 (m8 s.data.toList))) (by rw [Lib.bytesWorld_size];omega) (fun b blk p h1 h2=>?_) ⟨fun _=>hr.new,Lib.bytesCells w e s,_,_,Lib.bytesWorld_at_new w e s,rfl,⟨fun e=>(by cases e),fun e=>(by cases e)⟩,fun i av hlt hi=>?_⟩
   · obtain ⟨q,hq,hbr⟩:=hr.live b blk h1
     obtain rfl:q=p:=by rw [hq] at h2;injection h2
     have:=hbr.lt
     exact ⟨Lib.bytesWorld_at_old w e s _ hbr.lt,by simp;omega⟩
   · have hl:=uR (γ:=γ) s.data.toList
     have hll:=hl.1
     simp only [List.length_map] at hll
     rw [f0,if_pos ⟨by omega,by omega⟩] at hi
     obtain ⟨v,h1,h2⟩:=hl.get (by simpa using hi)
     refine ⟨v,?_,h2.mono hle2⟩
     unfold Lib.bytesCells
     have hlt':i<s.data.size:=by simpa using hlt
     rw [Array.getElem?_append_left (by simpa using hlt')]
     simpa using h1
 · exact ⟨hb.os,hb.tape,hb.output,by rw [Lib.bytesWorld_size];have:=hb.size;omega,fun k hk'=>by rw [Lib.bytesWorld_at_old w e s k (hr.base k hk')];exact hb.block k hk'⟩
def pM (P:Program) (ts:List TypeId) (s x:AV) (h:Hp) (c:Nat):R1:=match x with
 | .v (.string y)=>match ts with
   | [t,u]=>match P.underlying t,P.underlying u with
     | some (.slice e),some .string=>match P.info? e with
       | some i=>match i.zero with
         | some (.int .u8 (.ofNat 0))=>match Nat.beq i.size 1,Nat.beq i.bytes 1 with
           | true,true=>match aKu h e 1 s with
             | some (n,cs,ob)=>match Nat.ble (Nat.add n y.data.toList.length) 140737488355328,y.data.toList.length with
               | true,Nat.succ m => .val (.slg c 0 (Nat.add n (Nat.succ m)) 1) ((s9 h ob).put c (some (.cells e true true false (Nat.add n (Nat.succ m)) (d6 cs n (m8 y.data.toList))))) (Nat.succ c)
               | true,0 => .val s h c
               | _,_ => .fail
             | none => .fail
           | _,_ => .fail
         | _ => .fail
       | none => .fail
     | _,_ => .fail
   | _ => .fail
 | _ => .fail
theorem aE3 {e sz base n:Nat} {t u ty:TypeId} {i:TypeInfo} (ht:P.underlying t=some (.slice e)) (hu:P.underlying u=some .string) (hi:P.info? e=some i) {v:Value} {xs:List Value} (hown:w.ownsRow base e sz v n xs) (y:ByteArray) (hy:y.size=0):
  (Builtin.append_ #[t,u] ty #[v,.string y]).run P w = .ok v w:=by
 have hf:∀ size,(Builtin.firstCells size 0 (.string y)).run P w = .ok #[] w:=by
  intro size
  have:=Lib.run_firstCells_string (P:=P) w size y
  rw [hy] at this
  rw [this]
  congr 1
  apply Array.ext'
  have h2:(Lib.strCells y).length=0:=by rw [Lib.strCells_length,hy]
  simpa using aF h2
 rcases hown.2 with ⟨rfl,rfl⟩ | ⟨g,cap,cur,rfl,_,_,hnc,_⟩
 · simp [Builtin.append_,run_underlying ht,run_underlying hu,sizeOf,typeInfo,hi,Builtin.lenOf,hy,hf]
 · simp [Builtin.append_,run_underlying ht,run_underlying hu,sizeOf,typeInfo,hi,Builtin.lenOf,hnc,storeCells,hy,hf]
theorem aDj (base:Nat) (t u ty e:TypeId) (i:TypeInfo) (ht:P.underlying t=some (.slice e)) (hu:P.underlying u=some .string) (hi:P.info? e=some i) (hz:i.zero=some (.int .u8 0))
  (hsize:i.size=1) (hby:i.bytes=1) (v:Value) (n:Nat) (xs:List Value) (hown:w.ownsRow base e 1 v n xs) (s:ByteArray) (hpos:0<s.size) (hbytes:n+s.size≤140737488355328) (hbase:base≤w.heap.size):
  ∃ v' w',(Builtin.append_ #[t,u] ty #[v,.string s]).run P w = .ok v' w'∧w'.ownsRow base e 1 v' (n+s.size) (xs++Lib.strCells s)∧w.grownBy w' v.ownBlock∧(v'.ownBlock=v.ownBlock∨v'.ownBlock=some w.heap.size):=by
 have hml:maxLen=9223372036854775807:=rfl
 obtain ⟨v',w',hrun,h1,h2,_⟩:=Lib.run_append_own_string (P:=P) w base t u ty e i ht hu hi hz hsize hby v n xs hown s (by omega) hbytes hbase
 refine ⟨v',w',hrun,h1,h2,?_⟩
 rcases hown.2 with ⟨rfl,rfl⟩ | ⟨g,cap,cur,rfl,hbg,hg,hnc,hcm,hcs,htake⟩
 · have hr:=run_append_nil_string (P:=P) w t u ty e i (.int .u8 0) ht hu hi hz s (by omega) (by omega) (by rw [hby];omega)
   rw [hr] at hrun
   injection hrun with e1 e2
   subst e1
   exact .inr rfl
 · by_cases hroom:n+s.size≤cap
   · have hcs':cur.size=cap:=by simpa using hcs
     have hr:=Lib.run_append_room_string (P:=P) w t u ty e i ht hu hi hsize g n cap cur hg s hroom (by omega)
     rw [hr] at hrun
     injection hrun with e1 e2
     subst e1
     exact .inl rfl
   · have hxl:xs.length=n:=by simpa using hown.1
     have holds:∀ j u,xs[j]?=some u→w.cell? ((⟨g,0,none⟩:Addr).add j)=some u:=hown.cells (g:=g) rfl
     have hr:=Lib.run_append_grow_string (P:=P) w t u ty e i (.int .u8 0) ht hu hi hz ⟨g,0,none⟩ n cap xs (by rw [hsize];simpa using hxl) holds s (by omega) (by omega) (by rw [hby];exact growslice_fits (by omega) (by omega))
     rw [hr] at hrun
     injection hrun with e1 e2
     subst e1
     exact .inr rfl
theorem aFf (hr:HR B G γ h c w) (hb:Keep B w0 w) {s x:Operand} {ts:Array TypeId} {aS ax:AV} (ho:o.op = .call { callee := .builtin .append,args:=#[s,x],argTypes:=ts })
  (hs:VR γ aS (a.eval s)) (hx:VR γ ax (a.eval x)) (hk:KOk B G γ w0 a o.dst K Q (pM P ts.toList aS ax h c)):o.wp P a w K Q:=by
 unfold pM at hk
 split at hk <;> first | exact hk.elim | skip
 rename_i y
 split at hk <;> first | exact hk.elim | skip
 rename_i t u hts
 have hts':ts=#[t,u]:=by apply Array.ext';simpa using hts
 subst hts'
 split at hk <;> first | exact hk.elim | skip
 rename_i e ht hu
 split at hk <;> first | exact hk.elim | skip
 rename_i i hi
 split at hk <;> first | exact hk.elim | skip
 rename_i hz
 split at hk <;> first | exact hk.elim | skip
 rename_i e1 e2
 have e1:i.size=1:=by simpa using e1
 have e2:i.bytes=1:=by simpa using e2
 split at hk <;> first | exact hk.elim | skip
 rename_i n cs ob hrow
 obtain ⟨xs,hown,hnB,hxs,hdrop⟩:=aJw hr hs hrow
 have hsz:y.data.toList.length=y.size:=Array.length_toList
 generalize hvx:a.eval x=vx at hx
 cases hx
 have hop:∀ {v':Value} {w':World},(Builtin.append_ #[t,u] o.type #[a.eval s,.string y]).run P w = .ok v' w'→(execOp a.eval o).run P w = .ok (.value v') w':=by
  intro v' w' hrun
  unfold execOp
  simp only [ho,resolve,invoke,builtin,Sem.run_bind,Sem.run_pure,Result.andThen_ok,List.map_toArray,List.map_cons,List.map_nil,hvx,hrun]
 split at hk <;> first | exact hk.elim | skip
 · rename_i m e4 e5
   have e4:n+y.data.toList.length≤140737488355328:=aN e4
   have hym:y.size=m+1:=by omega
   obtain ⟨v',w',hrun,hown',hgr,hsame⟩:=aDj (P:=P) 0 t u o.type e i ht hu hi hz e1 e2 (a.eval s) n xs hown y (by omega) (by omega) (Nat.zero_le _)
   rw [hym] at hown'
   rcases hown'.2 with ⟨_,h0⟩ | ⟨g,cap,cur,rfl,hBg,hheap,hnc,hcm,hcs,htake⟩
   · omega
   have hown0:=hown.1
   have hBg':¬ B g:=by
    have hsame':some g=(a.eval s).ownBlock∨some g=some w.heap.size:=hsame
    rcases hsame' with h5 | h5
    · exact hnB g h5.symm
    · injection h5 with h5;rw [h5];exact hr.new
   have hd0:HR B G γ (s9 h ob) c w:=by
    cases ob with
    | none=>exact hr
    | some b=>exact hr.drop b
   have hle:=Gm.upd_le (hr.fresh c (aH _)) (g,cap*1)
   refine dM (hop hrun) (hk (γ.upd c (g,cap*1)) _ w' hle (.slg (Gm.upd_same _ _ _) hnc hcm (fun _=>⟨rfl,by simp⟩)) ?_ (hb.grown hgr hr.base hnB))
   refine hd0.add (g,cap*1) _ hgr.size (fun b blk p h1 h2=>?_) ⟨fun _=>hBg',cur,_,(0,0),hheap,hcs,⟨fun _=>⟨rfl,rfl⟩,fun e=>(by cases e)⟩,fun j av hj hav=>?_⟩
   · obtain ⟨h3,h4⟩:=hdrop b blk p h1
     have hne:=h4 h2
     obtain ⟨q,hq,hbr⟩:=hr.live b _ h3
     obtain rfl:q=p:=by rw [hq] at h2;injection h2
     refine ⟨hgr.block _ hbr.lt (fun e=>hne e.symm),fun e=>?_⟩
     have hsame':some g=(a.eval s).ownBlock∨some g=some w.heap.size:=hsame
     simp only at e
     subst e
     rcases hsame' with h5 | h5
     · exact hne h5.symm
     · injection h5 with h5
       have:=hbr.lt
       omega
   · simp only [Nat.add_eq] at hj hav
     have hget:∀ u,(xs++Lib.strCells y)[j]?=some u→cur[j]?=some u:=by
      intro u hu'
      rw [← htake] at hu'
      have hj2:=(List.getElem?_eq_some_iff.1 hu').1
      rw [aT] at hj2
      rw [List.getElem?_take,if_pos (by omega)] at hu'
      simpa using hu'
     have hl:LR γ (m8 y.data.toList) (Lib.strCells y):=uR (γ:=γ) y.data.toList
     have hll:=hl.1
     rw [Lib.strCells_length] at hll
     rw [f0] at hav
     split at hav
     · rename_i hin
       obtain ⟨u,h5,h6⟩:=hl.get hav
       exact ⟨u,hget u (by rw [aP (by omega),hown0,Nat.mul_one];exact h5),h6.mono hle⟩
     · rename_i hout
       have hjn:j<n*1:=by
        have hout':¬ (n≤j∧j<n+(m8 y.data.toList).length):=hout
        rw [hll] at hout'
        have:j<n+(m+1):=hj
        omega
       obtain ⟨u,h5,h6⟩:=hxs j av hjn hav
       exact ⟨u,hget u (by rw [bG (by omega)];exact h5),h6.mono hle⟩
 · rename_i e4 e5
   exact dM (hop (aE3 ht hu hi hown y (by omega))) (hk γ _ w (Gm.le.refl _) hs hr hb)
def p5:List AV→Option (List UInt8)
 | []=>some []
 | .v (.int .u8 (.ofNat k))::l=>match Nat.blt k 256 with
   | true=>match p5 l with
     | some r=>some (UInt8.ofNat k::r)
     | none=>none
   | false=>none
 | _::_=>none
theorem uQ {γ:Gm}:∀ {aS:List AV} {vs:List Value} {l:List UInt8},p5 aS=some l→LR γ aS vs→vs=l.map fun b=>Value.int .u8 b.toNat
 | [],vs,l,hh,hl=>by
   simp [p5] at hh
   subst hh
   exact aF hl.1.symm
 | x::aS,vs,l,hh,hl=>by
   unfold p5 at hh
   split at hh <;> first | (cases hh;done) | skip
   · rename_i heq;cases heq
   · rename_i k l' heq
     injection heq with q1 q2
     subst q1 q2
     split at hh <;> first | (cases hh;done) | skip
     rename_i hk
     have hk:=cI hk
     split at hh <;> first | (cases hh;done) | skip
     rename_i r hr
     injection hh with hh
     subst hh
     cases vs with
     | nil=>have:=hl.1;simp at this
     | cons y vs=>
       have h0:=hl.2 0 _ y rfl rfl
       have ht:LR γ aS vs:=⟨by have:=hl.1;simpa using this,fun i b z h1 h2=>hl.2 (i+1) b z (by simpa using h1) (by simpa using h2)⟩
       cases h0
       rw [uQ hr ht]
       simp only [List.map_cons,List.cons.injEq,and_true]
       have:(UInt8.ofNat k).toNat=k:=by simp;omega
       rw [this]
       rfl
theorem Keep.freeze {F:Nat→Prop} {a w:World} (h:Keep F a w) {p:Addr} (hp:¬ F p.block) (n:Nat):Keep F a (w.freeze p n):=by
 refine h.trans ?_
 unfold World.freeze
 split
 · exact Keep.refl F w
 · exact ⟨rfl,rfl,rfl,by simp,fun k hk=>by
    simp only [Array.getElem?_modify]
    rw [if_neg (show p.block≠k from fun e=>hp (e ▸ hk))]⟩
theorem HR.dropTurn (hr:HR B G γ h c w) {w':World} {b:Nat} {p:Nat×Nat} {blk0:Blk} (h0:h.get b=some blk0) (hp:γ b=some p) (hs:w.heap.size≤w'.heap.size) (hk:∀ k,k≠p.1→k<w.heap.size→w'.heap[k]?=w.heap[k]?):HR B G γ (h.put b none) c w':=by
 have key:∀ x blkx,(h.put b none).get x=some blkx→h.get x=some blkx∧x≠b:=by
  intro x blkx hx
  rw [Tr.get_put] at hx
  split at hx
  · cases hx
  · exact ⟨hx,by assumption⟩
 refine ⟨fun b1 blk1 h1=>?_,fun b1 b2 _ _ p1 p2 h1 h2=>hr.inj b1 b2 _ _ p1 p2 (key _ _ h1).1 (key _ _ h2).1,hr.fresh,hr.glob,fun k hk=>aE (hr.base k hk) hs⟩
 obtain ⟨h2,h3⟩:=key _ _ h1
 obtain ⟨q,hq,hbr⟩:=hr.live b1 blk1 h2
 exact ⟨q,hq,hbr.kept (hk _ (fun e=>h3 (hr.inj _ _ _ _ _ _ h2 h0 hq hp e)) hbr.lt)⟩
def lS (P:Program) (ts:List TypeId) (x n:AV) (h:Hp) (c:Nat):R1:=match ts with
 | [pt,_]=>match n with
   | .v (.int .i64 (.ofNat 0))=>match x with
     | .ptr _ _ => .val (.v (.string ⟨#[]⟩)) h c
     | .v (.pointer none) => .val (.v (.string ⟨#[]⟩)) h c
     | _ => .fail
   | .v (.int .i64 (.ofNat (k+1)))=>match x with
     | .ptr b 0=>match P.underlying pt with
       | some (.pointer e)=>match Nat.beq (P.cellsOf e) 1,h.get b with
         | true,some (.cells ty true true _ lim cs)=>match Nat.beq ty e,Nat.ble (k+1) lim,Nat.ble (k+1) 9223372036854775807,cellsAt cs 0 (k+1) with
           | true,true,true,some l=>match p5 l with
             | some bs => .val (.v (.string ⟨bs.toArray⟩)) (h.put b none) c
             | none => .fail
           | _,_,_,_ => .fail
         | _,_ => .fail
       | _ => .fail
     | _ => .fail
   | _ => .fail
 | _ => .fail
theorem aA8 (hr:HR B G γ h c w) (hb:Keep B w0 w) {s x:Operand} {ts:Array TypeId} {aS ax:AV} (ho:o.op = .call { callee := .builtin .unsafeString,args:=#[s,x],argTypes:=ts })
  (hs:VR γ aS (a.eval s)) (hx:VR γ ax (a.eval x)) (hk:KOk B G γ w0 a o.dst K Q (lS P ts.toList aS ax h c)):o.wp P a w K Q:=by
 unfold lS at hk
 split at hk <;> first | exact hk.elim | skip
 rename_i pt it hts
 have hts':ts=#[pt,it]:=by apply Array.ext';simpa using hts
 subst hts'
 generalize hvx:a.eval x=vx at hx
 generalize hvs:a.eval s=vs at hs
 have hop:∀ {v':Value} {w':World},(Builtin.unsafeString_ #[pt,it] o.type #[vs,vx]).run P w = .ok v' w'→(execOp a.eval o).run P w = .ok (.value v') w':=by
  intro v' w' hrun
  unfold execOp
  simp only [ho,resolve,invoke,builtin,Sem.run_bind,Sem.run_pure,Result.andThen_ok,List.map_toArray,List.map_cons,List.map_nil,hvx,hvs,hrun]
 split at hk <;> first | exact hk.elim | skip
 · cases hx
   split at hk <;> first | exact hk.elim | skip
   · cases hs with
     | ptr hbp=>exact dM (hop (Lib.run_unsafeString_none (P:=P) w pt it o.type _)) (hk γ _ w (Gm.le.refl _) (.v _) hr hb)
   · cases hs
     exact dM (hop (Lib.run_unsafeString_none (P:=P) w pt it o.type _)) (hk γ _ w (Gm.le.refl _) (.v _) hr hb)
 · rename_i k
   cases hx
   split at hk <;> first | exact hk.elim | skip
   rename_i b
   split at hk <;> first | exact hk.elim | skip
   rename_i e hp
   split at hk <;> first | exact hk.elim | skip
   rename_i ty ex lim cs hce hg
   have hce:P.cellsOf e=1:=by simpa using hce
   split at hk <;> first | exact hk.elim | skip
   rename_i l e1 e2 e3 hc
   have e1:ty=e:=by simpa using e1
   have e2:k+1≤lim:=aN e2
   have e3:k+1≤9223372036854775807:=aN e3
   subst e1
   split at hk <;> first | exact hk.elim | skip
   rename_i bs hbs
   cases hs with
   | ptr hbp=>
     rename_i n N
     obtain ⟨vs',⟨h1,h2,h3,h4⟩ | ⟨h1,_⟩⟩:=hr.cellsAt hbp hg hc (by omega)
     case inr=>omega
     have hvb:=uQ hbs h1
     have hbl:bs.length=k+1:=by rw [← h2,hvb];simp
     obtain ⟨p,hp',hbr⟩:=hr.live b _ hg
     rw [hbp] at hp'
     injection hp' with hp'
     subst hp'
     obtain ⟨h0,cc,ty',fz,k1,k2,k3,k4⟩:=hbr
     obtain ⟨rfl,rfl⟩:=k3.1 rfl
     have hsh:w.shape? n=some (ty,cc.size):=by simp [World.shape?,k1]
     have hrun:=Lib.run_unsafeString_row (P:=P) w pt it o.type ty hp hce n cc.size hsh bs (by intro e;rw [e] at hbl;simp at hbl) (by simp only at k2;omega) (by omega) (fun j x hj=>by
      rw [Addr.add_mid]
      exact h3 j _ (by rw [hvb];simp [hj]))
     rw [hbl] at hrun
     refine dM (hop hrun) (hk γ _ _ (Gm.le.refl _) (.v _) ?_ (Keep.freeze hb (h0 rfl) _))
     refine hr.dropTurn hg hbp ?_ (fun k' hk' _=>?_)
     · unfold World.freeze;split <;> simp
     · unfold World.freeze
       split
       · rfl
       · simp only [Array.getElem?_modify]
         rw [if_neg (fun e=>hk' e.symm)]
end
def pH (x:AV):Option AV:=match x with
 | .slg b 0 (_+1) _=>some (.ptr b 0)
 | _=>none
theorem aE0 {P:Program} {γ:Gm} {ts:Array TypeId} {ty:TypeId} {a:AV} {x:Value} {r:AV} (hx:VR γ a x) (h:pH a=some r):
  ∃ v,VR γ r v∧∀ w,(Builtin.unsafeSliceData_ ts ty #[x]).run P w = .ok v w:=by
 unfold pH at h
 split at h <;> first | (cases h;done) | skip
 injection h with h
 subst h
 cases hx with
 | slg hb hl hm ho=>
   obtain ⟨rfl,_⟩:=ho (.inl rfl)
   exact ⟨_,.ptr hb,fun w=>Lib.run_unsafeSliceData_row (P:=P) w ts ty _ _ _ (by omega)⟩
def aCz (P:Program) (op:BinOp) (t:TypeId) (x y:AV):Option AV:=match x,y with
 | .ptr b o,.ptr b' o'=>match Nat.beq b b',Nat.beq o o',P.underlying t with
   | true,true,some (.pointer te)=>match P.info? te with
     | some _=>match op with
       | .eql=>some (.v (.bool true))
       | .neq=>some (.v (.bool false))
       | _=>none
     | none=>none
   | _,_,_=>none
 | _,_=>none
theorem aNy {P:Program} {γ:Gm} {op:BinOp} {t:TypeId} {a b:AV} {x y:Value} {r:AV} (hx:VR γ a x) (hy:VR γ b y) (h:aCz P op t a b=some r) (ox oy:Operand):
  ∃ v,VR γ r v∧∀ w,(do eqGuard op t ox oy x y;binOp op t x y:Sem Value).run P w = .ok v w:=by
 unfold aCz at h
 split at h <;> first | (cases h;done) | skip
 split at h <;> first | (cases h;done) | skip
 rename_i te e1 e2 hu
 have e1:=aV e1
 have e2:=aV e2
 subst e1 e2
 split at h <;> first | (cases h;done) | skip
 rename_i i hi
 cases hx with
 | ptr h1=>
   cases hy with
   | ptr h2=>
     rw [h1] at h2
     injection h2 with h2
     injection h2 with h2 h3
     subst h2 h3
     have heq:∀ (w:World) (d:Nat) (q:Addr),(Op.equalIn (d+1) t (.pointer (some q)) (.pointer (some q))).run P w = .ok true w:=fun w d q=>by
      simp [Op.equalIn,run_underlying hu,sizeOf,typeInfo,hi,run_sameAddr_same]
     split at h <;> first | (cases h;done) | skip
     all_goals
      injection h with h
      subst h
      refine ⟨_,.v _,fun w=>eqG rfl ?_⟩
      first
       | exact eqE (b:=true) rfl (heq w 9999 _)
       | exact neE (b:=true) rfl (heq w 9999 _)
def pO (P:Program) (src dst:TypeId) (x:AV) (h:Hp):Option AV:=match x with
 | .ptr b off=>match h.get b with
   | some (.cells ty _ _ ex lim cs)=>match P.underlying src,P.underlying dst with
     | some (.pointer t),some .unsafePointer=>match szB P t,Nat.blt off lim,cs.get off with
       | some (_+1),true,some _=>some (.ptr b off)
       | _,_,_=>none
     | some .unsafePointer,some (.pointer u)=>match ex,P.info? u with
       | true,some _=>match liesAt P P.depth ty (lim / P.cellsOf ty) off u 1 with
         | true=>some (.ptr b off)
         | false=>none
       | _,_=>none
     | _,_=>none
   | _=>none
 | _=>none
theorem aE4 {P:Program} {B:Nat→Prop} {G:Nat} {γ:Gm} {h:Hp} {c:Nat} {w:World} {src dst:TypeId} {a:AV} {x:Value} {r:AV} (hr:HR B G γ h c w) (hx:VR γ a x) (hh:pO P src dst a h=some r):
  ∃ v,VR γ r v∧(convert src dst x).run P w = .ok v w:=by
 unfold pO at hh
 split at hh <;> first | (cases hh;done) | skip
 split at hh <;> first | (cases hh;done) | skip
 rename_i ty own clean ex lim cs hg
 cases hx with
 | ptr hb=>
   rename_i n N
   obtain ⟨p,hp,hbr⟩:=hr.live _ _ hg
   rw [hb] at hp
   injection hp with hp
   subst hp
   obtain ⟨h0,cc,ty',fz,k1,k2,k3,k4⟩:=hbr
   have hsh:w.shape? n=some (ty',cc.size):=by simp [World.shape?,k1]
   split at hh <;> first | (cases hh;done) | skip
   · rename_i t hs hd
     split at hh <;> first | (cases hh;done) | skip
     rename_i z av e1 e2 e3
     injection hh with hh
     subst hh
     obtain ⟨y,h5,_⟩:=k4 _ av (cI e2) e3
     have hlt:=(Array.getElem?_eq_some_iff.1 h5).1
     unfold szB at e1
     split at e1 <;> first | (cases e1;done) | skip
     rename_i i hi
     injection e1 with e1
     exact ⟨_,.ptr hb,Lib.run_to_unsafe (P:=P) w _ hs hd hi (by omega) hsh hlt⟩
   · rename_i u hs hd
     split at hh <;> first | (cases hh;done) | skip
     rename_i i hi
     split at hh <;> first | (cases hh;done) | skip
     rename_i hl
     injection hh with hh
     subst hh
     obtain ⟨this,rfl⟩:=k3.2 rfl
     exact ⟨_,.ptr hb,Lib.run_from_unsafe (P:=P) w _ hs hd hi hsh (by rw [this];exact hl)⟩
end Go.Sy
end
end
section
noncomputable section
namespace Go.Sy
open Go Go.RowKit
def rZ (P:Program) (src dst:TypeId) (x:AV) (h:Hp):Option AV:=match P.underlying src,P.underlying dst with
 | some (.slice e),some .string=>match u8B P e,nS h 1 x with
   | true,some (_,l)=>match p5 l,x with
     | _,.v _=>none
     | some bs,_=>some (.v (.string ⟨bs.toArray⟩))
     | none,_=>none
   | _,_=>none
 | _,_=>none
theorem aF5 {P:Program} {B:Nat→Prop} {G:Nat} {γ:Gm} {h:Hp} {c:Nat} {w:World} {src dst:TypeId} {a:AV} {x:Value} {r:AV} (hr:HR B G γ h c w) (hx:VR γ a x) (hh:rZ P src dst a h=some r):
  ∃ v,VR γ r v∧(convert src dst x).run P w = .ok v w:=by
 unfold rZ at hh
 split at hh <;> first | (cases hh;done) | skip
 rename_i e hs hd
 split at hh <;> first | (cases hh;done) | skip
 rename_i m l he hsrc
 split at hh <;> first | (cases hh;done) | skip
 rename_i bs hbs hnv
 injection hh with hh
 subst hh
 have he:=aN0 he
 have hsome:∃ ad m' k,x = .slice (some ad) m' k:=by
  cases hx with
  | v x=>exact (hnv x rfl).elim
  | sl _ _=>exact ⟨_,_,_,rfl⟩
  | slg _ _ _ _=>exact ⟨_,_,_,rfl⟩
  | _=>simp [nS] at hsrc
 obtain ⟨A,k,vs,⟨hxe,hl,hln,hA⟩ | ⟨k',hxe,_⟩⟩:=kX hr hx hsrc
 · obtain ⟨ad,m',k2,hxe2⟩:=hsome
   rw [hxe] at hxe2
   injection hxe2 with e1 e2 e3
   subst e1 e2 e3
   have hvb:=uQ hbs hl
   have hbl:bs.length=m:=by
    have:vs.length=bs.length:=by rw [hvb];simp
    omega
   refine ⟨_,.v _,?_⟩
   rw [hxe,← hbl]
   refine run_convert_bytes_back w src dst e ad k bs hs he hd (fun j hj=>?_)
   obtain ⟨ad',e1,hc⟩:=hA (by omega)
   injection e1 with e1
   subst e1
   exact hc j _ (by rw [hvb];simp [hj])
 · obtain ⟨ad,m',k2,hxe2⟩:=hsome
   rw [hxe] at hxe2
   cases hxe2
def zI (s:ByteArray):List (AV×AV×Nat)→Nat→Option (Option (Nat×AV))
 | [],_=>some none
 | (.v (.string y),a,_)::l,i=>match decide (s.data.toList=y.data.toList) with
   | true=>some (some (i,a))
   | false=>zI s l (Nat.succ i)
 | _::_,_=>none
theorem wO {a b:ByteArray}:(a==b)=decide (a.data.toList=b.data.toList):=by
 have e:(a==b)=(a.data==b.data):=rfl
 rw [e,Bool.eq_iff_iff,beq_iff_eq,decide_eq_true_iff]
 exact ⟨fun h=>by rw [h],fun h=>Array.ext' h⟩
theorem rF {P:Program} {γ:Gm} {s:ByteArray}:∀ {es:List (AV×AV×Nat)} {l:List MapEntry} {i:Nat} {r:Option (Nat×AV)},aAi γ es l→zI s es i=some r→
  (r=none∧Instr.findNow .string (.string s) l i=some none)∨(∃ j a v,r=some (j,a)∧Instr.findNow .string (.string s) l i=some (some (j,v))∧VR γ a v∧i≤j∧(∃ e m,es[j - i]?=some e∧l[j - i]?=some m∧m.key = .string s∧e.1 = .v (.string s)))
 | [],l,i,r,hm,h=>by
   have:l=[]:=aF hm.1.symm
   subst this
   simp [zI] at h
   subst h
   exact .inl ⟨rfl,rfl⟩
 | (k,a,n)::es,l,i,r,hm,h=>by
   cases l with
   | nil=>have:=hm.1;simp at this
   | cons m l=>
     obtain ⟨h1,h2,h3⟩:=hm.2 0 (k,a,n) m rfl rfl
     have hm':aAi γ es l:=⟨by have:=hm.1;simpa using this,fun i e m h1 h2=>hm.2 (i+1) e m (by simpa using h1) (by simpa using h2)⟩
     unfold zI at h
     split at h <;> first | (cases h;done) | skip
     · rename_i heq;cases heq
     · rename_i heq
       injection heq with q1 q2
       injection q1 with q1 q3
       injection q3 with q3 q4
       subst q1 q2 q3 q4
       rename_i i l9 n9 y
       have hk:m.key = .string y:=by
        cases hmk:m.key with
        | string z=>rw [hmk] at h1;cases h1;rfl
        | _=>rw [hmk] at h1;cases h1
       split at h
       · rename_i hd
         injection h with h
         subst h
         have hy:y=s:=by
          have:=of_decide_eq_true hd
          apply ByteArray.ext
          exact Array.ext' this.symm
         subst hy
         refine .inr ⟨i,_,m.val,rfl,?_,h2,aH _,?_⟩
         · have hyy:(y==y)=true:=(wO (a:=y)).trans (by simp)
           simp only [Instr.findNow,hk,Instr.sameNow,hyy]
         · rw [Nat.sub_self];exact ⟨_,_,rfl,rfl,hk,rfl⟩
       · rename_i hd
         have hne:(s==_)=false:=(wO (a:=s)).trans hd
         have hstep:Instr.findNow .string (.string s) (m::l) i=Instr.findNow .string (.string s) l (i+1):=by
          simp only [Instr.findNow,hk,Instr.sameNow,hne]
         rcases rF (P:=P) hm' h with ⟨e1,e2⟩ | ⟨j,a',v,e1,e2,e3,e4,e,m',g1,g2,g3,g4⟩
         · exact .inl ⟨e1,by rw [hstep];exact e2⟩
         · refine .inr ⟨j,a',v,e1,by rw [hstep];exact e2,e3,by omega,e,m',?_,?_,g3,g4⟩
           · rw [show j - i=(j - (i+1))+1 by omega];simpa using g1
           · rw [show j - i=(j - (i+1))+1 by omega];simpa using g2
def aJv (h:Hp) (x:AV):Option (List (AV×AV×Nat)):=match x with
 | .v (.map none)=>some []
 | .map b=>match h.get b with
   | some (.map es _)=>some es
   | _=>none
 | _=>none
def zE (P:Program) (t:TypeId) (x k:AV) (ok:Bool) (h:Hp):Option AV:=match P.underlying t with
 | some (.map kt et)=>match P.underlying kt,k with
   | some .string,.v (.string s)=>match aJv h x with
     | none=>none
     | some es=>match zI s es 0 with
       | none=>none
       | some (some (_,a))=>match ok with
         | true=>some (.tup [a,.v (.bool true)])
         | false=>some a
       | some none=>match iO P et with
         | none=>none
         | some z=>match ok with
           | true=>some (.tup [iN z,.v (.bool false)])
           | false=>some (iN z)
   | _,_=>none
 | _=>none
theorem mY {P:Program} {kt:TypeId} (hu:P.underlying kt=some .string) (em:Bool) (s:ByteArray) (w:World):(Instr.checkKey em (9999+1) kt (.string s)).run P w = .ok () w:=by
 unfold Instr.checkKey
 rw [Sem.run_bind,run_underlying hu w,Result.andThen_ok]
 rfl
theorem oG {P:Program} {kt:TypeId} (hu:P.underlying kt=some .string) {s:ByteArray} {l:List MapEntry} {r:Option (Nat×Value)} (h:Instr.findNow .string (.string s) l 0=some r) (w:World):(Instr.findKey kt (.string s) l).run P w = .ok r w:=by
 unfold Instr.findKey
 rw [Sem.run_bind,run_underlying hu w,Result.andThen_ok,h]
 rfl
theorem m5 {P:Program} {w:World} {n:Nat} {l:Array MapEntry} {k:Nat} (h:w.heap[n]?=some (.map l k)):(getObj n).run P w = .ok (.map l k) w:=by
 simp only [getObj,Sem.run,h]
theorem aKv {P:Program} {B:Nat→Prop} {G:Nat} {γ:Gm} {h:Hp} {c:Nat} {w:World} {t:TypeId} {a ak:AV} {x k:Value} {ok:Bool} {r:AV} (hr:HR B G γ h c w) (hx:VR γ a x) (hk:VR γ ak k) (hh:zE P t a ak ok h=some r):
  ∃ v,VR γ r v∧(Instr.lookup t x k ok).run P w = .ok v w:=by
 unfold zE at hh
 split at hh <;> first | (cases hh;done) | skip
 rename_i kt et hu
 split at hh <;> first | (cases hh;done) | skip
 rename_i s hks
 cases hk
 split at hh <;> first | (cases hh;done) | skip
 rename_i es hes
 obtain ⟨l,hml,hrun⟩:∃ l:List MapEntry,aAi γ es l∧∀ (K:Array MapEntry→Sem Value),(do
   let es ← match x with
    | .map none=>pure #[]
    | .map (some r)=>do
      let .map es _ ← getObj r | stuck "Lookup: map expected"
      pure es
    | _=>stuck "Lookup: map expected"
   K es:Sem Value).run P w=(K l.toArray).run P w:=by
  unfold aJv at hes
  split at hes <;> first | (cases hes;done) | skip
  · injection hes with hes
    subst hes
    cases hx
    exact ⟨[],⟨rfl,fun i e m h=>by simp at h⟩,fun K=>rfl⟩
  · split at hes <;> first | (cases hes;done) | skip
    rename_i b _ es' clock hg
    injection hes with hes
    subst hes
    cases hx with
    | map hb=>
      obtain ⟨p,hp,hbr⟩:=hr.live b _ hg
      rw [hb] at hp
      injection hp with hp
      subst hp
      obtain ⟨h0,l,h1,h2⟩:=hbr
      refine ⟨l.toList,h2,fun K=>?_⟩
      simp only [Sem.run_bind,m5 h1,Result.andThen_ok,Sem.run_pure,Array.toArray_toList]
 have hlk:(Instr.lookup t x (.string s) ok).run P w=(do
   Instr.checkKey l.toArray.isEmpty (9999+1) kt (.string s)
   let (v,k) ← match ← Instr.findKey kt (.string s) l with
    | some (_,v)=>pure (v,true)
    | none=>pure (← zeroValue et,false)
   pure (if ok then .tuple #[v,.bool k] else v):Sem Value).run P w:=by
  unfold Instr.lookup
  rw [Sem.run_bind,run_underlying hu w,Result.andThen_ok]
  exact hrun _
 rw [hlk]
 split at hh <;> first | (cases hh;done) | skip
 · rename_i j av hf
   rcases rF (P:=P) hml hf with ⟨e,_⟩ | ⟨j',a',v,e1,e2,e3,_⟩
   · cases e
   · injection e1 with e1
     injection e1 with e1 e4
     subst e1 e4
     simp only [Sem.run_bind,mY hks,Result.andThen_ok,oG hks e2,Sem.run_pure]
     split at hh
     · injection hh with hh
       subst hh
       exact ⟨_,.tup2 e3 (.v _),rfl⟩
     · injection hh with hh
       subst hh
       exact ⟨_,e3,rfl⟩
 · rename_i hf
   rcases rF (P:=P) hml hf with ⟨_,e2⟩ | ⟨j',a',v,e1,_⟩
   · split at hh
     · cases hh
     rename_i z hz
     simp only [Sem.run_bind,mY hks,Result.andThen_ok,oG hks e2,Sem.run_pure,qK hz]
     split at hh
     · injection hh with hh
       subst hh
       exact ⟨_,.tup2 (l4 z) (.v _),rfl⟩
     · injection hh with hh
       subst hh
       exact ⟨_,l4 z,rfl⟩
   · cases e1
section
variable {P:Program} {B:Nat→Prop} {G:Nat} {γ:Gm} {h:Hp} {c:Nat} {w w0:World} {o:Oper} {a:Act} {K:Act→World→Prop} {Q:Exit→Act→World→Prop}
def aBf (h:Hp) (c:Nat):R1 := .val (.map c) (h.put c (some (.map [] 0))) (Nat.succ c)
theorem aIc (hr:HR B G γ h c w) (hb:Keep B w0 w) {t:TypeId} (ho:o.op = .makeMap t none) (hk:KOk B G γ w0 a o.dst K Q (aBf h c)):o.wp P a w K Q:=by
 have hle:=Gm.upd_le (hr.fresh c (aH _)) (w.heap.size,0)
 refine dM (v := .map (some w.heap.size)) (w':=w.alloc (.map #[] 0)) ?_ (hk _ _ _ hle (.map (Gm.upd_same _ _ _)) (hr.alloc _ 0 _ ⟨hr.new,#[],heap_alloc_new w _,rfl,fun i e m h=>by simp at h⟩) (hb.alloc hr.base _))
 unfold execOp
 rw [ho]
 rfl
def mK (l:List (AV×AV×Nat)) (i:Nat) (v:AV):List (AV×AV×Nat):=match l,i with
 | [],_=>[]
 | e::r,0=>(e.1,v,e.2.2)::r
 | e::r,n+1=>e::mK r n v
def k7 (P:Program) (t:TypeId) (m k v:AV) (h:Hp) (c:Nat):R1:=match P.underlying t with
 | some (.map kt _)=>match P.underlying kt,k,m with
   | some .string,.v (.string s),.map b=>match h.get b with
     | some (.map es clock)=>match zI s es 0 with
       | some none => .val (.tup []) (h.put b (some (.map (es++[(.v (.string s),v,clock)]) (Nat.succ clock)))) c
       | some (some (i,_)) => .val (.tup []) (h.put b (some (.map (mK es i v) clock))) c
       | none => .fail
     | _ => .fail
   | _,_,_ => .fail
 | _ => .fail
theorem aEf {γ:Gm} {s:ByteArray} {v:AV} {x:Value} (hv:VR γ v x):∀ {es:List (AV×AV×Nat)} {l:List MapEntry} {i:Nat},aAi γ es l→(∃ m,l[i]?=some m∧m.key = .string s)→
  aAi γ (mK es i v) (l.modify i fun e=>{ e with key := .string s,val:=x })
 | [],l,i,hm,hex=>by
   have:l=[]:=aF hm.1.symm
   subst this
   obtain ⟨m,h,_⟩:=hex
   simp at h
 | e::es,[],i,hm,hex=>by have:=hm.1;simp at this
 | e::es,m::l,0,hm,hex=>by
   obtain ⟨m',h1,h2⟩:=hex
   simp at h1
   subst h1
   obtain ⟨g1,g2,g3⟩:=hm.2 0 e m rfl rfl
   refine ⟨by have:=hm.1;simpa [mK] using this,fun i e' m'' h3 h4=>?_⟩
   cases i with
   | zero=>
     simp [mK] at h3 h4
     subst h3 h4
     exact ⟨by simpa [h2] using g1,hv,g3⟩
   | succ i=>exact hm.2 (i+1) e' m'' (by simpa [mK] using h3) (by simpa using h4)
 | e::es,m::l,i+1,hm,hex=>by
   have hm':aAi γ es l:=⟨by have:=hm.1;simpa using this,fun i e m h1 h2=>hm.2 (i+1) e m (by simpa using h1) (by simpa using h2)⟩
   have ih:=aEf (s:=s) hv hm' (i:=i) (by simpa using hex)
   refine ⟨by have:=ih.1;simpa [mK] using this,fun j e' m'' h3 h4=>?_⟩
   cases j with
   | zero=>exact hm.2 0 e' m'' (by simpa [mK] using h3) (by simpa using h4)
   | succ j=>exact ih.2 j e' m'' (by simpa [mK] using h3) (by simpa using h4)
theorem kY {n:Nat} {l l':Array MapEntry} {k k':Nat} (h:w.heap[n]?=some (.map l k)):(setObj n (.map l' k')).run P w = .ok () { w with heap:=w.heap.setIfInBounds n (.map l' k') }:=by
 simp only [setObj,Sem.run,h]
theorem wE (hr:HR B G γ h c w) (hb:Keep B w0 w) {t:TypeId} {m k v:Operand} {am ak av:AV} (ho:∀ w,(execOp a.eval o).run P w=((Instr.mapUpdate t (a.eval m) (a.eval k) (a.eval v)).run P w).andThen fun _ w' => .ok .skip w')
  (hm:VR γ am (a.eval m)) (hkk:VR γ ak (a.eval k)) (hv:VR γ av (a.eval v)) (hk:KOk B G γ w0 a o.dst K Q (k7 P t am ak av h c)):o.wp P a w K Q:=by
 unfold k7 at hk
 split at hk <;> first | exact hk.elim | skip
 rename_i kt et hu
 split at hk <;> first | exact hk.elim | skip
 rename_i s b hks
 split at hk <;> first | exact hk.elim | skip
 rename_i es clock hg
 generalize hvk:a.eval k=vk at hkk ho
 cases hkk
 generalize hvm:a.eval m=vm at hm ho
 cases hm with
 | map hbp=>
   rename_i n N
   obtain ⟨p,hp,hbr⟩:=hr.live b _ hg
   rw [hbp] at hp
   injection hp with hp
   subst hp
   obtain ⟨h0,l,h1,h2⟩:=hbr
   simp only at h0 h1
   have hturn:∀ (l':Array MapEntry) (k':Nat),(∀ k,k≠n→k<w.heap.size→(w.heap.setIfInBounds n (.map l' k'))[k]?=w.heap[k]?):=fun l' k' k hne _=>by
    rw [Array.getElem?_setIfInBounds_ne (fun e=>hne e.symm)]
   have hlt:n<w.heap.size:=(Array.getElem?_eq_some_iff.1 h1).1
   have hbelow:∀ (l':Array MapEntry) (k':Nat),Keep B w0 { w with heap:=w.heap.setIfInBounds n (.map l' k') }:=fun l' k'=>
    ⟨hb.os,hb.tape,hb.output,by simpa using hb.size,fun k hk'=>by
     show (w.heap.setIfInBounds n (.map l' k'))[k]?=_
     rw [Array.getElem?_setIfInBounds_ne (show n≠k from fun e=>h0 (e ▸ hk'))]
     exact hb.block k hk'⟩
   split at hk <;> first | exact hk.elim | skip
   · rename_i hf
     rcases rF (P:=P) h2 hf with ⟨_,e2⟩ | ⟨j',a',v',e1,_⟩
     case inr=>cases e1
     refine qZ (w':={ w with heap:=w.heap.setIfInBounds n (.map (l.push { key := .string s,val:=a.eval v,born:=clock }) (clock+1)) }) ?_ (hk γ undef _ (Gm.le.refl _) (VR.tupL LR.nil) ?_ (hbelow _ _))
     · rw [ho]
       unfold Instr.mapUpdate
       have e2':=oG (P:=P) hks e2 w
       have hck:=mY (P:=P) hks false s w
       simp only [Sem.run_bind,run_underlying hu,Result.andThen_ok,m5 h1,e2',kY h1]
       erw [hck]
       simp only [Result.andThen_ok,e2',kY h1]
     · refine hr.turn hg hbp (by simp) (hturn _ _) ⟨h0,l.push { key := .string s,val:=a.eval v,born:=clock },by show (w.heap.setIfInBounds n _)[n]?=_;rw [Array.getElem?_setIfInBounds_self_of_lt hlt],?_⟩
       refine ⟨by simp [h2.1],fun i e m' g1 g2=>?_⟩
       rw [Array.toList_push] at g2
       have hll:=h2.1
       by_cases hi:i<es.length
       · rw [bG hi] at g1
         rw [bG (by omega)] at g2
         exact h2.2 i e m' g1 g2
       · rw [aP (by omega)] at g1
         rw [aP (by omega),← hll] at g2
         generalize i - es.length=j at g1 g2
         cases j with
         | zero=>
           simp at g1 g2
           subst g1 g2
           exact ⟨.v _,hv,rfl⟩
         | succ j=>simp at g1
   · rename_i i av' hf
     rcases rF (P:=P) h2 hf with ⟨e1,_⟩ | ⟨j',a',v',e1,e2,e3,e4,e,m',g1,g2,g3,g4⟩
     · cases e1
     injection e1 with e1
     injection e1 with e1 e5
     subst e1 e5
     rw [Nat.sub_zero] at g1 g2
     have hli:l[i]?=some m':=by simpa using g2
     refine qZ (w':={ w with heap:=w.heap.setIfInBounds n (.map (l.modify i fun e=>{ e with key := .string s,val:=a.eval v }) clock) }) ?_ (hk γ undef _ (Gm.le.refl _) (VR.tupL LR.nil) ?_ (hbelow _ _))
     · rw [ho]
       unfold Instr.mapUpdate
       have e2':=oG (P:=P) hks e2 w
       have hck:=mY (P:=P) hks false s w
       have hkeep:(Instr.keyThatStays (.string s) (.string s)).run P w = .ok (.string s) w:=by
        unfold Instr.keyThatStays
        have:Instr.sameBits 10000 (.string s) (.string s)=true:=by
         have e:Instr.sameBits 10000 (.string s) (.string s)=(s==s):=rfl
         rw [e,wO]
         simp
        rw [if_pos this]
        rfl
       simp only [Sem.run_bind,run_underlying hu,Result.andThen_ok,m5 h1,e2',hli,aL,bT,g3,hkeep,kY h1]
       erw [hck]
       simp only [Result.andThen_ok,e2',hli,aL,bT,g3,Sem.run_bind,hkeep,kY h1]
     · refine hr.turn hg hbp (by simp) (hturn _ _) ⟨h0,l.modify i fun e=>{ e with key := .string s,val:=a.eval v },by show (w.heap.setIfInBounds n _)[n]?=_;rw [Array.getElem?_setIfInBounds_self_of_lt hlt],?_⟩
       rw [Array.toList_modify]
       exact aEf hv h2 ⟨m',g2,g3⟩
end
end Go.Sy
end
end
section
noncomputable section
namespace Go.Sy
open Go Go.RowKit
section
variable {P:Program} {B:Nat→Prop} {G:Nat} {γ:Gm} {h:Hp} {c:Nat} {w w0:World} {o:Oper} {a:Act} {K:Act→World→Prop} {Q:Exit→Act→World→Prop}
theorem HR.allocDrew (hr:HR B G γ h c w) (ob:Obj) (N:Nat) (blk:Blk) (hb:BR B (γ.upd c (w.heap.size,N)) blk (w.heap.size,N) (w.drew.alloc ob)):
  HR B G (γ.upd c (w.heap.size,N)) (h.put c (some blk)) (c+1) (w.drew.alloc ob):=
 hr.add _ blk (by show w.heap.size≤(w.heap.push ob).size;rw [Array.size_push];omega) (fun b blk' p h1 h2=>by
  obtain ⟨q,hq,hbr⟩:=hr.live b blk' h1
  obtain rfl:q=p:=by rw [hq] at h2;injection h2
  have:=hbr.lt
  exact ⟨heap_alloc_old w.drew ob q.1 hbr.lt,by simp;omega⟩) hb
def uG (P:Program) (ts:List TypeId) (s x:AV) (h:Hp) (c:Nat):R1:=match ts with
 | [t,t2]=>match Nat.beq t t2,P.underlying t with
   | true,some (.slice e)=>match P.info? e with
     | some i=>match i.zero with
       | some z=>match Nat.beq z.cells.size i.size,Nat.blt 0 i.size,Nat.blt 0 i.bytes with
         | true,true,true=>match s,nS h i.size x with
           | .sl b off 0 0,some (m,l)=>match Nat.ble (Nat.mul m i.bytes) 140737488355328,m with
             | true,Nat.succ k => .val (.slg c 0 (Nat.succ k) i.size) (h.put c (some (.cells e true true false (Nat.mul (Nat.succ k) i.size) (d6 .leaf 0 l)))) (Nat.succ c)
             | true,0 => .val (.sl b off 0 0) h c
             | _,_ => .fail
           | _,_ => .fail
         | _,_,_ => .fail
       | none => .fail
     | none => .fail
   | _,_ => .fail
 | _ => .fail
theorem aIb (hr:HR B G γ h c w) (hb:Keep B w0 w) {s x:Operand} {ts:Array TypeId} {aS ax:AV} (ho:o.op = .call { callee := .builtin .append,args:=#[s,x],argTypes:=ts })
  (hs:VR γ aS (a.eval s)) (hx:VR γ ax (a.eval x)) (hk:KOk B G γ w0 a o.dst K Q (uG P ts.toList aS ax h c)):o.wp P a w K Q:=by
 unfold uG at hk
 split at hk <;> first | exact hk.elim | skip
 rename_i t t2 hts
 split at hk <;> first | exact hk.elim | skip
 rename_i e htt hu
 have htt:t=t2:=by simpa using htt
 subst htt
 have hts':ts=#[t,t]:=by apply Array.ext';simpa using hts
 subst hts'
 split at hk <;> first | exact hk.elim | skip
 rename_i i hi
 split at hk <;> first | exact hk.elim | skip
 rename_i z hz
 split at hk <;> first | exact hk.elim | skip
 rename_i e1 e2 e3
 have e1:z.cells.size=i.size:=by simpa using e1
 have e2:=cI e2
 have e3:=cI e3
 split at hk <;> first | exact hk.elim | skip
 rename_i b off m l hsrc
 have hml:maxLen=9223372036854775807:=rfl
 have hop:∀ {v':Value} {w':World},(Builtin.append_ #[t,t] o.type #[a.eval s,a.eval x]).run P w = .ok v' w'→(execOp a.eval o).run P w = .ok (.value v') w':=by
  intro v' w' hrun
  unfold execOp
  simp only [ho,resolve,invoke,builtin,Sem.run_bind,Sem.run_pure,Result.andThen_ok,List.map_toArray,List.map_cons,List.map_nil,hrun]
 generalize hvs:a.eval s=vs at hs
 rw [hvs] at hop
 cases hs with
 | sl hbp hlc=>
   rename_i n N
   split at hk <;> first | exact hk.elim | skip
   · rename_i k e4
     have e4:(k+1)*i.bytes≤140737488355328:=aN e4
     obtain ⟨A,k2,news,⟨hxe,hl,hln,hA⟩ | ⟨_,_,hm0,_⟩⟩:=kX hr hx hsrc
     case inr=>omega
     have hln':news.length=(k+1)*i.size:=hln
     have hpos:0<(k+1)*i.size:=Nat.mul_pos (by omega) e2
     obtain ⟨ad,rfl,hcell⟩:=hA hpos
     have hk63:k+1≤140737488355328:=by
      have:(k+1)*1≤(k+1)*i.bytes:=Nat.mul_le_mul_left _ e3
      omega
     have hrun:=run_append_grow (P:=P) (w:=w) t o.type e i z hu hi hz ⟨n,off,none⟩ 0 0 [] (by simp) (fun j v hj=>by simp at hj) ad (k+1) k2 news hln' hcell (by omega) (by omega) (by
      rw [bH,nextslicecap_zero (by omega)];omega)
     simp only [bH] at hrun
     rw [hxe] at hop
     have hge:=grownCap_ge w (k+1) 0 e
     have hcm:grownCap w (k+1) 0 e≤maxLen:=grownCap_le_maxLen w (k+1) 0 e (by omega)
     generalize grownCap w (k+1) 0 e=cap at hrun hge hcm
     have hle:=Gm.upd_le (hr.fresh c (aH _)) (w.heap.size,cap*i.size)
     refine dM (hop hrun) (hk (γ.upd c (w.heap.size,cap*i.size)) _ _ hle (.slg (Gm.upd_same _ _ _) hge hcm (fun _=>⟨rfl,by simp⟩)) ?_ (hb.drew.alloc (by exact hr.base) _))
     have hcsz:(([]:List Value).toArray++news.toArray++Builtin.zeroCells z.cells (cap - (k+1))).size=cap*i.size:=by
      simp only [Array.size_append,List.size_toArray,aD,size_zeroCells,e1,hln']
      rw [bH,← bD]
      congr 1
      omega
     refine hr.allocDrew _ _ _ ⟨fun _=>hr.new,_,_,(0,0),heap_alloc_new w.drew _,hcsz,⟨fun _=>⟨rfl,rfl⟩,fun e=>(by cases e)⟩,fun j av hj hav=>?_⟩
     have hll:=hl.1
     have hj':j<(k+1)*i.size:=hj
     rw [f0,if_pos ⟨by omega,by omega⟩] at hav
     obtain ⟨u,h5,h6⟩:=hl.get (by simpa using hav)
     refine ⟨u,?_,h6.mono hle⟩
     rw [Array.getElem?_append_left (by simp;omega)]
     simpa using h5
   · obtain ⟨A,k,news,⟨hxe,_⟩ | ⟨k1,hxe,_⟩⟩:=kX hr hx hsrc
     all_goals
      rw [hxe] at hop
      have hld:∀ a:Addr,(loadCells a 0).run P w = .ok #[] w:=fun a=>rfl
      refine dM (hop (v' := .slice (some ⟨n,off,none⟩) 0 0) (w':=w) ?_) (hk γ _ w (Gm.le.refl _) (.sl hbp (aH _)) hr hb)
     · cases A <;> simp [Builtin.append_,run_underlying hu,sizeOf,typeInfo,hi,Builtin.lenOf,Builtin.firstCells,storeCells,hld]
     · simp [Builtin.append_,run_underlying hu,sizeOf,typeInfo,hi,Builtin.lenOf,Builtin.firstCells,storeCells,hld]
theorem aKs (t u ty e:TypeId) (k:IntKind) (z:Value) (i:TypeInfo) (ht:P.underlying t=some (.slice e)) (hu:P.underlying u=some (.int k))
  (hi:P.info? e=some i) (hz:i.zero=some z) (hzs:z.cells.size=i.size) (hsz:0<i.size) (hby:0<i.bytes) (n:Nat) (h0:0<n) (hb:n*i.bytes≤140737488355328):
  ∃ cs:Array Value,∃ cap,(Builtin.append_ #[t,u] ty #[.slice none 0 0,.int .i64 (n:Int)]).run P w = .ok (.slice (some ⟨w.heap.size,0,none⟩) n cap) (w.drew.alloc (.cells cs e))∧n≤cap∧cap≤maxLen∧cs.size=cap*i.size:=by
 have h1:n*1≤n*i.bytes:=Nat.mul_le_mul_left _ hby
 have hml:maxLen=9223372036854775807:=rfl
 have hn:n≠0:=by omega
 have hw:IntKind.i64.wrap (n:Int)=n:=by rw [IntKind.wrap_i64];omega
 have h63':¬ (9223372036854775807<(n:Int)):=by omega
 have h48':¬ (281474976710656<Builtin.nextslicecap n 0*i.bytes):=by rw [nextslicecap_zero h0];omega
 have hneg:¬ ((n:Int)<0):=by omega
 have hbig:¬ (281474976710656<(n:Int)*i.bytes):=by
  have:((n*i.bytes:Nat):Int)≤140737488355328:=by omega
  rw [Int.natCast_mul] at this;omega
 have hns:n*i.size≠0:=by
  intro e
  rcases Nat.mul_eq_zero.1 e with e | e <;> omega
 have hge:=grownCap_ge w n 0 e
 have hcm:grownCap w n 0 e≤maxLen:=grownCap_le_maxLen w n 0 e (by omega)
 refine ⟨Builtin.zeroCells z.cells n++Builtin.zeroCells z.cells (grownCap w n 0 e - n),grownCap w n 0 e,?_,hge,hcm,?_⟩
 · simp [Builtin.append_,run_underlying ht,run_underlying hu,asInt,asIntOf,sizeOf,typeInfo,zeroValue,hi,hz,Builtin.lenOf,hn,hw,h63',h48',hneg,hbig,hns,Question.forced,run_firstCells_none,newRow,grownCap]
 · simp only [Array.size_append,size_zeroCells,hzs,← bD]
   congr 1
   omega
def u7 (P:Program) (ts:List TypeId) (s x:AV) (h:Hp) (c:Nat):R1:=match ts with
 | [t,u]=>match P.underlying u,P.underlying t with
   | some (.int _),some (.slice e)=>match P.info? e with
     | some i=>match i.zero with
       | some z=>match Nat.beq z.cells.size i.size,Nat.blt 0 i.size,Nat.blt 0 i.bytes with
         | true,true,true=>match s,x with
           | .v (.slice none 0 0),.v (.int .i64 (.ofNat n))=>match Nat.blt 0 n,Nat.ble (Nat.mul n i.bytes) 140737488355328 with
             | true,true => .val (.slg c 0 n i.size) (h.put c (some (.cells e true true false 0 .leaf))) (Nat.succ c)
             | _,_ => .fail
           | _,_ => .fail
         | _,_,_ => .fail
       | none => .fail
     | none => .fail
   | _,_ => .fail
 | _ => .fail
theorem aIa (hr:HR B G γ h c w) (hb:Keep B w0 w) {s x:Operand} {ts:Array TypeId} {aS ax:AV} (ho:o.op = .call { callee := .builtin .append,args:=#[s,x],argTypes:=ts })
  (hs:VR γ aS (a.eval s)) (hx:VR γ ax (a.eval x)) (hk:KOk B G γ w0 a o.dst K Q (u7 P ts.toList aS ax h c)):o.wp P a w K Q:=by
 unfold u7 at hk
 split at hk <;> first | exact hk.elim | skip
 rename_i t u hts
 have hts':ts=#[t,u]:=by apply Array.ext';simpa using hts
 subst hts'
 split at hk <;> first | exact hk.elim | skip
 rename_i kk e huu hu
 split at hk <;> first | exact hk.elim | skip
 rename_i i hi
 split at hk <;> first | exact hk.elim | skip
 rename_i z hz
 split at hk <;> first | exact hk.elim | skip
 rename_i e1 e2 e3
 have e1:z.cells.size=i.size:=by simpa using e1
 split at hk <;> first | exact hk.elim | skip
 rename_i n
 split at hk <;> first | exact hk.elim | skip
 rename_i e4 e5
 have e5:n*i.bytes≤140737488355328:=aN e5
 generalize hvs:a.eval s=vs at hs
 generalize hvx:a.eval x=vx at hx
 cases hs
 cases hx
 obtain ⟨cs,cap,hrun,h1,h2,h3⟩:=aKs (P:=P) (w:=w) t u o.type e kk z i hu huu hi hz e1 (cI e2) (cI e3) n (cI e4) e5
 have hle:=Gm.upd_le (hr.fresh c (aH _)) (w.heap.size,cap*i.size)
 refine dM ?_ (hk (γ.upd c (w.heap.size,cap*i.size)) _ _ hle (.slg (Gm.upd_same _ _ _) h1 h2 (fun _=>⟨rfl,by simp⟩)) (hr.allocDrew _ _ _ ⟨fun _=>hr.new,cs,_,(0,0),heap_alloc_new w.drew _,h3,⟨fun _=>⟨rfl,rfl⟩,fun e=>(by cases e)⟩,fun j av hj=>absurd hj (by omega)⟩) (hb.drew.alloc (by exact hr.base) _))
 unfold execOp
 simp only [ho,resolve,invoke,builtin,Sem.run_bind,Sem.run_pure,Result.andThen_ok,List.map_toArray,List.map_cons,List.map_nil,hvs,hvx]
 have hrun':(Builtin.append_ #[t,u] o.type #[.slice none 0 0,.int .i64 (Int.ofNat n)]).run P w=_:=hrun
 rw [hrun']
 rfl
end
def tI (P:Program) (t:TypeId) (name:String):Option FuncId:=match P.info? t with
 | none=>none
 | some i=>match i.methods.find? (·.name==name) with
   | none=>none
   | some m=>match m.func,m.path.toList,P.underlying t with
     | some (f,true),[],some (.pointer _)=>some f
     | some (_,false),[],some (.pointer _)=>none
     | some (f,false),[],some _=>some f
     | _,_,_=>none
theorem uS {P:Program} {t:TypeId} {name:String} {f:FuncId} (h:tI P t name=some f) (v:Value) (args:Array Value) (w:World):
  (callMethod (.iface t v) name args).run P w=(callFunc f (#[v]++args)).run P w:=by
 unfold tI at h
 split at h
 · cases h
 rename_i i hi
 split at h
 · cases h
 rename_i m hm
 have hmeth:(method (P.types.size+99+1) t v name).run P w = .ok (f,v) w:=by
  unfold method
  rw [Sem.run_bind]
  have hti:(typeInfo t).run P w = .ok i w:=by simp [typeInfo,hi]
  rw [hti,Result.andThen_ok]
  simp only [hm]
  split at h <;> first | (cases h;done) | skip
  · rename_i f' e' h1 h2 h3
    injection h with h
    subst h
    simp [h1,h2,follow,receiverAt,run_underlying h3,Place.get]
  · rename_i f' d hnp h1 h2 h3
    injection h with h
    subst h
    simp only [h1,h2,follow,Sem.run_bind,Sem.run_pure,Result.andThen_ok,receiverAt,run_underlying h3]
    cases d <;> first | rfl | (exact (hnp _ rfl).elim)
 unfold callMethod
 have e:P.types.size+Made.depth=P.types.size+99+1:=rfl
 simp only [Sem.run_bind,run_program,Result.andThen_ok,e,hmeth]
end Go.Sy
end
end
section
noncomputable section
namespace Go.Sy
open Go Go.RowKit
def intEq (a b:Int):Bool:=Int.casesOn (motive:=fun _=>Bool) a (fun m=>Int.casesOn (motive:=fun _=>Bool) b (fun n=>Nat.beq m n) (fun _=>false)) (fun m=>Int.casesOn (motive:=fun _=>Bool) b (fun _=>false) (fun n=>Nat.beq m n))
def intLt (a b:Int):Bool:=Int.casesOn (motive:=fun _=>Bool) a (fun m=>Int.casesOn (motive:=fun _=>Bool) b (fun n=>Nat.ble (Nat.succ m) n) (fun _=>false)) (fun m=>Int.casesOn (motive:=fun _=>Bool) b (fun _=>true) (fun n=>Nat.ble (Nat.succ n) m))
theorem intEq_eq (a b:Int):intEq a b=decide (a=b):=by
 cases a with
 | ofNat m=>
   cases b with
   | ofNat n=>
     show Nat.beq m n=_
     rw [Bool.eq_iff_iff]
     simp [Nat.beq_eq]
     omega
   | negSucc n=>
     show false=_
     simp
 | negSucc m=>
   cases b with
   | ofNat n=>
     show false=_
     simp
   | negSucc n=>
     show Nat.beq m n=_
     rw [Bool.eq_iff_iff]
     simp [Nat.beq_eq]
theorem intLt_eq (a b:Int):intLt a b=decide (a<b):=by
 cases a with
 | ofNat m=>
   cases b with
   | ofNat n=>
     show Nat.ble (Nat.succ m) n=_
     rw [Bool.eq_iff_iff]
     simp
     omega
   | negSucc n=>
     show false=_
     symm
     rw [decide_eq_false_iff_not]
     have h1:=Int.negSucc_lt_zero n
     have h2:(0:Int)≤Int.ofNat m:=Int.natCast_nonneg m
     omega
 | negSucc m=>
   cases b with
   | ofNat n=>
     show true=_
     symm
     rw [decide_eq_true_iff]
     have h1:=Int.negSucc_lt_zero m
     have h2:(0:Int)≤Int.ofNat n:=Int.natCast_nonneg n
     omega
   | negSucc n=>
     show Nat.ble (Nat.succ n) m=_
     rw [Bool.eq_iff_iff]
     simp
     omega
def fits (k:IntKind) (n:Int):Bool:=Int.casesOn (motive:=fun _=>Bool) n (fun m=>Nat.ble m (IntKind.casesOn (motive:=fun _=>Nat) k 127 32767 2147483647 9223372036854775807 255 65535 4294967295 18446744073709551615)) (fun _=>false)
theorem aMl {k:IntKind} {n:Int} (h:fits k n=true):k.wrap n=n:=by
 cases n with
 | negSucc m=>cases h
 | ofNat m=>
   have h:Nat.ble m _=true:=h
   rw [Nat.ble_eq] at h
   cases k <;> simp only at h <;> simp [IntKind.wrap,IntKind.bits,IntKind.signed] <;> omega
def cA (k:IntKind) (n:Int):Int:=Bool.casesOn (motive:=fun _=>Int) (fits k n) (k.wrap n) n
theorem aG2 (k:IntKind) (n:Int):cA k n=k.wrap n:=by
 unfold cA
 cases h:fits k n with
 | false=>rfl
 | true=>exact (aMl h).symm
def aBm (k:IntKind):Nat:=IntKind.casesOn (motive:=fun _=>Nat) k 0 1 2 3 4 5 6 7
theorem aMw {k k':IntKind} (h:Nat.beq (aBm k) (aBm k')=true):k=k':=by cases k <;> cases k' <;> first | rfl | cases h
def bEqL (x:List UInt8):List UInt8→Bool:=List.rec (motive:=fun _=>List UInt8→Bool) (fun r=>List.casesOn (motive:=fun _=>Bool) r true (fun _ _=>false))
 (fun a _ ih r=>List.casesOn (motive:=fun _=>Bool) r false (fun b r'=>Bool.casesOn (motive:=fun _=>Bool) (Nat.beq a.toNat b.toNat) false (ih r'))) x
theorem bEqL_eq:∀ (x y:List UInt8),bEqL x y=(x==y)
 | [],[]=>rfl
 | [],_::_=>rfl
 | _::_,[]=>rfl
 | a::x,b::y=>by
   show Bool.casesOn (motive:=fun _=>Bool) (Nat.beq a.toNat b.toNat) false (bEqL x y)=_
   rw [bEqL_eq x y]
   rw [List.cons_beq_cons]
   cases h:Nat.beq a.toNat b.toNat with
   | true=>
     have:=aV h
     have:=UInt8.toNat_inj.1 this
     subst this
     simp
   | false=>
     have:=Nat.ne_of_beq_eq_false h
     have hne:(a==b)=false:=by
      rw [beq_eq_false_iff_ne]
      exact fun e=>this (by rw [e])
     rw [hne]
     rfl
def aJ9 (op:BinOp):IntKind→Int→Int→Option Value:=by
 induction op
 case add=>exact fun k x y=>some (.int k (cA k (x+y)))
 case sub=>exact fun k x y=>some (.int k (cA k (x - y)))
 case mul=>exact fun k x y=>some (.int k (cA k (x*y)))
 case eql=>exact fun _ x y=>some (.bool (intEq x y))
 case neq=>exact fun _ x y=>some (.bool (not (intEq x y)))
 case lss=>exact fun _ x y=>some (.bool (intLt x y))
 case leq=>exact fun _ x y=>some (.bool (not (intLt y x)))
 case gtr=>exact fun _ x y=>some (.bool (intLt y x))
 case geq=>exact fun _ x y=>some (.bool (not (intLt x y)))
 all_goals exact fun _ _ _=>none
def aJx (op:BinOp):ByteArray→ByteArray→Option Value:=by
 induction op
 case add=>exact fun x y=>match Nat.ble (Nat.add x.data.toList.length y.data.toList.length) 4611686018427387904 with
  | true=>some (.string (x++y))
  | false=>none
 case eql=>exact fun x y=>some (.bool (bEqL x.data.toList y.data.toList))
 case neq=>exact fun x y=>some (.bool (not (bEqL x.data.toList y.data.toList)))
 all_goals exact fun _ _=>none
def aFs (op:BinOp) (a b:AV):Option AV:=match a with
 | .v x=>match b with
   | .v y=>match x with
     | .int k m=>match y with
       | .int k' n=>match Nat.beq (aBm k) (aBm k') with
         | true=>match aJ9 op k m n with
           | some r=>some (.v r)
           | none=>none
         | false=>none
       | _=>none
     | .string s=>match y with
       | .string t=>match aJx op s t with
         | some r=>some (.v r)
         | none=>none
       | _=>none
     | _=>none
   | _=>none
 | _=>none
theorem aKq {P:Program} {op:BinOp} {t:TypeId} {k:IntKind} {x y:Int} {r:Value} (h:aJ9 op k x y=some r) (w:World):(binOp op t (.int k x) (.int k y)).run P w = .ok r w:=by
 cases op <;> first | (cases h;done) | skip
 all_goals
  have h:=Option.some.inj h
  subst h
  simp [binOp,Op.intArith,Op.intCmp,aG2,intEq_eq,intLt_eq]
  try first
   | rfl
   | (rw [Bool.eq_iff_iff];simp;done)
theorem aLp {P:Program} {op:BinOp} {t:TypeId} {x y:ByteArray} {r:Value} (h:aJx op x y=some r) (w:World):(binOp op t (.string x) (.string y)).run P w = .ok r w:=by
 cases op <;> first | (cases h;done) | skip
 · have h:(match Nat.ble (Nat.add x.data.toList.length y.data.toList.length) 4611686018427387904 with
    | true=>some (Value.string (x++y))
    | false=>none)=some r:=h
   split at h <;> first | (cases h;done) | skip
   rename_i hb
   have h:=Option.some.inj h
   subst h
   have hb:x.size+y.size≤4611686018427387904:=by
    have:=aN hb
    have e1:x.data.toList.length=x.size:=Array.length_toList
    have e2:y.data.toList.length=y.size:=Array.length_toList
    rw [e1,e2] at this
    exact this
   have hn:¬ (((x.size+y.size:Nat):Int) > IntKind.i64.max):=by
    have e:IntKind.i64.max=9223372036854775807:=by decide
    rw [e]
    omega
   simp only [binOp,Op.stringOp,if_neg hn]
   rfl
 all_goals
  have h:=Option.some.inj h
  subst h
  simp [binOp,Op.stringOp,bEqL_eq,ByteArray.toList_eq]
theorem aQk {P:Program} {γ:Gm} {op:BinOp} {t:TypeId} {a b:AV} {x y:Value} {r:AV} (hx:VR γ a x) (hy:VR γ b y) (h:aFs op a b=some r) (ox oy:Operand):
  ∃ v,VR γ r v∧∀ w,(do eqGuard op t ox oy x y;binOp op t x y:Sem Value).run P w = .ok v w:=by
 unfold aFs at h
 split at h <;> first | (cases h;done) | skip
 split at h <;> first | (cases h;done) | skip
 cases hx
 cases hy
 split at h <;> first | (cases h;done) | skip
 · split at h <;> first | (cases h;done) | skip
   split at h <;> first | (cases h;done) | skip
   rename_i hk
   have hk:=aMw hk
   subst hk
   split at h <;> first | (cases h;done) | skip
   rename_i v hv
   injection h with h
   subst h
   exact ⟨v,.v v,fun w=>eqG (by cases op <;> rfl) (aKq hv w)⟩
 · split at h <;> first | (cases h;done) | skip
   split at h <;> first | (cases h;done) | skip
   rename_i v hv
   injection h with h
   subst h
   exact ⟨v,.v v,fun w=>eqG (by cases op <;> rfl) (aLp hv w)⟩
end Go.Sy
end
end
section
noncomputable section
namespace Go.Sy
open Go Go.RowKit
def vJ (P:Program) (T:Tr AV):Option Operand→Option (Option AV)
 | none=>some none
 | some x=>match aev P T x with
   | none=>none
   | some a=>some (some a)
def dE (x:Option AV) (y:Option AV):Option AV:=match x with
 | some a=>some a
 | none=>y
def aEj (P:Program) (T:Tr AV) (o:Oper):Option AV:=match o.op with
 | .move x=>aev P T x
 | .assign x=>aev P T x
 | .pick c x y=>match aev P T c with
   | some (.v (.bool true))=>aev P T x
   | some (.v (.bool false))=>aev P T y
   | _=>none
 | .build t parts=>match mZ P T parts.toList with
   | none=>none
   | some ps=>aCh P t ps
 | .nilCheck x=>match aev P T x with
   | none=>none
   | some a=>dE (yH a) (cC P T o)
 | .makeInterface t x=>match aev P T x with
   | none=>none
   | some a=>k6 P t a
 | .makeFunc f first cap=>match kT P T first.toList,kT P T cap.toList with
   | some l,some r=>some (.fn f l r)
   | _,_=>none
 | .fieldAddr s x f=>match aev P T x with
   | none=>none
   | some a=>dE (pU P s a f) (cC P T o)
 | .field t x f=>match aev P T x with
   | none=>none
   | some a=>aCq P t a f
 | .indexAddr t x i=>match aev P T x,aev P T i with
   | some a,some b=>pV P t a b
   | _,_=>none
 | .index t x i=>match aev P T x,aev P T i with
   | some a,some b=>dE (aB8 P t a b) (cC P T o)
   | _,_=>none
 | .extract x i=>match aev P T x with
   | none=>none
   | some a=>uJ a i
 | .typeAssert x xT asd ok=>match aev P T x with
   | none=>none
   | some a=>dE (oE P a asd ok) (cC P T o)
 | .slice t x lo hi mx=>match aev P T x,vJ P T lo,vJ P T hi,vJ P T mx with
   | some a,some l,some h,some m=>dE (aCu P t a l h m) (cC P T o)
   | _,_,_,_=>none
 | .binOp op t x y _=>match aev P T x,aev P T y with
   | some a,some b=>dE (aFs op a b) (dE (aLi P op t a b) (dE (aCz P op t a b) (cC P T o)))
   | _,_=>none
 | .unOp _ _ _=>cC P T o
 | .convert _ _ _=>cC P T o
 | .call c=>match c.callee,c.args.toList with
   | .builtin .len,[x]=>match aev P T x with
     | none=>none
     | some a=>dE (aMi P c.argTypes a) (cC P T o)
   | .builtin .cap,[x]=>match aev P T x with
     | none=>none
     | some a=>dE (aLl P c.argTypes a) (cC P T o)
   | .builtin .min,_=>cC P T o
   | .builtin .max,_=>cC P T o
   | .builtin .unsafeSliceData,[x]=>match aev P T x with
     | none=>none
     | some a=>dE (pH a) (cC P T o)
   | _,_=>none
 | _=>none
def aMt (op:Op):Program→Tr AV→Oper→Option AV:=by
 induction op
 case move x=>exact fun P T o=>aev P T x
 case assign x=>exact fun P T o=>aev P T x
 case pick c x y=>exact fun P T o=>match aev P T c with
  | some (.v (.bool true))=>aev P T x
  | some (.v (.bool false))=>aev P T y
  | _=>none
 case build t parts=>exact fun P T o=>match mZ P T parts.toList with
  | none=>none
  | some ps=>aCh P t ps
 case nilCheck x=>exact fun P T o=>match aev P T x with
  | none=>none
  | some a=>dE (yH a) (cC P T o)
 case makeInterface t x=>exact fun P T o=>match aev P T x with
  | none=>none
  | some a=>k6 P t a
 case makeFunc f first cap=>exact fun P T o=>match kT P T first.toList,kT P T cap.toList with
  | some l,some r=>some (.fn f l r)
  | _,_=>none
 case fieldAddr s x f=>exact fun P T o=>match aev P T x with
  | none=>none
  | some a=>dE (pU P s a f) (cC P T o)
 case field t x f=>exact fun P T o=>match aev P T x with
  | none=>none
  | some a=>aCq P t a f
 case indexAddr t x i=>exact fun P T o=>match aev P T x,aev P T i with
  | some a,some b=>pV P t a b
  | _,_=>none
 case index t x i=>exact fun P T o=>match aev P T x,aev P T i with
  | some a,some b=>dE (aB8 P t a b) (cC P T o)
  | _,_=>none
 case extract x i=>exact fun P T o=>match aev P T x with
  | none=>none
  | some a=>uJ a i
 case typeAssert x xT asd ok=>exact fun P T o=>match aev P T x with
  | none=>none
  | some a=>dE (oE P a asd ok) (cC P T o)
 case slice t x lo hi mx=>exact fun P T o=>match aev P T x,vJ P T lo,vJ P T hi,vJ P T mx with
  | some a,some l,some h,some m=>dE (aCu P t a l h m) (cC P T o)
  | _,_,_,_=>none
 case binOp op t x y _=>exact fun P T o=>match aev P T x,aev P T y with
  | some a,some b=>dE (aFs op a b) (dE (aLi P op t a b) (dE (aCz P op t a b) (cC P T o)))
  | _,_=>none
 case unOp _ _ _=>exact fun P T o=>cC P T o
 case convert _ _ _=>exact fun P T o=>cC P T o
 case call c=>exact fun P T o=>match c.callee,c.args.toList with
  | .builtin .len,[x]=>match aev P T x with
    | none=>none
    | some a=>dE (aMi P c.argTypes a) (cC P T o)
  | .builtin .cap,[x]=>match aev P T x with
    | none=>none
    | some a=>dE (aLl P c.argTypes a) (cC P T o)
  | .builtin .min,_=>cC P T o
  | .builtin .max,_=>cC P T o
  | .builtin .unsafeSliceData,[x]=>match aev P T x with
    | none=>none
    | some a=>dE (pH a) (cC P T o)
  | _,_=>none
 all_goals exact fun _ _ _=>none
def l7 (P:Program) (T:Tr AV) (o:Oper):Option AV:=aMt o.op P T o
theorem aIs (P:Program) (T:Tr AV) (o:Oper):l7 P T o=aEj P T o:=by
 obtain ⟨dst,op,ty,pos,aft,g⟩:=o
 cases op <;> first | rfl | (rename_i r;cases r <;> rfl)
section
variable {P:Program} {γ:Gm} {T:Tr AV} {a:Act} {o:Oper}
theorem fK {x y:Option AV} {r:AV} (h:dE x y=some r):x=some r∨y=some r:=by
 unfold dE at h
 split at h
 · exact .inl h
 · exact .inr h
theorem aDx {l:List Operand} (ho:Ok P γ T a l) {x:Option Operand} (hx:∀ y,x=some y→y∈l) {r:Option AV} (h:vJ P T x=some r):OVR γ r (x.map a.eval):=by
 cases x with
 | none=>simp [vJ] at h;subst h;trivial
 | some y=>
   simp only [vJ] at h
   split at h
   · cases h
   · rename_i b hb
     injection h with h
     subst h
     exact ho y (hx y rfl) b hb
theorem f9 {s:Sem Value} {v:Value} {w w':World} (h:s.run P w = .ok v w'):(do pure (.value (← s)):Sem Next).run P w = .ok (.value v) w':=by
 rw [Sem.run_bind,h]
 rfl
theorem oC {av:AV} (ho:Ok P γ T a o.op.operands.toList) (h:l7 P T o=some av):∃ v,VR γ av v∧∀ w,(execOp a.eval o).run P w = .ok (.value v) w:=by
 rw [aIs] at h
 unfold aEj at h
 split at h
 ·
  rename_i x hop
  exact ⟨_,ho x (by simp [hop,Op.operands]) _ h,fun w=>by unfold execOp;rw [hop];rfl⟩
 ·
  rename_i x hop
  exact ⟨_,ho x (by simp [hop,Op.operands]) _ h,fun w=>by unfold execOp;rw [hop];rfl⟩
 ·
  rename_i c x y hop
  split at h <;> first | (cases h;done) | skip
  all_goals
   rename_i hc
   have hc':=ho c (by simp [hop,Op.operands]) _ hc
   generalize hcv:a.eval c=vc at hc'
   cases hc'
  · exact ⟨_,ho x (by simp [hop,Op.operands]) _ h,fun w=>by unfold execOp;rw [hop];simp [hcv,asBool]⟩
  · exact ⟨_,ho y (by simp [hop,Op.operands]) _ h,fun w=>by unfold execOp;rw [hop];simp [hcv,asBool]⟩
 ·
  rename_i t parts hop
  split at h
  · cases h
  rename_i ps hps
  have hok:Ok P γ T a (parts.toList.map (·.2)):=fun x hx=>ho x (by
   have:o.op.operands.toList=parts.toList.map (·.2):=by rw [hop];simp [Op.operands]
   rw [this];exact hx)
  obtain ⟨h1,h2⟩:=wN hok hps
  obtain ⟨v,h3,h4⟩:=aM0 (qs:=parts.map fun (i,x)=>(i,a.eval x)) (by simpa using h1) (by simpa using h2) h
  exact ⟨v,h3,fun w=>by unfold execOp;rw [hop];exact f9 (h4 w)⟩
 ·
  rename_i x hop
  split at h
  · cases h
  rename_i b hb
  rcases fK h with h | h
  · have hx:=ho x (by simp [hop,Op.operands]) _ hb
    unfold yH at h
    split at h <;> first | (cases h;done) | skip
    all_goals
     injection h with h
     subst h
     generalize hcv:a.eval x=vx at hx
     cases hx
     first
      | exact ⟨_,.ptr (by assumption),fun w=>by unfold execOp;rw [hop];simp [hcv]⟩
      | exact ⟨_,.fn (by assumption) (by assumption) (by assumption) (by assumption),fun w=>by unfold execOp;rw [hop];simp [hcv]⟩
      | exact ⟨_,.ifc (by assumption),fun w=>by unfold execOp;rw [hop];simp [hcv]⟩
  · exact dI ho h
 ·
  rename_i t x hop
  split at h
  · cases h
  rename_i b hb
  obtain ⟨v,h3,h4⟩:=zO (ho x (by simp [hop,Op.operands]) _ hb) h
  exact ⟨v,h3,fun w=>by unfold execOp;rw [hop];exact f9 (h4 w)⟩
 ·
  rename_i f first cap hop
  split at h <;> first | (cases h;done) | skip
  rename_i l r hl hr
  injection h with h
  subst h
  have h1:=jD (a:=a) (fun x hx=>ho x (by simp [hop,Op.operands] at hx ⊢;exact .inl hx)) hl
  have h2:=jD (a:=a) (fun x hx=>ho x (by simp [hop,Op.operands] at hx ⊢;exact .inr hx)) hr
  refine ⟨.func f (first.map a.eval) (cap.map a.eval),.fn (by simpa using h1.1) (fun i b y e1 e2=>h1.2 i b y e1 (by simpa using e2)) (by simpa using h2.1) (fun i b y e1 e2=>h2.2 i b y e1 (by simpa using e2)),fun w=>?_⟩
  unfold execOp
  rw [hop]
  rfl
 ·
  rename_i s x f hop
  split at h
  · cases h
  rename_i b hb
  rcases fK h with h | h
  · obtain ⟨v,h3,h4⟩:=aFi (ho x (by simp [hop,Op.operands]) _ hb) h
    exact ⟨v,h3,fun w=>by unfold execOp;rw [hop];exact f9 (h4 w)⟩
  · exact dI ho h
 ·
  rename_i s x f hop
  split at h
  · cases h
  rename_i b hb
  obtain ⟨v,h3,h4⟩:=aO5 (ho x (by simp [hop,Op.operands]) _ hb) h
  exact ⟨v,h3,fun w=>by unfold execOp;rw [hop];exact f9 (h4 w)⟩
 ·
  rename_i t x i hop
  split at h <;> first | (cases h;done) | skip
  rename_i b d hb hd
  obtain ⟨v,h3,h4⟩:=aFj (ho x (by simp [hop,Op.operands]) _ hb) (ho i (by simp [hop,Op.operands]) _ hd) h
  exact ⟨v,h3,fun w=>by unfold execOp;rw [hop];exact f9 (h4 w)⟩
 ·
  rename_i t x i hop
  split at h <;> first | (cases h;done) | skip
  rename_i b d hb hd
  rcases fK h with h | h
  · obtain ⟨v,h3,h4⟩:=aO0 (ho x (by simp [hop,Op.operands]) _ hb) (ho i (by simp [hop,Op.operands]) _ hd) h
    exact ⟨v,h3,fun w=>by unfold execOp;rw [hop];exact f9 (h4 w)⟩
  · exact dI ho h
 ·
  rename_i x i hop
  split at h
  · cases h
  rename_i b hb
  obtain ⟨v,h3,h4⟩:=aIm (ho x (by simp [hop,Op.operands]) _ hb) h
  exact ⟨v,h3,fun w=>by unfold execOp;rw [hop];exact f9 (h4 w)⟩
 ·
  rename_i x xT asd ok hop
  split at h
  · cases h
  rename_i b hb
  rcases fK h with h | h
  · obtain ⟨v,h3,h4⟩:=aDg (xT:=xT) (ho x (by simp [hop,Op.operands]) _ hb) h
    exact ⟨v,h3,fun w=>by unfold execOp;rw [hop];exact f9 (h4 w)⟩
  · exact dI ho h
 ·
  rename_i t x lo hi mx hop
  split at h <;> first | (cases h;done) | skip
  rename_i b l hh m hb hl hh' hm
  rcases fK h with h | h
  · have hmem:o.op.operands.toList=[x]++lo.toList++hi.toList++mx.toList:=by rw [hop];simp [Op.operands]
    obtain ⟨v,h3,h4⟩:=aMn (ho x (by simp [hmem]) _ hb) (aDx ho (fun y hy=>by rw [hmem,hy];simp) hl) (aDx ho (fun y hy=>by rw [hmem,hy];simp) hh') (aDx ho (fun y hy=>by rw [hmem,hy];simp) hm) h
    exact ⟨v,h3,fun w=>by unfold execOp;rw [hop];exact f9 (h4 w)⟩
  · exact dI ho h
 ·
  rename_i op t x y yt hop
  split at h <;> first | (cases h;done) | skip
  rename_i b d hb hd
  rcases fK h with h | h
  · obtain ⟨v,h3,h4⟩:=aQk (ho x (by simp [hop,Op.operands]) _ hb) (ho y (by simp [hop,Op.operands]) _ hd) h x y
    exact ⟨v,h3,fun w=>by unfold execOp;rw [hop];exact f9 (h4 w)⟩
  rcases fK h with h | h
  · obtain ⟨v,h3,h4⟩:=aTk (ho x (by simp [hop,Op.operands]) _ hb) (ho y (by simp [hop,Op.operands]) _ hd) h x y
    exact ⟨v,h3,fun w=>by unfold execOp;rw [hop];exact f9 (h4 w)⟩
  rcases fK h with h | h
  · obtain ⟨v,h3,h4⟩:=aNy (ho x (by simp [hop,Op.operands]) _ hb) (ho y (by simp [hop,Op.operands]) _ hd) h x y
    exact ⟨v,h3,fun w=>by unfold execOp;rw [hop];exact f9 (h4 w)⟩
  · exact dI ho h
 · exact dI ho h
 · exact dI ho h
 ·
  rename_i c hop
  split at h
  · rename_i x hce hca
    split at h
    · cases h
    rename_i b hb
    rcases fK h with h | h
    · have hargs:c.args=#[x]:=by apply Array.ext';simpa using hca
      obtain ⟨v,h3,h4⟩:=aTn (ty:=o.type) (ho x (by rw [hop];simp [Op.operands,Call.operands,hce,hargs]) _ hb) h
      refine ⟨v,h3,fun w=>?_⟩
      unfold execOp
      rw [hop]
      simp only [resolve,hce,hargs,Sem.run_bind,Sem.run_pure,Result.andThen_ok,invoke,builtin,List.map_toArray,List.map_cons,List.map_nil,h4]
    · exact dI ho h
  · rename_i x hce hca
    split at h
    · cases h
    rename_i b hb
    rcases fK h with h | h
    · have hargs:c.args=#[x]:=by apply Array.ext';simpa using hca
      obtain ⟨v,h3,h4⟩:=aT4 (ty:=o.type) (ho x (by rw [hop];simp [Op.operands,Call.operands,hce,hargs]) _ hb) h
      refine ⟨v,h3,fun w=>?_⟩
      unfold execOp
      rw [hop]
      simp only [resolve,hce,hargs,Sem.run_bind,Sem.run_pure,Result.andThen_ok,invoke,builtin,List.map_toArray,List.map_cons,List.map_nil,h4]
    · exact dI ho h
  · exact dI ho h
  · exact dI ho h
  · rename_i x hce hca
    split at h
    · cases h
    rename_i b hb
    rcases fK h with h | h
    · have hargs:c.args=#[x]:=by apply Array.ext';simpa using hca
      obtain ⟨v,h3,h4⟩:=aE0 (P:=P) (ts:=c.argTypes) (ty:=o.type) (ho x (by rw [hop];simp [Op.operands,Call.operands,hce,hargs]) _ hb) h
      refine ⟨v,h3,fun w=>?_⟩
      unfold execOp
      rw [hop]
      simp only [resolve,hce,hargs,Sem.run_bind,Sem.run_pure,Result.andThen_ok,invoke,builtin,List.map_toArray,List.map_cons,List.map_nil,h4]
    · exact dI ho h
  · cases h
 · cases h
end
def aD7 (P:Program) (T:Tr AV) (h:Hp) (o:Oper):Option AV:=match o.op with
 | .load t x=>match aev P T x with
   | none=>none
   | some a=>lA P t a h
 | .convert src dst x=>match aev P T x with
   | none=>none
   | some a=>dE (rZ P src dst a h) (pO P src dst a h)
 | .lookup t x k ok=>match aev P T x,aev P T k with
   | some a,some b=>zE P t a b ok h
   | _,_=>none
 | _=>none
def aNk (op:Op):Program→Tr AV→Hp→Option AV:=by
 induction op
 case load t x=>exact fun P T h=>match aev P T x with
  | none=>none
  | some a=>lA P t a h
 case convert src dst x=>exact fun P T h=>match aev P T x with
  | none=>none
  | some a=>dE (rZ P src dst a h) (pO P src dst a h)
 case lookup t x k ok=>exact fun P T h=>match aev P T x,aev P T k with
  | some a,some b=>zE P t a b ok h
  | _,_=>none
 all_goals exact fun _ _ _=>none
def jT (P:Program) (T:Tr AV) (h:Hp) (o:Oper):Option AV:=aNk o.op P T h
theorem aI8 (P:Program) (T:Tr AV) (h:Hp) (o:Oper):jT P T h o=aD7 P T h o:=by
 obtain ⟨dst,op,ty,pos,aft,g⟩:=o
 cases op <;> first | rfl | (rename_i r;cases r <;> rfl)
theorem oK {P:Program} {B:Nat→Prop} {G:Nat} {γ:Gm} {T:Tr AV} {a:Act} {o:Oper} {h:Hp} {c:Nat} {w:World} {av:AV} (hr:HR B G γ h c w) (ho:Ok P γ T a o.op.operands.toList) (hh:jT P T h o=some av):
  ∃ v,VR γ av v∧(execOp a.eval o).run P w = .ok (.value v) w:=by
 rw [aI8] at hh
 unfold aD7 at hh
 split at hh
 · rename_i t x hop
   split at hh
   · cases hh
   rename_i b hb
   obtain ⟨v,h1,h2⟩:=nQ hr (ho x (by simp [hop,Op.operands]) _ hb) hh
   exact ⟨v,h1,by unfold execOp;rw [hop];exact f9 h2⟩
 · rename_i src dst x hop
   split at hh
   · cases hh
   rename_i b hb
   rcases fK hh with hh | hh
   · obtain ⟨v,h1,h2⟩:=aF5 hr (ho x (by simp [hop,Op.operands]) _ hb) hh
     exact ⟨v,h1,by unfold execOp;rw [hop];exact f9 h2⟩
   · obtain ⟨v,h1,h2⟩:=aE4 hr (ho x (by simp [hop,Op.operands]) _ hb) hh
     exact ⟨v,h1,by unfold execOp;rw [hop];exact f9 h2⟩
 · rename_i t x k ok hop
   split at hh <;> first | (cases hh;done) | skip
   rename_i b d hb hd
   obtain ⟨v,h1,h2⟩:=aKv hr (ho x (by simp [hop,Op.operands]) _ hb) (ho k (by simp [hop,Op.operands]) _ hd) hh
   exact ⟨v,h1,by unfold execOp;rw [hop];exact f9 h2⟩
 · cases hh
abbrev dH:=FuncId→List AV→Hp→Nat→R1
def Ret (B:Nat→Prop) (G:Nat) (γ:Gm) (w0:World):R1→Ending→World→Prop
 | .fail,_,_=>False
 | .val av h c,e,w'=>∃ γ' v,e = .returned v∧Gm.le γ γ'∧VR γ' av v∧HR B G γ' h c w'∧Keep B w0 w'
 | .pan av h c,e,w'=>∃ γ' v,e = .panicked [{ v,recovered:=false }]∧Gm.le γ γ'∧VR γ' av v∧HR B G γ' h c w'∧Keep B w0 w'
def iJ (P:Program) (B:Nat→Prop) (G:Nat) (w0:World) (call:dH):Prop:=∀ (f:Nat) (fn:Func) (code:Code) (args:List AV) (h:Hp) (c:Nat) (γ:Gm) (w:World) (vs:List Value),P.funcs[f]?=some fn→fn.body=some code→HR B G γ h c w→Keep B w0 w→LR γ args vs→
 call f args h c≠R1.fail→Calls P f vs.toArray w (Ret B G γ w0 (call f args h c))
structure Aux where
 I:Nat→Bool
 K:FuncId→List AV→Option AV
 W:World→Prop
structure Fine (P:Program) (I:Aux):Prop where
 names:∀ (f:Nat) (fn:Func),P.funcs[f]?=some fn→fn.body.isSome=true→(fn.name == "runtime.NumGoroutine")=false
 ids:∀ (f:Nat),I.I f=true→∀ (x:Value) (w:World),(callFunc f #[x]).run P w = .ok (.value x) w
 known:∀ (f:Nat) (args:List AV) (av:AV),I.K f args=some av→∀ (γ:Gm) (vs:List Value) (w:World),LR γ args vs→I.W w→Calls P f vs.toArray w fun e w'=>∃ v,e = .returned v∧VR γ av v∧Below w.heap.size w w'
 stays:∀ (w w':World),I.W w→Below w.heap.size w w'→I.W w'
def nH:List AV→Option (List Value)
 | []=>some []
 | a::l=>match a.close with
   | none=>none
   | some v=>match nH l with
     | none=>none
     | some r=>some (v::r)
theorem zR {γ:Gm}:∀ {aS:List AV} {vs ws:List Value},nH aS=some ws→LR γ aS vs→vs=ws
 | [],vs,ws,h,hr=>by
   simp [nH] at h
   subst h
   exact aF hr.1.symm
 | a::aS,vs,ws,h,hr=>by
   cases vs with
   | nil=>have:=hr.1;simp at this
   | cons x vs=>
     have h0:=hr.2 0 a x rfl rfl
     have ht:LR γ aS vs:=⟨by have:=hr.1;simpa using this,fun i b y h1 h2=>hr.2 (i+1) b y (by simpa using h1) (by simpa using h2)⟩
     simp only [nH] at h
     cases h1:a.close with
     | none=>rw [h1] at h;cases h
     | some v=>
       rw [h1] at h
       cases h2:nH aS with
       | none=>rw [h2] at h;cases h
       | some r=>
         rw [h2] at h
         injection h with h
         subst h
         rw [jY h1 h0,zR h2 ht]
def dJ (P:Program) (f:FuncId):Option Bool:=match P.funcs[f]? with
 | none=>none
 | some fn=>match fn.body with
   | none=>some false
   | some _=>some true
def aId (I:Aux) (f:FuncId):List AV→Option AV
 | [a]=>match I.I f with
   | true=>some a
   | false=>none
 | _=>none
def zK (P:Program) (I:Aux) (call:dH) (f:FuncId) (args:List AV) (h:Hp) (c:Nat):R1:=match dJ P f with
 | some true=>call f args h c
 | some false=>match aId I f args with
   | some a => .val a h c
   | none=>match nH args with
     | none => .fail
     | some vs=>match nF P (callFunc f vs.toArray) with
       | some (.value v) => .val (bW v) h c
       | some (.enter g args')=>match dJ P g with
         | some true=>call g (args'.toList.map bW) h c
         | _ => .fail
       | _ => .fail
 | none => .fail
theorem iX {P:Program} {f:FuncId} (h:dJ P f=some true):∃ fn code,P.funcs[f]?=some fn∧fn.body=some code:=by
 unfold dJ at h
 split at h
 · cases h
 · rename_i fn hf
   split at h
   · cases h
   · rename_i code hc
     exact ⟨fn,code,hf,hc⟩
section
variable {P:Program} {B:Nat→Prop} {G:Nat} {γ:Gm} {h:Hp} {c:Nat} {w w0:World} {o:Oper} {a:Act} {K:Act→World→Prop} {Q:Exit→Act→World→Prop} {T:Tr AV} {call:dH} {I:Aux}
theorem aHg (hcall:iJ P B G w0 call) (hr:HR B G γ h c w) (hb:Keep B w0 w) {f:FuncId} {args:List AV} {vs:List Value} (hl:LR γ args vs) (hf:dJ P f=some true)
  (hrun:(execOp a.eval o).run P w = .ok (.enter f vs.toArray) w) (hk:KOk B G γ w0 a o.dst K Q (call f args h c)):o.wp P a w K Q:=by
 obtain ⟨fn,code,h1,h2⟩:=iX hf
 unfold Oper.wp
 rw [hrun]
 have hne:call f args h c ≠ .fail:=fun e=>by rw [e] at hk;exact hk
 refine (hcall f fn code args h c γ w vs h1 h2 hr hb hl hne).mono fun e w' hR=>?_
 cases hcc:call f args h c with
 | fail=>exact (hne hcc).elim
 | val av h' c'=>
   rw [hcc] at hR hk
   obtain ⟨γ',v,rfl,g1,g2,g3,g4⟩:=hR
   exact hk γ' v w' g1 g2 g3 g4
 | pan av h' c'=>
   rw [hcc] at hR hk
   obtain ⟨γ',v,rfl,g1,g2,g3,g4⟩:=hR
   exact hk γ' v w' g1 g2 g3 g4
theorem vE (vs:List Value):LR γ (vs.map bW) vs:=⟨by simp,fun i a x h1 h2=>by
 simp [h2] at h1
 subst h1
 exact eP x⟩
theorem aG5 (hn:Fine P I) (hcall:iJ P B G w0 call) (hr:HR B G γ h c w) (hb:Keep B w0 w) {f:FuncId} {args:List AV} {vs:List Value} (hl:LR γ args vs)
  (hrun:∀ w,(execOp a.eval o).run P w=(callFunc f vs.toArray).run P w) (hk:KOk B G γ w0 a o.dst K Q (zK P I call f args h c)):o.wp P a w K Q:=by
 unfold zK at hk
 have henter:∀ {f:FuncId} (vs:List Value),dJ P f=some true→(callFunc f vs.toArray).run P w = .ok (.enter f vs.toArray) w:=by
  intro f vs hf
  obtain ⟨fn,code,h1,h2⟩:=iX hf
  have h3:fn.name ≠ "runtime.NumGoroutine" := by simpa using hn.names f fn h1 (by rw [h2];rfl)
  simp [callFunc,h1,h2,h3]
 split at hk
 · rename_i hf
   exact aHg hcall hr hb hl hf (by rw [hrun,henter vs hf]) hk
 · split at hk
   · rename_i av hid
     unfold aId at hid
     split at hid <;> first | (cases hid;done) | skip
     rename_i b
     split at hid <;> first | (cases hid;done) | skip
     rename_i hI
     injection hid with hid
     subst hid
     have hlen:=hl.1
     match vs,hlen with
     | [x],_=>exact dM (by rw [hrun];exact hn.ids f hI x w) (hk γ x w (Gm.le.refl _) (hl.2 0 _ x rfl rfl) hr hb)
   split at hk
   · exact hk.elim
   rename_i ws hws
   have e:=zR hws hl
   subst e
   split at hk
   · rename_i v hv
     exact dM (by rw [hrun];exact vG hv w) (hk γ v w (Gm.le.refl _) (eP v) hr hb)
   · rename_i g args' hv
     split at hk <;> first | exact hk.elim | skip
     rename_i hg
     refine aHg (vs:=args'.toList) hcall hr hb (vE _) hg ?_ hk
     rw [hrun,vG hv w]
   · exact hk.elim
 · exact hk.elim
def uM (P:Program) (I:Aux) (call:dH) (T:Tr AV) (h:Hp) (c:Nat) (o:Oper):R1:=match o.op with
 | .alloc e=>oR P e h c
 | .box e x=>match aev P T x with
   | none => .fail
   | some a=>aMe e a h c
 | .buildSlice t len parts=>match mZ P T parts.toList with
   | none => .fail
   | some ps=>oI P t len ps h c
 | .makeSlice t l m=>match aev P T l,aev P T m with
   | some a,some b=>pT P t a b h c
   | _,_ => .fail
 | .store t x y=>match aev P T x,aev P T y with
   | some a,some b=>aBr P t a b h c
   | _,_ => .fail
 | .panic x=>match aev P T x with
   | some (.ifc t a) => .pan (.ifc t a) h c
   | _ => .fail
 | .convert src dst x=>match aev P T x with
   | some a=>sC P src dst a h c
   | none => .fail
 | .makeMap _ none=>aBf h c
 | .mapUpdate t m k v=>match aev P T m,aev P T k,aev P T v with
   | some a,some b,some d=>k7 P t a b d h c
   | _,_,_ => .fail
 | .insert t m k v=>match aev P T m,aev P T k,aev P T v with
   | some a,some b,some d=>k7 P t a b d h c
   | _,_,_ => .fail
 | .call k=>match k.callee,k.args.toList with
   | .value x,args=>match aev P T x,kT P T args with
     | some (.fn (.func f) first cap),some l=>zK P I call f (first++l++cap) h c
     | _,_ => .fail
   | .builtin .append,[s,x]=>match aev P T s,aev P T x with
     | some a,some b=>match a,b with
       | _,.v (.string _)=>pM P k.argTypes.toList a b h c
       | _,.v (.int _ _)=>u7 P k.argTypes.toList a b h c
       | .sl _ _ _ _,_=>uG P k.argTypes.toList a b h c
       | _,_=>yR P k.argTypes.toList a b h c
     | _,_ => .fail
   | .invoke x name,args=>match aev P T x,kT P T args with
     | some (.ifc t a),some l=>match tI P t name with
       | some f=>zK P I call f (a::l) h c
       | none => .fail
     | _,_ => .fail
   | .builtin .unsafeString,[s,x]=>match aev P T s,aev P T x with
     | some a,some b=>lS P k.argTypes.toList a b h c
     | _,_ => .fail
   | _,_ => .fail
 | _ => .fail
def aP2 (op:Op):Program→Aux→dH→Tr AV→Hp→Nat→R1:=by
 induction op
 case alloc e=>exact fun P I call T h c=>oR P e h c
 case box e x=>exact fun P I call T h c=>match aev P T x with
  | none => .fail
  | some a=>aMe e a h c
 case buildSlice t len parts=>exact fun P I call T h c=>match mZ P T parts.toList with
  | none => .fail
  | some ps=>oI P t len ps h c
 case makeSlice t l m=>exact fun P I call T h c=>match aev P T l,aev P T m with
  | some a,some b=>pT P t a b h c
  | _,_ => .fail
 case store t x y=>exact fun P I call T h c=>match aev P T x,aev P T y with
  | some a,some b=>aBr P t a b h c
  | _,_ => .fail
 case panic x=>exact fun P I call T h c=>match aev P T x with
  | some (.ifc t a) => .pan (.ifc t a) h c
  | _ => .fail
 case convert src dst x=>exact fun P I call T h c=>match aev P T x with
  | some a=>sC P src dst a h c
  | none => .fail
 case makeMap _ r=>exact fun P I call T h c=>match r with
  | none=>aBf h c
  | some _ => .fail
 case mapUpdate t m k v=>exact fun P I call T h c=>match aev P T m,aev P T k,aev P T v with
  | some a,some b,some d=>k7 P t a b d h c
  | _,_,_ => .fail
 case insert t m k v=>exact fun P I call T h c=>match aev P T m,aev P T k,aev P T v with
  | some a,some b,some d=>k7 P t a b d h c
  | _,_,_ => .fail
 case call k=>exact fun P I call T h c=>match k.callee,k.args.toList with
  | .value x,args=>match aev P T x,kT P T args with
    | some (.fn (.func f) first cap),some l=>zK P I call f (first++l++cap) h c
    | _,_ => .fail
  | .builtin .append,[s,x]=>match aev P T s,aev P T x with
    | some a,some b=>match a,b with
      | _,.v (.string _)=>pM P k.argTypes.toList a b h c
      | _,.v (.int _ _)=>u7 P k.argTypes.toList a b h c
      | .sl _ _ _ _,_=>uG P k.argTypes.toList a b h c
      | _,_=>yR P k.argTypes.toList a b h c
    | _,_ => .fail
  | .invoke x name,args=>match aev P T x,kT P T args with
    | some (.ifc t a),some l=>match tI P t name with
      | some f=>zK P I call f (a::l) h c
      | none => .fail
    | _,_ => .fail
  | .builtin .unsafeString,[s,x]=>match aev P T s,aev P T x with
    | some a,some b=>lS P k.argTypes.toList a b h c
    | _,_ => .fail
  | _,_ => .fail
 all_goals exact fun _ _ _ _ _ _ => .fail
def kC (P:Program) (I:Aux) (call:dH) (T:Tr AV) (h:Hp) (c:Nat) (o:Oper):R1:=aP2 o.op P I call T h c
theorem vO (P:Program) (I:Aux) (call:dH) (T:Tr AV) (h:Hp) (c:Nat) (o:Oper):kC P I call T h c o=uM P I call T h c o:=by
 obtain ⟨dst,op,ty,pos,aft,g⟩:=o
 cases op <;> first | rfl | (rename_i r;cases r <;> rfl)
theorem vH (hn:Fine P I) (hcall:iJ P B G w0 call) (hr:HR B G γ h c w) (hb:Keep B w0 w) (ho:Ok P γ T a o.op.operands.toList)
  (hk:KOk B G γ w0 a o.dst K Q (kC P I call T h c o)):o.wp P a w K Q:=by
 rw [vO] at hk
 unfold uM at hk
 split at hk
 · rename_i e hop
   exact aPe hr hb hop hk
 · rename_i e x hop
   split at hk
   · exact hk.elim
   rename_i b hx
   exact aS0 hr hb hop (ho x (by simp [hop,Op.operands]) _ hx) hk
 · rename_i t len parts hop
   split at hk
   · exact hk.elim
   rename_i ps hps
   have hok:Ok P γ T a (parts.toList.map (·.2)):=fun x hx=>ho x (by
    have:o.op.operands.toList=parts.toList.map (·.2):=by rw [hop];simp [Op.operands]
    rw [this];exact hx)
   obtain ⟨h1,h2⟩:=wN hok hps
   exact aDa hr hb hop h1 h2 hk
 · rename_i t l m hop
   split at hk <;> first | exact hk.elim | skip
   rename_i b d hl hm
   exact aE6 hr hb hop (ho l (by simp [hop,Op.operands]) _ hl) (ho m (by simp [hop,Op.operands]) _ hm) hk
 · rename_i t x y hop
   split at hk <;> first | exact hk.elim | skip
   rename_i b d hx hy
   exact aOe hr hb hop (ho x (by simp [hop,Op.operands]) _ hx) (ho y (by simp [hop,Op.operands]) _ hy) hk
 · rename_i x hop
   split at hk <;> first | exact hk.elim | skip
   rename_i t b hx
   have hv:=ho x (by simp [hop,Op.operands]) _ hx
   generalize hvx:a.eval x=vx at hv
   unfold Oper.wp execOp
   rw [hop]
   cases hv with
   | ifc hv=>
     simp only [hvx,Instr.panic,Sem.run_bind,run_goPanic,Result.andThen_halt]
     exact hk γ _ w (Gm.le.refl _) (.ifc hv) hr hb
 · rename_i src dst x hop
   split at hk <;> first | exact hk.elim | skip
   rename_i b hx
   exact aGq hr hb hop (ho x (by simp [hop,Op.operands]) _ hx) hk
 · rename_i t hop
   exact aIc hr hb hop hk
 · rename_i t m k v hop
   split at hk <;> first | exact hk.elim | skip
   rename_i b d e hm hkk hv
   refine wE hr hb (fun w=>?_) (ho m (by simp [hop,Op.operands]) _ hm) (ho k (by simp [hop,Op.operands]) _ hkk) (ho v (by simp [hop,Op.operands]) _ hv) hk
   unfold execOp
   rw [hop]
   exact Sem.run_bind _ _ _ _
 · rename_i t m k v hop
   split at hk <;> first | exact hk.elim | skip
   rename_i b d e hm hkk hv
   refine wE hr hb (fun w=>?_) (ho m (by simp [hop,Op.operands]) _ hm) (ho k (by simp [hop,Op.operands]) _ hkk) (ho v (by simp [hop,Op.operands]) _ hv) hk
   unfold execOp
   rw [hop]
   exact Sem.run_bind _ _ _ _
 · rename_i k hop
   split at hk
   · rename_i x hce
     split at hk <;> first | exact hk.elim | skip
     rename_i f first cap l hx hl
     have hmem:o.op.operands.toList=x::k.args.toList:=by rw [hop];simp [Op.operands,Call.operands,hce]
     have hxv:=ho x (by rw [hmem];simp) _ hx
     have hlv:=jD (a:=a) (fun y hy=>ho y (by rw [hmem];exact bA _ hy)) hl
     generalize hvx:a.eval x=vx at hxv
     cases hxv with
     | fn hl1 hh1 hl2 hh2=>
       rename_i vs ws
       have r1:LR γ first vs.toList:=⟨by simpa using hl1,fun i b y e1 e2=>hh1 i b y e1 (by simpa using e2)⟩
       have r2:LR γ cap ws.toList:=⟨by simpa using hl2,fun i b y e1 e2=>hh2 i b y e1 (by simpa using e2)⟩
       refine aG5 hn hcall hr hb ((r1.append hlv).append r2) (fun w=>?_) hk
       unfold execOp
       rw [hop]
       simp only [resolve,hce,hvx,Deferred.ofValue,Sem.run_bind,Sem.run_pure,Result.andThen_ok,invoke]
       congr 2
       apply Array.ext'
       simp
   · rename_i s x hce hargs
     split at hk <;> first | exact hk.elim | skip
     rename_i b d hs hx
     have hargs':k.args=#[s,x]:=by apply Array.ext';simpa using hargs
     have hmem:o.op.operands.toList=[s,x]:=by rw [hop];simp [Op.operands,Call.operands,hce,hargs']
     split at hk
     · exact aFf (ts:=k.argTypes) hr hb (by rw [hop,← hargs',← hce]) (ho s (by simp [hmem]) _ hs) (ho x (by simp [hmem]) _ hx) hk
     · exact aIa (ts:=k.argTypes) hr hb (by rw [hop,← hargs',← hce]) (ho s (by simp [hmem]) _ hs) (ho x (by simp [hmem]) _ hx) hk
     · exact aIb (ts:=k.argTypes) hr hb (by rw [hop,← hargs',← hce]) (ho s (by simp [hmem]) _ hs) (ho x (by simp [hmem]) _ hx) hk
     · exact aL4 (ts:=k.argTypes) hr hb (by rw [hop,← hargs',← hce]) (ho s (by simp [hmem]) _ hs) (ho x (by simp [hmem]) _ hx) hk
   · rename_i x name hce
     split at hk <;> first | exact hk.elim | skip
     rename_i t b l hx hl
     split at hk <;> first | exact hk.elim | skip
     rename_i f hf
     have hmem:o.op.operands.toList=x::k.args.toList:=by rw [hop];simp [Op.operands,Call.operands,hce]
     have hxv:=ho x (by rw [hmem];simp) _ hx
     have hlv:=jD (a:=a) (fun y hy=>ho y (by rw [hmem];exact bA _ hy)) hl
     generalize hvx:a.eval x=vx at hxv
     cases hxv with
     | ifc hxv=>
       rename_i vv
       refine aG5 (vs:=vv::k.args.toList.map a.eval) hn hcall hr hb (LR.cons hxv hlv) (fun w=>?_) hk
       unfold execOp
       rw [hop]
       simp only [resolve,hce,hvx,Sem.run_bind,Sem.run_pure,Result.andThen_ok,invoke]
       have hex:(#[Value.iface t vv]++k.args.map a.eval).extract 1 (#[Value.iface t vv]++k.args.map a.eval).size=k.args.map a.eval:=by
        apply Array.ext'
        simp
        exact List.take_of_length_le (by simp)
       have hget:(#[Value.iface t vv]++k.args.map a.eval)[0]?=some (.iface t vv):=by
        rw [Array.getElem?_append_left (by simp)]
        rfl
       rw [hget,hex]
       simp only [uS hf]
       congr 2
       apply Array.ext'
       simp
   · rename_i s x hce hargs
     split at hk <;> first | exact hk.elim | skip
     rename_i b d hs hx
     have hargs':k.args=#[s,x]:=by apply Array.ext';simpa using hargs
     have hmem:o.op.operands.toList=[s,x]:=by rw [hop];simp [Op.operands,Call.operands,hce,hargs']
     exact aA8 (ts:=k.argTypes) hr hb (by rw [hop,← hargs',← hce]) (ho s (by simp [hmem]) _ hs) (ho x (by simp [hmem]) _ hx) hk
   · exact hk.elim
 · exact hk.elim
def qX (P:Program) (I:Aux) (call:dH) (T:Tr AV) (h:Hp) (c:Nat) (o:Oper):R1:=match l7 P T o with
 | some av => .val av h c
 | none=>match jT P T h o with
   | some av => .val av h c
   | none=>kC P I call T h c o
theorem rL (hn:Fine P I) (hcall:iJ P B G w0 call) (hr:HR B G γ h c w) (hb:Keep B w0 w) (ho:Ok P γ T a o.op.operands.toList)
  (hk:KOk B G γ w0 a o.dst K Q (qX P I call T h c o)):o.wp P a w K Q:=by
 unfold qX at hk
 split at hk
 · rename_i av hav
   obtain ⟨v,h1,h2⟩:=oC ho hav
   exact dM (h2 w) (hk γ v w (Gm.le.refl _) h1 hr hb)
 · split at hk
   · rename_i av hav
     obtain ⟨v,h1,h2⟩:=oK hr ho hav
     exact dM h2 (hk γ v w (Gm.le.refl _) h1 hr hb)
   · exact vH hn hcall hr hb ho hk
end
end Go.Sy
end
end
section
noncomputable section
namespace Go.Sy
open Go Go.RowKit
structure ADef where
 f:FuncId
 args:List AV
 cap:List AV
def DefR (γ:Gm) (x:ADef) (d:Deferred):Prop:=∃ vs ws,d={ target := .fn (.func x.f) ws,args:=vs }∧LR γ x.args vs.toList∧LR γ x.cap ws.toList
structure St where
 T:Tr AV
 h:Hp
 c:Nat
 ds:List ADef
inductive AExit where
 | normal
 | exit (id:Nat)
 | ret
 | pan (a:AV)
inductive R2 where
 | fail
 | ok (e:AExit) (s:St)
def TR (γ:Gm) (T:Tr AV) (tmps:Array Value):Prop:=∀ t av,T.get t=some av→∃ v,tmps[t]?=some v∧VR γ av v
def DR (γ:Gm):List ADef→List Deferred→Prop
 | [],[]=>True
 | x::l,d::r=>DefR γ x d∧DR γ l r
 | _,_=>False
structure FR (γ:Gm) (nt:Nat) (T:Tr AV) (ds:List ADef) (a:Act):Prop where
 size:a.tmps.size=nt
 tmps:TR γ T a.tmps
 defs:DR γ ds a.defers
def ER (γ:Gm):AExit→Exit→Prop
 | .normal,.normal=>True
 | .exit id,.exit id'=>id=id'
 | .ret,.ret=>True
 | .pan av,.panic ch=>∃ v,VR γ av v∧ch=[{ v,recovered:=false }]
 | _,_=>False
def KOk2 (B:Nat→Prop) (G:Nat) (γ:Gm) (w0:World) (nt:Nat) (Q:Exit→Act→World→Prop):R2→Prop
 | .fail=>False
 | .ok e s=>∀ γ' e' a w,Gm.le γ γ'→ER γ' e e'→FR γ' nt s.T s.ds a→HR B G γ' s.h s.c w→Keep B w0 w→Q e' a w
theorem TR.mono {γ γ':Gm} (hle:Gm.le γ γ') {T:Tr AV} {tmps:Array Value} (h:TR γ T tmps):TR γ' T tmps:=fun t av ht=>let ⟨v,h1,h2⟩:=h t av ht;⟨v,h1,h2.mono hle⟩
theorem DefR.mono {γ γ':Gm} (hle:Gm.le γ γ') {x:ADef} {d:Deferred} (h:DefR γ x d):DefR γ' x d:=let ⟨vs,ws,h1,h2,h3⟩:=h;⟨vs,ws,h1,h2.mono hle,h3.mono hle⟩
theorem DR.mono {γ γ':Gm} (hle:Gm.le γ γ'):∀ {l:List ADef} {r:List Deferred},DR γ l r→DR γ' l r
 | [],[],_=>trivial
 | x::l,d::r,h=>⟨h.1.mono hle,h.2.mono hle⟩
 | [],_::_,h=>h.elim
 | _::_,[],h=>h.elim
theorem FR.mono {γ γ':Gm} (hle:Gm.le γ γ') {nt:Nat} {T:Tr AV} {ds:List ADef} {a:Act} (h:FR γ nt T ds a):FR γ' nt T ds a:=⟨h.size,h.tmps.mono hle,h.defs.mono hle⟩
theorem yS {tmps:Array Value} {t:Nat} {v:Value} (h:tmps[t]?=some v):tmps.getD t undef=v:=by
 rw [Array.getD_eq_getD_getElem?,h]
 rfl
theorem FR.ok {P:Program} {B:Nat→Prop} {G:Nat} {γ:Gm} {nt:Nat} {T:Tr AV} {ds:List ADef} {a:Act} (hf:FR γ nt T ds a) (hg:∀ g,g<P.globals.size→∃ N,γ g=some (g,N)) (l:List Operand):Ok P γ T a l:=by
 intro x _ av h
 cases x with
 | tmp t=>
   obtain ⟨v,h1,h2⟩:=hf.tmps t av h
   show VR γ av (a.tmps.getD t undef)
   rw [yS h1]
   exact h2
 | const v=>injection h with h;subst h;exact eP v
 | global g=>
   simp only [aev] at h
   split at h
   · rename_i hlt
     injection h with h
     subst h
     obtain ⟨N,hN⟩:=hg g (cI hlt)
     exact .ptr hN
   · cases h
 | func f=>
   injection h with h
   subst h
   exact .fn rfl (fun i a x h=>by simp at h) rfl (fun i a x h=>by simp at h)
def dK (nt:Nat) (T:Tr AV) (dst:Option Tmp) (av:AV):Option (Tr AV):=match dst with
 | none=>some T
 | some d=>match Nat.blt d nt with
   | true=>some (T.put d (some av))
   | false=>none
theorem FR.put {γ γ':Gm} {nt:Nat} {T T':Tr AV} {ds:List ADef} {a:Act} {dst:Option Tmp} {av:AV} {v:Value} (hf:FR γ nt T ds a) (hle:Gm.le γ γ') (hv:VR γ' av v) (h:dK nt T dst av=some T'):
  FR γ' nt T' ds (a.put dst v):=by
 unfold dK at h
 cases dst with
 | none=>injection h with h;subst h;exact hf.mono hle
 | some d=>
   simp only at h
   split at h
   · rename_i hlt
     have hlt:=cI hlt
     injection h with h
     subst h
     refine ⟨by simp [Act.put,hf.size],fun t av' ht=>?_,hf.defs.mono hle⟩
     rw [Tr.get_put] at ht
     split at ht
     · rename_i e
       subst e
       injection ht with ht
       subst ht
       exact ⟨v,by simp [Act.put,hf.size,hlt],hv⟩
     · rename_i hne
       obtain ⟨x,h1,h2⟩:=hf.tmps t av' ht
       exact ⟨x,by simp only [Act.put];rw [Array.getElem?_setIfInBounds_ne (fun e=>hne e.symm)];exact h1,h2.mono hle⟩
   · cases h
def eE (ops:Array Oper) (T:Tr AV) (o:Oper):Option Bool:=match o.guard with
 | none=>some true
 | some (j,want)=>match ops[j]? with
   | none=>none
   | some p=>match p.dst with
     | none=>none
     | some t=>match T.get t with
       | some (.v (.bool b))=>some (match b,want with | true,true=>true | false,false=>true | _,_=>false)
       | some (.tup [])=>some false
       | _=>none
theorem dX {γ:Gm} {ops:Array Oper} {T:Tr AV} {o:Oper} {a:Act} {b:Bool} (hT:∀ j want p t av,o.guard=some (j,want)→ops[j]?=some p→p.dst=some t→T.get t=some av→∃ v,a.tmps[t]?=some v∧VR γ av v)
  (h:eE ops T o=some b):Region.wanted o (yielded ops a.tmps)=b:=by
 unfold eE at h
 unfold Region.wanted
 split at h
 · rename_i hg
   rw [hg]
   simpa using h
 · rename_i j want hg
   rw [hg]
   simp only
   split at h
   · cases h
   rename_i p hp
   split at h
   · cases h
   rename_i t ht
   split at h <;> first | (cases h;done) | skip
   · rename_i b' hb
     obtain ⟨v,h1,h2⟩:=hT j want p t _ hg hp ht hb
     cases h2
     have:yielded ops a.tmps j=some b':=by simp [yielded,hp,ht,h1]
     rw [this]
     injection h with h
     subst h
     cases b' <;> cases want <;> rfl
   · rename_i hb
     obtain ⟨v,h1,h2⟩:=hT j want p t _ hg hp ht hb
     injection h with h
     subst h
     cases h2 with
     | tup hl hh=>
       have:yielded ops a.tmps j=none:=by simp [yielded,hp,ht,h1]
       rw [this]
       cases want <;> rfl
def aCy (P:Program) (T:Tr AV) (o:Oper):Option ADef:=match o.op with
 | .defer k=>match k.callee with
   | .value x=>match aev P T x,kT P T k.args.toList with
     | some (.fn (.func f) first cap),some l=>some ⟨f,first++l,cap⟩
     | _,_=>none
   | _=>none
 | _=>none
abbrev Seq:=Tr AV→Hp→Nat→List ADef→R2
def aDv (P:Program) (I:Aux) (call:dH) (nt:Nat) (ops:Array Oper) (o:Oper) (ih:Seq) (T:Tr AV) (h:Hp) (c:Nat) (ds:List ADef):R2:=match eE ops T o with
 | none => .fail
 | some false=>match dK nt T o.dst (.tup []) with
   | none => .fail
   | some T'=>ih T' h c ds
 | some true=>match qX P I call T h c o with
   | .val av h' c'=>match dK nt T o.dst av with
     | none => .fail
     | some T'=>ih T' h' c' ds
   | .pan av h' c' => .ok (.pan av) ⟨T,h',c',ds⟩
   | .fail=>match aCy P T o with
     | none => .fail
     | some d=>match dK nt T o.dst (.tup []) with
       | none => .fail
       | some T'=>ih T' h c (d::ds)
def qA (P:Program) (I:Aux) (call:dH) (nt:Nat) (ops:Array Oper) (l:List Oper):Seq:=
 List.rec (motive:=fun _=>Seq) (fun T h c ds => .ok .normal ⟨T,h,c,ds⟩) (fun o _ ih=>aDv P I call nt ops o ih) l
theorem aGt (P:Program) (I:Aux) (call:dH) (nt:Nat) (ops:Array Oper) (o:Oper) (l:List Oper) (T:Tr AV) (h:Hp) (c:Nat) (ds:List ADef):
 qA P I call nt ops (o::l) T h c ds=aDv P I call nt ops o (qA P I call nt ops l) T h c ds:=rfl
section
variable {P:Program} {B:Nat→Prop} {w0:World} {nt:Nat} {ops:Array Oper} {Q:Exit→Act→World→Prop} {call:dH} {I:Aux}
theorem kP (γ:Gm):VR γ (.tup []) undef:=VR.tupL LR.nil
theorem aEp {γ:Gm} {T:Tr AV} {a:Act} {o:Oper} {d:ADef} (ho:Ok P γ T a o.op.operands.toList) (h:aCy P T o=some d):∃ x,DefR γ d x∧∀ w,(execOp a.eval o).run P w = .ok (.defer x) w:=by
 unfold aCy at h
 split at h <;> first | (cases h;done) | skip
 rename_i k hop
 split at h <;> first | (cases h;done) | skip
 rename_i x hce
 split at h <;> first | (cases h;done) | skip
 rename_i f first cap l hx hl
 injection h with h
 subst h
 have hmem:o.op.operands.toList=x::k.args.toList:=by rw [hop];simp [Op.operands,Call.operands,hce]
 have hxv:=ho x (by rw [hmem];simp) _ hx
 have hlv:=jD (a:=a) (fun y hy=>ho y (by rw [hmem];exact bA _ hy)) hl
 generalize hvx:a.eval x=vx at hxv
 cases hxv with
 | fn hl1 hh1 hl2 hh2=>
   rename_i vs ws
   have r1:LR γ first vs.toList:=⟨by simpa using hl1,fun i b y e1 e2=>hh1 i b y e1 (by simpa using e2)⟩
   have r2:LR γ cap ws.toList:=⟨by simpa using hl2,fun i b y e1 e2=>hh2 i b y e1 (by simpa using e2)⟩
   refine ⟨_,⟨vs++k.args.map a.eval,ws,rfl,by simpa using r1.append hlv,r2⟩,fun w=>?_⟩
   unfold execOp
   rw [hop]
   simp only [resolve,hce,hvx,Deferred.ofValue,Sem.run_bind,Sem.run_pure,Result.andThen_ok]
theorem pQ (hn:Fine P I) (hcall:iJ P B P.globals.size w0 call):∀ (l:List Oper) (k:Nat) (T:Tr AV) (h:Hp) (c:Nat) (ds:List ADef) (γ:Gm) (a:Act) (w:World),
  (∀ j o,l[j]?=some o→ops[k+j]?=some o)→FR γ nt T ds a→HR B P.globals.size γ h c w→Keep B w0 w→
  KOk2 B P.globals.size γ w0 nt Q (qA P I call nt ops l T h c ds)→wpOps P ops Q (List.range' k l.length) a w
 | [],k,T,h,c,ds,γ,a,w,hl,hf,hr,hb,hk=>hk γ .normal a w (Gm.le.refl _) trivial hf hr hb
 | o::l,k,T,h,c,ds,γ,a,w,hl,hf,hr,hb,hk=>by
   have ho:ops[k]?=some o:=by simpa using hl 0 o rfl
   have hl':∀ j o',l[j]?=some o'→ops[k+1+j]?=some o':=fun j o' hj=>by
    have:=hl (j+1) o' (by simpa using hj)
    rw [show k+1+j=k+(j+1) by omega];exact this
   have hok:=hf.ok (P:=P) (B:=B) (G:=0) hr.glob o.op.operands.toList
   simp only [aB,List.range'_succ,wpOps,ho]
   rw [aGt] at hk
   unfold aDv at hk
   split at hk
   · exact hk.elim
   · rename_i hw
     have hw':=dX (a:=a) (fun j want p t av _ _ _ ht=>hf.tmps t av ht) hw
     rw [if_neg (by simp [hw'])]
     split at hk
     · exact hk.elim
     rename_i T' hT'
     exact pQ hn hcall l (k+1) T' h c ds γ _ w hl' (hf.put (Gm.le.refl _) (kP γ) hT') hr hb hk
   · rename_i hw
     have hw':=dX (a:=a) (fun j want p t av _ _ _ ht=>hf.tmps t av ht) hw
     rw [if_pos hw']
     left
     cases hev:qX P I call T h c o with
     | val av h' c'=>
       rw [hev] at hk
       simp only at hk
       split at hk
       · exact hk.elim
       rename_i T' hT'
       refine rL hn hcall hr hb hok ?_
       rw [hev]
       intro γ' v w' h1 h2 h3 h4
       refine pQ hn hcall l (k+1) T' h' c' ds γ' _ w' hl' (hf.put h1 h2 hT') h3 h4 ?_
       cases hes:qA P I call nt ops l T' h' c' ds with
       | fail=>rw [hes] at hk;exact hk.elim
       | ok e s=>
         rw [hes] at hk
         exact fun γ'' e' a' w'' k1=>hk γ'' e' a' w'' (h1.trans k1)
     | pan av h' c'=>
       rw [hev] at hk
       refine rL hn hcall hr hb hok ?_
       rw [hev]
       intro γ' v w' h1 h2 h3 h4
       exact hk γ' _ a w' h1 ⟨v,h2,rfl⟩ (hf.mono h1) h3 h4
     | fail=>
       rw [hev] at hk
       simp only at hk
       split at hk
       · exact hk.elim
       rename_i d hd
       split at hk
       · exact hk.elim
       rename_i T' hT'
       obtain ⟨x,hx1,hx2⟩:=aEp hok hd
       unfold Oper.wp
       rw [hx2 w]
       simp only [Oper.upon]
       have hf2:FR γ nt T (d::ds) { a with defers:=x::a.defers }:=⟨hf.size,hf.tmps,hx1,hf.defs⟩
       exact pQ hn hcall l (k+1) T' h c (d::ds) γ _ w hl' (hf2.put (Gm.le.refl _) (kP γ) hT') hr hb hk
end
end Go.Sy
end
end
