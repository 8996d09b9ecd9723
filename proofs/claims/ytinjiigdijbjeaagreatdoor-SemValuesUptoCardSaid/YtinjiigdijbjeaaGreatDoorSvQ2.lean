/- Texts of this proof, one behind the other. Conditions: those in each theorem. -/
import Derived.Test.YtinjiigdijbjeaaGreatDoorSvQ1
import Derived.Lib.AppendStr
import Derived.Lib.ConvBytes
import Derived.Shelf.Strings.Builder1
import Derived.Shelf.Strings.Builder2
import Derived.Shelf.Strings.BuilderF
import Derived.Shelf.Strings.BuilderK
import Derived.Shelf.Strings.Builder2Cap
import Derived.Shelf.Strconv.Itoa0
import Derived.Shelf.Strconv.Itoa1
import Derived.Shelf.LaysM
import Derived.Shelf.Strconv.Itoa2
import Derived.Shelf.Strconv.Itoa3
import Derived.Shelf.Strconv.Itoa4
import Derived.Shelf.Strings.Search1
import Derived.Shelf.Strings.Search2
import Derived.Shelf.Strings.Cut
import Derived.Shelf.Strings.Shaped
import Derived.Shelf.Strings.Prefix
import Derived.Shelf.Bits.Mul64
import Derived.Shelf.Strings.Repeat
import Derived.Shelf.Strings.BuilderCap
import Derived.Test.YtinjiigdijbjeaaGreatDoorProg
import Derived.Lib.IndexMore
import Derived.Deep.CutBlock
import Derived.Deep.DeepCutAuto
import Derived.Test.YtinjiigdijbjeaaGreatDoorRows
import Derived.Handy
import Derived.WalkLawsBesides
import Derived.Sort.Grow
import Derived.Lib.ItoaLen
set_option linter.unusedVariables false
set_option linter.unusedSimpArgs false
section
namespace Go.As
open Go Go.RowKit
def byt (l:List UInt8):List Value:=l.map fun b=>Value.int .u8 b.toNat
theorem byt_get {l:List UInt8} {k:Nat} {u:Value} (h:(byt l)[k]?=some u):∃ x,l[k]?=some x∧u = .int .u8 x.toNat:=by
 simp only [byt,List.getElem?_map,Option.map_eq_some_iff] at h
 obtain ⟨x,hx,rfl⟩:=h
 exact ⟨x,hx,rfl⟩
theorem byt_str (l:List UInt8):Lib.strCells (str l)=byt l:=by simp [Lib.strCells,byt,str]
section
variable {P:Program} {w:World}
theorem run_app_str (base:Nat) (t u ty e:TypeId) (ht:P.underlying t=some (.slice e)) (hu:P.underlying u=some .string)
  (hinf:(P.info? e).map (fun i=>(i.zero,i.size,i.bytes))=some (some (.int .u8 0),1,1))
  (v:Value) (n:Nat) (xs:List Value) (hown:w.ownsRow base e 1 v n xs) (l:List UInt8)
  (hbytes:n+l.length≤140737488355328) (hbase:base≤w.heap.size):
  ∃ v' w',(Builtin.append_ #[t,u] ty #[v,.string (str l)]).run P w = .ok v' w'∧w'.ownsRow base e 1 v' (n+l.length) (xs++byt l)∧w.grownBy w' v.ownBlock∧SameOrNew w v v':=by
 obtain ⟨i,hi,hz,hs,hb⟩:=info_parts hinf
 have hsz:=str_size l
 have h63:n+(str l).size≤maxLen:=by simp only [maxLen];omega
 obtain ⟨v',w',hr,h2,h3,-⟩:=Lib.run_append_own_string (P:=P) w base t u ty e i ht hu hi hz hs hb v n xs hown (str l) h63 (by omega) hbase
 rw [hsz,byt_str] at h2
 refine ⟨v',w',hr,h2,h3,?_⟩
 rcases hown.2 with ⟨rfl,rfl⟩ | ⟨g,cap,cur,rfl,hbg,hg,hnc,hcm,hcs,htake⟩
 · obtain ⟨v2,w2,hr2,h4,-,-⟩:=Lib.run_append_own_string (P:=P) w w.heap.size t u ty e i ht hu hi hz hs hb _ 0 [] (World.ownsRow_nil _ _ _ _) (str l) (by omega) (by omega) (Nat.le_refl _)
   rw [hr] at hr2
   injection hr2 with hv _
   subst hv
   exact fun k hk => .inr (h4.lt k hk).1
 · by_cases hroom:n+(str l).size≤cap
   · have hr2:=Lib.run_append_room_string (P:=P) w t u ty e i ht hu hi hs g n cap cur hg (str l) hroom (by have:=hcs;simp at this;omega)
     rw [hr] at hr2
     injection hr2 with hv _
     subst hv
     exact fun k hk => .inl hk
   · have hxl:xs.length=n:=by simpa using hown.1
     have holds:∀ j u,xs[j]?=some u→w.cell? ((⟨g,0,none⟩:Addr).add j)=some u:=hown.cells (g:=g) rfl
     have hr2:=Lib.run_append_grow_string (P:=P) w t u ty e i (.int .u8 0) ht hu hi hz ⟨g,0,none⟩ n cap xs (by rw [hs];simpa using hxl) holds (str l) (by omega) (by omega) (by rw [hb];exact growslice_fits (by omega) (by omega))
     rw [hr] at hr2
     injection hr2 with hv _
     subst hv
     intro k hk
     simp [Value.ownBlock] at hk
     exact .inr (by omega)
section
variable {ops:Array Oper} {rest:List Oper} {o:Oper} {a:Act} {Q:Exit→Act→World→Prop}
end
end
end Go.As
end
section
namespace Go.As
open Go Go.RowKit
section
variable {w:World} {e:TypeId} {l:List UInt8}
theorem bw_below (w:World) (e:TypeId) (l:List UInt8):Below w.heap.size w (Lib.bytesWorld w e (str l)):=
 ⟨rfl,rfl,rfl,by rw [Lib.bytesWorld_size];omega,fun j hj=>Lib.bytesWorld_at_old w e (str l) j hj⟩
theorem bw_sl (w:World) (e:TypeId) (l:List UInt8):Sl (Lib.bytesWorld w e (str l)) 1 (some ⟨w.heap.size,0,none⟩) l.length (byt l):=by
 refine ⟨by simp [byt],fun _=>⟨_,rfl,by rw [Lib.bytesWorld_size];exact Nat.lt_succ_self _,fun j u hu=>?_⟩⟩
 obtain ⟨x,hx,rfl⟩:=byt_get hu
 have hj:j<l.length:=(List.getElem?_eq_some_iff.1 hx).1
 have:(⟨w.heap.size,0,none⟩:Addr).add j=⟨w.heap.size,j,none⟩:=by unfold Addr.add;split <;> simp_all
 rw [this,Lib.bytesWorld_cell w e (str l) j (by rw [str_size];exact hj),str_data]
 simp [hx]
theorem bw_slN (w:World) (e:TypeId) (l:List UInt8) (n:Nat) (h:l.length=n):Sl (Lib.bytesWorld w e (str l)) 1 (some ⟨w.heap.size,0,none⟩) n (byt l):=by
 rw [← h];exact bw_sl w e l
end
end Go.As
end
section
namespace Go.Proofs
open Go.Shelf
def Tryz.lays219_ren:Go.Shelf.Ren:=⟨fun | 219=>261 | 217=>268 | 225=>269 | 224=>270 | 267=>271 | 266=>276 | 314=>277 | n=>n,fun | 9=>9 | 3=>3 | 4=>4 | 5=>5 | 46=>218 | 146=>304 | 51=>275 | n=>n,fun | 1=>4 | n=>n⟩
theorem Tryz.lays219:Go.Proofs.Lays.n219 Tryz.prog Tryz.lays219_ren:={
 mixed:=by kernel_rfl
 f217:=Tryz.func268.trans (congrArg some (by kernel_rfl))
 f219:=Tryz.func261.trans (congrArg some (by kernel_rfl))
 f224:=Tryz.func270.trans (congrArg some (by kernel_rfl))
 f225:=Tryz.func269.trans (congrArg some (by kernel_rfl))
 f266:=Tryz.func276.trans (congrArg some (by kernel_rfl))
 f267:=Tryz.func271.trans (congrArg some (by kernel_rfl))
 f314:=Tryz.func277.trans (congrArg some (by kernel_rfl))
 t3:=Tryz.underlying3
 a3:=Tryz.isAgg3
 z3:=Tryz.sizeOf3
 v3:=Tryz.zeroValue3
 t4:=Tryz.underlying4
 a4:=Tryz.isAgg4
 z4:=Tryz.sizeOf4
 v4:=Tryz.zeroValue4
 t5:=Tryz.underlying5
 a5:=Tryz.isAgg5
 z5:=Tryz.sizeOf5
 v5:=Tryz.zeroValue5
 t9:=Tryz.underlying9
 a9:=Tryz.isAgg9
 z9:=Tryz.sizeOf9
 v9:=Tryz.zeroValue9
 t46:=Tryz.underlying218
 a46:=Tryz.isAgg218
 z46:=Tryz.sizeOf218
 v46:=Tryz.zeroValue218
 t51:=Tryz.underlying275
 a51:=Tryz.isAgg275
 z51:=Tryz.sizeOf275
 v51:=Tryz.zeroValue275
 t146:=Tryz.underlying304
 a146:=Tryz.isAgg304
 z146:=Tryz.sizeOf304
 v146:=Tryz.zeroValue304
 g1:=by kernel_rfl }
open Go.RowKit Go.Lib in
theorem Tryz.stringslite_Index_one (s:ByteArray) (c:UInt8) (w:World):
 Calls Tryz.prog 261 #[.string s,.string ⟨#[c]⟩] w fun e w'=>e = .returned (.int .i64 (Lib.indexByte s.data.toList c))∧w'=w:=Any.stringslite_Index_one Tryz.lays219 s c w
end Go.Proofs
end
namespace Go.Proofs.YtinjiigdijbjeaaGreatDoor
open Go.RowKit Go.As
section
theorem run_idx0 (s:List UInt8) (j:Nat) (hj:j<s.length) (W:World):(Instr.index 9 (.string (str s)) (.int .i64 (j:Int))).run Tryz.prog W = .ok (.int .u8 (s[j].toNat:Nat)) W:=by
 rw [run_index_string W 9 (str s) .i64 _ Tryz.underlying9,dif_pos ⟨by omega,by rw [str_size];omega⟩]
 simp only [Int.toNat_natCast,str_get]
set_option maxRecDepth 100000 in
theorem run_buildPow (W:World):(Instr.build 269 #[(0,.float .f64 4607182418800017408),(1,.float .f64 4621819117588971520),(2,.float .f64 4636737291354636288),(3,.float .f64 4652007308841189376),(4,.float .f64 4666723172467343360),(5,.float .f64 4681608360884174848),(6,.float .f64 4696837146684686336)]).run Tryz.prog W = .ok (.agg #[.float .f64 4607182418800017408,.float .f64 4621819117588971520,.float .f64 4636737291354636288,.float .f64 4652007308841189376,.float .f64 4666723172467343360,.float .f64 4681608360884174848,.float .f64 4696837146684686336]) W:=by kernel_rfl
set_option maxRecDepth 100000 in
theorem run_idxPow0 (W:World):(Instr.index 269 (.agg #[.float .f64 4607182418800017408,.float .f64 4621819117588971520,.float .f64 4636737291354636288,.float .f64 4652007308841189376,.float .f64 4666723172467343360,.float .f64 4681608360884174848,.float .f64 4696837146684686336]) (.int .i64 0)).run Tryz.prog W = .ok (.float .f64 4607182418800017408) W:=by kernel_rfl
set_option maxRecDepth 100000 in
theorem run_idxPow1 (W:World):(Instr.index 269 (.agg #[.float .f64 4607182418800017408,.float .f64 4621819117588971520,.float .f64 4636737291354636288,.float .f64 4652007308841189376,.float .f64 4666723172467343360,.float .f64 4681608360884174848,.float .f64 4696837146684686336]) (.int .i64 1)).run Tryz.prog W = .ok (.float .f64 4621819117588971520) W:=by kernel_rfl
set_option maxRecDepth 100000 in
theorem run_idxPow2 (W:World):(Instr.index 269 (.agg #[.float .f64 4607182418800017408,.float .f64 4621819117588971520,.float .f64 4636737291354636288,.float .f64 4652007308841189376,.float .f64 4666723172467343360,.float .f64 4681608360884174848,.float .f64 4696837146684686336]) (.int .i64 2)).run Tryz.prog W = .ok (.float .f64 4636737291354636288) W:=by kernel_rfl
set_option maxRecDepth 100000 in
theorem run_idxPow3 (W:World):(Instr.index 269 (.agg #[.float .f64 4607182418800017408,.float .f64 4621819117588971520,.float .f64 4636737291354636288,.float .f64 4652007308841189376,.float .f64 4666723172467343360,.float .f64 4681608360884174848,.float .f64 4696837146684686336]) (.int .i64 3)).run Tryz.prog W = .ok (.float .f64 4652007308841189376) W:=by kernel_rfl
set_option maxRecDepth 100000 in
theorem run_idxPow4 (W:World):(Instr.index 269 (.agg #[.float .f64 4607182418800017408,.float .f64 4621819117588971520,.float .f64 4636737291354636288,.float .f64 4652007308841189376,.float .f64 4666723172467343360,.float .f64 4681608360884174848,.float .f64 4696837146684686336]) (.int .i64 4)).run Tryz.prog W = .ok (.float .f64 4666723172467343360) W:=by kernel_rfl
set_option maxRecDepth 100000 in
theorem run_idxPow5 (W:World):(Instr.index 269 (.agg #[.float .f64 4607182418800017408,.float .f64 4621819117588971520,.float .f64 4636737291354636288,.float .f64 4652007308841189376,.float .f64 4666723172467343360,.float .f64 4681608360884174848,.float .f64 4696837146684686336]) (.int .i64 5)).run Tryz.prog W = .ok (.float .f64 4681608360884174848) W:=by kernel_rfl
set_option maxRecDepth 100000 in
theorem run_idxPow6 (W:World):(Instr.index 269 (.agg #[.float .f64 4607182418800017408,.float .f64 4621819117588971520,.float .f64 4636737291354636288,.float .f64 4652007308841189376,.float .f64 4666723172467343360,.float .f64 4681608360884174848,.float .f64 4696837146684686336]) (.int .i64 6)).run Tryz.prog W = .ok (.float .f64 4696837146684686336) W:=by kernel_rfl
set_option maxRecDepth 100000 in
set_option maxHeartbeats 1600000 in
theorem rpowers_any (k:Nat) (hk:k≤6) (w:World):Calls Tryz.prog 191 #[.int .i64 (k:Int)] w fun e w'=>e = .returned (.float .f64 (powT k))∧w=w':=by
 have hbd:=run_buildPow
 rcases (show k=0∨k=1∨k=2∨k=3∨k=4∨k=5∨k=6 by omega) with rfl | rfl | rfl | rfl | rfl | rfl | rfl
 · have hix:=run_idxPow0
   go_enter Tryz.func191,Tryz.ntmps191
   go_wp2_with fail
   go_ret
   exact ⟨rfl,rfl⟩
 · have hix:=run_idxPow1
   go_enter Tryz.func191,Tryz.ntmps191
   go_wp2_with fail
   go_ret
   exact ⟨rfl,rfl⟩
 · have hix:=run_idxPow2
   go_enter Tryz.func191,Tryz.ntmps191
   go_wp2_with fail
   go_ret
   exact ⟨rfl,rfl⟩
 · have hix:=run_idxPow3
   go_enter Tryz.func191,Tryz.ntmps191
   go_wp2_with fail
   go_ret
   exact ⟨rfl,rfl⟩
 · have hix:=run_idxPow4
   go_enter Tryz.func191,Tryz.ntmps191
   go_wp2_with fail
   go_ret
   exact ⟨rfl,rfl⟩
 · have hix:=run_idxPow5
   go_enter Tryz.func191,Tryz.ntmps191
   go_wp2_with fail
   go_ret
   exact ⟨rfl,rfl⟩
 · have hix:=run_idxPow6
   go_enter Tryz.func191,Tryz.ntmps191
   go_wp2_with fail
   go_ret
   exact ⟨rfl,rfl⟩
theorem slcut_dot (s:List UInt8) (hs:s.length≤1048576) (w:World):Calls Tryz.prog 245 #[.string (str s),.string ⟨#[46]⟩] w fun e w'=>e = .returned (.tuple #[.string (str (rpW s)),.string (str (rpP s)),.bool (rpO s)])∧∃ q,w'=w.drewN q:=by
 have hix:=Tryz.stringslite_Index_one (str s) 46
 rw [str_data] at hix
 rcases cut_split s with h | ⟨X,P,rfl,h⟩
 · have hr:rpW s=s∧rpP s=[]∧rpO s=false:=by unfold rpW rpP rpO;rw [cut_no h];exact ⟨rfl,rfl,rfl⟩
   rw [hr.1,hr.2.1,hr.2.2]
   rw [indexByte_none s h] at hix
   clear h hr
   go_enter Tryz.func245,Tryz.ntmps245
   go_wp2_with (go_at_call 261;refine (hix _).mono ?_;rintro e w' ⟨rfl,rfl⟩)
   go_ret3
   exact ⟨rfl,0,rfl⟩
 · have hr:rpW (X++46::P)=X∧rpP (X++46::P)=P∧rpO (X++46::P)=true:=by unfold rpW rpP rpO;rw [cut_app h];exact ⟨rfl,rfl,rfl⟩
   rw [hr.1,hr.2.1,hr.2.2]
   rw [indexByte_app X P h] at hix
   obtain ⟨n,hn⟩:∃ n,n=X.length:=⟨_,rfl⟩
   rw [← hn] at hix
   obtain ⟨S,hS⟩:∃ S,S=X++46::P:=⟨_,rfl⟩
   rw [← hS] at hix ⊢
   have hsl:S.length≤1048576:=by rw [hS];exact hs
   have hnl:n+1≤S.length:=by rw [hS,hn];simp
   have hx1:(S.take n)=X:=by rw [hS,hn];simp
   have hx2:(S.drop (n+1))=P:=by rw [hS,hn];simp
   have e9:List.take (S.length - (n+1)) (List.drop (n+1) S)=P:=by rw [List.take_of_length_le (by rw [List.length_drop];omega)];exact hx2
   have hz1:(n:Int)≤S.length:=by omega
   have hz2:(n:Int)+1≤S.length:=by omega
   have hz3:n≤S.length:=by omega
   have hz4:(n:Int)<S.length:=by omega
   have hz5:n<S.length:=by omega
   have hz6:(0:Int)≤(n:Int)+1:=by omega
   have hwr:IntKind.i64.wrap ((n:Int)+1)=(n:Int)+1:=by rw [IntKind.wrap_i64];omega
   clear h hr hS hn hs hx2
   go_enter Tryz.func245,Tryz.ntmps245
   go_wp2_with (go_at_call 261;refine (hix _).mono ?_;rintro e w' ⟨rfl,rfl⟩)
   go_quiet (fail)
   go_wp2_with fail
   go_ret3
   exact ⟨rfl,_,rfl⟩
theorem cut_dot (s:List UInt8) (hs:s.length≤1048576) (w:World):Calls Tryz.prog 225 #[.string (str s),.string ⟨#[46]⟩] w fun e w'=>e = .returned (.tuple #[.string (str (rpW s)),.string (str (rpP s)),.bool (rpO s)])∧∃ q,w'=w.drewN q:=by
 go_enter Tryz.func225,Tryz.ntmps225
 go_wp2_with (go_at_call 245;refine (slcut_dot s hs _).mono ?_;rintro e w' ⟨rfl,q,rfl⟩)
 go_ret3
 exact ⟨rfl,q,rfl⟩
set_option maxRecDepth 100000 in
set_option maxHeartbeats 3200000 in
theorem rparse_any (s:List UInt8) (hs:s.length≤1048576) (w:World):
  Calls Tryz.prog 193 #[.string (str s)] w fun e w'=>e = .returned (.tuple #[.int .u64 (rpB s),.int .i64 (rpF s)])∧Below w.heap.size w w':=by
 obtain ⟨X,hX⟩:∃ X,X=rpW s:=⟨_,rfl⟩
 obtain ⟨P,hP⟩:∃ P,P=rpP s:=⟨_,rfl⟩
 obtain ⟨O,hO⟩:∃ O,O=rpO s:=⟨_,rfl⟩
 have HC:=Lib.hid (show (Lib.cut s [46]).1=X∧(Lib.cut s [46]).2.1=P∧(Lib.cut s [46]).2.2=O from ⟨hX.symm,hP.symm,hO.symm⟩)
 have HR:=Lib.hid (show rpOk s=(fmtB O X P&&(X++P).all digB)∧rpB s=(if rpOk s=true then arN .quo (floatOfInt .f64 (decV (X++P))) (powT P.length) else 0) from by
  unfold rpB rpOk;rw [hX,hP,hO];exact ⟨rfl,rfl⟩)
 have HM:=Lib.hid (And.intro trivial hs)
 clear hX hP hO hs
 go_enter Tryz.func193,Tryz.ntmps193
 go_upto_region 2 with (first
  | (go_at_call 225
     go_must (refine (cut_dot s HM.out.2 _).mono ?_
              rw [show rpW s=X from HC.out.1,show rpP s=P from HC.out.2.1,show rpO s=O from HC.out.2.2]
              rintro e' w1 ⟨rfl,q,hw⟩
              have HB:=Lib.hid (show Below w.heap.size w w1 from by rw [hw];exact below_drewN (Below.refl _ _) q)
              clear hw)))
 go_cut [47] (fun sv wx=>sv = .bool (!fmtB O X P)∧wx=w1)
 case first=>
  cases O with
  | false=>
    have HF:=Lib.hid (show fmtB false X P=false from by unfold fmtB;exact decide_eq_false (fun h=>by simp at h))
    go_wp2_with fail
    go_meet
    case rel=>exact ⟨by rw [HF.out];rfl,rfl⟩
  | true=>
    cases X with
    | nil=>
      have HF:=Lib.hid (show fmtB true [] P=false from by unfold fmtB;exact decide_eq_false (fun h=>by simp at h))
      go_wp2_with fail
      go_meet
      case rel=>exact ⟨by rw [HF.out];rfl,rfl⟩
    | cons x r=>
      by_cases hp0:P=[]
      · subst hp0
        have HF:=Lib.hid (show fmtB true (x::r) []=false from by unfold fmtB;exact decide_eq_false (fun h=>by simp at h))
        go_wp2_with fail
        go_meet
        case rel=>exact ⟨by rw [HF.out];rfl,rfl⟩
      have hpb:(P==[])=false:=by simpa using hp0
      by_cases hp6:6<P.length
      · have h6:(6:Int)<P.length:=by omega
        have HF:=Lib.hid (show fmtB true (x::r) P=false from by unfold fmtB;exact decide_eq_false (fun h=>by have:=h.2.2.2.1;omega))
        clear hp0 hp6
        go_wp2_with fail
        go_meet
        case rel=>exact ⟨by rw [HF.out];rfl,rfl⟩
      have h6:¬ (6:Int)<P.length:=by omega
      by_cases hp15:15<(x::r).length+P.length
      · have h15:(15:Int)<(x::r).length+P.length:=by omega
        have h15':(15:Int)<r.length+1+P.length:=by simp at hp15;omega
        have HF:=Lib.hid (show fmtB true (x::r) P=false from by unfold fmtB;exact decide_eq_false (fun h=>by have:=h.2.2.2.2.1;omega))
        have hrl:r.length+1≤1048576:=by have:=cut_len s;rw [HC.out.1] at this;simp at this;have:=HM.out.2;omega
        clear hp0 hp6 hp15
        go_wp2_with fail
        go_meet
        case rel=>exact ⟨by rw [HF.out];rfl,rfl⟩
      have h15:¬ (15:Int)<r.length+1+P.length:=by simp at hp15;omega
      have h15b:r.length+1+P.length≤15:=by simp at hp15;omega
      have hidx:∀ W,(Instr.index 9 (.string (str (x::r))) (.int .i64 0)).run Tryz.prog W = .ok (.int .u8 (x.toNat:Nat)) W:=fun W=>run_idx0 (x::r) 0 (by simp) W
      by_cases hx:x=48
      · subst hx
        cases r with
        | nil=>
          have h15c:¬ (15:Int)<1+P.length:=by simp at h15b;omega
          have HF:=Lib.hid (show fmtB true [48] P=true from by unfold fmtB;exact decide_eq_true ⟨rfl,by simp,hp0,by omega,by simp at h15b ⊢;omega,by simp⟩)
          clear hp0 hp6 hp15
          go_wp2_with fail
          go_meet
          case rel=>exact ⟨by rw [HF.out];rfl,rfl⟩
        | cons y r=>
          have h15d:¬ (15:Int)<r.length+1+1+P.length:=by simp at h15b;omega
          have HF:=Lib.hid (show fmtB true (48::y::r) P=false from by unfold fmtB;exact decide_eq_false (fun h=>h.2.2.2.2.2 ⟨rfl,by simp⟩))
          clear hp0 hp6 hp15
          go_wp2_with fail
          go_meet
          case rel=>exact ⟨by rw [HF.out];rfl,rfl⟩
      · have hx48:((x.toNat:Int)==48)=false:=by
         have:x.toNat≠48:=fun e=>hx (UInt8.toNat.inj (by rw [e];rfl))
         simp;omega
        have HF:=Lib.hid (show fmtB true (x::r) P=true from by unfold fmtB;exact decide_eq_true ⟨rfl,by simp,hp0,by omega,by simp;omega,fun h=>hx (by simpa using h.1)⟩)
        clear hp0 hp6 hp15 hx
        go_wp2_with fail
        go_meet
        case rel=>exact ⟨by rw [HF.out];rfl,rfl⟩
 case rest=>
  obtain ⟨rfl,hwx⟩:=hcut
  have hwx':=hwx.symm
  subst hwx'
  clear hwx
  rcases hf:fmtB O X P with _ | _
  · have HK:=Lib.hid (rp_bad (s:=s) (by rw [HR.out.1,hf];rfl))
    simp only [Bool.not_false]
    clear hf
    go_wp2_with fail
    go_ret2
    rw [HK.out.1,HK.out.2]
    exact ⟨rfl,HB.out⟩
  · simp only [Bool.not_true]
    have hfd:O=true∧X≠[]∧P≠[]∧P.length≤6∧X.length+P.length≤15∧¬ (X.head?=some 48∧X≠[48]):=by unfold fmtB at hf;exact of_decide_eq_true hf
    have hp6:P.length≤6:=hfd.2.2.2.1
    have hxp:X.length+P.length≤15:=hfd.2.2.2.2.1
    have HFT:=Lib.hid hf
    clear hf hfd
    obtain ⟨D,hD⟩:∃ D,D=X++P:=⟨_,rfl⟩
    have hDl:D.length≤15:=by rw [hD,List.length_append];omega
    have hsum:∀ W,(Op.stringOp .add (str X) (str P)).run Tryz.prog W = .ok (.string (str D)) W:=fun W=>by
     have:=run_string_add_sum (P:=Tryz.prog) (w:=W) (str X) (str P) (by rw [str_size,str_size];omega)
     rw [this,str_append,hD]
    have HD:=Lib.hid hD
    obtain ⟨n,hn⟩:∃ n,n=D.length:=⟨_,rfl⟩
    have kb:=fun (w:World) (l:List UInt8)=>Lib.run_convert_string_bytes (P:=Tryz.prog) w 9 82 5 (str l) Tryz.underlying9 Tryz.underlying82 Tryz.underlying5
    have HN:=Lib.hid hn
    clear hD hn
    go_wp2_with fail
    have hbw:=bw_below w1 5 D
    have HS:=Lib.hid (bw_slN w1 5 D n HN.out.symm)
    have HB2:=Lib.hid (below_then HB.out hbw)
    have hnl:n≤15:=by rw [HN.out];exact hDl
    clear hbw hsum kb
    generalize hk:w1.heap.size=k51 at *
    generalize (Lib.bytesWorld w1 5 (str D))=W2 at *
    have HK1:=Lib.hid hk
    clear hk
    go_loopw [7,53] (fun nv iv wr=>∃ k:Nat,k≤n∧nv = .int .i64 (decV (D.take k):Nat)∧iv = .int .i64 k∧wr=W2∧(D.take k).all digB=true) (fun _ iv _=>n - (intOf iv).toNat)
    case atStart=>exact ⟨0,by omega,by simp [decV],rfl,rfl,by simp⟩
    case round=>
     obtain ⟨k,hk,rfl,rfl,rfl,hall⟩:=hrel
     have hnD:D.length=n:=HN.out.symm
     by_cases hlt:k<n
     · have hkD:k<D.length:=by omega
       obtain ⟨x,hx⟩:∃ x,D[k]?=some x:=⟨_,List.getElem?_eq_getElem hkD⟩
       obtain ⟨ad,u,hA,-,hu,hca⟩:=HS.out.at1 hlt
       have hu2:u = .int .u8 (x.toNat:Int):=by
        have:=hu
        unfold byt at this
        rw [List.getElem?_map,hx] at this
        exact (Option.some.inj this).symm
       subst hu2
       have hA':=Option.some.inj hA
       subst hA'
       have hca2:wr.cell? ⟨k51,k,none⟩=some (.int .u8 (x.toNat:Int)):=by
        have h:=hca
        simp only [Addr.add,Nat.zero_add] at h
        split at h
        · rename_i h0
          rw [h0]
          exact h
        · exact h
       have htk:D.take (k+1)=D.take k++[x]:=by rw [List.take_add_one,hx];rfl
       obtain ⟨V,hV⟩:∃ V,V=decV (D.take k):=⟨_,rfl⟩
       have hVb:V<10 ^ 15:=by
        have h1:=decV_lt _ hall
        rw [← hV,List.length_take] at h1
        exact Nat.lt_of_lt_of_le h1 (Nat.pow_le_pow_right (by omega) (by omega))
       have h1515:(10:Nat) ^ 15=1000000000000000:=by decide
       have hVi:(V:Int)≤1000000000000000:=by omega
       clear h1515
       have hV0:(0:Int)≤V:=by omega
       have hx255:x.toNat≤255:=by have:=x.toNat_lt;omega
       have hki:(k:Int)<n:=by omega
       rw [← hV]
       by_cases hx1:(x.toNat:Int)<48
       · have HK:=Lib.hid (rp_bad (s:=s) (by
          rw [HR.out.1,← HD.out]
          have:D.all digB=false:=List.all_eq_false.2 ⟨x,List.mem_of_getElem? hx,by unfold digB;simp;omega⟩
          rw [this];simp))
         have HB:=HB2
         clear hu hA hca hx htk hall hV hVb hnD
         go_wp2_with fail
         go_ret2
         rw [HK.out.1,HK.out.2]
         exact ⟨rfl,HB.out⟩
       by_cases hx2:(57:Int)<x.toNat
       · have HK:=Lib.hid (rp_bad (s:=s) (by
          rw [HR.out.1,← HD.out]
          have:D.all digB=false:=List.all_eq_false.2 ⟨x,List.mem_of_getElem? hx,by unfold digB;simp;omega⟩
          rw [this];simp))
         have HB:=HB2
         clear hu hA hca hx htk hall hV hVb hnD
         go_wp2_with fail
         go_ret2
         rw [HK.out.1,HK.out.2]
         exact ⟨rfl,HB.out⟩
       · have HT:=Lib.hid (show ((10*V+(x.toNat - 48):Nat):Int)=((decV (D.take (k+1)):Nat):Int)∧(D.take (k+1)).all digB=true from by
          refine ⟨by rw [htk,decV_succ,← hV],?_⟩
          rw [htk,List.all_append,hall]
          have:digB x=true:=by unfold digB;exact decide_eq_true ⟨by omega,by omega⟩
          simp [this])
         have hx3:(48:Int)≤x.toNat:=by omega
         have hx4:(x.toNat:Int)≤57:=by omega
         clear hu hA hca hx htk hall hV hVb hnD hx1
         go_wp2_with fail
         go_roundw
         case rel=>exact ⟨k+1,by omega,by rw [← HT.out.1];congr 1;omega,by go_num,trivial,HT.out.2⟩
         case measure=>simp [intOf];omega
     · have hkn:k=n:=by omega
       have hld:¬ k<D.length:=by omega
       have htk:D.take k=D:=List.take_of_length_le (by omega)
       rw [htk] at hall ⊢
       have HOK:=Lib.hid (show rpB s=arN .quo (floatOfInt .f64 (decV D)) (powT P.length)∧rpF s=0 from by
        have hok:rpOk s=true:=by rw [HR.out.1,HFT.out,← HD.out,hall];rfl
        rw [HR.out.2,if_pos hok,← HD.out]
        unfold rpF
        rw [if_pos hok]
        exact ⟨rfl,rfl⟩)
       clear htk hall hnD hk hkn
       cases h:floatBits .quo .f64 (floatOfInt .f64 (decV D)) (powT P.length) with
       | some r=>
         have hrun:=fun w t=>run_float_arith (P:=Tryz.prog) w .quo t .f64 _ _ _ h
         have HE:=Lib.hid (show arN .quo (floatOfInt .f64 (decV D)) (powT P.length)=toN r by simp [arN,h])
         clear h
         go_wp2_with (first
          | (go_at_call 191;refine (rpowers_any P.length hp6 _).mono ?_;rintro e w' ⟨rfl,rfl⟩)
          | (go_at_call 116;refine (pto_any _ _).mono ?_;rintro e w' ⟨rfl,rfl⟩))
         go_ret2
         rw [HOK.out.1,HOK.out.2,HE.out]
         exact ⟨rfl,HB2.out⟩
       | none=>
         obtain ⟨r,hrun,hnan⟩:=run_float_nan (P:=Tryz.prog) wr .quo 185 _ _ (.inr (.inr (.inr rfl))) h
         have HE:=Lib.hid (show arN .quo (floatOfInt .f64 (decV D)) (powT P.length)=toN r by simp [arN,h,toN,hnan])
         clear h hnan
         go_wp2_with (first
          | (go_at_call 191;refine (rpowers_any P.length hp6 _).mono ?_;rintro e w' ⟨rfl,rfl⟩)
          | (go_at_call 116;refine (pto_any _ _).mono ?_;rintro e w' ⟨rfl,rfl⟩))
         go_ret2
         rw [HOK.out.1,HOK.out.2,HE.out]
         exact ⟨rfl,HB2.out.drew⟩
end
section
theorem frombits (a:Int) (w:World):(callFunc 162 #[.int .u64 a]).run Tryz.prog w = .ok (.value (.float .f64 a.toNat)) w:=by
 rw [run_callFunc_extern (P:=Tryz.prog) Tryz.func162 (by kernel_rfl) (by kernel_rfl) (e:=Extern.MathFloatBits.float64frombits) (by kernel_rfl) (by kernel_rfl)]
 rfl
theorem pof_any (a:Int) (w:World):Calls Tryz.prog 117 #[.int .u64 a] w fun e w'=>e = .returned (.float .f64 a.toNat)∧w=w':=by
 have h1:=frombits
 go_enter Tryz.func117,Tryz.ntmps117
 go_wp2
 go_ret
 exact ⟨rfl,rfl⟩
theorem pcanon_any (a:Int) (w:World):Calls Tryz.prog 64 #[.int .u64 a] w fun e w'=>e = .returned (.int .u64 (toN a.toNat))∧w=w':=by
 go_enter Tryz.func64,Tryz.ntmps64
 go_wp2_with (first
  | (go_at_call 117;refine (pof_any _ _).mono ?_;rintro e w' ⟨rfl,rfl⟩)
  | (go_at_call 116;refine (pto_any _ _).mono ?_;rintro e w' ⟨rfl,rfl⟩))
 go_ret
 exact ⟨rfl,rfl⟩
theorem pmay_any (a:Int) (w:World):Calls Tryz.prog 34 #[.int .u64 a] w fun e w'=>e = .returned (.bool (((toN a.toNat:Nat):Int)==a))∧w=w':=by
 go_enter Tryz.func34,Tryz.ntmps34
 go_wp2_with (first
  | (go_at_call 64;refine (pcanon_any _ _).mono ?_;rintro e w' ⟨rfl,rfl⟩))
 go_ret
 exact ⟨rfl,rfl⟩
end
section
def ngN (a:Int):Int:=if FloatKind.f64.format.order a.toNat a.toNat=some .eq then bits .xor .u64 a 9223372036854775808 else 9221120237041090560
theorem nan_const:FloatKind.f64.format.order 9221120237041090560 9221120237041090560=none:=by decide
theorem toN_const (b:Nat):(((toN b:Nat):Int)==9221120237041090560)=(FloatKind.f64.format.order b b != some .eq):=by
 rcases toN_cases b with ⟨h1,h2⟩ | ⟨h1,h2⟩
 · rw [h2,h1]
   by_cases hb:b=9221120237041090560
   · subst hb;rw [nan_const] at h1;cases h1
   · have:((b:Int)==9221120237041090560)=false:=by simp;omega
     rw [this];rfl
 · rw [h2,h1];rfl
theorem qof_any (a:Int) (w:World):Calls Tryz.prog 140 #[.int .u64 a] w fun e w'=>e = .returned (.float .f64 a.toNat)∧w=w':=by
 have h1:=frombits
 go_enter Tryz.func140,Tryz.ntmps140
 go_wp2
 go_ret
 exact ⟨rfl,rfl⟩
theorem qto_any (b:Nat) (w:World):Calls Tryz.prog 139 #[.float .f64 b] w fun e w'=>e = .returned (.int .u64 (toN b))∧w=w':=by
 have h1:=tobits
 rcases toN_cases b with ⟨h2,h3⟩ | ⟨h2,h3⟩
 · rw [h3]
   clear h3
   go_enter Tryz.func139,Tryz.ntmps139
   go_wp2
   go_ret
   exact ⟨rfl,rfl⟩
 · rw [h3]
   clear h3
   go_enter Tryz.func139,Tryz.ntmps139
   go_wp2
   go_ret
   exact ⟨rfl,rfl⟩
theorem qcanon_any (a:Int) (w:World):Calls Tryz.prog 86 #[.int .u64 a] w fun e w'=>e = .returned (.int .u64 (toN a.toNat))∧w=w':=by
 go_enter Tryz.func86,Tryz.ntmps86
 go_wp2_with (first
  | (go_at_call 140;refine (qof_any _ _).mono ?_;rintro e w' ⟨rfl,rfl⟩)
  | (go_at_call 139;refine (qto_any _ _).mono ?_;rintro e w' ⟨rfl,rfl⟩))
 go_ret
 exact ⟨rfl,rfl⟩
end
end Go.Proofs.YtinjiigdijbjeaaGreatDoor
section
namespace Go.Proofs
open Go.Shelf
def Tryz.laysM171_ren:Go.Shelf.Ren:=⟨fun | 171=>224 | 243=>244 | 246=>159 | 283=>194 | 284=>195 | 285=>196 | 286=>197 | 129=>227 | 317=>226 | 318=>228 | 319=>229 | 320=>230 | 337=>246 | 338=>247 | n=>n,fun | 3=>3 | 9=>9 | 2=>2 | 4=>4 | 171=>249 | 0=>0 | 53=>24 | 37=>82 | 5=>5 | 173=>252 | 212=>274 | 51=>275 | 20=>20 | 213=>276 | 46=>218 | 232=>302 | 233=>303 | n=>n,fun | 17=>1 | 18=>2 | 19=>3 | n=>n⟩
theorem Tryz.laysM171:Go.Proofs.LaysM.n171 Tryz.prog Tryz.laysM171_ren:={
 mixed:=by kernel_rfl
 f129:=Tryz.func227.trans (congrArg some (by kernel_rfl))
 f171:=Tryz.func224.trans (congrArg some (by kernel_rfl))
 f243:=Tryz.func244.trans (congrArg some (by kernel_rfl))
 f246:=Tryz.func159.trans (congrArg some (by kernel_rfl))
 f283:=Tryz.func194.trans (congrArg some (by kernel_rfl))
 f284:=Tryz.func195.trans (congrArg some (by kernel_rfl))
 f285:=Tryz.func196.trans (congrArg some (by kernel_rfl))
 f286:=Tryz.func197.trans (congrArg some (by kernel_rfl))
 f317:=Tryz.func226.trans (congrArg some (by kernel_rfl))
 f318:=Tryz.func228.trans (congrArg some (by kernel_rfl))
 f319:=Tryz.func229.trans (congrArg some (by kernel_rfl))
 f320:=Tryz.func230.trans (congrArg some (by kernel_rfl))
 f337:=Tryz.func246.trans (congrArg some (by kernel_rfl))
 f338:=Tryz.func247.trans (congrArg some (by kernel_rfl))
 t0:=Tryz.underlying0
 a0:=Tryz.isAgg0
 z0:=Tryz.sizeOf0
 v0:=Tryz.zeroValue0
 t2:=Tryz.underlying2
 a2:=Tryz.isAgg2
 z2:=Tryz.sizeOf2
 v2:=Tryz.zeroValue2
 t3:=Tryz.underlying3
 a3:=Tryz.isAgg3
 z3:=Tryz.sizeOf3
 v3:=Tryz.zeroValue3
 t4:=Tryz.underlying4
 a4:=Tryz.isAgg4
 z4:=Tryz.sizeOf4
 v4:=Tryz.zeroValue4
 t5:=Tryz.underlying5
 a5:=Tryz.isAgg5
 z5:=Tryz.sizeOf5
 v5:=Tryz.zeroValue5
 t9:=Tryz.underlying9
 a9:=Tryz.isAgg9
 z9:=Tryz.sizeOf9
 v9:=Tryz.zeroValue9
 t20:=Tryz.underlying20
 a20:=Tryz.isAgg20
 z20:=Tryz.sizeOf20
 v20:=Tryz.zeroValue20
 t37:=Tryz.underlying82
 a37:=Tryz.isAgg82
 z37:=Tryz.sizeOf82
 v37:=Tryz.zeroValue82
 t46:=Tryz.underlying218
 a46:=Tryz.isAgg218
 z46:=Tryz.sizeOf218
 v46:=Tryz.zeroValue218
 t51:=Tryz.underlying275
 a51:=Tryz.isAgg275
 z51:=Tryz.sizeOf275
 v51:=Tryz.zeroValue275
 t53:=Tryz.underlying24
 a53:=Tryz.isAgg24
 z53:=Tryz.sizeOf24
 v53:=Tryz.zeroValue24
 t171:=Tryz.underlying249
 a171:=Tryz.isAgg249
 z171:=Tryz.sizeOf249
 v171:=Tryz.zeroValue249
 t173:=Tryz.underlying252
 a173:=Tryz.isAgg252
 z173:=Tryz.sizeOf252
 v173:=Tryz.zeroValue252
 t212:=Tryz.underlying274
 a212:=Tryz.isAgg274
 z212:=Tryz.sizeOf274
 v212:=Tryz.zeroValue274
 t213:=Tryz.underlying276
 a213:=Tryz.isAgg276
 z213:=Tryz.sizeOf276
 t232:=Tryz.underlying302
 a232:=Tryz.isAgg302
 z232:=Tryz.sizeOf302
 v232:=Tryz.zeroValue302
 t233:=Tryz.underlying303
 a233:=Tryz.isAgg303
 z233:=Tryz.sizeOf303
 v233:=Tryz.zeroValue303
 g17:=by kernel_rfl
 g18:=by kernel_rfl
 g19:=by kernel_rfl
 i0:=by kernel_rfl
 i2:=by kernel_rfl
 i3:=by kernel_rfl
 i4:=by kernel_rfl
 i5:=by kernel_rfl
 i9:=by kernel_rfl
 i20:=by kernel_rfl
 i37:=by kernel_rfl
 i46:=by kernel_rfl
 i51:=by kernel_rfl
 i53:=by kernel_rfl
 i171:=by kernel_rfl
 i173:=by kernel_rfl
 i212:=by kernel_rfl
 i232:=by kernel_rfl
 i233:=by kernel_rfl
 m17:=by kernel_rfl
 m18:=by kernel_rfl
 m19:=by kernel_rfl }
open Go.RowKit Go.Sort Go.Lib in
theorem Tryz.strconv_Itoa (n:Int) (h0 : -9223372036854775808≤n) (h1:n≤9223372036854775807) (w:World) (htab:Lib.TabIs Tryz.prog w "internal/strconv.uint64pow10" .u64 Lib.pow10Tab):
 Calls Tryz.prog 224 #[.int .i64 n] w fun e w'=>e = .returned (.string ⟨(Lib.itoa n).toArray⟩)∧∃ k os,w'=grow (w.drewN k) os:=Any.strconv_Itoa Tryz.laysM171 n h0 h1 w htab
def Tryz.laysM173_ren:Go.Shelf.Ren:=⟨fun | 173=>113 | 246=>159 | 283=>194 | 284=>195 | 285=>196 | 286=>197 | 129=>227 | 317=>226 | 318=>228 | 319=>229 | 320=>230 | 337=>246 | 338=>247 | n=>n,fun | 2=>2 | 3=>3 | 9=>9 | 4=>4 | 171=>249 | 0=>0 | 53=>24 | 37=>82 | 5=>5 | 173=>252 | 212=>274 | 51=>275 | 20=>20 | 213=>276 | 46=>218 | 232=>302 | 233=>303 | n=>n,fun | 17=>1 | 18=>2 | 19=>3 | n=>n⟩
theorem Tryz.laysM173:Go.Proofs.LaysM.n173 Tryz.prog Tryz.laysM173_ren:={
 mixed:=by kernel_rfl
 f129:=Tryz.func227.trans (congrArg some (by kernel_rfl))
 f173:=Tryz.func113.trans (congrArg some (by kernel_rfl))
 f246:=Tryz.func159.trans (congrArg some (by kernel_rfl))
 f283:=Tryz.func194.trans (congrArg some (by kernel_rfl))
 f284:=Tryz.func195.trans (congrArg some (by kernel_rfl))
 f285:=Tryz.func196.trans (congrArg some (by kernel_rfl))
 f286:=Tryz.func197.trans (congrArg some (by kernel_rfl))
 f317:=Tryz.func226.trans (congrArg some (by kernel_rfl))
 f318:=Tryz.func228.trans (congrArg some (by kernel_rfl))
 f319:=Tryz.func229.trans (congrArg some (by kernel_rfl))
 f320:=Tryz.func230.trans (congrArg some (by kernel_rfl))
 f337:=Tryz.func246.trans (congrArg some (by kernel_rfl))
 f338:=Tryz.func247.trans (congrArg some (by kernel_rfl))
 t0:=Tryz.underlying0
 a0:=Tryz.isAgg0
 z0:=Tryz.sizeOf0
 v0:=Tryz.zeroValue0
 t2:=Tryz.underlying2
 a2:=Tryz.isAgg2
 z2:=Tryz.sizeOf2
 v2:=Tryz.zeroValue2
 t3:=Tryz.underlying3
 a3:=Tryz.isAgg3
 z3:=Tryz.sizeOf3
 v3:=Tryz.zeroValue3
 t4:=Tryz.underlying4
 a4:=Tryz.isAgg4
 z4:=Tryz.sizeOf4
 v4:=Tryz.zeroValue4
 t5:=Tryz.underlying5
 a5:=Tryz.isAgg5
 z5:=Tryz.sizeOf5
 v5:=Tryz.zeroValue5
 t9:=Tryz.underlying9
 a9:=Tryz.isAgg9
 z9:=Tryz.sizeOf9
 v9:=Tryz.zeroValue9
 t20:=Tryz.underlying20
 a20:=Tryz.isAgg20
 z20:=Tryz.sizeOf20
 v20:=Tryz.zeroValue20
 t37:=Tryz.underlying82
 a37:=Tryz.isAgg82
 z37:=Tryz.sizeOf82
 v37:=Tryz.zeroValue82
 t46:=Tryz.underlying218
 a46:=Tryz.isAgg218
 z46:=Tryz.sizeOf218
 v46:=Tryz.zeroValue218
 t51:=Tryz.underlying275
 a51:=Tryz.isAgg275
 z51:=Tryz.sizeOf275
 v51:=Tryz.zeroValue275
 t53:=Tryz.underlying24
 a53:=Tryz.isAgg24
 z53:=Tryz.sizeOf24
 v53:=Tryz.zeroValue24
 t171:=Tryz.underlying249
 a171:=Tryz.isAgg249
 z171:=Tryz.sizeOf249
 v171:=Tryz.zeroValue249
 t173:=Tryz.underlying252
 a173:=Tryz.isAgg252
 z173:=Tryz.sizeOf252
 v173:=Tryz.zeroValue252
 t212:=Tryz.underlying274
 a212:=Tryz.isAgg274
 z212:=Tryz.sizeOf274
 v212:=Tryz.zeroValue274
 t213:=Tryz.underlying276
 a213:=Tryz.isAgg276
 z213:=Tryz.sizeOf276
 t232:=Tryz.underlying302
 a232:=Tryz.isAgg302
 z232:=Tryz.sizeOf302
 v232:=Tryz.zeroValue302
 t233:=Tryz.underlying303
 a233:=Tryz.isAgg303
 z233:=Tryz.sizeOf303
 v233:=Tryz.zeroValue303
 g17:=by kernel_rfl
 g18:=by kernel_rfl
 g19:=by kernel_rfl
 i0:=by kernel_rfl
 i2:=by kernel_rfl
 i3:=by kernel_rfl
 i4:=by kernel_rfl
 i5:=by kernel_rfl
 i9:=by kernel_rfl
 i20:=by kernel_rfl
 i37:=by kernel_rfl
 i46:=by kernel_rfl
 i51:=by kernel_rfl
 i53:=by kernel_rfl
 i171:=by kernel_rfl
 i173:=by kernel_rfl
 i212:=by kernel_rfl
 i232:=by kernel_rfl
 i233:=by kernel_rfl
 m17:=by kernel_rfl
 m18:=by kernel_rfl
 m19:=by kernel_rfl }
open Go.RowKit Go.Sort Go.Lib in
theorem Tryz.strconv_FormatInt_10 (n:Int) (h0 : -9223372036854775808≤n) (h1:n≤9223372036854775807) (w:World) (htab:Lib.TabIs Tryz.prog w "internal/strconv.uint64pow10" .u64 Lib.pow10Tab):
 Calls Tryz.prog 113 #[.int .i64 n,.int .i64 10] w fun e w'=>e = .returned (.string ⟨(Lib.itoa n).toArray⟩)∧∃ k os,w'=grow (w.drewN k) os:=Any.strconv_FormatInt_10 Tryz.laysM173 n h0 h1 w htab
def Tryz.lays105_ren:Go.Shelf.Ren:=⟨fun | 105=>237 | 212=>250 | 99=>251 | 165=>252 | 166=>61 | 170=>169 | 169=>33 | 263=>262 | 264=>256 | 206=>263 | 240=>112 | 241=>264 | 276=>158 | 277=>272 | n=>n,fun | 9=>9 | 3=>3 | 4=>4 | 20=>20 | 0=>0 | 46=>218 | 109=>293 | 5=>5 | 72=>84 | 76=>130 | 51=>275 | 146=>304 | 53=>24 | 148=>297 | 70=>81 | 37=>82 | 75=>129 | 127=>134 | 164=>216 | 80=>88 | n=>n,fun | n=>n⟩
theorem Tryz.lays105:Go.Proofs.Lays.n105 Tryz.prog Tryz.lays105_ren:={
 mixed:=by kernel_rfl
 f99:=Tryz.func251.trans (congrArg some (by kernel_rfl))
 f105:=Tryz.func237.trans (congrArg some (by kernel_rfl))
 f165:=Tryz.func252.trans (congrArg some (by kernel_rfl))
 f166:=Tryz.func61.trans (congrArg some (by kernel_rfl))
 f169:=Tryz.func33.trans (congrArg some (by kernel_rfl))
 f170:=Tryz.func169.trans (congrArg some (by kernel_rfl))
 f206:=Tryz.func263.trans (congrArg some (by kernel_rfl))
 f212:=Tryz.func250.trans (congrArg some (by kernel_rfl))
 f240:=Tryz.func112.trans (congrArg some (by kernel_rfl))
 f241:=Tryz.func264.trans (congrArg some (by kernel_rfl))
 f263:=Tryz.func262.trans (congrArg some (by kernel_rfl))
 f264:=Tryz.func256.trans (congrArg some (by kernel_rfl))
 f276:=Tryz.func158.trans (congrArg some (by kernel_rfl))
 f277:=Tryz.func272.trans (congrArg some (by kernel_rfl))
 t0:=Tryz.underlying0
 a0:=Tryz.isAgg0
 z0:=Tryz.sizeOf0
 v0:=Tryz.zeroValue0
 t3:=Tryz.underlying3
 a3:=Tryz.isAgg3
 z3:=Tryz.sizeOf3
 v3:=Tryz.zeroValue3
 t4:=Tryz.underlying4
 a4:=Tryz.isAgg4
 z4:=Tryz.sizeOf4
 v4:=Tryz.zeroValue4
 t5:=Tryz.underlying5
 a5:=Tryz.isAgg5
 z5:=Tryz.sizeOf5
 v5:=Tryz.zeroValue5
 t9:=Tryz.underlying9
 a9:=Tryz.isAgg9
 z9:=Tryz.sizeOf9
 v9:=Tryz.zeroValue9
 t20:=Tryz.underlying20
 a20:=Tryz.isAgg20
 z20:=Tryz.sizeOf20
 v20:=Tryz.zeroValue20
 t37:=Tryz.underlying82
 a37:=Tryz.isAgg82
 z37:=Tryz.sizeOf82
 v37:=Tryz.zeroValue82
 t46:=Tryz.underlying218
 a46:=Tryz.isAgg218
 z46:=Tryz.sizeOf218
 v46:=Tryz.zeroValue218
 t51:=Tryz.underlying275
 a51:=Tryz.isAgg275
 z51:=Tryz.sizeOf275
 v51:=Tryz.zeroValue275
 t53:=Tryz.underlying24
 a53:=Tryz.isAgg24
 z53:=Tryz.sizeOf24
 v53:=Tryz.zeroValue24
 t70:=Tryz.underlying81
 a70:=Tryz.isAgg81
 z70:=Tryz.sizeOf81
 v70:=Tryz.zeroValue81
 t72:=Tryz.underlying84
 a72:=Tryz.isAgg84
 z72:=Tryz.sizeOf84
 v72:=Tryz.zeroValue84
 t75:=Tryz.underlying129
 a75:=Tryz.isAgg129
 z75:=Tryz.sizeOf129
 v75:=Tryz.zeroValue129
 t76:=Tryz.underlying130
 a76:=Tryz.isAgg130
 z76:=Tryz.sizeOf130
 v76:=Tryz.zeroValue130
 t109:=Tryz.underlying293
 a109:=Tryz.isAgg293
 z109:=Tryz.sizeOf293
 v109:=Tryz.zeroValue293
 t127:=Tryz.underlying134
 a127:=Tryz.isAgg134
 z127:=Tryz.sizeOf134
 v127:=Tryz.zeroValue134
 t146:=Tryz.underlying304
 a146:=Tryz.isAgg304
 z146:=Tryz.sizeOf304
 v146:=Tryz.zeroValue304
 t148:=Tryz.underlying297
 a148:=Tryz.isAgg297
 z148:=Tryz.sizeOf297
 v148:=Tryz.zeroValue297
 t164:=Tryz.underlying216
 a164:=Tryz.isAgg216
 z164:=Tryz.sizeOf216
 v164:=Tryz.zeroValue216 }
theorem Tryz.Builder_Extra_105:Builder.Extra Tryz.prog Tryz.lays105_ren:={
 sizeBuilder:=by kernel_rfl
 liesBuilder:=by kernel_rfl
 t5:=Tryz.underlying5
 a5:=Tryz.isAgg5
 z5:=Tryz.sizeOf5
 v5:=Tryz.zeroValue5
 infoByte:=by kernel_rfl
 cellsByte:=by kernel_rfl
 sizeByte:=by kernel_rfl
 neB5:=by decide }
open Go.RowKit Go.Lib in
theorem Tryz.strings_Repeat (s:ByteArray) (c:Nat) (w:World) (hc:c≤9223372036854775807) (hlen:s.size*c≤140737488355328):
 Calls Tryz.prog 237 #[.string s,.int .i64 c] w fun e w'=>e = .returned (.string ⟨(Lib.repeatL s.data.toList c).toArray⟩)∧Below w.heap.size w w':=Any.strings_Repeat Tryz.lays105 Tryz.Builder_Extra_105 s c w hc hlen
end Go.Proofs
end
namespace Go.Proofs.YtinjiigdijbjeaaGreatDoor
open Go.RowKit Go.As
section
theorem toIntegral_eq (b:Nat):Extern.MathFloor.toIntegral "math.archFloor" .down #[.float .f64 b]=(match FloatKind.f64.decode b with
 | .nan s t=>
   if FloatKind.f64.format.quiet t=t then pure (.float .f64 b) else do
   let kept ← choose (.extern "math.Floor,Ceil,Trunc,RoundToEven.signallingNaN kept" 2)
   pure (.float .f64 (if kept==1 then b else FloatKind.f64.encode (.nan s (FloatKind.f64.format.quiet t))))
 | d=>pure (.float .f64 (FloatKind.f64.encode (d.integral .down)))):=rfl
theorem archFloor_run (b:Nat) (h:nanW b=false) (w:World):(callFunc 210 #[.float .f64 b]).run Tryz.prog w = .ok (.value (.float .f64 (flW b))) w:=by
 rw [run_callFunc_extern (P:=Tryz.prog) Tryz.func210 (by kernel_rfl) (by kernel_rfl) (e:=Extern.MathFloor.toIntegral "math.archFloor" .down) (by kernel_rfl) (by kernel_rfl)]
 unfold nanW at h
 obtain ⟨D,hD⟩:∃ D,fd.read b=D:=⟨_,rfl⟩
 have hfl:flW b=FloatKind.f64.encode (D.integral .down):=by unfold flW;rw [hD];rfl
 rw [hfl]
 rw [hD] at h
 have hdec:FloatKind.f64.decode b=D:=hD
 rw [toIntegral_eq,hdec]
 cases D with
 | nan s p=>cases h
 | infinity s=>rfl
 | number s m i=>rfl
theorem floor_any (b:Nat) (h:nanW b=false) (w:World):Calls Tryz.prog 175 #[.float .f64 b] w fun e w'=>e = .returned (.float .f64 (flW b))∧w=w':=by
 have h1:=archFloor_run b h
 clear h
 go_enter Tryz.func175,Tryz.ntmps175
 go_wp2
 go_ret
 exact ⟨rfl,rfl⟩
theorem below_growK (w:World) (k:Nat) (os:Array Obj):Below w.heap.size w (Go.Sort.grow (w.drewN k) os):=
 ⟨rfl,rfl,rfl,by simp [Go.Sort.grow,World.drewN],fun i hi=>by
  simp only [Go.Sort.grow,World.drewN]
  exact Array.getElem?_append_left hi⟩
theorem itoa_any (n:Nat) (hn:n<9223372036854775808) (w:World) (ht:Tab w):Calls Tryz.prog 224 #[.int .i64 (n:Int)] w fun e w'=>e = .returned (.string (str (Lib.decDigits n)))∧Below w.heap.size w w':=by
 refine (Tryz.strconv_Itoa (n:Int) (by omega) (by omega) w ht).mono ?_
 rintro e w' ⟨rfl,k,os,rfl⟩
 refine ⟨?_,below_growK _ _ _⟩
 unfold Lib.itoa
 rw [if_neg (by omega),Int.toNat_natCast]
 rfl
def strLen:Value→Nat
 | .string s=>s.size
 | _=>0
theorem strLen_str (l:List UInt8):strLen (.string (str l))=l.length:=str_size l
set_option maxRecDepth 100000 in
theorem literal_any (n k:Nat) (hn:n<10000000000000000) (h1:1≤k) (h6:k≤6) (w:World) (ht:Tab w):
  Calls Tryz.prog 192 #[.int .i64 (n:Int),.int .i64 (k:Int)] w fun e w'=>e = .returned (.string (str (litS n k)))∧Below w.heap.size w w':=by
 obtain ⟨D,hD⟩:∃ D,D=Lib.decDigits n:=⟨_,rfl⟩
 have hDl:D.length=Lib.nDigits n:=by rw [hD];exact Lib.decDigits_length n
 have hnd:Lib.nDigits n≤16:=nDigits_le (w:=15) (by omega)
 have hnd1:=Lib.nDigits_pos n
 obtain ⟨d,hd⟩:∃ d,d=Lib.nDigits n:=⟨_,rfl⟩
 rw [← hd] at hDl hnd hnd1
 have hpad:=pad_lit k n
 rw [← hD,← hd] at hpad
 have HP:=Lib.hid (And.intro hpad (show litS n k=Lib.decDigits (n / 10 ^ k)++46::dgw k n from rfl))
 have HI:=Lib.hid (show ∀ W,Tab W→Calls Tryz.prog 224 #[.int .i64 (n:Int)] W fun e w'=>e = .returned (.string (str D))∧Below W.heap.size W w' from fun W hW=>by rw [hD];exact itoa_any n (by omega) W hW)
 have HDL:=Lib.hid hDl
 have hDl':D.length≤16:=by omega
 clear hD hpad hn hd hDl
 go_enter Tryz.func192,Tryz.ntmps192
 go_wp2_with (go_at_call 224
              refine (HI.out _ ht).mono ?_
              rintro e w1 ⟨rfl,hb⟩
              have HB:=Lib.hid hb
              clear hb)
 go_loopw [5] (fun sv wr=>∃ j:Nat,sv = .string (str (List.replicate j 48++D))∧wr=w1∧(j=0∨j+d≤k+1)) (fun sv _=>20 - strLen sv)
 case atStart=>exact ⟨0,rfl,rfl,.inl rfl⟩
 case round=>
  obtain ⟨j,rfl,rfl,hj⟩:=hrel
  obtain ⟨S,hS⟩:∃ S,S=List.replicate j 48++D:=⟨_,rfl⟩
  have hSl:S.length=j+d:=by rw [hS,List.length_append,List.length_replicate,HDL.out]
  rw [← hS]
  have HS:=Lib.hid (And.intro hS hSl)
  by_cases hc:j+d≤k
  · have hc1:S.length≤k:=by omega
    have hsum:∀ W,(Op.stringOp .add (str [48]) (str S)).run Tryz.prog W = .ok (.string (str (48::S))) W:=fun W=>by
     rw [run_string_add_sum (P:=Tryz.prog) (w:=W) (str [48]) (str S) (by rw [str_size,str_size];simp;omega),str_append];rfl
    have HJ:=Lib.hid (show (48:UInt8)::S=List.replicate (j+1) 48++D∧(j+1=0∨j+1+d≤k+1) from ⟨by rw [hS,List.replicate_succ];rfl,.inr (by omega)⟩)
    have HM:=Lib.hid (show 20 - strLen (.string (str (48::S)))<20 - strLen (.string (str S)) from by rw [strLen_str,strLen_str,List.length_cons];omega)
    clear hS hSl hj hc
    go_wp2_with fail
    go_roundw
    case rel=>exact ⟨j+1,by rw [← HJ.out.1],trivial,HJ.out.2⟩
    case measure=>exact HM.out
  · have hc1:¬ S.length≤k:=by omega
    obtain ⟨X,hX⟩:∃ X,X=Lib.decDigits (n / 10 ^ k):=⟨_,rfl⟩
    obtain ⟨Y,hY⟩:∃ Y,Y=dgw k n:=⟨_,rfl⟩
    have hYl:Y.length=k:=by rw [hY];exact dgw_length k n
    have hSXY:S=X++Y:=by
     rw [hS,hX,hY,← HP.out.1]
     congr 2
     omega
    have hL:S.length=X.length+k:=by rw [hSXY,List.length_append,hYl]
    obtain ⟨x,hx⟩:∃ x,x=X.length:=⟨_,rfl⟩
    have hlit:litS n k=X++46::Y:=by rw [HP.out.2,hX,hY]
    have HLIT:=Lib.hid hlit
    have hSl2:S.length≤30:=by omega
    have e1:List.take x S=X:=by rw [hSXY,hx];simp
    have e2:List.take (S.length - x) (List.drop x S)=Y:=by
     rw [List.take_of_length_le (by rw [List.length_drop];omega),hSXY,hx];simp
    have hz0:(S.length:Int) - k=x:=by omega
    have hwr:IntKind.i64.wrap (x:Int)=x:=by rw [IntKind.wrap_i64];omega
    have hz1:(x:Int)≤S.length:=by omega
    have hz3:x≤S.length:=by omega
    have hXl:X.length≤30:=by omega
    have hs1:∀ W,(Op.stringOp .add (str X) (str [46])).run Tryz.prog W = .ok (.string (str (X++[46]))) W:=fun W=>by
     rw [run_string_add_sum (P:=Tryz.prog) (w:=W) (str X) (str [46]) (by rw [str_size,str_size];simp;omega),str_append]
    have hs2:∀ W,(Op.stringOp .add (str (X++[46])) (str Y)).run Tryz.prog W = .ok (.string (str (X++46::Y))) W:=fun W=>by
     rw [run_string_add_sum (P:=Tryz.prog) (w:=W) (str (X++[46])) (str Y) (by rw [str_size,str_size];simp;omega),str_append,List.append_assoc];rfl
    clear hS hSl hj hc hX hY hYl hSXY hL hx hlit hSl2 hXl
    go_wp2_with fail
    go_quiet (fail)
    go_wp2_with fail
    go_ret
    rw [HLIT.out]
    exact ⟨rfl,below_drewN HB.out _⟩
end
section
theorem dgw_cons:∀ (j m:Nat),dgw (j+1) m=digC (m / 10 ^ j % 10)::dgw j m
 | 0,m=>by simp [dgw]
 | j+1,m=>by
   rw [dgw,dgw_cons j (m / 10),Nat.div_div_eq_div_mul,← Nat.pow_succ',dgw,List.cons_append]
def decTable:List UInt8:=[48,49,50,51,52,53,54,55,56,57]
theorem dec_table {d:Nat} (h:d<10):List.take 1 (List.drop d decTable)=[digC d]:=by
 have:d=0∨d=1∨d=2∨d=3∨d=4∨d=5∨d=6∨d=7∨d=8∨d=9:=by omega
 rcases this with rfl | rfl | rfl | rfl | rfl | rfl | rfl | rfl | rfl | rfl <;> rfl
set_option maxRecDepth 100000 in
theorem dec_any (m l J:Nat) (hm:m<10000000000000000) (hJ:∀ j,j<J↔(0<m / 10 ^ j∨j<l)) (hJ2:J≤30) (hl:l≤30) (w:World):
  Calls Tryz.prog 176 #[.int .i64 (m:Int),.int .i64 (l:Int)] w fun e w'=>e = .returned (.string (str (dgw J m)))∧w=w':=by
 go_enter Tryz.func176,Tryz.ntmps176
 go_wp2_with fail
 go_loopw [0,1,5] (fun nv lv sv wr=>∃ j:Nat,j≤J∧nv = .int .i64 ((m / 10 ^ j:Nat):Int)∧lv = .int .i64 ((l:Int) - (j:Int))∧sv = .string (str (dgw j m))∧wr=w) (fun _ _ sv _=>40 - strLen sv)
 case atStart=>exact ⟨0,by omega,by simp,by simp,by rw [dgw];rfl,rfl⟩
 case round=>
  obtain ⟨j,hj,rfl,rfl,rfl,rfl⟩:=hrel
  obtain ⟨q,hq⟩:∃ q,q=m / 10 ^ j:=⟨_,rfl⟩
  obtain ⟨L,hLL⟩:∃ L,L=(l:Int) - (j:Int):=⟨_,rfl⟩
  obtain ⟨S,hS⟩:∃ S,S=dgw j m:=⟨_,rfl⟩
  have hSl:S.length=j:=by rw [hS];exact dgw_length j m
  have hnxt:=hJ j
  rw [← hq,← hLL,← hS]
  rw [← hq] at hnxt
  have hqm:q≤m:=by rw [hq];exact Nat.div_le_self _ _
  by_cases hgo:j<J
  · obtain ⟨d,hd⟩:∃ d,d=q % 10:=⟨_,rfl⟩
    obtain ⟨r,hr⟩:∃ r,r=q / 10:=⟨_,rfl⟩
    have hd10:d<10:=by omega
    have t1:Int.tmod (q:Int) 10=(d:Int):=by rw [hd];exact (Int.ofNat_tmod q 10).symm
    have t2:Int.tdiv (q:Int) 10=(r:Int):=by rw [hr];exact (Int.ofNat_tdiv q 10).symm
    have hsl:List.take 1 (List.drop d [48,49,50,51,52,53,54,55,56,57])=[digC d]:=dec_table hd10
    have v1:IntKind.i64.wrap ((d:Int)+1)=(d:Int)+1:=by rw [IntKind.wrap_i64];omega
    have v2:IntKind.i64.wrap (r:Int)=(r:Int):=by rw [IntKind.wrap_i64];omega
    have v3:IntKind.i64.wrap (L - 1)=L - 1:=by rw [IntKind.wrap_i64];omega
    have HJ:=Lib.hid (show j+1≤J∧((m / 10 ^ (j+1):Nat):Int)=(r:Int)∧(l:Int) - ((j+1:Nat):Int)=L - 1∧dgw (j+1) m=digC d::S from
     ⟨hgo,by rw [Nat.pow_succ,← Nat.div_div_eq_div_mul,← hq,hr],by omega,by rw [dgw_cons,← hq,← hd,hS]⟩)
    have HJM:=Lib.hid (show 40 - strLen (.string (str (digC d::S)))<40 - strLen (.string (str S)) from by rw [strLen_str,strLen_str,List.length_cons,hSl];omega)
    have hjJ:j≤30:=by omega
    by_cases hq0:0<q
    · have hq1:(0:Int)<q:=by omega
      clear hgo hr hd hqm
      have hst:∀ W,(Op.stringOp .add (str [digC d]) (str S)).run Tryz.prog W = .ok (.string (str (digC d::S))) W:=fun W=>by
       rw [run_string_add_sum (P:=Tryz.prog) (w:=W) (str [digC d]) (str S) (by rw [str_size,str_size,hSl];simp;omega),str_append];rfl
      clear hq hS hSl hLL hj hnxt
      go_wp2_with fail
      go_roundw
      case rel=>exact ⟨j+1,HJ.out.1,by rw [HJ.out.2.1],by rw [HJ.out.2.2.1],by rw [HJ.out.2.2.2],trivial⟩
      case measure=>exact HJM.out
    · have hL0:0<L:=by
       rcases hnxt.1 hgo with h | h
       · exact absurd h hq0
       · omega
      have hq1:¬ (0:Int)<q:=by omega
      clear hgo hr hd hqm
      have hst:∀ W,(Op.stringOp .add (str [digC d]) (str S)).run Tryz.prog W = .ok (.string (str (digC d::S))) W:=fun W=>by
       rw [run_string_add_sum (P:=Tryz.prog) (w:=W) (str [digC d]) (str S) (by rw [str_size,str_size,hSl];simp;omega),str_append];rfl
      clear hq hS hSl hLL hj hnxt
      go_wp2_with fail
      go_roundw
      case rel=>exact ⟨j+1,HJ.out.1,by rw [HJ.out.2.1],by rw [HJ.out.2.2.1],by rw [HJ.out.2.2.2],trivial⟩
      case measure=>exact HJM.out
  · have hjJ:j=J:=by omega
    have hq0:¬ 0<q:=fun h=>hgo (hnxt.2 (.inl h))
    have hq1:¬ (0:Int)<q:=by omega
    have hL0:¬ 0<L:=fun h=>hgo (hnxt.2 (.inr (by omega)))
    have HS:=Lib.hid (show S=dgw J m by rw [hS,hjJ])
    clear hq hS hSl hLL hj hnxt hgo hjJ hqm
    go_wp2_with fail
    go_ret
    rw [HS.out]
    exact ⟨rfl,rfl⟩
end
section
theorem qdigit_any (x:UInt8) (w:World):Calls Tryz.prog 212 #[.int .u8 (x.toNat:Nat)] w fun e w'=>e = .returned (.bool (digB x))∧w=w':=by
 have hx:x.toNat≤255:=by have:=x.toNat_lt;omega
 by_cases h1:48≤x.toNat
 · by_cases h2:x.toNat≤57
   · rw [show digB x=true from by unfold digB;exact decide_eq_true ⟨h1,h2⟩]
     have g1:(48:Int)≤x.toNat:=by omega
     have g2:(x.toNat:Int)≤57:=by omega
     go_enter Tryz.func212,Tryz.ntmps212
     go_wp2
     go_ret
     exact ⟨rfl,rfl⟩
   · rw [show digB x=false from by unfold digB;exact decide_eq_false (fun h=>h2 h.2)]
     have g1:(48:Int)≤x.toNat:=by omega
     have g2:¬ (x.toNat:Int)≤57:=by omega
     go_enter Tryz.func212,Tryz.ntmps212
     go_wp2
     go_ret
     exact ⟨rfl,rfl⟩
 · rw [show digB x=false from by unfold digB;exact decide_eq_false (fun h=>h1 h.1)]
   have g1:¬ (48:Int)≤x.toNat:=by omega
   go_enter Tryz.func212,Tryz.ntmps212
   go_wp2
   go_ret
   exact ⟨rfl,rfl⟩
def PP (pre:List UInt8) (p:Int):Prop:=(p = -1∧pre.all digB=true)∨∃ X Q,pre=X++46::Q∧X.all digB=true∧Q.all digB=true∧p=(X.length:Nat)
theorem pp_digit {pre:List UInt8} {p:Int} {c:UInt8} (h:PP pre p) (hc:digB c=true):PP (pre++[c]) p:=by
 rcases h with ⟨h1,h2⟩ | ⟨X,Q,h1,h2,h3,h4⟩
 · exact .inl ⟨h1,by rw [List.all_append,h2];simp [hc]⟩
 · exact .inr ⟨X,Q++[c],by rw [h1];simp,h2,by rw [List.all_append,h3];simp [hc],h4⟩
theorem pp_point {pre:List UInt8} {p:Int} (h:PP pre p) (hp:p<0):PP (pre++[46]) (pre.length:Nat):=by
 rcases h with ⟨h1,h2⟩ | ⟨X,Q,h1,h2,h3,h4⟩
 · exact .inr ⟨pre,[],by simp,h2,rfl,rfl⟩
 · omega
theorem ok_parts {s:List UInt8} (h:rpOk s=true):s=rpW s++46::rpP s∧(rpW s).all digB=true∧(rpP s).all digB=true∧fmtB true (rpW s) (rpP s)=true:=by
 unfold rpOk at h
 rw [Bool.and_eq_true,List.all_append,Bool.and_eq_true] at h
 have hf:=h.1
 unfold fmtB at hf
 have ho:=(of_decide_eq_true hf).1
 have h1:=h.1
 rw [ho] at h1
 exact ⟨(rp_point ho).1,h.2.1,h.2.2,h1⟩
theorem point_one {X P X' P':List UInt8} (h:X++46::P=X'++46::P') (h1:(46:UInt8) ∉ X) (h2:(46:UInt8) ∉ X'):X=X'∧P=P':=by
 have e1:=cut_app (X:=X) (P:=P) h1
 have e2:=cut_app (X:=X') (P:=P') h2
 rw [h,e2] at e1
 injection e1 with a1 a2
 injection a2 with a2 _
 exact ⟨a1.symm,a2.symm⟩
theorem pp_bad {s pre r:List UInt8} {p:Int} {c:UInt8} (h:PP pre p) (hs:s=pre++c::r) (hc:digB c=false) (hcp:c≠46∨¬ p<0):rpOk s=false:=by
 cases hok:rpOk s with
 | false=>rfl
 | true=>
   exfalso
   obtain ⟨o1,o2,o3,_⟩:=ok_parts hok
   have hmem:c∈s:=by rw [hs];simp
   have hc46:c=46:=by
    rw [o1] at hmem
    rcases List.mem_append.1 hmem with hm | hm
    · have:=List.all_eq_true.1 o2 c hm;rw [hc] at this;cases this
    · rcases List.mem_cons.1 hm with hm | hm
      · exact hm
      · have:=List.all_eq_true.1 o3 c hm;rw [hc] at this;cases this
   have hp:¬ p<0:=hcp.resolve_left (fun h=>h hc46)
   rcases h with ⟨h1,_⟩ | ⟨X,Q,h1,h2,h3,h4⟩
   · omega
   · subst hc46
     have e:X++46::(Q++46::r)=rpW s++46::rpP s:=by rw [← o1,hs,h1];simp
     obtain ⟨_,e2⟩:=point_one e (no_point h2) (no_point o2)
     have:=no_point o3
     rw [← e2] at this
     exact this (by simp)
theorem pp_ok {X Q:List UInt8} (h1:X.all digB=true) (h2:Q.all digB=true):rpW (X++46::Q)=X∧rpP (X++46::Q)=Q∧rpOk (X++46::Q)=fmtB true X Q:=by
 have hc:=cut_app (X:=X) (P:=Q) (no_point h1)
 unfold rpOk rpW rpP rpO
 rw [hc,List.all_append,h1,h2]
 simp
theorem fmt_iff {X Q:List UInt8}:fmtB true X Q=true↔(1≤X.length∧1≤Q.length∧Q.length≤6∧X.length+Q.length≤15∧¬ (X.head?=some 48∧1<X.length)):=by
 unfold fmtB
 rw [decide_eq_true_iff]
 have hX:X≠[]↔1≤X.length:=by cases X <;> simp
 have hQ:Q≠[]↔1≤Q.length:=by cases Q <;> simp
 have hh:X.head?=some 48→(X≠[48]↔1<X.length):=by
  intro h
  cases X with
  | nil=>simp at h
  | cons a l=>
    simp at h
    subst h
    cases l <;> simp
 constructor
 · rintro ⟨_,a,b,c,d,e⟩
   exact ⟨hX.1 a,hQ.1 b,c,d,fun ⟨f,g⟩=>e ⟨f,(hh f).2 g⟩⟩
 · rintro ⟨a,b,c,d,e⟩
   exact ⟨rfl,hX.2 a,hQ.2 b,c,d,fun ⟨f,g⟩=>e ⟨f,(hh f).1 g⟩⟩
def dots (l:List UInt8):List UInt8:=l.filter (fun c=>c != 46)
theorem dots_digits {l:List UInt8} (h:l.all digB=true):dots l=l:=by
 unfold dots
 rw [List.filter_eq_self]
 intro c hc
 have:=no_point h
 simp
 intro e
 exact this (by rw [← e];exact hc)
theorem dots_all {X Q:List UInt8} (h1:X.all digB=true) (h2:Q.all digB=true):dots (X++46::Q)=X++Q:=by
 have e1:=dots_digits h1
 have e2:=dots_digits h2
 unfold dots at *
 rw [List.filter_append,List.filter_cons]
 simp [e1,e2]
theorem powT_int {k:Nat} (h:k≤6):floatOfInt .f64 ((10 ^ k:Nat):Int)=powT k:=by
 have hk:k=0∨k=1∨k=2∨k=3∨k=4∨k=5∨k=6:=by omega
 rcases hk with rfl | rfl | rfl | rfl | rfl | rfl | rfl <;> decide
theorem dots_app_digit {l:List UInt8} {x:UInt8} (h:digB x=true):dots (l++[x])=dots l++[x]:=by
 have:(x != 46)=true:=by
  have:=digB_val h
  simp
  intro e
  rw [e] at this
  simp at this
 unfold dots
 rw [List.filter_append]
 simp only [List.filter_cons,List.filter_nil,this,if_true]
theorem dots_app_dot {l:List UInt8}:dots (l++[46])=dots l:=by
 unfold dots
 rw [List.filter_append]
 simp
theorem dots_lt {s X Q:List UInt8} (hs:s=X++46::Q) (h1:(X++Q).all digB=true) (h2:(X++Q).length≤15) (j:Nat):decV (dots (s.take j))<1000000000000000:=by
 have hsub:(dots (s.take j)).Sublist (X++Q):=by
  have h3:dots s=X++Q:=by
   rw [List.all_append,Bool.and_eq_true] at h1
   rw [hs];exact dots_all h1.1 h1.2
  rw [← h3]
  unfold dots
  exact (List.take_sublist j s).filter _
 have h4:(dots (s.take j)).all digB=true:=List.all_eq_true.2 fun c hc=>List.all_eq_true.1 h1 c (hsub.subset hc)
 have h5:=decV_lt _ h4
 have h6:(10:Nat) ^ (dots (s.take j)).length≤10 ^ 15:=Nat.pow_le_pow_right (by omega) (Nat.le_trans hsub.length_le h2)
 have:(10:Nat) ^ 15=1000000000000000:=by decide
 omega
theorem dots_at {s X Q:List UInt8} (hs:s=X++46::Q) (h1:(X++Q).all digB=true) {j:Nat} {x:UInt8} (hx:s[j]?=some x) (hj:j≠X.length):digB x=true:=by
 rw [List.all_append,Bool.and_eq_true] at h1
 rw [hs] at hx
 rcases Nat.lt_or_ge j X.length with h | h
 · rw [List.getElem?_append_left h] at hx
   exact List.all_eq_true.1 h1.1 x (List.mem_of_getElem? hx)
 · rw [List.getElem?_append_right h,show j - X.length=(j - X.length - 1)+1 by omega,List.getElem?_cons_succ] at hx
   exact List.all_eq_true.1 h1.2 x (List.mem_of_getElem? hx)
theorem dots_here {s X Q:List UInt8} (hs:s=X++46::Q) {j:Nat} {x:UInt8} (hx:s[j]?=some x) (hj:j=X.length):x=46:=by
 rw [hs,hj,List.getElem?_append_right (Nat.le_refl _),Nat.sub_self,List.getElem?_cons_zero] at hx
 exact (Option.some.inj hx).symm
theorem quo_valid {l:List UInt8} {b:Nat} (h1:l.all digB=true) (h2:l.length≤15) (hb:b≤6) (h:floatBits .quo .f64 (floatOfInt .f64 ((decV l:Nat):Int)) (powT b)=none):False:=by
 have h3:=decV_lt _ h1
 have h4:(10:Nat) ^ l.length≤10 ^ 15:=Nat.pow_le_pow_right (by omega) h2
 have h5:(10:Nat) ^ 15=1000000000000000:=by decide
 obtain ⟨s,i,e,_⟩:=isI_int (N:=((decV l:Nat):Int)) (by omega)
 obtain ⟨c,J,e2,hc⟩:∃ c J,fd.read (powT b) = .number false c J∧c≠0:=by
  rcases Nat.eq_zero_or_pos b with h0 | h0
  · rw [h0]
    exact ⟨4503599627370496,-52,by decide,by decide⟩
  · obtain ⟨J,r1,_,_,r2,_⟩:=powT_read h0 hb
    exact ⟨_,_,r1,by omega⟩
 have:floatBits .quo .f64 (floatOfInt .f64 ((decV l:Nat):Int)) (powT b)=((fd.read (floatOfInt .f64 ((decV l:Nat):Int))).quotient (52+2) (fd.read (powT b))).map fd.write:=rfl
 rw [this,e,e2] at h
 simp only [Ieee.Datum.quotient] at h
 rw [if_neg hc] at h
 cases h
set_option maxRecDepth 100000 in
set_option maxHeartbeats 3200000 in
theorem qparse_any (s:List UInt8) (hs:s.length≤1048576) (w:World):
  Calls Tryz.prog 177 #[.string (str s)] w fun e w'=>e = .returned (.tuple #[.int .u64 (rpB s),.int .i64 (rpF s)])∧w=w':=by
 by_cases hl:16<s.length
 · have HK:=Lib.hid (rp_bad (s:=s) (by
    cases hok:rpOk s with
    | false=>rfl
    | true=>
      exfalso
      obtain ⟨o1,_,_,o4⟩:=ok_parts hok
      have:=fmt_iff.1 o4
      have h2:=congrArg List.length o1
      rw [List.length_append,List.length_cons] at h2
      omega))
   have hl2:(16:Int)<s.length:=by omega
   go_enter Tryz.func177,Tryz.ntmps177
   go_wp2_with fail
   go_ret2
   rw [HK.out.1,HK.out.2]
   exact ⟨rfl,rfl⟩
 · have hl2:¬ (16:Int)<s.length:=by omega
   have hl3:s.length≤16:=by omega
   clear hs
   go_enter Tryz.func177,Tryz.ntmps177
   go_wp2_with fail
   go_loopw [4,5] (fun pv iv wr=>∃ (i:Nat) (p:Int),i≤s.length∧pv = .int .i64 p∧iv = .int .i64 i∧wr=w∧PP (s.take i) p) (fun _ iv _=>s.length - (intOf iv).toNat)
   case atStart=>exact ⟨0,-1,by omega,rfl,rfl,rfl,.inl ⟨rfl,by simp⟩⟩
   case round=>
    obtain ⟨i,p,hi,rfl,rfl,rfl,hpp⟩:=hrel
    have HP:=Lib.hid hpp
    by_cases hlt:i<s.length
    · obtain ⟨x,hx⟩:∃ x,s[i]?=some x:=⟨_,List.getElem?_eq_getElem hlt⟩
      have hxe:s[i]'hlt=x:=by rw [List.getElem?_eq_getElem hlt] at hx;exact Option.some.inj hx
      have hidx:∀ W,(Instr.index 9 (.string (str s)) (.int .i64 (i:Int))).run Tryz.prog W = .ok (.int .u8 (x.toNat:Nat)) W:=fun W=>by rw [run_idx0 s i hlt W,hxe]
      have htk:s.take (i+1)=s.take i++[x]:=by rw [List.take_add_one,hx];rfl
      have hsp:s=s.take i++x::s.drop (i+1):=by
       have h1:=(List.take_append_drop i s).symm
       rw [List.drop_eq_getElem_cons hlt,hxe] at h1
       exact h1
      have hx255:x.toNat≤255:=by have:=x.toNat_lt;omega
      have hin:(i:Int)<s.length:=by omega
      have hwi:IntKind.i64.wrap ((i:Int)+1)=(i:Int)+1:=by rw [IntKind.wrap_i64];omega
      by_cases hx46:x=46
      · subst hx46
        have HD:=Lib.hid (show digB 46=false by decide)
        have h46:(((46:UInt8).toNat:Int)==46)=true:=rfl
        by_cases hp:p<0
        · have HJ:=Lib.hid (show PP (s.take (i+1)) (i:Int) from by
           have:=pp_point hpp hp
           rw [htk]
           rw [List.length_take,Nat.min_eq_left hi] at this
           exact this)
          clear hpp hx hxe htk hsp hx255
          generalize (46:UInt8)=x at *
          go_wp2_with fail
          go_roundw
          case rel=>exact ⟨i+1,(i:Int),by omega,by go_num,by go_num,trivial,HJ.out⟩
          case measure=>simp [intOf];omega
        · have HK:=Lib.hid (rp_bad (pp_bad hpp hsp (by decide) (.inr hp)))
          clear hpp hx hxe htk hsp hx255
          generalize (46:UInt8)=x at *
          go_wp2_with (go_at_call 212;refine (qdigit_any x _).mono ?_;rw [HD.out];rintro e w' ⟨rfl,rfl⟩)
          go_ret2
          rw [HK.out.1,HK.out.2]
          exact ⟨rfl,rfl⟩
      · have hxn:((x.toNat:Int)==46)=false:=by
         have:x.toNat≠46:=fun e=>hx46 (UInt8.toNat_inj.1 e)
         exact beq_false_of_ne (by omega)
        rcases hdx:digB x with _ | _
        · have HK:=Lib.hid (rp_bad (pp_bad hpp hsp hdx (.inl hx46)))
          have HD:=Lib.hid hdx
          clear hpp hx hxe htk hsp hx255 hx46 hdx
          go_wp2_with (go_at_call 212;refine (qdigit_any x _).mono ?_;rw [HD.out];rintro e w' ⟨rfl,rfl⟩)
          go_ret2
          rw [HK.out.1,HK.out.2]
          exact ⟨rfl,rfl⟩
        · have HJ:=Lib.hid (show PP (s.take (i+1)) p from by rw [htk];exact pp_digit hpp hdx)
          have HD:=Lib.hid hdx
          clear hpp hx hxe htk hsp hx255 hx46 hdx
          go_wp2_with (go_at_call 212;refine (qdigit_any x _).mono ?_;rw [HD.out];rintro e w' ⟨rfl,rfl⟩)
          go_roundw
          case rel=>exact ⟨i+1,p,by omega,by go_num,by go_num,trivial,HJ.out⟩
          case measure=>simp [intOf];omega
    · have hfull:s.take i=s:=List.take_of_length_le (by omega)
      rw [hfull] at hpp
      clear hfull
      have hlt2:¬ (i:Int)<s.length:=by omega
      rcases hpp with ⟨rfl,hall⟩ | ⟨X,Q,hsXQ,hX,hQ,rfl⟩
      · have HK:=Lib.hid (rp_bad (s:=s) (by
         cases hok:rpOk s with
         | false=>rfl
         | true=>
           exfalso
           have:=no_point hall
           rw [(ok_parts hok).1] at this
           exact this (by simp)))
        have hwb:IntKind.i64.wrap (IntKind.i64.wrap ((s.length:Int) - -1) - 1)=(s.length:Int):=by rw [IntKind.wrap_i64,IntKind.wrap_i64];omega
        clear hall
        go_wp2_with fail
        go_ret2
        rw [HK.out.1,HK.out.2]
        exact ⟨rfl,rfl⟩
      · have hlen:s.length=X.length+1+Q.length:=by rw [hsXQ,List.length_append,List.length_cons];omega
        obtain ⟨o1,o2,o3⟩:=pp_ok hX hQ
        rw [← hsXQ] at o1 o2 o3
        obtain ⟨a,ha⟩:∃ a,a=X.length:=⟨_,rfl⟩
        obtain ⟨b,hb⟩:∃ b,b=Q.length:=⟨_,rfl⟩
        have hfi:=@fmt_iff X Q
        rw [← ha,← hb] at hfi hlen
        have hwb1:(s.length:Int) - a=b+1:=by omega
        have hwb2:IntKind.i64.wrap ((b:Int)+1)=(b:Int)+1:=by rw [IntKind.wrap_i64];omega
        have hwb3:(b:Int)+1 - 1=b:=by omega
        have hwb4:IntKind.i64.wrap (b:Int)=(b:Int):=by rw [IntKind.wrap_i64];omega
        rw [← ha]
        obtain ⟨x0,hx0⟩:∃ x0,s[0]?=some x0:=⟨_,List.getElem?_eq_getElem (by omega)⟩
        have hx0e:s[0]'(by omega)=x0:=by rw [List.getElem?_eq_getElem (by omega)] at hx0;exact Option.some.inj hx0
        have hidx:∀ W,(Instr.index 9 (.string (str s)) (.int .i64 0)).run Tryz.prog W = .ok (.int .u8 (x0.toNat:Nat)) W:=fun W=>by
         have:=run_idx0 s 0 (by omega) W
         rw [hx0e] at this
         exact this
        have hhead:1≤a→(X.head?=some 48↔x0=48):=by
         intro h1
         cases X with
         | nil=>simp at ha;omega
         | cons c l=>
           rw [hsXQ] at hx0
           simp at hx0
           rw [List.head?_cons,hx0]
           simp
        have HS:=Lib.hid (show dots s=X++Q∧(X++Q).all digB=true∧(X++Q).length≤15∧s=X++46::Q∧a=X.length∧b=Q.length from
         ⟨by rw [hsXQ];exact dots_all hX hQ,by rw [List.all_append,hX,hQ];rfl,by rw [List.length_append];omega,hsXQ,ha,hb⟩)
        have hlb:b≤16∧a≤16∧a+b≤15:=by omega
        rcases hf:fmtB true X Q with _ | _
        · have HK:=Lib.hid (rp_bad (s:=s) (by rw [o3,hf]))
          have hn:¬ (1≤a∧1≤b∧b≤6∧a+b≤15∧¬ (X.head?=some 48∧1<a)):=fun h=>by have:=hfi.2 h;rw [hf] at this;cases this
          clear o1 o2 o3 hf hfi ha hb hx0 hx0e hsXQ hX hQ HP hlen
          by_cases c1:a<1
          · have g1:(a:Int)<1:=by omega
            clear hhead hn
            go_wp2_with fail
            go_ret2
            rw [HK.out.1,HK.out.2]
            exact ⟨rfl,rfl⟩
          · have g1:¬ (a:Int)<1:=by omega
            by_cases c2:b<1
            · have g2:(b:Int)<1:=by omega
              clear hhead hn
              go_wp2_with fail
              go_ret2
              rw [HK.out.1,HK.out.2]
              exact ⟨rfl,rfl⟩
            · have g2:¬ (b:Int)<1:=by omega
              by_cases c3:6<b
              · have g3:(6:Int)<b:=by omega
                clear hhead hn
                go_wp2_with fail
                go_ret2
                rw [HK.out.1,HK.out.2]
                exact ⟨rfl,rfl⟩
              · have g3:¬ (6:Int)<b:=by omega
                have hc:X.head?=some 48∧1<a:=Classical.byContradiction fun h=>hn ⟨by omega,by omega,by omega,hlb.2.2,h⟩
                have hx48:x0=48:=(hhead (by omega)).1 hc.1
                have g4:((x0.toNat:Int)==48)=true:=by rw [hx48];rfl
                have g5:(1:Int)<a:=by omega
                clear hhead hn hc hx48
                go_wp2_with fail
                go_ret2
                rw [HK.out.1,HK.out.2]
                exact ⟨rfl,rfl⟩
        · have hn:=hfi.1 hf
          have HOK:=Lib.hid (show rpB s=arN .quo (floatOfInt .f64 (decV (X++Q))) (powT b)∧rpF s=0 from by
           unfold rpB rpF
           rw [o3,hf,if_pos rfl,if_pos rfl,o1,o2,← hb]
           exact ⟨rfl,rfl⟩)
          have hpw:floatOfInt .f64 ((10 ^ b:Nat):Int)=powT b:=powT_int hn.2.2.1
          obtain ⟨Pw,hPw⟩:∃ Pw:Nat,Pw=10 ^ b:=⟨_,rfl⟩
          rw [← hPw] at hpw
          have HPW:=Lib.hid hPw
          have g1:¬ (a:Int)<1:=by omega
          have g2:¬ (b:Int)<1:=by omega
          have g3:¬ (6:Int)<b:=by omega
          have hb6:=hn.2.2.1
          by_cases hx48:x0=48
          · have g4:((x0.toNat:Int)==48)=true:=by rw [hx48];rfl
            have g5:¬ (1:Int)<a:=by
             intro h
             exact hn.2.2.2.2 ⟨(hhead (by omega)).2 hx48,by omega⟩
            clear o1 o2 o3 hf hfi ha hb hx0 hx0e hsXQ hX hQ HP hlen hn hhead hPw hx48 hlt
            go_wp2_with fail
            go_loopw [7,8,9] (fun nv pv iv wq=>∃ j:Nat,j≤s.length∧nv = .int .i64 ((decV (dots (s.take j)):Nat):Int)∧pv = .int .i64 ((10 ^ (j - (a+1)):Nat):Int)∧iv = .int .i64 j∧wq=wr) (fun _ _ iv _=>s.length - (intOf iv).toNat)
            case atStart=>exact ⟨0,by omega,by simp [dots,decV],by simp,rfl,rfl⟩
            case round=>
             obtain ⟨j,hj,rfl,rfl,rfl,rfl⟩:=hrel
             have hV:=dots_lt HS.out.2.2.2.1 HS.out.2.1 HS.out.2.2.1 j
             obtain ⟨V,hVe⟩:∃ V,V=decV (dots (s.take j)):=⟨_,rfl⟩
             obtain ⟨R,hRe⟩:∃ R,R=10 ^ (j - (a+1)):=⟨_,rfl⟩
             rw [← hVe] at hV ⊢
             rw [← hRe]
             by_cases hlt:j<s.length
             · obtain ⟨x,hx⟩:∃ x,s[j]?=some x:=⟨_,List.getElem?_eq_getElem hlt⟩
               have hxe:s[j]'hlt=x:=by rw [List.getElem?_eq_getElem hlt] at hx;exact Option.some.inj hx
               have hidx2:∀ W,(Instr.index 9 (.string (str s)) (.int .i64 (j:Int))).run Tryz.prog W = .ok (.int .u8 (x.toNat:Nat)) W:=fun W=>by rw [run_idx0 s j hlt W,hxe]
               have htk:s.take (j+1)=s.take j++[x]:=by rw [List.take_add_one,hx];rfl
               have hjn:(j:Int)<s.length:=by omega
               have hx255:x.toNat≤255:=by have:=x.toNat_lt;omega
               have hwi:IntKind.i64.wrap ((j:Int)+1)=(j:Int)+1:=by rw [IntKind.wrap_i64];omega
               have hVi:(V:Int)<1000000000000000:=by omega
               rcases Nat.lt_trichotomy j a with c | c | c
               · have hxd:=dots_at HS.out.2.2.2.1 HS.out.2.1 hx (by rw [← HS.out.2.2.2.2.1];omega)
                 have hxv:=digB_val hxd
                 have hx3:(48:Int)≤x.toNat:=by omega
                 have hx4:(x.toNat:Int)≤57:=by omega
                 have HJ:=Lib.hid (show ((decV (dots (s.take (j+1))):Nat):Int)=10*(V:Int)+((x.toNat:Int) - 48)∧((10 ^ (j+1 - (a+1)):Nat):Int)=(R:Int) from
                  ⟨by rw [htk,dots_app_digit hxd,decV_succ,← hVe];omega,by rw [hRe,show j+1 - (a+1)=j - (a+1) by omega]⟩)
                 have q1:((j:Int)==a)=false:=beq_false_of_ne (by omega)
                 have q1':((j:Int) != a)=true:=by simp;omega
                 have q2:¬ (a:Int)<j:=by omega
                 clear hx hxe htk hV hVe hRe hxd hxv c hx255
                 go_wp2_with fail
                 go_roundw
                 case rel=>exact ⟨j+1,by omega,by rw [HJ.out.1],by rw [HJ.out.2],by go_num,trivial⟩
                 case measure=>simp [intOf];omega
               · have hx46:=dots_here HS.out.2.2.2.1 hx (by rw [← HS.out.2.2.2.2.1];exact c)
                 have HJ:=Lib.hid (show ((decV (dots (s.take (j+1))):Nat):Int)=(V:Int)∧((10 ^ (j+1 - (a+1)):Nat):Int)=(R:Int) from
                  ⟨by rw [htk,hx46,dots_app_dot,hVe],by rw [hRe,show j+1 - (a+1)=j - (a+1) by omega]⟩)
                 have q1:((j:Int)==a)=true:=beq_iff_eq.2 (by omega)
                 have q1':((j:Int) != a)=false:=by simp;omega
                 have q2:¬ (a:Int)<j:=by omega
                 clear hx hxe htk hV hVe hRe hx46 c hx255
                 go_wp2_with fail
                 go_roundw
                 case rel=>exact ⟨j+1,by omega,by rw [HJ.out.1],by rw [HJ.out.2],by go_num,trivial⟩
                 case measure=>simp [intOf];omega
               · have hxd:=dots_at HS.out.2.2.2.1 HS.out.2.1 hx (by rw [← HS.out.2.2.2.2.1];omega)
                 have hxv:=digB_val hxd
                 have hx3:(48:Int)≤x.toNat:=by omega
                 have hx4:(x.toNat:Int)≤57:=by omega
                 have hR6:R≤1000000:=by
                  rw [hRe]
                  have:(10:Nat) ^ (j - (a+1))≤10 ^ 6:=Nat.pow_le_pow_right (by omega) (by
                   have h1:=congrArg List.length HS.out.2.2.2.1
                   rw [List.length_append,List.length_cons,← HS.out.2.2.2.2.1,← HS.out.2.2.2.2.2] at h1
                   omega)
                  exact this
                 have hRi:(R:Int)≤1000000:=by omega
                 have hR0:(0:Int)≤R:=by omega
                 have HJ:=Lib.hid (show ((decV (dots (s.take (j+1))):Nat):Int)=10*(V:Int)+((x.toNat:Int) - 48)∧((10 ^ (j+1 - (a+1)):Nat):Int)=10*(R:Int) from
                  ⟨by rw [htk,dots_app_digit hxd,decV_succ,← hVe];omega,by rw [hRe,show j+1 - (a+1)=j - (a+1)+1 by omega,Nat.pow_succ];omega⟩)
                 have q1:((j:Int)==a)=false:=beq_false_of_ne (by omega)
                 have q1':((j:Int) != a)=true:=by simp;omega
                 have q2:(a:Int)<j:=by omega
                 clear hx hxe htk hV hVe hRe hxd hxv c hx255 hR6
                 go_wp2_with fail
                 go_roundw
                 case rel=>exact ⟨j+1,by omega,by rw [HJ.out.1],by rw [HJ.out.2],by go_num,trivial⟩
                 case measure=>simp [intOf];omega
             · have hjl:j=s.length:=by omega
               have hVX:V=decV (X++Q):=by rw [hVe,hjl,List.take_of_length_le (by omega),HS.out.1]
               have hRP:R=Pw:=by
                rw [hRe,HPW.out]
                congr 1
                have h1:=congrArg List.length HS.out.2.2.2.1
                rw [List.length_append,List.length_cons,← HS.out.2.2.2.2.1,← HS.out.2.2.2.2.2] at h1
                omega
               rw [hRP]
               have hjn:¬ (j:Int)<s.length:=by omega
               have HV:=Lib.hid hVX
               clear hVe hRe hRP hV hVX hjl
               cases h:floatBits .quo .f64 (floatOfInt .f64 (V:Int)) (powT b) with
               | some r=>
                 have hrun:=fun w t=>run_float_arith (P:=Tryz.prog) w .quo t .f64 _ _ _ h
                 have HE:=Lib.hid (show arN .quo (floatOfInt .f64 (V:Int)) (powT b)=toN r by simp [arN,h])
                 clear h
                 go_wp2_with (go_at_call 139;refine (qto_any _ _).mono ?_;rintro e w' ⟨rfl,rfl⟩)
                 go_ret2
                 rw [HOK.out.1,HOK.out.2,← HV.out,HE.out]
                 exact ⟨rfl,rfl⟩
               | none=>
                 exfalso
                 exact quo_valid (l:=X++Q) HS.out.2.1 HS.out.2.2.1 hb6 (by rw [← HV.out];exact h)
          · have g4:((x0.toNat:Int)==48)=false:=by
             have:x0.toNat≠48:=fun e=>hx48 (UInt8.toNat_inj.1 e)
             exact beq_false_of_ne (by omega)
            clear o1 o2 o3 hf hfi ha hb hx0 hx0e hsXQ hX hQ HP hlen hn hhead hPw hx48 hlt
            go_wp2_with fail
            go_loopw [7,8,9] (fun nv pv iv wq=>∃ j:Nat,j≤s.length∧nv = .int .i64 ((decV (dots (s.take j)):Nat):Int)∧pv = .int .i64 ((10 ^ (j - (a+1)):Nat):Int)∧iv = .int .i64 j∧wq=wr) (fun _ _ iv _=>s.length - (intOf iv).toNat)
            case atStart=>exact ⟨0,by omega,by simp [dots,decV],by simp,rfl,rfl⟩
            case round=>
             obtain ⟨j,hj,rfl,rfl,rfl,rfl⟩:=hrel
             have hV:=dots_lt HS.out.2.2.2.1 HS.out.2.1 HS.out.2.2.1 j
             obtain ⟨V,hVe⟩:∃ V,V=decV (dots (s.take j)):=⟨_,rfl⟩
             obtain ⟨R,hRe⟩:∃ R,R=10 ^ (j - (a+1)):=⟨_,rfl⟩
             rw [← hVe] at hV ⊢
             rw [← hRe]
             by_cases hlt:j<s.length
             · obtain ⟨x,hx⟩:∃ x,s[j]?=some x:=⟨_,List.getElem?_eq_getElem hlt⟩
               have hxe:s[j]'hlt=x:=by rw [List.getElem?_eq_getElem hlt] at hx;exact Option.some.inj hx
               have hidx2:∀ W,(Instr.index 9 (.string (str s)) (.int .i64 (j:Int))).run Tryz.prog W = .ok (.int .u8 (x.toNat:Nat)) W:=fun W=>by rw [run_idx0 s j hlt W,hxe]
               have htk:s.take (j+1)=s.take j++[x]:=by rw [List.take_add_one,hx];rfl
               have hjn:(j:Int)<s.length:=by omega
               have hx255:x.toNat≤255:=by have:=x.toNat_lt;omega
               have hwi:IntKind.i64.wrap ((j:Int)+1)=(j:Int)+1:=by rw [IntKind.wrap_i64];omega
               have hVi:(V:Int)<1000000000000000:=by omega
               rcases Nat.lt_trichotomy j a with c | c | c
               · have hxd:=dots_at HS.out.2.2.2.1 HS.out.2.1 hx (by rw [← HS.out.2.2.2.2.1];omega)
                 have hxv:=digB_val hxd
                 have hx3:(48:Int)≤x.toNat:=by omega
                 have hx4:(x.toNat:Int)≤57:=by omega
                 have HJ:=Lib.hid (show ((decV (dots (s.take (j+1))):Nat):Int)=10*(V:Int)+((x.toNat:Int) - 48)∧((10 ^ (j+1 - (a+1)):Nat):Int)=(R:Int) from
                  ⟨by rw [htk,dots_app_digit hxd,decV_succ,← hVe];omega,by rw [hRe,show j+1 - (a+1)=j - (a+1) by omega]⟩)
                 have q1:((j:Int)==a)=false:=beq_false_of_ne (by omega)
                 have q1':((j:Int) != a)=true:=by simp;omega
                 have q2:¬ (a:Int)<j:=by omega
                 clear hx hxe htk hV hVe hRe hxd hxv c hx255
                 go_wp2_with fail
                 go_roundw
                 case rel=>exact ⟨j+1,by omega,by rw [HJ.out.1],by rw [HJ.out.2],by go_num,trivial⟩
                 case measure=>simp [intOf];omega
               · have hx46:=dots_here HS.out.2.2.2.1 hx (by rw [← HS.out.2.2.2.2.1];exact c)
                 have HJ:=Lib.hid (show ((decV (dots (s.take (j+1))):Nat):Int)=(V:Int)∧((10 ^ (j+1 - (a+1)):Nat):Int)=(R:Int) from
                  ⟨by rw [htk,hx46,dots_app_dot,hVe],by rw [hRe,show j+1 - (a+1)=j - (a+1) by omega]⟩)
                 have q1:((j:Int)==a)=true:=beq_iff_eq.2 (by omega)
                 have q1':((j:Int) != a)=false:=by simp;omega
                 have q2:¬ (a:Int)<j:=by omega
                 clear hx hxe htk hV hVe hRe hx46 c hx255
                 go_wp2_with fail
                 go_roundw
                 case rel=>exact ⟨j+1,by omega,by rw [HJ.out.1],by rw [HJ.out.2],by go_num,trivial⟩
                 case measure=>simp [intOf];omega
               · have hxd:=dots_at HS.out.2.2.2.1 HS.out.2.1 hx (by rw [← HS.out.2.2.2.2.1];omega)
                 have hxv:=digB_val hxd
                 have hx3:(48:Int)≤x.toNat:=by omega
                 have hx4:(x.toNat:Int)≤57:=by omega
                 have hR6:R≤1000000:=by
                  rw [hRe]
                  have:(10:Nat) ^ (j - (a+1))≤10 ^ 6:=Nat.pow_le_pow_right (by omega) (by
                   have h1:=congrArg List.length HS.out.2.2.2.1
                   rw [List.length_append,List.length_cons,← HS.out.2.2.2.2.1,← HS.out.2.2.2.2.2] at h1
                   omega)
                  exact this
                 have hRi:(R:Int)≤1000000:=by omega
                 have hR0:(0:Int)≤R:=by omega
                 have HJ:=Lib.hid (show ((decV (dots (s.take (j+1))):Nat):Int)=10*(V:Int)+((x.toNat:Int) - 48)∧((10 ^ (j+1 - (a+1)):Nat):Int)=10*(R:Int) from
                  ⟨by rw [htk,dots_app_digit hxd,decV_succ,← hVe];omega,by rw [hRe,show j+1 - (a+1)=j - (a+1)+1 by omega,Nat.pow_succ];omega⟩)
                 have q1:((j:Int)==a)=false:=beq_false_of_ne (by omega)
                 have q1':((j:Int) != a)=true:=by simp;omega
                 have q2:(a:Int)<j:=by omega
                 clear hx hxe htk hV hVe hRe hxd hxv c hx255 hR6
                 go_wp2_with fail
                 go_roundw
                 case rel=>exact ⟨j+1,by omega,by rw [HJ.out.1],by rw [HJ.out.2],by go_num,trivial⟩
                 case measure=>simp [intOf];omega
             · have hjl:j=s.length:=by omega
               have hVX:V=decV (X++Q):=by rw [hVe,hjl,List.take_of_length_le (by omega),HS.out.1]
               have hRP:R=Pw:=by
                rw [hRe,HPW.out]
                congr 1
                have h1:=congrArg List.length HS.out.2.2.2.1
                rw [List.length_append,List.length_cons,← HS.out.2.2.2.2.1,← HS.out.2.2.2.2.2] at h1
                omega
               rw [hRP]
               have hjn:¬ (j:Int)<s.length:=by omega
               have HV:=Lib.hid hVX
               clear hVe hRe hRP hV hVX hjl
               cases h:floatBits .quo .f64 (floatOfInt .f64 (V:Int)) (powT b) with
               | some r=>
                 have hrun:=fun w t=>run_float_arith (P:=Tryz.prog) w .quo t .f64 _ _ _ h
                 have HE:=Lib.hid (show arN .quo (floatOfInt .f64 (V:Int)) (powT b)=toN r by simp [arN,h])
                 clear h
                 go_wp2_with (go_at_call 139;refine (qto_any _ _).mono ?_;rintro e w' ⟨rfl,rfl⟩)
                 go_ret2
                 rw [HOK.out.1,HOK.out.2,← HV.out,HE.out]
                 exact ⟨rfl,rfl⟩
               | none=>
                 exfalso
                 exact quo_valid (l:=X++Q) HS.out.2.1 HS.out.2.2.1 hb6 (by rw [← HV.out];exact h)
end
section
section
variable {a b r:Nat} (w:World)
theorem kcanon (h:toN a=r):Calls Tryz.prog 64 #[.int .u64 (a:Int)] w fun e w'=>e = .returned (.int .u64 (r:Int))∧w=w':=by
 have:=pcanon_any (a:Int) w
 rw [Int.toNat_natCast,h] at this
 exact this
theorem kmay (h:toN a=a):Calls Tryz.prog 34 #[.int .u64 (a:Int)] w fun e w'=>e = .returned (.bool true)∧w=w':=by
 have:=pmay_any (a:Int) w
 rw [Int.toNat_natCast,h] at this
 simpa using this
end
end
section
def NoLit (b k:Nat):Prop:=∀ k' n,k'<k→¬ LitIs b k' n
def PSpec (b:Nat) (s:List UInt8) (e:Int):Prop:=(e=0∧∃ k n,LitIs b k n∧s=litS n k∧NoLit b k)∨(e=2∧s=[]∧∀ k n,¬ LitIs b k n)
theorem PSpec.uniq {b:Nat} {s s':List UInt8} {e e':Int} (h:PSpec b s e) (g:PSpec b s' e'):s=s'∧e=e':=by
 rcases h with ⟨h1,k,n,h2,h3,h4⟩ | ⟨h1,h2,h3⟩
 · rcases g with ⟨g1,l,m,g2,g3,g4⟩ | ⟨g1,g2,g3⟩
   · have hkl:k=l:=by
      rcases Nat.lt_trichotomy k l with hlt | he | hgt
      · exact absurd h2 (g4 k n hlt)
      · exact he
      · exact absurd g2 (h4 l m hgt)
     subst hkl
     have:=h2.uniq g2
     subst this
     exact ⟨h3.trans g3.symm,h1.trans g1.symm⟩
   · exact absurd h2 (g3 k n)
 · rcases g with ⟨g1,l,m,g2,g3,g4⟩ | ⟨g1,g2,g3⟩
   · exact absurd g2 (h3 l m)
   · exact ⟨h2.trans g2.symm,h1.trans g1.symm⟩
theorem noLit_all {b:Nat} (h:NoLit b 7):∀ k n,¬ LitIs b k n:=fun k n hl=>h k n (by have:=hl.2.1;omega) hl
theorem noLit_one (b:Nat):NoLit b 1:=fun k n hk hl=>by have:=hl.1;omega
theorem noLit_succ {b k:Nat} (h:NoLit b k) (g:∀ n,¬ LitIs b k n):NoLit b (k+1):=fun k' n hk hl=>by
 rcases Nat.lt_or_ge k' k with h1 | h1
 · exact h k' n h1 hl
 · have:k'=k:=by omega
   subst this
   exact g n hl
theorem noLit_great {b k r:Nat} (h1:1≤k) (hr:floatBits .mul .f64 b (powT k)=some r) (hN:NoLit b k) (hg:∀ V:Nat,V≤1000000000000000→¬ IsI (flW r) V):∀ l n,¬ LitIs b l n:=by
 intro l n hl
 rcases Nat.lt_trichotomy l k with c | c | c
 · exact hN l n c hl
 · subst c
   obtain ⟨r',V,e1,_,e3,e4⟩:=hl.floor
   rw [hr] at e1
   injection e1 with e1
   subst e1
   have:=hl.2.2.1
   exact hg V (by omega) e3
 · obtain ⟨r',V,e1,_,e3,e4⟩:=hl.far h1 c
   rw [hr] at e1
   injection e1 with e1
   subst e1
   exact hg V e4 e3
theorem isI_inj {b:Nat} {M N:Int} (h:IsI b M) (g:IsI b N):M=N:=by
 have h1:=isI_toInt h
 have h2:=isI_toInt g
 rw [h1] at h2
 exact Option.some.inj h2
theorem gt_not {N:Nat} {V:Nat} (hV:V≤1000000000000000) (h:IsI N V):fd.order N w15≠some .gt:=by
 rw [isI_order h w15_int]
 intro e
 injection e with e
 rw [Int.compare_eq_gt] at e
 omega
theorem cand_parse (m k:Nat) (h1:1≤k) (h6:k≤6):(m<1000000000000000∧rpB (litS m k)=quoW m k∧rpF (litS m k)=0)∨(1000000000000000≤m∧rpB (litS m k)=0∧rpF (litS m k)=4):=by
 rcases Nat.lt_or_ge m 1000000000000000 with h | h
 · exact .inl ⟨h,lit_parse h h1 h6⟩
 · exact .inr ⟨h,lit_bad h h6⟩
theorem lit_short {m k:Nat} (hm:m<10000000000000000) (h6:k≤6):(litS m k).length≤1048576:=by
 rw [lit_len]
 have:Lib.nDigits (m / 10 ^ k)≤15+1:=nDigits_le (Nat.lt_of_le_of_lt (Nat.div_le_self _ _) hm)
 omega
theorem run_arr3 (V:Int) (W:World):(Instr.build 247 #[(0,.int .i64 (V - 1)),(1,.int .i64 V),(2,.int .i64 (V+1))]).run Tryz.prog W = .ok (.agg #[.int .i64 (V - 1),.int .i64 V,.int .i64 (V+1)]) W:=by kernel_rfl
theorem run_at0 (a b c:Int) (W:World):(Instr.index 247 (.agg #[.int .i64 a,.int .i64 b,.int .i64 c]) (.int .i64 0)).run Tryz.prog W = .ok (.int .i64 a) W:=by kernel_rfl
theorem run_at1 (a b c:Int) (W:World):(Instr.index 247 (.agg #[.int .i64 a,.int .i64 b,.int .i64 c]) (.int .i64 1)).run Tryz.prog W = .ok (.int .i64 b) W:=by kernel_rfl
theorem run_at2 (a b c:Int) (W:World):(Instr.index 247 (.agg #[.int .i64 a,.int .i64 b,.int .i64 c]) (.int .i64 2)).run Tryz.prog W = .ok (.int .i64 c) W:=by kernel_rfl
theorem run_at (V:Int) (j:Nat) (hj:j<3) (W:World):(Instr.index 247 (.agg #[.int .i64 (V - 1),.int .i64 V,.int .i64 (V+1)]) (.int .i64 (j:Int))).run Tryz.prog W = .ok (.int .i64 (V - 1+(j:Int))) W:=by
 have:j=0∨j=1∨j=2:=by omega
 rcases this with rfl | rfl | rfl
 · have:=run_at0 (V - 1) V (V+1) W
   rw [show V - 1+((0:Nat):Int)=V - 1 by omega]
   exact this
 · have:=run_at1 (V - 1) V (V+1) W
   rw [show V - 1+((1:Nat):Int)=V by omega]
   exact this
 · have:=run_at2 (V - 1) V (V+1) W
   rw [show V - 1+((2:Nat):Int)=V+1 by omega]
   exact this
end
section
def w2e:Nat:=4835858800541171712
theorem w2e_read:fd.read w2e = .number false 8000000000000000 (-2):=by decide
theorem whV_lt {r c:Nat} {e:Int} (h:fd.read r = .number false c e):fd.order r w2e=some .lt↔whV c e<2000000000000000:=by
 have hr:=read_num h
 unfold Ieee.Format.order
 rw [h,w2e_read]
 simp only [Ieee.Datum.order,Option.some.injEq]
 unfold Ieee.signed
 rw [if_neg (by decide),if_neg (by decide),Nat.shiftLeft_eq,Nat.shiftLeft_eq,Int.compare_eq_lt,Int.ofNat_lt]
 unfold whV
 rw [Nat.shiftLeft_eq]
 rcases Int.lt_or_le e 0 with hneg | hpos
 · obtain ⟨F,hF⟩:∃ F:Nat,e = -(F:Int):=⟨(-e).toNat,by omega⟩
   subst hF
   rw [show (-(F:Int)).toNat=0 by omega,show (- -(F:Int)).toNat=F by omega,Nat.pow_zero,Nat.mul_one]
   rw [Nat.div_lt_iff_lt_mul (Nat.two_pow_pos F)]
   rcases Nat.lt_or_ge F 2 with h2 | h2
   · obtain rfl:F=1:=by omega
     rw [show (-((1:Nat):Int) - min (-((1:Nat):Int)) (-2)).toNat=1 by omega,show (-2 - min (-((1:Nat):Int)) (-2)).toNat=0 by omega]
     omega
   · rw [Int.min_eq_left (by omega : -(F:Int) ≤ -2),show (-(F:Int) - -(F:Int)).toNat=0 by omega,show (-2 - -(F:Int)).toNat=F - 2 by omega,Nat.pow_zero,Nat.mul_one]
     have:(2:Nat) ^ F=4*2 ^ (F - 2):=by rw [show (4:Nat)=2 ^ 2 by rfl,← Nat.pow_add];congr 1;omega
     rw [this,← Nat.mul_assoc]
 · rw [Int.min_eq_right (by omega:(-2:Int)≤e),show (-2 - -2:Int).toNat=0 by omega,show (e - -2).toNat=e.toNat+2 by omega,show (-e).toNat=0 by omega,Nat.pow_zero,Nat.div_one,Nat.mul_one,Nat.pow_add,← Nat.mul_assoc]
   generalize c*2 ^ e.toNat=z
   omega
theorem min_run {P:Program} (ts:Array TypeId) (t:TypeId) (r:Nat) (o:Ordering) (ho:FloatKind.f64.format.order r w2e=some o) (hneg:(FloatKind.f64.decode r).neg=false) (w:World):
  (Builtin.min_ ts t #[.float .f64 r,.float .f64 w2e]).run P w = .ok (.float .f64 (if o = .lt then r else w2e)) w:=by
 have h1:Builtin.min_ ts t #[.float .f64 r,.float .f64 w2e]=Builtin.min2 (.float .f64 r) (.float .f64 w2e):=by simp [Builtin.min_]
 rw [h1]
 unfold Builtin.min2
 simp only [ho]
 cases o
 · rfl
 · simp only [hneg];rfl
 · rfl
theorem dec_one (m:Nat) (hm:m<10000000000000000) (w:World):Calls Tryz.prog 176 #[.int .i64 (m:Int),.int .i64 1] w fun e w'=>e = .returned (.string (str (Lib.decDigits m)))∧∃ q,w'=w.drewN q:=by
 have hd1:=Lib.nDigits_pos m
 have hd2:Lib.nDigits m≤15+1:=nDigits_le (by omega)
 have hJ:∀ j,j<Lib.nDigits m↔(0<m / 10 ^ j∨j<1):=by
  intro j
  constructor
  · intro h
    rcases Nat.eq_zero_or_pos j with h0 | h0
    · exact .inr (by omega)
    · left
      rcases Nat.eq_zero_or_pos (m / 10 ^ j) with h1 | h1
      · exfalso
        obtain ⟨i,rfl⟩:∃ i,j=i+1:=⟨j - 1,by omega⟩
        have h2:m<10 ^ (i+1):=by
         have:=(Nat.div_eq_zero_iff).1 h1
         rcases this with h | h
         · simp at h
         · exact h
        have:=nDigits_le h2
        omega
      · exact h1
  · rintro (h | h)
    · have h2:=Lib.lt_pow_nDigits m
      have h3:10 ^ j≤m:=by
       rcases Nat.lt_or_ge m (10 ^ j) with h' | h'
       · rw [Nat.div_eq_of_lt h'] at h;omega
       · exact h'
      exact (Nat.pow_lt_pow_iff_right (a:=10) (by omega)).1 (Nat.lt_of_le_of_lt h3 h2)
    · omega
 refine (dec_any m 1 (Lib.nDigits m) hm hJ (by omega) (by omega) w).mono ?_
 rintro e w' ⟨rfl,rfl⟩
 exact ⟨by rw [dgw_nDigits],0,rfl⟩
theorem dec_pad (n k:Nat) (h1:1≤k) (h6:k≤6) (w:World):Calls Tryz.prog 176 #[.int .i64 ((n % 10 ^ k:Nat):Int),.int .i64 (k:Int)] w fun e w'=>e = .returned (.string (str (dgw k n)))∧∃ q,w'=w.drewN q:=by
 have hlt:n % 10 ^ k<10 ^ k:=Nat.mod_lt _ (Nat.pos_of_ne_zero (by simp))
 have hle:(10:Nat) ^ k≤10 ^ 6:=Nat.pow_le_pow_right (by omega) h6
 have h106:(10:Nat) ^ 6=1000000:=by decide
 have hJ:∀ j,j<k↔(0<n % 10 ^ k / 10 ^ j∨j<k):=by
  intro j
  constructor
  · exact .inr
  · rintro (h | h)
    · rcases Nat.lt_or_ge j k with h' | h'
      · exact h'
      · have:(10:Nat) ^ k≤10 ^ j:=Nat.pow_le_pow_right (by omega) h'
        rw [Nat.div_eq_of_lt (by omega)] at h
        omega
    · exact h
 refine (dec_any (n % 10 ^ k) k k (by omega) hJ (by omega) (by omega) w).mono ?_
 rintro e w' ⟨rfl,rfl⟩
 exact ⟨by rw [dgw_mod],0,rfl⟩
theorem qof' (a:Nat) (w:World):Calls Tryz.prog 140 #[.int .u64 (a:Int)] w fun e w'=>e = .returned (.float .f64 a)∧w=w':=by
 have:=qof_any (a:Int) w
 rw [Int.toNat_natCast] at this
 exact this
theorem qcanon' {a r:Nat} (w:World) (h:toN a=r):Calls Tryz.prog 86 #[.int .u64 (a:Int)] w fun e w'=>e = .returned (.int .u64 (r:Int))∧w=w':=by
 have:=qcanon_any (a:Int) w
 rw [Int.toNat_natCast,h] at this
 exact this
end
section
theorem kof (a:Nat) (w:World):Calls Tryz.prog 117 #[.int .u64 (a:Int)] w fun e w'=>e = .returned (.float .f64 a)∧w=w':=by
 have:=pof_any (a:Int) w
 rw [Int.toNat_natCast] at this
 exact this
set_option maxRecDepth 100000 in
set_option maxHeartbeats 3200000 in
theorem rprint_any (b:Nat) (hb:b<18446744073709551616) (w:World) (ht:Tab w):
  Calls Tryz.prog 157 #[.int .u64 (b:Int)] w fun e w'=>∃ s z,e = .returned (.tuple #[.string (str s),.int .i64 z])∧PSpec (toN b) s z∧Below w.heap.size w w':=by
 obtain ⟨c,hc⟩:∃ c,c=toN b:=⟨_,rfl⟩
 have hcl:c<18446744073709551616:=by
  rw [hc];unfold toN;split <;> omega
 have g1:=fun W=>kcanon (a:=b) (r:=c) W hc.symm
 have g2:=fun W=>kof c W
 have HPS:=Lib.hid hc
 rw [← hc]
 clear hc hb
 have hord:=nanW_iff c
 cases hnan:nanW c with
 | true=>
   have HNL:=Lib.hid (show ∀ k n,¬ LitIs c k n from fun k n h=>by have:=h.bound.2.1;rw [hnan] at this;cases this)
   rw [hnan,if_pos rfl] at hord
   clear hnan hcl
   go_enter Tryz.func157,Tryz.ntmps157
   go_wp2_with (first
    | (go_at_call 64;(with_reducible refine (g1 _).mono ?_);rintro e w' ⟨rfl,rfl⟩)
    | (go_at_call 117;(with_reducible refine (g2 _).mono ?_);rintro e w' ⟨rfl,rfl⟩))
   go_ret2
   exact ⟨[],2,rfl,.inr ⟨rfl,rfl,HNL.out⟩,Below.refl _ _⟩
 | false=>
   rw [hnan,if_neg (by decide)] at hord
   by_cases h63:c<9223372036854775808
   · have i63:¬ (9223372036854775808:Int)≤c:=by omega
     have horder:=fun (h:fd.order c w15≠some .lt)=>(fun k n hl=>h (LitIs.bound hl).1:∀ k n,¬ LitIs c k n)
     obtain ⟨B,hB⟩:=big_is
     have hov:=order_val hB (x:=c) (y:=w15) hnan (by decide)
     rcases hcmp:compare (val B (fd.read c)) (val B (fd.read w15)) with _ | _ | _
     ·
      rw [hcmp] at hov
      have ho:FloatKind.f64.format.order c 4831355200913801216=some .lt:=hov
      have hnum:∃ m i,fd.read c = .number false m i:=by
       cases hr:fd.read c with
       | nan s p=>unfold nanW at hnan;rw [hr] at hnan;cases hnan
       | infinity s=>
         cases s with
         | true=>
           have h1:=read_inf hcl hr
           rw [fd_inf] at h1
           unfold Ieee.Format.word at h1
           rw [if_pos rfl,fd_sw] at h1
           omega
         | false=>
           have h1:fd.order c w15=some .gt:=by
            unfold Ieee.Format.order
            rw [hr,w15_read]
            simp only [Ieee.Datum.order,Bool.false_eq_true,if_false]
           exact absurd (hov.symm.trans h1) (by decide)
       | number s m i=>
         cases s with
         | false=>exact ⟨m,i,rfl⟩
         | true=>
           have:=(read_canon hcl hr).1
           unfold Ieee.Format.word at this
           rw [if_pos rfl,fd_sw] at this
           omega
      obtain ⟨m,i,hrd⟩:=hnum
      have HLT:=Lib.hid (And.intro hrd hov)
      have I63:=Lib.hid i63
      clear hov hcmp hrd hnan h63 hcl horder hB
      go_enter Tryz.func157,Tryz.ntmps157
      go_upto_region 3 with (first
       | (go_at_call 64;(with_reducible refine (g1 _).mono ?_);rintro e w' ⟨rfl,rfl⟩)
       | (go_at_call 117;(with_reducible refine (g2 _).mono ?_);rintro e w' ⟨rfl,rfl⟩))
      go_cut [26] (fun sv wx=>sv = .bool false∧wx=w)
      case first=>
       go_wp2_with fail
       go_meet
       case rel=>exact ⟨by rw [decide_eq_false (by have:=I63.out;omega)],rfl⟩
      case rest=>
       obtain ⟨rfl,hwx⟩:=hcut
       have hwx':=hwx.symm
       subst hwx'
       clear hwx i63
       go_wp2_with fail
       go_loopw [5] (fun kv wr=>∃ k:Nat,1≤k∧k≤7∧kv = .int .i64 k∧Below w.heap.size w wr∧NoLit c k) (fun kv _=>7 - (intOf kv).toNat)
       case atStart=>exact ⟨1,by omega,by omega,rfl,Below.refl _ _,noLit_one c⟩
       case round=>
        obtain ⟨k,hk1,hk7,rfl,hbw,hnl⟩:=hrel
        have HB:=Lib.hid hbw
        have HN:=Lib.hid hnl
        clear hbw hnl
        by_cases hk6:k≤6
        · have ik6:(k:Int)≤6:=by omega
          have hwk:IntKind.i64.wrap ((k:Int)+1)=(k:Int)+1:=by rw [IntKind.wrap_i64];omega
          obtain ⟨r,c',e',hmul,hread⟩:=prod_gen HLT.out.1 HLT.out.2 hk1 hk6
          have hrn:nanW r=false:=by unfold nanW;rw [hread];rfl
          have hrun:=fun w t=>run_float_arith (P:=Tryz.prog) w .mul t .f64 _ _ _ hmul
          have hfl:=floor_or hread
          have hflo:=floor_any r hrn
          obtain ⟨N,hN⟩:∃ N,N=flW r:=⟨_,rfl⟩
          rw [← hN] at hfl
          have HF:=Lib.hid (show ∀ W,Calls Tryz.prog 175 #[.float .f64 r] W fun e w'=>e = .returned (.float .f64 N)∧W=w' from fun W=>by rw [hN];exact hflo W)
          have HMU:=Lib.hid hmul
          by_cases hgt:fd.order N w15=some .gt
          · have hog:FloatKind.f64.format.order N 4831355200913801216=some .gt:=hgt
            have HNL:=Lib.hid (noLit_great hk1 hmul HN.out (fun V hV hI=>gt_not hV (by rw [hN];exact hI) hgt))
            clear hmul hread hrn hfl hflo hN hgt
            go_wp2_with (first
             | (go_at_call 191;refine (rpowers_any k (by omega) _).mono ?_;rintro e w' ⟨rfl,rfl⟩)
             | (go_at_call 175;(with_reducible refine (HF.out _).mono ?_);rintro e w' ⟨rfl,rfl⟩))
            go_ret2
            exact ⟨[],2,rfl,.inr ⟨rfl,rfl,HNL.out⟩,HB.out⟩
          · obtain ⟨V,hV53,hI⟩:∃ V:Nat,V<9007199254740992∧IsI N V:=by
             rcases hfl with ⟨h1,h2⟩ | ⟨_,h2,_⟩
             · exact ⟨_,h1,h2⟩
             · exact absurd h2 hgt
            have hV15:V≤1000000000000000:=by
             rw [isI_order hI w15_int] at hgt
             rcases Nat.lt_or_ge 1000000000000000 V with h | h
             · exfalso
               apply hgt
               rw [Int.compare_eq_gt.2 (by omega)]
             · exact h
            have hon:∃ o,FloatKind.f64.format.order N 4831355200913801216=some o∧o ≠ .gt:=⟨_,isI_order hI w15_int,fun e=>hgt (by rw [isI_order hI w15_int,e])⟩
            obtain ⟨o,hoo,hog⟩:=hon
            have hob:((some o:Option Ordering)==some .gt)=false:=by cases o <;> first | rfl | exact absurd rfl hog
            have hcv:∀ w,(convert 185 3 (.float .f64 N)).run Tryz.prog w = .ok (.int .i64 (V:Int)) w:=fun w=>run_convert_float_int (P:=Tryz.prog) w 185 3 .f64 .i64 N V (by kernel_rfl) Tryz.underlying3 (by
             unfold floatToIntVal FloatKind.decode
             rw [show (FloatKind.f64.format.read N).toInt .zero=some (V:Int) from isI_toInt hI]
             have e1:IntKind.i64.min = -9223372036854775808:=by decide
             have e2:IntKind.i64.max=9223372036854775807:=by decide
             simp only [e1,e2]
             rw [if_pos ⟨by omega,by omega⟩])
            have HFL:=Lib.hid (show ∀ n,LitIs c k n→n=V∨n=V+1 from fun n hl=>by
             obtain ⟨r',V',e1,_,e3,e4⟩:=hl.floor
             rw [HMU.out] at e1
             injection e1 with e1
             subst e1
             rw [← hN] at e3
             have:=isI_inj hI e3
             omega)
            have hv1:IntKind.i64.wrap ((V:Int) - 1)=(V:Int) - 1:=by rw [IntKind.wrap_i64];omega
            have hv2:IntKind.i64.wrap ((V:Int)+1)=(V:Int)+1:=by rw [IntKind.wrap_i64];omega
            have harr:=run_arr3 V
            clear hmul hread hrn hfl hflo hN hgt hI hog hV53
            go_wp2_with (first
             | (go_at_call 191;refine (rpowers_any k (by omega) _).mono ?_;rintro e w' ⟨rfl,rfl⟩)
             | (go_at_call 175;(with_reducible refine (HF.out _).mono ?_);rintro e w' ⟨rfl,rfl⟩))
            go_loopw [47] (fun xv wq=>∃ j:Nat,j≤3∧xv = .int .i64 j∧Below w.heap.size w wq∧∀ i:Nat,i<j→∀ m:Nat,(m:Int)=(V:Int) - 1+(i:Int)→¬ LitIs c k m) (fun xv _=>3 - (intOf xv).toNat)
            case atStart=>exact ⟨0,by omega,rfl,HB.out,fun i hi=>by omega⟩
            case round=>
             obtain ⟨j,hj3,rfl,hbq,htried⟩:=hrel
             have HQ:=Lib.hid hbq
             have HT:=Lib.hid htried
             clear hbq htried
             by_cases hj:j<3
             · have ij:(j:Int)<3:=by omega
               have hat:=run_at V j hj
               have hwj:IntKind.i64.wrap ((j:Int)+1)=(j:Int)+1:=by rw [IntKind.wrap_i64];omega
               by_cases hneg:(V:Int) - 1+(j:Int)<0
               · have HJ:=Lib.hid (show ∀ i:Nat,i<j+1→∀ m:Nat,(m:Int)=(V:Int) - 1+(i:Int)→¬ LitIs c k m from fun i hi m hm=>by omega)
                 go_wp2_with fail
                 go_roundw
                 case rel=>exact ⟨j+1,by omega,by go_num,HQ.out,HJ.out⟩
                 case measure=>simp [intOf];omega
               · obtain ⟨m,hm⟩:∃ m:Nat,(m:Int)=(V:Int) - 1+(j:Int):=⟨((V:Int) - 1+(j:Int)).toNat,by omega⟩
                 rw [← hm] at hat hneg
                 have hm16:m<10000000000000000:=by omega
                 have hls:=lit_short hm16 hk6
                 have hstep:=fun (hno:¬ LitIs c k m)=>(fun i hi m' hm'=>by
                  rcases Nat.lt_or_ge i j with h | h
                  · exact HT.out i h m' hm'
                  · have:i=j:=by omega
                    subst this
                    have:m'=m:=by omega
                    subst this
                    exact hno:∀ i:Nat,i<j+1→∀ m':Nat,(m':Int)=(V:Int) - 1+(i:Int)→¬ LitIs c k m')
                 obtain ⟨L,hL⟩:∃ L,L=litS m k:=⟨_,rfl⟩
                 have HLt:=Lib.hid (show ∀ W,Tab W→Calls Tryz.prog 192 #[.int .i64 (m:Int),.int .i64 (k:Int)] W fun e w'=>e = .returned (.string (str L))∧Below W.heap.size W w' from fun W hW=>by rw [hL];exact literal_any m k hm16 hk1 hk6 W hW)
                 have HTB:=Lib.hid (ht.below HQ.out)
                 obtain ⟨qv,hqv⟩:∃ qv,qv=rpB L:=⟨_,rfl⟩
                 obtain ⟨qz,hqz⟩:∃ qz,qz=rpF L:=⟨_,rfl⟩
                 have HPr:=Lib.hid (show ∀ W,Calls Tryz.prog 193 #[.string (str L)] W fun e w'=>e = .returned (.tuple #[.int .u64 (qv:Int),.int .i64 qz])∧Below W.heap.size W w' from fun W=>by rw [hqv,hqz];exact rparse_any L (by rw [hL];exact hls) W)
                 have hnn:¬ (m:Int)<0:=by omega
                 have hcp:=cand_parse m k hk1 hk6
                 rw [← hL,← hqv,← hqz] at hcp
                 rcases hcp with ⟨h15,hq1,hq2⟩ | ⟨h15,hq1,hq2⟩
                 · by_cases hqc:qv=c
                   · have HFound:=Lib.hid (show PSpec c L 0 from .inl ⟨rfl,k,m,⟨hk1,hk6,h15,by rw [← hq1,hqc]⟩,hL,HN.out⟩)
                     have hqb:((qv:Int)==c)=true:=beq_iff_eq.2 (by omega)
                     subst hq2
                     clear hm hm16 hls hstep hL hqv hqz hneg h15 hq1 hqc
                     go_wp2_with (first
                      | (go_at_call 192
                         go_must ((with_reducible refine (HLt.out _ HTB.out).mono ?_)
                                  rintro e w2 ⟨rfl,hb2⟩
                                  have HQ1:=Lib.hid (below_then HQ.out hb2)
                                  clear hb2))
                      | (go_at_call 193
                         go_must ((with_reducible refine (HPr.out _).mono ?_)
                                  rintro e w3 ⟨rfl,hb3⟩
                                  have HQ2:=Lib.hid (below_then HQ1.out hb3)
                                  clear hb3)))
                     go_ret2
                     exact ⟨L,0,rfl,HFound.out,HQ2.out⟩
                   · have hqb:((qv:Int)==c)=false:=beq_false_of_ne (by omega)
                     have HJ:=Lib.hid (hstep (fun hl=>hqc (by rw [hq1];exact hl.2.2.2)))
                     subst hq2
                     clear hm hm16 hls hstep hL hqv hqz hneg h15 hq1 hqc
                     go_wp2_with (first
                      | (go_at_call 192
                         go_must ((with_reducible refine (HLt.out _ HTB.out).mono ?_)
                                  rintro e w2 ⟨rfl,hb2⟩
                                  have HQ1:=Lib.hid (below_then HQ.out hb2)
                                  clear hb2))
                      | (go_at_call 193
                         go_must ((with_reducible refine (HPr.out _).mono ?_)
                                  rintro e w3 ⟨rfl,hb3⟩
                                  have HQ2:=Lib.hid (below_then HQ1.out hb3)
                                  clear hb3)))
                     go_roundw
                     case rel=>exact ⟨j+1,by omega,by go_num,HQ2.out,HJ.out⟩
                     case measure=>simp [intOf];omega
                 · have HJ:=Lib.hid (hstep (fun hl=>by have:=hl.2.2.1;omega))
                   subst hq2
                   clear hm hm16 hls hstep hL hqv hqz hneg h15 hq1
                   go_wp2_with (first
                    | (go_at_call 192
                       go_must ((with_reducible refine (HLt.out _ HTB.out).mono ?_)
                                rintro e w2 ⟨rfl,hb2⟩
                                have HQ1:=Lib.hid (below_then HQ.out hb2)
                                clear hb2))
                    | (go_at_call 193
                       go_must ((with_reducible refine (HPr.out _).mono ?_)
                                rintro e w3 ⟨rfl,hb3⟩
                                have HQ2:=Lib.hid (below_then HQ1.out hb3)
                                clear hb3)))
                   go_roundw
                   case rel=>exact ⟨j+1,by omega,by go_num,HQ2.out,HJ.out⟩
                   case measure=>simp [intOf];omega
             · have ij:¬ (j:Int)<3:=by omega
               have hj':j=3:=by omega
               have HNN:=Lib.hid (noLit_succ HN.out (fun n hl=>by
                rcases HFL.out n hl with e | e
                · exact HT.out 1 (by omega) n (by omega) hl
                · exact HT.out 2 (by omega) n (by omega) hl))
               clear hj'
               go_wp2_with fail
               go_roundw
               case rel=>exact ⟨k+1,by omega,by omega,by go_num,HQ.out,HNN.out⟩
               case measure=>simp [intOf];omega
        · have ik6:¬ (k:Int)≤6:=by omega
          have hk7':k=7:=by omega
          have HNL:=Lib.hid (noLit_all (hk7' ▸ HN.out))
          clear hk7'
          go_wp2_with fail
          go_ret2
          exact ⟨[],2,rfl,.inr ⟨rfl,rfl,HNL.out⟩,HB.out⟩
     · rw [hcmp] at hov
       have ho:FloatKind.f64.format.order c 4831355200913801216=some .eq:=hov
       have HNL:=Lib.hid (horder (by rw [hov];simp))
       clear hov hcmp horder hB hnan hcl h63
       go_enter Tryz.func157,Tryz.ntmps157
       go_wp2_with (first
        | (go_at_call 64;(with_reducible refine (g1 _).mono ?_);rintro e w' ⟨rfl,rfl⟩)
        | (go_at_call 117;(with_reducible refine (g2 _).mono ?_);rintro e w' ⟨rfl,rfl⟩))
       go_ret2
       exact ⟨[],2,rfl,.inr ⟨rfl,rfl,HNL.out⟩,Below.refl _ _⟩
     · rw [hcmp] at hov
       have ho:FloatKind.f64.format.order c 4831355200913801216=some .gt:=hov
       have HNL:=Lib.hid (horder (by rw [hov];simp))
       clear hov hcmp horder hB hnan hcl h63
       go_enter Tryz.func157,Tryz.ntmps157
       go_wp2_with (first
        | (go_at_call 64;(with_reducible refine (g1 _).mono ?_);rintro e w' ⟨rfl,rfl⟩)
        | (go_at_call 117;(with_reducible refine (g2 _).mono ?_);rintro e w' ⟨rfl,rfl⟩))
       go_ret2
       exact ⟨[],2,rfl,.inr ⟨rfl,rfl,HNL.out⟩,Below.refl _ _⟩
   · have i63:(9223372036854775808:Int)≤c:=by omega
     have HNL:=Lib.hid (show ∀ k n,¬ LitIs c k n from fun k n h=>h63 h.bound.2.2)
     clear h63 hcl hnan
     go_enter Tryz.func157,Tryz.ntmps157
     go_wp2_with (first
      | (go_at_call 64;(with_reducible refine (g1 _).mono ?_);rintro e w' ⟨rfl,rfl⟩)
      | (go_at_call 117;(with_reducible refine (g2 _).mono ?_);rintro e w' ⟨rfl,rfl⟩))
     go_ret2
     exact ⟨[],2,rfl,.inr ⟨rfl,rfl,HNL.out⟩,Below.refl _ _⟩
end
end Go.Proofs.YtinjiigdijbjeaaGreatDoor
