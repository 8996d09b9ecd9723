/- Texts of this proof, one behind the other. Conditions: those in each theorem. -/
import Derived.Test.YtiacalnkmnckjaaGreatDoorCnQ9
import Derived.Test.YtiacalnkmnckjaaGreatDoorCnQ2
import Derived.Test.YtiacalnkmnckjaaGreatDoorCnQ8
set_option linter.unusedVariables false
set_option linter.unusedSimpArgs false
namespace Go.Proofs.YtiacalnkmnckjaaGreatDoor
open Go.RowKit Go.As
section
set_option maxRecDepth 100000
theorem rprint_P (b:Nat) (hb:b<18446744073709551616) (w:World) (ht:Tab w):
  CB 200 #[.int .u64 (b:Int)] w (.tuple #[.string (str ((realP b).getD [])),.int .i64 (if (realP b).isSome then 0 else 2)]):=by
 refine (rprint_any b hb w ht).mono ?_
 rintro e w' ⟨s,y,rfl,hp,hbl⟩
 refine ⟨?_,hbl⟩
 rcases hp with ⟨h1,h2⟩ | ⟨h1,h2,h3⟩
 · subst h1
   rw [realP_ok (.inl ⟨rfl,h2⟩)]
   rfl
 · subst h1 h2
   rw [realP_no (.inr ⟨rfl,rfl,h3⟩) (by decide)]
   rfl
theorem realP_bound {b:Nat} {t:List UInt8} (h:realP b=some t):toN b=b∧b<9223372036854775808∧PSpec b t 0:=by
 have hx:PSpec (toN b) t 0:=by
  rcases PSpec.total (toN b) with ⟨s,hs⟩ | hs
  · rw [realP_ok hs] at h
    injection h with h
    subst h
    exact hs
  · rw [realP_no hs (by decide)] at h
    cases h
 have hb:∃ k n,LitIs (toN b) k n:=by
  rcases hx with ⟨_,k,n,h1,_⟩ | ⟨h1,_⟩
  · exact ⟨k,n,h1⟩
  · cases h1
 obtain ⟨k,n,hl⟩:=hb
 obtain ⟨_,h2,h3⟩:=hl.bound
 rcases toN_cases b with ⟨_,h4⟩ | ⟨_,h4⟩
 · rw [h4] at h3 hx
   exact ⟨h4,h3,hx⟩
 · rw [h4] at h2
   exact absurd h2 (by decide)
noncomputable def numB (n:Nat):Bool:=decide ((n:Int)=nanBits) || (decide ((n:Int)=infBits) || (realP n).isSome)
theorem ge_pos {n:Nat} (hn:n<18446744073709551616):(!(Sy.intLt (IntKind.wrap .i64 (n:Int)) 0))=decide (n<9223372036854775808):=by
 rw [Sy.intLt_eq,IntKind.wrap_i64]
 by_cases h:n<9223372036854775808
 · rw [decide_eq_true h,decide_eq_false (by omega)]
   rfl
 · rw [decide_eq_false h,decide_eq_true (by omega)]
   rfl
theorem le_one {n:Nat}:(!(Sy.intLt 1 (n:Int)))=decide (n≤1):=by
 rw [Sy.intLt_eq]
 by_cases h:n≤1
 · rw [decide_eq_true h,decide_eq_false (by omega)]
   rfl
 · rw [decide_eq_false h,decide_eq_true (by omega)]
   rfl
theorem and_off {b:Nat} (h:b<18446744073709551616):(b &&& 9223372036854775807)=b % 9223372036854775808:=by
 have:=Nat.and_two_pow_sub_one_eq_mod b 63
 simpa using this
theorem bits_off {b:Nat} (h:b<18446744073709551616):Go.bits .andNot .u64 (b:Int) 9223372036854775808=((b % 9223372036854775808:Nat):Int):=by
 have e:(BitVec.ofInt 64 (b:Int) &&& ~~~(BitVec.ofInt 64 9223372036854775808)).toNat=b % 9223372036854775808:=by
  rw [BitVec.toNat_and]
  have h1:(BitVec.ofInt 64 (b:Int)).toNat=b:=by rw [BitVec.toNat_ofInt];omega
  have h2:(~~~(BitVec.ofInt 64 9223372036854775808)).toNat=9223372036854775807:=by decide
  rw [h1,h2,and_off h]
 show IntKind.u64.wrap _=_
 have e3:∀ n:Int,IntKind.u64.wrap n=n % 18446744073709551616:=fun n=>rfl
 rw [e3]
 have e4:((BitVec.ofInt IntKind.u64.bits (b:Int) &&& ~~~(BitVec.ofInt IntKind.u64.bits 9223372036854775808)).toNat:Nat)=b % 9223372036854775808:=e
 rw [e4]
 omega
theorem cat_str (x y:Operand) (a b:List UInt8) (h:a.length+b.length≤9223372036854775807) (w:World):
  ((do eqGuard .add 9 x y (.string (str a)) (.string (str b));binOp .add 9 (.string (str a)) (.string (str b))):Sem Value).run Tryz.prog w = .ok (.string (str (a++b))) w:=by
 have e:(eqGuard .add 9 x y (.string (str a)) (.string (str b))).run Tryz.prog w = .ok () w:=rfl
 rw [Sem.run_bind,e,← str_append]
 show (Op.stringOp .add (str a) (str b)).run Tryz.prog w=_
 exact run_string_add_sum w (str a) (str b) (by rw [str_size,str_size];exact h)
noncomputable def rTp (n:Nat):List UInt8:=if (n:Int)=9221120237041090560 then [110,97,110] else if (n:Int)=9218868437227405312 then [105,110,102] else (realP n).getD []
noncomputable def rTx (n:Nat):List UInt8:=if n<9223372036854775808 then rTp n else 45::rTp (n - 9223372036854775808)
theorem rTp_len (n:Nat):(rTp n).length≤1048576:=by
 unfold rTp
 split
 · decide
 split
 · decide
 cases h:realP n with
 | none=>decide
 | some t=>exact (realP_bound h).2.2.len
theorem shr_top (n:Nat) (hn:n<18446744073709551616):Int.fdiv (n:Int) (2 ^ min (Int.toNat 63) IntKind.u64.bits)=if n<9223372036854775808 then 0 else 1:=by
 have e:(2:Int) ^ min (Int.toNat 63) IntKind.u64.bits=9223372036854775808:=by decide
 rw [e,Int.fdiv_eq_ediv_of_nonneg _ (by omega)]
 split <;> omega
open Go.Sy
theorem number_any (n:Nat) (hn:n<18446744073709551616) (w:World) (ht:Tab w):
  CB 136 #[.int .u64 (n:Int)] w (.bool (numB n)):=by
 refine eN [.int .u64 (n:Int)] Tryz.func136 (fun γ0 hγ0=>?_)
 refine rs [8] 60 0 ?_
 by_cases h1:(n:Int)=9221120237041090560
 ·
  refine gS 6 (x := .bool (intEq (n:Int) 9221120237041090560)) (.bool true) (by rw [eq_t h1]) ?_
  refine gS 7 (x := .bool (intEq (n:Int) 9221120237041090560)) (.bool true) (by rw [eq_t h1]) ?_
  refine rs [] 60 3 ?_
  refine gR (.bool true) (fun W hk=>⟨?_,hk.below⟩)
  simp [numB,nanBits,h1]
 refine gS 6 (x := .bool (intEq (n:Int) 9221120237041090560)) (.bool false) (by rw [eq_f h1]) ?_
 refine gS 7 (x := .bool (intEq (n:Int) 9221120237041090560)) (.bool false) (by rw [eq_f h1]) ?_
 refine rk ?_
 by_cases h2:(n:Int)=9218868437227405312
 ·
  refine kz (n:Int) 9218868437227405312 h2 ?_
  refine rk ?_
  refine gR (.bool true) (fun W hk=>⟨?_,hk.below⟩)
  simp [numB,infBits,h2]
 refine kw (n:Int) 9218868437227405312 h2 ?_
 refine rk ?_
 have hp:=fun W (hk:Keep (·<w.heap.size) w W)=>rprint_P n hn W (ht.below hk.below)
 cases h3:realP n with
 | none=>
   refine gX [.int .u64 (n:Int)] (.tuple #[nT [],nI 2]) (fun W hk=>by have:=hp W hk;rw [h3] at this;exact this) ?_
   refine rs [] 60 3 ?_
   refine gR (.bool false) (fun W hk=>⟨?_,hk.below⟩)
   simp [numB,nanBits,infBits,h1,h2,h3]
 | some t=>
   refine gX [.int .u64 (n:Int)] (.tuple #[nT t,nI 0]) (fun W hk=>by have:=hp W hk;rw [h3] at this;exact this) ?_
   refine rs [] 60 3 ?_
   refine gP [.int .u64 (n:Int)] (.bool true) (fun W hk=>kmay W (realP_bound h3).1) ?_
   refine rs [] 60 3 ?_
   refine gR (.bool true) (fun W hk=>⟨?_,hk.below⟩)
   simp [numB,h3]
noncomputable def litB (ty:Int) (n:Nat):Bool:=if ty=1 then decide (n<9223372036854775808) else if ty=2 then decide (n≤1) else if ty=3 then numB n else false
theorem tliteral_any (ty:Int) (n:Nat) (hn:n<18446744073709551616) (w:World) (ht:Tab w):
  CB 132 #[.agg #[.int .u8 ty,.int .u64 (n:Int)]] w (.bool (litB ty n)):=by
 refine eN [.agg #[.int .u8 ty,.int .u64 (n:Int)]] Tryz.func132 (fun γ0 hγ0=>?_)
 refine rk ?_
 by_cases h1:ty=1
 ·
  refine kz ty 1 h1 ?_
  refine rs [] 60 3 ?_
  refine gR (.bool (!(intLt (IntKind.wrap .i64 (n:Int)) 0))) (fun W hk=>⟨?_,hk.below⟩)
  rw [litB,if_pos h1,ge_pos hn]
 refine kw ty 1 h1 ?_
 refine rk ?_
 by_cases h2:ty=2
 ·
  refine kz ty 2 h2 ?_
  refine rs [] 60 3 ?_
  refine gR (.bool (!(intLt 1 (n:Int)))) (fun W hk=>⟨?_,hk.below⟩)
  rw [litB,if_neg h1,if_pos h2,le_one]
 refine kw ty 2 h2 ?_
 refine rk ?_
 by_cases h3:ty=3
 ·
  refine kz ty 3 h3 ?_
  refine rs [] 60 3 ?_
  refine gX [.int .u64 (n:Int)] (.bool (numB n)) (fun W hk=>number_any n hn W (ht.below hk.below)) ?_
  refine rs [] 60 3 ?_
  refine gR (.bool (numB n)) (fun W hk=>⟨?_,hk.below⟩)
  rw [litB,if_neg h1,if_neg h2,if_pos h3]
 refine kw ty 3 h3 ?_
 refine rs [] 60 3 ?_
 refine gR (.bool false) (fun W hk=>⟨?_,hk.below⟩)
 simp [litB,h1,h2,h3]
open Classical in
noncomputable def firB (ty:Int) (n:Nat):Bool:=if ty=1 then !decide ((n:Int)=9223372036854775808) else if ty=2 then decide (n≤1) else if ty=3 then (if (n:Int)=9221120237041090560 then true else if toN n=n then numB (n % 9223372036854775808) else false) else false
theorem tfirst_any (ty:Int) (n:Nat) (hn:n<18446744073709551616) (w:World) (ht:Tab w):
  CB 62 #[.agg #[.int .u8 ty,.int .u64 (n:Int)]] w (.bool (firB ty n)):=by
 refine eN [.agg #[.int .u8 ty,.int .u64 (n:Int)]] Tryz.func62 (fun γ0 hγ0=>?_)
 refine rk ?_
 by_cases h1:ty=1
 ·
  refine kz ty 1 h1 ?_
  refine rs [] 60 3 ?_
  refine gR (.bool (!(intEq (n:Int) 9223372036854775808))) (fun W hk=>⟨?_,hk.below⟩)
  rw [firB,if_pos h1,intEq_eq]
 refine kw ty 1 h1 ?_
 refine rk ?_
 by_cases h2:ty=2
 ·
  refine kz ty 2 h2 ?_
  refine rs [] 60 3 ?_
  refine gR (.bool (!(intLt 1 (n:Int)))) (fun W hk=>⟨?_,hk.below⟩)
  rw [firB,if_neg h1,if_pos h2,le_one]
 refine kw ty 2 h2 ?_
 refine rk ?_
 by_cases h3:ty=3
 rotate_left
 ·
  refine kw ty 3 h3 ?_
  refine rs [] 60 3 ?_
  refine gR (.bool false) (fun W hk=>⟨?_,hk.below⟩)
  simp [firB,h1,h2,h3]
 refine kz ty 3 h3 ?_
 refine rk ?_
 by_cases h4:(n:Int)=9221120237041090560
 ·
  refine kz (n:Int) 9221120237041090560 h4 ?_
  refine rs [] 60 3 ?_
  refine gR (.bool true) (fun W hk=>⟨?_,hk.below⟩)
  rw [firB,if_neg h1,if_neg h2,if_pos h3,if_pos h4]
 refine kw (n:Int) 9221120237041090560 h4 ?_
 refine rk ?_
 by_cases h5:toN n=n
 rotate_left
 ·
  refine gP [.int .u64 (n:Int)] (.bool false) (fun W hk=>by have:=pmay_any (n:Int) W;rw [Int.toNat_natCast,beq_false_of_ne (fun h=>h5 (by omega))] at this;exact this) ?_
  refine rs [] 60 3 ?_
  refine gR (.bool false) (fun W hk=>⟨?_,hk.below⟩)
  rw [firB,if_neg h1,if_neg h2,if_pos h3,if_neg h4,if_neg h5]
 refine gP [.int .u64 (n:Int)] (.bool true) (fun W hk=>kmay W h5) ?_
 refine rs [27] 60 3 ?_
 refine gS 26 (x := .int .u64 (Go.bits .andNot .u64 (n:Int) 9223372036854775808)) (.int .u64 ((n % 9223372036854775808:Nat):Int)) (by rw [bits_off hn]) ?_
 refine rs [] 60 3 ?_
 refine gX [.int .u64 ((n % 9223372036854775808:Nat):Int)] (.bool (numB (n % 9223372036854775808))) (fun W hk=>number_any _ (by omega) W (ht.below hk.below)) ?_
 refine rs [] 60 3 ?_
 refine gR (.bool (numB (n % 9223372036854775808))) (fun W hk=>⟨?_,hk.below⟩)
 rw [firB,if_neg h1,if_neg h2,if_pos h3,if_neg h4,if_pos h5]
theorem realTextP_any (n:Nat) (hp:n<9223372036854775808) (w:World) (ht:Tab w):
  CB 139 #[.int .u64 (n:Int)] w (nT (rTp n)):=by
 refine eN [.int .u64 (n:Int)] Tryz.func139 (fun γ0 hγ0=>?_)
 refine rk ?_
 by_cases h1:(n:Int)=9221120237041090560
 ·
  refine kz (n:Int) 9221120237041090560 h1 ?_
  refine rs [] 60 3 ?_
  refine gR (nT [110,97,110]) (fun W hk=>⟨?_,hk.below⟩)
  rw [rTp,if_pos h1]
 refine kw (n:Int) 9221120237041090560 h1 ?_
 refine rk ?_
 by_cases h2:(n:Int)=9218868437227405312
 ·
  refine kz (n:Int) 9218868437227405312 h2 ?_
  refine rs [] 60 3 ?_
  refine gR (nT [105,110,102]) (fun W hk=>⟨?_,hk.below⟩)
  rw [rTp,if_neg h1,if_pos h2]
 refine kw (n:Int) 9218868437227405312 h2 ?_
 refine rs [12] 60 0 ?_
 refine gS 11 (x := .int .u64 (Int.fdiv (n:Int) (2 ^ min (Int.toNat 63) IntKind.u64.bits))) (.int .u64 0) (by rw [shr_top n (by omega),if_pos hp]) ?_
 refine rs [] 60 1 ?_
 refine gX [.int .u64 (n:Int)] (.tuple #[nT ((realP n).getD []),nI (if (realP n).isSome then 0 else 2)]) (fun W hk=>rprint_P n (by omega) W (ht.below hk.below)) ?_
 refine rs [] 60 1 ?_
 refine gR (nT ((realP n).getD [])) (fun W hk=>⟨?_,hk.below⟩)
 rw [rTp,if_neg h1,if_neg h2]
theorem realTextN_any (n:Nat) (hn:n<18446744073709551616) (hp:9223372036854775808≤n) (w:World) (ht:Tab w):
  CB 139 #[.int .u64 (n:Int)] w (nT (rTx n)):=by
 refine eN [.int .u64 (n:Int)] Tryz.func139 (fun γ0 hγ0=>?_)
 refine rk ?_
 have h1:¬ (n:Int)=9221120237041090560:=by omega
 refine kw (n:Int) 9221120237041090560 h1 ?_
 refine rk ?_
 have h2:¬ (n:Int)=9218868437227405312:=by omega
 refine kw (n:Int) 9218868437227405312 h2 ?_
 refine rs [12] 60 0 ?_
 refine gS 11 (x := .int .u64 (Int.fdiv (n:Int) (2 ^ min (Int.toNat 63) IntKind.u64.bits))) (.int .u64 1) (by rw [shr_top n (by omega),if_neg (by omega)]) ?_
 refine rs [] 60 1 ?_
 obtain ⟨m,hm⟩:∃ m,m=n - 9223372036854775808:=⟨_,rfl⟩
 have e14:Go.bits .xor .u64 (n:Int) 9223372036854775808=(m:Int):=by rw [bits_neg hn,negW,if_neg (by omega),hm]
 refine gX [.int .u64 (Go.bits .xor .u64 (n:Int) 9223372036854775808)] (nT (rTp m)) (fun W hk=>by rw [e14];exact realTextP_any m (by omega) W (ht.below hk.below)) ?_
 refine rs [16] 60 1 ?_
 refine gC [45] (rTp m) (by have:=rTp_len m;simp;omega) ?_
 refine rs [] 60 1 ?_
 refine gR (nT ([45]++rTp m)) (fun W hk=>⟨?_,hk.below⟩)
 rw [rTx,if_neg (by omega),← hm]
 rfl
theorem ifbool_any (b:Bool) (w:World):CB 202 #[.bool b] w (nT (if b then [116,114,117,101] else [102,97,108,115,101])):=by
 cases b
 ·
  refine eN [.bool false] Tryz.func202 (fun γ0 hγ0=>?_)
  refine rs [] 60 3 ?_
  refine gR (nT [102,97,108,115,101]) (fun W hk=>⟨rfl,hk.below⟩)
 ·
  refine eN [.bool true] Tryz.func202 (fun γ0 hγ0=>?_)
  refine rs [] 60 3 ?_
  refine gR (nT [116,114,117,101]) (fun W hk=>⟨rfl,hk.below⟩)
theorem fbool_any (b:Bool) (w:World):CB 138 #[.bool b] w (nT (if b then [116,114,117,101] else [102,97,108,115,101])):=by
 cases b
 ·
  refine eN [.bool false] Tryz.func138 (fun γ0 hγ0=>?_)
  refine rs [] 60 3 ?_
  refine gX [.bool false] (nT [102,97,108,115,101]) (fun W hk=>ifbool_any false W) ?_
  refine rs [] 60 3 ?_
  refine gR (nT [102,97,108,115,101]) (fun W hk=>⟨rfl,hk.below⟩)
 ·
  refine eN [.bool true] Tryz.func138 (fun γ0 hγ0=>?_)
  refine rs [] 60 3 ?_
  refine gX [.bool true] (nT [116,114,117,101]) (fun W hk=>ifbool_any true W) ?_
  refine rs [] 60 3 ?_
  refine gR (nT [116,114,117,101]) (fun W hk=>⟨rfl,hk.below⟩)
theorem realText_any (n:Nat) (hn:n<18446744073709551616) (w:World) (ht:Tab w):
  CB 139 #[.int .u64 (n:Int)] w (.string (str (rTx n))):=by
 by_cases hp:n<9223372036854775808
 · have:=realTextP_any n hp w ht
   unfold rTx
   rw [if_pos hp]
   exact this
 · exact realTextN_any n hn (by omega) w ht
noncomputable def vTx (ty:Int) (n:Nat):List UInt8:=if ty=1 then Lib.itoa (IntKind.wrap .i64 (n:Int)) else if ty=2 then (if (n:Int)=1 then [116,114,117,101] else [102,97,108,115,101]) else rTx n
theorem tvalue_any (ty:Int) (n:Nat) (hn:n<18446744073709551616) (w:World) (ht:Tab w):
  CB 63 #[.agg #[.int .u8 ty,.int .u64 (n:Int)]] w (nT (vTx ty n)):=by
 refine eN [.agg #[.int .u8 ty,.int .u64 (n:Int)]] Tryz.func63 (fun γ0 hγ0=>?_)
 refine rk ?_
 by_cases h1:ty=1
 ·
  refine kz ty 1 h1 ?_
  refine rk ?_
  refine gX [nI (IntKind.wrap .i64 (n:Int)),nI 10] (nT (Lib.itoa (IntKind.wrap .i64 (n:Int)))) (fun W hk=>(Tryz.strconv_FormatInt_10 _ (by rw [IntKind.wrap_i64];omega) (by rw [IntKind.wrap_i64];omega) W (ht.below hk.below)).mono fun e w' ⟨h1,k,os,h2⟩=>⟨h1,by rw [h2];exact below_growK _ _ _⟩) ?_
  refine rs [] 60 1 ?_
  refine gR (nT (Lib.itoa (IntKind.wrap .i64 (n:Int)))) (fun W hk=>⟨?_,hk.below⟩)
  rw [vTx,if_pos h1]
 refine kw ty 1 h1 ?_
 refine rk ?_
 by_cases h2:ty=2
 ·
  refine kz ty 2 h2 ?_
  refine rs [16] 60 0 ?_
  by_cases h3:(n:Int)=1
  ·
   refine gS 15 (x := .bool (intEq (n:Int) 1)) (.bool true) (by rw [eq_t h3]) ?_
   refine gX [.bool true] (nT [116,114,117,101]) (fun W hk=>fbool_any true W) ?_
   refine rs [] 60 1 ?_
   refine gR (nT [116,114,117,101]) (fun W hk=>⟨?_,hk.below⟩)
   rw [vTx,if_neg h1,if_pos h2,if_pos h3]
  ·
   refine gS 15 (x := .bool (intEq (n:Int) 1)) (.bool false) (by rw [eq_f h3]) ?_
   refine gX [.bool false] (nT [102,97,108,115,101]) (fun W hk=>fbool_any false W) ?_
   refine rs [] 60 1 ?_
   refine gR (nT [102,97,108,115,101]) (fun W hk=>⟨?_,hk.below⟩)
   rw [vTx,if_neg h1,if_pos h2,if_neg h3]
 refine kw ty 2 h2 ?_
 refine rk ?_
 refine gX [.int .u64 (n:Int)] (nT (rTx n)) (fun W hk=>realText_any n hn W (ht.below hk.below)) ?_
 refine rs [] 60 1 ?_
 refine gR (nT (rTx n)) (fun W hk=>⟨?_,hk.below⟩)
 rw [vTx,if_neg h1,if_neg h2]
theorem wrap_lo {n:Nat} (h:n<9223372036854775808):Lib.itoa (IntKind.wrap .i64 (n:Int))=Lib.decDigits (n:Int).toNat:=by
 have e:IntKind.wrap .i64 (n:Int)=(n:Int):=by rw [IntKind.wrap_i64];omega
 rw [e]
 unfold Lib.itoa
 rw [if_neg (by omega)]
theorem wrap_hi {n:Nat} (hn:n<18446744073709551616) (h:¬ n<9223372036854775808):Lib.itoa (IntKind.wrap .i64 (n:Int))=45::Lib.decDigits (18446744073709551616 - (n:Int)).toNat:=by
 obtain ⟨z,hz⟩:∃ z,z=IntKind.wrap .i64 (n:Int):=⟨_,rfl⟩
 have e:z=(n:Int) - 18446744073709551616:=by rw [hz,IntKind.wrap_i64];omega
 rw [← hz]
 unfold Lib.itoa
 rw [if_pos (by omega)]
 have e2:z.natAbs=(18446744073709551616 - (n:Int)).toNat:=by omega
 rw [e2]
theorem litT1 (b:Int):litT 1 b=if b<signBits then some (Lib.decDigits b.toNat) else none:=by unfold litT;rw [if_pos rfl]
theorem litT2 (b:Int):litT 2 b=if b=1 then some [116,114,117,101] else if b=0 then some [102,97,108,115,101] else none:=by unfold litT;rw [if_neg (by decide),if_pos rfl]
theorem litT3 (b:Int):litT 3 b=if b=nanBits then some [110,97,110] else if b=infBits then some [105,110,102] else if b<signBits then realP b.toNat else none:=by unfold litT;rw [if_neg (by decide),if_neg (by decide),if_pos rfl]
theorem litT0 {ty:Int} (h1:ty≠1) (h2:ty≠2) (h3:ty≠3) (b:Int):litT ty b=none:=by unfold litT;rw [if_neg h1,if_neg h2,if_neg h3]
theorem lit3 (n:Nat):numB n=(litT 3 (n:Int)).isSome∧∀ t,litT 3 (n:Int)=some t→n<9223372036854775808∧rTp n=t:=by
 rw [litT3]
 unfold numB rTp nanBits infBits signBits
 by_cases h4:(n:Int)=9221120237041090560
 · rw [if_pos h4,if_pos h4,decide_eq_true h4]
   exact ⟨rfl,fun t ht=>⟨by omega,by injection ht⟩⟩
 · rw [if_neg h4,if_neg h4,decide_eq_false h4]
   by_cases h5:(n:Int)=9218868437227405312
   · rw [if_pos h5,if_pos h5,decide_eq_true h5]
     exact ⟨rfl,fun t ht=>⟨by omega,by injection ht⟩⟩
   · rw [if_neg h5,if_neg h5,decide_eq_false h5,Int.toNat_natCast]
     by_cases h6:(n:Int)<9223372036854775808
     · rw [if_pos h6]
       exact ⟨by simp,fun t ht=>⟨by omega,by rw [ht];rfl⟩⟩
     · rw [if_neg h6]
       refine ⟨?_,fun t ht=>by cases ht⟩
       cases h7:realP n with
       | none=>rfl
       | some t=>exact absurd (realP_bound h7).2.1 (by omega)
theorem toN_neg {n m:Nat} (hn:n<18446744073709551616) (h:¬ n<9223372036854775808) (hm:m=n - 9223372036854775808) (hx:toN n≠n):toN m=9221120237041090560:=by
 have hnm:m=negW n:=by rw [hm];unfold negW;rw [if_neg h]
 have h1:nanW n=true:=by
  rcases toN_cases n with ⟨_,h2⟩ | ⟨h2,_⟩
  · exact absurd h2 hx
  · have h3:=nanW_iff n
    cases hb:nanW n with
    | true=>rfl
    | false=>
      rw [hb] at h3
      rw [show FloatKind.f64.format.order n n=none from h2] at h3
      cases h3
 have h2:nanW m=true:=by rw [hnm,nanW_neg hn,h1]
 rcases toN_cases m with ⟨h3,_⟩ | ⟨_,h4⟩
 · have h5:=nanW_iff m
   rw [h2,show FloatKind.f64.format.order m m=some .eq from h3] at h5
   cases h5
 · exact h4
theorem lit_plain (ty:Int) (n:Nat) (hn:n<18446744073709551616):litB ty n=(litT ty (n:Int)).isSome∧∀ t,litT ty (n:Int)=some t→vTx ty n=t:=by
 by_cases h1:ty=1
 · subst h1
   rw [litT1]
   unfold litB vTx signBits
   rw [if_pos rfl,if_pos rfl]
   by_cases h:n<9223372036854775808
   · rw [decide_eq_true h,if_pos (show (n:Int)<9223372036854775808 by omega),wrap_lo h]
     exact ⟨rfl,fun t ht=>by injection ht⟩
   · rw [decide_eq_false h,if_neg (show ¬ (n:Int)<9223372036854775808 by omega)]
     exact ⟨rfl,fun t ht=>by cases ht⟩
 by_cases h2:ty=2
 · subst h2
   rw [litT2]
   unfold litB vTx
   rw [if_neg h1,if_pos rfl,if_neg h1,if_pos rfl]
   by_cases h3:(n:Int)=1
   · rw [if_pos h3,if_pos h3,decide_eq_true (by omega)]
     exact ⟨rfl,fun t ht=>by injection ht⟩
   · rw [if_neg h3,if_neg h3]
     by_cases h4:(n:Int)=0
     · rw [if_pos h4,decide_eq_true (by omega)]
       exact ⟨rfl,fun t ht=>by injection ht⟩
     · rw [if_neg h4,decide_eq_false (by omega)]
       exact ⟨rfl,fun t ht=>by cases ht⟩
 by_cases h3:ty=3
 · subst h3
   obtain ⟨g1,g2⟩:=lit3 n
   unfold litB vTx
   rw [if_neg h1,if_neg h2,if_pos rfl,if_neg h1,if_neg h2]
   refine ⟨g1,fun t ht=>?_⟩
   obtain ⟨g3,g4⟩:=g2 t ht
   unfold rTx
   rw [if_pos g3,g4]
 · rw [litT0 h1 h2 h3]
   unfold litB
   rw [if_neg h1,if_neg h2,if_neg h3]
   exact ⟨rfl,fun t ht=>by cases ht⟩
theorem fir_plain (ty:Int) (n:Nat) (hn:n<18446744073709551616):firB ty n=(valT ty (n:Int)).isSome∧∀ t,valT ty (n:Int)=some t→vTx ty n=t:=by
 by_cases h1:ty=1
 · subst h1
   unfold firB valT vTx signBits
   rw [if_pos rfl,if_pos rfl,if_pos rfl]
   by_cases h:n<9223372036854775808
   · rw [if_pos (show (n:Int)<9223372036854775808 by omega),decide_eq_false (show ¬ (n:Int)=9223372036854775808 by omega),wrap_lo h]
     exact ⟨rfl,fun t ht=>by injection ht⟩
   · rw [if_neg (show ¬ (n:Int)<9223372036854775808 by omega)]
     by_cases h4:(n:Int)=9223372036854775808
     · rw [if_pos h4,decide_eq_true h4]
       exact ⟨rfl,fun t ht=>by cases ht⟩
     · rw [if_neg h4,decide_eq_false h4,wrap_hi hn h]
       exact ⟨rfl,fun t ht=>by injection ht⟩
 have hlit:=lit_plain ty n hn
 by_cases h3:ty=3
 · subst h3
   unfold firB valT vTx
   rw [if_neg h1,if_neg (show ¬ (3:Int)=2 by decide),if_pos (show (3:Int)=3 from rfl),if_neg h1,if_pos (show (3:Int)=3 from rfl),if_neg h1,if_neg (show ¬ (3:Int)=2 by decide)]
   unfold signBits rTx
   by_cases h:n<9223372036854775808
   · rw [if_pos (show (n:Int)<9223372036854775808 by omega),if_pos h]
     obtain ⟨g1,g2⟩:=lit3 n
     refine ⟨?_,fun t ht=>(g2 t ht).2⟩
     rw [← g1,Nat.mod_eq_of_lt h]
     by_cases h4:(n:Int)=9221120237041090560
     · rw [if_pos h4]
       unfold numB nanBits
       rw [decide_eq_true h4]
       rfl
     · rw [if_neg h4]
       by_cases h5:toN n=n
       · rw [if_pos h5]
       · rw [if_neg h5]
         unfold numB nanBits infBits
         have h6:¬ (n:Int)=9218868437227405312:=fun h6=>h5 (by
          have:n=9218868437227405312:=by omega
          subst this
          decide)
         rw [decide_eq_false h4,decide_eq_false h6]
         cases h7:realP n with
         | none=>rfl
         | some t=>exact absurd (realP_bound h7).1 h5
   · rw [if_neg (show ¬ (n:Int)<9223372036854775808 by omega),if_neg h,if_neg (show ¬ (n:Int)=9221120237041090560 by omega)]
     obtain ⟨m,hm⟩:∃ m,m=n - 9223372036854775808:=⟨_,rfl⟩
     have hm1:(n:Int) - 9223372036854775808=(m:Int):=by omega
     have hm2:n % 9223372036854775808=m:=by omega
     rw [hm1,hm2,← hm]
     obtain ⟨g1,g2⟩:=lit3 m
     unfold nanBits
     by_cases h4:(m:Int)=9221120237041090560
     · rw [if_pos h4]
       refine ⟨?_,fun t ht=>by cases ht⟩
       have hmn:m=9221120237041090560:=by omega
       have hn2:n=18444492273895866368:=by omega
       have h5:¬ toN n=n:=by
        rw [hn2]
        decide
       rw [if_neg h5]
       rfl
     · rw [if_neg h4]
       by_cases h5:toN n=n
       · rw [if_pos h5,g1]
         refine ⟨by cases litT 3 (m:Int) <;> rfl,fun t ht=>?_⟩
         cases h6:litT 3 (m:Int) with
         | none=>rw [h6] at ht;cases ht
         | some t'=>
           rw [h6] at ht
           injection ht with ht
           rw [(g2 t' h6).2]
           exact ht
       · rw [if_neg h5]
         have hN:=toN_neg hn h hm h5
         have hnone:litT 3 (m:Int)=none:=by
          rw [litT3]
          unfold nanBits infBits signBits
          rw [if_neg h4]
          have h6:¬ (m:Int)=9218868437227405312:=fun h6=>by
           have hmn:m=9218868437227405312:=by omega
           rw [hmn] at hN
           exact absurd hN (by decide)
          rw [if_neg h6,if_pos (show (m:Int)<9223372036854775808 by omega),Int.toNat_natCast]
          cases h7:realP m with
          | none=>rfl
          | some t=>
            have:=(realP_bound h7).1
            rw [hN] at this
            exact absurd (show (m:Int)=9221120237041090560 by omega) h4
         rw [hnone]
         exact ⟨rfl,fun t ht=>by cases ht⟩
 · have e:valT ty (n:Int)=litT ty (n:Int):=by unfold valT;rw [if_neg h1,if_neg h3]
   rw [e]
   refine ⟨?_,hlit.2⟩
   rw [← hlit.1]
   unfold firB litB
   rw [if_neg h1,if_neg h1,if_neg h3,if_neg h3]
end
section
set_option maxRecDepth 100000
noncomputable def okE (r:Nat) (e:Ex):Bool:=decide (hgt e≤r)&&(exT e).isSome
noncomputable def okEs (r:Nat) (l:List Ex):Bool:=decide (hgts l≤r)&&(exTs l).isSome
theorem okEs_nil (r:Nat):okEs r []=true:=by simp [okEs,hgts,exTs]
theorem okEs_cons (r:Nat) (e:Ex) (l:List Ex):okEs r (e::l)=(okE r e&&okEs r l):=by
 unfold okEs okE
 have hh:hgts (e::l)=max (hgt e) (hgts l):=by simp only [hgts]
 simp only [exTs]
 by_cases h1:hgt e≤r
 · by_cases h2:hgts l≤r
   · rw [decide_eq_true (show hgts (e::l)≤r by omega),decide_eq_true h1,decide_eq_true h2]
     cases exT e with
     | none=>rfl
     | some t=>cases exTs l <;> rfl
   · rw [decide_eq_false (show ¬ hgts (e::l)≤r by omega),decide_eq_false h2]
     simp
 · rw [decide_eq_false (show ¬ hgts (e::l)≤r by omega),decide_eq_false h1]
   simp
theorem okEs_app (r:Nat):∀ (l m:List Ex),okEs r (l++m)=(okEs r l&&okEs r m)
 | [],m=>by simp [okEs_nil]
 | e::l,m=>by rw [List.cons_append,okEs_cons,okEs_cons,okEs_app r l m,Bool.and_assoc]
theorem okE_zero (e:Ex):okE 0 e=false:=by
 cases e
 unfold okE
 simp [hgt]
noncomputable def litL (op ty:Int) (bn:Nat):Bool:=if op=1 then litB ty bn else vEq ty bn 0 0
noncomputable def namL (op:Int) (name:List UInt8):Bool:=if op=2 then nameB name else Sy.bEqL name []
theorem vEq_zero (ty:Int) (bn:Nat):vEq ty bn 0 0=true↔ty=0∧(bn:Int)=0:=by
 unfold vEq
 rw [Sy.intEq_eq,Sy.intEq_eq]
 simp
theorem bEq_nil (name:List UInt8):Sy.bEqL name []=true↔name=[]:=by
 rw [Sy.bEqL_eq]
 simp
theorem okE_mk (r:Nat) (op ty:Int) (bn:Nat) (name:List UInt8) (kids:List Ex) (hb:bn<18446744073709551616):
  okE (r+1) (.mk op ty bn name kids)=(decide (kidsN op=(kids.length:Int))&&(okEs r kids&&(litL op ty bn&&namL op name))):=by
 unfold okE okEs
 have hh:hgt (.mk op ty bn name kids)=hgts kids+1:=by simp only [hgt]
 by_cases h:hgts kids≤r
 · rw [decide_eq_true (show hgt (.mk op ty bn name kids)≤r+1 by omega),decide_eq_true h]
   simp only [exT,Bool.true_and]
   cases hx:exTs kids with
   | none=>simp
   | some ks=>
     have hl:=exTs_len hx
     simp only [Option.isSome_some,Bool.true_and]
     by_cases z1:op≠1∧¬ (ty=0∧(bn:Int)=0)
     · have:litL op ty bn=false:=by
        unfold litL
        rw [if_neg z1.1,← Bool.not_eq_true,vEq_zero]
        exact z1.2
       rw [this,if_pos (.inl z1)]
       simp
     by_cases z2:op≠2∧name≠[]
     · have:namL op name=false:=by
        unfold namL
        rw [if_neg z2.1,← Bool.not_eq_true,bEq_nil]
        exact z2.2
       rw [this,if_pos (.inr z2)]
       simp
     rw [if_neg (by rintro (h | h) <;> contradiction)]
     have hz:op≠1→litL op ty bn=true:=fun h=>by
      unfold litL
      rw [if_neg h,vEq_zero]
      exact Classical.byContradiction fun h'=>z1 ⟨h,h'⟩
     have hn:op≠2→namL op name=true:=fun h=>by
      unfold namL
      rw [if_neg h,bEq_nil]
      exact Classical.byContradiction fun h'=>z2 ⟨h,h'⟩
     have hk0:kids.length=ks.length:=hl.symm
     rw [hk0]
     by_cases c1:op=1
     · subst c1
       rw [if_pos rfl,hn (by decide),show kidsN 1=0 from rfl,show litL 1 ty bn=litB ty bn from rfl,(lit_plain ty bn hb).1]
       cases ks <;> simp <;> omega
     rw [if_neg c1]
     by_cases c2:op=2
     · subst c2
       rw [if_pos rfl,hz (by decide),show kidsN 2=0 from rfl,show namL 2 name=nameB name from rfl]
       cases ks with
       | nil=>cases nameB name <;> simp
       | cons a b=>simp;omega
     rw [if_neg c2,hz c1,hn c2]
     unfold kidsN
     rw [if_neg (show ¬ (op=1∨op=2) by omega)]
     by_cases c3:3≤op∧op≤15
     · rw [if_pos c3,if_pos c3]
       match ks with
       | []=>simp
       | [_]=>simp
       | [_,_]=>simp
       | _::_::_::l=>simp;omega
     rw [if_neg c3,if_neg c3]
     by_cases c4:16≤op∧op≤19
     · rw [if_pos c4]
       have h4:op=16∨op=17∨op=18∨op=19:=by omega
       match ks with
       | []=>rcases h4 with h | h | h | h <;> simp [h]
       | [_]=>rcases h4 with h | h | h | h <;> simp [h]
       | _::_::l=>rcases h4 with h | h | h | h <;> simp [h] <;> omega
     · rw [if_neg c4,if_neg (show ¬ op=16 by omega),if_neg (show ¬ op=17 by omega),if_neg (show ¬ op=18 by omega),if_neg (show ¬ op=19 by omega)]
       simp
 · rw [decide_eq_false (show ¬ hgt (.mk op ty bn name kids)≤r+1 by omega),decide_eq_false h]
   simp
theorem exBs_app:∀ (l r:List Ex),exBs (l++r)=exBs l+exBs r
 | [],r=>by simp [exBs]
 | e::l,r=>by
   rw [List.cons_append]
   simp only [exBs]
   rw [exBs_app l r]
   omega
open Go.Sy
theorem zero_any (ty bits:Int) (w:World):CB 131 #[.agg #[.int .u8 ty,.int .u64 bits]] w (.bool (vEq ty bits 0 0)):=by
 refine eN [.agg #[.int .u8 ty,.int .u64 bits]] Tryz.func131 (fun γ0 hγ0=>?_)
 refine rs [5] 60 0 ?_
 refine gV (.bool (vEq ty bits 0 0)) (S:=(do eqGuard .eql 31 (.tmp 3) (.tmp 4) (.agg #[.int .u8 ty,.int .u64 bits]) (.agg #[.int .u8 0,.int .u64 0]);binOp .eql 31 (.agg #[.int .u8 ty,.int .u64 bits]) (.agg #[.int .u8 0,.int .u64 0]))) (fun W _=>run_eql_value _ _ _ _ _ _ W) ?_
 refine rs [] 60 1 ?_
 exact gR (.bool (vEq ty bits 0 0)) (fun W hk=>⟨rfl,hk.below⟩)
theorem texpr_any:∀ (N:Nat) (e:Ex) (cs:List Value) (r:Nat) (w:World),wgt e≤N→wgt e≤1000000000000→r≤1000→exB e≤1000000000000→exR e→Tab w→ExAt (·<w.heap.size) w e cs→
  Calls Tryz.prog 59 #[.agg cs.toArray,nI (r:Int)] w fun v w'=>∃ h,v = .returned (.tuple #[nI h,.bool (okE r e)])∧(okE r e=true→h=(hgt e:Nat))∧Below w.heap.size w w':=by
 intro N
 induction N with
 | zero=>intro e cs r w h;have:=wgt_pos e;omega
 | succ N ihN=>
   intro e cs r w hN hbd hr hB hR ht hat
   obtain ⟨op,ty,bits,name,kids⟩:=e
   simp only [ExAt] at hat
   obtain ⟨a,cap,xs,rfl,hsl,hks⟩:=hat
   simp only [exR] at hR
   obtain ⟨hop,hty,hbit,hkR⟩:=hR
   obtain ⟨bn,rfl⟩:∃ bn:Nat,bits=(bn:Int):=⟨bits.toNat,by omega⟩
   have hbn:bn<18446744073709551616:=by omega
   simp only [wgt] at hN hbd
   simp only [exB] at hB
   have hnm:name.length≤maxLen:=by unfold maxLen;omega
   obtain ⟨n,hn⟩:∃ n,n=kids.length:=⟨_,rfl⟩
   have hnl:=wgts_len kids
   rw [← hn] at hsl hnl ⊢
   refine eN [xV op ty (bn:Int) name a n cap,nI (r:Int)] Tryz.func59 (fun γ0 hγ0=>?_)
   refine rk ?_
   refine gP [.int .u8 op] (nI (kidsN op)) (fun W hk=>kids_any op W) ?_
   refine rs [20] 60 0 ?_
   by_cases hk0:kidsN op<0
   ·
    refine zx 18 (kidsN op) 0 hk0 ?_
    refine zx 19 (kidsN op) 0 hk0 ?_
    refine rs [] 60 4 ?_
    refine gR (.tuple #[nI 0,.bool false]) (fun W hk=>⟨0,?_,fun h=>?_,hk.below⟩)
    · rw [show okE r (.mk op ty bn name kids)=false by cases r with | zero=>exact okE_zero _ | succ r=>rw [okE_mk _ _ _ _ _ _ hbn,decide_eq_false (by omega)];rfl]
    · rw [show okE r (.mk op ty bn name kids)=false by cases r with | zero=>exact okE_zero _ | succ r=>rw [okE_mk _ _ _ _ _ _ hbn,decide_eq_false (by omega)];rfl] at h;cases h
   refine zy 18 (kidsN op) 0 hk0 ?_
   refine zy 19 (kidsN op) 0 hk0 ?_
   refine rs [27] 60 0 ?_
   by_cases hk1:(n:Int)=kidsN op
   rotate_left
   ·
    refine gS 24 (x := .bool (!(intEq (n:Int) (kidsN op)))) (.bool true) (by rw [eq_f hk1];rfl) ?_
    refine gS 25 (x := .bool (!(intEq (n:Int) (kidsN op)))) (.bool true) (by rw [eq_f hk1];rfl) ?_
    refine gS 26 (x := .bool (!(intEq (n:Int) (kidsN op)))) (.bool true) (by rw [eq_f hk1];rfl) ?_
    refine rs [] 60 4 ?_
    refine gR (.tuple #[nI 0,.bool false]) (fun W hk=>⟨0,?_,fun h=>?_,hk.below⟩)
    · rw [show okE r (.mk op ty bn name kids)=false by cases r with | zero=>exact okE_zero _ | succ r=>rw [okE_mk _ _ _ _ _ _ hbn,decide_eq_false (by omega)];rfl]
    · rw [show okE r (.mk op ty bn name kids)=false by cases r with | zero=>exact okE_zero _ | succ r=>rw [okE_mk _ _ _ _ _ _ hbn,decide_eq_false (by omega)];rfl] at h;cases h
   refine gS 24 (x := .bool (!(intEq (n:Int) (kidsN op)))) (.bool false) (by rw [eq_t hk1];rfl) ?_
   refine gS 25 (x := .bool (!(intEq (n:Int) (kidsN op)))) (.bool false) (by rw [eq_t hk1];rfl) ?_
   refine gS 26 (x := .bool (!(intEq (n:Int) (kidsN op)))) (.bool false) (by rw [eq_t hk1];rfl) ?_
   refine rk ?_
   cases r with
   | zero=>
     refine gK true (b:=intLt ((0:Nat):Int) 1) (rfl) ?_
     refine rs [] 60 1 ?_
     exact gR (.tuple #[nI 0,.bool false]) (fun W hk=>⟨0,(congrArg (fun b=>Ending.returned (.tuple #[nI 0,.bool b])) (okE_zero _).symm),(fun h=>by rw [okE_zero] at h;cases h),hk.below⟩)
   | succ r=>
     rw [okE_mk _ _ _ _ _ _ hbn,decide_eq_true (by omega),Bool.true_and]
     refine ky ((r+1:Nat):Int) 1 (by omega) ?_
     obtain ⟨L,hL⟩:∃ L,L=litL op ty bn:=⟨_,rfl⟩
     obtain ⟨M,hM⟩:∃ M,M=namL op name:=⟨_,rfl⟩
     rw [← hL,← hM]
     have hγ1:∀ b,gz+1≤b→γ0 b=none:=fun b hb=>hγ0 b (Nat.le_trans (Nat.le_succ _) hb)
     have tail:Go.Sy.Good Tryz.prog (·<w.heap.size) w γ0 Tryz.f59.ntmps (bodyPostD Tryz.prog Tryz.f59 (fun e w'=>∃ h,e = .returned (.tuple #[nI h,.bool (okEs r kids&&(L&&M))])∧((okEs r kids&&(L&&M))=true→h=(hgt (.mk op ty bn name kids):Nat))∧Below w.heap.size w w')) ⟨[.code (seqR (seqR (seqR (seqR (seqR (Tryz.f59.body.getD .skip))))))],⟨mkT [(1,vI ((r+1:Nat):Int)),(2,.ptr gz 0),(7,vB L),(8,vB M)],mkH [(gz,bK 34 5 [.v (.int .u8 op),.v (.int .u8 ty),.v (.int .u64 (bn:Int)),vT name,vL a n cap])],gz+1,[]⟩⟩:=by
      refine rk ?_
      refine good_toLp ?_
      refine good_loopI (fun i:List Ex×List Ex=>i.2.length) (fun i=>kids=i.1++i.2∧okEs r i.1=true) (fun i=>⟨mkT [(1,vI ((r+1:Nat):Int)),(7,vB L),(8,vB M),(9,vI ((hgts i.1:Nat):Int)),(49,vL a n cap),(50,vI (n:Int)),(51,vI (i.1.length:Int))],mkH [(gz,bK 34 5 [.v (.int .u8 op),.v (.int .u8 ty),.v (.int .u64 (bn:Int)),vT name,vL a n cap])],gz+1,[]⟩)
       ([],kids) ⟨rfl,okEs_nil r⟩ (by kernel_rfl)
       (fun h=>gU _ [(1,vI ((r+1:Nat):Int)),(7,vB L),(8,vB M),(9,vI ((hgts ([]:List Ex):Nat):Int)),(49,vL a n cap),(50,vI (n:Int)),(51,vI (([]:List Ex).length:Int))] [(gz,bK 34 5 [.v (.int .u8 op),.v (.int .u8 ty),.v (.int .u64 (bn:Int)),vT name,vL a n cap])] (gz+1) hγ1 h) ?_
      rintro ⟨l1,l2⟩ ⟨hI,hok⟩ ih
      have hI:kids=l1++l2:=hI
      have hok:okEs r l1=true:=hok
      have hn2:n=l1.length+l2.length:=by rw [hn,hI,List.length_append]
      have hw1:wgts kids=wgts l1+wgts l2:=by rw [hI,wgts_app]
      have hh1:=hgts_le l1
      have hh2:=hgts_le kids
      refine rk ?_
      cases l2 with
      | nil=>
        refine ky (l1.length:Int) (n:Int) (by simp at hn2;omega) ?_
        refine rs [72] 60 0 ?_
        have hkl:l1=kids:=by rw [hI];simp
        have e1:hgt (.mk op ty bn name l1)=hgts l1+1:=by simp only [hgt]
        rw [← hkl] at hh2 ⊢
        rw [hok,Bool.true_and]
        cases L with
        | false=>
          refine rs [] 60 3 ?_
          refine gR (.tuple #[nI (wrapF .i64 ((hgts l1:Nat)+1)),.bool (false&&M)]) (fun W hk=>⟨_,rfl,fun _=>?_,hk.below⟩)
          rw [e1,wr64 (by omega) (by omega)]
          omega
        | true=>
          refine rs [] 60 3 ?_
          refine gR (.tuple #[nI (wrapF .i64 ((hgts l1:Nat)+1)),.bool (true&&M)]) (fun W hk=>⟨_,rfl,fun _=>?_,hk.below⟩)
          rw [e1,wr64 (by omega) (by omega)]
          omega
      | cons x l3=>
        have hin:l1.length<n:=by rw [hn2,List.length_cons];omega
        have hks2:=hks
        rw [hI] at hks2
        obtain ⟨c,hc,hcell⟩:=hks2.at_
        have hcl:=hc.len
        simp only [wgts] at hw1
        have hwe:=wgt_pos x
        have hhe:=hgt_le x
        have hxR:exR x:=exRs_mem.1 hkR x (by rw [hI];simp)
        refine kx (l1.length:Int) (n:Int) (by omega) ?_
        refine rk ?_
        refine gI 32 34 cap l1.length hsl hin ?_
        refine rk ?_
        have hld:=fun W hk=>load_slA (P:=Tryz.prog) (ty:=34) (m:=5) (cs:=c) hsl (by kernel_rfl) (by kernel_rfl) l1.length 0 hcl hcell (W:=W) hk
        have hcall:=fun W hk=>ihN x c r W (by omega) (by omega) (by omega) (by rw [hI] at hB;simp only [exBs_app,exBs] at hB;omega) hxR (ht.below (Keep.below hk)) (hc.keep hk (kU hk))
        obtain ⟨op2,ty2,bits2,name2,kids2⟩:=x
        simp only [ExAt] at hc
        obtain ⟨a2,cap2,xs2,rfl,_⟩:=hc
        refine gV (xV op2 ty2 bits2 name2 a2 kids2.length cap2) (S:=Instr.loadAt 34 (.pointer (some ⟨gB a,oB a+l1.length*5+0,none⟩))) (fun W hk=>hld W hk) ?_
        refine rs [59] 60 0 ?_
        refine gS 58 (x:=nI (wrapF .i64 (((r+1:Nat):Int) - 1))) (nI (r:Int)) (by rw [wr64 (by omega) (by omega)];congr 1;omega) ?_
        refine gE [xV op2 ty2 bits2 name2 a2 kids2.length cap2,nI (r:Int)] (fun v=>∃ h,v = .tuple #[nI h,.bool (okE r (Ex.mk op2 ty2 bits2 name2 kids2))]∧(okE r (Ex.mk op2 ty2 bits2 name2 kids2)=true→h=(hgt (Ex.mk op2 ty2 bits2 name2 kids2):Nat))) (fun W hk=>(hcall W hk).mono fun e w' ⟨h,h1,h2,h3⟩=>⟨_,h1,⟨h,rfl,h2⟩,h3⟩) ?_
        rintro v w2 ⟨h,rfl,hh⟩ hk2
        cases hx:okE r (Ex.mk op2 ty2 bits2 name2 kids2) with
        | false=>
          refine rs [] 60 3 ?_
          have hall:okEs r kids=false:=by rw [hI,okEs_app,okEs_cons,hx];simp
          refine gR (.tuple #[nI 0,.bool false]) (fun W hk=>⟨0,(by rw [hall];rfl),(fun h=>by rw [hall] at h;cases h),hk.below⟩)
        | true=>
          have hh:=hh hx
          subst hh
          refine rs [] 60 1 ?_
          have hs1:okEs r (l1++[(Ex.mk op2 ty2 bits2 name2 kids2)])=true:=by rw [okEs_app,okEs_cons,hok,hx,okEs_nil];rfl
          refine gS 9 (x:=nI (if ((hgt (Ex.mk op2 ty2 bits2 name2 kids2):Nat):Int) > ((hgts l1:Nat):Int) then ((hgt (Ex.mk op2 ty2 bits2 name2 kids2):Nat):Int) else ((hgts l1:Nat):Int))) (nI ((hgts (l1++[(Ex.mk op2 ty2 bits2 name2 kids2)]):Nat):Int)) (by rw [hgts_snoc];congr 1;split <;> omega) ?_
          refine gS 51 (x:=nI (wrapF .i64 ((l1.length:Int)+1))) (nI ((l1++[(Ex.mk op2 ty2 bits2 name2 kids2)]).length:Nat)) (by rw [wr64 (by omega) (by omega)];congr 1;simp) ?_
          exact gU _ [(1,vI ((r+1:Nat):Int)),(7,vB L),(8,vB M),(9,vI ((hgts (l1++[(Ex.mk op2 ty2 bits2 name2 kids2)]):Nat):Int)),(49,vL a n cap),(50,vI (n:Int)),(51,vI ((l1++[(Ex.mk op2 ty2 bits2 name2 kids2)]).length:Int))] [(gz,bK 34 5 [.v (.int .u8 op),.v (.int .u8 ty),.v (.int .u64 (bn:Int)),vT name,vL a n cap])] (gz+1) hγ1 (ih (l1++[(Ex.mk op2 ty2 bits2 name2 kids2)],l3) ⟨by show kids=(l1++[_])++l3;rw [hI];simp,hs1⟩ lS1)
     refine rk ?_
     refine good_draw sy_mixed (by kernel_rfl) ?_
     refine q_run [] 60 ?_
     refine qB [.agg #[.int .u8 ty,.int .u64 (bn:Int)]] (.bool (vEq ty (bn:Int) 0 0)) (fun W hk=>zero_any _ _ W) ?_
     refine q_run [] 60 ?_
     refine qE ?_
     refine rk ?_
     by_cases c1:op=1
     ·
      refine kz op 1 c1 ?_
      refine rk ?_
      refine gX [.agg #[.int .u8 ty,.int .u64 (bn:Int)]] (.bool (litB ty bn)) (fun W hk=>tliteral_any ty bn hbn W (ht.below (Keep.below hk))) ?_
      refine rs [] 3 0 ?_
      refine gS 7 (x := .bool (litB ty bn)) (.bool L) (by rw [hL,litL,if_pos c1]) ?_
      refine gS 8 (x := .bool (bEqL name [])) (.bool M) (by rw [hM,namL,if_neg (by omega)]) ?_
      exact gU [.code (seqR (seqR (seqR (seqR (seqR (Tryz.f59.body.getD .skip))))))] [(1,vI ((r+1:Nat):Int)),(2,.ptr gz 0),(7,vB L),(8,vB M)] [(gz,bK 34 5 [.v (.int .u8 op),.v (.int .u8 ty),.v (.int .u64 (bn:Int)),vT name,vL a n cap])] (gz+1) hγ1 tail
     refine kw op 1 c1 ?_
     refine rk ?_
     by_cases c2:op=2
     ·
      refine kz op 2 c2 ?_
      refine rk ?_
      refine gP [nT name] (.bool (nameB name)) (fun W hk=>name_any name W hnm) ?_
      refine rs [] 3 0 ?_
      refine gS 7 (x := .bool (vEq ty (bn:Int) 0 0)) (.bool L) (by rw [hL,litL,if_neg c1]) ?_
      refine gS 8 (x := .bool (nameB name)) (.bool M) (by rw [hM,namL,if_pos c2]) ?_
      exact gU [.code (seqR (seqR (seqR (seqR (seqR (Tryz.f59.body.getD .skip))))))] [(1,vI ((r+1:Nat):Int)),(2,.ptr gz 0),(7,vB L),(8,vB M)] [(gz,bK 34 5 [.v (.int .u8 op),.v (.int .u8 ty),.v (.int .u64 (bn:Int)),vT name,vL a n cap])] (gz+1) hγ1 tail
     refine kw op 2 c2 ?_
     refine rs [] 2 0 ?_
     refine gS 7 (x := .bool (vEq ty (bn:Int) 0 0)) (.bool L) (by rw [hL,litL,if_neg c1]) ?_
     refine gS 8 (x := .bool (bEqL name [])) (.bool M) (by rw [hM,namL,if_neg c2]) ?_
     exact gU [.code (seqR (seqR (seqR (seqR (seqR (Tryz.f59.body.getD .skip))))))] [(1,vI ((r+1:Nat):Int)),(2,.ptr gz 0),(7,vB L),(8,vB M)] [(gz,bK 34 5 [.v (.int .u8 op),.v (.int .u8 ty),.v (.int .u64 (bn:Int)),vT name,vL a n cap])] (gz+1) hγ1 tail
end
section
set_option maxRecDepth 100000
open Go.Sy
theorem idxSt_any (p:St→Bool) (q:Nat) (L:List (St)) (a:Option Addr) (n cap:Nat) (xs:List Value) (w:World) (hn:n=L.length) (hbd:n≤1000000000000) (hsl:SlAt (·<w.heap.size) w a n 9 xs) (hks:LsAt (StAt (·<w.heap.size) w) L xs) (hf:∀ x∈L,∀ cs W,Sy.Keep (·<w.heap.size) w W→StAt (·<W.heap.size) W x cs→CB 193 #[.agg cs.toArray,nP q] W (.bool (p x))):
  Calls Tryz.prog 223 #[.slice a n cap,.func (.func 193) #[] #[nP q]] w fun e w'=>∃ i:Int,e = .returned (nI i)∧L.any p=decide (0≤i)∧Below w.heap.size w w':=by
 refine eN [.slice a n cap,.func (.func 193) #[] #[nP q]] Tryz.func223 (fun γ0 hγ0=>?_)
 refine rk ?_
 refine good_toLp ?_
 refine good_loopI (fun i:List (St)×List (St)=>i.2.length) (fun i=>L=i.1++i.2∧i.1.any p=false) (fun i=>⟨mkT [(0,vL a n cap),(1,norm (.func (.func 193) #[] #[nP q])),(7,vI (n:Int)),(8,vI (i.1.length:Int))],mkH [],gz,[]⟩)
  ([],L) ⟨rfl,rfl⟩ (by kernel_rfl)
  (fun h=>gU _ [(0,vL a n cap),(1,norm (.func (.func 193) #[] #[nP q])),(7,vI (n:Int)),(8,vI (([]:List (St)).length:Int))] [] gz hγ0 h) ?_
 rintro ⟨l1,l2⟩ ⟨hI,hany⟩ ih
 have hI:L=l1++l2:=hI
 have hany:l1.any p=false:=hany
 have hn2:n=l1.length+l2.length:=by rw [hn,hI,List.length_append]
 refine rk ?_
 cases l2 with
 | nil=>
   refine ky (l1.length:Int) (n:Int) (by simp at hn2;omega) ?_
   refine rk ?_
   exact gR (nI (-1)) (fun W hk=>⟨_,rfl,(by rw [hI,List.append_nil,hany];rfl),hk.below⟩)
 | cons x l3=>
   have hin:l1.length<n:=by rw [hn2,List.length_cons];omega
   have hks2:=hks
   rw [hI] at hks2
   obtain ⟨c,hc,hcell⟩:=LsAt.at_ (k:=9) (fun _ _ h=>h.len) hks2
   have hcall:=fun W (hk:Keep (·<w.heap.size) w W)=>hf x (by rw [hI];simp) c W hk (hc.keep hk (kU hk))
   refine kx (l1.length:Int) (n:Int) (by omega) ?_
   refine rk ?_
   refine gI 54 56 cap l1.length hsl hin ?_
   refine rk ?_
   obtain ⟨uK,us,⟨uo,ut,uv,un,uk⟩,uB,uL⟩:=x
   simp only [StAt] at hc
   obtain ⟨ucs,uj,uh,ubx,ui,uw,ulx,rfl,uhe,_⟩:=hc
   simp only [ExAt] at uhe
   obtain ⟨uf,ug,uex,rfl,_⟩:=uhe
   refine gD 56 9 (yL uK us uo ut uv un uf uk.length ug uj uB.length uh ui uL.length uw) l1.length 0 hsl rfl hcell ?_
   refine rk ?_
   cases hp:p (St.mk uK us (Ex.mk uo ut uv un uk) uB uL) with
   | true=>
     refine gX [yV uK us uo ut uv un uf uk.length ug uj uB.length uh ui uL.length uw,nP q] (.bool true) (fun W hk=>by have:=hcall W hk;rw [hp] at this;exact this) ?_
     refine rs [] 60 3 ?_
     exact gR (nI (l1.length:Int)) (fun W hk=>⟨_,rfl,(by rw [hI,List.any_append,List.any_cons,hp,hany,decide_eq_true (by omega)];rfl),hk.below⟩)
   | false=>
     refine gX [yV uK us uo ut uv un uf uk.length ug uj uB.length uh ui uL.length uw,nP q] (.bool false) (fun W hk=>by have:=hcall W hk;rw [hp] at this;exact this) ?_
     refine rs [] 60 1 ?_
     refine gS 8 (x:=nI (wrapF .i64 ((l1.length:Int)+1))) (nI ((l1++[(St.mk uK us (Ex.mk uo ut uv un uk) uB uL)]).length:Nat)) (by rw [wr64 (by omega) (by omega)];congr 1;simp) ?_
     exact gU _ [(0,vL a n cap),(1,norm (.func (.func 193) #[] #[nP q])),(7,vI (n:Int)),(8,vI ((l1++[(St.mk uK us (Ex.mk uo ut uv un uk) uB uL)]).length:Int))] [] gz hγ0 (ih (l1++[(St.mk uK us (Ex.mk uo ut uv un uk) uB uL)],l3) ⟨by show L=(l1++[_])++l3;rw [hI];simp,by show (l1++[_]).any p=false;rw [List.any_append,hany,List.any_cons,hp];rfl⟩ lS1)
theorem conSt_any (p:St→Bool) (q:Nat) (L:List (St)) (a:Option Addr) (n cap:Nat) (xs:List Value) (w:World) (hn:n=L.length) (hbd:n≤1000000000000) (hsl:SlAt (·<w.heap.size) w a n 9 xs) (hks:LsAt (StAt (·<w.heap.size) w) L xs) (hf:∀ x∈L,∀ cs W,Sy.Keep (·<w.heap.size) w W→StAt (·<W.heap.size) W x cs→CB 193 #[.agg cs.toArray,nP q] W (.bool (p x))):
  CB 192 #[.slice a n cap,.func (.func 193) #[] #[nP q]] w (.bool (L.any p)):=by
 refine eN [.slice a n cap,.func (.func 193) #[] #[nP q]] Tryz.func192 (fun γ0 hγ0=>?_)
 refine rk ?_
 refine gN [.slice a n cap,.func (.func 193) #[] #[nP q]] (fun v=>∃ i:Int,v=nI i∧L.any p=decide (0≤i)) (fun W hk=>(idxSt_any p q L a n cap xs W hn hbd ((hsl.keep hk).mono (kU hk)) (hks.imp fun x c hc=>hc.keep hk (kU hk)) (fun x hx cs W2 hk2=>hf x hx cs W2 (hk.trans (hk2.mono (kU hk))))).mono fun e w' ⟨i,h1,h2,h3⟩=>⟨_,h1,⟨i,rfl,h2⟩,h3⟩) ?_
 rintro v w2 ⟨i,rfl,hi⟩ hk2
 refine rk ?_
 refine gR (.bool (!(intLt i 0))) (fun W hk=>⟨?_,hk.below⟩)
 rw [hi,intLt_eq]
 by_cases h:0≤i
 · rw [decide_eq_true h,decide_eq_false (by omega)]
   rfl
 · rw [decide_eq_false h,decide_eq_true (by omega)]
   rfl
theorem idxVr_any (p:Vr→Bool) (L:List (Vr)) (a:Option Addr) (n cap:Nat) (xs:List Value) (w:World) (hn:n=L.length) (hbd:n≤1000000000000) (hsl:SlAt (·<w.heap.size) w a n 3 xs) (hks:LsAt (VrAt) L xs) (hf:∀ x∈L,∀ cs W,Sy.Keep (·<w.heap.size) w W→VrAt x cs→CB 115 #[.agg cs.toArray] W (.bool (p x))):
  Calls Tryz.prog 187 #[.slice a n cap,.func (.func 115) #[] #[]] w fun e w'=>∃ i:Int,e = .returned (nI i)∧L.any p=decide (0≤i)∧Below w.heap.size w w':=by
 refine eN [.slice a n cap,.func (.func 115) #[] #[]] Tryz.func187 (fun γ0 hγ0=>?_)
 refine rk ?_
 refine good_toLp ?_
 refine good_loopI (fun i:List (Vr)×List (Vr)=>i.2.length) (fun i=>L=i.1++i.2∧i.1.any p=false) (fun i=>⟨mkT [(0,vL a n cap),(1,norm (.func (.func 115) #[] #[])),(7,vI (n:Int)),(8,vI (i.1.length:Int))],mkH [],gz,[]⟩)
  ([],L) ⟨rfl,rfl⟩ (by kernel_rfl)
  (fun h=>gU _ [(0,vL a n cap),(1,norm (.func (.func 115) #[] #[])),(7,vI (n:Int)),(8,vI (([]:List (Vr)).length:Int))] [] gz hγ0 h) ?_
 rintro ⟨l1,l2⟩ ⟨hI,hany⟩ ih
 have hI:L=l1++l2:=hI
 have hany:l1.any p=false:=hany
 have hn2:n=l1.length+l2.length:=by rw [hn,hI,List.length_append]
 refine rk ?_
 cases l2 with
 | nil=>
   refine ky (l1.length:Int) (n:Int) (by simp at hn2;omega) ?_
   refine rk ?_
   exact gR (nI (-1)) (fun W hk=>⟨_,rfl,(by rw [hI,List.append_nil,hany];rfl),hk.below⟩)
 | cons x l3=>
   have hin:l1.length<n:=by rw [hn2,List.length_cons];omega
   have hks2:=hks
   rw [hI] at hks2
   obtain ⟨c,hc,hcell⟩:=LsAt.at_ (k:=3) (fun _ _ h=>h.len) hks2
   have hcall:=fun W (hk:Keep (·<w.heap.size) w W)=>hf x (by rw [hI];simp) c W hk (hc)
   refine kx (l1.length:Int) (n:Int) (by omega) ?_
   refine rk ?_
   refine gI 22 67 cap l1.length hsl hin ?_
   refine rk ?_
   obtain ⟨uname,ut,uv⟩:=x
   obtain rfl:c=[nT uname,.int .u8 ut,.int .u64 uv]:=hc
   refine gD 67 3 [nT uname,.int .u8 ut,.int .u64 uv] l1.length 0 hsl rfl hcell ?_
   refine rk ?_
   cases hp:p (Vr.mk uname ut uv) with
   | true=>
     refine gX [.agg #[nT uname,.int .u8 ut,.int .u64 uv]] (.bool true) (fun W hk=>by have:=hcall W hk;rw [hp] at this;exact this) ?_
     refine rs [] 60 3 ?_
     exact gR (nI (l1.length:Int)) (fun W hk=>⟨_,rfl,(by rw [hI,List.any_append,List.any_cons,hp,hany,decide_eq_true (by omega)];rfl),hk.below⟩)
   | false=>
     refine gX [.agg #[nT uname,.int .u8 ut,.int .u64 uv]] (.bool false) (fun W hk=>by have:=hcall W hk;rw [hp] at this;exact this) ?_
     refine rs [] 60 1 ?_
     refine gS 8 (x:=nI (wrapF .i64 ((l1.length:Int)+1))) (nI ((l1++[(Vr.mk uname ut uv)]).length:Nat)) (by rw [wr64 (by omega) (by omega)];congr 1;simp) ?_
     exact gU _ [(0,vL a n cap),(1,norm (.func (.func 115) #[] #[])),(7,vI (n:Int)),(8,vI ((l1++[(Vr.mk uname ut uv)]).length:Int))] [] gz hγ0 (ih (l1++[(Vr.mk uname ut uv)],l3) ⟨by show L=(l1++[_])++l3;rw [hI];simp,by show (l1++[_]).any p=false;rw [List.any_append,hany,List.any_cons,hp];rfl⟩ lS1)
theorem conVr_any (p:Vr→Bool) (L:List (Vr)) (a:Option Addr) (n cap:Nat) (xs:List Value) (w:World) (hn:n=L.length) (hbd:n≤1000000000000) (hsl:SlAt (·<w.heap.size) w a n 3 xs) (hks:LsAt (VrAt) L xs) (hf:∀ x∈L,∀ cs W,Sy.Keep (·<w.heap.size) w W→VrAt x cs→CB 115 #[.agg cs.toArray] W (.bool (p x))):
  CB 117 #[.slice a n cap,.func (.func 115) #[] #[]] w (.bool (L.any p)):=by
 refine eN [.slice a n cap,.func (.func 115) #[] #[]] Tryz.func117 (fun γ0 hγ0=>?_)
 refine rk ?_
 refine gN [.slice a n cap,.func (.func 115) #[] #[]] (fun v=>∃ i:Int,v=nI i∧L.any p=decide (0≤i)) (fun W hk=>(idxVr_any p L a n cap xs W hn hbd ((hsl.keep hk).mono (kU hk)) (hks.imp fun x c hc=>hc) (fun x hx cs W2 hk2=>hf x hx cs W2 (hk.trans (hk2.mono (kU hk))))).mono fun e w' ⟨i,h1,h2,h3⟩=>⟨_,h1,⟨i,rfl,h2⟩,h3⟩) ?_
 rintro v w2 ⟨i,rfl,hi⟩ hk2
 refine rk ?_
 refine gR (.bool (!(intLt i 0))) (fun W hk=>⟨?_,hk.below⟩)
 rw [hi,intLt_eq]
 by_cases h:0≤i
 · rw [decide_eq_true h,decide_eq_false (by omega)]
   rfl
 · rw [decide_eq_false h,decide_eq_true (by omega)]
   rfl
theorem idxTx_any (p:List UInt8→Bool) (L:List (List UInt8)) (a:Option Addr) (n cap:Nat) (xs:List Value) (w:World) (hn:n=L.length) (hbd:n≤1000000000000) (hsl:SlAt (·<w.heap.size) w a n 1 xs) (hks:LsAt (TxAt) L xs) (hf:∀ x∈L,∀ cs W,Sy.Keep (·<w.heap.size) w W→TxAt x cs→Calls Tryz.prog 119 (cs.toArray) W fun e w'=>e = .returned (.bool (p x))∧Below W.heap.size W w'):
  Calls Tryz.prog 188 #[.slice a n cap,.func (.func 119) #[] #[]] w fun e w'=>∃ i:Int,e = .returned (nI i)∧L.any p=decide (0≤i)∧Below w.heap.size w w':=by
 refine eN [.slice a n cap,.func (.func 119) #[] #[]] Tryz.func188 (fun γ0 hγ0=>?_)
 refine rk ?_
 refine good_toLp ?_
 refine good_loopI (fun i:List (List UInt8)×List (List UInt8)=>i.2.length) (fun i=>L=i.1++i.2∧i.1.any p=false) (fun i=>⟨mkT [(0,vL a n cap),(1,norm (.func (.func 119) #[] #[])),(7,vI (n:Int)),(8,vI (i.1.length:Int))],mkH [],gz,[]⟩)
  ([],L) ⟨rfl,rfl⟩ (by kernel_rfl)
  (fun h=>gU _ [(0,vL a n cap),(1,norm (.func (.func 119) #[] #[])),(7,vI (n:Int)),(8,vI (([]:List (List UInt8)).length:Int))] [] gz hγ0 h) ?_
 rintro ⟨l1,l2⟩ ⟨hI,hany⟩ ih
 have hI:L=l1++l2:=hI
 have hany:l1.any p=false:=hany
 have hn2:n=l1.length+l2.length:=by rw [hn,hI,List.length_append]
 refine rk ?_
 cases l2 with
 | nil=>
   refine ky (l1.length:Int) (n:Int) (by simp at hn2;omega) ?_
   refine rk ?_
   exact gR (nI (-1)) (fun W hk=>⟨_,rfl,(by rw [hI,List.append_nil,hany];rfl),hk.below⟩)
 | cons x l3=>
   have hin:l1.length<n:=by rw [hn2,List.length_cons];omega
   have hks2:=hks
   rw [hI] at hks2
   obtain ⟨c,hc,hcell⟩:=LsAt.at_ (k:=1) (fun _ _ h=>h.len) hks2
   have hcall:=fun W (hk:Keep (·<w.heap.size) w W)=>hf x (by rw [hI];simp) c W hk (hc)
   refine kx (l1.length:Int) (n:Int) (by omega) ?_
   refine rk ?_
   refine gI 23 9 cap l1.length hsl hin ?_
   refine rk ?_
   obtain rfl:c=[nT x]:=hc
   refine gL 9 (nT x) l1.length 0 hsl (hcell 0 _ rfl) ?_
   refine rk ?_
   cases hp:p x with
   | true=>
     refine gX [nT x] (.bool true) (fun W hk=>by have:=hcall W hk;rw [hp] at this;exact this) ?_
     refine rs [] 60 3 ?_
     exact gR (nI (l1.length:Int)) (fun W hk=>⟨_,rfl,(by rw [hI,List.any_append,List.any_cons,hp,hany,decide_eq_true (by omega)];rfl),hk.below⟩)
   | false=>
     refine gX [nT x] (.bool false) (fun W hk=>by have:=hcall W hk;rw [hp] at this;exact this) ?_
     refine rs [] 60 1 ?_
     refine gS 8 (x:=nI (wrapF .i64 ((l1.length:Int)+1))) (nI ((l1++[x]).length:Nat)) (by rw [wr64 (by omega) (by omega)];congr 1;simp) ?_
     exact gU _ [(0,vL a n cap),(1,norm (.func (.func 119) #[] #[])),(7,vI (n:Int)),(8,vI ((l1++[x]).length:Int))] [] gz hγ0 (ih (l1++[x],l3) ⟨by show L=(l1++[_])++l3;rw [hI];simp,by show (l1++[_]).any p=false;rw [List.any_append,hany,List.any_cons,hp];rfl⟩ lS1)
theorem conTx_any (p:List UInt8→Bool) (L:List (List UInt8)) (a:Option Addr) (n cap:Nat) (xs:List Value) (w:World) (hn:n=L.length) (hbd:n≤1000000000000) (hsl:SlAt (·<w.heap.size) w a n 1 xs) (hks:LsAt (TxAt) L xs) (hf:∀ x∈L,∀ cs W,Sy.Keep (·<w.heap.size) w W→TxAt x cs→Calls Tryz.prog 119 (cs.toArray) W fun e w'=>e = .returned (.bool (p x))∧Below W.heap.size W w'):
  CB 118 #[.slice a n cap,.func (.func 119) #[] #[]] w (.bool (L.any p)):=by
 refine eN [.slice a n cap,.func (.func 119) #[] #[]] Tryz.func118 (fun γ0 hγ0=>?_)
 refine rk ?_
 refine gN [.slice a n cap,.func (.func 119) #[] #[]] (fun v=>∃ i:Int,v=nI i∧L.any p=decide (0≤i)) (fun W hk=>(idxTx_any p L a n cap xs W hn hbd ((hsl.keep hk).mono (kU hk)) (hks.imp fun x c hc=>hc) (fun x hx cs W2 hk2=>hf x hx cs W2 (hk.trans (hk2.mono (kU hk))))).mono fun e w' ⟨i,h1,h2,h3⟩=>⟨_,h1,⟨i,rfl,h2⟩,h3⟩) ?_
 rintro v w2 ⟨i,rfl,hi⟩ hk2
 refine rk ?_
 refine gR (.bool (!(intLt i 0))) (fun W hk=>⟨?_,hk.below⟩)
 rw [hi,intLt_eq]
 by_cases h:0≤i
 · rw [decide_eq_true h,decide_eq_false (by omega)]
   rfl
 · rw [decide_eq_false h,decide_eq_true (by omega)]
   rfl
theorem idxTh_any (p:Th→Bool) (q:Nat) (L:List (Th)) (a:Option Addr) (n cap:Nat) (xs:List Value) (w:World) (hn:n=L.length) (hbd:n≤1000000000000) (hsl:SlAt (·<w.heap.size) w a n 3 xs) (hks:LsAt (ThAt (·<w.heap.size) w) L xs) (hf:∀ x∈L,∀ cs W,Sy.Keep (·<w.heap.size) w W→ThAt (·<W.heap.size) W x cs→CB 122 #[.agg cs.toArray,nP q] W (.bool (p x))):
  Calls Tryz.prog 191 #[.slice a n cap,.func (.func 122) #[] #[nP q]] w fun e w'=>∃ i:Int,e = .returned (nI i)∧L.any p=decide (0≤i)∧Below w.heap.size w w':=by
 refine eN [.slice a n cap,.func (.func 122) #[] #[nP q]] Tryz.func191 (fun γ0 hγ0=>?_)
 refine rk ?_
 refine good_toLp ?_
 refine good_loopI (fun i:List (Th)×List (Th)=>i.2.length) (fun i=>L=i.1++i.2∧i.1.any p=false) (fun i=>⟨mkT [(0,vL a n cap),(1,norm (.func (.func 122) #[] #[nP q])),(7,vI (n:Int)),(8,vI (i.1.length:Int))],mkH [],gz,[]⟩)
  ([],L) ⟨rfl,rfl⟩ (by kernel_rfl)
  (fun h=>gU _ [(0,vL a n cap),(1,norm (.func (.func 122) #[] #[nP q])),(7,vI (n:Int)),(8,vI (([]:List (Th)).length:Int))] [] gz hγ0 h) ?_
 rintro ⟨l1,l2⟩ ⟨hI,hany⟩ ih
 have hI:L=l1++l2:=hI
 have hany:l1.any p=false:=hany
 have hn2:n=l1.length+l2.length:=by rw [hn,hI,List.length_append]
 refine rk ?_
 cases l2 with
 | nil=>
   refine ky (l1.length:Int) (n:Int) (by simp at hn2;omega) ?_
   refine rk ?_
   exact gR (nI (-1)) (fun W hk=>⟨_,rfl,(by rw [hI,List.append_nil,hany];rfl),hk.below⟩)
 | cons x l3=>
   have hin:l1.length<n:=by rw [hn2,List.length_cons];omega
   have hks2:=hks
   rw [hI] at hks2
   obtain ⟨c,hc,hcell⟩:=LsAt.at_ (k:=3) (fun _ _ h=>h.len) hks2
   have hcall:=fun W (hk:Keep (·<w.heap.size) w W)=>hf x (by rw [hI];simp) c W hk (hc.keep hk (kU hk))
   refine kx (l1.length:Int) (n:Int) (by omega) ?_
   refine rk ?_
   refine gI 24 58 cap l1.length hsl hin ?_
   refine rk ?_
   obtain ⟨uname,uloc,uB⟩:=x
   obtain ⟨ua,ucap,uxs,ub,ucap2,uys,rfl,_⟩:=hc
   refine gD 58 3 [nT uname,.slice ua uloc.length ucap,.slice ub uB.length ucap2] l1.length 0 hsl rfl hcell ?_
   refine rk ?_
   cases hp:p (Th.mk uname uloc uB) with
   | true=>
     refine gX [.agg #[nT uname,.slice ua uloc.length ucap,.slice ub uB.length ucap2],nP q] (.bool true) (fun W hk=>by have:=hcall W hk;rw [hp] at this;exact this) ?_
     refine rs [] 60 3 ?_
     exact gR (nI (l1.length:Int)) (fun W hk=>⟨_,rfl,(by rw [hI,List.any_append,List.any_cons,hp,hany,decide_eq_true (by omega)];rfl),hk.below⟩)
   | false=>
     refine gX [.agg #[nT uname,.slice ua uloc.length ucap,.slice ub uB.length ucap2],nP q] (.bool false) (fun W hk=>by have:=hcall W hk;rw [hp] at this;exact this) ?_
     refine rs [] 60 1 ?_
     refine gS 8 (x:=nI (wrapF .i64 ((l1.length:Int)+1))) (nI ((l1++[(Th.mk uname uloc uB)]).length:Nat)) (by rw [wr64 (by omega) (by omega)];congr 1;simp) ?_
     exact gU _ [(0,vL a n cap),(1,norm (.func (.func 122) #[] #[nP q])),(7,vI (n:Int)),(8,vI ((l1++[(Th.mk uname uloc uB)]).length:Int))] [] gz hγ0 (ih (l1++[(Th.mk uname uloc uB)],l3) ⟨by show L=(l1++[_])++l3;rw [hI];simp,by show (l1++[_]).any p=false;rw [List.any_append,hany,List.any_cons,hp];rfl⟩ lS1)
theorem conTh_any (p:Th→Bool) (q:Nat) (L:List (Th)) (a:Option Addr) (n cap:Nat) (xs:List Value) (w:World) (hn:n=L.length) (hbd:n≤1000000000000) (hsl:SlAt (·<w.heap.size) w a n 3 xs) (hks:LsAt (ThAt (·<w.heap.size) w) L xs) (hf:∀ x∈L,∀ cs W,Sy.Keep (·<w.heap.size) w W→ThAt (·<W.heap.size) W x cs→CB 122 #[.agg cs.toArray,nP q] W (.bool (p x))):
  CB 121 #[.slice a n cap,.func (.func 122) #[] #[nP q]] w (.bool (L.any p)):=by
 refine eN [.slice a n cap,.func (.func 122) #[] #[nP q]] Tryz.func121 (fun γ0 hγ0=>?_)
 refine rk ?_
 refine gN [.slice a n cap,.func (.func 122) #[] #[nP q]] (fun v=>∃ i:Int,v=nI i∧L.any p=decide (0≤i)) (fun W hk=>(idxTh_any p q L a n cap xs W hn hbd ((hsl.keep hk).mono (kU hk)) (hks.imp fun x c hc=>hc.keep hk (kU hk)) (fun x hx cs W2 hk2=>hf x hx cs W2 (hk.trans (hk2.mono (kU hk))))).mono fun e w' ⟨i,h1,h2,h3⟩=>⟨_,h1,⟨i,rfl,h2⟩,h3⟩) ?_
 rintro v w2 ⟨i,rfl,hi⟩ hk2
 refine rk ?_
 refine gR (.bool (!(intLt i 0))) (fun W hk=>⟨?_,hk.below⟩)
 rw [hi,intLt_eq]
 by_cases h:0≤i
 · rw [decide_eq_true h,decide_eq_false (by omega)]
   rfl
 · rw [decide_eq_false h,decide_eq_true (by omega)]
   rfl
end
section
theorem ex32_some (e:Ex):(ex32 e).isSome=okE 32 e:=by
 unfold ex32 okE
 by_cases h:hgt e≤32
 · rw [if_pos h,decide_eq_true h,Bool.true_and]
 · rw [if_neg h,decide_eq_false h]
   rfl
noncomputable def okS (deep:Nat) (s:St):Bool:=(stT deep s).isSome
noncomputable def okB (deep:Nat) (l:List St):Bool:=(stsT deep l).isSome
theorem okB_any (deep:Nat) (h:deep≤32):∀ (l:List St),okB deep l=!(l.any fun s=>!(okS deep s))
 | []=>rfl
 | s::l=>by
   have ih:=okB_any deep h l
   unfold okB okS at *
   simp only [stsT,List.any_cons]
   rw [if_neg (by omega)]
   cases stT deep s with
   | none=>rfl
   | some t=>
     cases hx:stsT deep l with
     | none=>rw [hx] at ih;simp at ih ⊢;exact ih
     | some ts=>rw [hx] at ih;simp at ih ⊢;exact ih
theorem okB_deep (deep:Nat) (h:32<deep) (l:List St):okB deep l=decide (l.length=0):=by
 cases l with
 | nil=>rfl
 | cons s l=>unfold okB;simp only [stsT];rw [if_pos h];rfl
theorem okS_mk (deep:Nat) (k:Int) (name:List UInt8) (e:Ex) (body els:List St) (hk:1≤k∧k≤7):
  okS deep (.mk k name e body els)=((if k=1∨k=2∨k=3 then nameB name else Sy.bEqL name [])&&((if k=1∨k=4∨k=5∨k=6 then okE 32 e else exNone e)&&((decide (k=5) || decide (els.length=0))&&((decide (k=5∨k=6) || decide (body.length=0))&&(okB (deep+1) body&&okB (deep+1) els))))):=by
 have hbody:body.length=0→okB (deep+1) body=true:=fun h=>by rw [List.eq_nil_of_length_eq_zero h];rfl
 have hels:els.length=0→okB (deep+1) els=true:=fun h=>by rw [List.eq_nil_of_length_eq_zero h];rfl
 rw [← ex32_some]
 have hnm:Sy.bEqL name []=decide (name=[]):=by
  rw [Bool.eq_iff_iff,bEq_nil]
  simp
 rw [hnm]
 have h7:k=1∨k=2∨k=3∨k=4∨k=7∨k=5∨k=6:=by omega
 rcases h7 with rfl | rfl | rfl | rfl | rfl | rfl | rfl
 case inr.inr.inr.inr.inr.inl=>
  unfold okS okB
  simp only [stT]
  cases hB:stsT (deep+1) body <;> cases hL:stsT (deep+1) els <;> cases hx:ex32 e <;> by_cases hn:name=[] <;> by_cases h2:els.length=0 <;> simp [*]
  all_goals (first | omega | (split <;> rfl))
 case inr.inr.inr.inr.inr.inr=>
  unfold okS okB
  simp only [stT]
  cases hB:stsT (deep+1) body <;> cases hL:stsT (deep+1) els <;> cases hx:ex32 e <;> by_cases hn:name=[] <;> by_cases h2:els.length=0 <;> simp [*]
  all_goals (first | omega | (split <;> rfl))
 all_goals
  unfold okS
  simp only [stT]
  by_cases h1:body.length=0
  · have hb':=hbody h1
    by_cases h2:els.length=0
    · have he':=hels h2
      cases hn:nameB name <;> cases hx:ex32 e <;> by_cases hm:name=[] <;> cases hq:exNone e <;> simp [*]
    · simp [h2]
  · simp [h1]
theorem zeroB (ty bits:Int):vEq ty bits 0 0=decide (ty=0∧bits=0):=by
 unfold vEq
 rw [Sy.intEq_eq,Sy.intEq_eq]
 by_cases h1:ty=0 <;> by_cases h2:bits=0 <;> simp [h1,h2]
open Go.Sy in
set_option maxRecDepth 100000 in
theorem plain_any (uo ut uv:Int) (un:List UInt8) (uk:List Ex) (uf:Option Addr) (ug:Nat) (w:World):CB 224 #[xV uo ut uv un uf uk.length ug] w (.bool (exNone (Ex.mk uo ut uv un uk))):=by
 refine eN [xV uo ut uv un uf uk.length ug] Tryz.func224 (fun γ0 hγ0=>?_)
 refine rs [7] 60 0 ?_
 by_cases h1:uo=0
 rotate_left
 ·
  refine gF 5 uo 0 h1 ?_
  refine gF 6 uo 0 h1 ?_
  refine rs [] 60 3 ?_
  refine gR (.bool false) (fun W hk=>⟨?_,hk.below⟩)
  simp [exNone,h1]
 refine gT 5 uo 0 h1 ?_
 refine gT 6 uo 0 h1 ?_
 refine rk ?_
 have hv:=zeroB ut uv
 cases h2:vEq ut uv 0 0 with
 | false=>
   rw [h2] at hv
   refine gX [.agg #[.int .u8 ut,.int .u64 uv]] (.bool false) (fun W hk=>by rw [← h2];exact zero_any _ _ W) ?_
   refine rs [] 60 3 ?_
   refine gR (.bool false) (fun W hk=>⟨?_,hk.below⟩)
   have hx:exNone (Ex.mk uo ut uv un uk)=false:=by
    simp only [exNone,decide_eq_false_iff_not]
    rintro ⟨_,h3,h4,_⟩
    exact of_decide_eq_false hv.symm ⟨h3,h4⟩
   rw [hx]
 | true=>
   rw [h2] at hv
   obtain ⟨hv1,hv2⟩:=of_decide_eq_true hv.symm
   refine gX [.agg #[.int .u8 ut,.int .u64 uv]] (.bool true) (fun W hk=>by rw [← h2];exact zero_any _ _ W) ?_
   refine rs [17] 60 0 ?_
   by_cases h3:un=[]
   rotate_left
   ·
    refine gS 14 (x := .bool (bEqL un [])) (.bool false) (by rw [bEqL_eq];simp [h3]) ?_
    refine gS 15 (x := .bool (bEqL un [])) (.bool false) (by rw [bEqL_eq];simp [h3]) ?_
    refine gS 16 (x := .bool (bEqL un [])) (.bool false) (by rw [bEqL_eq];simp [h3]) ?_
    refine rs [] 60 3 ?_
    refine gR (.bool false) (fun W hk=>⟨?_,hk.below⟩)
    simp [exNone,h3]
   refine gS 14 (x := .bool (bEqL un [])) (.bool true) (by rw [bEqL_eq];simp [h3]) ?_
   refine gS 15 (x := .bool (bEqL un [])) (.bool true) (by rw [bEqL_eq];simp [h3]) ?_
   refine gS 16 (x := .bool (bEqL un [])) (.bool true) (by rw [bEqL_eq];simp [h3]) ?_
   refine rk ?_
   refine gR (.bool (intEq (uk.length:Int) 0)) (fun W hk=>⟨?_,hk.below⟩)
   rw [intEq_eq]
   simp [exNone,h1,hv1,hv2,h3]
end
section
set_option maxRecDepth 100000
theorem okS_other (deep:Nat) (k:Int) (name:List UInt8) (e:Ex) (body els:List St) (hk:¬ (1≤k∧k≤7)):okS deep (.mk k name e body els)=false:=by
 unfold okS
 simp only [stT]
 rw [if_neg (show ¬ k=1 by omega),if_neg (show ¬ k=2 by omega),if_neg (show ¬ k=3 by omega),if_neg (show ¬ k=4 by omega),if_neg (show ¬ k=7 by omega),if_neg (show ¬ (k=5∨k=6) by omega)]
 rfl
theorem nameB_nil {s:List UInt8} (h:nameB s=true):Sy.bEqL s []=false:=by
 rw [← Bool.not_eq_true,bEq_nil]
 intro h2
 subst h2
 exact absurd h (by decide)
def BlkC (N:Nat):Prop:=∀ (L:List St) (a:Option Addr) (n cap:Nat) (xs:List Value) (deep:Nat) (w:World),n=L.length→swts L<N→swts L≤1000000000000→deep≤1000000000000+32 - swts L→stBs L≤1000000000000→stRs L→Tab w→Sy.SlAt (·<w.heap.size) w a n 9 xs→LsAt (StAt (·<w.heap.size) w) L xs→
    CB 123 #[.slice a n cap,.int .i64 (deep:Int)] w (.bool (okB deep L))
open Go.Sy
theorem tstmt1_of (N:Nat) (ih:BlkC N)
  (us:List UInt8) (uo ut uv:Int) (un:List UInt8) (uk:List Ex) (uB uL:List St) (uj ui uf:Option Addr) (uh uw ug deep:Nat) (ubx ulx:List Value) (w:World)
  (hN:swt (St.mk 1 us (Ex.mk uo ut uv un uk) uB uL)≤N) (hbd:swt (St.mk 1 us (Ex.mk uo ut uv un uk) uB uL)≤1000000000000) (hdeep:deep≤1000000000000+32 - swt (St.mk 1 us (Ex.mk uo ut uv un uk) uB uL)) (hB:stB (St.mk 1 us (Ex.mk uo ut uv un uk) uB uL)≤1000000000000) (hR:stR (St.mk 1 us (Ex.mk uo ut uv un uk) uB uL)) (ht:Tab w) (uhe:ExAt (·<w.heap.size) w (Ex.mk uo ut uv un uk) (xL uo ut uv un uf uk.length ug))
  (uhbs:SlAt (·<w.heap.size) w uj uB.length 9 ubx) (uhbt:StsAt (·<w.heap.size) w uB ubx) (uhls:SlAt (·<w.heap.size) w ui uL.length 9 ulx) (uhlt:StsAt (·<w.heap.size) w uL ulx):
  CB 194 #[yV 1 us uo ut uv un uf uk.length ug uj uB.length uh ui uL.length uw,nI (deep:Int)] w (.bool (okS deep (St.mk 1 us (Ex.mk uo ut uv un uk) uB uL))):=by
 simp only [swt] at hN hbd hdeep
 simp only [stB] at hB
 simp only [stR] at hR
 obtain ⟨hRk,hRe,hRubody,hRuels⟩:=hR
 have hnm:us.length≤maxLen:=by unfold maxLen;omega
 refine eN [yV 1 us uo ut uv un uf uk.length ug uj uB.length uh ui uL.length uw,nI (deep:Int)] Tryz.func194 (fun γ0 hγ0=>?_)
 refine rk ?_
 cases hn:nameB us with
 | false=>
   refine gP [nT us] (.bool false) (fun W hk=>by rw [← hn];exact name_any us W hnm) ?_
   refine rs [] 60 6 ?_
   refine gR (.bool false) (fun W hk=>⟨?_,hk.below⟩)
   rw [okS_mk _ _ _ _ _ _ (by decide)]
   simp [hn]
 | true=>
   refine gP [nT us] (.bool true) (fun W hk=>by rw [← hn];exact name_any us W hnm) ?_
   refine rs [] 60 3 ?_
   refine gE [xV uo ut uv un uf uk.length ug,nI 32] (fun v=>∃ h,v = .tuple #[nI h,.bool (okE 32 (Ex.mk uo ut uv un uk))]) (fun W hk=>(texpr_any _ (Ex.mk uo ut uv un uk) (xL uo ut uv un uf uk.length ug) 32 W (Nat.le_refl _) (by omega) (by decide) (by omega) hRe (ht.below (Keep.below hk)) (uhe.keep hk (kU hk))).mono fun e w' ⟨h,h1,h2,h3⟩=>⟨_,h1,⟨h,rfl⟩,h3⟩) ?_
   rintro v w2 ⟨h,rfl⟩ hk2
   cases hx:okE 32 (Ex.mk uo ut uv un uk) with
   | false=>
     refine rs [] 60 6 ?_
     refine gR (.bool false) (fun W hk=>⟨?_,hk.below⟩)
     rw [okS_mk _ _ _ _ _ _ (by decide)]
     simp [hx]
   | true=>
     refine rs [87] 60 2 ?_
     by_cases h4:uL.length=0
     rotate_left
     ·
      refine zx 84 0 (uL.length:Int) (by omega) ?_
      refine zx 85 0 (uL.length:Int) (by omega) ?_
      refine zx 86 0 (uL.length:Int) (by omega) ?_
      refine rs [] 60 6 ?_
      refine gR (.bool false) (fun W hk=>⟨?_,hk.below⟩)
      rw [okS_mk _ _ _ _ _ _ (by decide)]
      simp [h4]
     refine zy 84 0 (uL.length:Int) (by omega) ?_
     refine zy 85 0 (uL.length:Int) (by omega) ?_
     refine zy 86 0 (uL.length:Int) (by omega) ?_
     refine rk ?_
     by_cases h5:uB.length=0
     rotate_left
     ·
      refine kx 0 (uB.length:Int) (by omega) ?_
      refine rs [] 60 6 ?_
      refine gR (.bool false) (fun W hk=>⟨?_,hk.below⟩)
      rw [okS_mk _ _ _ _ _ _ (by decide)]
      simp [h5]
     refine ky 0 (uB.length:Int) (by omega) ?_
     refine rk ?_
     refine gS 105 (x:=nI (wrapF .i64 ((deep:Int)+1))) (nI ((deep+1:Nat):Int)) (by rw [wr64 (by omega) (by omega)];congr 1) ?_
     cases hubody:okB (deep+1) uB with
     | false=>
       refine gX [.slice uj uB.length uh,nI ((deep+1:Nat):Int)] (.bool false) (fun W hk=>by rw [← hubody];exact ih uB _ _ _ _ (deep+1) W rfl (by omega) (by omega) (by omega) (by omega) hRubody (ht.below (Keep.below hk)) ((uhbs.keep hk).mono (kU hk)) (StsAt_ls.1 (uhbt.keep hk (kU hk)))) ?_
       refine rs [] 60 6 ?_
       refine gR (.bool false) (fun W hk=>⟨?_,hk.below⟩)
       rw [okS_mk _ _ _ _ _ _ (by decide)]
       simp [hubody]
     | true=>
       refine gX [.slice uj uB.length uh,nI ((deep+1:Nat):Int)] (.bool true) (fun W hk=>by rw [← hubody];exact ih uB _ _ _ _ (deep+1) W rfl (by omega) (by omega) (by omega) (by omega) hRubody (ht.below (Keep.below hk)) ((uhbs.keep hk).mono (kU hk)) (StsAt_ls.1 (uhbt.keep hk (kU hk)))) ?_
       refine rs [] 60 2 ?_
       refine gS 111 (x:=nI (wrapF .i64 ((deep:Int)+1))) (nI ((deep+1:Nat):Int)) (by rw [wr64 (by omega) (by omega)];congr 1) ?_
       obtain ⟨bl,huels⟩:∃ b,b=okB (deep+1) uL:=⟨_,rfl⟩
       refine gX [.slice ui uL.length uw,nI ((deep+1:Nat):Int)] (.bool bl) (fun W hk=>by rw [huels];exact ih uL _ _ _ _ (deep+1) W rfl (by omega) (by omega) (by omega) (by omega) hRuels (ht.below (Keep.below hk)) ((uhls.keep hk).mono (kU hk)) (StsAt_ls.1 (uhlt.keep hk (kU hk)))) ?_
       refine rs [] 60 2 ?_
       refine gR (.bool bl) (fun W hk=>⟨?_,hk.below⟩)
       rw [okS_mk _ _ _ _ _ _ (by decide)]
       simp [hn,hx,h4,h5,hubody,huels]
theorem tstmt23_of (N:Nat) (ih:BlkC N)
  (uK:Int) (us:List UInt8) (uo ut uv:Int) (un:List UInt8) (uk:List Ex) (uB uL:List St) (uj ui uf:Option Addr) (uh uw ug deep:Nat) (ubx ulx:List Value) (w:World)
  (hN:swt (St.mk uK us (Ex.mk uo ut uv un uk) uB uL)≤N) (hbd:swt (St.mk uK us (Ex.mk uo ut uv un uk) uB uL)≤1000000000000) (hdeep:deep≤1000000000000+32 - swt (St.mk uK us (Ex.mk uo ut uv un uk) uB uL)) (hB:stB (St.mk uK us (Ex.mk uo ut uv un uk) uB uL)≤1000000000000) (hR:stR (St.mk uK us (Ex.mk uo ut uv un uk) uB uL)) (ht:Tab w) (uhe:ExAt (·<w.heap.size) w (Ex.mk uo ut uv un uk) (xL uo ut uv un uf uk.length ug))
  (uhbs:SlAt (·<w.heap.size) w uj uB.length 9 ubx) (uhbt:StsAt (·<w.heap.size) w uB ubx) (uhls:SlAt (·<w.heap.size) w ui uL.length 9 ulx) (uhlt:StsAt (·<w.heap.size) w uL ulx) (hk:uK=2∨uK=3):
  CB 194 #[yV uK us uo ut uv un uf uk.length ug uj uB.length uh ui uL.length uw,nI (deep:Int)] w (.bool (okS deep (St.mk uK us (Ex.mk uo ut uv un uk) uB uL))):=by
 simp only [swt] at hN hbd hdeep
 simp only [stB] at hB
 simp only [stR] at hR
 obtain ⟨hRk,hRe,hRubody,hRuels⟩:=hR
 have hnm:us.length≤maxLen:=by unfold maxLen;omega
 rcases hk with rfl | rfl
 all_goals
  refine eN [yV _ us uo ut uv un uf uk.length ug uj uB.length uh ui uL.length uw,nI (deep:Int)] Tryz.func194 (fun γ0 hγ0=>?_)
  refine rk ?_
  cases hn:nameB us with
  | false=>
    refine gP [nT us] (.bool false) (fun W hk=>by rw [← hn];exact name_any us W hnm) ?_
    refine rs [] 60 6 ?_
    refine gR (.bool false) (fun W hk=>⟨?_,hk.below⟩)
    rw [okS_mk _ _ _ _ _ _ (by decide)]
    simp [hn]
  | true=>
    refine gP [nT us] (.bool true) (fun W hk=>by rw [← hn];exact name_any us W hnm) ?_
    refine rs [] 60 3 ?_
    cases hx:exNone (Ex.mk uo ut uv un uk) with
    | false=>
      refine gX [xV uo ut uv un uf uk.length ug] (.bool false) (fun W hk=>by rw [← hx];exact plain_any uo ut uv un uk uf ug W) ?_
      refine rs [] 60 6 ?_
      refine gR (.bool false) (fun W hk=>⟨?_,hk.below⟩)
      rw [okS_mk _ _ _ _ _ _ (by decide)]
      simp [hx]
    | true=>
      refine gX [xV uo ut uv un uf uk.length ug] (.bool true) (fun W hk=>by rw [← hx];exact plain_any uo ut uv un uk uf ug W) ?_
      refine rs [87] 60 2 ?_
      by_cases h4:uL.length=0
      rotate_left
      ·
       refine zx 84 0 (uL.length:Int) (by omega) ?_
       refine zx 85 0 (uL.length:Int) (by omega) ?_
       refine zx 86 0 (uL.length:Int) (by omega) ?_
       refine rs [] 60 6 ?_
       refine gR (.bool false) (fun W hk=>⟨?_,hk.below⟩)
       rw [okS_mk _ _ _ _ _ _ (by decide)]
       simp [h4]
      refine zy 84 0 (uL.length:Int) (by omega) ?_
      refine zy 85 0 (uL.length:Int) (by omega) ?_
      refine zy 86 0 (uL.length:Int) (by omega) ?_
      refine rk ?_
      by_cases h5:uB.length=0
      rotate_left
      ·
       refine kx 0 (uB.length:Int) (by omega) ?_
       refine rs [] 60 6 ?_
       refine gR (.bool false) (fun W hk=>⟨?_,hk.below⟩)
       rw [okS_mk _ _ _ _ _ _ (by decide)]
       simp [h5]
      refine ky 0 (uB.length:Int) (by omega) ?_
      refine rk ?_
      refine gS 105 (x:=nI (wrapF .i64 ((deep:Int)+1))) (nI ((deep+1:Nat):Int)) (by rw [wr64 (by omega) (by omega)];congr 1) ?_
      cases hubody:okB (deep+1) uB with
      | false=>
        refine gX [.slice uj uB.length uh,nI ((deep+1:Nat):Int)] (.bool false) (fun W hk=>by rw [← hubody];exact ih uB _ _ _ _ (deep+1) W rfl (by omega) (by omega) (by omega) (by omega) hRubody (ht.below (Keep.below hk)) ((uhbs.keep hk).mono (kU hk)) (StsAt_ls.1 (uhbt.keep hk (kU hk)))) ?_
        refine rs [] 60 6 ?_
        refine gR (.bool false) (fun W hk=>⟨?_,hk.below⟩)
        rw [okS_mk _ _ _ _ _ _ (by decide)]
        simp [hubody]
      | true=>
        refine gX [.slice uj uB.length uh,nI ((deep+1:Nat):Int)] (.bool true) (fun W hk=>by rw [← hubody];exact ih uB _ _ _ _ (deep+1) W rfl (by omega) (by omega) (by omega) (by omega) hRubody (ht.below (Keep.below hk)) ((uhbs.keep hk).mono (kU hk)) (StsAt_ls.1 (uhbt.keep hk (kU hk)))) ?_
        refine rs [] 60 2 ?_
        refine gS 111 (x:=nI (wrapF .i64 ((deep:Int)+1))) (nI ((deep+1:Nat):Int)) (by rw [wr64 (by omega) (by omega)];congr 1) ?_
        obtain ⟨bl,huels⟩:∃ b,b=okB (deep+1) uL:=⟨_,rfl⟩
        refine gX [.slice ui uL.length uw,nI ((deep+1:Nat):Int)] (.bool bl) (fun W hk=>by rw [huels];exact ih uL _ _ _ _ (deep+1) W rfl (by omega) (by omega) (by omega) (by omega) hRuels (ht.below (Keep.below hk)) ((uhls.keep hk).mono (kU hk)) (StsAt_ls.1 (uhlt.keep hk (kU hk)))) ?_
        refine rs [] 60 2 ?_
        refine gR (.bool bl) (fun W hk=>⟨?_,hk.below⟩)
        rw [okS_mk _ _ _ _ _ _ (by decide)]
        simp [hn,hx,h4,h5,hubody,huels]
theorem tstmt4_of (N:Nat) (ih:BlkC N)
  (us:List UInt8) (uo ut uv:Int) (un:List UInt8) (uk:List Ex) (uB uL:List St) (uj ui uf:Option Addr) (uh uw ug deep:Nat) (ubx ulx:List Value) (w:World)
  (hN:swt (St.mk 4 us (Ex.mk uo ut uv un uk) uB uL)≤N) (hbd:swt (St.mk 4 us (Ex.mk uo ut uv un uk) uB uL)≤1000000000000) (hdeep:deep≤1000000000000+32 - swt (St.mk 4 us (Ex.mk uo ut uv un uk) uB uL)) (hB:stB (St.mk 4 us (Ex.mk uo ut uv un uk) uB uL)≤1000000000000) (hR:stR (St.mk 4 us (Ex.mk uo ut uv un uk) uB uL)) (ht:Tab w) (uhe:ExAt (·<w.heap.size) w (Ex.mk uo ut uv un uk) (xL uo ut uv un uf uk.length ug))
  (uhbs:SlAt (·<w.heap.size) w uj uB.length 9 ubx) (uhbt:StsAt (·<w.heap.size) w uB ubx) (uhls:SlAt (·<w.heap.size) w ui uL.length 9 ulx) (uhlt:StsAt (·<w.heap.size) w uL ulx):
  CB 194 #[yV 4 us uo ut uv un uf uk.length ug uj uB.length uh ui uL.length uw,nI (deep:Int)] w (.bool (okS deep (St.mk 4 us (Ex.mk uo ut uv un uk) uB uL))):=by
 simp only [swt] at hN hbd hdeep
 simp only [stB] at hB
 simp only [stR] at hR
 obtain ⟨hRk,hRe,hRubody,hRuels⟩:=hR
 have hnm:us.length≤maxLen:=by unfold maxLen;omega
 refine eN [yV 4 us uo ut uv un uf uk.length ug uj uB.length uh ui uL.length uw,nI (deep:Int)] Tryz.func194 (fun γ0 hγ0=>?_)
 refine rk ?_
 cases hn:nameB us with
 | true=>
   refine gP [nT us] (.bool true) (fun W hk=>by rw [← hn];exact name_any us W hnm) ?_
   refine rs [] 60 6 ?_
   refine gR (.bool false) (fun W hk=>⟨?_,hk.below⟩)
   rw [okS_mk _ _ _ _ _ _ (by decide)]
   simp [nameB_nil hn]
 | false=>
   refine gP [nT us] (.bool false) (fun W hk=>by rw [← hn];exact name_any us W hnm) ?_
   refine rk ?_
   cases hm:bEqL us [] with
   | false=>
     refine gK true (b:=!(bEqL us [])) (by rw [hm];rfl) ?_
     refine rs [] 60 6 ?_
     refine gR (.bool false) (fun W hk=>⟨?_,hk.below⟩)
     rw [okS_mk _ _ _ _ _ _ (by decide)]
     simp [hm]
   | true=>
     refine gK false (b:=!(bEqL us [])) (by rw [hm];rfl) ?_
     refine rs [] 60 3 ?_
     refine gE [xV uo ut uv un uf uk.length ug,nI 32] (fun v=>∃ h,v = .tuple #[nI h,.bool (okE 32 (Ex.mk uo ut uv un uk))]) (fun W hk=>(texpr_any _ (Ex.mk uo ut uv un uk) (xL uo ut uv un uf uk.length ug) 32 W (Nat.le_refl _) (by omega) (by decide) (by omega) hRe (ht.below (Keep.below hk)) (uhe.keep hk (kU hk))).mono fun e w' ⟨h,h1,h2,h3⟩=>⟨_,h1,⟨h,rfl⟩,h3⟩) ?_
     rintro v w2 ⟨h,rfl⟩ hk2
     cases hx:okE 32 (Ex.mk uo ut uv un uk) with
     | false=>
       refine rs [] 60 6 ?_
       refine gR (.bool false) (fun W hk=>⟨?_,hk.below⟩)
       rw [okS_mk _ _ _ _ _ _ (by decide)]
       simp [hx]
     | true=>
       refine rs [87] 60 2 ?_
       by_cases h4:uL.length=0
       rotate_left
       ·
        refine zx 84 0 (uL.length:Int) (by omega) ?_
        refine zx 85 0 (uL.length:Int) (by omega) ?_
        refine zx 86 0 (uL.length:Int) (by omega) ?_
        refine rs [] 60 6 ?_
        refine gR (.bool false) (fun W hk=>⟨?_,hk.below⟩)
        rw [okS_mk _ _ _ _ _ _ (by decide)]
        simp [h4]
       refine zy 84 0 (uL.length:Int) (by omega) ?_
       refine zy 85 0 (uL.length:Int) (by omega) ?_
       refine zy 86 0 (uL.length:Int) (by omega) ?_
       refine rk ?_
       by_cases h5:uB.length=0
       rotate_left
       ·
        refine kx 0 (uB.length:Int) (by omega) ?_
        refine rs [] 60 6 ?_
        refine gR (.bool false) (fun W hk=>⟨?_,hk.below⟩)
        rw [okS_mk _ _ _ _ _ _ (by decide)]
        simp [h5]
       refine ky 0 (uB.length:Int) (by omega) ?_
       refine rk ?_
       refine gS 105 (x:=nI (wrapF .i64 ((deep:Int)+1))) (nI ((deep+1:Nat):Int)) (by rw [wr64 (by omega) (by omega)];congr 1) ?_
       cases hubody:okB (deep+1) uB with
       | false=>
         refine gX [.slice uj uB.length uh,nI ((deep+1:Nat):Int)] (.bool false) (fun W hk=>by rw [← hubody];exact ih uB _ _ _ _ (deep+1) W rfl (by omega) (by omega) (by omega) (by omega) hRubody (ht.below (Keep.below hk)) ((uhbs.keep hk).mono (kU hk)) (StsAt_ls.1 (uhbt.keep hk (kU hk)))) ?_
         refine rs [] 60 6 ?_
         refine gR (.bool false) (fun W hk=>⟨?_,hk.below⟩)
         rw [okS_mk _ _ _ _ _ _ (by decide)]
         simp [hubody]
       | true=>
         refine gX [.slice uj uB.length uh,nI ((deep+1:Nat):Int)] (.bool true) (fun W hk=>by rw [← hubody];exact ih uB _ _ _ _ (deep+1) W rfl (by omega) (by omega) (by omega) (by omega) hRubody (ht.below (Keep.below hk)) ((uhbs.keep hk).mono (kU hk)) (StsAt_ls.1 (uhbt.keep hk (kU hk)))) ?_
         refine rs [] 60 2 ?_
         refine gS 111 (x:=nI (wrapF .i64 ((deep:Int)+1))) (nI ((deep+1:Nat):Int)) (by rw [wr64 (by omega) (by omega)];congr 1) ?_
         obtain ⟨bl,huels⟩:∃ b,b=okB (deep+1) uL:=⟨_,rfl⟩
         refine gX [.slice ui uL.length uw,nI ((deep+1:Nat):Int)] (.bool bl) (fun W hk=>by rw [huels];exact ih uL _ _ _ _ (deep+1) W rfl (by omega) (by omega) (by omega) (by omega) hRuels (ht.below (Keep.below hk)) ((uhls.keep hk).mono (kU hk)) (StsAt_ls.1 (uhlt.keep hk (kU hk)))) ?_
         refine rs [] 60 2 ?_
         refine gR (.bool bl) (fun W hk=>⟨?_,hk.below⟩)
         rw [okS_mk _ _ _ _ _ _ (by decide)]
         simp [hm,hx,h4,h5,hubody,huels]
theorem tstmt5_of (N:Nat) (ih:BlkC N)
  (us:List UInt8) (uo ut uv:Int) (un:List UInt8) (uk:List Ex) (uB uL:List St) (uj ui uf:Option Addr) (uh uw ug deep:Nat) (ubx ulx:List Value) (w:World)
  (hN:swt (St.mk 5 us (Ex.mk uo ut uv un uk) uB uL)≤N) (hbd:swt (St.mk 5 us (Ex.mk uo ut uv un uk) uB uL)≤1000000000000) (hdeep:deep≤1000000000000+32 - swt (St.mk 5 us (Ex.mk uo ut uv un uk) uB uL)) (hB:stB (St.mk 5 us (Ex.mk uo ut uv un uk) uB uL)≤1000000000000) (hR:stR (St.mk 5 us (Ex.mk uo ut uv un uk) uB uL)) (ht:Tab w) (uhe:ExAt (·<w.heap.size) w (Ex.mk uo ut uv un uk) (xL uo ut uv un uf uk.length ug))
  (uhbs:SlAt (·<w.heap.size) w uj uB.length 9 ubx) (uhbt:StsAt (·<w.heap.size) w uB ubx) (uhls:SlAt (·<w.heap.size) w ui uL.length 9 ulx) (uhlt:StsAt (·<w.heap.size) w uL ulx):
  CB 194 #[yV 5 us uo ut uv un uf uk.length ug uj uB.length uh ui uL.length uw,nI (deep:Int)] w (.bool (okS deep (St.mk 5 us (Ex.mk uo ut uv un uk) uB uL))):=by
 simp only [swt] at hN hbd hdeep
 simp only [stB] at hB
 simp only [stR] at hR
 obtain ⟨hRk,hRe,hRubody,hRuels⟩:=hR
 have hnm:us.length≤maxLen:=by unfold maxLen;omega
 refine eN [yV 5 us uo ut uv un uf uk.length ug uj uB.length uh ui uL.length uw,nI (deep:Int)] Tryz.func194 (fun γ0 hγ0=>?_)
 refine rk ?_
 cases hn:nameB us with
 | true=>
   refine gP [nT us] (.bool true) (fun W hk=>by rw [← hn];exact name_any us W hnm) ?_
   refine rs [] 60 6 ?_
   refine gR (.bool false) (fun W hk=>⟨?_,hk.below⟩)
   rw [okS_mk _ _ _ _ _ _ (by decide)]
   simp [nameB_nil hn]
 | false=>
   refine gP [nT us] (.bool false) (fun W hk=>by rw [← hn];exact name_any us W hnm) ?_
   refine rk ?_
   cases hm:bEqL us [] with
   | false=>
     refine gK true (b:=!(bEqL us [])) (by rw [hm];rfl) ?_
     refine rs [] 60 6 ?_
     refine gR (.bool false) (fun W hk=>⟨?_,hk.below⟩)
     rw [okS_mk _ _ _ _ _ _ (by decide)]
     simp [hm]
   | true=>
     refine gK false (b:=!(bEqL us [])) (by rw [hm];rfl) ?_
     refine rs [] 60 3 ?_
     refine gE [xV uo ut uv un uf uk.length ug,nI 32] (fun v=>∃ h,v = .tuple #[nI h,.bool (okE 32 (Ex.mk uo ut uv un uk))]) (fun W hk=>(texpr_any _ (Ex.mk uo ut uv un uk) (xL uo ut uv un uf uk.length ug) 32 W (Nat.le_refl _) (by omega) (by decide) (by omega) hRe (ht.below (Keep.below hk)) (uhe.keep hk (kU hk))).mono fun e w' ⟨h,h1,h2,h3⟩=>⟨_,h1,⟨h,rfl⟩,h3⟩) ?_
     rintro v w2 ⟨h,rfl⟩ hk2
     cases hx:okE 32 (Ex.mk uo ut uv un uk) with
     | false=>
       refine rs [] 60 6 ?_
       refine gR (.bool false) (fun W hk=>⟨?_,hk.below⟩)
       rw [okS_mk _ _ _ _ _ _ (by decide)]
       simp [hx]
     | true=>
       refine rs [] 60 3 ?_
       refine gS 105 (x:=nI (wrapF .i64 ((deep:Int)+1))) (nI ((deep+1:Nat):Int)) (by rw [wr64 (by omega) (by omega)];congr 1) ?_
       cases hubody:okB (deep+1) uB with
       | false=>
         refine gX [.slice uj uB.length uh,nI ((deep+1:Nat):Int)] (.bool false) (fun W hk=>by rw [← hubody];exact ih uB _ _ _ _ (deep+1) W rfl (by omega) (by omega) (by omega) (by omega) hRubody (ht.below (Keep.below hk)) ((uhbs.keep hk).mono (kU hk)) (StsAt_ls.1 (uhbt.keep hk (kU hk)))) ?_
         refine rs [] 60 6 ?_
         refine gR (.bool false) (fun W hk=>⟨?_,hk.below⟩)
         rw [okS_mk _ _ _ _ _ _ (by decide)]
         simp [hubody]
       | true=>
         refine gX [.slice uj uB.length uh,nI ((deep+1:Nat):Int)] (.bool true) (fun W hk=>by rw [← hubody];exact ih uB _ _ _ _ (deep+1) W rfl (by omega) (by omega) (by omega) (by omega) hRubody (ht.below (Keep.below hk)) ((uhbs.keep hk).mono (kU hk)) (StsAt_ls.1 (uhbt.keep hk (kU hk)))) ?_
         refine rs [] 60 2 ?_
         refine gS 111 (x:=nI (wrapF .i64 ((deep:Int)+1))) (nI ((deep+1:Nat):Int)) (by rw [wr64 (by omega) (by omega)];congr 1) ?_
         obtain ⟨bl,huels⟩:∃ b,b=okB (deep+1) uL:=⟨_,rfl⟩
         refine gX [.slice ui uL.length uw,nI ((deep+1:Nat):Int)] (.bool bl) (fun W hk=>by rw [huels];exact ih uL _ _ _ _ (deep+1) W rfl (by omega) (by omega) (by omega) (by omega) hRuels (ht.below (Keep.below hk)) ((uhls.keep hk).mono (kU hk)) (StsAt_ls.1 (uhlt.keep hk (kU hk)))) ?_
         refine rs [] 60 2 ?_
         refine gR (.bool bl) (fun W hk=>⟨?_,hk.below⟩)
         rw [okS_mk _ _ _ _ _ _ (by decide)]
         simp [hm,hx,hubody,huels]
theorem tstmt6_of (N:Nat) (ih:BlkC N)
  (us:List UInt8) (uo ut uv:Int) (un:List UInt8) (uk:List Ex) (uB uL:List St) (uj ui uf:Option Addr) (uh uw ug deep:Nat) (ubx ulx:List Value) (w:World)
  (hN:swt (St.mk 6 us (Ex.mk uo ut uv un uk) uB uL)≤N) (hbd:swt (St.mk 6 us (Ex.mk uo ut uv un uk) uB uL)≤1000000000000) (hdeep:deep≤1000000000000+32 - swt (St.mk 6 us (Ex.mk uo ut uv un uk) uB uL)) (hB:stB (St.mk 6 us (Ex.mk uo ut uv un uk) uB uL)≤1000000000000) (hR:stR (St.mk 6 us (Ex.mk uo ut uv un uk) uB uL)) (ht:Tab w) (uhe:ExAt (·<w.heap.size) w (Ex.mk uo ut uv un uk) (xL uo ut uv un uf uk.length ug))
  (uhbs:SlAt (·<w.heap.size) w uj uB.length 9 ubx) (uhbt:StsAt (·<w.heap.size) w uB ubx) (uhls:SlAt (·<w.heap.size) w ui uL.length 9 ulx) (uhlt:StsAt (·<w.heap.size) w uL ulx):
  CB 194 #[yV 6 us uo ut uv un uf uk.length ug uj uB.length uh ui uL.length uw,nI (deep:Int)] w (.bool (okS deep (St.mk 6 us (Ex.mk uo ut uv un uk) uB uL))):=by
 simp only [swt] at hN hbd hdeep
 simp only [stB] at hB
 simp only [stR] at hR
 obtain ⟨hRk,hRe,hRubody,hRuels⟩:=hR
 have hnm:us.length≤maxLen:=by unfold maxLen;omega
 refine eN [yV 6 us uo ut uv un uf uk.length ug uj uB.length uh ui uL.length uw,nI (deep:Int)] Tryz.func194 (fun γ0 hγ0=>?_)
 refine rk ?_
 cases hn:nameB us with
 | true=>
   refine gP [nT us] (.bool true) (fun W hk=>by rw [← hn];exact name_any us W hnm) ?_
   refine rs [] 60 6 ?_
   refine gR (.bool false) (fun W hk=>⟨?_,hk.below⟩)
   rw [okS_mk _ _ _ _ _ _ (by decide)]
   simp [nameB_nil hn]
 | false=>
   refine gP [nT us] (.bool false) (fun W hk=>by rw [← hn];exact name_any us W hnm) ?_
   refine rk ?_
   cases hm:bEqL us [] with
   | false=>
     refine gK true (b:=!(bEqL us [])) (by rw [hm];rfl) ?_
     refine rs [] 60 6 ?_
     refine gR (.bool false) (fun W hk=>⟨?_,hk.below⟩)
     rw [okS_mk _ _ _ _ _ _ (by decide)]
     simp [hm]
   | true=>
     refine gK false (b:=!(bEqL us [])) (by rw [hm];rfl) ?_
     refine rs [] 60 3 ?_
     refine gE [xV uo ut uv un uf uk.length ug,nI 32] (fun v=>∃ h,v = .tuple #[nI h,.bool (okE 32 (Ex.mk uo ut uv un uk))]) (fun W hk=>(texpr_any _ (Ex.mk uo ut uv un uk) (xL uo ut uv un uf uk.length ug) 32 W (Nat.le_refl _) (by omega) (by decide) (by omega) hRe (ht.below (Keep.below hk)) (uhe.keep hk (kU hk))).mono fun e w' ⟨h,h1,h2,h3⟩=>⟨_,h1,⟨h,rfl⟩,h3⟩) ?_
     rintro v w2 ⟨h,rfl⟩ hk2
     cases hx:okE 32 (Ex.mk uo ut uv un uk) with
     | false=>
       refine rs [] 60 6 ?_
       refine gR (.bool false) (fun W hk=>⟨?_,hk.below⟩)
       rw [okS_mk _ _ _ _ _ _ (by decide)]
       simp [hx]
     | true=>
       refine rs [87] 60 2 ?_
       by_cases h4:uL.length=0
       rotate_left
       ·
        refine zx 84 0 (uL.length:Int) (by omega) ?_
        refine zx 85 0 (uL.length:Int) (by omega) ?_
        refine zx 86 0 (uL.length:Int) (by omega) ?_
        refine rs [] 60 6 ?_
        refine gR (.bool false) (fun W hk=>⟨?_,hk.below⟩)
        rw [okS_mk _ _ _ _ _ _ (by decide)]
        simp [h4]
       refine zy 84 0 (uL.length:Int) (by omega) ?_
       refine zy 85 0 (uL.length:Int) (by omega) ?_
       refine zy 86 0 (uL.length:Int) (by omega) ?_
       refine rs [] 60 2 ?_
       refine gS 105 (x:=nI (wrapF .i64 ((deep:Int)+1))) (nI ((deep+1:Nat):Int)) (by rw [wr64 (by omega) (by omega)];congr 1) ?_
       cases hubody:okB (deep+1) uB with
       | false=>
         refine gX [.slice uj uB.length uh,nI ((deep+1:Nat):Int)] (.bool false) (fun W hk=>by rw [← hubody];exact ih uB _ _ _ _ (deep+1) W rfl (by omega) (by omega) (by omega) (by omega) hRubody (ht.below (Keep.below hk)) ((uhbs.keep hk).mono (kU hk)) (StsAt_ls.1 (uhbt.keep hk (kU hk)))) ?_
         refine rs [] 60 6 ?_
         refine gR (.bool false) (fun W hk=>⟨?_,hk.below⟩)
         rw [okS_mk _ _ _ _ _ _ (by decide)]
         simp [hubody]
       | true=>
         refine gX [.slice uj uB.length uh,nI ((deep+1:Nat):Int)] (.bool true) (fun W hk=>by rw [← hubody];exact ih uB _ _ _ _ (deep+1) W rfl (by omega) (by omega) (by omega) (by omega) hRubody (ht.below (Keep.below hk)) ((uhbs.keep hk).mono (kU hk)) (StsAt_ls.1 (uhbt.keep hk (kU hk)))) ?_
         refine rs [] 60 2 ?_
         refine gS 111 (x:=nI (wrapF .i64 ((deep:Int)+1))) (nI ((deep+1:Nat):Int)) (by rw [wr64 (by omega) (by omega)];congr 1) ?_
         obtain ⟨bl,huels⟩:∃ b,b=okB (deep+1) uL:=⟨_,rfl⟩
         refine gX [.slice ui uL.length uw,nI ((deep+1:Nat):Int)] (.bool bl) (fun W hk=>by rw [huels];exact ih uL _ _ _ _ (deep+1) W rfl (by omega) (by omega) (by omega) (by omega) hRuels (ht.below (Keep.below hk)) ((uhls.keep hk).mono (kU hk)) (StsAt_ls.1 (uhlt.keep hk (kU hk)))) ?_
         refine rs [] 60 2 ?_
         refine gR (.bool bl) (fun W hk=>⟨?_,hk.below⟩)
         rw [okS_mk _ _ _ _ _ _ (by decide)]
         simp [hm,hx,h4,hubody,huels]
theorem tstmt7_of (N:Nat) (ih:BlkC N)
  (us:List UInt8) (uo ut uv:Int) (un:List UInt8) (uk:List Ex) (uB uL:List St) (uj ui uf:Option Addr) (uh uw ug deep:Nat) (ubx ulx:List Value) (w:World)
  (hN:swt (St.mk 7 us (Ex.mk uo ut uv un uk) uB uL)≤N) (hbd:swt (St.mk 7 us (Ex.mk uo ut uv un uk) uB uL)≤1000000000000) (hdeep:deep≤1000000000000+32 - swt (St.mk 7 us (Ex.mk uo ut uv un uk) uB uL)) (hB:stB (St.mk 7 us (Ex.mk uo ut uv un uk) uB uL)≤1000000000000) (hR:stR (St.mk 7 us (Ex.mk uo ut uv un uk) uB uL)) (ht:Tab w) (uhe:ExAt (·<w.heap.size) w (Ex.mk uo ut uv un uk) (xL uo ut uv un uf uk.length ug))
  (uhbs:SlAt (·<w.heap.size) w uj uB.length 9 ubx) (uhbt:StsAt (·<w.heap.size) w uB ubx) (uhls:SlAt (·<w.heap.size) w ui uL.length 9 ulx) (uhlt:StsAt (·<w.heap.size) w uL ulx):
  CB 194 #[yV 7 us uo ut uv un uf uk.length ug uj uB.length uh ui uL.length uw,nI (deep:Int)] w (.bool (okS deep (St.mk 7 us (Ex.mk uo ut uv un uk) uB uL))):=by
 simp only [swt] at hN hbd hdeep
 simp only [stB] at hB
 simp only [stR] at hR
 obtain ⟨hRk,hRe,hRubody,hRuels⟩:=hR
 have hnm:us.length≤maxLen:=by unfold maxLen;omega
 refine eN [yV 7 us uo ut uv un uf uk.length ug uj uB.length uh ui uL.length uw,nI (deep:Int)] Tryz.func194 (fun γ0 hγ0=>?_)
 refine rk ?_
 cases hn:nameB us with
 | true=>
   refine gP [nT us] (.bool true) (fun W hk=>by rw [← hn];exact name_any us W hnm) ?_
   refine rs [] 60 6 ?_
   refine gR (.bool false) (fun W hk=>⟨?_,hk.below⟩)
   rw [okS_mk _ _ _ _ _ _ (by decide)]
   simp [nameB_nil hn]
 | false=>
   refine gP [nT us] (.bool false) (fun W hk=>by rw [← hn];exact name_any us W hnm) ?_
   refine rk ?_
   cases hm:bEqL us [] with
   | false=>
     refine gK true (b:=!(bEqL us [])) (by rw [hm];rfl) ?_
     refine rs [] 60 6 ?_
     refine gR (.bool false) (fun W hk=>⟨?_,hk.below⟩)
     rw [okS_mk _ _ _ _ _ _ (by decide)]
     simp [hm]
   | true=>
     refine gK false (b:=!(bEqL us [])) (by rw [hm];rfl) ?_
     refine rs [] 60 3 ?_
     cases hx:exNone (Ex.mk uo ut uv un uk) with
     | false=>
       refine gX [xV uo ut uv un uf uk.length ug] (.bool false) (fun W hk=>by rw [← hx];exact plain_any uo ut uv un uk uf ug W) ?_
       refine rs [] 60 6 ?_
       refine gR (.bool false) (fun W hk=>⟨?_,hk.below⟩)
       rw [okS_mk _ _ _ _ _ _ (by decide)]
       simp [hx]
     | true=>
       refine gX [xV uo ut uv un uf uk.length ug] (.bool true) (fun W hk=>by rw [← hx];exact plain_any uo ut uv un uk uf ug W) ?_
       refine rs [87] 60 2 ?_
       by_cases h4:uL.length=0
       rotate_left
       ·
        refine zx 84 0 (uL.length:Int) (by omega) ?_
        refine zx 85 0 (uL.length:Int) (by omega) ?_
        refine zx 86 0 (uL.length:Int) (by omega) ?_
        refine rs [] 60 6 ?_
        refine gR (.bool false) (fun W hk=>⟨?_,hk.below⟩)
        rw [okS_mk _ _ _ _ _ _ (by decide)]
        simp [h4]
       refine zy 84 0 (uL.length:Int) (by omega) ?_
       refine zy 85 0 (uL.length:Int) (by omega) ?_
       refine zy 86 0 (uL.length:Int) (by omega) ?_
       refine rk ?_
       by_cases h5:uB.length=0
       rotate_left
       ·
        refine kx 0 (uB.length:Int) (by omega) ?_
        refine rs [] 60 6 ?_
        refine gR (.bool false) (fun W hk=>⟨?_,hk.below⟩)
        rw [okS_mk _ _ _ _ _ _ (by decide)]
        simp [h5]
       refine ky 0 (uB.length:Int) (by omega) ?_
       refine rk ?_
       refine gS 105 (x:=nI (wrapF .i64 ((deep:Int)+1))) (nI ((deep+1:Nat):Int)) (by rw [wr64 (by omega) (by omega)];congr 1) ?_
       cases hubody:okB (deep+1) uB with
       | false=>
         refine gX [.slice uj uB.length uh,nI ((deep+1:Nat):Int)] (.bool false) (fun W hk=>by rw [← hubody];exact ih uB _ _ _ _ (deep+1) W rfl (by omega) (by omega) (by omega) (by omega) hRubody (ht.below (Keep.below hk)) ((uhbs.keep hk).mono (kU hk)) (StsAt_ls.1 (uhbt.keep hk (kU hk)))) ?_
         refine rs [] 60 6 ?_
         refine gR (.bool false) (fun W hk=>⟨?_,hk.below⟩)
         rw [okS_mk _ _ _ _ _ _ (by decide)]
         simp [hubody]
       | true=>
         refine gX [.slice uj uB.length uh,nI ((deep+1:Nat):Int)] (.bool true) (fun W hk=>by rw [← hubody];exact ih uB _ _ _ _ (deep+1) W rfl (by omega) (by omega) (by omega) (by omega) hRubody (ht.below (Keep.below hk)) ((uhbs.keep hk).mono (kU hk)) (StsAt_ls.1 (uhbt.keep hk (kU hk)))) ?_
         refine rs [] 60 2 ?_
         refine gS 111 (x:=nI (wrapF .i64 ((deep:Int)+1))) (nI ((deep+1:Nat):Int)) (by rw [wr64 (by omega) (by omega)];congr 1) ?_
         obtain ⟨bl,huels⟩:∃ b,b=okB (deep+1) uL:=⟨_,rfl⟩
         refine gX [.slice ui uL.length uw,nI ((deep+1:Nat):Int)] (.bool bl) (fun W hk=>by rw [huels];exact ih uL _ _ _ _ (deep+1) W rfl (by omega) (by omega) (by omega) (by omega) hRuels (ht.below (Keep.below hk)) ((uhls.keep hk).mono (kU hk)) (StsAt_ls.1 (uhlt.keep hk (kU hk)))) ?_
         refine rs [] 60 2 ?_
         refine gR (.bool bl) (fun W hk=>⟨?_,hk.below⟩)
         rw [okS_mk _ _ _ _ _ _ (by decide)]
         simp [hm,hx,h4,h5,hubody,huels]
theorem tstmtother_of (N:Nat) (ih:BlkC N)
  (uK:Int) (us:List UInt8) (uo ut uv:Int) (un:List UInt8) (uk:List Ex) (uB uL:List St) (uj ui uf:Option Addr) (uh uw ug deep:Nat) (ubx ulx:List Value) (w:World)
  (hN:swt (St.mk uK us (Ex.mk uo ut uv un uk) uB uL)≤N) (hbd:swt (St.mk uK us (Ex.mk uo ut uv un uk) uB uL)≤1000000000000) (hdeep:deep≤1000000000000+32 - swt (St.mk uK us (Ex.mk uo ut uv un uk) uB uL)) (hB:stB (St.mk uK us (Ex.mk uo ut uv un uk) uB uL)≤1000000000000) (hR:stR (St.mk uK us (Ex.mk uo ut uv un uk) uB uL)) (ht:Tab w) (uhe:ExAt (·<w.heap.size) w (Ex.mk uo ut uv un uk) (xL uo ut uv un uf uk.length ug))
  (uhbs:SlAt (·<w.heap.size) w uj uB.length 9 ubx) (uhbt:StsAt (·<w.heap.size) w uB ubx) (uhls:SlAt (·<w.heap.size) w ui uL.length 9 ulx) (uhlt:StsAt (·<w.heap.size) w uL ulx) (h1:¬ uK=1) (h2:¬ uK=2) (h3:¬ uK=3) (h4:¬ uK=4) (h5:¬ uK=5) (h6:¬ uK=6) (h7:¬ uK=7):
  CB 194 #[yV uK us uo ut uv un uf uk.length ug uj uB.length uh ui uL.length uw,nI (deep:Int)] w (.bool (okS deep (St.mk uK us (Ex.mk uo ut uv un uk) uB uL))):=by
 simp only [swt] at hN hbd hdeep
 simp only [stB] at hB
 simp only [stR] at hR
 obtain ⟨hRk,hRe,hRubody,hRuels⟩:=hR
 have hnm:us.length≤maxLen:=by unfold maxLen;omega
 refine eN [yV uK us uo ut uv un uf uk.length ug uj uB.length uh ui uL.length uw,nI (deep:Int)] Tryz.func194 (fun γ0 hγ0=>?_)
 refine rs [13] 60 0 ?_
 refine gF 11 uK 1 h1 ?_
 refine gF 12 uK 1 h1 ?_
 refine rs [18] 60 0 ?_
 refine gF 15 uK 2 h2 ?_
 refine gF 16 uK 2 h2 ?_
 refine gF 17 uK 2 h2 ?_
 refine rs [26] 60 0 ?_
 refine gF 20 uK 3 h3 ?_
 refine gF 21 uK 3 h3 ?_
 refine gF 5 uK 3 h3 ?_
 refine gF 24 uK 1 h1 ?_
 refine gF 25 uK 1 h1 ?_
 refine rs [31] 60 0 ?_
 refine gF 28 uK 4 h4 ?_
 refine gF 29 uK 4 h4 ?_
 refine gF 30 uK 4 h4 ?_
 refine rs [36] 60 0 ?_
 refine gF 33 uK 5 h5 ?_
 refine gF 34 uK 5 h5 ?_
 refine gF 35 uK 5 h5 ?_
 refine rs [44] 60 0 ?_
 refine gF 38 uK 6 h6 ?_
 refine gF 39 uK 6 h6 ?_
 refine gF 6 uK 6 h6 ?_
 by_cases hl:uK<1
 ·
  refine zx 42 uK 1 hl ?_
  refine zx 43 uK 1 hl ?_
  refine rs [] 60 6 ?_
  refine gR (.bool false) (fun W hk=>⟨?_,hk.below⟩)
  rw [okS_other _ _ _ _ _ _ (by omega)]
 refine zy 42 uK 1 hl ?_
 refine zy 43 uK 1 hl ?_
 refine rs [49] 60 0 ?_
 refine zx 46 7 uK (by omega) ?_
 refine zx 47 7 uK (by omega) ?_
 refine zx 48 7 uK (by omega) ?_
 refine rs [] 60 6 ?_
 refine gR (.bool false) (fun W hk=>⟨?_,hk.below⟩)
 rw [okS_other _ _ _ _ _ _ (by omega)]
end
section
set_option maxRecDepth 100000
theorem tstmt_any (N:Nat) (ih:BlkC N) (x:St) (cs:List Value) (deep:Nat) (w:World) (hN:swt x≤N) (hbd:swt x≤1000000000000) (hdeep:deep≤1000000000000+32 - swt x) (hB:stB x≤1000000000000) (hR:stR x) (ht:Tab w) (hat:StAt (·<w.heap.size) w x cs):
  CB 194 #[.agg cs.toArray,.int .i64 (deep:Int)] w (.bool (okS deep x)):=by
 obtain ⟨uK,us,⟨uo,ut,uv,un,uk⟩,uB,uL⟩:=x
 simp only [StAt] at hat
 obtain ⟨ucs,uj,uh,ubx,ui,uw,ulx,rfl,uhe,uhbs,uhbt,uhls,uhlt⟩:=hat
 have uhe0:=uhe
 simp only [ExAt] at uhe0
 obtain ⟨uf,ug,uex,rfl,_⟩:=uhe0
 by_cases h1:uK=1
 · subst h1
   exact tstmt1_of N ih  us uo ut uv un uk uB uL uj ui uf uh uw ug deep ubx ulx w hN hbd hdeep hB hR ht uhe uhbs uhbt uhls uhlt
 by_cases h2:uK=2
 · subst h2
   exact tstmt23_of N ih 2 us uo ut uv un uk uB uL uj ui uf uh uw ug deep ubx ulx w hN hbd hdeep hB hR ht uhe uhbs uhbt uhls uhlt (.inl rfl)
 by_cases h3:uK=3
 · subst h3
   exact tstmt23_of N ih 3 us uo ut uv un uk uB uL uj ui uf uh uw ug deep ubx ulx w hN hbd hdeep hB hR ht uhe uhbs uhbt uhls uhlt (.inr rfl)
 by_cases h4:uK=4
 · subst h4
   exact tstmt4_of N ih  us uo ut uv un uk uB uL uj ui uf uh uw ug deep ubx ulx w hN hbd hdeep hB hR ht uhe uhbs uhbt uhls uhlt
 by_cases h5:uK=5
 · subst h5
   exact tstmt5_of N ih  us uo ut uv un uk uB uL uj ui uf uh uw ug deep ubx ulx w hN hbd hdeep hB hR ht uhe uhbs uhbt uhls uhlt
 by_cases h6:uK=6
 · subst h6
   exact tstmt6_of N ih  us uo ut uv un uk uB uL uj ui uf uh uw ug deep ubx ulx w hN hbd hdeep hB hR ht uhe uhbs uhbt uhls uhlt
 by_cases h7:uK=7
 · subst h7
   exact tstmt7_of N ih  us uo ut uv un uk uB uL uj ui uf uh uw ug deep ubx ulx w hN hbd hdeep hB hR ht uhe uhbs uhbt uhls uhlt
 exact tstmtother_of N ih uK us uo ut uv un uk uB uL uj ui uf uh uw ug deep ubx ulx w hN hbd hdeep hB hR ht uhe uhbs uhbt uhls uhlt h1 h2 h3 h4 h5 h6 h7
open Go.Sy
theorem tblock1_any (N:Nat) (ih:BlkC N) (x:St) (cs:List Value) (q deep:Nat) (w:World) (hN:swt x≤N) (hbd:swt x≤1000000000000) (hdeep:deep≤1000000000000+32 - swt x) (hB:stB x≤1000000000000) (hR:stR x) (ht:Tab w) (hq:SlAt (·<w.heap.size) w (some ⟨q,0,none⟩) 1 1 [nI (deep:Int)]) (hat:StAt (·<w.heap.size) w x cs):
  CB 193 #[.agg cs.toArray,nP q] w (.bool (!(okS deep x))):=by
 have hat0:=hat
 obtain ⟨uK,us,⟨uo,ut,uv,un,uk⟩,uB,uL⟩:=x
 simp only [StAt] at hat0
 obtain ⟨ucs,uj,uh,ubx,ui,uw,ulx,rfl,uhe,_⟩:=hat0
 simp only [ExAt] at uhe
 obtain ⟨uf,ug,uex,rfl,_⟩:=uhe
 refine eN [yV uK us uo ut uv un uf uk.length ug uj uB.length uh ui uL.length uw,nP q] Tryz.func193 (fun γ0 hγ0=>?_)
 refine rk ?_
 refine gV (nI (deep:Int)) (S:=Instr.loadAt 3 (.pointer (some ⟨q,0+0,none⟩))) (fun W hk=>ld_pt hq (by kernel_rfl) 0 rfl hk) ?_
 refine rk ?_
 refine gX [yV uK us uo ut uv un uf uk.length ug uj uB.length uh ui uL.length uw,nI (deep:Int)] (.bool (okS deep (St.mk uK us (Ex.mk uo ut uv un uk) uB uL))) (fun W hk=>tstmt_any N ih (St.mk uK us (Ex.mk uo ut uv un uk) uB uL) (yL uK us uo ut uv un uf uk.length ug uj uB.length uh ui uL.length uw) deep W hN hbd hdeep hB hR (ht.below (Keep.below hk)) (hat.keep hk (kU hk))) ?_
 refine rk ?_
 exact gR (.bool (!(okS deep (St.mk uK us (Ex.mk uo ut uv un uk) uB uL)))) (fun W hk=>⟨rfl,hk.below⟩)
theorem swts_mem {x:St}:∀ {l:List St},x∈l→swt x≤swts l
 | y::l,h=>by
   simp only [swts]
   rcases List.mem_cons.1 h with rfl | h
   · omega
   · have:=swts_mem h;omega
theorem stBs_mem {x:St}:∀ {l:List St},x∈l→stB x≤stBs l
 | y::l,h=>by
   simp only [stBs]
   rcases List.mem_cons.1 h with rfl | h
   · omega
   · have:=stBs_mem h;omega
theorem blkC:∀ N,BlkC N:=by
 intro N
 induction N with
 | zero=>intro L a n cap xs deep w _ h;omega
 | succ N ih=>
   intro L a n cap xs deep w hn hN hbd hdeep hB hR ht hsl hks
   have hnl:=swts_len L
   refine eN [.slice a n cap,nI (deep:Int)] Tryz.func123 (fun γ0 hγ0=>?_)
   refine rs [9] 60 0 ?_
   by_cases h0:n=0
   ·
    refine zy 7 0 (n:Int) (by omega) ?_
    refine zy 8 0 (n:Int) (by omega) ?_
    refine rs [12] 60 1 ?_
    refine gG 3 gz 3 [nI (deep:Int)] (fun q w1 B1 hk1 hB01 hBq hnq hB1 hq=>?_)
    have hq1:=box_sl hq hBq (n:=1) rfl
    refine rk ?_
    refine gN [.slice a n cap,.func (.func 193) #[] #[nP q]] (fun v=>v = .bool (L.any fun s=>!(okS deep s))) (fun W hk=>by
     have hkw:Keep (·<w.heap.size) w W:=hk1.trans (hk.mono hB01)
     refine (conSt_any (fun s=>!(okS deep s)) q L a n cap xs W hn (by omega) ((hsl.keep hkw).mono (kU hkw)) (hks.imp fun x c hc=>hc.keep hkw (kU hkw)) (fun x hx cs W2 hk2 hat2=>?_)).mono fun e w' ⟨h1,h2⟩=>⟨_,h1,rfl,h2⟩
     have hm:=swts_mem hx
     have hm2:=stBs_mem hx
     exact tblock1_any N ih x cs q deep W2 (by omega) (by omega) (by omega) (by omega) (stRs_mem.1 hR x hx) (ht.below ((Keep.trans hkw (hk2.mono (kU hkw))).below)) (((hq1.keep hk).mono fun k h=>Nat.lt_of_lt_of_le (hB1 k h) hk.size).keep hk2 |>.mono (kU hk2)) hat2) ?_
    rintro v w2 rfl hk2
    refine rk ?_
    refine gR (.bool (!(L.any fun s=>!(okS deep s)))) (fun W hk=>⟨?_,((hk1.trans (hk.mono hB01))).below⟩)
    have hL:L=[]:=List.eq_nil_of_length_eq_zero (by omega)
    subst hL
    rfl
   refine zx 7 0 (n:Int) (by omega) ?_
   refine zx 8 0 (n:Int) (by omega) ?_
   refine rk ?_
   by_cases h1:32<deep
   ·
    refine kx 32 (deep:Int) (by omega) ?_
    refine rs [] 60 1 ?_
    refine gR (.bool false) (fun W hk=>⟨?_,hk.below⟩)
    rw [okB_deep deep h1,decide_eq_false (by omega)]
   refine ky 32 (deep:Int) (by omega) ?_
   refine rs [12] 60 1 ?_
   refine gG 3 gz 3 [nI (deep:Int)] (fun q w1 B1 hk1 hB01 hBq hnq hB1 hq=>?_)
   have hq1:=box_sl hq hBq (n:=1) rfl
   refine rk ?_
   refine gN [.slice a n cap,.func (.func 193) #[] #[nP q]] (fun v=>v = .bool (L.any fun s=>!(okS deep s))) (fun W hk=>by
    have hkw:Keep (·<w.heap.size) w W:=hk1.trans (hk.mono hB01)
    refine (conSt_any (fun s=>!(okS deep s)) q L a n cap xs W hn (by omega) ((hsl.keep hkw).mono (kU hkw)) (hks.imp fun x c hc=>hc.keep hkw (kU hkw)) (fun x hx cs W2 hk2 hat2=>?_)).mono fun e w' ⟨h1,h2⟩=>⟨_,h1,rfl,h2⟩
    have hm:=swts_mem hx
    have hm2:=stBs_mem hx
    exact tblock1_any N ih x cs q deep W2 (by omega) (by omega) (by omega) (by omega) (stRs_mem.1 hR x hx) (ht.below ((Keep.trans hkw (hk2.mono (kU hkw))).below)) (((hq1.keep hk).mono fun k h=>Nat.lt_of_lt_of_le (hB1 k h) hk.size).keep hk2 |>.mono (kU hk2)) hat2) ?_
   rintro v w2 rfl hk2
   refine rk ?_
   refine gR (.bool (!(L.any fun s=>!(okS deep s)))) (fun W hk=>⟨?_,((hk1.trans (hk.mono hB01))).below⟩)
   rw [okB_any deep (by omega)]
theorem tblock_any (L:List St) (a:Option Addr) (n cap:Nat) (xs:List Value) (deep:Nat) (w:World) (hn:n=L.length) (hbd:swts L≤1000000000000) (hdeep:deep≤1000) (hB:stBs L≤1000000000000) (hR:stRs L) (ht:Tab w) (hsl:Sy.SlAt (·<w.heap.size) w a n 9 xs) (hks:LsAt (StAt (·<w.heap.size) w) L xs) (hbd2:swts L≤500000000000):
  CB 123 #[.slice a n cap,.int .i64 (deep:Int)] w (.bool (okB deep L)):=
 blkC _ L a n cap xs deep w hn (Nat.lt_succ_self _) hbd (by omega) hB hR ht hsl hks
end
end Go.Proofs.YtiacalnkmnckjaaGreatDoor
