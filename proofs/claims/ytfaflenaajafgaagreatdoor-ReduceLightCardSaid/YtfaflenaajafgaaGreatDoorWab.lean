/- Part of a proof: walks printed by a program. -/
import Derived.Test.YtfaflenaajafgaaGreatDoorWaa
set_option linter.unusedVariables false
set_option linter.unusedSimpArgs false
set_option maxHeartbeats 1000000
set_option maxRecDepth 8000
namespace Go.Proofs.YtfaflenaajafgaaGreatDoor
open Go Go.SL Go.IntKind
theorem zg4 (F:Nat) (x1:Int) (w0:World) (r:Bool × (List Int) × Int) (M:zfg F x1=some r) :
    Ret P 128 #[I x1] w0 (G:=Value) (λg1=>.agg #[B r.1,g1,I r.2.2]) (λg1 w=>St w0 w noX [] [D g1 r.2.1]):=by
 unfold zfg at M; refine roW Tryz.func128 C C C (λa H=>?_); have X:St w0 w0 noX [] []:=Sbw lnn; refine sg (l:=[0]) C<|O.alloc (cs:=#[B false,.slice none 0 0,I 0]) H X C C zao C<|?_; intro b2 w a hb2 X H; refine nk<|sg (l:=[0,1,2,3,4,5,6,7,8,9,10,11]) C<|mv H C λa H=>?_; refine hb M λx3 hx3 M=>oq H X C zhB (zeX F 18 x1 _ x3 hx3) ?_; rintro s4 w X a H; refine mv H C λa H=>?_; refine hb M λx5 hx5 M=>oq H X C zhB (zeX F 57 x1 _ x5 hx5) ?_; rintro s6 w X a H; refine mv H C λa H=>?_; refine hb M λx7 hx7 M=>oq H X C zhB (zeX F 239 x1 _ x7 hx7) ?_; rintro s8 w X a H; refine O.alloc (cs:=#[B false,.slice none 0 0,I 0]) H X C C zao C ?_; intro b9 w a hb9 X H; refine O.alloc (cs:=#[B false,.slice none 0 0,I 0]) H X C C zao C ?_; intro b10 w a hb10 X H; refine O.alloc (cs:=#[B false,.slice none 0 0,I 0]) H X C C zao C ?_; intro b11 w a hb11 X H; refine ost 2 #[B x3.1,s4,I x3.2.2] H X C C C zan C (occ C (occ (rdo (X.s 5 C)) (occ C C))) C (bl C) C ?_; intro w X; refine ost 1 #[B x5.1,s6,I x5.2.2] H X C C C zan C (occ C (occ (rdo (X.s 4 C)) (occ C C))) C (bl C) C ?_; intro w X; refine ost 0 #[B x7.1,s8,I x7.2.2] H X C C C zan C (occ C (occ (rdo (X.s 3 C)) (occ C C))) C (bl C) C ?_; intro w X; refine nk<|W.seq<|?_; have J:Fr a 40 [] []:=H.to trivial; obtain ⟨x12,hx12,M⟩:=hm_b M; obtain ⟨x14,hx14,M⟩:=hm_b M; obtain ⟨x16,hx16,M⟩:=hm_b M; obtain ⟨x18,hx18,M⟩:=hm_b M; obtain ⟨x20,hx20,M⟩:=hm_b M; replace X:=X.drew; replace X:=X.emp; refine W.drawK (γ:=Nat × Value × Value × Value × Value × Value) (L0:=[(2,Pv b2 0),(3,Pv b9 0),(4,Pv b10 0),(5,Pv b11 0)]) (L1:=[]) (0,undef,undef,undef,undef,undef) [0,3,4,7,8,10] [9] [1,2,5,6] (λi=>match i with | 2=>[1] | 3=>[0,2] | 4=>[3] | 6=>[5] | 7=>[4,6] | 8=>[3,7] | 10=>[0,1,2,3,4,5,6,7,8,9] | _=>[]) (λi=>match i with | 10=>[9] | _=>[]) (λi=>match i with | 0=>[3,4,7,8,10] | 3=>[4,7,8,10] | 4=>[7,8,10] | 7=>[8,10] | 8=>[10] | 9=>[10] | _=>[]) (λ_=>[]) (λi=>match i with | 3=>1 | 4=>2 | 7=>3 | 8=>4 | 10=>5 | _=>0) (λi=>match i with | 0=>1 | 1=>1 | 2=>1 | 3=>2 | 4=>3 | 5=>3 | 6=>3 | 7=>4 | 8=>5 | 9=>5 | 10=>6 | _=>0) (λ(g:Nat × Value × Value × Value × Value × Value) j=>match j with | 0=>.agg #[B x12.1,g.2.1] | 1=>Pv b9 0 | 2=>.agg #[B x3.1,s4] | 3=>.agg #[B x14.1,g.2.2.1] | 4=>.agg #[B x16.1,g.2.2.2.1] | 5=>Pv b10 0 | 6=>.agg #[B x5.1,s6] | 7=>.agg #[B x18.1,g.2.2.2.2.1] | 8=>.agg #[B x20.1,g.2.2.2.2.2] | 9=>Pv g.1 0 | _=>undef) (λk s (g:Nat × Value × Value × Value × Value × Value) w=>match k with | 0=>St w0 w noX [] [condA (s 9) (pt g.1 (Cs #[B false,.slice none 0 0] 28)),pB170 b11 x7.1 s8 x7.2.2,pB170 b10 x5.1 s6 x5.2.2,pB170 b9 x3.1 s4 x3.2.2,D s8 x7.2.1,D s6 x5.2.1,D s4 x3.2.1,pt b2 (Cs #[B false,.slice none 0 0,I 0] 170)] | 1=>St w0 w noX [] [D g.2.1 x12.2,condA (s 9) (pt g.1 (Cs #[B false,.slice none 0 0] 28)),pB170 b11 x7.1 s8 x7.2.2,pB170 b10 x5.1 s6 x5.2.2,pB170 b9 x3.1 s4 x3.2.2,D s8 x7.2.1,D s6 x5.2.1,D s4 x3.2.1,pt b2 (Cs #[B false,.slice none 0 0,I 0] 170)] | 2=>St w0 w noX [] [D g.2.2.1 x14.2,D g.2.1 x12.2,condA (s 9) (pt g.1 (Cs #[B false,.slice none 0 0] 28)),pB170 b11 x7.1 s8 x7.2.2,pB170 b10 x5.1 s6 x5.2.2,pB170 b9 x3.1 s4 x3.2.2,D s8 x7.2.1,D s6 x5.2.1,D s4 x3.2.1,pt b2 (Cs #[B false,.slice none 0 0,I 0] 170)] | 3=>St w0 w noX [] [D g.2.2.2.1 x16.2,D g.2.2.1 x14.2,D g.2.1 x12.2,condA (s 9) (pt g.1 (Cs #[B false,.slice none 0 0] 28)),pB170 b11 x7.1 s8 x7.2.2,pB170 b10 x5.1 s6 x5.2.2,pB170 b9 x3.1 s4 x3.2.2,D s8 x7.2.1,D s6 x5.2.1,D s4 x3.2.1,pt b2 (Cs #[B false,.slice none 0 0,I 0] 170)] | 4=>St w0 w noX [] [D g.2.2.2.2.1 x18.2,D g.2.2.2.1 x16.2,D g.2.2.1 x14.2,D g.2.1 x12.2,condA (s 9) (pt g.1 (Cs #[B false,.slice none 0 0] 28)),pB170 b11 x7.1 s8 x7.2.2,pB170 b10 x5.1 s6 x5.2.2,pB170 b9 x3.1 s4 x3.2.2,D s8 x7.2.1,D s6 x5.2.1,D s4 x3.2.1,pt b2 (Cs #[B false,.slice none 0 0,I 0] 170)] | 5=>St w0 w noX [] [D g.2.2.2.2.2 x20.2,D g.2.2.2.2.1 x18.2,D g.2.2.2.1 x16.2,D g.2.2.1 x14.2,D g.2.1 x12.2,condA (s 9) (pt g.1 (Cs #[B false,.slice none 0 0] 28)),pB170 b11 x7.1 s8 x7.2.2,pB170 b10 x5.1 s6 x5.2.2,pB170 b9 x3.1 s4 x3.2.2,D s8 x7.2.1,D s6 x5.2.1,D s4 x3.2.1,pt b2 (Cs #[B false,.slice none 0 0,I 0] 170)] | _=>St w0 w noX [] [D g.2.2.2.2.2 x20.2,D g.2.2.2.2.1 x18.2,D g.2.2.2.1 x16.2,D g.2.2.1 x14.2,D g.2.1 x12.2,pt g.1 (Cs #[B x20.1,g.2.2.2.2.2] 28),pB170 b11 x7.1 s8 x7.2.2,pB170 b10 x5.1 s6 x5.2.2,pB170 b9 x3.1 s4 x3.2.2,D s8 x7.2.1,D s6 x5.2.1,D s4 x3.2.1,pt b2 (Cs #[B false,.slice none 0 0,I 0] 170)]) P_mixed (by kernel_rfl) (H.q C) J X ?_ ?_ ?_ ?_
 ·clear H J X; refine ⟨λk s g w _ _ _ X a H=>Q.val (v:=Pv b9 0) C C C X H (Z.field zaz C C),?_,λk s g w _ _ _ X a H=>Q.val (v:=Pv b10 0) C C C X H (Z.field zaz C C),?_,trivial⟩
  ·intro k s g w h1_ h2_ hsp X a H; obtain ⟨b22,s13,s15,s17,s19,s21⟩:=g
   rcases k with _ | _ | k
   ·exact Q.val (v:=.agg #[B x3.1,s4]) C C C X H (lN (cs':=#[B x3.1,s4]) A_28 C (X.p 3 C) C C)
   ·exact Q.val (v:=.agg #[B x3.1,s4]) C C C X H (lN (cs':=#[B x3.1,s4]) A_28 C (X.p 4 C) C C)
   ·simp at h2_
  ·intro k s g w h1_ h2_ hsp X a H; obtain ⟨b22,s13,s15,s17,s19,s21⟩:=g
   rcases k with _ | _ | _ | _ | k
   ·exact Q.val (v:=.agg #[B x5.1,s6]) C C C X H (lN (cs':=#[B x5.1,s6]) A_28 C (X.p 2 C) C C)
   ·exact Q.val (v:=.agg #[B x5.1,s6]) C C C X H (lN (cs':=#[B x5.1,s6]) A_28 C (X.p 3 C) C C)
   ·exact Q.val (v:=.agg #[B x5.1,s6]) C C C X H (lN (cs':=#[B x5.1,s6]) A_28 C (X.p 4 C) C C)
   ·exact Q.val (v:=.agg #[B x5.1,s6]) C C C X H (lN (cs':=#[B x5.1,s6]) A_28 C (X.p 5 C) C C)
   ·simp at h2_
 ·clear H J X; refine ⟨?_,?_,?_,?_,?_,?_,trivial⟩
  ·intro s g w hsp X a H; obtain ⟨b22,s13,s15,s17,s19,s21⟩:=g; refine oq H X C zbn (zaF F 48 _ x12 hx12) ?_; rintro s13 w X a H; exact nE 13 H (b22,s13,s15,s17,s19,s21) C C (jl 11 (by kernel_rfl) λ_=>C) X
  ·intro s g w hsp X a H; obtain ⟨b22,s13,s15,s17,s19,s21⟩:=g; refine oq H X C zb2 (zaR F x12.1 s13 x12.2 x3.1 s4 x3.2.1 _ (X.s 0 C) (X.s 7 C) x14 hx14) ?_; rintro s15 w X a H; exact nE 16 H (b22,s13,s15,s17,s19,s21) C C (jl 11 (by kernel_rfl) λ_=>C) X
  ·intro s g w hsp X a H; obtain ⟨b22,s13,s15,s17,s19,s21⟩:=g; refine oq H X C zbn (zaF F 32 _ x16 hx16) ?_; rintro s17 w X a H; exact nE 17 H (b22,s13,s15,s17,s19,s21) C C (jl 11 (by kernel_rfl) λ_=>C) X
  ·intro s g w hsp X a H; obtain ⟨b22,s13,s15,s17,s19,s21⟩:=g; refine oq H X C zb2 (zaR F x16.1 s17 x16.2 x5.1 s6 x5.2.1 _ (X.s 0 C) (X.s 8 C) x18 hx18) ?_; rintro s19 w X a H; exact nE 20 H (b22,s13,s15,s17,s19,s21) C C (jl 11 (by kernel_rfl) λ_=>C) X
  ·intro s g w hsp X a H; obtain ⟨b22,s13,s15,s17,s19,s21⟩:=g; refine oq H X C zeQ (zct F x14.1 s15 x14.2 x18.1 s19 x18.2 _ (X.s 2 C) (X.s 0 C) x20 hx20) ?_; rintro s21 w X a H; exact nE 21 H (b22,s13,s15,s17,s19,s21) C C (jl 11 (by kernel_rfl) λ_=>C) X
  ·intro s g w hsp X a H; obtain ⟨b22,s13,s15,s17,s19,s21⟩:=g; have h9_:s 9=true:=hsp 9 (by simp); have X:St w0 w noX [] [D s21 x20.2,D s19 x18.2,D s17 x16.2,D s15 x14.2,D s13 x12.2,condA (s 9) (pt b22 (Cs #[B false,.slice none 0 0] 28)),pB170 b11 x7.1 s8 x7.2.2,pB170 b10 x5.1 s6 x5.2.2,pB170 b9 x3.1 s4 x3.2.2,D s8 x7.2.1,D s6 x5.2.1,D s4 x3.2.1,pt b2 (Cs #[B false,.slice none 0 0,I 0] 170)]:=X; clear X; rw [h9_] at X; replace X:St w0 w noX [] [D s21 x20.2,D s19 x18.2,D s17 x16.2,D s15 x14.2,D s13 x12.2,pt b22 (Cs #[B false,.slice none 0 0] 28),pB170 b11 x7.1 s8 x7.2.2,pB170 b10 x5.1 s6 x5.2.2,pB170 b9 x3.1 s4 x3.2.2,D s8 x7.2.1,D s6 x5.2.1,D s4 x3.2.1,pt b2 (Cs #[B false,.slice none 0 0,I 0] 170)]:=X; refine ost 5 #[B x20.1,s21] H X C C C zaa C (occ C (occ (rdo (X.s 0 C)) C)) C (bl C) C ?_; intro w X; exact O.nil ⟨C,(b22,s13,s15,s17,s19,s21),H.to trivial,(λd hd=>by cases (show none=some d from hd)),(λ_ _ _=>C),X⟩
 ·clear H J X; refine ⟨?_,trivial⟩
  ·intro k s g w h1_ h2_ hs0 X a H; obtain ⟨b22,s13,s15,s17,s19,s21⟩:=g
   rcases k with _ | _ | _ | _ | _ | _ | k
   ·refine oaC (j:=0) (cs:=#[B false,.slice none 0 0]) H X C hs0 C C zab C ?_; clear H X a; intro b22 w a X H; exact nE 6 H (b22,s13,s15,s17,s19,s21) C C (jl 11 (by kernel_rfl) λ_=>C) X
   ·refine oaC (j:=1) (cs:=#[B false,.slice none 0 0]) H X C hs0 C C zab C ?_; clear H X a; intro b22 w a X H; exact nE 6 H (b22,s13,s15,s17,s19,s21) C C (jl 11 (by kernel_rfl) λ_=>C) X
   ·refine oaC (j:=2) (cs:=#[B false,.slice none 0 0]) H X C hs0 C C zab C ?_; clear H X a; intro b22 w a X H; exact nE 6 H (b22,s13,s15,s17,s19,s21) C C (jl 11 (by kernel_rfl) λ_=>C) X
   ·refine oaC (j:=3) (cs:=#[B false,.slice none 0 0]) H X C hs0 C C zab C ?_; clear H X a; intro b22 w a X H; exact nE 6 H (b22,s13,s15,s17,s19,s21) C C (jl 11 (by kernel_rfl) λ_=>C) X
   ·refine oaC (j:=4) (cs:=#[B false,.slice none 0 0]) H X C hs0 C C zab C ?_; clear H X a; intro b22 w a X H; exact nE 6 H (b22,s13,s15,s17,s19,s21) C C (jl 11 (by kernel_rfl) λ_=>C) X
   ·refine oaC (j:=5) (cs:=#[B false,.slice none 0 0]) H X C hs0 C C zab C ?_; clear H X a; intro b22 w a X H; exact nE 6 H (b22,s13,s15,s17,s19,s21) C C (jl 11 (by kernel_rfl) λ_=>C) X
   ·simp at h2_
 clear H J X; intro s g a w hs H X; obtain ⟨b22,s13,s15,s17,s19,s21⟩:=g; have h9_:s 9=true:=hs 9 (by simp); refine ksq ?_; replace X:=X.sl [1,0,0,0,0,1,1,1,1,1,1,1,1]; refine W.seq ?_; have J:Fr a 40 [] []:=H.to trivial; obtain ⟨x23,hx23,M⟩:=hm_b M; obtain ⟨x25,hx25,M⟩:=hm_b M; refine hb M λx27 hx27 M=>W.drawK (γ:=Value × Value × Value) (L0:=[(2,Pv b2 0),(3,Pv b9 0),(4,Pv b10 0),(5,Pv b11 0),(6,Pv b22 0)]) (L1:=[]) (undef,undef,undef) [1,4,5,18] [] [0,2,3,6,7,8,9,10,11,12,13,14,15,16,17] (λi=>match i with | 3=>[2] | 4=>[1,3] | 5=>[0,4] | 7=>[6] | 8=>[7] | 10=>[9] | 11=>[10] | 12=>[8,11] | 14=>[13] | 15=>[14] | 16=>[12,15] | 17=>[5,16] | 18=>[0,1,2,3,4,5,6,7,8,9,10,11,12,13,14,15,16,17] | _=>[]) (λ_=>[]) (λi=>match i with | 1=>[4,5,17,18] | 4=>[5,17,18] | 5=>[17,18] | _=>[]) (λ_=>[]) (λi=>match i with | 4=>1 | 5=>2 | 17=>3 | 18=>3 | _=>0) (λi=>match i with | 0=>2 | 1=>1 | 2=>1 | 3=>1 | 4=>2 | 5=>3 | 6=>3 | 7=>3 | 8=>3 | 9=>3 | 10=>3 | 11=>3 | 12=>3 | 13=>3 | 14=>3 | 15=>3 | 16=>3 | 17=>3 | 18=>4 | _=>0) (λ(g:Value × Value × Value) j=>match j with | 0=>.agg #[B x20.1,s21] | 1=>.agg #[B x23.1,g.1] | 2=>Pv b11 0 | 3=>.agg #[B x7.1,s8] | 4=>.agg #[B x25.1,g.2.1] | 5=>.agg #[B x27.1,g.2.2] | 6=>Pv b9 2 | 7=>I x3.2.2 | 8=>I (i64.wrap (48*x3.2.2)) | 9=>Pv b10 2 | 10=>I x5.2.2 | 11=>I (i64.wrap (32*x5.2.2)) | 12=>I (i64.wrap ((i64.wrap (48*x3.2.2))+(i64.wrap (32*x5.2.2)))) | 13=>Pv b11 2 | 14=>I x7.2.2 | 15=>I (i64.wrap (20*x7.2.2)) | 16=>I (i64.wrap ((i64.wrap ((i64.wrap (48*x3.2.2))+(i64.wrap (32*x5.2.2))))+(i64.wrap (20*x7.2.2)))) | 17=>.agg #[B x27.1,g.2.2,I (i64.wrap ((i64.wrap ((i64.wrap (48*x3.2.2))+(i64.wrap (32*x5.2.2))))+(i64.wrap (20*x7.2.2))))] | _=>undef) (λk s (g:Value × Value × Value) w=>match k with | 0=>St w0 w noX [] [D s21 x20.2,pW28 b22 x20.1 s21,pB170 b11 x7.1 s8 x7.2.2,pB170 b10 x5.1 s6 x5.2.2,pB170 b9 x3.1 s4 x3.2.2,D s8 x7.2.1,D s6 x5.2.1,D s4 x3.2.1,pt b2 (Cs #[B false,.slice none 0 0,I 0] 170)] | 1=>St w0 w noX [] [D g.1 x23.2,D s21 x20.2,pW28 b22 x20.1 s21,pB170 b11 x7.1 s8 x7.2.2,pB170 b10 x5.1 s6 x5.2.2,pB170 b9 x3.1 s4 x3.2.2,D s8 x7.2.1,D s6 x5.2.1,D s4 x3.2.1,pt b2 (Cs #[B false,.slice none 0 0,I 0] 170)] | 2=>St w0 w noX [] [D g.2.1 x25.2,D g.1 x23.2,D s21 x20.2,pW28 b22 x20.1 s21,pB170 b11 x7.1 s8 x7.2.2,pB170 b10 x5.1 s6 x5.2.2,pB170 b9 x3.1 s4 x3.2.2,D s8 x7.2.1,D s6 x5.2.1,D s4 x3.2.1,pt b2 (Cs #[B false,.slice none 0 0,I 0] 170)] | 3=>St w0 w noX [] [D g.2.2 x27.2,D g.2.1 x25.2,D g.1 x23.2,D s21 x20.2,pW28 b22 x20.1 s21,pB170 b11 x7.1 s8 x7.2.2,pB170 b10 x5.1 s6 x5.2.2,pB170 b9 x3.1 s4 x3.2.2,D s8 x7.2.1,D s6 x5.2.1,D s4 x3.2.1,pt b2 (Cs #[B false,.slice none 0 0,I 0] 170)] | _=>St w0 w noX [] [D g.2.2 x27.2,D g.2.1 x25.2,D g.1 x23.2,D s21 x20.2,pW28 b22 x20.1 s21,pB170 b11 x7.1 s8 x7.2.2,pB170 b10 x5.1 s6 x5.2.2,pB170 b9 x3.1 s4 x3.2.2,D s8 x7.2.1,D s6 x5.2.1,D s4 x3.2.1,pt b2 (Cs #[B x27.1,g.2.2,I (i64.wrap ((i64.wrap ((i64.wrap (48*x3.2.2))+(i64.wrap (32*x5.2.2))))+(i64.wrap (20*x7.2.2))))] 170)]) P_mixed (by kernel_rfl) (H.q C) J X.drew ?_ ?_ ?_ ?_
 ·clear H J X; refine ⟨?_,λk s g w _ _ _ X a H=>Q.val (v:=Pv b11 0) C C C X H (Z.field zaz C C),?_,λk s g w _ _ _ X a H=>Q.val (v:=Pv b9 2) C C C X H (Z.field zaQ C C),?_,λk s g w _ _ _ X a H=>Q.val (v:=I (i64.wrap (48*x3.2.2))) C C C X H (Z.mul C C),λk s g w _ _ _ X a H=>Q.val (v:=Pv b10 2) C C C X H (Z.field zaQ C C),?_,λk s g w _ _ _ X a H=>Q.val (v:=I (i64.wrap (32*x5.2.2))) C C C X H (Z.mul C C),λk s g w _ _ _ X a H=>Q.val (v:=I (i64.wrap ((i64.wrap (48*x3.2.2))+(i64.wrap (32*x5.2.2))))) C C C X H (Z.add C C),λk s g w _ _ _ X a H=>Q.val (v:=Pv b11 2) C C C X H (Z.field zaQ C C),?_,λk s g w _ _ _ X a H=>Q.val (v:=I (i64.wrap (20*x7.2.2))) C C C X H (Z.mul C C),λk s g w _ _ _ X a H=>Q.val (v:=I (i64.wrap ((i64.wrap ((i64.wrap (48*x3.2.2))+(i64.wrap (32*x5.2.2))))+(i64.wrap (20*x7.2.2))))) C C C X H (Z.add C C),λk s g w _ _ _ X a H=>Q.val (v:=.agg #[B x27.1,g.2.2,I (i64.wrap ((i64.wrap ((i64.wrap (48*x3.2.2))+(i64.wrap (32*x5.2.2))))+(i64.wrap (20*x7.2.2))))]) C C C X H (Z.buildS (cs':=#[B x27.1,g.2.2,I (i64.wrap ((i64.wrap ((i64.wrap (48*x3.2.2))+(i64.wrap (32*x5.2.2))))+(i64.wrap (20*x7.2.2))))]) zcb zao C (by kernel_rfl)),trivial⟩
  ·intro k s g w h1_ h2_ hsp X a H; obtain ⟨s24,s26,s28⟩:=g
   rcases k with _ | _ | _ | k
   ·exact Q.val (v:=.agg #[B x20.1,s21]) C C C X H (lN (cs':=#[B x20.1,s21]) A_28 C (X.p 1 C) C C)
   ·exact Q.val (v:=.agg #[B x20.1,s21]) C C C X H (lN (cs':=#[B x20.1,s21]) A_28 C (X.p 2 C) C C)
   ·exact Q.val (v:=.agg #[B x20.1,s21]) C C C X H (lN (cs':=#[B x20.1,s21]) A_28 C (X.p 3 C) C C)
   ·simp at h2_
  ·intro k s g w h1_ h2_ hsp X a H; obtain ⟨s24,s26,s28⟩:=g
   rcases k with _ | _ | k
   ·exact Q.val (v:=.agg #[B x7.1,s8]) C C C X H (lN (cs':=#[B x7.1,s8]) A_28 C (X.p 2 C) C C)
   ·exact Q.val (v:=.agg #[B x7.1,s8]) C C C X H (lN (cs':=#[B x7.1,s8]) A_28 C (X.p 3 C) C C)
   ·simp at h2_
  ·intro k s g w h1_ h2_ hsp X a H; obtain ⟨s24,s26,s28⟩:=g
   rcases k with _ | _ | _ | _ | k
   ·exact Q.val (v:=I x3.2.2) C C C X H (Z.load1 zaf C (X.p 4 C) C)
   ·exact Q.val (v:=I x3.2.2) C C C X H (Z.load1 zaf C (X.p 5 C) C)
   ·exact Q.val (v:=I x3.2.2) C C C X H (Z.load1 zaf C (X.p 6 C) C)
   ·exact Q.val (v:=I x3.2.2) C C C X H (Z.load1 zaf C (X.p 7 C) C)
   ·simp at h2_
  ·intro k s g w h1_ h2_ hsp X a H; obtain ⟨s24,s26,s28⟩:=g
   rcases k with _ | _ | _ | _ | k
   ·exact Q.val (v:=I x5.2.2) C C C X H (Z.load1 zaf C (X.p 3 C) C)
   ·exact Q.val (v:=I x5.2.2) C C C X H (Z.load1 zaf C (X.p 4 C) C)
   ·exact Q.val (v:=I x5.2.2) C C C X H (Z.load1 zaf C (X.p 5 C) C)
   ·exact Q.val (v:=I x5.2.2) C C C X H (Z.load1 zaf C (X.p 6 C) C)
   ·simp at h2_
  ·intro k s g w h1_ h2_ hsp X a H; obtain ⟨s24,s26,s28⟩:=g
   rcases k with _ | _ | _ | _ | k
   ·exact Q.val (v:=I x7.2.2) C C C X H (Z.load1 zaf C (X.p 2 C) C)
   ·exact Q.val (v:=I x7.2.2) C C C X H (Z.load1 zaf C (X.p 3 C) C)
   ·exact Q.val (v:=I x7.2.2) C C C X H (Z.load1 zaf C (X.p 4 C) C)
   ·exact Q.val (v:=I x7.2.2) C C C X H (Z.load1 zaf C (X.p 5 C) C)
   ·simp at h2_
 ·clear H J X; refine ⟨?_,?_,?_,?_,trivial⟩
  ·intro s g w hsp X a H; obtain ⟨s24,s26,s28⟩:=g; refine oq H X C zbn (zaF F 20 _ x23 hx23) ?_; rintro s24 w X a H; exact nE 23 H (s24,s26,s28) C C (jl 19 (by kernel_rfl) λ_=>C) X
  ·intro s g w hsp X a H; obtain ⟨s24,s26,s28⟩:=g; refine oq H X C zb2 (zaR F x23.1 s24 x23.2 x7.1 s8 x7.2.1 _ (X.s 0 C) (X.s 6 C) x25 hx25) ?_; rintro s26 w X a H; exact nE 26 H (s24,s26,s28) C C (jl 19 (by kernel_rfl) λ_=>C) X
  ·intro s g w hsp X a H; obtain ⟨s24,s26,s28⟩:=g; refine oq H X C zdC (zbB F x20.1 s21 x20.2 x25.1 s26 x25.2 _ (X.s 2 C) (X.s 0 C) x27 hx27) ?_; rintro s28 w X a H; exact nE 27 H (s24,s26,s28) C C (jl 19 (by kernel_rfl) λ_=>C) X
  ·intro s g w hsp X a H; obtain ⟨s24,s26,s28⟩:=g; refine ost 11 #[B x27.1,s28,I (i64.wrap ((i64.wrap ((i64.wrap (48*x3.2.2))+(i64.wrap (32*x5.2.2))))+(i64.wrap (20*x7.2.2))))] H X C C C zan C (occ C (occ (rdo (X.s 0 C)) (occ C C))) C (bl C) C ?_; intro w X; exact O.nil ⟨C,(s24,s26,s28),H.to trivial,(λd hd=>by cases (show none=some d from hd)),(λ_ _ _=>C),X⟩
 ·clear H J X; exact trivial
 clear H J X; intro s g a w hs H X; obtain ⟨s24,s26,s28⟩:=g; refine ksq ?_; replace X:=X.sl [1,0,0,0,0,0,0,0,0,0,0,1]; obtain ⟨x29,hx29,M⟩:=hm_b M; rw [oj hx29] at X; refine W.ret ?_; obtain rfl:=oj M; refine post1 H C (rkn (cs':=#[B x27.1,s28,I x29]) C zdA zan (X.p 1 C) (bl C) C) ?_; replace X:=X.sl [1]; exact ⟨s28,C,X.noB⟩
theorem f_trig_pi_0:zfg 10000 110=some (false,[1653309672,3258238150,3668058472,51471],2504):=by kernel_rfl
def tb_trig_pi:List ((Int) × (Bool × (List Int) × Int)):=[(110,(false,[1653309672,3258238150,3668058472,51471],2504))]
theorem tb_trig_pi_ok:AllT (λ(x:Int) r=>zfg 10000 x=some r) tb_trig_pi:=⟨f_trig_pi_0,trivial⟩
def zgq (F:Nat) (x1:Int):Option (Bool × (List Int) × Int):=match lkT eqI1 x1 tb_trig_pi with
  | some r=>some r
  | none=>zfg F x1
theorem zhd (F:Nat) (x1:Int) (w0:World) (r:Bool × (List Int) × Int) (M:zgq F x1=some r) :
    Ret P 128 #[I x1] w0 (G:=Value) (λg1=>.agg #[B r.1,g1,I r.2.2]) (λg1 w=>St w0 w noX [] [D g1 r.2.1]):=by
 unfold zgq at M; split at M
 ·rename_i q hl; obtain rfl:=Option.some.inj M; exact zg4 10000 x1 w0 _ (lkT_ok eqI1_ok tb_trig_pi_ok hl)
 ·exact zg4 F x1 w0 _ M
def zbR (F:Nat) (x15:Int) (x19:Bool) (x21:List Int) (x22:Int):Option (Bool × (List Int) × Int) :=
  (some (i64.wrap ((i64.wrap ((i64.wrap (4*x22))+4))+x15))).bind λx24=>some (x19,x21,x24)
def zbS (F:Nat) (rec44:Bool→(List Int)→Int→Bool→(List Int)→Int→Int→Option (Bool × (List Int) × Int)) (x45:Bool) (x47:List Int) (x38 x42 x43:Int) (x51:Bool) (x53:List Int):Option (Bool × (List Int) × Int) :=
  rec44 x45 x47 (i64.wrap (x38+2)) x51 x53 (i64.wrap (x42+1)) (i64.wrap (x43+1))
def zcU (F:Nat) (x35:Bool) (x37:List Int) (x15:Int) (x39:Bool) (x41:List Int) (x42 x43:Int) (rec44:Bool→(List Int)→Int→Bool→(List Int)→Int→Int→Option (Bool × (List Int) × Int)) (x38:Int) (x45:Bool) (x47:List Int):Option (Bool × (List Int) × Int) :=
  (zba F x35 x37).bind λx49=>if x49=(0:Int) then (zbR F x15 x39 x41 x42) else (if (Int.tmod x43 2)=(0:Int) then ((zcB F x39 x41 x35 x37).bind λx55=>zbS F rec44 x45 x47 x38 x42 x43 x55.1 x55.2) else ((zbO F x39 x41 x35 x37).bind λx57=>zbS F rec44 x45 x47 x38 x42 x43 x57.1 x57.2))
def zcV (F:Nat) (x6:Bool) (x8:List Int) (x10 x15:Int) (rec44:Bool→(List Int)→Int→Bool→(List Int)→Int→Int→Option (Bool × (List Int) × Int)) (x35:Bool) (x37:List Int) (x38:Int) (x39:Bool) (x41:List Int) (x42 x43:Int):Option (Bool × (List Int) × Int) :=
  (za8 F x35 x37 x6 x8).bind λx61=>(zbi F x61.1 x61.2 (i64.wrap (0-x10))).bind λx63=>(zaN F (i64.wrap ((i64.wrap (x38+1))*(i64.wrap (x38+2))))).bind λx65=>(zb8 F x63.1 x63.2 x65.1 x65.2).bind λx67=>zcU F x35 x37 x15 x39 x41 x42 x43 rec44 x38 x67.1 x67.2
def zbj (F:Nat) (x6:Bool) (x8:List Int) (x10 x15:Int):Nat→Bool→(List Int)→Int→Bool→(List Int)→Int→Int→Option (Bool × (List Int) × Int)
  | 0,_,_,_,_,_,_,_=>none
  | n+1,x35,x37,x38,x39,x41,x42,x43=>zcV F x6 x8 x10 x15 (zbj F x6 x8 x10 x15 n) x35 x37 x38 x39 x41 x42 x43
def zbT (F:Nat) (x6:Bool) (x8:List Int) (x10 x15:Int) (x26:Bool) (x28:List Int) (x4:Int) (x32:Bool) (x34:List Int):Option (Bool × (List Int) × Int) :=
  zbj F x6 x8 x10 x15 F x26 x28 (i64.wrap (x4+2)) x32 x34 1 1
def zcW (F:Nat) (x1:Bool) (x3:List Int) (x15:Int) (x6:Bool) (x8:List Int) (x10 x4:Int) (x26:Bool) (x28:List Int):Option (Bool × (List Int) × Int) :=
  (zba F x1 x3).bind λx30=>if x30=(0:Int) then (zbR F x15 false ([]:List Int) 0) else (if (Int.tmod 0 2)=(0:Int) then ((zcB F false ([]:List Int) x1 x3).bind λx70=>zbT F x6 x8 x10 x15 x26 x28 x4 x70.1 x70.2) else ((zbO F false ([]:List Int) x1 x3).bind λx72=>zbT F x6 x8 x10 x15 x26 x28 x4 x72.1 x72.2))
def zcl (F:Nat) (x1:Bool) (x3:List Int) (x4:Int) (x6:Bool) (x8:List Int) (x10:Int) (x12:Bool) (x14:List Int) (x15:Int):Option (Bool × (List Int) × Int) :=
  (za8 F x1 x3 x6 x8).bind λx76=>(zbi F x76.1 x76.2 (i64.wrap (0-x10))).bind λx78=>(zaN F (i64.wrap ((i64.wrap (x4+1))*(i64.wrap (x4+2))))).bind λx80=>(zb8 F x78.1 x78.2 x80.1 x80.2).bind λx82=>zcW F x1 x3 x15 x6 x8 x10 x4 x82.1 x82.2
theorem zem (F:Nat) (x1:Bool) (s2:Value) (x3:List Int) (x4:Int) (b5:Nat) (x6:Bool) (s7:Value) (x8:List Int) (b9:Nat) (x10:Int) (b11:Nat) (x12:Bool) (s13:Value) (x14:List Int) (x15:Int) (w0:World) (h_s2:rdEOK (hp w0) 1 E61 s2 x3) (h_s7:rdEOK (hp w0) 1 E61 s7 x8) (h_b5:w0.heap[b5]? = some (.cells #[B x6,s7] 28 (0,0))) (h_b9:w0.heap[b9]? = some (.cells #[I x10] 3 (0,0))) (h_b11:w0.heap[b11]? = some (.cells #[B x12,s13,I x15] 170 (0,0))) (r:Bool × (List Int) × Int) (M:zcl F x1 x3 x4 x6 x8 x10 x12 x14 x15=some r) :
    Ret P 165 #[.agg #[B x1,s2],I x4,Pv b5 0,Pv b9 0,Pv b11 0] w0 (G:=Value) (λg1=>.agg #[B r.1,g1,I r.2.2]) (λg1 w=>St w0 w noX [] [D g1 r.2.1]):=by
 unfold zcl at M; refine roW Tryz.func165 C C C (λa H=>?_); have X:St w0 w0 noX [E s2 x3,E s7 x8,pW28 b5 x6 s7,pI3 b9 x10,pB170 b11 x12 s13 x15] []:=Sbw (lnc (lendRd h_s2) (lnc (lendRd h_s7) (lnc (lendPt h_b5) (lnc (lendPt h_b9) (lnc (lendPt h_b11) lnn))))); refine sg (l:=[0,1,2]) C<|O.box (cs:=#[B x1,s2]) H X C C C C<|?_; intro b16 w a hb16 X H; refine O.box (cs:=#[I x4]) H X C C C C ?_; intro b17 w a hb17 X H; refine O.alloc (cs:=#[B false,.slice none 0 0,I 0]) H X C C zao C ?_; intro b18 w a hb18 X H; refine nk<|sg (l:=[0,1,2,3,4,5,6,7]) C<|ov (v:=.func (.func 166) #[] #[Pv b16 0,Pv b5 0,Pv b9 0,Pv b17 0]) H C (Z.makeFunc C C C C) λa H=>?_; refine O.callI (R:=λv w=>∃ (x19:Bool) (s20:Value) (x21:List Int) (x22:Int),v=.tuple #[.agg #[B x19,s20],I x22]∧St w0 w noX [E s2 x3,E s7 x8,pW28 b5 x6 s7,pI3 b9 x10,pB170 b11 x12 s13 x15] [pt b18 (Cs #[B false,.slice none 0 0,I 0] 170),D s20 x21]∧zbR F x15 x19 x21 x22=some r) (lv:=[.func (.func 166) #[] #[Pv b16 0,Pv b5 0,Pv b9 0,Pv b17 0]]) H C C C (RunE.call (av:=#[.func (.func 166) #[] #[Pv b16 0,Pv b5 0,Pv b9 0,Pv b17 0]]) zik C C C) Tryz.func162 C C C ?_ ?_
 ·clear H a; intro a H; refine sg (l:=[0,1]) C<|O.alloc (cs:=#[B false,.slice none 0 0]) H X C C zab C<|?_; intro b25 w a hb25 X H; refine mv H C λa H=>nk<|sg (l:=[0]) C<|mv H C λa H=>nk<|W.block<|?_; refine W.loopH (LH.step ?_); refine W.seq<|W.block<|sg (l:=[0,1,2,3,4]) C<|mv2 H C C λa H=>?_; refine O.callI (R:=λv w=>∃ (x26:Bool) (s27:Value) (x28:List Int),v=.agg #[B x1,s2]∧St w0 w noX [E s2 x3,E s7 x8,pW28 b5 x6 s7,pI3 b9 x10,pB170 b11 x12 s13 x15] [D s27 x28,pW28 b16 x26 s27,pI2 b17 ((i64.wrap (x4+2))),pt b25 (Cs #[B false,.slice none 0 0] 28),pt b18 (Cs #[B false,.slice none 0 0,I 0] 170)]∧zcW F x1 x3 x15 x6 x8 x10 x4 x26 x28=some r) (lv:=[I 0,Pv b16 0,Pv b5 0,Pv b9 0,Pv b17 0]) H C C C (RunE.call (av:=#[I 0,Pv b16 0,Pv b5 0,Pv b9 0,Pv b17 0]) zin C C C) Tryz.func166 C C C ?_ ?_
  ·clear H a; intro a H; refine sg (l:=[0]) C<|O.alloc (cs:=#[B false,.slice none 0 0]) H X C C zab C<|?_; intro b74 w a hb74 X H; refine nk<|sg (l:=[0,1,2]) C<|ov H C (lN (cs':=#[B x1,s2]) A_28 C (X.p 4 C) C C) λa H=>O.alloc (cs:=#[B false,.slice none 0 0]) H X C C zab C<|?_; intro b75 w a hb75 X H; refine ost 0 #[B x1,s2] H X C C C zaa C (occ C (occ (rdo (X.b 0 C)) C)) C (bl C) C ?_; intro w X; refine nk<|W.seq<|?_; have J:Fr a 25 [] []:=H.to trivial; obtain ⟨x76,hx76,M⟩:=hm_b M; obtain ⟨x78,hx78,M⟩:=hm_b M; obtain ⟨x80,hx80,M⟩:=hm_b M; refine hb M λx82 hx82 M=>W.drawK (γ:=Value × Value × Value × Value) (L0:=[(1,Pv b16 0),(2,Pv b5 0),(3,Pv b9 0),(4,Pv b17 0),(6,Pv b74 0),(7,Pv b75 0)]) (L1:=[]) (undef,undef,undef,undef) [2,5,11,12,13] [] [0,1,3,4,6,7,8,9,10] (λi=>match i with | 2=>[0,1] | 4=>[3] | 5=>[2,4] | 7=>[6] | 9=>[8] | 10=>[7,9] | 11=>[5,10] | 12=>[5,11] | 13=>[0,1,2,3,4,5,6,7,8,9,10,11,12] | _=>[]) (λ_=>[]) (λi=>match i with | 2=>[5,11,12,13] | 5=>[11,12,13] | 11=>[12,13] | 12=>[13] | _=>[]) (λ_=>[]) (λi=>match i with | 5=>1 | 11=>2 | 12=>3 | 13=>4 | _=>0) (λi=>match i with | 2=>1 | 3=>1 | 4=>1 | 5=>2 | 6=>2 | 7=>2 | 8=>2 | 9=>2 | 10=>2 | 11=>3 | 12=>4 | 13=>5 | _=>0) (λ(g:Value × Value × Value × Value) j=>match j with | 0=>.agg #[B x1,s2] | 1=>.agg #[B x6,s7] | 2=>.agg #[B x76.1,g.1] | 3=>I x10 | 4=>I (i64.wrap (0-x10)) | 5=>.agg #[B x78.1,g.2.1] | 6=>I x4 | 7=>I (i64.wrap (x4+1)) | 8=>I x4 | 9=>I (i64.wrap (x4+2)) | 10=>I (i64.wrap ((i64.wrap (x4+1))*(i64.wrap (x4+2)))) | 11=>.agg #[B x80.1,g.2.2.1] | 12=>.agg #[B x82.1,g.2.2.2] | _=>undef) (λk s (g:Value × Value × Value × Value) w=>match k with | 0=>St w0 w noX [E s2 x3,E s7 x8,pW28 b5 x6 s7,pI3 b9 x10,pB170 b11 x12 s13 x15] [pW28 b75 x1 s2,pt b74 (Cs #[B false,.slice none 0 0] 28),pt b25 (Cs #[B false,.slice none 0 0] 28),pt b18 (Cs #[B false,.slice none 0 0,I 0] 170),pI2 b17 x4,pW28 b16 x1 s2] | 1=>St w0 w noX [E s2 x3,E s7 x8,pW28 b5 x6 s7,pI3 b9 x10,pB170 b11 x12 s13 x15] [D g.1 x76.2,pW28 b75 x1 s2,pt b74 (Cs #[B false,.slice none 0 0] 28),pt b25 (Cs #[B false,.slice none 0 0] 28),pt b18 (Cs #[B false,.slice none 0 0,I 0] 170),pI2 b17 x4,pW28 b16 x1 s2] | 2=>St w0 w noX [E s2 x3,E s7 x8,pW28 b5 x6 s7,pI3 b9 x10,pB170 b11 x12 s13 x15] [D g.2.1 x78.2,D g.1 x76.2,pW28 b75 x1 s2,pt b74 (Cs #[B false,.slice none 0 0] 28),pt b25 (Cs #[B false,.slice none 0 0] 28),pt b18 (Cs #[B false,.slice none 0 0,I 0] 170),pI2 b17 x4,pW28 b16 x1 s2] | 3=>St w0 w noX [E s2 x3,E s7 x8,pW28 b5 x6 s7,pI3 b9 x10,pB170 b11 x12 s13 x15] [D g.2.2.1 x80.2,D g.2.1 x78.2,D g.1 x76.2,pW28 b75 x1 s2,pt b74 (Cs #[B false,.slice none 0 0] 28),pt b25 (Cs #[B false,.slice none 0 0] 28),pt b18 (Cs #[B false,.slice none 0 0,I 0] 170),pI2 b17 x4,pW28 b16 x1 s2] | 4=>St w0 w noX [E s2 x3,E s7 x8,pW28 b5 x6 s7,pI3 b9 x10,pB170 b11 x12 s13 x15] [D g.2.2.2 x82.2,D g.2.2.1 x80.2,D g.2.1 x78.2,D g.1 x76.2,pW28 b75 x1 s2,pt b74 (Cs #[B false,.slice none 0 0] 28),pt b25 (Cs #[B false,.slice none 0 0] 28),pt b18 (Cs #[B false,.slice none 0 0,I 0] 170),pI2 b17 x4,pW28 b16 x1 s2] | _=>St w0 w noX [E s2 x3,E s7 x8,pW28 b5 x6 s7,pI3 b9 x10,pB170 b11 x12 s13 x15] [D g.2.2.2 x82.2,D g.2.2.1 x80.2,D g.2.1 x78.2,D g.1 x76.2,pW28 b75 x1 s2,pt b74 (Cs #[B false,.slice none 0 0] 28),pt b25 (Cs #[B false,.slice none 0 0] 28),pt b18 (Cs #[B false,.slice none 0 0,I 0] 170),pI2 b17 x4,pt b16 (Cs #[B x82.1,g.2.2.2] 28)]) P_mixed (by kernel_rfl) (H.q C) J X.drew ?_ ?_ ?_ ?_
   ·clear H J X; refine ⟨?_,?_,?_,λk s g w _ _ _ X a H=>Q.val (v:=I (i64.wrap (0-x10))) C C C X H (Z.neg C),?_,λk s g w _ _ _ X a H=>Q.val (v:=I (i64.wrap (x4+1))) C C C X H (Z.add C C),?_,λk s g w _ _ _ X a H=>Q.val (v:=I (i64.wrap (x4+2))) C C C X H (Z.add C C),λk s g w _ _ _ X a H=>Q.val (v:=I (i64.wrap ((i64.wrap (x4+1))*(i64.wrap (x4+2))))) C C C X H (Z.mul C C),trivial⟩
    ·intro k s g w h1_ h2_ hsp X a H; obtain ⟨s77,s79,s81,s83⟩:=g
     rcases k with _ | k
     ·exact Q.val (v:=.agg #[B x1,s2]) C C C X H (lN (cs':=#[B x1,s2]) A_28 C (X.p 5 C) C C)
     ·simp at h2_
    ·intro k s g w h1_ h2_ hsp X a H; obtain ⟨s77,s79,s81,s83⟩:=g
     rcases k with _ | k
     ·exact Q.val (v:=.agg #[B x6,s7]) C C C X H (Z.loadN (cs':=#[B x6,s7]) zag zaa C (X.bptAt (i:=2) C) (bl C) C)
     ·simp at h2_
    ·intro k s g w h1_ h2_ hsp X a H; obtain ⟨s77,s79,s81,s83⟩:=g
     rcases k with _ | _ | k
     ·exact Q.val (v:=I x10) C C C X H (Z.load1 zbl C (X.bptAt (i:=3) C) C)
     ·exact Q.val (v:=I x10) C C C X H (Z.load1 zbl C (X.bptAt (i:=3) C) C)
     ·simp at h2_
    ·intro k s g w h1_ h2_ hsp X a H; obtain ⟨s77,s79,s81,s83⟩:=g
     rcases k with _ | _ | _ | k
     ·exact Q.val (v:=I x4) C C C X H (Z.load1 zaf C (X.p 4 C) C)
     ·exact Q.val (v:=I x4) C C C X H (Z.load1 zaf C (X.p 5 C) C)
     ·exact Q.val (v:=I x4) C C C X H (Z.load1 zaf C (X.p 6 C) C)
     ·simp at h2_
    ·intro k s g w h1_ h2_ hsp X a H; obtain ⟨s77,s79,s81,s83⟩:=g
     rcases k with _ | _ | _ | k
     ·exact Q.val (v:=I x4) C C C X H (Z.load1 zaf C (X.p 4 C) C)
     ·exact Q.val (v:=I x4) C C C X H (Z.load1 zaf C (X.p 5 C) C)
     ·exact Q.val (v:=I x4) C C C X H (Z.load1 zaf C (X.p 6 C) C)
     ·simp at h2_
   ·clear H J X; refine ⟨?_,?_,?_,?_,?_,trivial⟩
    ·intro s g w hsp X a H; obtain ⟨s77,s79,s81,s83⟩:=g; refine oq H X C zb2 (zaR F x1 s2 x3 x6 s7 x8 _ (X.b 0 C) (X.b 1 C) x76 hx76) ?_; rintro s77 w X a H; exact nE 11 H (s77,s79,s81,s83) C C (jl 14 (by kernel_rfl) λ_=>C) X
    ·intro s g w hsp X a H; obtain ⟨s77,s79,s81,s83⟩:=g; refine oq H X C zdD (zbd F x76.1 s77 x76.2 (i64.wrap (0-x10)) _ (X.s 0 C) x78 hx78) ?_; rintro s79 w X a H; exact nE 14 H (s77,s79,s81,s83) C C (jl 14 (by kernel_rfl) λ_=>C) X
    ·intro s g w hsp X a H; obtain ⟨s77,s79,s81,s83⟩:=g; refine oq H X C zbn (zaF F (i64.wrap ((i64.wrap (x4+1))*(i64.wrap (x4+2)))) _ x80 hx80) ?_; rintro s81 w X a H; exact nE 20 H (s77,s79,s81,s83) C C (jl 14 (by kernel_rfl) λ_=>C) X
    ·intro s g w hsp X a H; obtain ⟨s77,s79,s81,s83⟩:=g; refine oq H X C zeh (zbZ F x78.1 s79 x78.2 x80.1 s81 x80.2 _ (X.s 1 C) (X.s 0 C) x82 hx82) ?_; rintro s83 w X a H; exact nE 21 H (s77,s79,s81,s83) C C (jl 14 (by kernel_rfl) λ_=>C) X
    ·intro s g w hsp X a H; obtain ⟨s77,s79,s81,s83⟩:=g; refine ost 9 #[B x82.1,s83] H X C C C zaa C (occ C (occ (rdo (X.s 0 C)) C)) C (bl C) C ?_; intro w X; exact O.nil ⟨C,(s77,s79,s81,s83),H.to trivial,(λd hd=>by cases (show none=some d from hd)),(λ_ _ _=>C),X⟩
   ·clear H J X; exact trivial
   clear H J X; intro s g a w hs H X; obtain ⟨s77,s79,s81,s83⟩:=g; refine ksq ?_; replace X:=X.sl [1,0,0,0,1,1,1,1,1,1]; refine sg (l:=[0,1,2]) C<|ov H C (Z.load1 zaf C (X.p 5 C) C) λa H=>ov H C (Z.add C C) λa H=>ost 5 #[I (i64.wrap (x4+2))] H X C C C zb4 C C C (bl C) C<|?_; intro w X; refine nk<|sg (l:=[0,1]) C<|ov H C (lN (cs':=#[B x1,s2]) A_28 C (X.p 1 C) C C) λa H=>ost 2 #[B x1,s2] H X C C C zaa C (occ C (occ (rdo (X.b 0 C)) C)) C (bl C) C<|?_; intro w X; refine nk ?_; replace X:=X.sl [1,0,1,1,1,1,1]; refine W.ret<|post1 H C (rkn (cs':=#[B x1,s2]) C zag zaa (X.p 1 C) (bl C) C)<|?_; replace X:=X.fr 3; replace X:=X.fr 3; replace X:=X.fr 4; replace X:=X.fr 5; replace X:=X.fr 4; replace X:=X.sl [1,1,1,1,1]; exact ⟨_,C,x82.1,s83,x82.2,C,X,M⟩
  ·clear H X M a; (try clear w); rintro v w ⟨x26,s27,x28,hv,X,M⟩ a H; rw [hv] at H; clear hv v; unfold zcW at M; refine O.alloc (cs:=#[B false,.slice none 0 0]) H X C C zab C ?_; intro b29 w a hb29 X H; refine ost 0 #[B x1,s2] H X C C C zaa C (occ C (occ (rdo (X.b 0 C)) C)) C (bl C) C ?_; intro w X; refine nk<|W.seq<|sg (l:=[0,1,2]) C<|ov H C (lN (cs':=#[B x1,s2]) A_28 C (X.p 0 C) C C) λa H=>?_; refine hb M λx30 hx30 M=>oq H X C zcM (za0 F x1 s2 x3 _ (X.b 0 C) x30 hx30) ?_; rintro _ w X a H; refine ov H C (Z.eql C C) λa H=>nk<|?_; refine W.ifdI H C (λhc31=>?_) (λhc31=>?_)
   ·replace M:=hm_p M hc31; refine sg (l:=[0,1,2,3]) C<|ov H C (lN (cs':=#[B false,.slice none 0 0]) A_28 C (X.p 4 C) C C) λa H=>mv H C λa H=>ost 4 #[B false,.slice none 0 0] H X C C C zaa C C C (bl C) C<|?_; intro w X; refine mv H C λa H=>nk<|W.ret<|ktr<|kbr<|ktr<|ktr<|kbr<|post2 H C (rkn (cs':=#[B false,.slice none 0 0]) C zag zaa (X.p 4 C) (bl C) C) (rkt C)<|?_; replace X:=X.nilE 61 1 E61; replace X:=X.fr 6; replace X:=X.sl [1,1]; exact ⟨_,C,false,(.slice none 0 0),([]:List Int),0,C,X,M⟩
   ·replace M:=hm_n M hc31; refine W.skip<|ksq<|?_; refine W.seqR (λa w=>∃ (x32:Bool) (s33:Value) (x34:List Int),Fr a 27 [] [(0,.func (.func 166) #[] #[Pv b16 0,Pv b5 0,Pv b9 0,Pv b17 0]),(2,Pv b25 0),(3,I 0),(4,I 0)]∧St w0 w noX [E s2 x3,E s7 x8,pW28 b5 x6 s7,pI3 b9 x10,pB170 b11 x12 s13 x15] [D s27 x28,pW28 b16 x26 s27,pI2 b17 ((i64.wrap (x4+2))),D s33 x34,pW28 b25 x32 s33,pt b18 (Cs #[B false,.slice none 0 0,I 0] 170)]∧zbT F x6 x8 x10 x15 x26 x28 x4 x32 x34=some r) ?_ ?_
    ·refine sg (l:=[0,1,2]) C<|mv H C λa H=>ov (v:=I (Int.tmod 0 2)) H C (Z.rem (q:=2) C C (by decide)) λa H=>ov H C (Z.eql C C) λa H=>nk<|?_; refine W.ifdI H C (λhc69=>?_) (λhc69=>?_)
     ·replace M:=hm_p M hc69; refine wrL (l:=[0,1,2,3]) C<|ov H C (lN (cs':=#[B false,.slice none 0 0]) A_28 C (X.p 4 C) C C) λa H=>ov H C (lN (cs':=#[B x1,s2]) A_28 C (X.p 0 C) C C) λa H=>?_; refine hb M λx70 hx70 M=>oq H X C zeQ (zct F false (.slice none 0 0) ([]:List Int) x1 s2 x3 _ rdEOK_nil (X.b 0 C) x70 hx70) ?_; rintro s71 w X a H; refine ost 5 #[B x70.1,s71] H X C C C zaa C (occ C (occ (rdo (X.s 0 C)) C)) C (bl C) C ?_; intro w X; refine O.nil ?_; replace X:=X.fr 6; replace X:=X.fr 6; replace X:=X.fr 2; replace X:=X.fr 6; replace X:=X.fr 6; replace X:=X.fr 6; replace X:=X.sl [1,1,1,1,1,1]; exact kth ⟨x70.1,s71,x70.2,H.q C,X,M⟩
     ·replace M:=hm_n M hc69; refine wrL (l:=[0,1,2,3]) C<|ov H C (lN (cs':=#[B false,.slice none 0 0]) A_28 C (X.p 4 C) C C) λa H=>ov H C (lN (cs':=#[B x1,s2]) A_28 C (X.p 0 C) C C) λa H=>?_; refine hb M λx72 hx72 M=>oq H X C zdC (zbB F false (.slice none 0 0) ([]:List Int) x1 s2 x3 _ rdEOK_nil (X.b 0 C) x72 hx72) ?_; rintro s73 w X a H; refine ost 5 #[B x72.1,s73] H X C C C zaa C (occ C (occ (rdo (X.s 0 C)) C)) C (bl C) C ?_; intro w X; refine O.nil ?_; replace X:=X.fr 6; replace X:=X.fr 6; replace X:=X.fr 2; replace X:=X.fr 6; replace X:=X.fr 6; replace X:=X.fr 6; replace X:=X.sl [1,1,1,1,1,1]; exact kth ⟨x72.1,s73,x72.2,H.q C,X,M⟩
    ·clear H X M a; (try clear w); rintro a w ⟨x32,s33,x34,H,X,M⟩; unfold zbT at M; refine wrL (l:=[0,1,2]) C<|mv H C λa H=>ov H C (Z.add (p:=0) (q:=1) C C) λa H=>mv H C λa H=>O.nil<|kbn<|ksq<|wrL (l:=[0,1,2]) C<|mv H C λa H=>ov H C (Z.add (p:=0) (q:=1) C C) λa H=>?_; refine mv H C λa H=>O.nil<|kth<|LH.loop (G:=Nat × Bool × Value × (List Int) × Int × Bool × Value × (List Int) × Int × Int) (λg a w=>match g with | (k44,x35,s36,x37,x38,x39,s40,x41,x42,x43)=>Fr a 27 [] [(0,.func (.func 166) #[] #[Pv b16 0,Pv b5 0,Pv b9 0,Pv b17 0]),(2,Pv b25 0),(3,I x42),(4,I x43)]∧St w0 w noX [E s2 x3,E s7 x8,pW28 b5 x6 s7,pI3 b9 x10,pB170 b11 x12 s13 x15] [D s36 x37,pW28 b16 x35 s36,pI2 b17 x38,D s40 x41,pW28 b25 x39 s40,pt b18 (Cs #[B false,.slice none 0 0,I 0] 170)]∧zbj F x6 x8 x10 x15 k44 x35 x37 x38 x39 x41 x42 x43=some r) (λg=>match g with | (k44,x35,s36,x37,x38,x39,s40,x41,x42,x43)=>k44) (F,x26,s27,x28,i64.wrap (x4+2),x32,s33,x34,1,1) ⟨H.q C,X,M⟩<|?_; clear H X M a; (try clear w); rintro ⟨k44,x35,s36,x37,x38,x39,s40,x41,x42,x43⟩ a w ⟨H,X,M⟩
     rcases k44 with _ | k44
     · nomatch M
     replace M:zcV F x6 x8 x10 x15 (zbj F x6 x8 x10 x15 k44) x35 x37 x38 x39 x41 x42 x43=some r:=M; obtain ⟨rec44,hrec44⟩:∃ f,f=zbj F x6 x8 x10 x15 k44:=⟨_,C⟩; rw [← hrec44] at M; unfold zcV at M; refine W.seq<|W.block<|sg (l:=[0,1,2,3,4]) C<|mv2 H C C λa H=>?_; refine O.callI (R:=λv w=>∃ (x45:Bool) (s46:Value) (x47:List Int),v=.agg #[B x35,s36]∧St w0 w noX [E s2 x3,E s7 x8,pW28 b5 x6 s7,pI3 b9 x10,pB170 b11 x12 s13 x15] [D s46 x47,pW28 b16 x45 s46,pI2 b17 ((i64.wrap (x38+2))),D s40 x41,pW28 b25 x39 s40,D s36 x37,pt b18 (Cs #[B false,.slice none 0 0,I 0] 170)]∧zcU F x35 x37 x15 x39 x41 x42 x43 rec44 x38 x45 x47=some r) (lv:=[I x43,Pv b16 0,Pv b5 0,Pv b9 0,Pv b17 0]) H C C C (RunE.call (av:=#[I x43,Pv b16 0,Pv b5 0,Pv b9 0,Pv b17 0]) zin C C C) Tryz.func166 C C C ?_ ?_
     ·clear H a; intro a H; refine sg (l:=[0]) C<|O.alloc (cs:=#[B false,.slice none 0 0]) H X C C zab C<|?_; intro b59 w a hb59 X H; refine nk<|sg (l:=[0,1,2]) C<|ov H C (lN (cs':=#[B x35,s36]) A_28 C (X.p 2 C) C C) λa H=>O.alloc (cs:=#[B false,.slice none 0 0]) H X C C zab C<|?_; intro b60 w a hb60 X H; refine ost 0 #[B x35,s36] H X C C C zaa C (occ C (occ (rdo (X.s 2 C)) C)) C (bl C) C ?_; intro w X; refine nk<|W.seq<|?_; have J:Fr a 25 [] []:=H.to trivial; obtain ⟨x61,hx61,M⟩:=hm_b M; obtain ⟨x63,hx63,M⟩:=hm_b M; obtain ⟨x65,hx65,M⟩:=hm_b M; refine hb M λx67 hx67 M=>W.drawK (γ:=Value × Value × Value × Value) (L0:=[(1,Pv b16 0),(2,Pv b5 0),(3,Pv b9 0),(4,Pv b17 0),(6,Pv b59 0),(7,Pv b60 0)]) (L1:=[]) (undef,undef,undef,undef) [2,5,11,12,13] [] [0,1,3,4,6,7,8,9,10] (λi=>match i with | 2=>[0,1] | 4=>[3] | 5=>[2,4] | 7=>[6] | 9=>[8] | 10=>[7,9] | 11=>[5,10] | 12=>[5,11] | 13=>[0,1,2,3,4,5,6,7,8,9,10,11,12] | _=>[]) (λ_=>[]) (λi=>match i with | 2=>[5,11,12,13] | 5=>[11,12,13] | 11=>[12,13] | 12=>[13] | _=>[]) (λ_=>[]) (λi=>match i with | 5=>1 | 11=>2 | 12=>3 | 13=>4 | _=>0) (λi=>match i with | 2=>1 | 3=>1 | 4=>1 | 5=>2 | 6=>2 | 7=>2 | 8=>2 | 9=>2 | 10=>2 | 11=>3 | 12=>4 | 13=>5 | _=>0) (λ(g:Value × Value × Value × Value) j=>match j with | 0=>.agg #[B x35,s36] | 1=>.agg #[B x6,s7] | 2=>.agg #[B x61.1,g.1] | 3=>I x10 | 4=>I (i64.wrap (0-x10)) | 5=>.agg #[B x63.1,g.2.1] | 6=>I x38 | 7=>I (i64.wrap (x38+1)) | 8=>I x38 | 9=>I (i64.wrap (x38+2)) | 10=>I (i64.wrap ((i64.wrap (x38+1))*(i64.wrap (x38+2)))) | 11=>.agg #[B x65.1,g.2.2.1] | 12=>.agg #[B x67.1,g.2.2.2] | _=>undef) (λk s (g:Value × Value × Value × Value) w=>match k with | 0=>St w0 w noX [E s2 x3,E s7 x8,pW28 b5 x6 s7,pI3 b9 x10,pB170 b11 x12 s13 x15] [pW28 b60 x35 s36,pt b59 (Cs #[B false,.slice none 0 0] 28),D s36 x37,pW28 b16 x35 s36,pI2 b17 x38,D s40 x41,pW28 b25 x39 s40,pt b18 (Cs #[B false,.slice none 0 0,I 0] 170)] | 1=>St w0 w noX [E s2 x3,E s7 x8,pW28 b5 x6 s7,pI3 b9 x10,pB170 b11 x12 s13 x15] [D g.1 x61.2,pW28 b60 x35 s36,pt b59 (Cs #[B false,.slice none 0 0] 28),D s36 x37,pW28 b16 x35 s36,pI2 b17 x38,D s40 x41,pW28 b25 x39 s40,pt b18 (Cs #[B false,.slice none 0 0,I 0] 170)] | 2=>St w0 w noX [E s2 x3,E s7 x8,pW28 b5 x6 s7,pI3 b9 x10,pB170 b11 x12 s13 x15] [D g.2.1 x63.2,D g.1 x61.2,pW28 b60 x35 s36,pt b59 (Cs #[B false,.slice none 0 0] 28),D s36 x37,pW28 b16 x35 s36,pI2 b17 x38,D s40 x41,pW28 b25 x39 s40,pt b18 (Cs #[B false,.slice none 0 0,I 0] 170)] | 3=>St w0 w noX [E s2 x3,E s7 x8,pW28 b5 x6 s7,pI3 b9 x10,pB170 b11 x12 s13 x15] [D g.2.2.1 x65.2,D g.2.1 x63.2,D g.1 x61.2,pW28 b60 x35 s36,pt b59 (Cs #[B false,.slice none 0 0] 28),D s36 x37,pW28 b16 x35 s36,pI2 b17 x38,D s40 x41,pW28 b25 x39 s40,pt b18 (Cs #[B false,.slice none 0 0,I 0] 170)] | 4=>St w0 w noX [E s2 x3,E s7 x8,pW28 b5 x6 s7,pI3 b9 x10,pB170 b11 x12 s13 x15] [D g.2.2.2 x67.2,D g.2.2.1 x65.2,D g.2.1 x63.2,D g.1 x61.2,pW28 b60 x35 s36,pt b59 (Cs #[B false,.slice none 0 0] 28),D s36 x37,pW28 b16 x35 s36,pI2 b17 x38,D s40 x41,pW28 b25 x39 s40,pt b18 (Cs #[B false,.slice none 0 0,I 0] 170)] | _=>St w0 w noX [E s2 x3,E s7 x8,pW28 b5 x6 s7,pI3 b9 x10,pB170 b11 x12 s13 x15] [D g.2.2.2 x67.2,D g.2.2.1 x65.2,D g.2.1 x63.2,D g.1 x61.2,pW28 b60 x35 s36,pt b59 (Cs #[B false,.slice none 0 0] 28),D s36 x37,pt b16 (Cs #[B x67.1,g.2.2.2] 28),pI2 b17 x38,D s40 x41,pW28 b25 x39 s40,pt b18 (Cs #[B false,.slice none 0 0,I 0] 170)]) P_mixed (by kernel_rfl) (H.q C) J X.drew ?_ ?_ ?_ ?_
      ·clear H J X; refine ⟨?_,?_,?_,λk s g w _ _ _ X a H=>Q.val (v:=I (i64.wrap (0-x10))) C C C X H (Z.neg C),?_,λk s g w _ _ _ X a H=>Q.val (v:=I (i64.wrap (x38+1))) C C C X H (Z.add C C),?_,λk s g w _ _ _ X a H=>Q.val (v:=I (i64.wrap (x38+2))) C C C X H (Z.add C C),λk s g w _ _ _ X a H=>Q.val (v:=I (i64.wrap ((i64.wrap (x38+1))*(i64.wrap (x38+2))))) C C C X H (Z.mul C C),trivial⟩
       ·intro k s g w h1_ h2_ hsp X a H; obtain ⟨s62,s64,s66,s68⟩:=g
        rcases k with _ | k
        ·exact Q.val (v:=.agg #[B x35,s36]) C C C X H (lN (cs':=#[B x35,s36]) A_28 C (X.p 3 C) C C)
        ·simp at h2_
       ·intro k s g w h1_ h2_ hsp X a H; obtain ⟨s62,s64,s66,s68⟩:=g
        rcases k with _ | k
        ·exact Q.val (v:=.agg #[B x6,s7]) C C C X H (Z.loadN (cs':=#[B x6,s7]) zag zaa C (X.bptAt (i:=2) C) (bl C) C)
        ·simp at h2_
       ·intro k s g w h1_ h2_ hsp X a H; obtain ⟨s62,s64,s66,s68⟩:=g
        rcases k with _ | _ | k
        ·exact Q.val (v:=I x10) C C C X H (Z.load1 zbl C (X.bptAt (i:=3) C) C)
        ·exact Q.val (v:=I x10) C C C X H (Z.load1 zbl C (X.bptAt (i:=3) C) C)
        ·simp at h2_
       ·intro k s g w h1_ h2_ hsp X a H; obtain ⟨s62,s64,s66,s68⟩:=g
        rcases k with _ | _ | _ | k
        ·exact Q.val (v:=I x38) C C C X H (Z.load1 zaf C (X.p 4 C) C)
        ·exact Q.val (v:=I x38) C C C X H (Z.load1 zaf C (X.p 5 C) C)
        ·exact Q.val (v:=I x38) C C C X H (Z.load1 zaf C (X.p 6 C) C)
        ·simp at h2_
       ·intro k s g w h1_ h2_ hsp X a H; obtain ⟨s62,s64,s66,s68⟩:=g
        rcases k with _ | _ | _ | k
        ·exact Q.val (v:=I x38) C C C X H (Z.load1 zaf C (X.p 4 C) C)
        ·exact Q.val (v:=I x38) C C C X H (Z.load1 zaf C (X.p 5 C) C)
        ·exact Q.val (v:=I x38) C C C X H (Z.load1 zaf C (X.p 6 C) C)
        ·simp at h2_
      ·clear H J X; refine ⟨?_,?_,?_,?_,?_,trivial⟩
       ·intro s g w hsp X a H; obtain ⟨s62,s64,s66,s68⟩:=g; refine oq H X C zb2 (zaR F x35 s36 x37 x6 s7 x8 _ (X.s 2 C) (X.b 1 C) x61 hx61) ?_; rintro s62 w X a H; exact nE 11 H (s62,s64,s66,s68) C C (jl 14 (by kernel_rfl) λ_=>C) X
       ·intro s g w hsp X a H; obtain ⟨s62,s64,s66,s68⟩:=g; refine oq H X C zdD (zbd F x61.1 s62 x61.2 (i64.wrap (0-x10)) _ (X.s 0 C) x63 hx63) ?_; rintro s64 w X a H; exact nE 14 H (s62,s64,s66,s68) C C (jl 14 (by kernel_rfl) λ_=>C) X
       ·intro s g w hsp X a H; obtain ⟨s62,s64,s66,s68⟩:=g; refine oq H X C zbn (zaF F (i64.wrap ((i64.wrap (x38+1))*(i64.wrap (x38+2)))) _ x65 hx65) ?_; rintro s66 w X a H; exact nE 20 H (s62,s64,s66,s68) C C (jl 14 (by kernel_rfl) λ_=>C) X
       ·intro s g w hsp X a H; obtain ⟨s62,s64,s66,s68⟩:=g; refine oq H X C zeh (zbZ F x63.1 s64 x63.2 x65.1 s66 x65.2 _ (X.s 1 C) (X.s 0 C) x67 hx67) ?_; rintro s68 w X a H; exact nE 21 H (s62,s64,s66,s68) C C (jl 14 (by kernel_rfl) λ_=>C) X
       ·intro s g w hsp X a H; obtain ⟨s62,s64,s66,s68⟩:=g; refine ost 7 #[B x67.1,s68] H X C C C zaa C (occ C (occ (rdo (X.s 0 C)) C)) C (bl C) C ?_; intro w X; exact O.nil ⟨C,(s62,s64,s66,s68),H.to trivial,(λd hd=>by cases (show none=some d from hd)),(λ_ _ _=>C),X⟩
      ·clear H J X; exact trivial
      clear H J X; intro s g a w hs H X; obtain ⟨s62,s64,s66,s68⟩:=g; refine ksq ?_; replace X:=X.sl [1,0,0,0,1,1,1,1,1,1,1,1]; refine sg (l:=[0,1,2]) C<|ov H C (Z.load1 zaf C (X.p 5 C) C) λa H=>ov H C (Z.add C C) λa H=>ost 5 #[I (i64.wrap (x38+2))] H X C C C zb4 C C C (bl C) C<|?_; intro w X; refine nk<|sg (l:=[0,1]) C<|ov H C (lN (cs':=#[B x35,s36]) A_28 C (X.p 1 C) C C) λa H=>ost 2 #[B x35,s36] H X C C C zaa C (occ C (occ (rdo (X.s 3 C)) C)) C (bl C) C<|?_; intro w X; refine nk ?_; replace X:=X.sl [1,0,1,1,1,1,1,1,1]; refine W.ret<|post1 H C (rkn (cs':=#[B x35,s36]) C zag zaa (X.p 1 C) (bl C) C)<|?_; replace X:=X.fr 7; replace X:=X.fr 3; replace X:=X.fr 7; replace X:=X.fr 7; replace X:=X.fr 7; replace X:=X.fr 7; replace X:=X.fr 6; replace X:=X.sl [1,1,1,1,1,1,1]; exact ⟨_,C,x67.1,s68,x67.2,C,X,M⟩
     ·clear H X M a; (try clear w); rintro v w ⟨x45,s46,x47,hv,X,M⟩ a H; rw [hv] at H; clear hv v; unfold zcU at M; refine O.alloc (cs:=#[B false,.slice none 0 0]) H X C C zab C ?_; intro b48 w a hb48 X H; refine ost 0 #[B x35,s36] H X C C C zaa C (occ C (occ (rdo (X.s 6 C)) C)) C (bl C) C ?_; intro w X; refine nk<|W.seq<|sg (l:=[0,1,2]) C<|ov H C (lN (cs':=#[B x35,s36]) A_28 C (X.p 0 C) C C) λa H=>?_; refine hb M λx49 hx49 M=>oq H X C zcM (za0 F x35 s36 x37 _ (X.s 6 C) x49 hx49) ?_; rintro _ w X a H; refine ov H C (Z.eql C C) λa H=>nk<|?_; refine W.ifdI H C (λhc50=>?_) (λhc50=>?_)
      ·replace M:=hm_p M hc50; refine sg (l:=[0,1,2,3]) C<|ov H C (lN (cs':=#[B x39,s40]) A_28 C (X.p 5 C) C C) λa H=>mv H C λa H=>ost 5 #[B x39,s40] H X C C C zaa C (occ C (occ (rdo (X.s 4 C)) C)) C (bl C) C<|?_; intro w X; refine mv H C λa H=>nk<|W.ret<|ktr<|kbr<|ktr<|ktr<|kbr<|post2 H C (rkn (cs':=#[B x39,s40]) C zag zaa (X.p 5 C) (bl C) C) (rkt C)<|?_; replace X:=X.fr 4; replace X:=X.fr 7; replace X:=X.sl [1,1]; exact ⟨_,C,x39,s40,x41,x42,C,X,M⟩
      ·replace M:=hm_n M hc50; refine W.skip<|ksq<|?_; refine W.seqR (λa w=>∃ (x51:Bool) (s52:Value) (x53:List Int),Fr a 27 [] [(0,.func (.func 166) #[] #[Pv b16 0,Pv b5 0,Pv b9 0,Pv b17 0]),(2,Pv b25 0),(3,I x42),(4,I x43)]∧St w0 w noX [E s2 x3,E s7 x8,pW28 b5 x6 s7,pI3 b9 x10,pB170 b11 x12 s13 x15] [D s46 x47,pW28 b16 x45 s46,pI2 b17 ((i64.wrap (x38+2))),D s52 x53,pW28 b25 x51 s52,pt b18 (Cs #[B false,.slice none 0 0,I 0] 170)]∧zbS F rec44 x45 x47 x38 x42 x43 x51 x53=some r) ?_ ?_
       ·refine sg (l:=[0,1,2]) C<|mv H C λa H=>ov (v:=I (Int.tmod x43 2)) H C (Z.rem (q:=2) C C (by decide)) λa H=>ov H C (Z.eql C C) λa H=>nk<|?_; refine W.ifdI H C (λhc54=>?_) (λhc54=>?_)
        ·replace M:=hm_p M hc54; refine wrL (l:=[0,1,2,3]) C<|ov H C (lN (cs':=#[B x39,s40]) A_28 C (X.p 5 C) C C) λa H=>ov H C (lN (cs':=#[B x35,s36]) A_28 C (X.p 0 C) C C) λa H=>?_; refine hb M λx55 hx55 M=>oq H X C zeQ (zct F x39 s40 x41 x35 s36 x37 _ (X.s 4 C) (X.s 6 C) x55 hx55) ?_; rintro s56 w X a H; refine ost 6 #[B x55.1,s56] H X C C C zaa C (occ C (occ (rdo (X.s 0 C)) C)) C (bl C) C ?_; intro w X; refine O.nil ?_; replace X:=X.fr 8; replace X:=X.fr 7; replace X:=X.fr 2; replace X:=X.fr 6; replace X:=X.fr 6; replace X:=X.fr 6; replace X:=X.sl [1,1,1,1,1,1]; exact kth ⟨x55.1,s56,x55.2,H.q C,X,M⟩
        ·replace M:=hm_n M hc54; refine wrL (l:=[0,1,2,3]) C<|ov H C (lN (cs':=#[B x39,s40]) A_28 C (X.p 5 C) C C) λa H=>ov H C (lN (cs':=#[B x35,s36]) A_28 C (X.p 0 C) C C) λa H=>?_; refine hb M λx57 hx57 M=>oq H X C zdC (zbB F x39 s40 x41 x35 s36 x37 _ (X.s 4 C) (X.s 6 C) x57 hx57) ?_; rintro s58 w X a H; refine ost 6 #[B x57.1,s58] H X C C C zaa C (occ C (occ (rdo (X.s 0 C)) C)) C (bl C) C ?_; intro w X; refine O.nil ?_; replace X:=X.fr 8; replace X:=X.fr 7; replace X:=X.fr 2; replace X:=X.fr 6; replace X:=X.fr 6; replace X:=X.fr 6; replace X:=X.sl [1,1,1,1,1,1]; exact kth ⟨x57.1,s58,x57.2,H.q C,X,M⟩
       ·clear H X M a; (try clear w); rintro a w ⟨x51,s52,x53,H,X,M⟩; unfold zbS at M; refine wrL (l:=[0,1,2]) C<|mv H C λa H=>ov H C (Z.add C C) λa H=>mv H C λa H=>O.nil<|kbn<|ksq<|wrL (l:=[0,1,2]) C<|mv H C λa H=>ov H C (Z.add C C) λa H=>?_; refine mv H C λa H=>O.nil<|?_; refine kth ⟨(k44,x45,s46,x47,i64.wrap (x38+2),x51,s52,x53,i64.wrap (x42+1),i64.wrap (x43+1)),⟨H.q C,X,?_⟩,Nat.lt_succ_self _⟩; rw [hrec44] at M; exact M
 ·clear H X M a; (try clear w); rintro v w ⟨x19,s20,x21,x22,hv,X,M⟩ a H; rw [hv] at H; clear hv v; unfold zbR at M; refine mv H C λa H=>ex H C C C λa H=>ex H C C C λa H=>O.alloc (cs:=#[B false,.slice none 0 0]) H X C C zab C<|?_; intro b23 w a hb23 X H; refine ost 0 #[B x19,s20] H X C C C zaa C (occ C (occ (rdo (X.s 2 C)) C)) C (bl C) C ?_; intro w X; refine mv H C λa H=>nk<|sg (l:=[0,1,2,3,4,5,6,7,8]) C<|ov H C (lN (cs':=#[B x19,s20]) A_28 C (X.p 0 C) C C) λa H=>mv H C λa H=>ov H C (Z.mul C C) λa H=>ov H C (Z.add C C) λa H=>ov H C (Z.field zaQ C C) λa H=>ov H C (Z.load1 zaf C (X.bptAt (i:=4) C) C) λa H=>ov H C (Z.add C C) λa H=>?_; refine ov (v:=.agg #[B x19,s20,I (i64.wrap ((i64.wrap ((i64.wrap (4*x22))+4))+x15))]) H C (Z.buildS (cs':=#[B x19,s20,I (i64.wrap ((i64.wrap ((i64.wrap (4*x22))+4))+x15))]) zcb zao C (by kernel_rfl)) λa H=>ost 1 #[B x19,s20,I (i64.wrap ((i64.wrap ((i64.wrap (4*x22))+4))+x15))] H X C C C zan C (occ C (occ (rdo (X.s 2 C)) (occ C C))) C (bl C) C<|?_; intro w X; refine nk ?_; replace X:=X.sl [0,1,1]; obtain ⟨x24,hx24,M⟩:=hm_b M; rw [oj hx24] at X; refine W.ret ?_; obtain rfl:=oj M; refine post1 H C (rkn (cs':=#[B x19,s20,I x24]) C zdA zan (X.p 0 C) (bl C) C) ?_; replace X:=X.sl [0,1]; exact ⟨s20,C,X.noB⟩
def zen (F:Nat) (x27:Bool) (x29:List Int) (x30:Int) (x31:Bool) (x33:List Int) (x34:Int):Option (Bool × (List Int) × Int × Bool × (List Int) × Int) :=
  some (x27,x29,x30,x31,x33,x34)
def zeo (F:Nat) (x5:Int) (x20:Bool × (List Int)) (rec44:Bool→(List Int)→Int→Bool→(List Int)→Int→Int→Option (Bool × (List Int) × Int × Bool × (List Int) × Int)) (x35:Bool) (x37:List Int) (x38:Int) (x39:Bool) (x41:List Int) (x42 x43:Int):Option (Bool × (List Int) × Int × Bool × (List Int) × Int) :=
  if x43<(5:Int) then ((za8 F x35 x37 x39 x41).bind λx46=>(zbi F x46.1 x46.2 (i64.wrap (1-x5))).bind λx48=>(za8 F x35 x37 x35 x37).bind λx51=>(zbi F x51.1 x51.2 (i64.wrap (1-x5))).bind λx53=>(zbO F x20.1 x20.2 x53.1 x53.2).bind λx56=>(some (i64.wrap ((i64.wrap (4*x38))+4))).bind λx58=>(some (i64.wrap ((i64.wrap (2*(i64.wrap (x38+x42))))+4))).bind λx59=>rec44 x48.1 x48.2 x59 x56.1 x56.2 x58 (i64.wrap (x43+1))) else (zen F x35 x37 x38 x39 x41 x42)
def zci (F:Nat) (x5:Int) (x20:Bool × (List Int)):Nat→Bool→(List Int)→Int→Bool→(List Int)→Int→Int→Option (Bool × (List Int) × Int × Bool × (List Int) × Int)
  | 0,_,_,_,_,_,_,_=>none
  | n+1,x35,x37,x38,x39,x41,x42,x43=>zeo F x5 x20 (zci F x5 x20 n) x35 x37 x38 x39 x41 x42 x43
def zfh (F:Nat) (x1:Bool) (x3:List Int) (x4 x5:Int):Option (Bool × (List Int) × Int × Bool × (List Int) × Int) :=
  (zbi F x1 x3 (-5)).bind λx10=>(za8 F x10.1 x10.2 x10.1 x10.2).bind λx13=>(zbi F x13.1 x13.2 (i64.wrap (0-x5))).bind λx15=>(zaN F 1).bind λx18=>(zbi F x18.1 x18.2 x5).bind λx20=>(zcl F x10.1 x10.2 1 x15.1 x15.2 x5 x1 x3 x4).bind λx23=>(zcl F x20.1 x20.2 0 x15.1 x15.2 x5 x1 x3 x4).bind λx25=>zci F x5 x20 F x23.1 x23.2.1 x23.2.2 x25.1 x25.2.1 x25.2.2 0
theorem zhe (F:Nat) (x1:Bool) (s2:Value) (x3:List Int) (x4 x5:Int) (w0:World) (h_s2:rdEOK (hp w0) 1 E61 s2 x3) (r:Bool × (List Int) × Int × Bool × (List Int) × Int) (M:zfh F x1 x3 x4 x5=some r) :
    Ret P 152 #[.agg #[B x1,s2,I x4],I x5] w0 (G:=Value × Value) (λ(g1,g2)=>.tuple #[.agg #[B r.1,g1,I r.2.2.1],.agg #[B r.2.2.2.1,g2,I r.2.2.2.2.2]]) (λ(g1,g2) w=>St w0 w noX [] [D g1 r.2.1,D g2 r.2.2.2.2.1]):=by
 unfold zfh at M; refine roW Tryz.func152 C C C (λa H=>?_); have X:St w0 w0 noX [E s2 x3] []:=Sbw (lnc (lendRd h_s2) lnn); refine sg (l:=[0,1,2,3]) C<|O.box (cs:=#[B x1,s2,I x4]) H X C C C C<|?_; intro b6 w a hb6 X H; refine O.box (cs:=#[I x5]) H X C C C C ?_; intro b7 w a hb7 X H; refine O.alloc (cs:=#[B false,.slice none 0 0,I 0]) H X C C zao C ?_; intro b8 w a hb8 X H; refine O.alloc (cs:=#[B false,.slice none 0 0,I 0]) H X C C zao C ?_; intro b9 w a hb9 X H; refine nk<|sg (l:=[0,1,2,3,4]) C<|ov H C (Z.field zaz C C) λa H=>ov H C (lN (cs':=#[B x1,s2]) A_28 C (X.p 3 C) C C) λa H=>?_; refine hb M λx10 hx10 M=>oq H X C zdD (zbd F x1 s2 x3 (-5) _ (X.b 0 C) x10 hx10) ?_; rintro s11 w X a H; refine O.alloc (cs:=#[B false,.slice none 0 0]) H X C C zab C ?_; intro b12 w a hb12 X H; refine ost 0 #[B x10.1,s11] H X C C C zaa C (occ C (occ (rdo (X.s 1 C)) C)) C (bl C) C ?_; intro w X; refine nk<|W.seq<|?_; have J:Fr a 69 [] []:=H.to trivial; obtain ⟨x13,hx13,M⟩:=hm_b M; obtain ⟨x15,hx15,M⟩:=hm_b M; replace X:=X.drew; replace X:=X.emp; refine W.drawK (γ:=Nat × Value × Value) (L0:=[(2,Pv b6 0),(3,Pv b7 0),(4,Pv b8 0),(5,Pv b9 0),(6,Pv b12 0)]) (L1:=[]) (0,undef,undef) [2,5,7] [6] [0,1,3,4] (λi=>match i with | 2=>[0,1] | 4=>[3] | 5=>[2,4] | 7=>[0,1,2,3,4,5,6] | _=>[]) (λi=>match i with | 7=>[6] | _=>[]) (λi=>match i with | 2=>[5,7] | 5=>[7] | 6=>[7] | _=>[]) (λ_=>[]) (λi=>match i with | 5=>1 | 7=>2 | _=>0) (λi=>match i with | 2=>1 | 3=>1 | 4=>1 | 5=>2 | 6=>2 | 7=>3 | _=>0) (λ(g:Nat × Value × Value) j=>match j with | 0=>.agg #[B x10.1,s11] | 1=>.agg #[B x10.1,s11] | 2=>.agg #[B x13.1,g.2.1] | 3=>I x5 | 4=>I (i64.wrap (0-x5)) | 5=>.agg #[B x15.1,g.2.2] | 6=>Pv g.1 0 | _=>undef) (λk s (g:Nat × Value × Value) w=>match k with | 0=>St w0 w noX [E s2 x3] [condA (s 6) (pt g.1 (Cs #[B false,.slice none 0 0] 28)),pW28 b12 x10.1 s11,D s11 x10.2,pt b9 (Cs #[B false,.slice none 0 0,I 0] 170),pt b8 (Cs #[B false,.slice none 0 0,I 0] 170),pI3 b7 x5,pB170 b6 x1 s2 x4] | 1=>St w0 w noX [E s2 x3] [D g.2.1 x13.2,condA (s 6) (pt g.1 (Cs #[B false,.slice none 0 0] 28)),pW28 b12 x10.1 s11,D s11 x10.2,pt b9 (Cs #[B false,.slice none 0 0,I 0] 170),pt b8 (Cs #[B false,.slice none 0 0,I 0] 170),pI3 b7 x5,pB170 b6 x1 s2 x4] | 2=>St w0 w noX [E s2 x3] [D g.2.2 x15.2,D g.2.1 x13.2,condA (s 6) (pt g.1 (Cs #[B false,.slice none 0 0] 28)),pW28 b12 x10.1 s11,D s11 x10.2,pt b9 (Cs #[B false,.slice none 0 0,I 0] 170),pt b8 (Cs #[B false,.slice none 0 0,I 0] 170),pI3 b7 x5,pB170 b6 x1 s2 x4] | _=>St w0 w noX [E s2 x3] [D g.2.2 x15.2,D g.2.1 x13.2,pt g.1 (Cs #[B x15.1,g.2.2] 28),pW28 b12 x10.1 s11,D s11 x10.2,pt b9 (Cs #[B false,.slice none 0 0,I 0] 170),pt b8 (Cs #[B false,.slice none 0 0,I 0] 170),pI3 b7 x5,pB170 b6 x1 s2 x4]) P_mixed (by kernel_rfl) (H.q C) J X ?_ ?_ ?_ ?_
 ·clear H J X; refine ⟨?_,?_,?_,λk s g w _ _ _ X a H=>Q.val (v:=I (i64.wrap (0-x5))) C C C X H (Z.neg C),trivial⟩
  ·intro k s g w h1_ h2_ hsp X a H; obtain ⟨b17,s14,s16⟩:=g
   rcases k with _ | k
   ·exact Q.val (v:=.agg #[B x10.1,s11]) C C C X H (lN (cs':=#[B x10.1,s11]) A_28 C (X.p 1 C) C C)
   ·simp at h2_
  ·intro k s g w h1_ h2_ hsp X a H; obtain ⟨b17,s14,s16⟩:=g
   rcases k with _ | k
   ·exact Q.val (v:=.agg #[B x10.1,s11]) C C C X H (lN (cs':=#[B x10.1,s11]) A_28 C (X.p 1 C) C C)
   ·simp at h2_
  ·intro k s g w h1_ h2_ hsp X a H; obtain ⟨b17,s14,s16⟩:=g
   rcases k with _ | _ | k
   ·exact Q.val (v:=I x5) C C C X H (Z.load1 zbl C (X.p 5 C) C)
   ·exact Q.val (v:=I x5) C C C X H (Z.load1 zbl C (X.p 6 C) C)
   ·simp at h2_
 ·clear H J X; refine ⟨?_,?_,?_,trivial⟩
  ·intro s g w hsp X a H; obtain ⟨b17,s14,s16⟩:=g; refine oq H X C zb2 (zaR F x10.1 s11 x10.2 x10.1 s11 x10.2 _ (X.s 2 C) (X.s 2 C) x13 hx13) ?_; rintro s14 w X a H; exact nE 17 H (b17,s14,s16) C C (jl 8 (by kernel_rfl) λ_=>C) X
  ·intro s g w hsp X a H; obtain ⟨b17,s14,s16⟩:=g; refine oq H X C zdD (zbd F x13.1 s14 x13.2 (i64.wrap (0-x5)) _ (X.s 0 C) x15 hx15) ?_; rintro s16 w X a H; exact nE 20 H (b17,s14,s16) C C (jl 8 (by kernel_rfl) λ_=>C) X
  ·intro s g w hsp X a H; obtain ⟨b17,s14,s16⟩:=g; have h6_:s 6=true:=hsp 6 (by simp); have X:St w0 w noX [E s2 x3] [D s16 x15.2,D s14 x13.2,condA (s 6) (pt b17 (Cs #[B false,.slice none 0 0] 28)),pW28 b12 x10.1 s11,D s11 x10.2,pt b9 (Cs #[B false,.slice none 0 0,I 0] 170),pt b8 (Cs #[B false,.slice none 0 0,I 0] 170),pI3 b7 x5,pB170 b6 x1 s2 x4]:=X; clear X; rw [h6_] at X; replace X:St w0 w noX [E s2 x3] [D s16 x15.2,D s14 x13.2,pt b17 (Cs #[B false,.slice none 0 0] 28),pW28 b12 x10.1 s11,D s11 x10.2,pt b9 (Cs #[B false,.slice none 0 0,I 0] 170),pt b8 (Cs #[B false,.slice none 0 0,I 0] 170),pI3 b7 x5,pB170 b6 x1 s2 x4]:=X; refine ost 2 #[B x15.1,s16] H X C C C zaa C (occ C (occ (rdo (X.s 0 C)) C)) C (bl C) C ?_; intro w X; exact O.nil ⟨C,(b17,s14,s16),H.to trivial,(λd hd=>by cases (show none=some d from hd)),(λ_ _ _=>C),X⟩
 ·clear H J X; refine ⟨?_,trivial⟩
  ·intro k s g w h1_ h2_ hs0 X a H; obtain ⟨b17,s14,s16⟩:=g
   rcases k with _ | _ | _ | k
   ·refine oaC (j:=0) (cs:=#[B false,.slice none 0 0]) H X C hs0 C C zab C ?_; clear H X a; intro b17 w a X H; exact nE 7 H (b17,s14,s16) C C (jl 8 (by kernel_rfl) λ_=>C) X
   ·refine oaC (j:=1) (cs:=#[B false,.slice none 0 0]) H X C hs0 C C zab C ?_; clear H X a; intro b17 w a X H; exact nE 7 H (b17,s14,s16) C C (jl 8 (by kernel_rfl) λ_=>C) X
   ·refine oaC (j:=2) (cs:=#[B false,.slice none 0 0]) H X C hs0 C C zab C ?_; clear H X a; intro b17 w a X H; exact nE 7 H (b17,s14,s16) C C (jl 8 (by kernel_rfl) λ_=>C) X
   ·simp at h2_
 clear H J X; intro s g a w hs H X; obtain ⟨b17,s14,s16⟩:=g; have h6_:s 6=true:=hs 6 (by simp); refine ksq ?_; replace X:=X.sl [1,0,1,1,1,1,1,1,1]; refine W.seq ?_; have J:Fr a 69 [] []:=H.to trivial; obtain ⟨x18,hx18,M⟩:=hm_b M; obtain ⟨x20,hx20,M⟩:=hm_b M; replace X:=X.drew; replace X:=X.emp; refine W.drawK (γ:=Nat × Value × Value) (L0:=[(2,Pv b6 0),(3,Pv b7 0),(4,Pv b8 0),(5,Pv b9 0),(6,Pv b12 0),(7,Pv b17 0)]) (L1:=[]) (0,undef,undef) [0,2,4] [3] [1] (λi=>match i with | 2=>[0,1] | 4=>[0,1,2,3] | _=>[]) (λi=>match i with | 4=>[3] | _=>[]) (λi=>match i with | 0=>[2,4] | 2=>[4] | 3=>[4] | _=>[]) (λ_=>[]) (λi=>match i with | 2=>1 | 4=>2 | _=>0) (λi=>match i with | 0=>1 | 1=>1 | 2=>2 | 3=>2 | 4=>3 | _=>0) (λ(g:Nat × Value × Value) j=>match j with | 0=>.agg #[B x18.1,g.2.1] | 1=>I x5 | 2=>.agg #[B x20.1,g.2.2] | 3=>Pv g.1 0 | _=>undef) (λk s (g:Nat × Value × Value) w=>match k with | 0=>St w0 w noX [E s2 x3] [condA (s 3) (pt g.1 (Cs #[B false,.slice none 0 0] 28)),D s16 x15.2,pW28 b17 x15.1 s16,pW28 b12 x10.1 s11,D s11 x10.2,pt b9 (Cs #[B false,.slice none 0 0,I 0] 170),pt b8 (Cs #[B false,.slice none 0 0,I 0] 170),pI3 b7 x5,pB170 b6 x1 s2 x4] | 1=>St w0 w noX [E s2 x3] [D g.2.1 x18.2,condA (s 3) (pt g.1 (Cs #[B false,.slice none 0 0] 28)),D s16 x15.2,pW28 b17 x15.1 s16,pW28 b12 x10.1 s11,D s11 x10.2,pt b9 (Cs #[B false,.slice none 0 0,I 0] 170),pt b8 (Cs #[B false,.slice none 0 0,I 0] 170),pI3 b7 x5,pB170 b6 x1 s2 x4] | 2=>St w0 w noX [E s2 x3] [D g.2.2 x20.2,D g.2.1 x18.2,condA (s 3) (pt g.1 (Cs #[B false,.slice none 0 0] 28)),D s16 x15.2,pW28 b17 x15.1 s16,pW28 b12 x10.1 s11,D s11 x10.2,pt b9 (Cs #[B false,.slice none 0 0,I 0] 170),pt b8 (Cs #[B false,.slice none 0 0,I 0] 170),pI3 b7 x5,pB170 b6 x1 s2 x4] | _=>St w0 w noX [E s2 x3] [D g.2.2 x20.2,D g.2.1 x18.2,pt g.1 (Cs #[B x20.1,g.2.2] 28),D s16 x15.2,pW28 b17 x15.1 s16,pW28 b12 x10.1 s11,D s11 x10.2,pt b9 (Cs #[B false,.slice none 0 0,I 0] 170),pt b8 (Cs #[B false,.slice none 0 0,I 0] 170),pI3 b7 x5,pB170 b6 x1 s2 x4]) P_mixed (by kernel_rfl) (H.q C) J X ?_ ?_ ?_ ?_
 ·clear H J X; refine ⟨?_,trivial⟩
  ·intro k s g w h1_ h2_ hsp X a H; obtain ⟨b22,s19,s21⟩:=g
   rcases k with _ | _ | k
   ·exact Q.val (v:=I x5) C C C X H (Z.load1 zbl C (X.p 7 C) C)
   ·exact Q.val (v:=I x5) C C C X H (Z.load1 zbl C (X.p 8 C) C)
   ·simp at h2_
 ·clear H J X; refine ⟨?_,?_,?_,trivial⟩
  ·intro s g w hsp X a H; obtain ⟨b22,s19,s21⟩:=g; refine oq H X C zbn (zaF F 1 _ x18 hx18) ?_; rintro s19 w X a H; exact nE 21 H (b22,s19,s21) C C (jl 5 (by kernel_rfl) λ_=>C) X
  ·intro s g w hsp X a H; obtain ⟨b22,s19,s21⟩:=g; refine oq H X C zdD (zbd F x18.1 s19 x18.2 x5 _ (X.s 0 C) x20 hx20) ?_; rintro s21 w X a H; exact nE 23 H (b22,s19,s21) C C (jl 5 (by kernel_rfl) λ_=>C) X
  ·intro s g w hsp X a H; obtain ⟨b22,s19,s21⟩:=g; have h3_:s 3=true:=hsp 3 (by simp); have X:St w0 w noX [E s2 x3] [D s21 x20.2,D s19 x18.2,condA (s 3) (pt b22 (Cs #[B false,.slice none 0 0] 28)),D s16 x15.2,pW28 b17 x15.1 s16,pW28 b12 x10.1 s11,D s11 x10.2,pt b9 (Cs #[B false,.slice none 0 0,I 0] 170),pt b8 (Cs #[B false,.slice none 0 0,I 0] 170),pI3 b7 x5,pB170 b6 x1 s2 x4]:=X; clear X; rw [h3_] at X; replace X:St w0 w noX [E s2 x3] [D s21 x20.2,D s19 x18.2,pt b22 (Cs #[B false,.slice none 0 0] 28),D s16 x15.2,pW28 b17 x15.1 s16,pW28 b12 x10.1 s11,D s11 x10.2,pt b9 (Cs #[B false,.slice none 0 0,I 0] 170),pt b8 (Cs #[B false,.slice none 0 0,I 0] 170),pI3 b7 x5,pB170 b6 x1 s2 x4]:=X; refine ost 2 #[B x20.1,s21] H X C C C zaa C (occ C (occ (rdo (X.s 0 C)) C)) C (bl C) C ?_; intro w X; exact O.nil ⟨C,(b22,s19,s21),H.to trivial,(λd hd=>by cases (show none=some d from hd)),(λ_ _ _=>C),X⟩
 ·clear H J X; refine ⟨?_,trivial⟩
  ·intro k s g w h1_ h2_ hs0 X a H; obtain ⟨b22,s19,s21⟩:=g
   rcases k with _ | _ | _ | k
   ·refine oaC (j:=0) (cs:=#[B false,.slice none 0 0]) H X C hs0 C C zab C ?_; clear H X a; intro b22 w a X H; exact nE 8 H (b22,s19,s21) C C (jl 5 (by kernel_rfl) λ_=>C) X
   ·refine oaC (j:=1) (cs:=#[B false,.slice none 0 0]) H X C hs0 C C zab C ?_; clear H X a; intro b22 w a X H; exact nE 8 H (b22,s19,s21) C C (jl 5 (by kernel_rfl) λ_=>C) X
   ·refine oaC (j:=2) (cs:=#[B false,.slice none 0 0]) H X C hs0 C C zab C ?_; clear H X a; intro b22 w a X H; exact nE 8 H (b22,s19,s21) C C (jl 5 (by kernel_rfl) λ_=>C) X
   ·simp at h2_
 clear H J X; intro s g a w hs H X; obtain ⟨b22,s19,s21⟩:=g; have h3_:s 3=true:=hs 3 (by simp); refine ksq ?_; replace X:=X.sl [1,0,1,1,1,1,1,1,1,1,1]; refine sg (l:=[0,1]) C<|ov (v:=.func (.func 165) #[] #[Pv b17 0,Pv b7 0,Pv b6 0]) H C (Z.makeFunc C C C C) λa H=>mv H C λa H=>nk<|W.seq<|?_; have J:Fr a 69 [] []:=H.to trivial; obtain ⟨x23,hx23,M⟩:=hm_b M; refine hb M λx25 hx25 M=>W.drawK (γ:=Value × Value) (L0:=[(3,Pv b7 0),(4,Pv b8 0),(5,Pv b9 0),(6,Pv b12 0),(8,Pv b22 0),(9,.func (.func 165) #[] #[Pv b17 0,Pv b7 0,Pv b6 0])]) (L1:=[]) (undef,undef) [2,5,6,7] [] [0,1,3,4] (λi=>match i with | 2=>[0,1] | 5=>[2,3,4] | 6=>[0,1,2,5] | 7=>[0,1,2,3,4,5,6] | _=>[]) (λ_=>[]) (λi=>match i with | 2=>[5,6,7] | 5=>[6,7] | 6=>[7] | _=>[]) (λ_=>[]) (λi=>match i with | 5=>1 | 6=>2 | 7=>3 | _=>0) (λi=>match i with | 2=>1 | 3=>1 | 4=>1 | 5=>2 | 6=>3 | 7=>4 | _=>0) (λ(g:Value × Value) j=>match j with | 0=>.func (.func 165) #[] #[Pv b17 0,Pv b7 0,Pv b6 0] | 1=>.agg #[B x10.1,s11] | 2=>.agg #[B x23.1,g.1,I x23.2.2] | 3=>.func (.func 165) #[] #[Pv b17 0,Pv b7 0,Pv b6 0] | 4=>.agg #[B x20.1,s21] | 5=>.agg #[B x25.1,g.2,I x25.2.2] | _=>undef) (λk s (g:Value × Value) w=>match k with | 0=>St w0 w noX [E s2 x3] [D s21 x20.2,pW28 b22 x20.1 s21,D s16 x15.2,pW28 b17 x15.1 s16,pW28 b12 x10.1 s11,D s11 x10.2,pt b9 (Cs #[B false,.slice none 0 0,I 0] 170),pt b8 (Cs #[B false,.slice none 0 0,I 0] 170),pI3 b7 x5,pB170 b6 x1 s2 x4] | 1=>St w0 w noX [E s2 x3] [D g.1 x23.2.1,D s21 x20.2,pW28 b22 x20.1 s21,D s16 x15.2,pW28 b17 x15.1 s16,pW28 b12 x10.1 s11,D s11 x10.2,pt b9 (Cs #[B false,.slice none 0 0,I 0] 170),pt b8 (Cs #[B false,.slice none 0 0,I 0] 170),pI3 b7 x5,pB170 b6 x1 s2 x4] | 2=>St w0 w noX [E s2 x3] [D g.2 x25.2.1,D g.1 x23.2.1,D s21 x20.2,pW28 b22 x20.1 s21,D s16 x15.2,pW28 b17 x15.1 s16,pW28 b12 x10.1 s11,D s11 x10.2,pt b9 (Cs #[B false,.slice none 0 0,I 0] 170),pt b8 (Cs #[B false,.slice none 0 0,I 0] 170),pI3 b7 x5,pB170 b6 x1 s2 x4] | 3=>St w0 w noX [E s2 x3] [D g.2 x25.2.1,D g.1 x23.2.1,D s21 x20.2,pW28 b22 x20.1 s21,D s16 x15.2,pW28 b17 x15.1 s16,pW28 b12 x10.1 s11,D s11 x10.2,pt b9 (Cs #[B false,.slice none 0 0,I 0] 170),pt b8 (Cs #[B x23.1,g.1,I x23.2.2] 170),pI3 b7 x5,pB170 b6 x1 s2 x4] | _=>St w0 w noX [E s2 x3] [D g.2 x25.2.1,D g.1 x23.2.1,D s21 x20.2,pW28 b22 x20.1 s21,D s16 x15.2,pW28 b17 x15.1 s16,pW28 b12 x10.1 s11,D s11 x10.2,pt b9 (Cs #[B x25.1,g.2,I x25.2.2] 170),pt b8 (Cs #[B x23.1,g.1,I x23.2.2] 170),pI3 b7 x5,pB170 b6 x1 s2 x4]) P_mixed (by kernel_rfl) (H.q C) J X.drew ?_ ?_ ?_ ?_
 ·clear H J X; refine ⟨λk s g w _ _ _ X a H=>Q.val (v:=.func (.func 165) #[] #[Pv b17 0,Pv b7 0,Pv b6 0]) C C C X H (Z.move C),?_,λk s g w _ _ _ X a H=>Q.val (v:=.func (.func 165) #[] #[Pv b17 0,Pv b7 0,Pv b6 0]) C C C X H (Z.move C),?_,trivial⟩
  ·intro k s g w h1_ h2_ hsp X a H; obtain ⟨s24,s26⟩:=g
   rcases k with _ | k
   ·exact Q.val (v:=.agg #[B x10.1,s11]) C C C X H (lN (cs':=#[B x10.1,s11]) A_28 C (X.p 4 C) C C)
   ·simp at h2_
  ·intro k s g w h1_ h2_ hsp X a H; obtain ⟨s24,s26⟩:=g
   rcases k with _ | _ | k
   ·exact Q.val (v:=.agg #[B x20.1,s21]) C C C X H (lN (cs':=#[B x20.1,s21]) A_28 C (X.p 1 C) C C)
   ·exact Q.val (v:=.agg #[B x20.1,s21]) C C C X H (lN (cs':=#[B x20.1,s21]) A_28 C (X.p 2 C) C C)
   ·simp at h2_
 ·clear H J X; refine ⟨?_,?_,?_,?_,trivial⟩
  ·intro s g w hsp X a H; obtain ⟨s24,s26⟩:=g; refine oq H X C zim (zem F x10.1 s11 x10.2 1 b17 x15.1 s16 x15.2 b7 x5 b6 x1 s2 x3 x4 _ (X.s 5 C) (X.s 2 C) (X.p 3 C) (X.p 8 C) (X.p 9 C) x23 hx23) ?_; rintro s24 w X a H; exact nE 27 H (s24,s26) C C (jl 8 (by kernel_rfl) λ_=>C) X
  ·intro s g w hsp X a H; obtain ⟨s24,s26⟩:=g; refine oq H X C zim (zem F x20.1 s21 x20.2 0 b17 x15.1 s16 x15.2 b7 x5 b6 x1 s2 x3 x4 _ (X.s 1 C) (X.s 3 C) (X.p 4 C) (X.p 9 C) (X.p 10 C) x25 hx25) ?_; rintro s26 w X a H; exact nE 30 H (s24,s26) C C (jl 8 (by kernel_rfl) λ_=>C) X
  ·intro s g w hsp X a H; obtain ⟨s24,s26⟩:=g; refine ost 9 #[B x23.1,s24,I x23.2.2] H X C C C zan C (occ C (occ (rdo (X.s 1 C)) (occ C C))) C (bl C) C ?_; intro w X; exact O.nil ⟨C,(s24,s26),H.to trivial,(λd hd=>by cases (show none=some d from hd)),(λ_ _ _=>C),X⟩
  ·intro s g w hsp X a H; obtain ⟨s24,s26⟩:=g; refine ost 8 #[B x25.1,s26,I x25.2.2] H X C C C zan C (occ C (occ (rdo (X.s 0 C)) (occ C C))) C (bl C) C ?_; intro w X; exact O.nil ⟨C,(s24,s26),H.to trivial,(λd hd=>by cases (show none=some d from hd)),(λ_ _ _=>C),X⟩
 ·clear H J X; exact trivial
 clear H J X; intro s g a w hs H X; obtain ⟨s24,s26⟩:=g; refine ksq ?_; replace X:=X.sl [1,1,1,1,0,0,0,0,1,1,1]; refine W.seqR (λa w=>∃ (x27:Bool) (s28:Value) (x29:List Int) (x30:Int) (x31:Bool) (s32:Value) (x33:List Int) (x34:Int),Fr a 69 [] [(4,Pv b8 0),(5,Pv b9 0)]∧St w0 w noX [E s2 x3] [D s28 x29,pB170 b8 x27 s28 x30,D s32 x33,pB170 b9 x31 s32 x34]∧zen F x27 x29 x30 x31 x33 x34=some r) ?_ ?_
 ·refine sg (l:=[0]) C<|mv H C λa H=>nk<|W.block<|?_; replace X:=X.fr 3; replace X:=X.fr 3; replace X:=X.fr 4; replace X:=X.fr 3; replace X:=X.fr 5; replace X:=X.fr 5; replace X:=X.fr 6; refine W.loop (G:=Nat × Bool × Value × (List Int) × Int × Bool × Value × (List Int) × Int × Int) (λg a w=>match g with | (k44,x35,s36,x37,x38,x39,s40,x41,x42,x43)=>Fr a 69 [] [(3,Pv b7 0),(4,Pv b8 0),(5,Pv b9 0),(8,Pv b22 0),(31,I x43)]∧St w0 w noX [E s2 x3] [pI3 b7 x5,D s36 x37,pB170 b8 x35 s36 x38,D s40 x41,pB170 b9 x39 s40 x42,D s21 x20.2,pW28 b22 x20.1 s21]∧zci F x5 x20 k44 x35 x37 x38 x39 x41 x42 x43=some r) (λg=>match g with | (k44,x35,s36,x37,x38,x39,s40,x41,x42,x43)=>k44) (F,x23.1,s24,x23.2.1,x23.2.2,x25.1,s26,x25.2.1,x25.2.2,0) ⟨H.q C,X,M⟩ ?_; clear H X M a; (try clear w); rintro ⟨k44,x35,s36,x37,x38,x39,s40,x41,x42,x43⟩ a w ⟨H,X,M⟩
  rcases k44 with _ | k44
  · nomatch M
  replace M:zeo F x5 x20 (zci F x5 x20 k44) x35 x37 x38 x39 x41 x42 x43=some r:=M; obtain ⟨rec44,hrec44⟩:∃ f,f=zci F x5 x20 k44:=⟨_,C⟩; rw [← hrec44] at M; unfold zeo at M; refine sg (l:=[0]) C<|ov H C (Z.lss C C) λa H=>nk<|W.seq<|?_; refine W.ifdI H C (λhc45=>?_) (λhc45=>?_)
  ·replace M:=hm_p M hc45; refine W.skip<|ksq<|W.seq<|W.block<|W.seq<|?_; have J:Fr a 69 [] []:=H.to trivial; obtain ⟨x46,hx46,M⟩:=hm_b M; obtain ⟨x48,hx48,M⟩:=hm_b M; replace X:=X.drew; replace X:=X.emp; refine W.drawK (γ:=Nat × Value × Value) (L0:=[(3,Pv b7 0),(4,Pv b8 0),(5,Pv b9 0),(8,Pv b22 0),(31,I x43)]) (L1:=[]) (0,undef,undef) [4,7,9] [8] [0,1,2,3,5,6] (λi=>match i with | 1=>[0] | 3=>[2] | 4=>[1,3] | 6=>[5] | 7=>[4,6] | 9=>[0,1,2,3,4,5,6,7,8] | _=>[]) (λi=>match i with | 9=>[8] | _=>[]) (λi=>match i with | 4=>[7,9] | 7=>[9] | 8=>[9] | _=>[]) (λ_=>[]) (λi=>match i with | 7=>1 | 9=>2 | _=>0) (λi=>match i with | 4=>1 | 5=>1 | 6=>1 | 7=>2 | 8=>2 | 9=>3 | _=>0) (λ(g:Nat × Value × Value) j=>match j with | 0=>Pv b8 0 | 1=>.agg #[B x35,s36] | 2=>Pv b9 0 | 3=>.agg #[B x39,s40] | 4=>.agg #[B x46.1,g.2.1] | 5=>I x5 | 6=>I (i64.wrap (1-x5)) | 7=>.agg #[B x48.1,g.2.2] | 8=>Pv g.1 0 | _=>undef) (λk s (g:Nat × Value × Value) w=>match k with | 0=>St w0 w noX [E s2 x3] [condA (s 8) (pt g.1 (Cs #[B false,.slice none 0 0] 28)),pI3 b7 x5,D s36 x37,pB170 b8 x35 s36 x38,D s40 x41,pB170 b9 x39 s40 x42,D s21 x20.2,pW28 b22 x20.1 s21] | 1=>St w0 w noX [E s2 x3] [D g.2.1 x46.2,condA (s 8) (pt g.1 (Cs #[B false,.slice none 0 0] 28)),pI3 b7 x5,D s36 x37,pB170 b8 x35 s36 x38,D s40 x41,pB170 b9 x39 s40 x42,D s21 x20.2,pW28 b22 x20.1 s21] | 2=>St w0 w noX [E s2 x3] [D g.2.2 x48.2,D g.2.1 x46.2,condA (s 8) (pt g.1 (Cs #[B false,.slice none 0 0] 28)),pI3 b7 x5,D s36 x37,pB170 b8 x35 s36 x38,D s40 x41,pB170 b9 x39 s40 x42,D s21 x20.2,pW28 b22 x20.1 s21] | _=>St w0 w noX [E s2 x3] [D g.2.2 x48.2,D g.2.1 x46.2,pt g.1 (Cs #[B x48.1,g.2.2] 28),pI3 b7 x5,D s36 x37,pB170 b8 x35 s36 x38,D s40 x41,pB170 b9 x39 s40 x42,D s21 x20.2,pW28 b22 x20.1 s21]) P_mixed (by kernel_rfl) (H.q C) J X ?_ ?_ ?_ ?_
   ·clear H J X; refine ⟨λk s g w _ _ _ X a H=>Q.val (v:=Pv b8 0) C C C X H (Z.field zaz C C),?_,λk s g w _ _ _ X a H=>Q.val (v:=Pv b9 0) C C C X H (Z.field zaz C C),?_,?_,λk s g w _ _ _ X a H=>Q.val (v:=I (i64.wrap (1-x5))) C C C X H (Z.sub C C),trivial⟩
    ·intro k s g w h1_ h2_ hsp X a H; obtain ⟨b50,s47,s49⟩:=g
     rcases k with _ | k
     ·exact Q.val (v:=.agg #[B x35,s36]) C C C X H (lN (cs':=#[B x35,s36]) A_28 C (X.p 3 C) C C)
     ·simp at h2_
    ·intro k s g w h1_ h2_ hsp X a H; obtain ⟨b50,s47,s49⟩:=g
     rcases k with _ | k
     ·exact Q.val (v:=.agg #[B x39,s40]) C C C X H (lN (cs':=#[B x39,s40]) A_28 C (X.p 5 C) C C)
     ·simp at h2_
    ·intro k s g w h1_ h2_ hsp X a H; obtain ⟨b50,s47,s49⟩:=g
     rcases k with _ | _ | k
     ·exact Q.val (v:=I x5) C C C X H (Z.load1 zbl C (X.p 1 C) C)
     ·exact Q.val (v:=I x5) C C C X H (Z.load1 zbl C (X.p 2 C) C)
     ·simp at h2_
   ·clear H J X; refine ⟨?_,?_,?_,trivial⟩
    ·intro s g w hsp X a H; obtain ⟨b50,s47,s49⟩:=g; refine oq H X C zb2 (zaR F x35 s36 x37 x39 s40 x41 _ (X.s 2 C) (X.s 4 C) x46 hx46) ?_; rintro s47 w X a H; exact nE 37 H (b50,s47,s49) C C (jl 10 (by kernel_rfl) λ_=>C) X
    ·intro s g w hsp X a H; obtain ⟨b50,s47,s49⟩:=g; refine oq H X C zdD (zbd F x46.1 s47 x46.2 (i64.wrap (1-x5)) _ (X.s 0 C) x48 hx48) ?_; rintro s49 w X a H; exact nE 40 H (b50,s47,s49) C C (jl 10 (by kernel_rfl) λ_=>C) X
    ·intro s g w hsp X a H; obtain ⟨b50,s47,s49⟩:=g; have h8_:s 8=true:=hsp 8 (by simp); have X:St w0 w noX [E s2 x3] [D s49 x48.2,D s47 x46.2,condA (s 8) (pt b50 (Cs #[B false,.slice none 0 0] 28)),pI3 b7 x5,D s36 x37,pB170 b8 x35 s36 x38,D s40 x41,pB170 b9 x39 s40 x42,D s21 x20.2,pW28 b22 x20.1 s21]:=X; clear X; rw [h8_] at X; replace X:St w0 w noX [E s2 x3] [D s49 x48.2,D s47 x46.2,pt b50 (Cs #[B false,.slice none 0 0] 28),pI3 b7 x5,D s36 x37,pB170 b8 x35 s36 x38,D s40 x41,pB170 b9 x39 s40 x42,D s21 x20.2,pW28 b22 x20.1 s21]:=X; refine ost 2 #[B x48.1,s49] H X C C C zaa C (occ C (occ (rdo (X.s 0 C)) C)) C (bl C) C ?_; intro w X; exact O.nil ⟨C,(b50,s47,s49),H.to trivial,(λd hd=>by cases (show none=some d from hd)),(λ_ _ _=>C),X⟩
   ·clear H J X; refine ⟨?_,trivial⟩
    ·intro k s g w h1_ h2_ hs0 X a H; obtain ⟨b50,s47,s49⟩:=g
     rcases k with _ | _ | _ | k
     ·refine oaC (j:=0) (cs:=#[B false,.slice none 0 0]) H X C hs0 C C zab C ?_; clear H X a; intro b50 w a X H; exact nE 10 H (b50,s47,s49) C C (jl 10 (by kernel_rfl) λ_=>C) X
     ·refine oaC (j:=1) (cs:=#[B false,.slice none 0 0]) H X C hs0 C C zab C ?_; clear H X a; intro b50 w a X H; exact nE 10 H (b50,s47,s49) C C (jl 10 (by kernel_rfl) λ_=>C) X
     ·refine oaC (j:=2) (cs:=#[B false,.slice none 0 0]) H X C hs0 C C zab C ?_; clear H X a; intro b50 w a X H; exact nE 10 H (b50,s47,s49) C C (jl 10 (by kernel_rfl) λ_=>C) X
     ·simp at h2_
   clear H J X; intro s g a w hs H X; obtain ⟨b50,s47,s49⟩:=g; have h8_:s 8=true:=hs 8 (by simp); refine ksq ?_; replace X:=X.sl [1,0,1,1,1,1,1,1,1,1]; refine W.seq ?_; have J:Fr a 69 [] []:=H.to trivial; obtain ⟨x51,hx51,M⟩:=hm_b M; obtain ⟨x53,hx53,M⟩:=hm_b M; replace X:=X.drew; replace X:=X.emp; refine W.drawK (γ:=Nat × Value × Value) (L0:=[(3,Pv b7 0),(4,Pv b8 0),(5,Pv b9 0),(8,Pv b22 0),(10,Pv b50 0),(31,I x43)]) (L1:=[]) (0,undef,undef) [4,7,9] [8] [0,1,2,3,5,6] (λi=>match i with | 1=>[0] | 3=>[2] | 4=>[1,3] | 6=>[5] | 7=>[4,6] | 9=>[0,1,2,3,4,5,6,7,8] | _=>[]) (λi=>match i with | 9=>[8] | _=>[]) (λi=>match i with | 4=>[7,9] | 7=>[9] | 8=>[9] | _=>[]) (λ_=>[]) (λi=>match i with | 7=>1 | 9=>2 | _=>0) (λi=>match i with | 4=>1 | 5=>1 | 6=>1 | 7=>2 | 8=>2 | 9=>3 | _=>0) (λ(g:Nat × Value × Value) j=>match j with | 0=>Pv b8 0 | 1=>.agg #[B x35,s36] | 2=>Pv b8 0 | 3=>.agg #[B x35,s36] | 4=>.agg #[B x51.1,g.2.1] | 5=>I x5 | 6=>I (i64.wrap (1-x5)) | 7=>.agg #[B x53.1,g.2.2] | 8=>Pv g.1 0 | _=>undef) (λk s (g:Nat × Value × Value) w=>match k with | 0=>St w0 w noX [E s2 x3] [condA (s 8) (pt g.1 (Cs #[B false,.slice none 0 0] 28)),D s49 x48.2,pW28 b50 x48.1 s49,pI3 b7 x5,D s36 x37,pB170 b8 x35 s36 x38,D s40 x41,pB170 b9 x39 s40 x42,D s21 x20.2,pW28 b22 x20.1 s21] | 1=>St w0 w noX [E s2 x3] [D g.2.1 x51.2,condA (s 8) (pt g.1 (Cs #[B false,.slice none 0 0] 28)),D s49 x48.2,pW28 b50 x48.1 s49,pI3 b7 x5,D s36 x37,pB170 b8 x35 s36 x38,D s40 x41,pB170 b9 x39 s40 x42,D s21 x20.2,pW28 b22 x20.1 s21] | 2=>St w0 w noX [E s2 x3] [D g.2.2 x53.2,D g.2.1 x51.2,condA (s 8) (pt g.1 (Cs #[B false,.slice none 0 0] 28)),D s49 x48.2,pW28 b50 x48.1 s49,pI3 b7 x5,D s36 x37,pB170 b8 x35 s36 x38,D s40 x41,pB170 b9 x39 s40 x42,D s21 x20.2,pW28 b22 x20.1 s21] | _=>St w0 w noX [E s2 x3] [D g.2.2 x53.2,D g.2.1 x51.2,pt g.1 (Cs #[B x53.1,g.2.2] 28),D s49 x48.2,pW28 b50 x48.1 s49,pI3 b7 x5,D s36 x37,pB170 b8 x35 s36 x38,D s40 x41,pB170 b9 x39 s40 x42,D s21 x20.2,pW28 b22 x20.1 s21]) P_mixed (by kernel_rfl) (H.q C) J X ?_ ?_ ?_ ?_
   ·clear H J X; refine ⟨λk s g w _ _ _ X a H=>Q.val (v:=Pv b8 0) C C C X H (Z.field zaz C C),?_,λk s g w _ _ _ X a H=>Q.val (v:=Pv b8 0) C C C X H (Z.field zaz C C),?_,?_,λk s g w _ _ _ X a H=>Q.val (v:=I (i64.wrap (1-x5))) C C C X H (Z.sub C C),trivial⟩
    ·intro k s g w h1_ h2_ hsp X a H; obtain ⟨b55,s52,s54⟩:=g
     rcases k with _ | k
     ·exact Q.val (v:=.agg #[B x35,s36]) C C C X H (lN (cs':=#[B x35,s36]) A_28 C (X.p 5 C) C C)
     ·simp at h2_
    ·intro k s g w h1_ h2_ hsp X a H; obtain ⟨b55,s52,s54⟩:=g
     rcases k with _ | k
     ·exact Q.val (v:=.agg #[B x35,s36]) C C C X H (lN (cs':=#[B x35,s36]) A_28 C (X.p 5 C) C C)
     ·simp at h2_
    ·intro k s g w h1_ h2_ hsp X a H; obtain ⟨b55,s52,s54⟩:=g
     rcases k with _ | _ | k
     ·exact Q.val (v:=I x5) C C C X H (Z.load1 zbl C (X.p 3 C) C)
     ·exact Q.val (v:=I x5) C C C X H (Z.load1 zbl C (X.p 4 C) C)
     ·simp at h2_
   ·clear H J X; refine ⟨?_,?_,?_,trivial⟩
    ·intro s g w hsp X a H; obtain ⟨b55,s52,s54⟩:=g; refine oq H X C zb2 (zaR F x35 s36 x37 x35 s36 x37 _ (X.s 4 C) (X.s 4 C) x51 hx51) ?_; rintro s52 w X a H; exact nE 45 H (b55,s52,s54) C C (jl 10 (by kernel_rfl) λ_=>C) X
    ·intro s g w hsp X a H; obtain ⟨b55,s52,s54⟩:=g; refine oq H X C zdD (zbd F x51.1 s52 x51.2 (i64.wrap (1-x5)) _ (X.s 0 C) x53 hx53) ?_; rintro s54 w X a H; exact nE 48 H (b55,s52,s54) C C (jl 10 (by kernel_rfl) λ_=>C) X
    ·intro s g w hsp X a H; obtain ⟨b55,s52,s54⟩:=g; have h8_:s 8=true:=hsp 8 (by simp); have X:St w0 w noX [E s2 x3] [D s54 x53.2,D s52 x51.2,condA (s 8) (pt b55 (Cs #[B false,.slice none 0 0] 28)),D s49 x48.2,pW28 b50 x48.1 s49,pI3 b7 x5,D s36 x37,pB170 b8 x35 s36 x38,D s40 x41,pB170 b9 x39 s40 x42,D s21 x20.2,pW28 b22 x20.1 s21]:=X; clear X; rw [h8_] at X; replace X:St w0 w noX [E s2 x3] [D s54 x53.2,D s52 x51.2,pt b55 (Cs #[B false,.slice none 0 0] 28),D s49 x48.2,pW28 b50 x48.1 s49,pI3 b7 x5,D s36 x37,pB170 b8 x35 s36 x38,D s40 x41,pB170 b9 x39 s40 x42,D s21 x20.2,pW28 b22 x20.1 s21]:=X; refine ost 2 #[B x53.1,s54] H X C C C zaa C (occ C (occ (rdo (X.s 0 C)) C)) C (bl C) C ?_; intro w X; exact O.nil ⟨C,(b55,s52,s54),H.to trivial,(λd hd=>by cases (show none=some d from hd)),(λ_ _ _=>C),X⟩
   ·clear H J X; refine ⟨?_,trivial⟩
    ·intro k s g w h1_ h2_ hs0 X a H; obtain ⟨b55,s52,s54⟩:=g
     rcases k with _ | _ | _ | k
     ·refine oaC (j:=0) (cs:=#[B false,.slice none 0 0]) H X C hs0 C C zab C ?_; clear H X a; intro b55 w a X H; exact nE 11 H (b55,s52,s54) C C (jl 10 (by kernel_rfl) λ_=>C) X
     ·refine oaC (j:=1) (cs:=#[B false,.slice none 0 0]) H X C hs0 C C zab C ?_; clear H X a; intro b55 w a X H; exact nE 11 H (b55,s52,s54) C C (jl 10 (by kernel_rfl) λ_=>C) X
     ·refine oaC (j:=2) (cs:=#[B false,.slice none 0 0]) H X C hs0 C C zab C ?_; clear H X a; intro b55 w a X H; exact nE 11 H (b55,s52,s54) C C (jl 10 (by kernel_rfl) λ_=>C) X
     ·simp at h2_
   clear H J X; intro s g a w hs H X; obtain ⟨b55,s52,s54⟩:=g; have h8_:s 8=true:=hs 8 (by simp); refine ksq ?_; replace X:=X.sl [1,0,1,1,1,1,1,1,1,1,1,1]; have J:Fr a 69 [] []:=H.to trivial; refine hb M λx56 hx56 M=>W.drawK (γ:=Value) (L0:=[(3,Pv b7 0),(4,Pv b8 0),(5,Pv b9 0),(8,Pv b22 0),(10,Pv b50 0),(11,Pv b55 0),(31,I x43)]) (L1:=[]) (undef) [11,17,18] [] [0,1,2,3,4,5,6,7,8,9,10,12,13,14,15,16] (λi=>match i with | 2=>[1] | 4=>[3] | 5=>[2,4] | 6=>[5] | 7=>[6] | 8=>[0,7] | 11=>[9,10] | 13=>[12] | 14=>[13] | 15=>[14] | 16=>[11,15] | 17=>[0,1,2,3,4,5,6,7,8,11,12,13] | 18=>[0,1,2,3,4,5,6,7,8,9,10,11,12,13,14,15,16,17] | _=>[]) (λ_=>[]) (λi=>match i with | 11=>[16,17,18] | 17=>[18] | _=>[]) (λ_=>[]) (λi=>match i with | 16=>1 | 17=>1 | 18=>2 | _=>0) (λi=>match i with | 0=>1 | 1=>1 | 2=>1 | 3=>1 | 4=>1 | 5=>1 | 6=>1 | 7=>1 | 8=>1 | 11=>1 | 12=>1 | 13=>1 | 14=>2 | 15=>2 | 16=>2 | 17=>2 | 18=>3 | _=>0) (λ(g:Value) j=>match j with | 0=>.agg #[B x48.1,s49] | 1=>Pv b8 2 | 2=>I x38 | 3=>Pv b9 2 | 4=>I x42 | 5=>I (i64.wrap (x38+x42)) | 6=>I (i64.wrap (2*(i64.wrap (x38+x42)))) | 7=>I (i64.wrap ((i64.wrap (2*(i64.wrap (x38+x42))))+4)) | 8=>.agg #[B x48.1,s49,I (i64.wrap ((i64.wrap (2*(i64.wrap (x38+x42))))+4))] | 9=>.agg #[B x20.1,s21] | 10=>.agg #[B x53.1,s54] | 11=>.agg #[B x56.1,g] | 12=>Pv b8 2 | 13=>I x38 | 14=>I (i64.wrap (4*x38)) | 15=>I (i64.wrap ((i64.wrap (4*x38))+4)) | 16=>.agg #[B x56.1,g,I (i64.wrap ((i64.wrap (4*x38))+4))] | _=>undef) (λk s (g:Value) w=>match k with | 0=>St w0 w noX [E s2 x3] [D s54 x53.2,pW28 b55 x53.1 s54,D s49 x48.2,pW28 b50 x48.1 s49,pI3 b7 x5,D s36 x37,pB170 b8 x35 s36 x38,D s40 x41,pB170 b9 x39 s40 x42,D s21 x20.2,pW28 b22 x20.1 s21] | 1=>St w0 w noX [E s2 x3] [D g x56.2,D s54 x53.2,pW28 b55 x53.1 s54,D s49 x48.2,pW28 b50 x48.1 s49,pI3 b7 x5,D s36 x37,pB170 b8 x35 s36 x38,D s40 x41,pB170 b9 x39 s40 x42,D s21 x20.2,pW28 b22 x20.1 s21] | 2=>St w0 w noX [E s2 x3] [D g x56.2,D s54 x53.2,pW28 b55 x53.1 s54,D s49 x48.2,pW28 b50 x48.1 s49,pI3 b7 x5,D s36 x37,pt b8 (Cs #[B x48.1,s49,I (i64.wrap ((i64.wrap (2*(i64.wrap (x38+x42))))+4))] 170),D s40 x41,pB170 b9 x39 s40 x42,D s21 x20.2,pW28 b22 x20.1 s21] | _=>St w0 w noX [E s2 x3] [D g x56.2,D s54 x53.2,pW28 b55 x53.1 s54,D s49 x48.2,pW28 b50 x48.1 s49,pI3 b7 x5,D s36 x37,pt b8 (Cs #[B x48.1,s49,I (i64.wrap ((i64.wrap (2*(i64.wrap (x38+x42))))+4))] 170),D s40 x41,pt b9 (Cs #[B x56.1,g,I (i64.wrap ((i64.wrap (4*x38))+4))] 170),D s21 x20.2,pW28 b22 x20.1 s21]) P_mixed (by kernel_rfl) (H.q C) J X.drew ?_ ?_ ?_ ?_
   ·clear H J X; refine ⟨?_,λk s g w _ _ _ X a H=>Q.val (v:=Pv b8 2) C C C X H (Z.field zaQ C C),?_,λk s g w _ _ _ X a H=>Q.val (v:=Pv b9 2) C C C X H (Z.field zaQ C C),?_,λk s g w _ _ _ X a H=>Q.val (v:=I (i64.wrap (x38+x42))) C C C X H (Z.add C C),λk s g w _ _ _ X a H=>Q.val (v:=I (i64.wrap (2*(i64.wrap (x38+x42))))) C C C X H (Z.mul C C),λk s g w _ _ _ X a H=>Q.val (v:=I (i64.wrap ((i64.wrap (2*(i64.wrap (x38+x42))))+4))) C C C X H (Z.add C C),λk s g w _ _ _ X a H=>Q.val (v:=.agg #[B x48.1,s49,I (i64.wrap ((i64.wrap (2*(i64.wrap (x38+x42))))+4))]) C C C X H (Z.buildS (cs':=#[B x48.1,s49,I (i64.wrap ((i64.wrap (2*(i64.wrap (x38+x42))))+4))]) zcb zao C (by kernel_rfl)),?_,?_,λk s g w _ _ _ X a H=>Q.val (v:=Pv b8 2) C C C X H (Z.field zaQ C C),?_,λk s g w _ _ _ X a H=>Q.val (v:=I (i64.wrap (4*x38))) C C C X H (Z.mul C C),λk s g w _ _ _ X a H=>Q.val (v:=I (i64.wrap ((i64.wrap (4*x38))+4))) C C C X H (Z.add C C),λk s g w _ _ _ X a H=>Q.val (v:=.agg #[B x56.1,g,I (i64.wrap ((i64.wrap (4*x38))+4))]) C C C X H (Z.buildS (cs':=#[B x56.1,g,I (i64.wrap ((i64.wrap (4*x38))+4))]) zcb zao C (by kernel_rfl)),trivial⟩
    ·intro k s s57 w h1_ h2_ hsp X a H
     rcases k with _ | _ | k
     ·exact Q.val (v:=.agg #[B x48.1,s49]) C C C X H (lN (cs':=#[B x48.1,s49]) A_28 C (X.p 3 C) C C)
     ·exact Q.val (v:=.agg #[B x48.1,s49]) C C C X H (lN (cs':=#[B x48.1,s49]) A_28 C (X.p 4 C) C C)
     ·simp at h2_
    ·intro k s s57 w h1_ h2_ hsp X a H
     rcases k with _ | _ | k
     ·exact Q.val (v:=I x38) C C C X H (Z.load1 zaf C (X.p 6 C) C)
     ·exact Q.val (v:=I x38) C C C X H (Z.load1 zaf C (X.p 7 C) C)
     ·simp at h2_
    ·intro k s s57 w h1_ h2_ hsp X a H
     rcases k with _ | _ | k
     ·exact Q.val (v:=I x42) C C C X H (Z.load1 zaf C (X.p 8 C) C)
     ·exact Q.val (v:=I x42) C C C X H (Z.load1 zaf C (X.p 9 C) C)
     ·simp at h2_
    ·intro k s s57 w h1_ h2_ hsp X a H
     rcases k with _ | k
     ·exact Q.val (v:=.agg #[B x20.1,s21]) C C C X H (lN (cs':=#[B x20.1,s21]) A_28 C (X.p 10 C) C C)
     ·simp at h2_
    ·intro k s s57 w h1_ h2_ hsp X a H
     rcases k with _ | k
     ·exact Q.val (v:=.agg #[B x53.1,s54]) C C C X H (lN (cs':=#[B x53.1,s54]) A_28 C (X.p 1 C) C C)
     ·simp at h2_
    ·intro k s s57 w h1_ h2_ hsp X a H
     rcases k with _ | _ | k
     ·exact Q.val (v:=I x38) C C C X H (Z.load1 zaf C (X.p 6 C) C)
     ·exact Q.val (v:=I x38) C C C X H (Z.load1 zaf C (X.p 7 C) C)
     ·simp at h2_
   ·clear H J X; refine ⟨?_,?_,?_,trivial⟩
    ·intro s s57 w hsp X a H; refine oq H X C zdC (zbB F x20.1 s21 x20.2 x53.1 s54 x53.2 _ (X.s 9 C) (X.s 0 C) x56 hx56) ?_; rintro s57 w X a H; exact nE 60 H s57 C C (jl 19 (by kernel_rfl) λ_=>C) X
    ·intro s s57 w hsp X a H; refine ost 7 #[B x48.1,s49,I (i64.wrap ((i64.wrap (2*(i64.wrap (x38+x42))))+4))] H X C C C zan C (occ C (occ (rdo (X.s 3 C)) (occ C C))) C (bl C) C ?_; intro w X; exact O.nil ⟨C,s57,H.to trivial,(λd hd=>by cases (show none=some d from hd)),(λ_ _ _=>C),X⟩
    ·intro s s57 w hsp X a H; refine ost 9 #[B x56.1,s57,I (i64.wrap ((i64.wrap (4*x38))+4))] H X C C C zan C (occ C (occ (rdo (X.s 0 C)) (occ C C))) C (bl C) C ?_; intro w X; exact O.nil ⟨C,s57,H.to trivial,(λd hd=>by cases (show none=some d from hd)),(λ_ _ _=>C),X⟩
   ·clear H J X; exact trivial
   clear H J X; intro s s57 a w hs H X; refine kbn<|ksq<|?_; replace X:=X.sl [1,0,0,1,0,1,0,1,0,1,1,1]; obtain ⟨x58,hx58,M⟩:=hm_b M; rw [oj hx58] at X; obtain ⟨x59,hx59,M⟩:=hm_b M; rw [oj hx59] at X; refine wrL (l:=[0,1]) C<|ov H C (Z.add C C) λa H=>mv H C λa H=>O.nil<|?_; replace X:=X.fr 6; replace X:=X.fr 6; replace X:=X.fr 6; replace X:=X.fr 3; replace X:=X.fr 6; replace X:=X.fr 5; replace X:=X.fr 6; refine kth ⟨(k44,x48.1,s49,x48.2,x59,x56.1,s57,x56.2,x58,i64.wrap (x43+1)),⟨H.q C,X,?_⟩,Nat.lt_succ_self _⟩; rw [hrec44] at M; exact M
  ·replace M:=hm_n M hc45; refine W.exit<|kte<|kte<|kbk<|?_; replace X:=X.sl [0,1,1,1,1]; exact kth ⟨x35,s36,x37,x38,x39,s40,x41,x42,H.q C,X,M⟩
 ·clear H X M a; (try clear w); rintro a w ⟨x27,s28,x29,x30,x31,s32,x33,x34,H,X,M⟩; unfold zen at M; refine W.seq ?_; have J:Fr a 69 [] []:=H.to trivial; refine W.drawK (γ:=Unit) (L0:=[(4,Pv b8 0),(5,Pv b9 0)]) (L1:=[]) () [2,3] [] [0,1] (λi=>match i with | 2=>[0] | 3=>[0,1,2] | _=>[]) (λ_=>[]) (λi=>match i with | 2=>[3] | _=>[]) (λ_=>[]) (λi=>match i with | 3=>1 | _=>0) (λi=>match i with | 1=>1 | 2=>1 | 3=>2 | _=>0) (λ(g:Unit) j=>match j with | 0=>.agg #[B x27,s28,I x30] | 1=>.agg #[B x31,s32,I x34] | _=>undef) (λk s (g:Unit) w=>match k with | 0=>St w0 w noX [E s2 x3] [D s28 x29,pB170 b8 x27 s28 x30,D s32 x33,pB170 b9 x31 s32 x34] | 1=>St w0 w noX [E s2 x3] [D s28 x29,pB170 b8 x27 s28 x30,D s32 x33,pB170 b9 x31 s32 x34] | _=>St w0 w noX [E s2 x3] [D s28 x29,pB170 b8 x27 s28 x30,D s32 x33,pB170 b9 x31 s32 x34]) P_mixed (by kernel_rfl) (H.q C) J X.drew ?_ ?_ ?_ ?_
  ·clear H J X; refine ⟨?_,?_,trivial⟩
   ·intro k s g w h1_ h2_ hsp X a H
    rcases k with _ | k
    ·exact Q.val (v:=.agg #[B x27,s28,I x30]) C C C X H (lN (cs':=#[B x27,s28,I x30]) A_170 C (X.p 1 C) C C)
    ·simp at h2_
   ·intro k s g w h1_ h2_ hsp X a H
    rcases k with _ | _ | k
    ·exact Q.val (v:=.agg #[B x31,s32,I x34]) C C C X H (lN (cs':=#[B x31,s32,I x34]) A_170 C (X.p 3 C) C C)
    ·exact Q.val (v:=.agg #[B x31,s32,I x34]) C C C X H (lN (cs':=#[B x31,s32,I x34]) A_170 C (X.p 3 C) C C)
    ·simp at h2_
  ·clear H J X; refine ⟨?_,?_,trivial⟩
   ·intro s g w hsp X a H; refine ost 1 #[B x27,s28,I x30] H X C C C zan C (occ C (occ (rdo (X.s 0 C)) (occ C C))) C (bl C) C ?_; intro w X; exact nG H ⟨(λd hd=>by cases (show none=some d from hd)),(λ_ _ _=>C),X⟩
   ·intro s g w hsp X a H; refine ost 3 #[B x31,s32,I x34] H X C C C zan C (occ C (occ (rdo (X.s 2 C)) (occ C C))) C (bl C) C ?_; intro w X; exact nG H ⟨(λd hd=>by cases (show none=some d from hd)),(λ_ _ _=>C),X⟩
  ·clear H J X; exact trivial
  clear H J X; intro s g a w hs H X; refine ksq<|W.ret<|?_; obtain rfl:=oj M; refine post2 H C (rkn (cs':=#[B x27,s28,I x30]) C zdA zan (X.p 1 C) (bl C) C) (rkn (cs':=#[B x31,s32,I x34]) C zdA zan (X.p 3 C) (bl C) C) ?_; replace X:=X.sl [1,0,1]; exact ⟨(s28,s32),C,X.noB⟩
def zdN (F:Nat) (x1:Int) (x27:Bool) (x29:List Int) (x30:Int):Option (Bool × (List Int) × Int) :=
  if (bitand .i64 x1 2)=(2:Int) then (none) else (some (x27,x29,x30))
def zfX (F:Nat) (x1:Int) (x2:Bool) (x4:List Int) (x5 x6:Int):Option (Bool × (List Int) × Int) :=
  (zgq F x6).bind λx9=>(zbi F x9.1 x9.2.1 (-1)).bind λx12=>(zbO F x12.1 x12.2 x2 x4).bind λx14=>(some (i64.wrap ((i64.wrap (x9.2.2+x5))+1))).bind λx17=>(zbA F x2 x4 x14.1 x14.2).bind λx18=>if x18.1>(0:Int) then (none) else ((zba F x2 x4).bind λx20=>if x20<(0:Int) then (none) else ((zfh F x2 x4 x5 x6).bind λx22=>if (bitand .i64 x1 1)=(1:Int) then (zdN F x1 x22.2.2.2.1 x22.2.2.2.2.1 x22.2.2.2.2.2) else (zdN F x1 x22.1 x22.2.1 x22.2.2.1)))
theorem zhD (F:Nat) (x1:Int) (x2:Bool) (s3:Value) (x4:List Int) (x5 x6:Int) (w0:World) (h_s3:rdEOK (hp w0) 1 E61 s3 x4) (r:Bool × (List Int) × Int) (M:zfX F x1 x2 x4 x5 x6=some r) :
    Ret P 132 #[I x1,.agg #[B x2,s3,I x5],I x6] w0 (G:=Value) (λg1=>.agg #[B r.1,g1,I r.2.2]) (λg1 w=>St w0 w noX [] [D g1 r.2.1]):=by
 unfold zfX at M; refine roW Tryz.func132 C C C (λa H=>?_); have X:St w0 w0 noX [E s3 x4] []:=Sbw (lnc (lendRd h_s3) lnn); refine sg (l:=[0,1]) C<|O.box (cs:=#[B x2,s3,I x5]) H X C C C C<|?_; intro b7 w a hb7 X H; refine O.alloc (cs:=#[B false,.slice none 0 0,I 0]) H X C C zao C ?_; intro b8 w a hb8 X H; refine nk<|sg (l:=[0,1,2,3]) C<|mv H C λa H=>?_; refine hb M λx9 hx9 M=>oq H X C zig (zhd F x6 _ x9 hx9) ?_; rintro s10 w X a H; refine O.alloc (cs:=#[B false,.slice none 0 0,I 0]) H X C C zao C ?_; intro b11 w a hb11 X H; refine ost 0 #[B x9.1,s10,I x9.2.2] H X C C C zan C (occ C (occ (rdo (X.s 1 C)) (occ C C))) C (bl C) C ?_; intro w X; refine nk<|W.seq<|?_; have J:Fr a 77 [] []:=H.to trivial; refine hb M λx12 hx12 M=>W.drawK (γ:=Value) (L0:=[(0,I x1),(2,I x6),(4,Pv b7 0),(6,Pv b8 0),(7,Pv b11 0)]) (L1:=[]) (undef) [2,6] [] [0,1,3,4,5] (λi=>match i with | 1=>[0] | 2=>[1] | 4=>[3] | 5=>[2,4] | 6=>[0,1,2,3,4,5] | _=>[]) (λ_=>[]) (λi=>match i with | 2=>[5,6] | _=>[]) (λ_=>[]) (λi=>match i with | 5=>1 | 6=>1 | _=>0) (λi=>match i with | 2=>1 | 3=>1 | 4=>1 | 5=>1 | 6=>2 | _=>0) (λ(g:Value) j=>match j with | 0=>Pv b11 0 | 1=>.agg #[B x9.1,s10] | 2=>.agg #[B x12.1,g] | 3=>Pv b11 2 | 4=>I x9.2.2 | 5=>.agg #[B x12.1,g,I x9.2.2] | _=>undef) (λk s (g:Value) w=>match k with | 0=>St w0 w noX [E s3 x4] [pB170 b11 x9.1 s10 x9.2.2,D s10 x9.2.1,pt b8 (Cs #[B false,.slice none 0 0,I 0] 170),pB170 b7 x2 s3 x5] | 1=>St w0 w noX [E s3 x4] [D g x12.2,pB170 b11 x9.1 s10 x9.2.2,D s10 x9.2.1,pt b8 (Cs #[B false,.slice none 0 0,I 0] 170),pB170 b7 x2 s3 x5] | _=>St w0 w noX [E s3 x4] [D g x12.2,pt b11 (Cs #[B x12.1,g,I x9.2.2] 170),D s10 x9.2.1,pt b8 (Cs #[B false,.slice none 0 0,I 0] 170),pB170 b7 x2 s3 x5]) P_mixed (by kernel_rfl) (H.q C) J X.drew ?_ ?_ ?_ ?_
 ·clear H J X; refine ⟨λk s g w _ _ _ X a H=>Q.val (v:=Pv b11 0) C C C X H (Z.field zaz C C),?_,λk s g w _ _ _ X a H=>Q.val (v:=Pv b11 2) C C C X H (Z.field zaQ C C),?_,λk s g w _ _ _ X a H=>Q.val (v:=.agg #[B x12.1,g,I x9.2.2]) C C C X H (Z.buildS (cs':=#[B x12.1,g,I x9.2.2]) zcb zao C (by kernel_rfl)),trivial⟩
  ·intro k s s13 w h1_ h2_ hsp X a H
   rcases k with _ | k
   ·exact Q.val (v:=.agg #[B x9.1,s10]) C C C X H (lN (cs':=#[B x9.1,s10]) A_28 C (X.p 0 C) C C)
   ·simp at h2_
  ·intro k s s13 w h1_ h2_ hsp X a H
   rcases k with _ | _ | k
   ·exact Q.val (v:=I x9.2.2) C C C X H (Z.load1 zaf C (X.p 0 C) C)
   ·exact Q.val (v:=I x9.2.2) C C C X H (Z.load1 zaf C (X.p 1 C) C)
   ·simp at h2_
 ·clear H J X; refine ⟨?_,?_,trivial⟩
  ·intro s s13 w hsp X a H; refine oq H X C zdD (zbd F x9.1 s10 x9.2.1 (-1) _ (X.s 1 C) x12 hx12) ?_; rintro s13 w X a H; exact nE 18 H s13 C C (jl 7 (by kernel_rfl) λ_=>C) X
  ·intro s s13 w hsp X a H; refine ost 1 #[B x12.1,s13,I x9.2.2] H X C C C zan C (occ C (occ (rdo (X.s 0 C)) (occ C C))) C (bl C) C ?_; intro w X; exact O.nil ⟨C,s13,H.to trivial,(λd hd=>by cases (show none=some d from hd)),(λ_ _ _=>C),X⟩
 ·clear H J X; exact trivial
 clear H J X; intro s s13 a w hs H X; refine ksq ?_; replace X:=X.sl [1,1,0,1,1]; refine W.seq ?_; have J:Fr a 77 [] []:=H.to trivial; obtain ⟨x14,hx14,M⟩:=hm_b M; replace X:=X.drew; replace X:=X.emp; refine W.drawK (γ:=Nat × Value) (L0:=[(0,I x1),(2,I x6),(4,Pv b7 0),(6,Pv b8 0),(7,Pv b11 0)]) (L1:=[]) (0,undef) [4,13] [12] [0,1,2,3,5,6,7,8,9,10,11] (λi=>match i with | 1=>[0] | 3=>[2] | 4=>[1,3] | 6=>[5] | 8=>[7] | 9=>[6,8] | 10=>[9] | 11=>[4,10] | 13=>[0,1,2,3,4,5,6,7,8,9,10,11,12] | _=>[]) (λi=>match i with | 13=>[12] | _=>[]) (λi=>match i with | 4=>[11,13] | 12=>[13] | _=>[]) (λ_=>[]) (λi=>match i with | 11=>1 | 13=>1 | _=>0) (λi=>match i with | 4=>1 | 5=>1 | 6=>1 | 7=>1 | 8=>1 | 9=>1 | 10=>1 | 11=>1 | 12=>1 | 13=>2 | _=>0) (λ(g:Nat × Value) j=>match j with | 0=>Pv b11 0 | 1=>.agg #[B x12.1,s13] | 2=>Pv b7 0 | 3=>.agg #[B x2,s3] | 4=>.agg #[B x14.1,g.2] | 5=>Pv b11 2 | 6=>I x9.2.2 | 7=>Pv b7 2 | 8=>I x5 | 9=>I (i64.wrap (x9.2.2+x5)) | 10=>I (i64.wrap ((i64.wrap (x9.2.2+x5))+1)) | 11=>.agg #[B x14.1,g.2,I (i64.wrap ((i64.wrap (x9.2.2+x5))+1))] | 12=>Pv g.1 0 | _=>undef) (λk s (g:Nat × Value) w=>match k with | 0=>St w0 w noX [E s3 x4] [condA (s 12) (pt g.1 (Cs #[B false,.slice none 0 0,I 0] 170)),D s13 x12.2,pB170 b11 x12.1 s13 x9.2.2,pt b8 (Cs #[B false,.slice none 0 0,I 0] 170),pB170 b7 x2 s3 x5] | 1=>St w0 w noX [E s3 x4] [D g.2 x14.2,condA (s 12) (pt g.1 (Cs #[B false,.slice none 0 0,I 0] 170)),D s13 x12.2,pB170 b11 x12.1 s13 x9.2.2,pt b8 (Cs #[B false,.slice none 0 0,I 0] 170),pB170 b7 x2 s3 x5] | _=>St w0 w noX [E s3 x4] [D g.2 x14.2,pt g.1 (Cs #[B x14.1,g.2,I (i64.wrap ((i64.wrap (x9.2.2+x5))+1))] 170),D s13 x12.2,pB170 b11 x12.1 s13 x9.2.2,pt b8 (Cs #[B false,.slice none 0 0,I 0] 170),pB170 b7 x2 s3 x5]) P_mixed (by kernel_rfl) (H.q C) J X ?_ ?_ ?_ ?_
 ·clear H J X; refine ⟨λk s g w _ _ _ X a H=>Q.val (v:=Pv b11 0) C C C X H (Z.field zaz C C),?_,λk s g w _ _ _ X a H=>Q.val (v:=Pv b7 0) C C C X H (Z.field zaz C C),?_,λk s g w _ _ _ X a H=>Q.val (v:=Pv b11 2) C C C X H (Z.field zaQ C C),?_,λk s g w _ _ _ X a H=>Q.val (v:=Pv b7 2) C C C X H (Z.field zaQ C C),?_,λk s g w _ _ _ X a H=>Q.val (v:=I (i64.wrap (x9.2.2+x5))) C C C X H (Z.add C C),λk s g w _ _ _ X a H=>Q.val (v:=I (i64.wrap ((i64.wrap (x9.2.2+x5))+1))) C C C X H (Z.add C C),λk s g w _ _ _ X a H=>Q.val (v:=.agg #[B x14.1,g.2,I (i64.wrap ((i64.wrap (x9.2.2+x5))+1))]) C C C X H (Z.buildS (cs':=#[B x14.1,g.2,I (i64.wrap ((i64.wrap (x9.2.2+x5))+1))]) zcb zao C (by kernel_rfl)),trivial⟩
  ·intro k s g w h1_ h2_ hsp X a H; obtain ⟨b16,s15⟩:=g
   rcases k with _ | k
   ·exact Q.val (v:=.agg #[B x12.1,s13]) C C C X H (lN (cs':=#[B x12.1,s13]) A_28 C (X.p 2 C) C C)
   ·simp at h2_
  ·intro k s g w h1_ h2_ hsp X a H; obtain ⟨b16,s15⟩:=g
   rcases k with _ | k
   ·exact Q.val (v:=.agg #[B x2,s3]) C C C X H (lN (cs':=#[B x2,s3]) A_28 C (X.p 4 C) C C)
   ·simp at h2_
  ·intro k s g w h1_ h2_ hsp X a H; obtain ⟨b16,s15⟩:=g
   rcases k with _ | _ | k
   ·exact Q.val (v:=I x9.2.2) C C C X H (Z.load1 zaf C (X.p 2 C) C)
   ·exact Q.val (v:=I x9.2.2) C C C X H (Z.load1 zaf C (X.p 3 C) C)
   ·simp at h2_
  ·intro k s g w h1_ h2_ hsp X a H; obtain ⟨b16,s15⟩:=g
   rcases k with _ | _ | k
   ·exact Q.val (v:=I x5) C C C X H (Z.load1 zaf C (X.p 4 C) C)
   ·exact Q.val (v:=I x5) C C C X H (Z.load1 zaf C (X.p 5 C) C)
   ·simp at h2_
 ·clear H J X; refine ⟨?_,?_,trivial⟩
  ·intro s g w hsp X a H; obtain ⟨b16,s15⟩:=g; refine oq H X C zdC (zbB F x12.1 s13 x12.2 x2 s3 x4 _ (X.s 1 C) (X.b 0 C) x14 hx14) ?_; rintro s15 w X a H; exact nE 26 H (b16,s15) C C (jl 14 (by kernel_rfl) λ_=>C) X
  ·intro s g w hsp X a H; obtain ⟨b16,s15⟩:=g; have h12_:s 12=true:=hsp 12 (by simp); have X:St w0 w noX [E s3 x4] [D s15 x14.2,condA (s 12) (pt b16 (Cs #[B false,.slice none 0 0,I 0] 170)),D s13 x12.2,pB170 b11 x12.1 s13 x9.2.2,pt b8 (Cs #[B false,.slice none 0 0,I 0] 170),pB170 b7 x2 s3 x5]:=X; clear X; rw [h12_] at X; replace X:St w0 w noX [E s3 x4] [D s15 x14.2,pt b16 (Cs #[B false,.slice none 0 0,I 0] 170),D s13 x12.2,pB170 b11 x12.1 s13 x9.2.2,pt b8 (Cs #[B false,.slice none 0 0,I 0] 170),pB170 b7 x2 s3 x5]:=X; refine ost 1 #[B x14.1,s15,I (i64.wrap ((i64.wrap (x9.2.2+x5))+1))] H X C C C zan C (occ C (occ (rdo (X.s 0 C)) (occ C C))) C (bl C) C ?_; intro w X; exact O.nil ⟨C,(b16,s15),H.to trivial,(λd hd=>by cases (show none=some d from hd)),(λ_ _ _=>C),X⟩
 ·clear H J X; refine ⟨?_,trivial⟩
  ·intro k s g w h1_ h2_ hs0 X a H; obtain ⟨b16,s15⟩:=g
   rcases k with _ | _ | k
   ·refine oaC (j:=0) (cs:=#[B false,.slice none 0 0,I 0]) H X C hs0 C C zao C ?_; clear H X a; intro b16 w a X H; exact nE 8 H (b16,s15) C C (jl 14 (by kernel_rfl) λ_=>C) X
   ·refine oaC (j:=1) (cs:=#[B false,.slice none 0 0,I 0]) H X C hs0 C C zao C ?_; clear H X a; intro b16 w a X H; exact nE 8 H (b16,s15) C C (jl 14 (by kernel_rfl) λ_=>C) X
   ·simp at h2_
 clear H J X; intro s g a w hs H X; obtain ⟨b16,s15⟩:=g; have h12_:s 12=true:=hs 12 (by simp); refine ksq ?_; replace X:=X.sl [1,1,0,0,1,1]; obtain ⟨x17,hx17,M⟩:=hm_b M; rw [oj hx17] at X; refine sg (l:=[0,1,2,3]) C<|mv H C λa H=>ov (v:=I (bitand .i64 x1 1)) H C (Z.bitand C C) λa H=>ov H C (Z.eql C C) λa H=>mv H C λa H=>nk<|W.seq<|sg (l:=[0,1,2,3,4,5,6,7,8,9]) C<|ov H C (Z.field zaz C C) λa H=>ov H C (lN (cs':=#[B x2,s3]) A_28 C (X.p 3 C) C C) λa H=>?_; refine ov H C (Z.field zaz C C) λa H=>ov H C (lN (cs':=#[B x14.1,s15]) A_28 C (X.p 1 C) C C) λa H=>?_; refine hb M λx18 hx18 M=>oq H X C zfT (zbY F x2 s3 x4 x14.1 s15 x14.2 _ (X.b 0 C) (X.s 0 C) x18 hx18) ?_; rintro _ w X a H; refine mv H C λa H=>ex H C C C λa H=>ex H C C C λa H=>mv2 H C C λa H=>nk<|sg (l:=[0,1]) C<|mv H C λa H=>ov H C (Z.gtr C C) λa H=>nk<|?_; refine W.ifdI H C (λhc19=>?_) (λhc19=>?_)
 ·nomatch hm_p M hc19
 ·replace M:=hm_n M hc19; refine W.skip<|ksq<|?_; replace X:=X.sl [0,0,1,1]; refine W.seq<|sg (l:=[0,1,2,3]) C<|ov H C (Z.field zaz C C) λa H=>ov H C (lN (cs':=#[B x2,s3]) A_28 C (X.p 1 C) C C) λa H=>?_; refine hb M λx20 hx20 M=>oq H X C zcM (za0 F x2 s3 x4 _ (X.b 0 C) x20 hx20) ?_; rintro _ w X a H; refine ov H C (Z.lss C C) λa H=>nk<|?_; refine W.ifdI H C (λhc21=>?_) (λhc21=>?_)
  ·nomatch hm_p M hc21
  ·replace M:=hm_n M hc21; refine W.skip<|ksq<|sg (l:=[0,1,2,3,4,5,6,7,8,9]) C<|ov H C (lN (cs':=#[B x2,s3,I x5]) A_170 C (X.p 1 C) C C) λa H=>mv H C λa H=>?_; refine hb M λx22 hx22 M=>oq H X C zjc (zhe F x2 s3 x4 x5 x6 _ (X.b 0 C) x22 hx22) ?_; rintro ⟨s23,s24⟩ w X a H; refine mv H C λa H=>ex H C C C λa H=>ex H C C C λa H=>O.alloc (cs:=#[B false,.slice none 0 0,I 0]) H X C C zao C<|?_; intro b25 w a hb25 X H; refine O.alloc (cs:=#[B false,.slice none 0 0,I 0]) H X C C zao C ?_; intro b26 w a hb26 X H; refine ost 1 #[B x22.1,s23,I x22.2.2.1] H X C C C zan C (occ C (occ (rdo (X.s 2 C)) (occ C C))) C (bl C) C ?_; intro w X; refine ost 0 #[B x22.2.2.2.1,s24,I x22.2.2.2.2.2] H X C C C zan C (occ C (occ (rdo (X.s 3 C)) (occ C C))) C (bl C) C ?_; intro w X; refine nk ?_; replace X:=X.sl [1,1,1,1,1]; refine W.seqR (λa w=>∃ (x27:Bool) (s28:Value) (x29:List Int) (x30:Int),Fr a 77 [] [(0,I x1),(6,Pv b8 0),(12,Pv b25 0)]∧St w0 w noX [E s3 x4] [pt b8 (Cs #[B false,.slice none 0 0,I 0] 170),D s28 x29,pB170 b25 x27 s28 x30]∧zdN F x1 x27 x29 x30=some r) ?_ ?_
   ·refine sg (l:=[0]) C<|mv H C λa H=>nk<|?_; refine W.ifdI H C (λhc32=>?_) (λhc32=>?_)
    ·replace M:=hm_p M hc32; refine wrL (l:=[0,1]) C<|ov H C (lN (cs':=#[B x22.2.2.2.1,s24,I x22.2.2.2.2.2]) A_170 C (X.p 0 C) C C) λa H=>ost 1 #[B x22.2.2.2.1,s24,I x22.2.2.2.2.2] H X C C C zan C (occ C (occ (rdo (X.s 3 C)) (occ C C))) C (bl C) C<|?_; intro w X; refine O.nil ?_; replace X:=X.fr 1; replace X:=X.fr 3; replace X:=X.fr 4; replace X:=X.sl [1,1,1]; exact kth ⟨x22.2.2.2.1,s24,x22.2.2.2.2.1,x22.2.2.2.2.2,H.q C,X,M⟩
    ·replace M:=hm_n M hc32; refine W.skip ?_; replace X:=X.fr 1; replace X:=X.fr 2; replace X:=X.fr 4; replace X:=X.sl [1,1,1]; exact kth ⟨x22.1,s23,x22.2.1,x22.2.2.1,H.q C,X,M⟩
   ·clear H X M a; (try clear w); rintro a w ⟨x27,s28,x29,x30,H,X,M⟩; unfold zdN at M; refine W.seq<|sg (l:=[0,1,2]) C<|mv H C λa H=>ov (v:=I (bitand .i64 x1 2)) H C (Z.bitand C C) λa H=>ov H C (Z.eql C C) λa H=>nk<|?_; refine W.ifdI H C (λhc31=>?_) (λhc31=>?_)
    ·nomatch hm_p M hc31
    ·replace M:=hm_n M hc31; refine W.skip<|ksq<|sg (l:=[0,1]) C<|ov H C (lN (cs':=#[B x27,s28,I x30]) A_170 C (X.p 2 C) C C) λa H=>ost 0 #[B x27,s28,I x30] H X C C C zan C (occ C (occ (rdo (X.s 1 C)) (occ C C))) C (bl C) C<|?_; intro w X; refine nk ?_; replace X:=X.sl [1,1]; refine W.ret ?_; obtain rfl:=oj M; refine post1 H C (rkn (cs':=#[B x27,s28,I x30]) C zdA zan (X.p 0 C) (bl C) C) ?_; replace X:=X.sl [0,1]; exact ⟨s28,C,X.noB⟩
def zad (F:Nat) (x1 x2:Int):Option (Bool × (List Int) × Int) :=
  if (Int.tmod x1 1296000000000)<(0:Int) then (none) else ((zgq F x2).bind λx5=>(zaN F (i64.wrap (2*(Int.tmod (Int.tmod x1 1296000000000) 324000000000)))).bind λx8=>(za8 F x5.1 x5.2.1 x8.1 x8.2).bind λx10=>(zaN F 1296000000000).bind λx12=>(zb8 F x10.1 x10.2 x12.1 x12.2).bind λx14=>(some (i64.wrap (x5.2.2+1))).bind λx17=>(zfX F (i64.wrap (Int.tdiv (Int.tmod x1 1296000000000) 324000000000)) x14.1 x14.2 x17 x2).bind λx18=>some x18)
theorem zgr (F:Nat) (x1 x2:Int) (w0:World) (r:Bool × (List Int) × Int) (M:zad F x1 x2=some r) :
    Ret P 102 #[I x1,I x2] w0 (G:=Value) (λg1=>.agg #[B r.1,g1,I r.2.2]) (λg1 w=>St w0 w noX [] [D g1 r.2.1]):=by
 unfold zad at M; refine roW Tryz.func102 C C C (λa H=>?_); have X:St w0 w0 noX [] []:=Sbw lnn; refine sg (l:=[0]) C<|O.alloc (cs:=#[B false,.slice none 0 0,I 0]) H X C C zao C<|?_; intro b3 w a hb3 X H; refine nk<|sg (l:=[0,1,2]) C<|mv H C λa H=>ov (v:=I (Int.tmod x1 1296000000000)) H C (Z.rem (q:=1296000000000) C C (by decide)) λa H=>mv H C λa H=>nk<|W.seq<|sg (l:=[0,1]) C<|mv H C λa H=>ov H C (Z.lss C C) λa H=>?_; refine nk ?_; refine W.ifdI H C (λhc4=>?_) (λhc4=>?_)
 ·nomatch hm_p M hc4
 ·replace M:=hm_n M hc4; refine W.skip<|ksq<|sg (l:=[0,1,2,3]) C<|mv H C λa H=>?_; refine hb M λx5 hx5 M=>oq H X C zig (zhd F x2 _ x5 hx5) ?_; rintro s6 w X a H; refine O.alloc (cs:=#[B false,.slice none 0 0,I 0]) H X C C zao C ?_; intro b7 w a hb7 X H; refine ost 0 #[B x5.1,s6,I x5.2.2] H X C C C zan C (occ C (occ (rdo (X.s 1 C)) (occ C C))) C (bl C) C ?_; intro w X; refine nk<|W.seq<|?_; have J:Fr a 33 [] []:=H.to trivial; obtain ⟨x8,hx8,M⟩:=hm_b M; obtain ⟨x10,hx10,M⟩:=hm_b M; obtain ⟨x12,hx12,M⟩:=hm_b M; obtain ⟨x14,hx14,M⟩:=hm_b M; replace X:=X.drew; replace X:=X.emp; refine W.drawK (γ:=Nat × Value × Value × Value × Value) (L0:=[(0,I (Int.tmod x1 1296000000000)),(1,I x2),(4,Pv b3 0),(5,Pv b7 0)]) (L1:=[]) (0,undef,undef,undef,undef) [5,6,7,8,14] [13] [0,1,2,3,4,9,10,11,12] (λi=>match i with | 1=>[0] | 3=>[2] | 4=>[3] | 5=>[4] | 6=>[1,5] | 7=>[6] | 8=>[6,7] | 10=>[9] | 11=>[10] | 12=>[8,11] | 14=>[0,1,2,3,4,5,6,7,8,9,10,11,12,13] | _=>[]) (λi=>match i with | 14=>[13] | _=>[]) (λi=>match i with | 5=>[6,7,8,12,14] | 6=>[7,8,12,14] | 7=>[8,12,14] | 8=>[12,14] | 13=>[14] | _=>[]) (λ_=>[]) (λi=>match i with | 6=>1 | 7=>2 | 8=>3 | 12=>4 | 14=>4 | _=>0) (λi=>match i with | 0=>1 | 1=>1 | 5=>1 | 6=>2 | 7=>3 | 8=>4 | 9=>4 | 10=>4 | 11=>4 | 12=>4 | 13=>4 | 14=>5 | _=>0) (λ(g:Nat × Value × Value × Value × Value) j=>match j with | 0=>Pv b7 0 | 1=>.agg #[B x5.1,s6] | 2=>I (Int.tmod x1 1296000000000) | 3=>I (Int.tmod (Int.tmod x1 1296000000000) 324000000000) | 4=>I (i64.wrap (2*(Int.tmod (Int.tmod x1 1296000000000) 324000000000))) | 5=>.agg #[B x8.1,g.2.1] | 6=>.agg #[B x10.1,g.2.2.1] | 7=>.agg #[B x12.1,g.2.2.2.1] | 8=>.agg #[B x14.1,g.2.2.2.2] | 9=>Pv b7 2 | 10=>I x5.2.2 | 11=>I (i64.wrap (x5.2.2+1)) | 12=>.agg #[B x14.1,g.2.2.2.2,I (i64.wrap (x5.2.2+1))] | 13=>Pv g.1 0 | _=>undef) (λk s (g:Nat × Value × Value × Value × Value) w=>match k with | 0=>St w0 w noX [] [condA (s 13) (pt g.1 (Cs #[B false,.slice none 0 0,I 0] 170)),pB170 b7 x5.1 s6 x5.2.2,D s6 x5.2.1,pt b3 (Cs #[B false,.slice none 0 0,I 0] 170)] | 1=>St w0 w noX [] [D g.2.1 x8.2,condA (s 13) (pt g.1 (Cs #[B false,.slice none 0 0,I 0] 170)),pB170 b7 x5.1 s6 x5.2.2,D s6 x5.2.1,pt b3 (Cs #[B false,.slice none 0 0,I 0] 170)] | 2=>St w0 w noX [] [D g.2.2.1 x10.2,D g.2.1 x8.2,condA (s 13) (pt g.1 (Cs #[B false,.slice none 0 0,I 0] 170)),pB170 b7 x5.1 s6 x5.2.2,D s6 x5.2.1,pt b3 (Cs #[B false,.slice none 0 0,I 0] 170)] | 3=>St w0 w noX [] [D g.2.2.2.1 x12.2,D g.2.2.1 x10.2,D g.2.1 x8.2,condA (s 13) (pt g.1 (Cs #[B false,.slice none 0 0,I 0] 170)),pB170 b7 x5.1 s6 x5.2.2,D s6 x5.2.1,pt b3 (Cs #[B false,.slice none 0 0,I 0] 170)] | 4=>St w0 w noX [] [D g.2.2.2.2 x14.2,D g.2.2.2.1 x12.2,D g.2.2.1 x10.2,D g.2.1 x8.2,condA (s 13) (pt g.1 (Cs #[B false,.slice none 0 0,I 0] 170)),pB170 b7 x5.1 s6 x5.2.2,D s6 x5.2.1,pt b3 (Cs #[B false,.slice none 0 0,I 0] 170)] | _=>St w0 w noX [] [D g.2.2.2.2 x14.2,D g.2.2.2.1 x12.2,D g.2.2.1 x10.2,D g.2.1 x8.2,pt g.1 (Cs #[B x14.1,g.2.2.2.2,I (i64.wrap (x5.2.2+1))] 170),pB170 b7 x5.1 s6 x5.2.2,D s6 x5.2.1,pt b3 (Cs #[B false,.slice none 0 0,I 0] 170)]) P_mixed (by kernel_rfl) (H.q C) J X ?_ ?_ ?_ ?_
  ·clear H J X; refine ⟨λk s g w _ _ _ X a H=>Q.val (v:=Pv b7 0) C C C X H (Z.field zaz C C),?_,λk s g w _ _ _ X a H=>Q.val (v:=I (Int.tmod x1 1296000000000)) C C C X H (Z.move C),λk s g w _ _ _ X a H=>Q.val (v:=I (Int.tmod (Int.tmod x1 1296000000000) 324000000000)) C C C X H (Z.rem (q:=324000000000) C C (by decide)),λk s g w _ _ _ X a H=>Q.val (v:=I (i64.wrap (2*(Int.tmod (Int.tmod x1 1296000000000) 324000000000)))) C C C X H (Z.mul C C),λk s g w _ _ _ X a H=>Q.val (v:=Pv b7 2) C C C X H (Z.field zaQ C C),?_,λk s g w _ _ _ X a H=>Q.val (v:=I (i64.wrap (x5.2.2+1))) C C C X H (Z.add C C),λk s g w _ _ _ X a H=>Q.val (v:=.agg #[B x14.1,g.2.2.2.2,I (i64.wrap (x5.2.2+1))]) C C C X H (Z.buildS (cs':=#[B x14.1,g.2.2.2.2,I (i64.wrap (x5.2.2+1))]) zcb zao C (by kernel_rfl)),trivial⟩
   ·intro k s g w h1_ h2_ hsp X a H; obtain ⟨b16,s9,s11,s13,s15⟩:=g
    rcases k with _ | _ | k
    ·exact Q.val (v:=.agg #[B x5.1,s6]) C C C X H (lN (cs':=#[B x5.1,s6]) A_28 C (X.p 1 C) C C)
    ·exact Q.val (v:=.agg #[B x5.1,s6]) C C C X H (lN (cs':=#[B x5.1,s6]) A_28 C (X.p 2 C) C C)
    ·simp at h2_
   ·intro k s g w h1_ h2_ hsp X a H; obtain ⟨b16,s9,s11,s13,s15⟩:=g
    rcases k with _ | _ | _ | _ | _ | k
    ·exact Q.val (v:=I x5.2.2) C C C X H (Z.load1 zaf C (X.p 1 C) C)
    ·exact Q.val (v:=I x5.2.2) C C C X H (Z.load1 zaf C (X.p 2 C) C)
    ·exact Q.val (v:=I x5.2.2) C C C X H (Z.load1 zaf C (X.p 3 C) C)
    ·exact Q.val (v:=I x5.2.2) C C C X H (Z.load1 zaf C (X.p 4 C) C)
    ·exact Q.val (v:=I x5.2.2) C C C X H (Z.load1 zaf C (X.p 5 C) C)
    ·simp at h2_
  ·clear H J X; refine ⟨?_,?_,?_,?_,?_,trivial⟩
   ·intro s g w hsp X a H; obtain ⟨b16,s9,s11,s13,s15⟩:=g; refine oq H X C zbn (zaF F (i64.wrap (2*(Int.tmod (Int.tmod x1 1296000000000) 324000000000))) _ x8 hx8) ?_; rintro s9 w X a H; exact nE 20 H (b16,s9,s11,s13,s15) C C (jl 15 (by kernel_rfl) λ_=>C) X
   ·intro s g w hsp X a H; obtain ⟨b16,s9,s11,s13,s15⟩:=g; refine oq H X C zb2 (zaR F x5.1 s6 x5.2.1 x8.1 s9 x8.2 _ (X.s 3 C) (X.s 0 C) x10 hx10) ?_; rintro s11 w X a H; exact nE 21 H (b16,s9,s11,s13,s15) C C (jl 15 (by kernel_rfl) λ_=>C) X
   ·intro s g w hsp X a H; obtain ⟨b16,s9,s11,s13,s15⟩:=g; refine oq H X C zbn (zaF F 1296000000000 _ x12 hx12) ?_; rintro s13 w X a H; exact nE 22 H (b16,s9,s11,s13,s15) C C (jl 15 (by kernel_rfl) λ_=>C) X
   ·intro s g w hsp X a H; obtain ⟨b16,s9,s11,s13,s15⟩:=g; refine oq H X C zeh (zbZ F x10.1 s11 x10.2 x12.1 s13 x12.2 _ (X.s 1 C) (X.s 0 C) x14 hx14) ?_; rintro s15 w X a H; exact nE 23 H (b16,s9,s11,s13,s15) C C (jl 15 (by kernel_rfl) λ_=>C) X
   ·intro s g w hsp X a H; obtain ⟨b16,s9,s11,s13,s15⟩:=g; have h13_:s 13=true:=hsp 13 (by simp); have X:St w0 w noX [] [D s15 x14.2,D s13 x12.2,D s11 x10.2,D s9 x8.2,condA (s 13) (pt b16 (Cs #[B false,.slice none 0 0,I 0] 170)),pB170 b7 x5.1 s6 x5.2.2,D s6 x5.2.1,pt b3 (Cs #[B false,.slice none 0 0,I 0] 170)]:=X; clear X; rw [h13_] at X; replace X:St w0 w noX [] [D s15 x14.2,D s13 x12.2,D s11 x10.2,D s9 x8.2,pt b16 (Cs #[B false,.slice none 0 0,I 0] 170),pB170 b7 x5.1 s6 x5.2.2,D s6 x5.2.1,pt b3 (Cs #[B false,.slice none 0 0,I 0] 170)]:=X; refine ost 4 #[B x14.1,s15,I (i64.wrap (x5.2.2+1))] H X C C C zan C (occ C (occ (rdo (X.s 0 C)) (occ C C))) C (bl C) C ?_; intro w X; exact O.nil ⟨C,(b16,s9,s11,s13,s15),H.to trivial,(λd hd=>by cases (show none=some d from hd)),(λ_ _ _=>C),X⟩
  ·clear H J X; refine ⟨?_,trivial⟩
   ·intro k s g w h1_ h2_ hs0 X a H; obtain ⟨b16,s9,s11,s13,s15⟩:=g
    rcases k with _ | _ | _ | _ | _ | k
    ·refine oaC (j:=0) (cs:=#[B false,.slice none 0 0,I 0]) H X C hs0 C C zao C ?_; clear H X a; intro b16 w a X H; exact nE 6 H (b16,s9,s11,s13,s15) C C (jl 15 (by kernel_rfl) λ_=>C) X
    ·refine oaC (j:=1) (cs:=#[B false,.slice none 0 0,I 0]) H X C hs0 C C zao C ?_; clear H X a; intro b16 w a X H; exact nE 6 H (b16,s9,s11,s13,s15) C C (jl 15 (by kernel_rfl) λ_=>C) X
    ·refine oaC (j:=2) (cs:=#[B false,.slice none 0 0,I 0]) H X C hs0 C C zao C ?_; clear H X a; intro b16 w a X H; exact nE 6 H (b16,s9,s11,s13,s15) C C (jl 15 (by kernel_rfl) λ_=>C) X
    ·refine oaC (j:=3) (cs:=#[B false,.slice none 0 0,I 0]) H X C hs0 C C zao C ?_; clear H X a; intro b16 w a X H; exact nE 6 H (b16,s9,s11,s13,s15) C C (jl 15 (by kernel_rfl) λ_=>C) X
    ·refine oaC (j:=4) (cs:=#[B false,.slice none 0 0,I 0]) H X C hs0 C C zao C ?_; clear H X a; intro b16 w a X H; exact nE 6 H (b16,s9,s11,s13,s15) C C (jl 15 (by kernel_rfl) λ_=>C) X
    ·simp at h2_
  clear H J X; intro s g a w hs H X; obtain ⟨b16,s9,s11,s13,s15⟩:=g; have h13_:s 13=true:=hs 13 (by simp); refine ksq ?_; replace X:=X.sl [1,0,0,0,1,0,0,1]; obtain ⟨x17,hx17,M⟩:=hm_b M; rw [oj hx17] at X; refine sg (l:=[0,1,2,3,4,5]) C<|mv H C λa H=>ov (v:=I (i64.wrap (Int.tdiv (Int.tmod x1 1296000000000) 324000000000))) H C (Z.quo (q:=324000000000) C C (by decide)) λa H=>ov H C (lN (cs':=#[B x14.1,s15,I x17]) A_170 C (X.p 1 C) C C) λa H=>mv H C λa H=>?_; refine hb M λx18 hx18 M=>oq H X C zi5 (zhD F (i64.wrap (Int.tdiv (Int.tmod x1 1296000000000) 324000000000)) x14.1 s15 x14.2 x17 x2 _ (X.s 0 C) x18 hx18) ?_; rintro s19 w X a H; refine ost 3 #[B x18.1,s19,I x18.2.2] H X C C C zan C (occ C (occ (rdo (X.s 0 C)) (occ C C))) C (bl C) C ?_; intro w X; refine nk ?_; replace X:=X.sl [1,0,0,1]; refine W.ret ?_; obtain rfl:=oj M; refine post1 H C (rkn (cs':=#[B x18.1,s19,I x18.2.2]) C zdA zan (X.p 1 C) (bl C) C) ?_; replace X:=X.sl [1]; exact ⟨s19,C,X.noB⟩
theorem fS_0:zad 10000 81000000000 110=some (false,[1481946085,1657906724,3802574505,6269],2596564):=by kernel_rfl
theorem fS_1:zad 10000 405000000000 110=some (false,[1082944261,2354143128,3617482010,15136],2596436):=by kernel_rfl
theorem fS_2:zad 10000 40500000000 110=some (false,[2348868833,89859532,1545483475,3196],2595156):=by kernel_rfl
theorem fS_3:zad 10000 364500000000 110=some (false,[2832760657,1616218204,799010489,16069],2595156):=by kernel_rfl
theorem fS_4:zad 10000 20250000000 110=some (false,[3412347488,184055353,3920562797,1605],2592468):=by kernel_rfl
theorem fS_5:zad 10000 344250000000 110=some (false,[1136619978,1262227534,457679434,16305],2592340):=by kernel_rfl
theorem fS_6:zad 10000 10125000000 110=some (false,[1582640287,41737640,3971883451,803],2591060):=by kernel_rfl
theorem fS_7:zad 10000 334125000000 110=some (false,[2746657752,4224143495,1137111770,16364],2591060):=by kernel_rfl
theorem fS_8:zad 10000 5062500000 110=some (false,[1943771124,1742705546,358578742,402],2588372):=by kernel_rfl
theorem fS_9:zad 10000 329062500000 110=some (false,[3578321318,427185557,281086362,16379],2588244):=by kernel_rfl
theorem fS_10:zad 10000 2531250000 110=some (false,[3620760992,1008939249,244311798,201],2588372):=by kernel_rfl
theorem fS_11:zad 10000 326531250000 110=some (false,[1090381929,3064917278,3291297573,16382],2588244):=by kernel_rfl
theorem fS_12:zad 10000 1265625000 110=some (false,[2683940353,29649637,2277767580,100],2586964):=by kernel_rfl
theorem fS_13:zad 10000 325265625000 110=some (false,[3290294200,614125112,2970295573,16383],2586964):=by kernel_rfl
theorem fS_14:zad 10000 632812500 110=some (false,[64902569,1232377298,1139899801,50],2586964):=by kernel_rfl
theorem fS_15:zad 10000 324632812500 110=some (false,[1356816308,61164556,3963798586,16383],2586964):=by kernel_rfl
theorem fS_16:zad 10000 316406250 110=some (false,[1197397366,1194165355,570076902,25],2584276):=by kernel_rfl
theorem fS_17:zad 10000 324316406250 110=some (false,[2342351573,3431824167,4212175069,16383],2584148):=by kernel_rfl
theorem fS_18:zad 10000 158203125 110=some (false,[721202334,1504719084,2432537974,12],2584276):=by kernel_rfl
theorem fS_19:zad 10000 324158203125 110=some (false,[2618068089,1742574150,4274269236,16383],2584148):=by kernel_rfl
theorem fS_20:zad 10000 79101562 110=some (false,[166435707,4287107416,1216270800,6],2584276):=by kernel_rfl
theorem fS_21:zad 10000 324079101562 110=some (false,[3204163790,4194444144,4289792780,16383],2584148):=by kernel_rfl
theorem fS_22:zad 10000 39550781 110=some (false,[3375237887,2359188805,608135648,3],2582868):=by kernel_rfl
theorem fS_23:zad 10000 324039550781 110=some (false,[1162587134,997540620,4293673667,16383],2582868):=by kernel_rfl
theorem fS_24:zad 10000 19775390 110=some (false,[2560368372,3016239696,2451551332,1],2582868):=by kernel_rfl
theorem fS_25:zad 10000 324019775390 110=some (false,[1755305801,3537658719,4294643888,16383],2582868):=by kernel_rfl
theorem fS_26:zad 10000 9887695 110=some (false,[2102800017,974617115,3373259318],2582868):=by kernel_rfl
theorem fS_27:zad 10000 324009887695 110=some (false,[253536087,884215186,4294886444,16383],2582868):=by kernel_rfl
theorem fS_28:zad 10000 4943847 110=some (false,[3518189618,82823900,1686629489],2582868):=by kernel_rfl
theorem fS_29:zad 10000 324004943847 110=some (false,[1741797902,238601325,4294947083,16383],2582868):=by kernel_rfl
theorem fS_30:zad 10000 2471923 110=some (false,[1632354179,4258681669,843314573],2580180):=by kernel_rfl
theorem fS_31:zad 10000 324002471923 110=some (false,[1607065608,3289655021,4294962242,16383],2580052):=by kernel_rfl
theorem fS_32:zad 10000 1235961 110=some (false,[336991347,1824056226,421657116],2580180):=by kernel_rfl
theorem fS_33:zad 10000 324001235961 110=some (false,[4100555540,2974287351,4294966032,16383],2580052):=by kernel_rfl
theorem fS_34:zad 10000 617980 110=some (false,[1475630205,2725778783,210828387],2580180):=by kernel_rfl
theorem fS_35:zad 10000 324000617980 110=some (false,[1161985971,745766832,4294966980,16383],2580052):=by kernel_rfl
theorem fS_36:zad 10000 308990 110=some (false,[638907432,3510881044,105414193],2580180):=by kernel_rfl
theorem fS_37:zad 10000 324000308990 110=some (false,[3768342170,186441707,4294967217,16383],2580052):=by kernel_rfl
theorem fS_38:zad 10000 154495 110=some (false,[2723009478,3902987670,52707096],2580180):=by kernel_rfl
theorem fS_39:zad 10000 324000154495 110=some (false,[4112240914,1120352250,4294967276,16383],2580052):=by kernel_rfl
theorem fS_40:zad 10000 77247 110=some (false,[1177902554,3761188394,26353377],2580180):=by kernel_rfl
theorem fS_41:zad 10000 324000077247 110=some (false,[1741129306,280362436,4294967291,16383],2580052):=by kernel_rfl
theorem fS_42:zad 10000 38623 110=some (false,[2847002833,1542798162,13176518],2578772):=by kernel_rfl
theorem fS_43:zad 10000 324000038623 110=some (false,[2588688244,3291453266,4294967294,16383],2578772):=by kernel_rfl
theorem fS_44:zad 10000 19311 110=some (false,[2954393097,2581085826,6588088],2578772):=by kernel_rfl
theorem fS_45:zad 10000 324000019311 110=some (false,[298211742,2970415556,4294967295,16383],2578772):=by kernel_rfl
theorem fS_46:zad 10000 9655 110=some (false,[780053328,3100229550,3293873],2578772):=by kernel_rfl
theorem fS_47:zad 10000 324000009655 110=some (false,[1695553146,3963863655,4294967295,16383],2578772):=by kernel_rfl
theorem fS_48:zad 10000 4827 110=some (false,[1564448725,1212317750,1646766],2578772):=by kernel_rfl
theorem fS_49:zad 10000 324000004827 110=some (false,[3029863649,4212208531,4294967295,16383],2578772):=by kernel_rfl
theorem fS_50:zad 10000 2413 110=some (false,[3264980374,2415845496,823212],2578772):=by kernel_rfl
theorem fS_51:zad 10000 324000002413 110=some (false,[2245315794,4274286176,4294967295,16383],2578772):=by kernel_rfl
theorem fS_52:zad 10000 1206 110=some (false,[3205207754,3017609369,411435],2578772):=by kernel_rfl
theorem fS_53:zad 10000 324000001206 110=some (false,[2563857895,4289801300,4294967295,16383],2578772):=by kernel_rfl
theorem fS_54:zad 10000 603 110=some (false,[3766303612,3656288332,205717],2578772):=by kernel_rfl
theorem fS_55:zad 10000 324000000603 110=some (false,[640964474,4293675797,4294967295,16383],2578772):=by kernel_rfl
theorem fS_56:zad 10000 301 110=some (false,[3327955812,1490347139,102688],2578772):=by kernel_rfl
theorem fS_57:zad 10000 324000000301 110=some (false,[1262317598,4294645491,4294967295,16383],2578772):=by kernel_rfl
theorem fS_58:zad 10000 150 110=some (false,[959520826,2554860191,51173],2578772):=by kernel_rfl
theorem fS_59:zad 10000 324000000150 110=some (false,[2125221643,4294887378,4294967295,16383],2578772):=by kernel_rfl
theorem fS_60:zad 10000 75 110=some (false,[2627275263,3424913743,25586],2576084):=by kernel_rfl
theorem fS_61:zad 10000 324000000075 110=some (false,[2678789059,4294947316,4294967295,16383],2575956):=by kernel_rfl
theorem fS_62:zad 10000 37 110=some (false,[608931567,3522143493,12622],2576084):=by kernel_rfl
theorem fS_63:zad 10000 324000000037 110=some (false,[1991987525,4294962433,4294967295,16383],2575956):=by kernel_rfl
theorem fS_64:zad 10000 18 110=some (false,[3894723512,3570758367,6140],2576084):=by kernel_rfl
theorem fS_65:zad 10000 324000000018 110=some (false,[807133279,4294966145,4294967295,16383],2575956):=by kernel_rfl
theorem fS_66:zad 10000 9 110=some (false,[4094845426,1785379183,3070],2576084):=by kernel_rfl
theorem fS_67:zad 10000 324000000009 110=some (false,[1275525144,4294967008,4294967295,16383],2575956):=by kernel_rfl
theorem fS_68:zad 10000 4 110=some (false,[1342712704,2702376213,1364],2576084):=by kernel_rfl
theorem fS_69:zad 10000 324000000004 110=some (false,[729174173,4294967239,4294967295,16383],2575956):=by kernel_rfl
theorem fS_70:zad 10000 2 110=some (false,[2818839969,1351188106,682],2576084):=by kernel_rfl
theorem fS_71:zad 10000 324000000002 110=some (false,[3403519016,4294967281,4294967295,16383],2575956):=by kernel_rfl
theorem fS_72:zad 10000 1 110=some (false,[1409419969,675594053,341],2576084):=by kernel_rfl
theorem fS_73:zad 10000 324000000001 110=some (false,[1924621578,4294967292,4294967295,16383],2575956):=by kernel_rfl
def tS_:List ((Int × Int) × (Bool × (List Int) × Int)):=[((81000000000,110),(false,[1481946085,1657906724,3802574505,6269],2596564)),((405000000000,110),(false,[1082944261,2354143128,3617482010,15136],2596436)),((40500000000,110),(false,[2348868833,89859532,1545483475,3196],2595156)),((364500000000,110),(false,[2832760657,1616218204,799010489,16069],2595156)),((20250000000,110),(false,[3412347488,184055353,3920562797,1605],2592468)),((344250000000,110),(false,[1136619978,1262227534,457679434,16305],2592340)),((10125000000,110),(false,[1582640287,41737640,3971883451,803],2591060)),((334125000000,110),(false,[2746657752,4224143495,1137111770,16364],2591060)),((5062500000,110),(false,[1943771124,1742705546,358578742,402],2588372)),((329062500000,110),(false,[3578321318,427185557,281086362,16379],2588244)),((2531250000,110),(false,[3620760992,1008939249,244311798,201],2588372)),((326531250000,110),(false,[1090381929,3064917278,3291297573,16382],2588244)),((1265625000,110),(false,[2683940353,29649637,2277767580,100],2586964)),((325265625000,110),(false,[3290294200,614125112,2970295573,16383],2586964)),((632812500,110),(false,[64902569,1232377298,1139899801,50],2586964)),((324632812500,110),(false,[1356816308,61164556,3963798586,16383],2586964)),((316406250,110),(false,[1197397366,1194165355,570076902,25],2584276)),((324316406250,110),(false,[2342351573,3431824167,4212175069,16383],2584148)),((158203125,110),(false,[721202334,1504719084,2432537974,12],2584276)),((324158203125,110),(false,[2618068089,1742574150,4274269236,16383],2584148)),((79101562,110),(false,[166435707,4287107416,1216270800,6],2584276)),((324079101562,110),(false,[3204163790,4194444144,4289792780,16383],2584148)),((39550781,110),(false,[3375237887,2359188805,608135648,3],2582868)),((324039550781,110),(false,[1162587134,997540620,4293673667,16383],2582868)),((19775390,110),(false,[2560368372,3016239696,2451551332,1],2582868)),((324019775390,110),(false,[1755305801,3537658719,4294643888,16383],2582868)),((9887695,110),(false,[2102800017,974617115,3373259318],2582868)),((324009887695,110),(false,[253536087,884215186,4294886444,16383],2582868)),((4943847,110),(false,[3518189618,82823900,1686629489],2582868)),((324004943847,110),(false,[1741797902,238601325,4294947083,16383],2582868)),((2471923,110),(false,[1632354179,4258681669,843314573],2580180)),((324002471923,110),(false,[1607065608,3289655021,4294962242,16383],2580052)),((1235961,110),(false,[336991347,1824056226,421657116],2580180)),((324001235961,110),(false,[4100555540,2974287351,4294966032,16383],2580052)),((617980,110),(false,[1475630205,2725778783,210828387],2580180)),((324000617980,110),(false,[1161985971,745766832,4294966980,16383],2580052)),((308990,110),(false,[638907432,3510881044,105414193],2580180)),((324000308990,110),(false,[3768342170,186441707,4294967217,16383],2580052)),((154495,110),(false,[2723009478,3902987670,52707096],2580180)),((324000154495,110),(false,[4112240914,1120352250,4294967276,16383],2580052)),((77247,110),(false,[1177902554,3761188394,26353377],2580180)),((324000077247,110),(false,[1741129306,280362436,4294967291,16383],2580052)),((38623,110),(false,[2847002833,1542798162,13176518],2578772)),((324000038623,110),(false,[2588688244,3291453266,4294967294,16383],2578772)),((19311,110),(false,[2954393097,2581085826,6588088],2578772)),((324000019311,110),(false,[298211742,2970415556,4294967295,16383],2578772)),((9655,110),(false,[780053328,3100229550,3293873],2578772)),((324000009655,110),(false,[1695553146,3963863655,4294967295,16383],2578772)),((4827,110),(false,[1564448725,1212317750,1646766],2578772)),((324000004827,110),(false,[3029863649,4212208531,4294967295,16383],2578772)),((2413,110),(false,[3264980374,2415845496,823212],2578772)),((324000002413,110),(false,[2245315794,4274286176,4294967295,16383],2578772)),((1206,110),(false,[3205207754,3017609369,411435],2578772)),((324000001206,110),(false,[2563857895,4289801300,4294967295,16383],2578772)),((603,110),(false,[3766303612,3656288332,205717],2578772)),((324000000603,110),(false,[640964474,4293675797,4294967295,16383],2578772)),((301,110),(false,[3327955812,1490347139,102688],2578772)),((324000000301,110),(false,[1262317598,4294645491,4294967295,16383],2578772)),((150,110),(false,[959520826,2554860191,51173],2578772)),((324000000150,110),(false,[2125221643,4294887378,4294967295,16383],2578772)),((75,110),(false,[2627275263,3424913743,25586],2576084)),((324000000075,110),(false,[2678789059,4294947316,4294967295,16383],2575956)),((37,110),(false,[608931567,3522143493,12622],2576084)),((324000000037,110),(false,[1991987525,4294962433,4294967295,16383],2575956)),((18,110),(false,[3894723512,3570758367,6140],2576084)),((324000000018,110),(false,[807133279,4294966145,4294967295,16383],2575956)),((9,110),(false,[4094845426,1785379183,3070],2576084)),((324000000009,110),(false,[1275525144,4294967008,4294967295,16383],2575956)),((4,110),(false,[1342712704,2702376213,1364],2576084)),((324000000004,110),(false,[729174173,4294967239,4294967295,16383],2575956)),((2,110),(false,[2818839969,1351188106,682],2576084)),((324000000002,110),(false,[3403519016,4294967281,4294967295,16383],2575956)),((1,110),(false,[1409419969,675594053,341],2576084)),((324000000001,110),(false,[1924621578,4294967292,4294967295,16383],2575956))]
theorem tS__ok:AllT (λ(x:Int × Int) r=>zad 10000 x.1 x.2=some r) tS_:=⟨fS_0,fS_1,fS_2,fS_3,fS_4,fS_5,fS_6,fS_7,fS_8,fS_9,fS_10,fS_11,fS_12,fS_13,fS_14,fS_15,fS_16,fS_17,fS_18,fS_19,fS_20,fS_21,fS_22,fS_23,fS_24,fS_25,fS_26,fS_27,fS_28,fS_29,fS_30,fS_31,fS_32,fS_33,fS_34,fS_35,fS_36,fS_37,fS_38,fS_39,fS_40,fS_41,fS_42,fS_43,fS_44,fS_45,fS_46,fS_47,fS_48,fS_49,fS_50,fS_51,fS_52,fS_53,fS_54,fS_55,fS_56,fS_57,fS_58,fS_59,fS_60,fS_61,fS_62,fS_63,fS_64,fS_65,fS_66,fS_67,fS_68,fS_69,fS_70,fS_71,fS_72,fS_73,trivial⟩
def zfS (F:Nat) (x1 x2:Int):Option (Bool × (List Int) × Int):=match lkT eqI2 (x1,x2) tS_ with
  | some r=>some r
  | none=>zad F x1 x2
theorem zgG (F:Nat) (x1 x2:Int) (w0:World) (r:Bool × (List Int) × Int) (M:zfS F x1 x2=some r) :
    Ret P 102 #[I x1,I x2] w0 (G:=Value) (λg1=>.agg #[B r.1,g1,I r.2.2]) (λg1 w=>St w0 w noX [] [D g1 r.2.1]):=by
 unfold zfS at M; split at M
 ·rename_i q hl; obtain rfl:=Option.some.inj M; exact zgr 10000 x1 x2 w0 _ (lkT_ok eqI2_ok tS__ok hl)
 ·exact zgr F x1 x2 w0 _ M
def zfY (F:Nat) (x1:Bool) (x3:List Int) (x4:Bool) (x6:List Int) (x7:Int):Option Bool :=
  if x7=(0:Int) then (none) else (if x7=(162000000000:Int) then ((zbA F x4 x6 x1 x3).bind λx12=>some (decide (x12.1≥(0:Int)))) else ((zfS F x7 110).bind λx13=>(zfS F (i64.wrap (x7+324000000000)) 110).bind λx15=>(za8 F x4 x6 x15.1 x15.2.1).bind λx19=>(za8 F x1 x3 x13.1 x13.2.1).bind λx21=>(zbO F x19.1 x19.2 x21.1 x21.2).bind λx23=>(zaN F x15.2.2).bind λx26=>(za8 F x4 x6 x26.1 x26.2).bind λx28=>(zaN F x13.2.2).bind λx30=>(za8 F x1 x3 x30.1 x30.2).bind λx32=>(zcB F x28.1 x28.2 x32.1 x32.2).bind λx34=>(zbO F x23.1 x23.2 x34.1 x34.2).bind λx37=>(zba F x37.1 x37.2).bind λx39=>if x39>(0:Int) then (none) else ((zcB F x23.1 x23.2 x34.1 x34.2).bind λx41=>(zba F x41.1 x41.2).bind λx43=>if x43<(0:Int) then (some false) else (none))))
theorem zhE (F:Nat) (x1:Bool) (s2:Value) (x3:List Int) (x4:Bool) (s5:Value) (x6:List Int) (x7:Int) (w0:World) (h_s2:rdEOK (hp w0) 1 E61 s2 x3) (h_s5:rdEOK (hp w0) 1 E61 s5 x6) (r:Bool) (M:zfY F x1 x3 x4 x6 x7=some r) :
    Ret P 111 #[.agg #[B x1,s2],.agg #[B x4,s5],I x7] w0 (G:=Unit) (λ_=>B r) (λ_ w=>St w0 w noX [] []):=by
 unfold zfY at M; refine roW Tryz.func111 C C C (λa H=>?_); have X:St w0 w0 noX [E s2 x3,E s5 x6] []:=Sbw (lnc (lendRd h_s2) (lnc (lendRd h_s5) lnn)); refine sg (l:=[0,1,2]) C<|O.box (cs:=#[B x1,s2]) H X C C C C<|?_; intro b8 w a hb8 X H; refine O.box (cs:=#[B x4,s5]) H X C C C C ?_; intro b9 w a hb9 X H; refine mv H C λa H=>nk<|wsc<|W.seq<|sg (l:=[0]) C<|mv H C λa H=>nk<|W.block<|sg (l:=[0,1]) C<|ov H C (Z.eql C C) λa H=>?_; refine mv H C λa H=>nk<|?_; refine W.ifdI H C (λhc10=>?_) (λhc10=>?_)
 ·nomatch hm_p M hc10
 ·replace M:=hm_n M hc10; refine sg (l:=[0,1]) C<|ov H C (Z.eql C C) λa H=>mv H C λa H=>nk<|?_; refine W.ifdI H C (λhc11=>?_) (λhc11=>?_)
  ·replace M:=hm_p M hc11; refine sg (l:=[0,1,2,3,4,5,6,7]) C<|ov H C (lN (cs':=#[B x4,s5]) A_28 C (X.p 0 C) C C) λa H=>ov H C (lN (cs':=#[B x1,s2]) A_28 C (X.p 1 C) C C) λa H=>?_; refine hb M λx12 hx12 M=>oq H X C zfT (zbY F x4 s5 x6 x1 s2 x3 _ (X.b 1 C) (X.b 0 C) x12 hx12) ?_; rintro _ w X a H; refine mv H C λa H=>ex H C C C λa H=>ex H C C C λa H=>mv2 H C C λa H=>nk<|sg (l:=[0,1,2]) C<|mv H C λa H=>ov H C (Z.geq C C) λa H=>mv H C λa H=>?_; refine nk<|W.ret<|kbr<|ktr<|k_stl_ret<|?_; obtain rfl:=oj M; refine post1 H C (rkt C) ?_; replace X:=X.s0; exact ⟨(),C,X.noB⟩
  ·replace M:=hm_n M hc11; refine W.skip<|kbn<|ksq<|sg (l:=[0]) C<|mv H C λa H=>nk<|W.seq<|W.label<|ksq<|sg (l:=[0,1,2,3,4,5,6,7,8,9,10]) C<|?_; refine mv2 H C C λa H=>?_; refine hb M λx13 hx13 M=>oq H X C zie (zgG F x7 110 _ x13 hx13) ?_; rintro s14 w X a H; refine mv H C λa H=>ov H C (Z.add C C) λa H=>mv H C λa H=>?_; refine hb M λx15 hx15 M=>oq H X C zie (zgG F (i64.wrap (x7+324000000000)) 110 _ x15 hx15) ?_; rintro s16 w X a H; refine O.alloc (cs:=#[B false,.slice none 0 0,I 0]) H X C C zao C ?_; intro b17 w a hb17 X H; refine O.alloc (cs:=#[B false,.slice none 0 0,I 0]) H X C C zao C ?_; intro b18 w a hb18 X H; refine ost 1 #[B x13.1,s14,I x13.2.2] H X C C C zan C (occ C (occ (rdo (X.s 3 C)) (occ C C))) C (bl C) C ?_; intro w X; refine ost 0 #[B x15.1,s16,I x15.2.2] H X C C C zan C (occ C (occ (rdo (X.s 2 C)) (occ C C))) C (bl C) C ?_; intro w X; refine nk<|W.seq<|?_; have J:Fr a 66 [] []:=H.to trivial; obtain ⟨x19,hx19,M⟩:=hm_b M; obtain ⟨x21,hx21,M⟩:=hm_b M; obtain ⟨x23,hx23,M⟩:=hm_b M; replace X:=X.drew; replace X:=X.emp; refine W.drawK (γ:=Nat × Value × Value × Value) (L0:=[(3,Pv b8 0),(4,Pv b9 0),(6,B false),(9,I 110),(10,Pv b17 0),(11,Pv b18 0)]) (L1:=[]) (0,undef,undef,undef) [3,7,8,10] [9] [0,1,2,4,5,6] (λi=>match i with | 2=>[1] | 3=>[0,2] | 6=>[5] | 7=>[3,4,6] | 8=>[3,7] | 10=>[0,1,2,3,4,5,6,7,8,9] | _=>[]) (λi=>match i with | 10=>[9] | _=>[]) (λi=>match i with | 3=>[7,8,10] | 7=>[8,10] | 8=>[10] | 9=>[10] | _=>[]) (λ_=>[]) (λi=>match i with | 7=>1 | 8=>2 | 10=>3 | _=>0) (λi=>match i with | 3=>1 | 4=>1 | 5=>1 | 6=>1 | 7=>2 | 8=>3 | 9=>3 | 10=>4 | _=>0) (λ(g:Nat × Value × Value × Value) j=>match j with | 0=>.agg #[B x4,s5] | 1=>Pv b18 0 | 2=>.agg #[B x15.1,s16] | 3=>.agg #[B x19.1,g.2.1] | 4=>.agg #[B x1,s2] | 5=>Pv b17 0 | 6=>.agg #[B x13.1,s14] | 7=>.agg #[B x21.1,g.2.2.1] | 8=>.agg #[B x23.1,g.2.2.2] | 9=>Pv g.1 0 | _=>undef) (λk s (g:Nat × Value × Value × Value) w=>match k with | 0=>St w0 w noX [E s2 x3,E s5 x6] [condA (s 9) (pt g.1 (Cs #[B false,.slice none 0 0] 28)),pB170 b18 x15.1 s16 x15.2.2,pB170 b17 x13.1 s14 x13.2.2,D s16 x15.2.1,D s14 x13.2.1,pW28 b9 x4 s5,pW28 b8 x1 s2] | 1=>St w0 w noX [E s2 x3,E s5 x6] [D g.2.1 x19.2,condA (s 9) (pt g.1 (Cs #[B false,.slice none 0 0] 28)),pB170 b18 x15.1 s16 x15.2.2,pB170 b17 x13.1 s14 x13.2.2,D s16 x15.2.1,D s14 x13.2.1,pW28 b9 x4 s5,pW28 b8 x1 s2] | 2=>St w0 w noX [E s2 x3,E s5 x6] [D g.2.2.1 x21.2,D g.2.1 x19.2,condA (s 9) (pt g.1 (Cs #[B false,.slice none 0 0] 28)),pB170 b18 x15.1 s16 x15.2.2,pB170 b17 x13.1 s14 x13.2.2,D s16 x15.2.1,D s14 x13.2.1,pW28 b9 x4 s5,pW28 b8 x1 s2] | 3=>St w0 w noX [E s2 x3,E s5 x6] [D g.2.2.2 x23.2,D g.2.2.1 x21.2,D g.2.1 x19.2,condA (s 9) (pt g.1 (Cs #[B false,.slice none 0 0] 28)),pB170 b18 x15.1 s16 x15.2.2,pB170 b17 x13.1 s14 x13.2.2,D s16 x15.2.1,D s14 x13.2.1,pW28 b9 x4 s5,pW28 b8 x1 s2] | _=>St w0 w noX [E s2 x3,E s5 x6] [D g.2.2.2 x23.2,D g.2.2.1 x21.2,D g.2.1 x19.2,pt g.1 (Cs #[B x23.1,g.2.2.2] 28),pB170 b18 x15.1 s16 x15.2.2,pB170 b17 x13.1 s14 x13.2.2,D s16 x15.2.1,D s14 x13.2.1,pW28 b9 x4 s5,pW28 b8 x1 s2]) P_mixed (by kernel_rfl) (H.q C) J X ?_ ?_ ?_ ?_
   ·clear H J X; refine ⟨?_,λk s g w _ _ _ X a H=>Q.val (v:=Pv b18 0) C C C X H (Z.field zaz C C),?_,?_,λk s g w _ _ _ X a H=>Q.val (v:=Pv b17 0) C C C X H (Z.field zaz C C),?_,trivial⟩
    ·intro k s g w h1_ h2_ hsp X a H; obtain ⟨b25,s20,s22,s24⟩:=g
     rcases k with _ | k
     ·exact Q.val (v:=.agg #[B x4,s5]) C C C X H (lN (cs':=#[B x4,s5]) A_28 C (X.p 5 C) C C)
     ·simp at h2_
    ·intro k s g w h1_ h2_ hsp X a H; obtain ⟨b25,s20,s22,s24⟩:=g
     rcases k with _ | k
     ·exact Q.val (v:=.agg #[B x15.1,s16]) C C C X H (lN (cs':=#[B x15.1,s16]) A_28 C (X.p 1 C) C C)
     ·simp at h2_
    ·intro k s g w h1_ h2_ hsp X a H; obtain ⟨b25,s20,s22,s24⟩:=g
     rcases k with _ | _ | k
     ·exact Q.val (v:=.agg #[B x1,s2]) C C C X H (lN (cs':=#[B x1,s2]) A_28 C (X.p 6 C) C C)
     ·exact Q.val (v:=.agg #[B x1,s2]) C C C X H (lN (cs':=#[B x1,s2]) A_28 C (X.p 7 C) C C)
     ·simp at h2_
    ·intro k s g w h1_ h2_ hsp X a H; obtain ⟨b25,s20,s22,s24⟩:=g
     rcases k with _ | _ | k
     ·exact Q.val (v:=.agg #[B x13.1,s14]) C C C X H (lN (cs':=#[B x13.1,s14]) A_28 C (X.p 2 C) C C)
     ·exact Q.val (v:=.agg #[B x13.1,s14]) C C C X H (lN (cs':=#[B x13.1,s14]) A_28 C (X.p 3 C) C C)
     ·simp at h2_
   ·clear H J X; refine ⟨?_,?_,?_,?_,trivial⟩
    ·intro s g w hsp X a H; obtain ⟨b25,s20,s22,s24⟩:=g; refine oq H X C zb2 (zaR F x4 s5 x6 x15.1 s16 x15.2.1 _ (X.b 1 C) (X.s 3 C) x19 hx19) ?_; rintro s20 w X a H; exact nE 37 H (b25,s20,s22,s24) C C (jl 11 (by kernel_rfl) λ_=>C) X
    ·intro s g w hsp X a H; obtain ⟨b25,s20,s22,s24⟩:=g; refine oq H X C zb2 (zaR F x1 s2 x3 x13.1 s14 x13.2.1 _ (X.b 0 C) (X.s 5 C) x21 hx21) ?_; rintro s22 w X a H; exact nE 41 H (b25,s20,s22,s24) C C (jl 11 (by kernel_rfl) λ_=>C) X
    ·intro s g w hsp X a H; obtain ⟨b25,s20,s22,s24⟩:=g; refine oq H X C zdC (zbB F x19.1 s20 x19.2 x21.1 s22 x21.2 _ (X.s 1 C) (X.s 0 C) x23 hx23) ?_; rintro s24 w X a H; exact nE 42 H (b25,s20,s22,s24) C C (jl 11 (by kernel_rfl) λ_=>C) X
    ·intro s g w hsp X a H; obtain ⟨b25,s20,s22,s24⟩:=g; have h9_:s 9=true:=hsp 9 (by simp); have X:St w0 w noX [E s2 x3,E s5 x6] [D s24 x23.2,D s22 x21.2,D s20 x19.2,condA (s 9) (pt b25 (Cs #[B false,.slice none 0 0] 28)),pB170 b18 x15.1 s16 x15.2.2,pB170 b17 x13.1 s14 x13.2.2,D s16 x15.2.1,D s14 x13.2.1,pW28 b9 x4 s5,pW28 b8 x1 s2]:=X; clear X; rw [h9_] at X; replace X:St w0 w noX [E s2 x3,E s5 x6] [D s24 x23.2,D s22 x21.2,D s20 x19.2,pt b25 (Cs #[B false,.slice none 0 0] 28),pB170 b18 x15.1 s16 x15.2.2,pB170 b17 x13.1 s14 x13.2.2,D s16 x15.2.1,D s14 x13.2.1,pW28 b9 x4 s5,pW28 b8 x1 s2]:=X; refine ost 3 #[B x23.1,s24] H X C C C zaa C (occ C (occ (rdo (X.s 0 C)) C)) C (bl C) C ?_; intro w X; exact O.nil ⟨C,(b25,s20,s22,s24),H.to trivial,(λd hd=>by cases (show none=some d from hd)),(λ_ _ _=>C),X⟩
   ·clear H J X; refine ⟨?_,trivial⟩
    ·intro k s g w h1_ h2_ hs0 X a H; obtain ⟨b25,s20,s22,s24⟩:=g
     rcases k with _ | _ | _ | _ | k
     ·refine oaC (j:=0) (cs:=#[B false,.slice none 0 0]) H X C hs0 C C zab C ?_; clear H X a; intro b25 w a X H; exact nE 12 H (b25,s20,s22,s24) C C (jl 11 (by kernel_rfl) λ_=>C) X
     ·refine oaC (j:=1) (cs:=#[B false,.slice none 0 0]) H X C hs0 C C zab C ?_; clear H X a; intro b25 w a X H; exact nE 12 H (b25,s20,s22,s24) C C (jl 11 (by kernel_rfl) λ_=>C) X
     ·refine oaC (j:=2) (cs:=#[B false,.slice none 0 0]) H X C hs0 C C zab C ?_; clear H X a; intro b25 w a X H; exact nE 12 H (b25,s20,s22,s24) C C (jl 11 (by kernel_rfl) λ_=>C) X
     ·refine oaC (j:=3) (cs:=#[B false,.slice none 0 0]) H X C hs0 C C zab C ?_; clear H X a; intro b25 w a X H; exact nE 12 H (b25,s20,s22,s24) C C (jl 11 (by kernel_rfl) λ_=>C) X
     ·simp at h2_
   clear H J X; intro s g a w hs H X; obtain ⟨b25,s20,s22,s24⟩:=g; have h9_:s 9=true:=hs 9 (by simp); refine ksq ?_; replace X:=X.sl [1,0,0,1,1,1,1,1,1,1]; refine W.seq ?_; have J:Fr a 66 [] []:=H.to trivial; obtain ⟨x26,hx26,M⟩:=hm_b M; obtain ⟨x28,hx28,M⟩:=hm_b M; obtain ⟨x30,hx30,M⟩:=hm_b M; obtain ⟨x32,hx32,M⟩:=hm_b M; obtain ⟨x34,hx34,M⟩:=hm_b M; replace X:=X.drew; replace X:=X.emp; refine W.drawK (γ:=Nat × Value × Value × Value × Value × Value) (L0:=[(3,Pv b8 0),(4,Pv b9 0),(6,B false),(9,I 110),(10,Pv b17 0),(11,Pv b18 0),(12,Pv b25 0)]) (L1:=[]) (0,undef,undef,undef,undef,undef) [3,4,8,9,10,12] [11] [0,1,2,5,6,7] (λi=>match i with | 2=>[1] | 3=>[2] | 4=>[0,3] | 7=>[6] | 8=>[4,7] | 9=>[5,8] | 10=>[4,9] | 12=>[0,1,2,3,4,5,6,7,8,9,10,11] | _=>[]) (λi=>match i with | 12=>[11] | _=>[]) (λi=>match i with | 3=>[4,8,9,10,12] | 4=>[8,9,10,12] | 8=>[9,10,12] | 9=>[10,12] | 10=>[12] | 11=>[12] | _=>[]) (λ_=>[]) (λi=>match i with | 4=>1 | 8=>2 | 9=>3 | 10=>4 | 12=>5 | _=>0) (λi=>match i with | 0=>1 | 3=>1 | 4=>2 | 5=>3 | 6=>2 | 7=>2 | 8=>3 | 9=>4 | 10=>5 | 11=>5 | 12=>6 | _=>0) (λ(g:Nat × Value × Value × Value × Value × Value) j=>match j with | 0=>.agg #[B x4,s5] | 1=>Pv b18 2 | 2=>I x15.2.2 | 3=>.agg #[B x26.1,g.2.1] | 4=>.agg #[B x28.1,g.2.2.1] | 5=>.agg #[B x1,s2] | 6=>Pv b17 2 | 7=>I x13.2.2 | 8=>.agg #[B x30.1,g.2.2.2.1] | 9=>.agg #[B x32.1,g.2.2.2.2.1] | 10=>.agg #[B x34.1,g.2.2.2.2.2] | 11=>Pv g.1 0 | _=>undef) (λk s (g:Nat × Value × Value × Value × Value × Value) w=>match k with | 0=>St w0 w noX [E s2 x3,E s5 x6] [condA (s 11) (pt g.1 (Cs #[B false,.slice none 0 0] 28)),D s24 x23.2,pW28 b25 x23.1 s24,pB170 b18 x15.1 s16 x15.2.2,pB170 b17 x13.1 s14 x13.2.2,D s16 x15.2.1,D s14 x13.2.1,pW28 b9 x4 s5,pW28 b8 x1 s2] | 1=>St w0 w noX [E s2 x3,E s5 x6] [D g.2.1 x26.2,condA (s 11) (pt g.1 (Cs #[B false,.slice none 0 0] 28)),D s24 x23.2,pW28 b25 x23.1 s24,pB170 b18 x15.1 s16 x15.2.2,pB170 b17 x13.1 s14 x13.2.2,D s16 x15.2.1,D s14 x13.2.1,pW28 b9 x4 s5,pW28 b8 x1 s2] | 2=>St w0 w noX [E s2 x3,E s5 x6] [D g.2.2.1 x28.2,D g.2.1 x26.2,condA (s 11) (pt g.1 (Cs #[B false,.slice none 0 0] 28)),D s24 x23.2,pW28 b25 x23.1 s24,pB170 b18 x15.1 s16 x15.2.2,pB170 b17 x13.1 s14 x13.2.2,D s16 x15.2.1,D s14 x13.2.1,pW28 b9 x4 s5,pW28 b8 x1 s2] | 3=>St w0 w noX [E s2 x3,E s5 x6] [D g.2.2.2.1 x30.2,D g.2.2.1 x28.2,D g.2.1 x26.2,condA (s 11) (pt g.1 (Cs #[B false,.slice none 0 0] 28)),D s24 x23.2,pW28 b25 x23.1 s24,pB170 b18 x15.1 s16 x15.2.2,pB170 b17 x13.1 s14 x13.2.2,D s16 x15.2.1,D s14 x13.2.1,pW28 b9 x4 s5,pW28 b8 x1 s2] | 4=>St w0 w noX [E s2 x3,E s5 x6] [D g.2.2.2.2.1 x32.2,D g.2.2.2.1 x30.2,D g.2.2.1 x28.2,D g.2.1 x26.2,condA (s 11) (pt g.1 (Cs #[B false,.slice none 0 0] 28)),D s24 x23.2,pW28 b25 x23.1 s24,pB170 b18 x15.1 s16 x15.2.2,pB170 b17 x13.1 s14 x13.2.2,D s16 x15.2.1,D s14 x13.2.1,pW28 b9 x4 s5,pW28 b8 x1 s2] | 5=>St w0 w noX [E s2 x3,E s5 x6] [D g.2.2.2.2.2 x34.2,D g.2.2.2.2.1 x32.2,D g.2.2.2.1 x30.2,D g.2.2.1 x28.2,D g.2.1 x26.2,condA (s 11) (pt g.1 (Cs #[B false,.slice none 0 0] 28)),D s24 x23.2,pW28 b25 x23.1 s24,pB170 b18 x15.1 s16 x15.2.2,pB170 b17 x13.1 s14 x13.2.2,D s16 x15.2.1,D s14 x13.2.1,pW28 b9 x4 s5,pW28 b8 x1 s2] | _=>St w0 w noX [E s2 x3,E s5 x6] [D g.2.2.2.2.2 x34.2,D g.2.2.2.2.1 x32.2,D g.2.2.2.1 x30.2,D g.2.2.1 x28.2,D g.2.1 x26.2,pt g.1 (Cs #[B x34.1,g.2.2.2.2.2] 28),D s24 x23.2,pW28 b25 x23.1 s24,pB170 b18 x15.1 s16 x15.2.2,pB170 b17 x13.1 s14 x13.2.2,D s16 x15.2.1,D s14 x13.2.1,pW28 b9 x4 s5,pW28 b8 x1 s2]) P_mixed (by kernel_rfl) (H.q C) J X ?_ ?_ ?_ ?_
   ·clear H J X; refine ⟨?_,λk s g w _ _ _ X a H=>Q.val (v:=Pv b18 2) C C C X H (Z.field zaQ C C),?_,?_,λk s g w _ _ _ X a H=>Q.val (v:=Pv b17 2) C C C X H (Z.field zaQ C C),?_,trivial⟩
    ·intro k s g w h1_ h2_ hsp X a H; obtain ⟨b36,s27,s29,s31,s33,s35⟩:=g
     rcases k with _ | _ | k
     ·exact Q.val (v:=.agg #[B x4,s5]) C C C X H (lN (cs':=#[B x4,s5]) A_28 C (X.p 7 C) C C)
     ·exact Q.val (v:=.agg #[B x4,s5]) C C C X H (lN (cs':=#[B x4,s5]) A_28 C (X.p 8 C) C C)
     ·simp at h2_
    ·intro k s g w h1_ h2_ hsp X a H; obtain ⟨b36,s27,s29,s31,s33,s35⟩:=g
     rcases k with _ | k
     ·exact Q.val (v:=I x15.2.2) C C C X H (Z.load1 zaf C (X.p 3 C) C)
     ·simp at h2_
    ·intro k s g w h1_ h2_ hsp X a H; obtain ⟨b36,s27,s29,s31,s33,s35⟩:=g
     rcases k with _ | _ | _ | _ | k
     ·exact Q.val (v:=.agg #[B x1,s2]) C C C X H (lN (cs':=#[B x1,s2]) A_28 C (X.p 8 C) C C)
     ·exact Q.val (v:=.agg #[B x1,s2]) C C C X H (lN (cs':=#[B x1,s2]) A_28 C (X.p 9 C) C C)
     ·exact Q.val (v:=.agg #[B x1,s2]) C C C X H (lN (cs':=#[B x1,s2]) A_28 C (X.p 10 C) C C)
     ·exact Q.val (v:=.agg #[B x1,s2]) C C C X H (lN (cs':=#[B x1,s2]) A_28 C (X.p 11 C) C C)
     ·simp at h2_
    ·intro k s g w h1_ h2_ hsp X a H; obtain ⟨b36,s27,s29,s31,s33,s35⟩:=g
     rcases k with _ | _ | _ | k
     ·exact Q.val (v:=I x13.2.2) C C C X H (Z.load1 zaf C (X.p 4 C) C)
     ·exact Q.val (v:=I x13.2.2) C C C X H (Z.load1 zaf C (X.p 5 C) C)
     ·exact Q.val (v:=I x13.2.2) C C C X H (Z.load1 zaf C (X.p 6 C) C)
     ·simp at h2_
   ·clear H J X; refine ⟨?_,?_,?_,?_,?_,?_,trivial⟩
    ·intro s g w hsp X a H; obtain ⟨b36,s27,s29,s31,s33,s35⟩:=g; refine oq H X C zbn (zaF F x15.2.2 _ x26 hx26) ?_; rintro s27 w X a H; exact nE 46 H (b36,s27,s29,s31,s33,s35) C C (jl 13 (by kernel_rfl) λ_=>C) X
    ·intro s g w hsp X a H; obtain ⟨b36,s27,s29,s31,s33,s35⟩:=g; refine oq H X C zb2 (zaR F x4 s5 x6 x26.1 s27 x26.2 _ (X.b 1 C) (X.s 0 C) x28 hx28) ?_; rintro s29 w X a H; exact nE 47 H (b36,s27,s29,s31,s33,s35) C C (jl 13 (by kernel_rfl) λ_=>C) X
    ·intro s g w hsp X a H; obtain ⟨b36,s27,s29,s31,s33,s35⟩:=g; refine oq H X C zbn (zaF F x13.2.2 _ x30 hx30) ?_; rintro s31 w X a H; exact nE 51 H (b36,s27,s29,s31,s33,s35) C C (jl 13 (by kernel_rfl) λ_=>C) X
    ·intro s g w hsp X a H; obtain ⟨b36,s27,s29,s31,s33,s35⟩:=g; refine oq H X C zb2 (zaR F x1 s2 x3 x30.1 s31 x30.2 _ (X.b 0 C) (X.s 0 C) x32 hx32) ?_; rintro s33 w X a H; exact nE 52 H (b36,s27,s29,s31,s33,s35) C C (jl 13 (by kernel_rfl) λ_=>C) X
    ·intro s g w hsp X a H; obtain ⟨b36,s27,s29,s31,s33,s35⟩:=g; refine oq H X C zeQ (zct F x28.1 s29 x28.2 x32.1 s33 x32.2 _ (X.s 2 C) (X.s 0 C) x34 hx34) ?_; rintro s35 w X a H; exact nE 53 H (b36,s27,s29,s31,s33,s35) C C (jl 13 (by kernel_rfl) λ_=>C) X
    ·intro s g w hsp X a H; obtain ⟨b36,s27,s29,s31,s33,s35⟩:=g; have h11_:s 11=true:=hsp 11 (by simp); have X:St w0 w noX [E s2 x3,E s5 x6] [D s35 x34.2,D s33 x32.2,D s31 x30.2,D s29 x28.2,D s27 x26.2,condA (s 11) (pt b36 (Cs #[B false,.slice none 0 0] 28)),D s24 x23.2,pW28 b25 x23.1 s24,pB170 b18 x15.1 s16 x15.2.2,pB170 b17 x13.1 s14 x13.2.2,D s16 x15.2.1,D s14 x13.2.1,pW28 b9 x4 s5,pW28 b8 x1 s2]:=X; clear X; rw [h11_] at X; replace X:St w0 w noX [E s2 x3,E s5 x6] [D s35 x34.2,D s33 x32.2,D s31 x30.2,D s29 x28.2,D s27 x26.2,pt b36 (Cs #[B false,.slice none 0 0] 28),D s24 x23.2,pW28 b25 x23.1 s24,pB170 b18 x15.1 s16 x15.2.2,pB170 b17 x13.1 s14 x13.2.2,D s16 x15.2.1,D s14 x13.2.1,pW28 b9 x4 s5,pW28 b8 x1 s2]:=X; refine ost 5 #[B x34.1,s35] H X C C C zaa C (occ C (occ (rdo (X.s 0 C)) C)) C (bl C) C ?_; intro w X; exact O.nil ⟨C,(b36,s27,s29,s31,s33,s35),H.to trivial,(λd hd=>by cases (show none=some d from hd)),(λ_ _ _=>C),X⟩
   ·clear H J X; refine ⟨?_,trivial⟩
    ·intro k s g w h1_ h2_ hs0 X a H; obtain ⟨b36,s27,s29,s31,s33,s35⟩:=g
     rcases k with _ | _ | _ | _ | _ | _ | k
     ·refine oaC (j:=0) (cs:=#[B false,.slice none 0 0]) H X C hs0 C C zab C ?_; clear H X a; intro b36 w a X H; exact nE 13 H (b36,s27,s29,s31,s33,s35) C C (jl 13 (by kernel_rfl) λ_=>C) X
     ·refine oaC (j:=1) (cs:=#[B false,.slice none 0 0]) H X C hs0 C C zab C ?_; clear H X a; intro b36 w a X H; exact nE 13 H (b36,s27,s29,s31,s33,s35) C C (jl 13 (by kernel_rfl) λ_=>C) X
     ·refine oaC (j:=2) (cs:=#[B false,.slice none 0 0]) H X C hs0 C C zab C ?_; clear H X a; intro b36 w a X H; exact nE 13 H (b36,s27,s29,s31,s33,s35) C C (jl 13 (by kernel_rfl) λ_=>C) X
     ·refine oaC (j:=3) (cs:=#[B false,.slice none 0 0]) H X C hs0 C C zab C ?_; clear H X a; intro b36 w a X H; exact nE 13 H (b36,s27,s29,s31,s33,s35) C C (jl 13 (by kernel_rfl) λ_=>C) X
     ·refine oaC (j:=4) (cs:=#[B false,.slice none 0 0]) H X C hs0 C C zab C ?_; clear H X a; intro b36 w a X H; exact nE 13 H (b36,s27,s29,s31,s33,s35) C C (jl 13 (by kernel_rfl) λ_=>C) X
     ·refine oaC (j:=5) (cs:=#[B false,.slice none 0 0]) H X C hs0 C C zab C ?_; clear H X a; intro b36 w a X H; exact nE 13 H (b36,s27,s29,s31,s33,s35) C C (jl 13 (by kernel_rfl) λ_=>C) X
     ·simp at h2_
   clear H J X; intro s g a w hs H X; obtain ⟨b36,s27,s29,s31,s33,s35⟩:=g; have h11_:s 11=true:=hs 11 (by simp); refine ksq ?_; replace X:=X.sl [1,0,0,0,0,1,1,1]; refine W.seq<|sg (l:=[0,1,2,3,4]) C<|ov H C (lN (cs':=#[B x23.1,s24]) A_28 C (X.p 3 C) C C) λa H=>ov H C (lN (cs':=#[B x34.1,s35]) A_28 C (X.p 1 C) C C) λa H=>?_; refine hb M λx37 hx37 M=>oq H X C zdC (zbB F x23.1 s24 x23.2 x34.1 s35 x34.2 _ (X.s 2 C) (X.s 0 C) x37 hx37) ?_; rintro s38 w X a H; refine hb M λx39 hx39 M=>oq H X C zcM (za0 F x37.1 s38 x37.2 _ (X.s 0 C) x39 hx39) ?_; rintro _ w X a H; refine ov H C (Z.gtr C C) λa H=>nk<|?_; replace X:=X.sl [0,1,1,1,1]; refine W.ifdI H C (λhc40=>?_) (λhc40=>?_)
   ·nomatch hm_p M hc40
   ·replace M:=hm_n M hc40; refine W.skip<|ksq<|W.seq<|sg (l:=[0,1,2,3,4]) C<|ov H C (lN (cs':=#[B x23.1,s24]) A_28 C (X.p 3 C) C C) λa H=>ov H C (lN (cs':=#[B x34.1,s35]) A_28 C (X.p 1 C) C C) λa H=>?_; refine hb M λx41 hx41 M=>oq H X C zeQ (zct F x23.1 s24 x23.2 x34.1 s35 x34.2 _ (X.s 2 C) (X.s 0 C) x41 hx41) ?_; rintro s42 w X a H; refine hb M λx43 hx43 M=>oq H X C zcM (za0 F x41.1 s42 x41.2 _ (X.s 0 C) x43 hx43) ?_; rintro _ w X a H; refine ov H C (Z.lss C C) λa H=>nk<|?_; replace X:=X.s0; refine W.ifdI H C (λhc44=>?_) (λhc44=>?_)
    ·replace M:=hm_p M hc44; refine sg (l:=[0]) C<|mv H C λa H=>nk<|W.ret<|ktr<|k_stl_ret<|?_; obtain rfl:=oj M; refine post1 H C (rkt C) ?_; exact ⟨(),C,X.noB⟩
    ·replace M:=hm_n M hc44; refine W.skip<|ksq<|?_; nomatch M
def zfi (F:Nat) :Option Unit :=
  some ()
def zfj (F:Nat) (x4:Bool) (x6:List Int) (x1:Bool) (x3:List Int) (rec14:Int→Option Unit) (x13:Int):Option Unit :=
  if 1<(x13:Int) then ((some (i64.wrap (Int.tdiv (i64.wrap (0+x13)) 2))).bind λx16=>(zfY F x4 x6 x1 x3 x16).bind λx17=>if (x17)=true then (none) else (rec14 x16)) else (zfi F)
def zde (F:Nat) (x4:Bool) (x6:List Int) (x1:Bool) (x3:List Int):Nat→Int→Option Unit
  | 0,_=>none
  | n+1,x13=>zfj F x4 x6 x1 x3 (zde F x4 x6 x1 x3 n) x13
def zfk (F:Nat) (x4:Bool) (x6:List Int) (x1:Bool) (x3:List Int):Option Unit :=
  zde F x4 x6 x1 x3 F 324000000000
def zd7 (F:Nat) (x4:Bool) (x6:List Int) (x1:Bool) (x3:List Int) (x21:Bool):Option Unit :=
  if (x21)=true then (none) else (zfk F x4 x6 x1 x3)
def zfl (F:Nat) (x4:Bool) (x6:List Int) (x1:Bool) (x3:List Int) (rec19:Option Unit) :Option Unit :=
  (zba F x4 x6).bind λx20=>if x20≤(0:Int) then (zd7 F x4 x6 x1 x3 true) else ((zba F x1 x3).bind λx24=>zd7 F x4 x6 x1 x3 (decide (x24<(0:Int))))
def zdf (F:Nat) (x4:Bool) (x6:List Int) (x1:Bool) (x3:List Int):Nat→Option Unit
  | 0=>none
  | n+1=>zfl F x4 x6 x1 x3 (zdf F x4 x6 x1 x3 n)
def zd8 (F:Nat) (x4:Bool) (x6:List Int) (x1:Bool) (x3:List Int) (x11:Bool):Option Unit :=
  if (x11)=true then (none) else (zdf F x4 x6 x1 x3 F)
def zfm (F:Nat) (x3 x6:List Int) (x1 x4:Bool):Option Unit :=
  if (if (x3.length:Int)<(x6.length:Int) then (x6.length:Int) else (x3.length:Int))>(16:Int) then (none) else ((zba F x1 x3).bind λx10=>if x10=(0:Int) then ((zba F x4 x6).bind λx26=>zd8 F x4 x6 x1 x3 (decide (x26=(0:Int)))) else (zd8 F x4 x6 x1 x3 false))
def zfn (F:Nat) (x1:Bool) (x3:List Int) (x4:Bool) (x6:List Int):Option Unit :=
  (zdq F x1 x3).bind λx28=>if x28≠(0:Int) then (none) else ((zdq F x4 x6).bind λx31=>if x31≠(0:Int) then (none) else (zfm F x3 x6 x1 x4))
theorem zgs (F:Nat) (x1:Bool) (s2:Value) (x3:List Int) (x4:Bool) (s5:Value) (x6:List Int) (w0:World) (h_s2:rdEOK (hp w0) 1 E61 s2 x3) (h_s5:rdEOK (hp w0) 1 E61 s5 x6) (r:Unit) (M:zfn F x1 x3 x4 x6=some r) :
    Ret P 78 #[.agg #[B x1,s2],.agg #[B x4,s5]] w0 (G:=Unit) (λ_=>.tuple #[I 0,I 0]) (λ_ w=>St w0 w noX [] []):=by
 unfold zfn at M; refine roW Tryz.func78 C C C (λa H=>?_); have X:St w0 w0 noX [E s2 x3,E s5 x6] []:=Sbw (lnc (lendRd h_s2) (lnc (lendRd h_s5) lnn)); refine sg (l:=[0,1,2,3]) C<|O.box (cs:=#[B x1,s2]) H X C C C C<|?_; intro b7 w a hb7 X H; refine O.box (cs:=#[B x4,s5]) H X C C C C ?_; intro b8 w a hb8 X H; refine mv2 H C C λa H=>nk<|?_; refine W.seqR (λa w=>Fr a 77 [] [(2,Pv b7 0),(3,Pv b8 0),(4,I 0),(5,I 0)]∧St w0 w noX [E s2 x3,E s5 x6] [pW28 b7 x1 s2,pW28 b8 x4 s5]∧zfm F x3 x6 x1 x4=some r) ?_ ?_
 ·refine sg (l:=[0,1,2,3]) C<|ov H C (lN (cs':=#[B x1,s2]) A_28 C (X.p 1 C) C C) λa H=>ov H C (lN (cs':=#[B x4,s5]) A_28 C (X.p 0 C) C C) λa H=>ov (v:=.agg #[B x1,s2,B x4,s5]) H C (Z.buildA (cs':=#[B x1,s2,B x4,s5]) zha zaa ziM C (by kernel_rfl)) λa H=>mv H C λa H=>nk<|W.block<|?_; refine W.loopH (LH.step ?_); refine sg (l:=[0]) C<|ov H C (Z.lss (p:=0) (q:=2) C C) λa H=>nk<|W.seq<|W.if_tt H C<|W.skip<|ksq<|W.seq<|W.block<|sg (l:=[0,1,2]) C<|?_; refine ov H C (Z.indexN (j:=0) (cs':=#[B x1,s2]) zha zag zaa C C C (by decide) C) λa H=>O.alloc (cs:=#[B false,.slice none 0 0]) H X C C zab C<|?_; intro b27 w a hb27 X H; refine ost 0 #[B x1,s2] H X C C C zaa C (occ C (occ (rdo (X.b 0 C)) C)) C (bl C) C ?_; intro w X; refine nk<|sg (l:=[0,1,2]) C<|ov H C (lN (cs':=#[B x1,s2]) A_28 C (X.p 0 C) C C) λa H=>?_; refine hb M λx28 hx28 M=>oq H X C zhq (zd3 F x1 s2 x3 _ (X.b 0 C) x28 hx28) ?_; rintro _ w X a H; refine mv H C λa H=>nk<|?_; replace X:=X.sl [0,1,1]; refine sg (l:=[0,1]) C<|mv H C λa H=>ov H C (Z.neq C C) λa H=>nk<|?_; refine W.ifdI H C (λhc29=>?_) (λhc29=>?_)
  ·nomatch hm_p M hc29
  ·replace M:=hm_n M hc29; refine W.skip<|kbn<|ksq<|wrL (l:=[0,1]) C<|ov H C (Z.add (p:=0) (q:=1) C C) λa H=>mv H C λa H=>O.nil<|?_; refine kth (LH.step ?_); refine sg (l:=[0]) C<|ov H C (Z.lss (p:=1) (q:=2) C C) λa H=>nk<|W.seq<|W.if_tt H C<|W.skip<|ksq<|W.seq<|W.block<|sg (l:=[0,1,2]) C<|?_; refine ov H C (Z.indexN (j:=1) (cs':=#[B x4,s5]) zha zag zaa C C C (by decide) C) λa H=>O.alloc (cs:=#[B false,.slice none 0 0]) H X C C zab C<|?_; intro b30 w a hb30 X H; refine ost 0 #[B x4,s5] H X C C C zaa C (occ C (occ (rdo (X.b 1 C)) C)) C (bl C) C ?_; intro w X; refine nk<|sg (l:=[0,1,2]) C<|ov H C (lN (cs':=#[B x4,s5]) A_28 C (X.p 0 C) C C) λa H=>?_; refine hb M λx31 hx31 M=>oq H X C zhq (zd3 F x4 s5 x6 _ (X.b 1 C) x31 hx31) ?_; rintro _ w X a H; refine mv H C λa H=>nk<|?_; replace X:=X.sl [0,1,1]; refine sg (l:=[0,1]) C<|mv H C λa H=>ov H C (Z.neq C C) λa H=>nk<|?_; refine W.ifdI H C (λhc32=>?_) (λhc32=>?_)
   ·nomatch hm_p M hc32
   ·replace M:=hm_n M hc32; refine W.skip<|kbn<|ksq<|wrL (l:=[0,1]) C<|ov H C (Z.add (p:=1) (q:=1) C C) λa H=>mv H C λa H=>O.nil<|?_; refine kth (LH.step ?_); refine sg (l:=[0]) C<|ov H C (Z.lss (p:=2) (q:=2) C C) λa H=>nk<|W.seq<|W.if_ff H C<|W.exit<|kte<|kte<|kbk<|?_; replace X:=X.fr 1; exact kth ⟨H.q C,X,M⟩
 ·clear H X M a; (try clear w); rintro a w ⟨H,X,M⟩; unfold zfm at M; refine W.seq<|sg (l:=[0,1,2,3,4,5,6,7]) C<|ov H C (Z.field zah C C) λa H=>ov (v:=s2) H C (Z.load1 zai C (X.p 0 C) C) λa H=>ov (v:=I (x3.length:Int)) H C (Z.lenE (e:=61) (by simpa using zac) C (X.b 0 C)) λa H=>ov H C (Z.field zah C C) λa H=>ov (v:=s5) H C (Z.load1 zai C (X.p 1 C) C) λa H=>ov (v:=I (x6.length:Int)) H C (Z.lenE (e:=61) (by simpa using zac) C (X.b 1 C)) λa H=>ov (v:=I (if (x3.length:Int)<(x6.length:Int) then (x6.length:Int) else (x3.length:Int))) H C (Z.max C C) λa H=>ov H C (Z.gtr C C) λa H=>?_; refine nk ?_; refine W.ifdI H C (λhc9=>?_) (λhc9=>?_)
  ·nomatch hm_p M hc9
  ·replace M:=hm_n M hc9; refine W.skip<|ksq<|W.seq<|sg (l:=[0,1,2,3,4,5,6,7]) C<|ov H C (lN (cs':=#[B x1,s2]) A_28 C (X.p 0 C) C C) λa H=>?_; refine hb M λx10 hx10 M=>oq H X C zcM (za0 F x1 s2 x3 _ (X.b 0 C) x10 hx10) ?_; rintro _ w X a H; refine ov H C (Z.eql C C) λa H=>mv H C λa H=>?_; refine O.cutN (l₁:=[4,5,6,7]) (l₂:=_) (λa w=>∃ (x11:Bool),Fr a 77 [] [(2,Pv b7 0),(3,Pv b8 0),(4,I 0),(5,I 0),(42,B x11)]∧St w0 w noX [E s2 x3,E s5 x6] [pW28 b7 x1 s2,pW28 b8 x4 s5]∧zd8 F x4 x6 x1 x3 x11=some r) C ?_ ?_
   ·rcases Bool.eq_false_or_eq_true (decide (x10=(0:Int))) with hb25 | hb25
    ·have hb25p:=of_decide_eq_true hb25; replace M:=hm_p M hb25p; refine og H C hb25 (lN (cs':=#[B x4,s5]) A_28 C (X.p 1 C) C C) λa H=>?_; refine hb M λx26 hx26 M=>O.gcallR H C C C hb25 C C (RunE.call (av:=#[.agg #[B x4,s5]]) zcM C C C) (za0 F x4 s5 x6 _ (X.b 1 C) x26 hx26) ?_; rintro _ w Y a H; replace X:=X.cl Y; refine og H C hb25 (Z.eql C C) λa H=>?_; refine ov (v:=B (decide (x26=(0:Int)))) H C (Z.pick C C C (by rw [hb25]; rfl)) ?_; clear H a; intro a H; exact O.nil ⟨C,decide (x26=(0:Int)),H.q C,X,M⟩
    ·have hb25p:=of_decide_eq_false hb25; replace M:=hm_n M hb25p; refine sk H C hb25 λa H=>sk H C hb25 λa H=>sk H C hb25 λa H=>?_; refine ov (v:=B false) H C (Z.pick C C C (by rw [hb25]; rfl)) ?_; clear H a; intro a H; exact O.nil ⟨C,false,H.q C,X,M⟩
   clear H X M a; (try clear w); rintro a w ⟨x11,H,X,M⟩; unfold zd8 at M; refine nk ?_; refine W.if_ H C (λhc12=>?_) (λhc12=>?_)
   ·nomatch hm_t M hc12
   ·replace M:=hm_f M hc12; refine W.skip<|ksq<|sg (l:=[0]) C<|mv H C λa H=>nk<|?_; refine W.seqR (λa w=>Fr a 77 [] [(2,Pv b7 0),(3,Pv b8 0),(4,I 0),(5,I 0),(9,I 0)]∧St w0 w noX [E s2 x3,E s5 x6] [pW28 b7 x1 s2,pW28 b8 x4 s5]∧zfk F x4 x6 x1 x3=some r) ?_ ?_
    ·refine W.block<|W.loop (G:=Nat) (λg a w=>match g with | k19=>Fr a 77 [] [(2,Pv b7 0),(3,Pv b8 0),(4,I 0),(5,I 0),(9,I 0)]∧St w0 w noX [E s2 x3,E s5 x6] [pW28 b7 x1 s2,pW28 b8 x4 s5]∧zdf F x4 x6 x1 x3 k19=some r) (λg=>match g with | k19=>k19) (F) ⟨H.q C,X,M⟩<|?_; clear H X M a; (try clear w); rintro k19 a w ⟨H,X,M⟩
     rcases k19 with _ | k19
     · nomatch M
     replace M:zfl F x4 x6 x1 x3 (zdf F x4 x6 x1 x3 k19)=some r:=M; obtain ⟨rec19,hrec19⟩:∃ f,f=zdf F x4 x6 x1 x3 k19:=⟨_,C⟩; rw [← hrec19] at M; unfold zfl at M; refine W.seq<|sg (l:=[0,1,2,3,4,5,6,7]) C<|ov H C (lN (cs':=#[B x4,s5]) A_28 C (X.p 1 C) C C) λa H=>?_; refine hb M λx20 hx20 M=>oq H X C zcM (za0 F x4 s5 x6 _ (X.b 1 C) x20 hx20) ?_; rintro _ w X a H; refine ov H C (Z.leq C C) λa H=>mv H C λa H=>?_; refine O.cutN (l₁:=[4,5,6,7]) (l₂:=_) (λa w=>∃ (x21:Bool),Fr a 77 [] [(2,Pv b7 0),(3,Pv b8 0),(4,I 0),(5,I 0),(9,I 0),(50,B x21)]∧St w0 w noX [E s2 x3,E s5 x6] [pW28 b7 x1 s2,pW28 b8 x4 s5]∧zd7 F x4 x6 x1 x3 x21=some r) C ?_ ?_
     ·rcases Bool.eq_false_or_eq_true (decide (x20≤(0:Int))) with hb23 | hb23
      ·have hb23p:=of_decide_eq_true hb23; replace M:=hm_p M hb23p; refine sk H C hb23 λa H=>sk H C hb23 λa H=>sk H C hb23 λa H=>?_; refine ov (v:=B true) H C (Z.pick C C C (by rw [hb23]; rfl)) ?_; clear H a; intro a H; exact O.nil ⟨C,true,H.q C,X,M⟩
      ·have hb23p:=of_decide_eq_false hb23; replace M:=hm_n M hb23p; refine og H C hb23 (lN (cs':=#[B x1,s2]) A_28 C (X.p 0 C) C C) λa H=>?_; refine hb M λx24 hx24 M=>O.gcallR H C C C hb23 C C (RunE.call (av:=#[.agg #[B x1,s2]]) zcM C C C) (za0 F x1 s2 x3 _ (X.b 0 C) x24 hx24) ?_; rintro _ w Y a H; replace X:=X.cl Y; refine og H C hb23 (Z.lss C C) λa H=>?_; refine ov (v:=B (decide (x24<(0:Int)))) H C (Z.pick C C C (by rw [hb23]; rfl)) ?_; clear H a; intro a H; exact O.nil ⟨C,decide (x24<(0:Int)),H.q C,X,M⟩
     clear H X M a; (try clear w); rintro a w ⟨x21,H,X,M⟩; unfold zd7 at M; refine nk ?_; refine W.if_ H C (λhc22=>?_) (λhc22=>?_)
     ·replace M:=hm_t M hc22; refine W.skip<|ksq<|?_; nomatch M
     ·replace M:=hm_f M hc22; refine W.exit<|kte<|kte<|kbk<|?_; exact kth ⟨H.q C,X,M⟩
    ·clear H X M a; (try clear w); rintro a w ⟨H,X,M⟩; unfold zfk at M; refine sg (l:=[0,1]) C<|mv2 H C C λa H=>nk<|?_; refine W.seqR (λa w=>Fr a 77 [] [(4,I 0),(5,I 0),(9,I 0),(12,I 0)]∧St w0 w noX [E s2 x3,E s5 x6] []∧zfi F=some r) ?_ ?_
     ·refine W.block<|W.loop (G:=Nat × Int) (λg a w=>match g with | (k14,x13)=>Fr a 77 [] [(2,Pv b7 0),(3,Pv b8 0),(4,I 0),(5,I 0),(9,I 0),(12,I 0),(13,I x13)]∧St w0 w noX [E s2 x3,E s5 x6] [pW28 b7 x1 s2,pW28 b8 x4 s5]∧zde F x4 x6 x1 x3 k14 x13=some r) (λg=>match g with | (k14,x13)=>k14) (F,324000000000) ⟨H.q C,X,M⟩<|?_; clear H X M a; (try clear w); rintro ⟨k14,x13⟩ a w ⟨H,X,M⟩
      rcases k14 with _ | k14
      · nomatch M
      replace M:zfj F x4 x6 x1 x3 (zde F x4 x6 x1 x3 k14) x13=some r:=M; obtain ⟨rec14,hrec14⟩:∃ f,f=zde F x4 x6 x1 x3 k14:=⟨_,C⟩; rw [← hrec14] at M; unfold zfj at M; refine W.seq<|sg (l:=[0,1,2,3]) C<|mv H C λa H=>ov H C (Z.add (p:=0) (q:=1) C C) λa H=>mv H C λa H=>ov H C (Z.lss C C) λa H=>nk<|?_; refine W.ifdI H C (λhc15=>?_) (λhc15=>?_)
      ·replace M:=hm_p M hc15; refine W.skip<|ksq<|W.block<|sg (l:=[0,1,2,3,4]) C<|mv2 H C C λa H=>ov H C (Z.add C C) λa H=>ov (v:=I (i64.wrap (Int.tdiv (i64.wrap (0+x13)) 2))) H C (Z.quo (q:=2) C C (by decide)) λa H=>mv H C λa H=>nk<|?_; obtain ⟨x16,hx16,M⟩:=hm_b M; rw [oj hx16] at H; refine sg (l:=[0,1,2,3]) C<|ov H C (lN (cs':=#[B x4,s5]) A_28 C (X.p 1 C) C C) λa H=>ov H C (lN (cs':=#[B x1,s2]) A_28 C (X.p 0 C) C C) λa H=>mv H C λa H=>?_; refine hb M λx17 hx17 M=>oq H X C ziX (zhE F x4 s5 x6 x1 s2 x3 x16 _ (X.b 1 C) (X.b 0 C) x17 hx17) ?_; rintro _ w X a H; refine nk ?_; refine W.if_ H C (λhc18=>?_) (λhc18=>?_)
       ·nomatch hm_t M hc18
       ·replace M:=hm_f M hc18; refine wrL (l:=[0,1]) C<|mv2 H C C λa H=>O.nil<|kbn<|?_; refine kth ⟨(k14,x16),⟨H.q C,X,?_⟩,Nat.lt_succ_self _⟩; rw [hrec14] at M; exact M
      ·replace M:=hm_n M hc15; refine W.exit<|kte<|kte<|kbk<|?_; replace X:=X.s0; exact kth ⟨H.q C,X,M⟩
     ·clear H X M a; (try clear w); rintro a w ⟨H,X,M⟩; unfold zfi at M; refine sg (l:=[0,1,2,3,4]) C<|mv2 H C C λa H=>ov H C (Z.add (p:=0) (q:=0) C C) λa H=>mv2 H C C λa H=>nk<|W.ret<|?_; obtain rfl:=oj M; refine post2 H C (rkt C) (rkt C) ?_; exact ⟨(),C,X.noB⟩
def zd9 (F:Nat) (x1:Int):Option (Bool × (List Int)) :=
  (zay F x1).bind λx3=>(zay F x1).bind λx5=>(zaV F x3.1 x3.2 x5.1 x5.2).bind λx7=>some (x7.1,x7.2.1)
theorem zfV (F:Nat) (x1:Int) (w0:World) (r:Bool × (List Int)) (M:zd9 F x1=some r) :
    Ret P 79 #[I x1] w0 (G:=Value) (λg1=>.agg #[B r.1,g1]) (λg1 w=>St w0 w noX [] [D g1 r.2]):=by
 unfold zd9 at M; refine roW Tryz.func79 C C C (λa H=>?_); have X:St w0 w0 noX [] []:=Sbw lnn; refine sg (l:=[0]) C<|O.alloc (cs:=#[B false,.slice none 0 0]) H X C C zab C<|?_; intro b2 w a hb2 X H; refine nk<|sg (l:=[0,1,2,3,4,5,6,7,8,9,10]) C<|mv H C λa H=>?_; refine hb M λx3 hx3 M=>oq H X C zca (zav F x1 _ x3 hx3) ?_; rintro s4 w X a H; refine mv H C λa H=>?_; refine hb M λx5 hx5 M=>oq H X C zca (zav F x1 _ x5 hx5) ?_; rintro s6 w X a H; refine hb M λx7 hx7 M=>oq H X C zdV (zaY F x3.1 s4 x3.2 x5.1 s6 x5.2 _ (X.s 1 C) (X.s 0 C) x7 hx7) ?_; rintro s8 w X a H; refine mv H C λa H=>ex H C C C λa H=>ex H C C C λa H=>O.alloc (cs:=#[B false,.slice none 0 0]) H X C C zab C<|?_; intro b9 w a hb9 X H; refine ost 0 #[B x7.1,s8] H X C C C zaa C (occ C (occ (rdo (X.s 1 C)) C)) C (bl C) C ?_; intro w X; refine mv H C λa H=>nk<|?_; replace X:=X.sl [1,1,0,0,1]; refine sg (l:=[0,1]) C<|ov H C (lN (cs':=#[B x7.1,s8]) A_28 C (X.p 0 C) C C) λa H=>ost 2 #[B x7.1,s8] H X C C C zaa C (occ C (occ (rdo (X.s 1 C)) C)) C (bl C) C<|?_; intro w X; refine nk ?_; replace X:=X.sl [0,1,1]; refine W.ret ?_; obtain rfl:=oj M; refine post1 H C (rkn (cs':=#[B x7.1,s8]) C zag zaa (X.p 1 C) (bl C) C) ?_; replace X:=X.sl [1]; exact ⟨s8,C,X.noB⟩
def zgw (F:Nat) (x1:Bool) (x3:List Int):Option Int :=
  (za1 F x1 x3).bind λx6=>if ((decide (x6≠(0:Int)))||(decide ((x3.length:Int)=(0:Int))))=true then (none) else ((some (i64.wrap ((x3.length:Int)-1))).bind λx9=>(idx x3 x9).bind λx10=>(zdm F x10).bind λx11=>(some (i64.wrap ((i64.wrap (32*x9))+x11))).bind λx12=>some x12)
theorem zhV (F:Nat) (x1:Bool) (s2:Value) (x3:List Int) (w0:World) (h_s2:rdEOK (hp w0) 1 E61 s2 x3) (r:Int) (M:zgw F x1 x3=some r) :
    Ret P 112 #[.agg #[B x1,s2]] w0 (G:=Unit) (λ_=>.tuple #[I r,I 0]) (λ_ w=>St w0 w noX [] []):=by
 unfold zgw at M; refine roW Tryz.func112 C C C (λa H=>?_); have X:St w0 w0 noX [E s2 x3] []:=Sbw (lnc (lendRd h_s2) lnn); refine sg (l:=[0,1,2]) C<|O.box (cs:=#[B x1,s2]) H X C C C C<|?_; intro b4 w a hb4 X H; refine mv2 H C C λa H=>nk<|W.seq<|sg (l:=[0,1,2,3]) C<|ov H C (lN (cs':=#[B x1,s2]) A_28 C (X.p 0 C) C C) λa H=>O.buildSlice (cs':=#[B x1,s2]) (zs:=#[B false,.slice none 0 0]) H X C C za4 zaa zab C C C C C<|?_; intro b5 w a hb5 X H; refine hb M λx6 hx6 M=>oq H X C zc2 (zbF F b5 x1 s2 x3 _ (X.b 0 C) (X.p 0 C) x6 hx6) ?_; rintro _ w X a H; refine mv H C λa H=>nk<|?_; replace X:=X.sl [0,1]; refine sg (l:=[0,1,2,3,4,5,6,7]) C<|mv H C λa H=>ov H C (Z.neq C C) λa H=>mv H C λa H=>?_; refine O.cutN (l₁:=[3,4,5,6,7]) (l₂:=_) (λa w=>Fr a 31 [] [(1,Pv b4 0),(2,I 0),(3,I 0),(4,I x6),(16,B ((decide (x6≠(0:Int)))||(decide ((x3.length:Int)=(0:Int)))))]∧St w0 w noX [E s2 x3] [pW28 b4 x1 s2]) C ?_ ?_
 ·rcases Bool.eq_false_or_eq_true (decide (x6≠(0:Int))) with hb7 | hb7
  ·refine sk H C hb7 λa H=>sk H C hb7 λa H=>sk H C hb7 λa H=>sk H C hb7 λa H=>?_; refine ov (v:=B ((decide (x6≠(0:Int)))||(decide ((x3.length:Int)=(0:Int))))) H C (Z.pick C C C (by rw [hb7]; rfl)) ?_; clear H a; intro a H; exact O.nil ⟨C,H.q C,X⟩
  ·refine og H C hb7 (Z.field zah C C) λa H=>og (v:=s2) H C hb7 (Z.load1 zai C (X.p 0 C) C) λa H=>og (v:=I (x3.length:Int)) H C hb7 (Z.lenE (e:=61) (by simpa using zac) C (X.b 0 C)) λa H=>og H C hb7 (Z.eql C C) λa H=>?_; refine ov (v:=B ((decide (x6≠(0:Int)))||(decide ((x3.length:Int)=(0:Int))))) H C (Z.pick C C C (by rw [hb7]; rfl)) ?_; clear H a; intro a H; exact O.nil ⟨C,H.q C,X⟩
 clear H X a; (try clear w); rintro a w ⟨H,X⟩; refine nk ?_; refine W.if_ H C (λhc8=>?_) (λhc8=>?_)
 ·nomatch hm_t M hc8
 ·replace M:=hm_f M hc8; refine W.skip<|ksq<|sg (l:=[0,1,2,3,4]) C<|ov H C (Z.field zah C C) λa H=>ov (v:=s2) H C (Z.load1 zai C (X.p 0 C) C) λa H=>ov (v:=I (x3.length:Int)) H C (Z.lenE (e:=61) (by simpa using zac) C (X.b 0 C)) λa H=>ov H C (Z.sub C C) λa H=>mv H C λa H=>nk<|?_; obtain ⟨x9,hx9,M⟩:=hm_b M; rw [oj hx9] at H; refine sg (l:=[0,1,2,3,4,5,6,7,8,9,10]) C<|mv H C λa H=>ov H C (Z.mul C C) λa H=>ov H C (Z.field zah C C) λa H=>ov (v:=s2) H C (Z.load1 zai C (X.p 0 C) C) λa H=>mv H C λa H=>?_; refine hb M λx10 hx10 M=>ov H C (Z.ixE zac zae C C (X.b 0 C) hx10) λa H=>ov H C (Z.ldE1 (o:=0) zam E61_len C (X.b 0 C) hx10 C C) λa H=>?_; refine hb M λx11 hx11 M=>oq H X C ziu (zfc F x10 _ x11 hx11) ?_; rintro _ w X a H; refine ov H C (Z.add C C) λa H=>mv2 H C C λa H=>nk<|?_; replace X:=X.s0; obtain ⟨x12,hx12,M⟩:=hm_b M; rw [oj hx12] at H; refine W.ret ?_; obtain rfl:=oj M; refine post2 H C (rkt C) (rkt C) ?_; exact ⟨(),C,X.noB⟩
def zeG (F:Nat) (x7:List Int) (x8:Int):Option (List Int) :=
  if (x7.length:Int)≤4294967296 then some (x7++[u32.wrap x8]) else none
def zfL (F:Nat) (x2 x3:Int):Option (List Int) :=
  if 0≤(i64.wrap (Int.tdiv x3 32))∧(i64.wrap (Int.tdiv x3 32))≤(i64.wrap ((i64.wrap ((i64.wrap (Int.tdiv x3 32))+1))+1))∧(i64.wrap ((i64.wrap ((i64.wrap (Int.tdiv x3 32))+1))+1))≤4294967296 then if 0≤(Int.tmod x3 32) then (some (bitor .u64 0 (u64.wrap ((u64.wrap x2)*2^(min (Int.toNat (Int.tmod x3 32)) (IntKind.bits .u64)))))).bind λx13=>if ((List.replicate (Int.toNat (i64.wrap (Int.tdiv x3 32))) (0:Int)).length:Int)≤4294967296 then zeG F ((List.replicate (Int.toNat (i64.wrap (Int.tdiv x3 32))) (0:Int))++[u32.wrap x13]) (Int.fdiv x13 (2^32)) else none else none else none
theorem zht (F b1:Nat) (x2 x3:Int) (w0:World) (h_b1:w0.heap[b1]? = some (.cells #[.int .u32 x2] 61 (0,0))) (r:List Int) (M:zfL F x2 x3=some r) :
    Ret P 113 #[.slice (some ⟨b1,0,none⟩) 1 1,I x3] w0 (G:=Value) (λg1=>g1) (λg1 w=>St w0 w noX [] [D g1 r]):=by
 unfold zfL at M; refine roW Tryz.func113 C C C (λa H=>?_); have X:St w0 w0 noX [pt b1 (Cs #[.int .u32 x2] 61)] []:=Sbw (lnc (lendPt h_b1) lnn); refine sg (l:=[0]) C<|mv H C λa H=>nk<|sg (l:=[0,1,2,3,4,5,6,7,8,9]) C<|mv H C λa H=>ov (v:=I (i64.wrap (Int.tdiv x3 32))) H C (Z.quo (q:=32) C C (by decide)) λa H=>mv H C λa H=>ov (v:=I (i64.wrap (Int.tdiv x3 32))) H C (Z.quo (q:=32) C C (by decide)) λa H=>mv H C λa H=>ov (v:=I 1) H C (Z.len (e:=61) (by simpa using zac) C) λa H=>?_; refine ov H C (Z.add C C) λa H=>ov H C (Z.add C C) λa H=>?_; obtain ⟨hg4,M⟩:=hm_g M; refine O.makeCapE (enc:=E61) (x0:=(0:Int)) H X C C zac zae za5 zaB C C C hg4 C E61_len C ?_; intro s5 w a X H; refine mv H C λa H=>nk<|sg (l:=[0]) C<|mv H C λa H=>nk<|?_; refine W.seqR (λa w=>∃ (s6:Value) (x7:List Int) (x8:Int),Fr a 44 [] [(4,.slice none 0 0),(5,s6),(6,Uv x8)]∧St w0 w noX [pt b1 (Cs #[.int .u32 x2] 61)] [D s6 x7]∧zeG F x7 x8=some r) ?_ ?_
 ·refine sg (l:=[0,1,2]) C<|mv H C λa H=>ov (v:=I 1) H C (Z.len (e:=61) (by simpa using zac) C) λa H=>mv H C λa H=>nk<|W.block<|?_; refine W.loopH (LH.step ?_); refine sg (l:=[0]) C<|ov H C (Z.lss (p:=0) (q:=1) C C) λa H=>nk<|W.seq<|W.if_tt H C<|W.skip<|ksq<|W.seq<|W.block<|sg (l:=[0,1,2]) C<|?_; refine ov H C (Z.indexSl (j:=0) (m:=0) zac zae C C C (by decide) C) λa H=>ov H C (Z.load1 zam C (X.bptAt (i:=0) C) C) λa H=>mv H C λa H=>nk<|sg (l:=[0,1,2,3,4,5,6,7]) C<|mv2 H C C λa H=>ov (v:=Uv (u64.wrap x2)) H C (Z.conv za7 zaD C) λa H=>mv H C λa H=>ov (v:=I (Int.tmod x3 32)) H C (Z.rem (q:=32) C C (by decide)) λa H=>?_; obtain ⟨hg12,M⟩:=hm_g M; refine ov (v:=Uv (u64.wrap ((u64.wrap x2)*2^(min (Int.toNat (Int.tmod x3 32)) (IntKind.bits .u64))))) H C (Z.shl C C hg12) λa H=>ov (v:=Uv (bitor .u64 0 (u64.wrap ((u64.wrap x2)*2^(min (Int.toNat (Int.tmod x3 32)) (IntKind.bits .u64)))))) H C (Z.bitor C C) λa H=>mv H C λa H=>nk<|?_; obtain ⟨x13,hx13,M⟩:=hm_b M; rw [oj hx13] at H; refine sg (l:=[0,1,2,3,4,5]) C<|mv2 H C C λa H=>ov (v:=.int .u32 (u32.wrap x13)) H C (Z.conv zaI za6 C) λa H=>O.buildSlice (cs':=#[.int .u32 (u32.wrap x13)]) (zs:=#[.int .u32 0]) H X C C zac zae zaB C C C C C<|?_; intro b14 w a hb14 X H; obtain ⟨hg15,M⟩:=hm_g M; refine O.appendE1 (j:=1) (jj:=0) (enc:=E61) (m:=[u32.wrap x13]) (l':=(List.replicate (Int.toNat (i64.wrap (Int.tdiv x3 32))) (0:Int))++[u32.wrap x13]) H X C C zac zae za5 zaB C C C C C C C C C C hg15 C C C ?_; intro s16 w a X H; replace X:St w0 _ noX [pt b1 (Cs #[.int .u32 x2] 61)] [pt b14 (Cs #[.int .u32 (u32.wrap x13)] 61),D s16 ((List.replicate (Int.toNat (i64.wrap (Int.tdiv x3 32))) (0:Int))++[u32.wrap x13])]:=X; refine mv H C λa H=>nk<|?_; replace X:=X.sl [0,1]; refine wrL (l:=[0,1,2]) C<|mv H C λa H=>ov (v:=Uv (Int.fdiv x13 (2^32))) H C (Z.shr (q:=32) C C (by decide)) λa H=>mv H C λa H=>O.nil<|kbn<|ksq<|wrL (l:=[0,1]) C<|ov H C (Z.add (p:=0) (q:=1) C C) λa H=>mv H C λa H=>?_; refine O.nil ?_; refine kth (LH.step ?_); refine sg (l:=[0]) C<|ov H C (Z.lss (p:=1) (q:=1) C C) λa H=>nk<|W.seq<|W.if_ff H C<|W.exit<|kte<|kte<|kbk<|?_; exact kth ⟨s16,(List.replicate (Int.toNat (i64.wrap (Int.tdiv x3 32))) (0:Int))++[u32.wrap x13],Int.fdiv x13 (2^32),H.q C,X,M⟩
 ·clear H X M a; (try clear w); rintro a w ⟨s6,x7,x8,H,X,M⟩; unfold zeG at M; refine sg (l:=[0,1,2,3,4,5]) C<|mv2 H C C λa H=>ov (v:=.int .u32 (u32.wrap x8)) H C (Z.conv zaI za6 C) λa H=>O.buildSlice (cs':=#[.int .u32 (u32.wrap x8)]) (zs:=#[.int .u32 0]) H X C C zac zae zaB C C C C C<|?_; intro b9 w a hb9 X H; obtain ⟨hg10,M⟩:=hm_g M; refine O.appendE1 (j:=1) (jj:=0) (enc:=E61) (m:=[u32.wrap x8]) (l':=x7++[u32.wrap x8]) H X C C zac zae za5 zaB C C C C C C C C C C hg10 C C C ?_; intro s11 w a X H; replace X:St w0 _ noX [pt b1 (Cs #[.int .u32 x2] 61)] [pt b9 (Cs #[.int .u32 (u32.wrap x8)] 61),D s11 (x7++[u32.wrap x8])]:=X; refine mv H C λa H=>nk<|?_; replace X:=X.sl [0,1]; refine W.ret ?_; obtain rfl:=oj M; refine post1 H C (rkt C) ?_; exact ⟨s11,C,X.noB⟩
def zfM (F:Nat) :Option (Bool × (List Int) × Int) :=
  none
def zfN (F:Nat) (x10:Int) (x3:List Int) (rec18:(List Int)→Option (Bool × (List Int) × Int)) (x17:List Int):Option (Bool × (List Int) × Int) :=
  if x10>(0:Int) then ((zcs F x3 x17).bind λx20=>(zfR F x20.1 x17).bind λx23=>(zek F x23 1).bind λx25=>(za9 F x25.1).bind λx27=>(zbm F x27 x17).bind λx29=>if x29≥(0:Int) then ((zaC F false x17).bind λx31=>some x31) else (rec18 x27)) else (zfM F)
def zdt (F:Nat) (x10:Int) (x3:List Int):Nat→(List Int)→Option (Bool × (List Int) × Int)
  | 0,_=>none
  | n+1,x17=>zfN F x10 x3 (zdt F x10 x3 n) x17
def zgx (F:Nat) (x1:Bool) (x3:List Int):Option (Bool × (List Int) × Int) :=
  (za1 F x1 x3).bind λx7=>if x7≠(0:Int) then (none) else (if (x1)=true then (none) else ((zgw F x1 x3).bind λx10=>(zfL F 1 (i64.wrap (Int.tdiv (i64.wrap (x10+1)) 2))).bind λx12=>(za9 F x12).bind λx14=>zdt F x10 x3 F x14))
theorem zhW (F:Nat) (x1:Bool) (s2:Value) (x3:List Int) (w0:World) (h_s2:rdEOK (hp w0) 1 E61 s2 x3) (r:Bool × (List Int) × Int) (M:zgx F x1 x3=some r) :
    Ret P 80 #[.agg #[B x1,s2]] w0 (G:=Value) (λg1=>.tuple #[.agg #[B r.1,g1],I r.2.2]) (λg1 w=>St w0 w noX [] [D g1 r.2.1]):=by
 unfold zgx at M; refine roW Tryz.func80 C C C (λa H=>?_); have X:St w0 w0 noX [E s2 x3] []:=Sbw (lnc (lendRd h_s2) lnn); refine sg (l:=[0,1,2]) C<|O.box (cs:=#[B x1,s2]) H X C C C C<|?_; intro b4 w a hb4 X H; refine O.alloc (cs:=#[B false,.slice none 0 0]) H X C C zab C ?_; intro b5 w a hb5 X H; refine mv H C λa H=>nk<|W.seq<|sg (l:=[0,1,2,3]) C<|ov H C (lN (cs':=#[B x1,s2]) A_28 C (X.p 1 C) C C) λa H=>O.buildSlice (cs':=#[B x1,s2]) (zs:=#[B false,.slice none 0 0]) H X C C za4 zaa zab C C C C C<|?_; intro b6 w a hb6 X H; refine hb M λx7 hx7 M=>oq H X C zc2 (zbF F b6 x1 s2 x3 _ (X.b 0 C) (X.p 0 C) x7 hx7) ?_; rintro _ w X a H; refine mv H C λa H=>nk<|?_; replace X:=X.sl [0,1,1]; refine sg (l:=[0,1]) C<|mv H C λa H=>ov H C (Z.neq C C) λa H=>nk<|?_; refine W.ifdI H C (λhc8=>?_) (λhc8=>?_)
 ·nomatch hm_p M hc8
 ·replace M:=hm_n M hc8; refine W.skip<|ksq<|W.seq<|sg (l:=[0,1]) C<|ov H C (Z.field zaj C C) λa H=>ov H C (Z.load1 zap C (X.p 1 C) C) λa H=>nk<|?_; refine W.if_ H C (λhc9=>?_) (λhc9=>?_)
  ·nomatch hm_t M hc9
  ·replace M:=hm_f M hc9; refine W.skip<|ksq<|sg (l:=[0,1,2,3,4,5,6]) C<|ov H C (lN (cs':=#[B x1,s2]) A_28 C (X.p 1 C) C C) λa H=>?_; refine hb M λx10 hx10 M=>oq H X C ziY (zhV F x1 s2 x3 _ (X.b 0 C) x10 hx10) ?_; rintro _ w X a H; refine mv H C λa H=>ex H C C C λa H=>ex H C C C λa H=>mv2 H C C λa H=>nk<|sg (l:=[0,1,2,3,4,5,6]) C<|O.buildSlice (cs':=#[.int .u32 1]) (zs:=#[.int .u32 0]) H X C C zac zae zaB C C C C C<|?_; intro b11 w a hb11 X H; refine mv H C λa H=>ov H C (Z.add C C) λa H=>ov (v:=I (i64.wrap (Int.tdiv (i64.wrap (x10+1)) 2))) H C (Z.quo (q:=2) C C (by decide)) λa H=>?_; refine hb M λx12 hx12 M=>oq H X C zgJ (zht F b11 1 (i64.wrap (Int.tdiv (i64.wrap (x10+1)) 2)) _ (X.p 0 C) x12 hx12) ?_; rintro s13 w X a H; refine hb M λx14 hx14 M=>oc H C ze1 (zbh F s13 x12 _ (X.slS (j:=0) C) x14 hx14) ?_; rintro s15 w Y a H; replace X:=X.cz Y 0 λ_ h=>h; refine mv H C λa H=>nk<|?_; replace X:=X.sl [1,0,1,1]; refine W.seqR (λa w=>Fr a 61 [] [(2,Pv b5 0),(3,I 0)]∧St w0 w noX [E s2 x3] [pt b5 (Cs #[B false,.slice none 0 0] 28)]∧zfM F=some r) ?_ ?_
   ·refine W.block ?_; replace X:=X.fr 1; replace X:=X.fr 2; refine W.loop (G:=Nat × Value × (List Int)) (λg a w=>match g with | (k18,s16,x17)=>Fr a 61 [] [(1,Pv b4 0),(2,Pv b5 0),(3,I 0),(5,I x10),(7,s16)]∧St w0 w noX [E s2 x3] [pW28 b4 x1 s2,pt b5 (Cs #[B false,.slice none 0 0] 28),D s16 x17]∧zdt F x10 x3 k18 x17=some r) (λg=>match g with | (k18,s16,x17)=>k18) (F,s15,x14) ⟨H.q C,X,M⟩ ?_; clear H X M a; (try clear w); rintro ⟨k18,s16,x17⟩ a w ⟨H,X,M⟩
    rcases k18 with _ | k18
    · nomatch M
    replace M:zfN F x10 x3 (zdt F x10 x3 k18) x17=some r:=M; obtain ⟨rec18,hrec18⟩:∃ f,f=zdt F x10 x3 k18:=⟨_,C⟩; rw [← hrec18] at M; unfold zfN at M; refine W.seq<|sg (l:=[0,1]) C<|mv H C λa H=>ov H C (Z.gtr C C) λa H=>nk<|?_; refine W.ifdI H C (λhc19=>?_) (λhc19=>?_)
    ·replace M:=hm_p M hc19; refine W.skip<|ksq<|W.block<|sg (l:=[0,1,2,3,4,5,6,7,8]) C<|ov H C (Z.field zah C C) λa H=>ov (v:=s2) H C (Z.load1 zai C (X.p 0 C) C) λa H=>mv H C λa H=>?_; refine hb M λx20 hx20 M=>oq H X C zgE (zcS F s2 x3 s16 x17 _ (X.b 0 C) (X.s 2 C) x20 hx20) ?_; rintro ⟨s21,s22⟩ w X a H; refine mv H C λa H=>ex H C C C λa H=>ex H C C C λa H=>mv2 H C C λa H=>nk<|?_; replace X:=X.sl [1,0,1,1,1]; refine sg (l:=[0,1,2,3,4,5,6,7,8]) C<|mv2 H C C λa H=>?_; refine hb M λx23 hx23 M=>oq H X C ziB (zgF F s21 x20.1 s16 x17 _ (X.s 0 C) (X.s 3 C) x23 hx23) ?_; rintro s24 w X a H; refine hb M λx25 hx25 M=>oq H X C zhz (ze8 F s24 x23 1 _ (X.s 0 C) x25 hx25) ?_; rintro s26 w X a H; refine mv H C λa H=>ex H C C C λa H=>ex H C C C λa H=>mv2 H C C λa H=>nk<|?_; replace X:=X.sl [1,0,0,1,1,1]; refine W.seq<|sg (l:=[0,1,2]) C<|mv H C λa H=>?_; refine hb M λx27 hx27 M=>oc H C ze1 (zbh F s26 x25.1 _ (X.slS (j:=0) C) x27 hx27) ?_; rintro s28 w Y a H; replace X:=X.cz Y 0 λ_ h=>h; refine mv H C λa H=>nk<|sg (l:=[0,1,2,3]) C<|mv2 H C C λa H=>?_; refine hb M λx29 hx29 M=>oq H X C zgD (zcx F s28 x27 s16 x17 _ (X.s 0 C) (X.s 3 C) x29 hx29) ?_; rintro _ w X a H; refine ov H C (Z.geq C C) λa H=>nk<|?_; refine W.ifdI H C (λhc30=>?_) (λhc30=>?_)
     ·replace M:=hm_p M hc30; refine sg (l:=[0,1,2,3,4,5]) C<|mv H C λa H=>?_; refine hb M λx31 hx31 M=>oc H C zcJ (zaE F false s16 x17 _ (X.slS (j:=3) C) x31 hx31) ?_; rintro s32 w Y a H; replace X:=X.cz Y 3 λ_ h=>h; refine ex H C C C λa H=>ex H C C C λa H=>ost 3 #[B x31.1,s32] H X C C C zaa C (occ C (occ (rdo (X.s 0 C)) C)) C (bl C) C<|?_; intro w X; refine mv H C λa H=>nk<|W.ret<|ktr<|kbr<|ktr<|kbr<|ktr<|?_; obtain rfl:=oj M; refine post2 H C (rkn (cs':=#[B x31.1,s32]) C zag zaa (X.p 3 C) (bl C) C) (rkt C) ?_; replace X:=X.sl [1]; exact ⟨s32,C,X.noB⟩
     ·replace M:=hm_n M hc30; refine W.skip<|ksq<|wrL (l:=[0,1]) C<|mv2 H C C λa H=>O.nil<|kbn<|?_; replace X:=X.fr 2; replace X:=X.fr 2; replace X:=X.sl [1,1,1]; refine kth ⟨(k18,s28,x27),⟨H.q C,X,?_⟩,Nat.lt_succ_self _⟩; rw [hrec18] at M; exact M
    ·replace M:=hm_n M hc19; refine W.exit<|kte<|kte<|kbk<|?_; replace X:=X.sl [0,1]; exact kth ⟨H.q C,X,M⟩
   ·clear H X M a; (try clear w); rintro a w ⟨H,X,M⟩; unfold zfM at M; nomatch M
def zcm (F:Nat) (x1 x2 x3:Int):Option Unit :=
  (zd9 F x1).bind λx6=>(zd9 F x2).bind λx8=>(zez F x6.1 x6.2 x8.1 x8.2).bind λx10=>(zgx F x10.1 x10.2.1).bind λx13=>(zay F x3).bind λx16=>(zfn F x16.1 x16.2 x13.1 x13.2.1).bind λx18=>some ()
def zb0 (F:Nat) (x1 x2 x3:Int):Option Unit :=
  if ((x1 == 0)&&((x2 == 0)&&((x3 == 0)&&(true))))=true then (none) else (if ((decide (x1≠(0:Int)))||(decide (x2≠(0:Int))))=true then ((zay F x2).bind λx21=>(zay F x1).bind λx23=>(zfn F x21.1 x21.2 x23.1 x23.2).bind λx25=>zcm F x1 x2 x3) else (zcm F x1 x2 x3))
theorem zeL (F:Nat) (x1 x2 x3:Int) (w0:World) (r:Unit) (M:zb0 F x1 x2 x3=some r) :
    Ret P 46 #[.agg #[I x1,I x2,I x3]] w0 (G:=Unit) (λ_=>.tuple #[I 0,I 0,I 0]) (λ_ w=>St w0 w noX [] []):=by
 unfold zb0 at M; refine roW Tryz.func46 C C C (λa H=>?_); have X:St w0 w0 noX [] []:=Sbw lnn; refine sg (l:=[0,1,2,3]) C<|O.box (cs:=#[I x1,I x2,I x3]) H X C C C C<|?_; intro b4 w a hb4 X H; refine mv2 H C C λa H=>mv H C λa H=>nk<|W.seq<|sg (l:=[0,1,2]) C<|ov H C (lN (cs':=#[I x1,I x2,I x3]) A_105 C (X.p 0 C) C C) λa H=>ov (v:=.agg #[I 0,I 0,I 0]) H C (Z.buildA (cs':=#[I 0,I 0,I 0]) zc8 zb4 ziJ C (by kernel_rfl)) λa H=>ov (v:=B ((x1 == 0)&&((x2 == 0)&&((x3 == 0)&&(true))))) H C (Z.eqAgg (d:=10) C ziP C C (EqR.arr (d:=9999) zc8 ziO zjj (EqI.cons (PartR.one (v:=I x1) zaf C) (PartR.one (v:=I 0) zaf C) (EqR.int (d:=9998) ze3) (EqI.cons (PartR.one (v:=I x2) zaf C) (PartR.one (v:=I 0) zaf C) (EqR.int (d:=9998) ze3) (EqI.cons (PartR.one (v:=I x3) zaf C) (PartR.one (v:=I 0) zaf C) (EqR.int (d:=9998) ze3) EqI.nil))))) λa H=>nk<|?_; refine W.if_ H C (λhc5=>?_) (λhc5=>?_)
 ·nomatch hm_t M hc5
 ·replace M:=hm_f M hc5; refine W.skip<|ksq<|?_; refine W.seqR (λa w=>Fr a 59 [] [(1,Pv b4 0),(2,I 0),(3,I 0),(4,I 0)]∧St w0 w noX [] [pt b4 (Cs #[I x1,I x2,I x3] 105)]∧zcm F x1 x2 x3=some r) ?_ ?_
  ·refine sg (l:=[0,1,2,3,4,5,6,7]) C<|ov H C (Z.indexArr (j:=0) (m:=0) zc8 zb4 C C C (by decide) C) λa H=>ov H C (Z.load1 zaf C (X.p 0 C) C) λa H=>ov H C (Z.neq C C) λa H=>mv H C λa H=>?_; refine O.cutN (l₁:=[4,5,6,7]) (l₂:=_) (λa w=>Fr a 59 [] [(1,Pv b4 0),(2,I 0),(3,I 0),(4,I 0),(19,B ((decide (x1≠(0:Int)))||(decide (x2≠(0:Int)))))]∧St w0 w noX [] [pt b4 (Cs #[I x1,I x2,I x3] 105)]) C ?_ ?_
   ·rcases Bool.eq_false_or_eq_true (decide (x1≠(0:Int))) with hb19 | hb19
    ·refine sk H C hb19 λa H=>sk H C hb19 λa H=>sk H C hb19 λa H=>?_; refine ov (v:=B ((decide (x1≠(0:Int)))||(decide (x2≠(0:Int))))) H C (Z.pick C C C (by rw [hb19]; rfl)) ?_; clear H a; intro a H; exact O.nil ⟨C,H.q C,X⟩
    ·refine og H C hb19 (Z.indexArr (j:=1) (m:=1) zc8 zb4 C C C (by decide) C) λa H=>og H C hb19 (Z.load1 zaf C (X.p 0 C) C) λa H=>og H C hb19 (Z.neq C C) λa H=>?_; refine ov (v:=B ((decide (x1≠(0:Int)))||(decide (x2≠(0:Int))))) H C (Z.pick C C C (by rw [hb19]; rfl)) ?_; clear H a; intro a H; exact O.nil ⟨C,H.q C,X⟩
   clear H X a; (try clear w); rintro a w ⟨H,X⟩; refine nk ?_; refine W.if_ H C (λhc20=>?_) (λhc20=>?_)
   ·replace M:=hm_t M hc20; have J:Fr a 59 [] [(2,I 0)]:=H.q C; obtain ⟨x21,hx21,M⟩:=hm_b M; obtain ⟨x23,hx23,M⟩:=hm_b M; refine hb M λx25 hx25 M=>W.drawK (γ:=Value × Value) (L0:=[(1,Pv b4 0),(3,I 0),(4,I 0),(19,B ((decide (x1≠(0:Int)))||(decide (x2≠(0:Int)))))]) (L1:=[(2,I 0)]) (undef,undef) [2,5,6] [] [0,1,3,4,7,8,9,10] (λi=>match i with | 1=>[0] | 2=>[1] | 4=>[3] | 5=>[2,4] | 6=>[2,5] | 7=>[6] | 8=>[7] | 9=>[7] | 10=>[0,1,2,3,4,5,6,7,8] | _=>[]) (λ_=>[]) (λi=>match i with | 2=>[5,6,7,8,9,10] | 5=>[6,7,8,9,10] | 6=>[7,8,9,10] | _=>[]) (λ_=>[]) (λi=>match i with | 5=>1 | 6=>2 | 7=>3 | 8=>3 | 9=>3 | 10=>3 | _=>0) (λi=>match i with | 2=>1 | 3=>1 | 4=>1 | 5=>2 | 6=>3 | 7=>3 | 8=>3 | 9=>3 | 10=>3 | _=>0) (λ(g:Value × Value) j=>match j with | 0=>Pv b4 1 | 1=>I x2 | 2=>.agg #[B x21.1,g.1] | 3=>Pv b4 0 | 4=>I x1 | 5=>.agg #[B x23.1,g.2] | 6=>.tuple #[I 0,I 0] | 7=>.tuple #[I 0,I 0] | 8=>I 0 | 9=>I 0 | 10=>I 0 | _=>undef) (λk s (g:Value × Value) w=>match k with | 0=>St w0 w noX [] [pt b4 (Cs #[I x1,I x2,I x3] 105)] | 1=>St w0 w noX [] [D g.1 x21.2,pt b4 (Cs #[I x1,I x2,I x3] 105)] | 2=>St w0 w noX [] [D g.2 x23.2,D g.1 x21.2,pt b4 (Cs #[I x1,I x2,I x3] 105)] | _=>St w0 w noX [] [D g.2 x23.2,D g.1 x21.2,pt b4 (Cs #[I x1,I x2,I x3] 105)]) P_mixed (by kernel_rfl) (H.q C) J X.drew ?_ ?_ ?_ ?_
    ·clear H J X; refine ⟨λk s g w _ _ _ X a H=>Q.val (v:=Pv b4 1) C C C X H (Z.indexArr (j:=1) (m:=1) zc8 zb4 C C C (by decide) C),?_,λk s g w _ _ _ X a H=>Q.val (v:=Pv b4 0) C C C X H (Z.indexArr (j:=0) (m:=0) zc8 zb4 C C C (by decide) C),?_,λk s g w _ _ _ X a H=>Q.val (v:=.tuple #[I 0,I 0]) C C C X H (Z.move C),λk s g w _ _ _ X a H=>Q.val (v:=I 0) C C C X H (Z.extract C C),λk s g w _ _ _ X a H=>Q.val (v:=I 0) C C C X H (Z.extract C C),λk s g w _ _ _ X a H=>Q.val (v:=I 0) C C C X H (Z.assign C),trivial⟩
     ·intro k s g w h1_ h2_ hsp X a H; obtain ⟨s22,s24⟩:=g
      rcases k with _ | k
      ·exact Q.val (v:=I x2) C C C X H (Z.load1 zaf C (X.p 0 C) C)
      ·simp at h2_
     ·intro k s g w h1_ h2_ hsp X a H; obtain ⟨s22,s24⟩:=g
      rcases k with _ | _ | k
      ·exact Q.val (v:=I x1) C C C X H (Z.load1 zaf C (X.p 0 C) C)
      ·exact Q.val (v:=I x1) C C C X H (Z.load1 zaf C (X.p 1 C) C)
      ·simp at h2_
    ·clear H J X; refine ⟨?_,?_,?_,trivial⟩
     ·intro s g w hsp X a H; obtain ⟨s22,s24⟩:=g; refine oq H X C zca (zav F x2 _ x21 hx21) ?_; rintro s22 w X a H; exact nE 23 H (s22,s24) C C (jl 11 (by kernel_rfl) λ_=>C) X
     ·intro s g w hsp X a H; obtain ⟨s22,s24⟩:=g; refine oq H X C zca (zav F x1 _ x23 hx23) ?_; rintro s24 w X a H; exact nE 26 H (s22,s24) C C (jl 11 (by kernel_rfl) λ_=>C) X
     ·intro s g w hsp X a H; obtain ⟨s22,s24⟩:=g; refine oq H X C ziy (zgs F x21.1 s22 x21.2 x23.1 s24 x23.2 _ (X.s 1 C) (X.s 0 C) x25 hx25) ?_; rintro _ w X a H; exact nE 27 H (s22,s24) C C (λ_ _ _=>C) X
    ·clear H J X; exact trivial
    clear H J X; intro s g a w hs H X; obtain ⟨s22,s24⟩:=g; replace X:=X.sl [0,0,1]; exact kth ⟨H.q C,X,M⟩
   ·replace M:=hm_f M hc20; refine W.skip ?_; exact kth ⟨H.q C,X,M⟩
  ·clear H X M a; (try clear w); rintro a w ⟨H,X,M⟩; unfold zcm at M; refine W.seq ?_; have J:Fr a 59 [] []:=H.to trivial; obtain ⟨x6,hx6,M⟩:=hm_b M; obtain ⟨x8,hx8,M⟩:=hm_b M; obtain ⟨x10,hx10,M⟩:=hm_b M; replace X:=X.drew; replace X:=X.emp; refine W.drawK (γ:=Nat × Value × Value × Value) (L0:=[(1,Pv b4 0),(2,I 0),(3,I 0),(4,I 0)]) (L1:=[]) (0,undef,undef,undef) [2,5,6,11] [10] [0,1,3,4,7,8,9,12] (λi=>match i with | 1=>[0] | 2=>[1] | 4=>[3] | 5=>[2,4] | 6=>[2,5] | 7=>[6] | 8=>[7] | 9=>[7] | 11=>[0,1,2,3,4,5,6,7,8,10] | 12=>[0,1,2,3,4,5,6,7,8,9,10,11] | _=>[]) (λi=>match i with | 11=>[10] | 12=>[10] | _=>[]) (λi=>match i with | 2=>[5,6,7,8,9,11,12] | 5=>[6,7,8,9,11,12] | 6=>[7,8,9,11,12] | 10=>[11,12] | 11=>[12] | _=>[]) (λ_=>[]) (λi=>match i with | 5=>1 | 6=>2 | 7=>3 | 8=>3 | 9=>3 | 11=>3 | 12=>4 | _=>0) (λi=>match i with | 2=>1 | 3=>1 | 4=>1 | 5=>2 | 6=>3 | 7=>3 | 8=>3 | 9=>4 | 10=>3 | 11=>4 | 12=>4 | _=>0) (λ(g:Nat × Value × Value × Value) j=>match j with | 0=>Pv b4 0 | 1=>I x1 | 2=>.agg #[B x6.1,g.2.1] | 3=>Pv b4 1 | 4=>I x2 | 5=>.agg #[B x8.1,g.2.2.1] | 6=>.tuple #[.agg #[B x10.1,g.2.2.2],I x10.2.2] | 7=>.tuple #[.agg #[B x10.1,g.2.2.2],I x10.2.2] | 8=>.agg #[B x10.1,g.2.2.2] | 9=>I x10.2.2 | 10=>Pv g.1 0 | 12=>I x10.2.2 | _=>undef) (λk s (g:Nat × Value × Value × Value) w=>match k with | 0=>St w0 w noX [] [condA (s 10) (pt g.1 (Cs #[B false,.slice none 0 0] 28)),pt b4 (Cs #[I x1,I x2,I x3] 105)] | 1=>St w0 w noX [] [D g.2.1 x6.2,condA (s 10) (pt g.1 (Cs #[B false,.slice none 0 0] 28)),pt b4 (Cs #[I x1,I x2,I x3] 105)] | 2=>St w0 w noX [] [D g.2.2.1 x8.2,D g.2.1 x6.2,condA (s 10) (pt g.1 (Cs #[B false,.slice none 0 0] 28)),pt b4 (Cs #[I x1,I x2,I x3] 105)] | 3=>St w0 w noX [] [D g.2.2.2 x10.2.1,D g.2.2.1 x8.2,D g.2.1 x6.2,condA (s 10) (pt g.1 (Cs #[B false,.slice none 0 0] 28)),pt b4 (Cs #[I x1,I x2,I x3] 105)] | _=>St w0 w noX [] [D g.2.2.2 x10.2.1,D g.2.2.1 x8.2,D g.2.1 x6.2,pt g.1 (Cs #[B x10.1,g.2.2.2] 28),pt b4 (Cs #[I x1,I x2,I x3] 105)]) P_mixed (by kernel_rfl) (H.q C) J X ?_ ?_ ?_ ?_
   ·clear H J X; refine ⟨λk s g w _ _ _ X a H=>Q.val (v:=Pv b4 0) C C C X H (Z.indexArr (j:=0) (m:=0) zc8 zb4 C C C (by decide) C),?_,λk s g w _ _ _ X a H=>Q.val (v:=Pv b4 1) C C C X H (Z.indexArr (j:=1) (m:=1) zc8 zb4 C C C (by decide) C),?_,λk s g w _ _ _ X a H=>Q.val (v:=.tuple #[.agg #[B x10.1,g.2.2.2],I x10.2.2]) C C C X H (Z.move C),λk s g w _ _ _ X a H=>Q.val (v:=.agg #[B x10.1,g.2.2.2]) C C C X H (Z.extract C C),λk s g w _ _ _ X a H=>Q.val (v:=I x10.2.2) C C C X H (Z.extract C C),λk s g w _ _ _ X a H=>Q.val (v:=I x10.2.2) C C C X H (Z.assign C),trivial⟩
    ·intro k s g w h1_ h2_ hsp X a H; obtain ⟨b12,s7,s9,s11⟩:=g
     rcases k with _ | k
     ·exact Q.val (v:=I x1) C C C X H (Z.load1 zaf C (X.p 1 C) C)
     ·simp at h2_
    ·intro k s g w h1_ h2_ hsp X a H; obtain ⟨b12,s7,s9,s11⟩:=g
     rcases k with _ | _ | k
     ·exact Q.val (v:=I x2) C C C X H (Z.load1 zaf C (X.p 1 C) C)
     ·exact Q.val (v:=I x2) C C C X H (Z.load1 zaf C (X.p 2 C) C)
     ·simp at h2_
   ·clear H J X; refine ⟨?_,?_,?_,?_,trivial⟩
    ·intro s g w hsp X a H; obtain ⟨b12,s7,s9,s11⟩:=g; refine oq H X C ziz (zfV F x1 _ x6 hx6) ?_; rintro s7 w X a H; exact nE 33 H (b12,s7,s9,s11) C C (jl 13 (by kernel_rfl) λ_=>C) X
    ·intro s g w hsp X a H; obtain ⟨b12,s7,s9,s11⟩:=g; refine oq H X C ziz (zfV F x2 _ x8 hx8) ?_; rintro s9 w X a H; exact nE 36 H (b12,s7,s9,s11) C C (jl 13 (by kernel_rfl) λ_=>C) X
    ·intro s g w hsp X a H; obtain ⟨b12,s7,s9,s11⟩:=g; refine oq H X C zhm (zeO F x6.1 s7 x6.2 x8.1 s9 x8.2 _ (X.s 1 C) (X.s 0 C) x10 hx10) ?_; rintro s11 w X a H; exact nE 37 H (b12,s7,s9,s11) C C (jl 13 (by kernel_rfl) λ_=>C) X
    ·intro s g w hsp X a H; obtain ⟨b12,s7,s9,s11⟩:=g; have h10_:s 10=true:=hsp 10 (by simp); have X:St w0 w noX [] [D s11 x10.2.1,D s9 x8.2,D s7 x6.2,condA (s 10) (pt b12 (Cs #[B false,.slice none 0 0] 28)),pt b4 (Cs #[I x1,I x2,I x3] 105)]:=X; clear X; rw [h10_] at X; replace X:St w0 w noX [] [D s11 x10.2.1,D s9 x8.2,D s7 x6.2,pt b12 (Cs #[B false,.slice none 0 0] 28),pt b4 (Cs #[I x1,I x2,I x3] 105)]:=X; refine ost 3 #[B x10.1,s11] H X C C C zaa C (occ C (occ (rdo (X.s 0 C)) C)) C (bl C) C ?_; intro w X; exact O.nil ⟨C,(b12,s7,s9,s11),H.to trivial,(λd hd=>by cases (show none=some d from hd)),(λ_ _ _=>C),X⟩
   ·clear H J X; refine ⟨?_,trivial⟩
    ·intro k s g w h1_ h2_ hs0 X a H; obtain ⟨b12,s7,s9,s11⟩:=g
     rcases k with _ | _ | _ | _ | k
     ·refine oaC (j:=0) (cs:=#[B false,.slice none 0 0]) H X C hs0 C C zab C ?_; clear H X a; intro b12 w a X H; exact nE 5 H (b12,s7,s9,s11) C C (jl 13 (by kernel_rfl) λ_=>C) X
     ·refine oaC (j:=1) (cs:=#[B false,.slice none 0 0]) H X C hs0 C C zab C ?_; clear H X a; intro b12 w a X H; exact nE 5 H (b12,s7,s9,s11) C C (jl 13 (by kernel_rfl) λ_=>C) X
     ·refine oaC (j:=2) (cs:=#[B false,.slice none 0 0]) H X C hs0 C C zab C ?_; clear H X a; intro b12 w a X H; exact nE 5 H (b12,s7,s9,s11) C C (jl 13 (by kernel_rfl) λ_=>C) X
     ·refine oaC (j:=3) (cs:=#[B false,.slice none 0 0]) H X C hs0 C C zab C ?_; clear H X a; intro b12 w a X H; exact nE 5 H (b12,s7,s9,s11) C C (jl 13 (by kernel_rfl) λ_=>C) X
     ·simp at h2_
   clear H J X; intro s g a w hs H X; obtain ⟨b12,s7,s9,s11⟩:=g; have h10_:s 10=true:=hs 10 (by simp); refine ksq ?_; replace X:=X.sl [1,0,0,1,1]; refine sg (l:=[0,1,2,3,4,5,6,7]) C<|ov H C (lN (cs':=#[B x10.1,s11]) A_28 C (X.p 1 C) C C) λa H=>?_; refine hb M λx13 hx13 M=>oq H X C zjA (zhW F x10.1 s11 x10.2.1 _ (X.s 0 C) x13 hx13) ?_; rintro s14 w X a H; refine mv H C λa H=>ex H C C C λa H=>ex H C C C λa H=>O.alloc (cs:=#[B false,.slice none 0 0]) H X C C zab C<|?_; intro b15 w a hb15 X H; refine ost 0 #[B x13.1,s14] H X C C C zaa C (occ C (occ (rdo (X.s 1 C)) C)) C (bl C) C ?_; intro w X; refine mv H C λa H=>nk<|?_; replace X:=X.sl [1,1,0,0,1]; refine W.seq ?_; have J:Fr a 59 [] [(3,I 0)]:=H.q C; obtain ⟨x16,hx16,M⟩:=hm_b M; refine hb M λx18 hx18 M=>W.drawK (γ:=Value) (L0:=[(1,Pv b4 0),(2,I 0),(4,I 0),(7,Pv b15 0)]) (L1:=[(3,I 0)]) (undef) [2,4] [] [0,1,3,5,6,7,8] (λi=>match i with | 1=>[0] | 2=>[1] | 4=>[2,3] | 5=>[4] | 6=>[5] | 7=>[5] | 8=>[0,1,2,3,4,5,6] | _=>[]) (λ_=>[]) (λi=>match i with | 2=>[4,5,6,7,8] | 4=>[5,6,7,8] | _=>[]) (λ_=>[]) (λi=>match i with | 4=>1 | 5=>2 | 6=>2 | 7=>2 | 8=>2 | _=>0) (λi=>match i with | 2=>1 | 3=>1 | 4=>2 | 5=>2 | 6=>2 | 7=>2 | 8=>2 | _=>0) (λ(g:Value) j=>match j with | 0=>Pv b4 2 | 1=>I x3 | 2=>.agg #[B x16.1,g] | 3=>.agg #[B x13.1,s14] | 4=>.tuple #[I 0,I 0] | 5=>.tuple #[I 0,I 0] | 6=>I 0 | 7=>I 0 | 8=>I 0 | _=>undef) (λk s (g:Value) w=>match k with | 0=>St w0 w noX [] [pW28 b15 x13.1 s14,D s14 x13.2.1,pt b4 (Cs #[I x1,I x2,I x3] 105)] | 1=>St w0 w noX [] [D g x16.2,pW28 b15 x13.1 s14,D s14 x13.2.1,pt b4 (Cs #[I x1,I x2,I x3] 105)] | _=>St w0 w noX [] [D g x16.2,pW28 b15 x13.1 s14,D s14 x13.2.1,pt b4 (Cs #[I x1,I x2,I x3] 105)]) P_mixed (by kernel_rfl) (H.q C) J X.drew ?_ ?_ ?_ ?_
   ·clear H J X; refine ⟨λk s g w _ _ _ X a H=>Q.val (v:=Pv b4 2) C C C X H (Z.indexArr (j:=2) (m:=2) zc8 zb4 C C C (by decide) C),?_,?_,λk s g w _ _ _ X a H=>Q.val (v:=.tuple #[I 0,I 0]) C C C X H (Z.move C),λk s g w _ _ _ X a H=>Q.val (v:=I 0) C C C X H (Z.extract C C),λk s g w _ _ _ X a H=>Q.val (v:=I 0) C C C X H (Z.extract C C),λk s g w _ _ _ X a H=>Q.val (v:=I 0) C C C X H (Z.assign C),trivial⟩
    ·intro k s s17 w h1_ h2_ hsp X a H
     rcases k with _ | k
     ·exact Q.val (v:=I x3) C C C X H (Z.load1 zaf C (X.p 2 C) C)
     ·simp at h2_
    ·intro k s s17 w h1_ h2_ hsp X a H
     rcases k with _ | _ | k
     ·exact Q.val (v:=.agg #[B x13.1,s14]) C C C X H (lN (cs':=#[B x13.1,s14]) A_28 C (X.p 0 C) C C)
     ·exact Q.val (v:=.agg #[B x13.1,s14]) C C C X H (lN (cs':=#[B x13.1,s14]) A_28 C (X.p 1 C) C C)
     ·simp at h2_
   ·clear H J X; refine ⟨?_,?_,trivial⟩
    ·intro s s17 w hsp X a H; refine oq H X C zca (zav F x3 _ x16 hx16) ?_; rintro s17 w X a H; exact nE 48 H s17 C C (jl 9 (by kernel_rfl) λ_=>C) X
    ·intro s s17 w hsp X a H; refine oq H X C ziy (zgs F x16.1 s17 x16.2 x13.1 s14 x13.2.1 _ (X.s 0 C) (X.s 2 C) x18 hx18) ?_; rintro _ w X a H; exact nE 50 H s17 C C (λ_ _ _=>C) X
   ·clear H J X; exact trivial
   clear H J X; intro s s17 a w hs H X; refine ksq ?_; replace X:=X.s0; refine W.seq<|sg (l:=[0,1]) C<|mv H C λa H=>ov H C (Z.gtr (p:=0) (q:=324000000000) C C) λa H=>nk<|W.if_ff H C<|W.skip<|ksq<|sg (l:=[0,1,2,3,4]) C<|mv H C λa H=>?_; refine mv2 H C C λa H=>mv2 H C C λa H=>nk<|W.ret<|?_; obtain rfl:=oj M; refine post3 H C (rkt C) (rkt C) (rkt C) ?_; exact ⟨(),C,X.noB⟩
theorem fD_0:zb0 10000 1099511627776 0 0=some ():=by kernel_rfl
def tD_:List ((Int × Int × Int) × (Unit)):=[((1099511627776,0,0),())]
theorem tD__ok:AllT (λ(x:Int × Int × Int) r=>zb0 10000 x.1 x.2.1 x.2.2=some r) tD_:=⟨fD_0,trivial⟩
def zep (F:Nat) (x1 x2 x3:Int):Option Unit:=match lkT eqI3 (x1,x2,x3) tD_ with
  | some r=>some r
  | none=>zb0 F x1 x2 x3
theorem zgH (F:Nat) (x1 x2 x3:Int) (w0:World) (r:Unit) (M:zep F x1 x2 x3=some r) :
    Ret P 46 #[.agg #[I x1,I x2,I x3]] w0 (G:=Unit) (λ_=>.tuple #[I 0,I 0,I 0]) (λ_ w=>St w0 w noX [] []):=by
 unfold zep at M; split at M
 ·rename_i q hl; obtain rfl:=Option.some.inj M; exact zeL 10000 x1 x2 x3 w0 _ (lkT_ok eqI3_ok tD__ok hl)
 ·exact zeL F x1 x2 x3 w0 _ M
def zfZ (F:Nat)  (rec27:(List Int)→(List Int)→Option (Bool × (List Int) × Int)) (x24 x26:List Int):Option (Bool × (List Int) × Int) :=
  if (x26.length:Int)>(0:Int) then ((zcs F x24 x26).bind λx29=>rec27 x26 x29.2) else ((zaw F x24).bind λx32=>(zaC F false x32).bind λx34=>some x34)
def zdX (F:Nat) :Nat→(List Int)→(List Int)→Option (Bool × (List Int) × Int)
  | 0,_,_=>none
  | n+1,x24,x26=>zfZ F (zdX F n) x24 x26
def zgb (F:Nat) (x1:Bool) (x3:List Int) (x4:Bool) (x6:List Int):Option (Bool × (List Int) × Int) :=
  (za2 F x1 x3 x4 x6).bind λx11=>if x11≠(0:Int) then (none) else ((zaw F x3).bind λx13=>if (x6.length:Int)>(0:Int) then ((zcs F x13 x6).bind λx16=>if (x16.2.length:Int)>(0:Int) then ((zcs F x6 x16.2).bind λx20=>zdX F F x16.2 x20.2) else ((zaw F x6).bind λx36=>(zaC F false x36).bind λx38=>some x38)) else ((zaw F x13).bind λx40=>(zaC F false x40).bind λx42=>some x42))
theorem zg5 (F:Nat) (x1:Bool) (s2:Value) (x3:List Int) (x4:Bool) (s5:Value) (x6:List Int) (w0:World) (h_s2:rdEOK (hp w0) 1 E61 s2 x3) (h_s5:rdEOK (hp w0) 1 E61 s5 x6) (r:Bool × (List Int) × Int) (M:zgb F x1 x3 x4 x6=some r) :
    Ret P 88 #[.agg #[B x1,s2],.agg #[B x4,s5]] w0 (G:=Value) (λg1=>.tuple #[.agg #[B r.1,g1],I r.2.2]) (λg1 w=>St w0 w noX [] [D g1 r.2.1]):=by
 unfold zgb at M; refine roW Tryz.func88 C C C (λa H=>?_); have X:St w0 w0 noX [E s2 x3,E s5 x6] []:=Sbw (lnc (lendRd h_s2) (lnc (lendRd h_s5) lnn)); refine sg (l:=[0,1,2,3]) C<|O.box (cs:=#[B x1,s2]) H X C C C C<|?_; intro b7 w a hb7 X H; refine O.box (cs:=#[B x4,s5]) H X C C C C ?_; intro b8 w a hb8 X H; refine O.alloc (cs:=#[B false,.slice none 0 0]) H X C C zab C ?_; intro b9 w a hb9 X H; refine mv H C λa H=>nk<|W.seq<|sg (l:=[0,1,2,3,4]) C<|ov H C (lN (cs':=#[B x1,s2]) A_28 C (X.p 2 C) C C) λa H=>ov H C (lN (cs':=#[B x4,s5]) A_28 C (X.p 1 C) C C) λa H=>O.buildSlice (cs':=#[B x1,s2,B x4,s5]) (zs:=#[B false,.slice none 0 0,B false,.slice none 0 0]) H X C C za4 zaa zab C C C C C<|?_; intro b10 w a hb10 X H; refine hb M λx11 hx11 M=>oq H X C zc2 (zbH F b10 x1 s2 x3 x4 s5 x6 _ (X.b 0 C) (X.b 1 C) (X.p 0 C) x11 hx11) ?_; rintro _ w X a H; refine mv H C λa H=>nk<|?_; replace X:=X.sl [0,1,1,1]; refine sg (l:=[0,1]) C<|mv H C λa H=>ov H C (Z.neq C C) λa H=>nk<|?_; refine W.ifdI H C (λhc12=>?_) (λhc12=>?_)
 ·nomatch hm_p M hc12
 ·replace M:=hm_n M hc12; refine W.skip<|ksq<|W.seq<|?_; have J:Fr a 40 [] []:=H.to trivial; refine hb M λx13 hx13 M=>W.drawK (γ:=Value) (L0:=[(2,Pv b7 0),(3,Pv b8 0),(4,Pv b9 0),(5,I 0)]) (L1:=[]) (undef) [2] [] [0,1,3,4,5,6] (λi=>match i with | 1=>[0] | 2=>[1] | 4=>[3] | 5=>[0,1,2] | 6=>[0,1,2,3,4,5] | _=>[]) (λ_=>[]) (λi=>match i with | 2=>[5,6] | _=>[]) (λ_=>[]) (λi=>match i with | 5=>1 | 6=>1 | _=>0) (λi=>match i with | 2=>1 | 3=>1 | 4=>1 | 5=>1 | 6=>1 | _=>0) (λ(g:Value) j=>match j with | 0=>Pv b7 1 | 1=>s2 | 2=>g | 3=>Pv b8 1 | 4=>s5 | 5=>g | 6=>s5 | _=>undef) (λk s (g:Value) w=>match k with | 0=>St w0 w noX [E s2 x3,E s5 x6] [pt b9 (Cs #[B false,.slice none 0 0] 28),pW28 b8 x4 s5,pW28 b7 x1 s2] | _=>St w0 w noX [E s2 x3,E s5 x6] [D g x13,pt b9 (Cs #[B false,.slice none 0 0] 28),pW28 b8 x4 s5,pW28 b7 x1 s2]) P_mixed (by kernel_rfl) (H.q C) J X.drew ?_ ?_ ?_ ?_
  ·clear H J X; refine ⟨λk s g w _ _ _ X a H=>Q.val (v:=Pv b7 1) C C C X H (Z.field zah C C),?_,λk s g w _ _ _ X a H=>Q.val (v:=Pv b8 1) C C C X H (Z.field zah C C),?_,λk s g w _ _ _ X a H=>Q.val (v:=g) C C C X H (Z.assign C),λk s g w _ _ _ X a H=>Q.val (v:=s5) C C C X H (Z.assign C),trivial⟩
   ·intro k s s14 w h1_ h2_ hsp X a H
    rcases k with _ | k
    ·exact Q.val (v:=s2) C C C X H (Z.load1 zai C (X.p 2 C) C)
    ·simp at h2_
   ·intro k s s14 w h1_ h2_ hsp X a H
    rcases k with _ | _ | k
    ·exact Q.val (v:=s5) C C C X H (Z.load1 zai C (X.p 1 C) C)
    ·exact Q.val (v:=s5) C C C X H (Z.load1 zai C (X.p 2 C) C)
    ·simp at h2_
  ·clear H J X; refine ⟨?_,trivial⟩
   ·intro s s14 w hsp X a H; refine oq H X C zfz (zaG F s2 x3 _ (X.b 0 C) x13 hx13) ?_; rintro s14 w X a H; exact nE 21 H s14 C C (jl 7 (by kernel_rfl) λ_=>C) X
  ·clear H J X; exact trivial
  clear H J X; intro s s14 a w hs H X; refine ksq ?_; replace X:=X.sl [1,1]; refine W.seq<|W.block<|?_; refine W.loopH (LH.step ?_); refine W.seq<|sg (l:=[0,1,2]) C<|mv H C λa H=>ov (v:=I (x6.length:Int)) H C (Z.lenE (e:=61) (by simpa using zac) C (X.b 1 C)) λa H=>ov H C (Z.gtr C C) λa H=>nk<|?_; refine W.ifdI H C (λhc15=>?_) (λhc15=>?_)
  ·replace M:=hm_p M hc15; refine W.skip<|ksq<|W.block<|sg (l:=[0,1,2,3,4,5,6,7]) C<|mv2 H C C λa H=>?_; refine hb M λx16 hx16 M=>oq H X C zgE (zcS F s14 x13 s5 x6 _ (X.s 0 C) (X.b 1 C) x16 hx16) ?_; rintro ⟨s17,s18⟩ w X a H; refine mv H C λa H=>ex H C C C λa H=>ex H C C C λa H=>mv2 H C C λa H=>nk<|?_; replace X:=X.sl [0,1,1,1]; refine wrL (l:=[0,1,2,3]) C<|mv2 H C C λa H=>mv2 H C C λa H=>O.nil<|kbn<|?_; refine kth (LH.step ?_); replace X:=X.sl [1,0,1]; refine W.seq<|sg (l:=[0,1,2]) C<|mv H C λa H=>ov (v:=I (x16.2.length:Int)) H C (Z.lenE (e:=61) (by simpa using zac) C (X.s 0 C)) λa H=>ov H C (Z.gtr C C) λa H=>nk<|?_; refine W.ifdI H C (λhc19=>?_) (λhc19=>?_)
   ·replace M:=hm_p M hc19; refine W.skip<|ksq<|W.block<|sg (l:=[0,1,2,3,4,5,6,7]) C<|mv2 H C C λa H=>?_; refine hb M λx20 hx20 M=>oq H X C zgE (zcS F s5 x6 s18 x16.2 _ (X.b 1 C) (X.s 0 C) x20 hx20) ?_; rintro ⟨s21,s22⟩ w X a H; refine mv H C λa H=>ex H C C C λa H=>ex H C C C λa H=>mv2 H C C λa H=>nk<|?_; replace X:=X.sl [0,1,1,1]; refine wrL (l:=[0,1,2,3]) C<|mv2 H C C λa H=>mv2 H C C λa H=>O.nil<|kbn<|kth<|?_; replace X:=X.fr 1; replace X:=X.fr 2; refine LH.loop (G:=Nat × Value × (List Int) × Value × (List Int)) (λg a w=>match g with | (k27,s23,x24,s25,x26)=>Fr a 40 [] [(4,Pv b9 0),(5,I 0),(7,s23),(8,s25)]∧St w0 w noX [E s2 x3,E s5 x6] [pt b9 (Cs #[B false,.slice none 0 0] 28),D s23 x24,D s25 x26]∧zdX F k27 x24 x26=some r) (λg=>match g with | (k27,s23,x24,s25,x26)=>k27) (F,s18,x16.2,s22,x20.2) ⟨H.q C,X,M⟩ ?_; clear H X M a; (try clear w); rintro ⟨k27,s23,x24,s25,x26⟩ a w ⟨H,X,M⟩
    rcases k27 with _ | k27
    · nomatch M
    replace M:zfZ F (zdX F k27) x24 x26=some r:=M; obtain ⟨rec27,hrec27⟩:∃ f,f=zdX F k27:=⟨_,C⟩; rw [← hrec27] at M; unfold zfZ at M; refine W.seq<|sg (l:=[0,1,2]) C<|mv H C λa H=>ov (v:=I (x26.length:Int)) H C (Z.lenE (e:=61) (by simpa using zac) C (X.s 2 C)) λa H=>ov H C (Z.gtr C C) λa H=>nk<|?_; refine W.ifdI H C (λhc28=>?_) (λhc28=>?_)
    ·replace M:=hm_p M hc28; refine W.skip<|ksq<|W.block<|sg (l:=[0,1,2,3,4,5,6,7]) C<|mv2 H C C λa H=>?_; refine hb M λx29 hx29 M=>oq H X C zgE (zcS F s23 x24 s25 x26 _ (X.s 1 C) (X.s 2 C) x29 hx29) ?_; rintro ⟨s30,s31⟩ w X a H; refine mv H C λa H=>ex H C C C λa H=>ex H C C C λa H=>mv2 H C C λa H=>nk<|?_; replace X:=X.sl [0,1,1,1,1]; refine wrL (l:=[0,1,2,3]) C<|mv2 H C C λa H=>mv2 H C C λa H=>O.nil<|kbn<|?_; replace X:=X.fr 3; replace X:=X.fr 2; replace X:=X.sl [1,1,1]; refine kth ⟨(k27,s25,x26,s31,x29.2),⟨H.q C,X,?_⟩,Nat.lt_succ_self _⟩; rw [hrec27] at M; exact M
    ·replace M:=hm_n M hc28; refine W.exit<|kte<|kte<|kbk<|ksq<|?_; replace X:=X.sl [1,1]; refine sg (l:=[0,1,2,3,4,5,6]) C<|mv H C λa H=>?_; refine hb M λx32 hx32 M=>oq H X C zfz (zaG F s23 x24 _ (X.s 1 C) x32 hx32) ?_; rintro s33 w X a H; refine hb M λx34 hx34 M=>oc H C zcJ (zaE F false s33 x32 _ (X.slS (j:=0) C) x34 hx34) ?_; rintro s35 w Y a H; replace X:=X.cz Y 0 λ_ h=>h; refine ex H C C C λa H=>ex H C C C λa H=>ost 1 #[B x34.1,s35] H X C C C zaa C (occ C (occ (rdo (X.s 0 C)) C)) C (bl C) C<|?_; intro w X; refine mv H C λa H=>nk<|?_; replace X:=X.sl [1,1]; refine W.ret ?_; obtain rfl:=oj M; refine post2 H C (rkn (cs':=#[B x34.1,s35]) C zag zaa (X.p 1 C) (bl C) C) (rkt C) ?_; replace X:=X.sl [1]; exact ⟨s35,C,X.noB⟩
   ·replace M:=hm_n M hc19; refine W.exit<|kte<|kte<|kbk<|ksq<|?_; replace X:=X.sl [0,1]; refine sg (l:=[0,1,2,3,4,5,6]) C<|mv H C λa H=>?_; refine hb M λx36 hx36 M=>oq H X C zfz (zaG F s5 x6 _ (X.b 1 C) x36 hx36) ?_; rintro s37 w X a H; refine hb M λx38 hx38 M=>oc H C zcJ (zaE F false s37 x36 _ (X.slS (j:=0) C) x38 hx38) ?_; rintro s39 w Y a H; replace X:=X.cz Y 0 λ_ h=>h; refine ex H C C C λa H=>ex H C C C λa H=>ost 1 #[B x38.1,s39] H X C C C zaa C (occ C (occ (rdo (X.s 0 C)) C)) C (bl C) C<|?_; intro w X; refine mv H C λa H=>nk<|W.ret<|?_; obtain rfl:=oj M; refine post2 H C (rkn (cs':=#[B x38.1,s39]) C zag zaa (X.p 1 C) (bl C) C) (rkt C) ?_; replace X:=X.sl [1]; exact ⟨s39,C,X.noB⟩
  ·replace M:=hm_n M hc15; refine W.exit<|kte<|kte<|kbk<|ksq<|sg (l:=[0,1,2,3,4,5,6]) C<|mv H C λa H=>?_; refine hb M λx40 hx40 M=>oq H X C zfz (zaG F s14 x13 _ (X.s 0 C) x40 hx40) ?_; rintro s41 w X a H; refine hb M λx42 hx42 M=>oc H C zcJ (zaE F false s41 x40 _ (X.slS (j:=0) C) x42 hx42) ?_; rintro s43 w Y a H; replace X:=X.cz Y 0 λ_ h=>h; refine ex H C C C λa H=>ex H C C C λa H=>ost 2 #[B x42.1,s43] H X C C C zaa C (occ C (occ (rdo (X.s 0 C)) C)) C (bl C) C<|?_; intro w X; refine mv H C λa H=>nk<|?_; replace X:=X.sl [1,0,1]; refine W.ret ?_; obtain rfl:=oj M; refine post2 H C (rkn (cs':=#[B x42.1,s43]) C zag zaa (X.p 1 C) (bl C) C) (rkt C) ?_; replace X:=X.sl [1]; exact ⟨s43,C,X.noB⟩
def zeM (F:Nat) (x1:Bool) (x3:List Int):Option Bool :=
  some (decide ((x3.length:Int)=(0:Int)))
theorem zeA (F:Nat) (x1:Bool) (s2:Value) (x3:List Int) (w0:World) (h_s2:rdEOK (hp w0) 1 E61 s2 x3) (r:Bool) (M:zeM F x1 x3=some r) :
    Ret P 60 #[.agg #[B x1,s2]] w0 (G:=Unit) (λ_=>B r) (λ_ w=>St w0 w noX [] []):=by
 unfold zeM at M; refine roW Tryz.func60 C C C (λa H=>?_); have X:St w0 w0 noX [E s2 x3] []:=Sbw (lnc (lendRd h_s2) lnn); refine sg (l:=[0,1]) C<|O.box (cs:=#[B x1,s2]) H X C C C C<|?_; intro b4 w a hb4 X H; refine mv H C λa H=>nk<|sg (l:=[0,1,2,3,4]) C<|ov H C (Z.field zah C C) λa H=>ov (v:=s2) H C (Z.load1 zai C (X.p 0 C) C) λa H=>ov (v:=I (x3.length:Int)) H C (Z.lenE (e:=61) (by simpa using zac) C (X.b 0 C)) λa H=>ov H C (Z.eql C C) λa H=>mv H C λa H=>nk<|?_; replace X:=X.s0; refine W.ret ?_; obtain rfl:=oj M; refine post1 H C (rkt C) ?_; exact ⟨(),C,X.noB⟩
def zgQ (F:Nat)  :Option (Bool × (List Int)) :=
  (zay F 1).bind λx2=>some x2
theorem zh3 (F:Nat) (w0:World) (r:Bool × (List Int)) (M:zgQ F=some r) :
    Ret P 90 #[] w0 (G:=Value) (λg1=>.agg #[B r.1,g1]) (λg1 w=>St w0 w noX [] [D g1 r.2]):=by
 unfold zgQ at M; refine roW Tryz.func90 C C C (λa H=>?_); have X:St w0 w0 noX [] []:=Sbw lnn; refine sg (l:=[0]) C<|O.alloc (cs:=#[B false,.slice none 0 0]) H X C C zab C<|?_; intro b1 w a hb1 X H; refine nk<|sg (l:=[0,1]) C<|?_; refine hb M λx2 hx2 M=>oq H X C zca (zav F 1 _ x2 hx2) ?_; rintro s3 w X a H; refine ost 1 #[B x2.1,s3] H X C C C zaa C (occ C (occ (rdo (X.s 0 C)) C)) C (bl C) C ?_; intro w X; refine nk<|W.ret<|?_; obtain rfl:=oj M; refine post1 H C (rkn (cs':=#[B x2.1,s3]) C zag zaa (X.p 1 C) (bl C) C) ?_; replace X:=X.sl [1]; exact ⟨s3,C,X.noB⟩
def zgy (F:Nat) (x1:Bool) (x3:List Int) (x4:Bool) (x6:List Int):Option Bool :=
  (zbA F x1 x3 x4 x6).bind λx9=>some (decide (x9.1=(0:Int)))
theorem zhX (F:Nat) (x1:Bool) (s2:Value) (x3:List Int) (x4:Bool) (s5:Value) (x6:List Int) (w0:World) (h_s2:rdEOK (hp w0) 1 E61 s2 x3) (h_s5:rdEOK (hp w0) 1 E61 s5 x6) (r:Bool) (M:zgy F x1 x3 x4 x6=some r) :
    Ret P 89 #[.agg #[B x1,s2],.agg #[B x4,s5]] w0 (G:=Unit) (λ_=>B r) (λ_ w=>St w0 w noX [] []):=by
 unfold zgy at M; refine roW Tryz.func89 C C C (λa H=>?_); have X:St w0 w0 noX [E s2 x3,E s5 x6] []:=Sbw (lnc (lendRd h_s2) (lnc (lendRd h_s5) lnn)); refine sg (l:=[0,1,2]) C<|O.box (cs:=#[B x1,s2]) H X C C C C<|?_; intro b7 w a hb7 X H; refine O.box (cs:=#[B x4,s5]) H X C C C C ?_; intro b8 w a hb8 X H; refine mv H C λa H=>nk<|sg (l:=[0,1,2,3,4,5,6,7]) C<|ov H C (lN (cs':=#[B x1,s2]) A_28 C (X.p 1 C) C C) λa H=>ov H C (lN (cs':=#[B x4,s5]) A_28 C (X.p 0 C) C C) λa H=>?_; refine hb M λx9 hx9 M=>oq H X C zfT (zbY F x1 s2 x3 x4 s5 x6 _ (X.b 0 C) (X.b 1 C) x9 hx9) ?_; rintro _ w X a H; refine mv H C λa H=>ex H C C C λa H=>ex H C C C λa H=>mv2 H C C λa H=>nk<|?_; replace X:=X.s0; refine sg (l:=[0,1,2]) C<|mv H C λa H=>ov H C (Z.eql C C) λa H=>mv H C λa H=>nk<|W.ret<|?_; obtain rfl:=oj M; refine post1 H C (rkt C) ?_; exact ⟨(),C,X.noB⟩
def zcn (F:Nat) (x11:Bool):Option Unit :=
  if (x11)=true then (none) else (some ())
def zbw (F:Nat) (x1:Bool) (x3:List Int) (x4:Bool) (x6:List Int):Option Unit :=
  (zgb F x1 x3 x4 x6).bind λx8=>if x8.2.2≠(0:Int) then (zcn F true) else (if (x4)=true then (zcn F true) else ((zeM F x4 x6).bind λx15=>if (x15)=true then (zcn F true) else ((zgQ F).bind λx17=>(zgy F x8.1 x8.2.1 x17.1 x17.2).bind λx19=>zcn F (!x19))))
theorem zbq (F:Nat) (x1:Bool) (s2:Value) (x3:List Int) (x4:Bool) (s5:Value) (x6:List Int) (w0:World) (h_s2:rdEOK (hp w0) 1 E61 s2 x3) (h_s5:rdEOK (hp w0) 1 E61 s5 x6) (r:Unit) (M:zbw F x1 x3 x4 x6=some r) :
    Ret P 53 #[.agg #[B x1,s2,B x4,s5]] w0 (G:=Unit) (λ_=>I 0) (λ_ w=>St w0 w noX [] []):=by
 unfold zbw at M; refine roW Tryz.func53 C C C (λa H=>?_); have X:St w0 w0 noX [E s2 x3,E s5 x6] []:=Sbw (lnc (lendRd h_s2) (lnc (lendRd h_s5) lnn)); refine sg (l:=[0,1]) C<|O.box (cs:=#[B x1,s2,B x4,s5]) H X C C C C<|?_; intro b7 w a hb7 X H; refine mv H C λa H=>nk<|sg (l:=[0,1,2,3,4,5,6,7,8,9,10]) C<|ov H C (Z.field zcO C C) λa H=>ov H C (lN (cs':=#[B x1,s2]) A_28 C (X.p 0 C) C C) λa H=>ov H C (Z.field zaS C C) λa H=>ov H C (lN (cs':=#[B x4,s5]) A_28 C (X.p 0 C) C C) λa H=>?_; refine hb M λx8 hx8 M=>oq H X C ziA (zg5 F x1 s2 x3 x4 s5 x6 _ (X.b 0 C) (X.b 1 C) x8 hx8) ?_; rintro s9 w X a H; refine mv H C λa H=>ex H C C C λa H=>ex H C C C λa H=>O.alloc (cs:=#[B false,.slice none 0 0]) H X C C zab C<|?_; intro b10 w a hb10 X H; refine ost 0 #[B x8.1,s9] H X C C C zaa C (occ C (occ (rdo (X.s 1 C)) C)) C (bl C) C ?_; intro w X; refine mv H C λa H=>nk<|W.seq<|?_; refine W.seqR (λa w=>∃ (x11:Bool),Fr a 31 [] [(2,I 0),(30,B x11)]∧St w0 w noX [E s2 x3,E s5 x6] []∧zcn F x11=some r) ?_ ?_
 ·rcases Bool.eq_false_or_eq_true (decide (x8.2.2≠(0:Int))) with hb13 | hb13
  ·have hb13p:=of_decide_eq_true hb13; replace M:=hm_p M hb13p; have J:Fr a 31 [] []:=H.to trivial; refine W.drawK (γ:=Unit) (L0:=[(1,Pv b7 0),(2,I 0),(3,Pv b10 0),(4,I x8.2.2)]) (L1:=[]) () [] [] [0,1,2,3,4,5,6,7,8,9,10,11,12,13,14,15,16,17] (λi=>match i with | 1=>[0] | 2=>[1] | 3=>[2] | 4=>[2,3] | 5=>[2,4] | 6=>[2,5] | 7=>[2,6] | 8=>[7] | 9=>[7,8] | 10=>[7,9] | 11=>[7,10] | 12=>[10,11] | 13=>[12] | 14=>[12] | 15=>[12,13,14] | 16=>[12,15] | 17=>[12,16] | _=>[]) (λ_=>[]) (λ_=>[]) (λ_=>[]) (λ_=>0) (λ_=>0) (λ(g:Unit) j=>match j with | 0=>I x8.2.2 | 1=>B (decide (x8.2.2≠(0:Int))) | 2=>B (decide (x8.2.2≠(0:Int))) | 3=>undef | 4=>undef | 5=>undef | 6=>B true | 7=>B true | 8=>undef | 9=>undef | 10=>undef | 11=>B true | 12=>B true | 13=>undef | 14=>undef | 15=>undef | 16=>undef | 17=>B true | _=>undef) (λk s (g:Unit) w=>match k with | _=>St w0 w noX [E s2 x3,E s5 x6] [pW28 b10 x8.1 s9,D s9 x8.2.1,pt b7 (Cs #[B x1,s2,B x4,s5] 44)]) P_mixed (by kernel_rfl) (H.q C) J X.drew ?_ ?_ ?_ ?_
   ·clear H J X; refine ⟨λk s g w _ _ _ X a H=>Q.val (v:=I x8.2.2) C C C X H (Z.move C),λk s g w _ _ _ X a H=>Q.val (v:=B (decide (x8.2.2≠(0:Int)))) C C C X H (Z.neq C C),λk s g w _ _ _ X a H=>Q.val (v:=B (decide (x8.2.2≠(0:Int)))) C C C X H (Z.move C),?_,?_,?_,?_,λk s g w _ _ _ X a H=>Q.val (v:=B true) C C C X H (Z.move C),?_,?_,?_,λk s g w _ _ _ X a H=>Q.val (v:=B true) C C C X H (Z.pick C C C C),λk s g w _ _ _ X a H=>Q.val (v:=B true) C C C X H (Z.move C),?_,?_,?_,?_,λk s g w _ _ _ X a H=>Q.val (v:=B true) C C C X H (Z.pick C C C C),trivial⟩
    ·intro k s g w h1_ h2_ hsp X a H
     rcases k with _ | k
     ·have hD0:=X; refine sk H C hb13 λa H=>?_; exact nD H ⟨(gt (d:=16) H C C),hD0⟩
     ·simp at h2_
    ·intro k s g w h1_ h2_ hsp X a H
     rcases k with _ | k
     ·have hD0:=X; refine sk H C hb13 λa H=>?_; exact nD H ⟨(gt (d:=17) H C C),hD0⟩
     ·simp at h2_
    ·intro k s g w h1_ h2_ hsp X a H
     rcases k with _ | k
     ·have hD0:=X; refine sk H C hb13 λa H=>?_; exact nD H ⟨(gt (d:=18) H C C),hD0⟩
     ·simp at h2_
    ·intro k s g w h1_ h2_ hsp X a H
     rcases k with _ | k
     ·have hD0:=X; refine ov (v:=B true) H C (Z.pick C C C (by rw [hb13]; rfl)) ?_; clear H a; intro a H; exact nD H ⟨(gt (d:=19) H C C),hD0⟩
     ·simp at h2_
    ·intro k s g w h1_ h2_ hsp X a H
     rcases k with _ | k
     ·have hD0:=X; refine sk H C C λa H=>?_; exact nD H ⟨(gt (d:=21) H C C),hD0⟩
     ·simp at h2_
    ·intro k s g w h1_ h2_ hsp X a H
     rcases k with _ | k
     ·have hD0:=X; refine sk H C C λa H=>?_; exact nD H ⟨(gt (d:=22) H C C),hD0⟩
     ·simp at h2_
    ·intro k s g w h1_ h2_ hsp X a H
     rcases k with _ | k
     ·have hD0:=X; refine sk H C C λa H=>?_; exact nD H ⟨(gt (d:=23) H C C),hD0⟩
     ·simp at h2_
    ·intro k s g w h1_ h2_ hsp X a H
     rcases k with _ | k
     ·have hD0:=X; refine sk H C C λa H=>?_; exact nD H ⟨(gt (d:=26) H C C),hD0⟩
     ·simp at h2_
    ·intro k s g w h1_ h2_ hsp X a H
     rcases k with _ | k
     ·have hD0:=X; refine sk H C C λa H=>?_; exact nD H ⟨(gt (d:=27) H C C),hD0⟩
     ·simp at h2_
    ·intro k s g w h1_ h2_ hsp X a H
     rcases k with _ | k
     ·have hD0:=X; refine sk H C C λa H=>?_; exact nD H ⟨(gt (d:=28) H C C),hD0⟩
     ·simp at h2_
    ·intro k s g w h1_ h2_ hsp X a H
     rcases k with _ | k
     ·have hD0:=X; refine sk H C C λa H=>?_; exact nD H ⟨(gt (d:=29) H C C),hD0⟩
     ·simp at h2_
   ·clear H J X; exact trivial
   ·clear H J X; exact trivial
   clear H J X; intro s g a w hs H X; replace X:=X.s0; exact kth ⟨true,H.q C,X,M⟩
  ·have hb13p:=of_decide_eq_false hb13; replace M:=hm_n M hb13p
   rcases Bool.eq_false_or_eq_true (x4) with hb14 | hb14
   ·replace M:=hm_t M hb14; have J:Fr a 31 [] []:=H.to trivial; refine W.drawK (γ:=Unit) (L0:=[(1,Pv b7 0),(2,I 0),(3,Pv b10 0),(4,I x8.2.2)]) (L1:=[]) () [] [] [0,1,2,3,4,5,6,7,8,9,10,11,12,13,14,15,16,17] (λi=>match i with | 1=>[0] | 2=>[1] | 3=>[2] | 4=>[2,3] | 5=>[2,4] | 6=>[2,5] | 7=>[2,6] | 8=>[7] | 9=>[7,8] | 10=>[7,9] | 11=>[7,10] | 12=>[10,11] | 13=>[12] | 14=>[12] | 15=>[12,13,14] | 16=>[12,15] | 17=>[12,16] | _=>[]) (λ_=>[]) (λ_=>[]) (λ_=>[]) (λ_=>0) (λ_=>0) (λ(g:Unit) j=>match j with | 0=>I x8.2.2 | 1=>B (decide (x8.2.2≠(0:Int))) | 2=>B (decide (x8.2.2≠(0:Int))) | 3=>Pv b7 2 | 4=>Pv b7 2 | 5=>B x4 | 6=>B x4 | 7=>B x4 | 8=>undef | 9=>undef | 10=>undef | 11=>B true | 12=>B true | 13=>undef | 14=>undef | 15=>undef | 16=>undef | 17=>B true | _=>undef) (λk s (g:Unit) w=>match k with | _=>St w0 w noX [E s2 x3,E s5 x6] [pW28 b10 x8.1 s9,D s9 x8.2.1,pt b7 (Cs #[B x1,s2,B x4,s5] 44)]) P_mixed (by kernel_rfl) (H.q C) J X.drew ?_ ?_ ?_ ?_
    ·clear H J X; refine ⟨λk s g w _ _ _ X a H=>Q.val (v:=I x8.2.2) C C C X H (Z.move C),λk s g w _ _ _ X a H=>Q.val (v:=B (decide (x8.2.2≠(0:Int)))) C C C X H (Z.neq C C),λk s g w _ _ _ X a H=>Q.val (v:=B (decide (x8.2.2≠(0:Int)))) C C C X H (Z.move C),?_,?_,?_,?_,λk s g w _ _ _ X a H=>Q.val (v:=B x4) C C C X H (Z.move C),?_,?_,?_,?_,λk s g w _ _ _ X a H=>Q.val (v:=B true) C C C X H (Z.move C),?_,?_,?_,?_,λk s g w _ _ _ X a H=>Q.val (v:=B true) C C C X H (Z.pick C C C C),trivial⟩
     ·intro k s g w h1_ h2_ hsp X a H
      rcases k with _ | k
      ·have hD0:=X; refine og H C hb13 (Z.field zaS C C) λa H=>?_; exact nD H ⟨(gt (d:=16) H C C),hD0⟩
      ·simp at h2_
     ·intro k s g w h1_ h2_ hsp X a H
      rcases k with _ | k
      ·have hD0:=X; refine og H C hb13 (Z.field zaj C C) λa H=>?_; exact nD H ⟨(gt (d:=17) H C C),hD0⟩
      ·simp at h2_
     ·intro k s g w h1_ h2_ hsp X a H
      rcases k with _ | k
      ·have hD0:=X; refine og H C hb13 (Z.load1 zap C (X.p 2 C) C) λa H=>?_; exact nD H ⟨(gt (d:=18) H C C),hD0⟩
      ·simp at h2_
     ·intro k s g w h1_ h2_ hsp X a H
      rcases k with _ | k
      ·have hD0:=X; refine ov (v:=B x4) H C (Z.pick C C C (by rw [hb13]; rfl)) ?_; clear H a; intro a H; exact nD H ⟨(gt (d:=19) H C C),hD0⟩
      ·simp at h2_
     ·intro k s g w h1_ h2_ hsp X a H
      rcases k with _ | k
      ·have hD0:=X; refine sk H C hb14 λa H=>?_; exact nD H ⟨(gt (d:=21) H C C),hD0⟩
      ·simp at h2_
     ·intro k s g w h1_ h2_ hsp X a H
      rcases k with _ | k
      ·have hD0:=X; refine sk H C hb14 λa H=>?_; exact nD H ⟨(gt (d:=22) H C C),hD0⟩
      ·simp at h2_
     ·intro k s g w h1_ h2_ hsp X a H
      rcases k with _ | k
      ·have hD0:=X; refine sk H C hb14 λa H=>?_; exact nD H ⟨(gt (d:=23) H C C),hD0⟩
      ·simp at h2_
     ·intro k s g w h1_ h2_ hsp X a H
      rcases k with _ | k
      ·have hD0:=X; refine ov (v:=B true) H C (Z.pick C C C (by rw [hb14]; rfl)) ?_; clear H a; intro a H; exact nD H ⟨(gt (d:=24) H C C),hD0⟩
      ·simp at h2_
     ·intro k s g w h1_ h2_ hsp X a H
      rcases k with _ | k
      ·have hD0:=X; refine sk H C C λa H=>?_; exact nD H ⟨(gt (d:=26) H C C),hD0⟩
      ·simp at h2_
     ·intro k s g w h1_ h2_ hsp X a H
      rcases k with _ | k
      ·have hD0:=X; refine sk H C C λa H=>?_; exact nD H ⟨(gt (d:=27) H C C),hD0⟩
      ·simp at h2_
     ·intro k s g w h1_ h2_ hsp X a H
      rcases k with _ | k
      ·have hD0:=X; refine sk H C C λa H=>?_; exact nD H ⟨(gt (d:=28) H C C),hD0⟩
      ·simp at h2_
     ·intro k s g w h1_ h2_ hsp X a H
      rcases k with _ | k
      ·have hD0:=X; refine sk H C C λa H=>?_; exact nD H ⟨(gt (d:=29) H C C),hD0⟩
      ·simp at h2_
    ·clear H J X; exact trivial
    ·clear H J X; exact trivial
    clear H J X; intro s g a w hs H X; replace X:=X.s0; exact kth ⟨true,H.q C,X,M⟩
   ·replace M:=hm_f M hb14; obtain ⟨x15,hx15,M⟩:=hm_b M
    rcases Bool.eq_false_or_eq_true (x15) with hb16 | hb16
    ·replace M:=hm_t M hb16; have J:Fr a 31 [] []:=H.to trivial; refine W.drawK (γ:=Unit) (L0:=[(1,Pv b7 0),(2,I 0),(3,Pv b10 0),(4,I x8.2.2)]) (L1:=[]) () [10] [] [0,1,2,3,4,5,6,7,8,9,11,12,13,14,15,16,17] (λi=>match i with | 1=>[0] | 2=>[1] | 3=>[2] | 4=>[2,3] | 5=>[2,4] | 6=>[2,5] | 7=>[2,6] | 8=>[7] | 9=>[7,8] | 10=>[7,9] | 11=>[7,10] | 12=>[10,11] | 13=>[12] | 14=>[12] | 15=>[12,13,14] | 16=>[12,15] | 17=>[12,16] | _=>[]) (λ_=>[]) (λi=>match i with | 10=>[11,12,13,14,15,16,17] | _=>[]) (λ_=>[]) (λi=>match i with | 11=>1 | 12=>1 | 13=>1 | 14=>1 | 15=>1 | 16=>1 | 17=>1 | _=>0) (λi=>match i with | 10=>1 | 11=>1 | 12=>1 | 13=>1 | 14=>1 | 15=>1 | 16=>1 | 17=>1 | _=>0) (λ(g:Unit) j=>match j with | 0=>I x8.2.2 | 1=>B (decide (x8.2.2≠(0:Int))) | 2=>B (decide (x8.2.2≠(0:Int))) | 3=>Pv b7 2 | 4=>Pv b7 2 | 5=>B x4 | 6=>B x4 | 7=>B x4 | 8=>Pv b7 2 | 9=>.agg #[B x4,s5] | 10=>B x15 | 11=>B x15 | 12=>B x15 | 13=>undef | 14=>undef | 15=>undef | 16=>undef | 17=>B true | _=>undef) (λk s (g:Unit) w=>match k with | 0=>St w0 w noX [E s2 x3,E s5 x6] [pW28 b10 x8.1 s9,D s9 x8.2.1,pt b7 (Cs #[B x1,s2,B x4,s5] 44)] | _=>St w0 w noX [E s2 x3,E s5 x6] [pW28 b10 x8.1 s9,D s9 x8.2.1,pt b7 (Cs #[B x1,s2,B x4,s5] 44)]) P_mixed (by kernel_rfl) (H.q C) J X.drew ?_ ?_ ?_ ?_
     ·clear H J X; refine ⟨λk s g w _ _ _ X a H=>Q.val (v:=I x8.2.2) C C C X H (Z.move C),λk s g w _ _ _ X a H=>Q.val (v:=B (decide (x8.2.2≠(0:Int)))) C C C X H (Z.neq C C),λk s g w _ _ _ X a H=>Q.val (v:=B (decide (x8.2.2≠(0:Int)))) C C C X H (Z.move C),?_,?_,?_,?_,λk s g w _ _ _ X a H=>Q.val (v:=B x4) C C C X H (Z.move C),?_,?_,?_,λk s g w _ _ _ X a H=>Q.val (v:=B x15) C C C X H (Z.move C),?_,?_,?_,?_,?_,trivial⟩
      ·intro k s g w h1_ h2_ hsp X a H
       rcases k with _ | k
       ·have hD0:=X; refine og H C hb13 (Z.field zaS C C) λa H=>?_; exact nD H ⟨(gt (d:=16) H C C),hD0⟩
       ·simp at h2_
      ·intro k s g w h1_ h2_ hsp X a H
       rcases k with _ | k
       ·have hD0:=X; refine og H C hb13 (Z.field zaj C C) λa H=>?_; exact nD H ⟨(gt (d:=17) H C C),hD0⟩
       ·simp at h2_
      ·intro k s g w h1_ h2_ hsp X a H
       rcases k with _ | k
       ·have hD0:=X; refine og H C hb13 (Z.load1 zap C (X.p 2 C) C) λa H=>?_; exact nD H ⟨(gt (d:=18) H C C),hD0⟩
       ·simp at h2_
      ·intro k s g w h1_ h2_ hsp X a H
       rcases k with _ | k
       ·have hD0:=X; refine ov (v:=B x4) H C (Z.pick C C C (by rw [hb13]; rfl)) ?_; clear H a; intro a H; exact nD H ⟨(gt (d:=19) H C C),hD0⟩
       ·simp at h2_
      ·intro k s g w h1_ h2_ hsp X a H
       rcases k with _ | k
       ·have hD0:=X; refine og H C hb14 (Z.field zaS C C) λa H=>?_; exact nD H ⟨(gt (d:=21) H C C),hD0⟩
       ·simp at h2_
      ·intro k s g w h1_ h2_ hsp X a H
       rcases k with _ | k
       ·have hD0:=X; refine og H C hb14 (lN (cs':=#[B x4,s5]) A_28 C (X.p 2 C) C C) λa H=>?_; exact nD H ⟨(gt (d:=22) H C C),hD0⟩
       ·simp at h2_
      ·intro k s g w h1_ h2_ hsp X a H
       rcases k with _ | _ | k
       ·exact absurd h1_ (by decide)
       ·have hD0:=X; refine ov (v:=B x15) H C (Z.pick C C C (by rw [hb14]; rfl)) ?_; clear H a; intro a H; exact nD H ⟨(gt (d:=24) H C C),hD0⟩
       ·simp at h2_
      ·intro k s g w h1_ h2_ hsp X a H
       rcases k with _ | _ | k
       ·exact absurd h1_ (by decide)
       ·have hD0:=X; refine sk H C hb16 λa H=>?_; exact nD H ⟨(gt (d:=26) H C C),hD0⟩
       ·simp at h2_
      ·intro k s g w h1_ h2_ hsp X a H
       rcases k with _ | _ | k
       ·exact absurd h1_ (by decide)
       ·have hD0:=X; refine sk H C hb16 λa H=>?_; exact nD H ⟨(gt (d:=27) H C C),hD0⟩
       ·simp at h2_
      ·intro k s g w h1_ h2_ hsp X a H
       rcases k with _ | _ | k
       ·exact absurd h1_ (by decide)
       ·have hD0:=X; refine sk H C hb16 λa H=>?_; exact nD H ⟨(gt (d:=28) H C C),hD0⟩
       ·simp at h2_
      ·intro k s g w h1_ h2_ hsp X a H
       rcases k with _ | _ | k
       ·exact absurd h1_ (by decide)
       ·have hD0:=X; refine sk H C hb16 λa H=>?_; exact nD H ⟨(gt (d:=29) H C C),hD0⟩
       ·simp at h2_
      ·intro k s g w h1_ h2_ hsp X a H
       rcases k with _ | _ | k
       ·exact absurd h1_ (by decide)
       ·have hD0:=X; refine ov (v:=B true) H C (Z.pick C C C (by rw [hb16]; rfl)) ?_; clear H a; intro a H; exact nD H ⟨(gt (d:=30) H C C),hD0⟩
       ·simp at h2_
     ·clear H J X; refine ⟨?_,trivial⟩
      ·intro s g w hsp X a H; refine O.gcallR H C C C hb14 C C (RunE.call (av:=#[.agg #[B x4,s5]]) zhk C C C) (zeA F x4 s5 x6 _ (X.b 1 C) x15 hx15) ?_; rintro _ w Y a H; replace X:=X.cl Y; exact nG H ⟨(gt (d:=23) H C C),(λ_ _ _=>C),X⟩
     ·clear H J X; exact trivial
     clear H J X; intro s g a w hs H X; replace X:=X.s0; exact kth ⟨true,H.q C,X,M⟩
    ·replace M:=hm_f M hb16; obtain ⟨x17,hx17,M⟩:=hm_b M; obtain ⟨x19,hx19,M⟩:=hm_b M; have J:Fr a 31 [] []:=H.to trivial; refine W.drawK (γ:=Value) (L0:=[(1,Pv b7 0),(2,I 0),(3,Pv b10 0),(4,I x8.2.2)]) (L1:=[]) (undef) [10,14,15] [] [0,1,2,3,4,5,6,7,8,9,11,12,13,16,17] (λi=>match i with | 1=>[0] | 2=>[1] | 3=>[2] | 4=>[2,3] | 5=>[2,4] | 6=>[2,5] | 7=>[2,6] | 8=>[7] | 9=>[7,8] | 10=>[7,9] | 11=>[7,10] | 12=>[10,11] | 13=>[12] | 14=>[12] | 15=>[12,13,14] | 16=>[12,15] | 17=>[12,16] | _=>[]) (λ_=>[]) (λi=>match i with | 10=>[11,12,13,14,15,16,17] | 14=>[15,16,17] | 15=>[16,17] | _=>[]) (λ_=>[]) (λi=>match i with | 11=>1 | 12=>1 | 13=>1 | 14=>1 | 15=>2 | 16=>3 | 17=>3 | _=>0) (λi=>match i with | 10=>1 | 11=>1 | 12=>1 | 13=>2 | 14=>2 | 15=>3 | 16=>3 | 17=>3 | _=>0) (λ(g:Value) j=>match j with | 0=>I x8.2.2 | 1=>B (decide (x8.2.2≠(0:Int))) | 2=>B (decide (x8.2.2≠(0:Int))) | 3=>Pv b7 2 | 4=>Pv b7 2 | 5=>B x4 | 6=>B x4 | 7=>B x4 | 8=>Pv b7 2 | 9=>.agg #[B x4,s5] | 10=>B x15 | 11=>B x15 | 12=>B x15 | 13=>.agg #[B x8.1,s9] | 14=>.agg #[B x17.1,g] | 15=>B x19 | 16=>B (!x19) | 17=>B (!x19) | _=>undef) (λk s (g:Value) w=>match k with | 0=>St w0 w noX [E s2 x3,E s5 x6] [pW28 b10 x8.1 s9,D s9 x8.2.1,pt b7 (Cs #[B x1,s2,B x4,s5] 44)] | 1=>St w0 w noX [E s2 x3,E s5 x6] [pW28 b10 x8.1 s9,D s9 x8.2.1,pt b7 (Cs #[B x1,s2,B x4,s5] 44)] | 2=>St w0 w noX [E s2 x3,E s5 x6] [D g x17.2,pW28 b10 x8.1 s9,D s9 x8.2.1,pt b7 (Cs #[B x1,s2,B x4,s5] 44)] | _=>St w0 w noX [E s2 x3,E s5 x6] [D g x17.2,pW28 b10 x8.1 s9,D s9 x8.2.1,pt b7 (Cs #[B x1,s2,B x4,s5] 44)]) P_mixed (by kernel_rfl) (H.q C) J X.drew ?_ ?_ ?_ ?_
     ·clear H J X; refine ⟨λk s g w _ _ _ X a H=>Q.val (v:=I x8.2.2) C C C X H (Z.move C),λk s g w _ _ _ X a H=>Q.val (v:=B (decide (x8.2.2≠(0:Int)))) C C C X H (Z.neq C C),λk s g w _ _ _ X a H=>Q.val (v:=B (decide (x8.2.2≠(0:Int)))) C C C X H (Z.move C),?_,?_,?_,?_,λk s g w _ _ _ X a H=>Q.val (v:=B x4) C C C X H (Z.move C),?_,?_,?_,λk s g w _ _ _ X a H=>Q.val (v:=B x15) C C C X H (Z.move C),?_,?_,?_,trivial⟩
      ·intro k s s20 w h1_ h2_ hsp X a H
       rcases k with _ | k
       ·have hD0:=X; refine og H C hb13 (Z.field zaS C C) λa H=>?_; exact nD H ⟨(gt (d:=16) H C C),hD0⟩
       ·simp at h2_
      ·intro k s s20 w h1_ h2_ hsp X a H
       rcases k with _ | k
       ·have hD0:=X; refine og H C hb13 (Z.field zaj C C) λa H=>?_; exact nD H ⟨(gt (d:=17) H C C),hD0⟩
       ·simp at h2_
      ·intro k s s20 w h1_ h2_ hsp X a H
       rcases k with _ | k
       ·have hD0:=X; refine og H C hb13 (Z.load1 zap C (X.p 2 C) C) λa H=>?_; exact nD H ⟨(gt (d:=18) H C C),hD0⟩
       ·simp at h2_
      ·intro k s s20 w h1_ h2_ hsp X a H
       rcases k with _ | k
       ·have hD0:=X; refine ov (v:=B x4) H C (Z.pick C C C (by rw [hb13]; rfl)) ?_; clear H a; intro a H; exact nD H ⟨(gt (d:=19) H C C),hD0⟩
       ·simp at h2_
      ·intro k s s20 w h1_ h2_ hsp X a H
       rcases k with _ | k
       ·have hD0:=X; refine og H C hb14 (Z.field zaS C C) λa H=>?_; exact nD H ⟨(gt (d:=21) H C C),hD0⟩
       ·simp at h2_
      ·intro k s s20 w h1_ h2_ hsp X a H
       rcases k with _ | k
       ·have hD0:=X; refine og H C hb14 (lN (cs':=#[B x4,s5]) A_28 C (X.p 2 C) C C) λa H=>?_; exact nD H ⟨(gt (d:=22) H C C),hD0⟩
       ·simp at h2_
      ·intro k s s20 w h1_ h2_ hsp X a H
       rcases k with _ | _ | k
       ·exact absurd h1_ (by decide)
       ·have hD0:=X; refine ov (v:=B x15) H C (Z.pick C C C (by rw [hb14]; rfl)) ?_; clear H a; intro a H; exact nD H ⟨(gt (d:=24) H C C),hD0⟩
       ·simp at h2_
      ·intro k s s20 w h1_ h2_ hsp X a H
       rcases k with _ | _ | _ | k
       ·exact absurd h1_ (by decide)
       ·have hD0:=X; refine og H C hb16 (lN (cs':=#[B x8.1,s9]) A_28 C (X.p 0 C) C C) λa H=>?_; exact nD H ⟨(gt (d:=26) H C C),hD0⟩
       ·have hD0:=X; refine og H C hb16 (lN (cs':=#[B x8.1,s9]) A_28 C (X.p 1 C) C C) λa H=>?_; exact nD H ⟨(gt (d:=26) H C C),hD0⟩
       ·simp at h2_
      ·intro k s s20 w h1_ h2_ hsp X a H
       rcases k with _ | _ | _ | _ | k
       ·exact absurd h1_ (by decide)
       ·exact absurd h1_ (by decide)
       ·exact absurd h1_ (by decide)
       ·have hD0:=X; refine og H C hb16 (Z.not C) λa H=>?_; exact nD H ⟨(gt (d:=29) H C C),hD0⟩
       ·simp at h2_
      ·intro k s s20 w h1_ h2_ hsp X a H
       rcases k with _ | _ | _ | _ | k
       ·exact absurd h1_ (by decide)
       ·exact absurd h1_ (by decide)
       ·exact absurd h1_ (by decide)
       ·have hD0:=X; refine ov (v:=B (!x19)) H C (Z.pick C C C (by rw [hb16]; rfl)) ?_; clear H a; intro a H; exact nD H ⟨(gt (d:=30) H C C),hD0⟩
       ·simp at h2_
     ·clear H J X; refine ⟨?_,?_,?_,trivial⟩
      ·intro s s20 w hsp X a H; refine O.gcallR H C C C hb14 C C (RunE.call (av:=#[.agg #[B x4,s5]]) zhk C C C) (zeA F x4 s5 x6 _ (X.b 1 C) x15 hx15) ?_; rintro _ w Y a H; replace X:=X.cl Y; exact nE 23 H s20 C C (λ_ _ _=>C) X
      ·intro s s20 w hsp X a H; refine O.gcallR H C C C hb16 C C (RunE.call (av:=#[]) zjD C C C) (zh3 F _ x17 hx17) ?_; rintro s20 w Y a H; replace X:=X.cl Y; exact nE 27 H s20 C C (jl 18 (by kernel_rfl) λ_=>C) X
      ·intro s s20 w hsp X a H; refine O.gcallR H C C C hb16 C C (RunE.call (av:=#[.agg #[B x8.1,s9],.agg #[B x17.1,s20]]) zjC C C C) (zhX F x8.1 s9 x8.2.1 x17.1 s20 x17.2 _ (X.s 2 C) (X.s 0 C) x19 hx19) ?_; rintro _ w Y a H; replace X:=X.cl Y; exact nE 28 H s20 C C (λ_ _ _=>C) X
     ·clear H J X; exact trivial
     clear H J X; intro s s20 a w hs H X; replace X:=X.s0; exact kth ⟨!x19,H.q C,X,M⟩
 ·clear H X M a; (try clear w); rintro a w ⟨x11,H,X,M⟩; unfold zcn at M; refine W.if_ H C (λhc12=>?_) (λhc12=>?_)
  ·nomatch hm_t M hc12
  ·replace M:=hm_f M hc12; refine W.skip<|ksq<|sg (l:=[0]) C<|mv H C λa H=>nk<|W.ret<|?_; obtain rfl:=oj M; refine post1 H C (rkt C) ?_; exact ⟨(),C,X.noB⟩
def zf0 (F:Nat) (x1:Bool):Option Unit :=
  if (x1&&true)=true then (none) else (if ((!x1)&&true)=true then (some ()) else (none))
def zf1 (F:Nat) (x3:List Int) (x1:Bool) (rec13:Option Unit) :Option Unit :=
  if 0<((x3.length:Int):Int) then ((idx x3 0).bind λx15=>none) else (zf0 F x1)
def zdY (F:Nat) (x3:List Int) (x1:Bool):Nat→Option Unit
  | 0=>none
  | n+1=>zf1 F x3 x1 (zdY F x3 x1 n)
def zgR (F:Nat) (x1:Bool) (x3:List Int):Option Unit :=
  (za1 F x1 x3).bind λx6=>if x6≠(0:Int) then (none) else (if (x3.length:Int)>(2:Int) then (none) else (zdY F x3 x1 F))
theorem zh4 (F:Nat) (x1:Bool) (s2:Value) (x3:List Int) (w0:World) (h_s2:rdEOK (hp w0) 1 E61 s2 x3) (r:Unit) (M:zgR F x1 x3=some r) :
    Ret P 65 #[.agg #[B x1,s2]] w0 (G:=Unit) (λ_=>.tuple #[I 0,I 0]) (λ_ w=>St w0 w noX [] []):=by
 unfold zgR at M; refine roW Tryz.func65 C C C (λa H=>?_); have X:St w0 w0 noX [E s2 x3] []:=Sbw (lnc (lendRd h_s2) lnn); refine sg (l:=[0,1,2]) C<|O.box (cs:=#[B x1,s2]) H X C C C C<|?_; intro b4 w a hb4 X H; refine mv2 H C C λa H=>nk<|W.seq<|sg (l:=[0,1,2,3]) C<|ov H C (lN (cs':=#[B x1,s2]) A_28 C (X.p 0 C) C C) λa H=>O.buildSlice (cs':=#[B x1,s2]) (zs:=#[B false,.slice none 0 0]) H X C C za4 zaa zab C C C C C<|?_; intro b5 w a hb5 X H; refine hb M λx6 hx6 M=>oq H X C zc2 (zbF F b5 x1 s2 x3 _ (X.b 0 C) (X.p 0 C) x6 hx6) ?_; rintro _ w X a H; refine mv H C λa H=>nk<|?_; replace X:=X.sl [0,1]; refine sg (l:=[0,1]) C<|mv H C λa H=>ov H C (Z.neq C C) λa H=>nk<|?_; refine W.ifdI H C (λhc7=>?_) (λhc7=>?_)
 ·nomatch hm_p M hc7
 ·replace M:=hm_n M hc7; refine W.skip<|ksq<|W.seq<|sg (l:=[0,1,2,3]) C<|ov H C (Z.field zah C C) λa H=>ov (v:=s2) H C (Z.load1 zai C (X.p 0 C) C) λa H=>ov (v:=I (x3.length:Int)) H C (Z.lenE (e:=61) (by simpa using zac) C (X.b 0 C)) λa H=>ov H C (Z.gtr C C) λa H=>nk<|?_; refine W.ifdI H C (λhc8=>?_) (λhc8=>?_)
  ·nomatch hm_p M hc8
  ·replace M:=hm_n M hc8; refine W.skip<|ksq<|sg (l:=[0]) C<|mv H C λa H=>nk<|?_; refine W.seqR (λa w=>Fr a 54 [] [(1,Pv b4 0),(2,I 0),(3,I 0),(5,Uv 0)]∧St w0 w noX [E s2 x3] [pW28 b4 x1 s2]∧zf0 F x1=some r) ?_ ?_
   ·refine sg (l:=[0,1,2,3]) C<|ov H C (Z.field zah C C) λa H=>ov (v:=s2) H C (Z.load1 zai C (X.p 0 C) C) λa H=>ov (v:=I (x3.length:Int)) H C (Z.lenE (e:=61) (by simpa using zac) C (X.b 0 C)) λa H=>mv H C λa H=>nk<|?_; refine W.block<|W.loop (G:=Nat) (λg a w=>match g with | k13=>Fr a 54 [] [(1,Pv b4 0),(2,I 0),(3,I 0),(5,Uv 0),(19,s2),(20,I (x3.length:Int)),(21,I 0)]∧St w0 w noX [E s2 x3] [pW28 b4 x1 s2]∧zdY F x3 x1 k13=some r) (λg=>match g with | k13=>k13) (F) ⟨H.q C,X,M⟩<|?_; clear H X M a; (try clear w); rintro k13 a w ⟨H,X,M⟩
    rcases k13 with _ | k13
    · nomatch M
    replace M:zf1 F x3 x1 (zdY F x3 x1 k13)=some r:=M; obtain ⟨rec13,hrec13⟩:∃ f,f=zdY F x3 x1 k13:=⟨_,C⟩; rw [← hrec13] at M; unfold zf1 at M; refine sg (l:=[0]) C<|ov H C (Z.lss C C) λa H=>nk<|W.seq<|?_; refine W.ifdI H C (λhc14=>?_) (λhc14=>?_)
    ·replace M:=hm_p M hc14; refine W.skip<|ksq<|W.seq<|W.block<|sg (l:=[0,1,2,3,4]) C<|mv H C λa H=>?_; refine hb M λx15 hx15 M=>ov H C (Z.ixE zac zae C C (X.b 0 C) hx15) λa H=>ov H C (Z.ldE1 (o:=0) zam E61_len C (X.b 0 C) hx15 C C) λa H=>mv2 H C C λa H=>nk<|?_; nomatch M
    ·replace M:=hm_n M hc14; refine W.exit<|kte<|kte<|kbk<|?_; exact kth ⟨H.q C,X,M⟩
   ·clear H X M a; (try clear w); rintro a w ⟨H,X,M⟩; unfold zf0 at M; refine W.seq<|W.block<|sg (l:=[0,1,2,3,4,5,6]) C<|ov H C (Z.field zaj C C) λa H=>ov H C (Z.load1 zap C (X.p 0 C) C) λa H=>mv H C λa H=>?_; refine O.cutN (l₁:=[3,4,5]) (l₂:=_) (λa w=>Fr a 54 [] [(1,Pv b4 0),(2,I 0),(3,I 0),(5,Uv 0),(40,B (x1&&true))]∧St w0 w noX [E s2 x3] [pW28 b4 x1 s2]) C ?_ ?_
    ·rcases Bool.eq_false_or_eq_true (x1) with hb9 | hb9
     ·refine og H C hb9 (Z.move C) λa H=>og H C hb9 (Z.leq (p:=0) (q:=9223372036854775808) C C) λa H=>?_; refine ov (v:=B (x1&&true)) H C (Z.pick C C C (by rw [hb9]; rfl)) ?_; clear H a; intro a H; exact O.nil ⟨C,H.q C,X⟩
     ·refine sk H C hb9 λa H=>sk H C hb9 λa H=>?_; refine ov (v:=B (x1&&true)) H C (Z.pick C C C (by rw [hb9]; rfl)) ?_; clear H a; intro a H; exact O.nil ⟨C,H.q C,X⟩
    clear H X a; (try clear w); rintro a w ⟨H,X⟩; refine mv H C λa H=>nk<|?_; refine W.if_ H C (λhc10=>?_) (λhc10=>?_)
    ·nomatch hm_t M hc10
    ·replace M:=hm_f M hc10; refine sg (l:=[0,1,2,3,4,5,6,7]) C<|ov H C (Z.field zaj C C) λa H=>ov H C (Z.load1 zap C (X.p 0 C) C) λa H=>ov H C (Z.not C) λa H=>mv H C λa H=>?_; refine O.cutN (l₁:=[4,5,6]) (l₂:=_) (λa w=>Fr a 54 [] [(2,I 0),(3,I 0),(5,Uv 0),(51,B ((!x1)&&true))]∧St w0 w noX [E s2 x3] [pW28 b4 x1 s2]) C ?_ ?_
     ·rcases Bool.eq_false_or_eq_true (!x1) with hb11 | hb11
      ·refine og H C hb11 (Z.move C) λa H=>og H C hb11 (Z.lss (p:=0) (q:=9223372036854775808) C C) λa H=>?_; refine ov (v:=B ((!x1)&&true)) H C (Z.pick C C C (by rw [hb11]; rfl)) ?_; clear H a; intro a H; exact O.nil ⟨C,H.q C,X⟩
      ·refine sk H C hb11 λa H=>sk H C hb11 λa H=>?_; refine ov (v:=B ((!x1)&&true)) H C (Z.pick C C C (by rw [hb11]; rfl)) ?_; clear H a; intro a H; exact O.nil ⟨C,H.q C,X⟩
     clear H X a; (try clear w); rintro a w ⟨H,X⟩; refine mv H C λa H=>nk<|?_; replace X:=X.s0; refine W.if_ H C (λhc12=>?_) (λhc12=>?_)
     ·replace M:=hm_t M hc12; refine sg (l:=[0,1,2,3]) C<|mv H C λa H=>ov (v:=I 0) H C (Z.conv (p:=0) zaI ze3 C) λa H=>mv2 H C C λa H=>nk<|W.ret<|kbr<|ktr<|?_; obtain rfl:=oj M; refine post2 H C (rkt C) (rkt C) ?_; exact ⟨(),C,X.noB⟩
     ·replace M:=hm_f M hc12; refine W.skip<|kbn<|ksq<|?_; nomatch M
def zd2 (F:Nat) (x1 x2:Int):Option Unit :=
  if ((decide (x1<(-2305843009213693952:Int)))||(decide (x2>(2305843009213693952:Int))))=true then (none) else (some ())
theorem zeB (F:Nat) (x1 x2:Int) (w0:World) (r:Unit) (M:zd2 F x1 x2=some r) :
    Ret P 68 #[I x1,I x2] w0 (G:=Unit) (λ_=>.tuple #[.agg #[I x1,I x2],I 0]) (λ_ w=>St w0 w noX [] []):=by
 unfold zd2 at M; refine roW Tryz.func68 C C C (λa H=>?_); have X:St w0 w0 noX [] []:=Sbw lnn; refine sg (l:=[0,1]) C<|O.alloc (cs:=#[I 0,I 0]) H X C C zaT C<|?_; intro b3 w a hb3 X H; refine mv H C λa H=>nk<|W.seq<|sg (l:=[0,1,2,3,4,5]) C<|mv H C λa H=>ov H C (Z.lss C C) λa H=>mv H C λa H=>?_; refine O.cutN (l₁:=[3,4,5]) (l₂:=_) (λa w=>Fr a 16 [] [(0,I x1),(1,I x2),(4,Pv b3 0),(5,I 0),(11,B ((decide (x1<(-2305843009213693952:Int)))||(decide (x2>(2305843009213693952:Int)))))]∧St w0 w noX [] [pJ93 b3 0 0]) C ?_ ?_
 ·rcases Bool.eq_false_or_eq_true (decide (x1<(-2305843009213693952:Int))) with hb4 | hb4
  ·refine sk H C hb4 λa H=>sk H C hb4 λa H=>?_; refine ov (v:=B ((decide (x1<(-2305843009213693952:Int)))||(decide (x2>(2305843009213693952:Int))))) H C (Z.pick C C C (by rw [hb4]; rfl)) ?_; clear H a; intro a H; exact O.nil ⟨C,H.q C,X⟩
  ·refine og H C hb4 (Z.move C) λa H=>og H C hb4 (Z.gtr C C) λa H=>?_; refine ov (v:=B ((decide (x1<(-2305843009213693952:Int)))||(decide (x2>(2305843009213693952:Int))))) H C (Z.pick C C C (by rw [hb4]; rfl)) ?_; clear H a; intro a H; exact O.nil ⟨C,H.q C,X⟩
 clear H X a; (try clear w); rintro a w ⟨H,X⟩; refine nk ?_; refine W.if_ H C (λhc5=>?_) (λhc5=>?_)
 ·nomatch hm_t M hc5
 ·replace M:=hm_f M hc5; refine W.skip<|ksq<|sg (l:=[0,1,2,3,4]) C<|mv2 H C C λa H=>ov (v:=.agg #[I x1,I x2]) H C (Z.buildS (cs':=#[I x1,I x2]) zhy zaT C (by kernel_rfl)) λa H=>ost 0 #[I x1,I x2] H X C C C zar C C C (bl C) C<|?_; intro w X; refine mv H C λa H=>nk<|W.ret<|?_; obtain rfl:=oj M; refine post2 H C (rkn (cs':=#[I x1,I x2]) C zcp zar (X.p 0 C) (bl C) C) (rkt C) ?_; replace X:=X.s0; exact ⟨(),C,X.noB⟩
def zgh (F:Nat) (x16:Bool) (x18:List Int):Option Unit :=
  if (x18.length:Int)>(0:Int) then (none) else ((zd2 F 0 0).bind λx20=>some ())
def zgi (F:Nat) (rec25:Bool→(List Int)→Int→Option Unit) (x24:Int) (x27:Bool) (x29:List Int):Option Unit :=
  rec25 x27 x29 (i64.wrap (x24-1))
def zgj (F:Nat) (x4:Bool) (x6:List Int) (rec25:Bool→(List Int)→Int→Option Unit) (x21:Bool) (x23:List Int) (x24:Int):Option Unit :=
  if x24≥(0:Int) then ((zga F x4 x6 x21 x23).bind λx30=>(zbA F x21 x23 x30.1 x30.2.1).bind λx33=>if x33.1<(0:Int) then ((zez F x21 x23 x21 x23).bind λx35=>zgi F rec25 x24 x35.1 x35.2.1) else (none)) else (zgh F x21 x23)
def zeq (F:Nat) (x4:Bool) (x6:List Int):Nat→Bool→(List Int)→Int→Option Unit
  | 0,_,_,_=>none
  | n+1,x21,x23,x24=>zgj F x4 x6 (zeq F x4 x6 n) x21 x23 x24
def zhf (F:Nat) (x1:Bool) (x3:List Int) (x4:Bool) (x6:List Int):Option Unit :=
  (zbw F x1 x3 x4 x6).bind λx9=>(zc4 F x1 x3 x4 x6).bind λx10=>(zgR F x10.1 x10.2.1).bind λx15=>zeq F x4 x6 F x10.2.2.1 x10.2.2.2.1 39
theorem zis (F:Nat) (x1:Bool) (s2:Value) (x3:List Int) (x4:Bool) (s5:Value) (x6:List Int) (w0:World) (h_s2:rdEOK (hp w0) 1 E61 s2 x3) (h_s5:rdEOK (hp w0) 1 E61 s5 x6) (r:Unit) (M:zhf F x1 x3 x4 x6=some r) :
    Ret P 40 #[.agg #[B x1,s2,B x4,s5]] w0 (G:=Unit) (λ_=>.tuple #[.agg #[I 0,I 0],I 0]) (λ_ w=>St w0 w noX [] []):=by
 unfold zhf at M; refine roW Tryz.func40 C C C (λa H=>?_); have X:St w0 w0 noX [E s2 x3,E s5 x6] []:=Sbw (lnc (lendRd h_s2) (lnc (lendRd h_s5) lnn)); refine sg (l:=[0,1,2]) C<|O.box (cs:=#[B x1,s2,B x4,s5]) H X C C C C<|?_; intro b7 w a hb7 X H; refine O.alloc (cs:=#[I 0,I 0]) H X C C zaT C ?_; intro b8 w a hb8 X H; refine mv H C λa H=>nk<|W.seq<|sg (l:=[0,1,2]) C<|ov H C (lN (cs':=#[B x1,s2,B x4,s5]) A_44 C (X.p 1 C) C C) λa H=>?_; refine hb M λx9 hx9 M=>oq H X C zfB (zbq F x1 s2 x3 x4 s5 x6 _ (X.b 0 C) (X.b 1 C) x9 hx9) ?_; rintro _ w X a H; refine mv H C λa H=>nk<|sg (l:=[0,1]) C<|mv H C λa H=>ov H C (Z.neq (p:=0) (q:=0) C C) λa H=>nk<|W.if_ff H C<|W.skip<|ksq<|sg (l:=[0,1,2,3,4,5,6,7,8,9,10,11,12,13]) C<|?_; refine ov H C (Z.field zcO C C) λa H=>ov H C (lN (cs':=#[B x1,s2]) A_28 C (X.p 1 C) C C) λa H=>ov H C (Z.field zaS C C) λa H=>ov H C (lN (cs':=#[B x4,s5]) A_28 C (X.p 1 C) C C) λa H=>?_; refine hb M λx10 hx10 M=>oq H X C zhl (zdJ F x1 s2 x3 x4 s5 x6 _ (X.b 0 C) (X.b 1 C) x10 hx10) ?_; rintro ⟨s11,s12⟩ w X a H; refine mv H C λa H=>ex H C C C λa H=>ex H C C C λa H=>ex H C C C λa H=>O.alloc (cs:=#[B false,.slice none 0 0]) H X C C zab C<|?_; intro b13 w a hb13 X H; refine O.alloc (cs:=#[B false,.slice none 0 0]) H X C C zab C ?_; intro b14 w a hb14 X H; refine ost 1 #[B x10.1,s11] H X C C C zaa C (occ C (occ (rdo (X.s 2 C)) C)) C (bl C) C ?_; intro w X; refine ost 0 #[B x10.2.2.1,s12] H X C C C zaa C (occ C (occ (rdo (X.s 3 C)) C)) C (bl C) C ?_; intro w X; refine mv H C λa H=>nk<|sg (l:=[0,1,2,3,4,5,6]) C<|ov H C (lN (cs':=#[B x10.1,s11]) A_28 C (X.p 1 C) C C) λa H=>?_; refine hb M λx15 hx15 M=>oq H X C zjw (zh4 F x10.1 s11 x10.2.1 _ (X.s 2 C) x15 hx15) ?_; rintro _ w X a H; refine mv H C λa H=>ex H C C C λa H=>ex H C C C λa H=>mv2 H C C λa H=>nk<|?_; replace X:=X.sl [1,0,0,1,1,1]; refine W.seq<|sg (l:=[0,1,2,3,4,5,6,7,8,9]) C<|mv H C λa H=>ov H C (Z.neq (p:=0) (q:=0) C C) λa H=>mv H C λa H=>og H C C (Z.move C) λa H=>og (v:=B false) H C C (Z.lss (p:=0) (q:=-2097152) C C) λa H=>ov (v:=B false) H C (Z.pick C C C C) λa H=>mv H C λa H=>og H C C (Z.move C) λa H=>?_; refine og (v:=B false) H C C (Z.gtr (p:=0) (q:=2097152) C C) λa H=>ov (v:=B false) H C (Z.pick C C C C) λa H=>nk<|W.if_ff H C<|W.skip<|ksq<|sg (l:=[0,1,2]) C<|mv H C λa H=>ov (v:=I 0) H C (Z.shl (p:=0) (q:=40) C C (by decide)) λa H=>mv H C λa H=>?_; refine nk ?_; refine W.seqR (λa w=>∃ (x16:Bool) (s17:Value) (x18:List Int),Fr a 97 [] [(2,Pv b8 0),(3,I 0),(6,Pv b14 0),(10,I 0)]∧St w0 w noX [E s2 x3,E s5 x6] [pJ93 b8 0 0,D s17 x18,pW28 b14 x16 s17]∧zgh F x16 x18=some r) ?_ ?_
 ·refine sg (l:=[0]) C<|mv H C λa H=>nk<|W.block<|?_; replace X:=X.fr 1; replace X:=X.fr 2; replace X:=X.fr 3; refine W.loop (G:=Nat × Bool × Value × (List Int) × Int) (λg a w=>match g with | (k25,x21,s22,x23,x24)=>Fr a 97 [] [(1,Pv b7 0),(2,Pv b8 0),(3,I 0),(6,Pv b14 0),(10,I 0),(11,I x24)]∧St w0 w noX [E s2 x3,E s5 x6] [pt b7 (Cs #[B x1,s2,B x4,s5] 44),pJ93 b8 0 0,D s22 x23,pW28 b14 x21 s22]∧zeq F x4 x6 k25 x21 x23 x24=some r) (λg=>match g with | (k25,x21,s22,x23,x24)=>k25) (F,x10.2.2.1,s12,x10.2.2.2.1,39) ⟨H.q C,X,M⟩ ?_; clear H X M a; (try clear w); rintro ⟨k25,x21,s22,x23,x24⟩ a w ⟨H,X,M⟩
  rcases k25 with _ | k25
  · nomatch M
  replace M:zgj F x4 x6 (zeq F x4 x6 k25) x21 x23 x24=some r:=M; obtain ⟨rec25,hrec25⟩:∃ f,f=zeq F x4 x6 k25:=⟨_,C⟩; rw [← hrec25] at M; unfold zgj at M; refine W.seq<|sg (l:=[0,1]) C<|mv H C λa H=>ov H C (Z.geq C C) λa H=>nk<|?_; refine W.ifdI H C (λhc26=>?_) (λhc26=>?_)
  ·replace M:=hm_p M hc26; refine W.skip<|ksq<|?_; refine W.seqR (λa w=>∃ (x27:Bool) (s28:Value) (x29:List Int),Fr a 97 [] [(1,Pv b7 0),(2,Pv b8 0),(3,I 0),(6,Pv b14 0),(10,I 0),(11,I x24)]∧St w0 w noX [E s2 x3,E s5 x6] [pt b7 (Cs #[B x1,s2,B x4,s5] 44),pJ93 b8 0 0,D s28 x29,pW28 b14 x27 s28]∧zgi F rec25 x24 x27 x29=some r) ?_ ?_
   ·refine W.block<|sg (l:=[0,1,2,3,4,5,6,7,8,9]) C<|ov H C (Z.field zaS C C) λa H=>ov H C (lN (cs':=#[B x4,s5]) A_28 C (X.p 0 C) C C) λa H=>ov H C (lN (cs':=#[B x21,s22]) A_28 C (X.p 3 C) C C) λa H=>?_; refine hb M λx30 hx30 M=>oq H X C zix (zg3 F x4 s5 x6 x21 s22 x23 _ (X.b 1 C) (X.s 2 C) x30 hx30) ?_; rintro s31 w X a H; refine mv H C λa H=>ex H C C C λa H=>ex H C C C λa H=>O.alloc (cs:=#[B false,.slice none 0 0]) H X C C zab C<|?_; intro b32 w a hb32 X H; refine ost 0 #[B x30.1,s31] H X C C C zaa C (occ C (occ (rdo (X.s 1 C)) C)) C (bl C) C ?_; intro w X; refine mv H C λa H=>nk<|W.seq<|sg (l:=[0,1,2,3,4,5,6,7]) C<|ov H C (lN (cs':=#[B x21,s22]) A_28 C (X.p 5 C) C C) λa H=>ov H C (lN (cs':=#[B x30.1,s31]) A_28 C (X.p 0 C) C C) λa H=>?_; refine hb M λx33 hx33 M=>oq H X C zfT (zbY F x21 s22 x23 x30.1 s31 x30.2.1 _ (X.s 4 C) (X.s 1 C) x33 hx33) ?_; rintro _ w X a H; refine mv H C λa H=>ex H C C C λa H=>ex H C C C λa H=>mv2 H C C λa H=>nk<|sg (l:=[0,1]) C<|mv H C λa H=>ov H C (Z.lss C C) λa H=>nk<|?_; refine W.ifdI H C (λhc34=>?_) (λhc34=>?_)
    ·replace M:=hm_p M hc34; refine sg (l:=[0,1,2,3,4,5,6]) C<|ov H C (lN (cs':=#[B x21,s22]) A_28 C (X.p 5 C) C C) λa H=>ov H C (lN (cs':=#[B x21,s22]) A_28 C (X.p 5 C) C C) λa H=>?_; refine hb M λx35 hx35 M=>oq H X C zhm (zeO F x21 s22 x23 x21 s22 x23 _ (X.s 4 C) (X.s 4 C) x35 hx35) ?_; rintro s36 w X a H; refine mv H C λa H=>ex H C C C λa H=>ex H C C C λa H=>ost 6 #[B x35.1,s36] H X C C C zaa C (occ C (occ (rdo (X.s 0 C)) C)) C (bl C) C<|?_; intro w X; refine nk ?_; replace X:=X.sl [1,1,1,1,1,0,1]; refine W.exit<|kte<|kbk<|?_; replace X:=X.fr 5; replace X:=X.fr 1; replace X:=X.fr 5; replace X:=X.fr 5; replace X:=X.sl [1,1,1,1]; exact kth ⟨x35.1,s36,x35.2.1,H.q C,X,M⟩
    ·replace M:=hm_n M hc34; refine W.skip<|ksq<|?_; nomatch M
   ·clear H X M a; (try clear w); rintro a w ⟨x27,s28,x29,H,X,M⟩; unfold zgi at M; refine wrL (l:=[0,1,2]) C<|mv H C λa H=>ov H C (Z.sub C C) λa H=>mv H C λa H=>O.nil<|?_; refine kth ⟨(k25,x27,s28,x29,i64.wrap (x24-1)),⟨H.q C,X,?_⟩,Nat.lt_succ_self _⟩; rw [hrec25] at M; exact M
  ·replace M:=hm_n M hc26; refine W.exit<|kte<|kte<|kbk<|?_; replace X:=X.sl [0,1,1,1]; exact kth ⟨x21,s22,x23,H.q C,X,M⟩
 ·clear H X M a; (try clear w); rintro a w ⟨x16,s17,x18,H,X,M⟩; unfold zgh at M; refine sg (l:=[0,1]) C<|mv2 H C C λa H=>nk<|W.seq<|sg (l:=[0,1,2,3]) C<|ov H C (Z.field zah C C) λa H=>ov (v:=s17) H C (Z.load1 zai C (X.p 2 C) C) λa H=>ov (v:=I (x18.length:Int)) H C (Z.lenE (e:=61) (by simpa using zac) C (X.s 1 C)) λa H=>ov H C (Z.gtr C C) λa H=>?_; refine nk ?_; replace X:=X.sl [1]; refine W.ifdI H C (λhc19=>?_) (λhc19=>?_)
  ·nomatch hm_p M hc19
  ·replace M:=hm_n M hc19; refine W.skip<|ksq<|sg (l:=[0,1,2,3,4,5,6]) C<|mv2 H C C λa H=>?_; refine hb M λx20 hx20 M=>oq H X C zhn (zeB F 0 0 _ x20 hx20) ?_; rintro _ w X a H; refine ex H C C C λa H=>ex H C C C λa H=>ost 0 #[I 0,I 0] H X C C C zar C C C (bl C) C<|?_; intro w X; refine mv H C λa H=>nk<|W.ret<|?_; obtain rfl:=oj M; refine post2 H C (rkn (cs':=#[I 0,I 0]) C zcp zar (X.p 0 C) (bl C) C) (rkt C) ?_; replace X:=X.s0; exact ⟨(),C,X.noB⟩
def zea (F:Nat) (x3:Int) (x9:Bool):Option Int :=
  if (x9)=true then (none) else (if x3=(9:Int) then (none) else (none))
def zeb (F:Nat) (x3:Int) (x6:Bool):Option Int :=
  if (x6)=true then (none) else (if x3=(3:Int) then (some 1099511627776) else (if x3=(7:Int) then (zea F x3 (decide (x3=(7:Int)))) else (zea F x3 (decide (x3=(11:Int))))))
def zec (F:Nat) (x3:Int) (x4:Bool):Option Int :=
  if (x4)=true then (some 0) else (if x3=(1:Int) then (zeb F x3 (decide (x3=(1:Int)))) else (zeb F x3 (decide (x3=(5:Int)))))
def zgk (F:Nat) (x1:Int):Option Int :=
  if (Int.tmod x1 108000000000)≠(0:Int) then (none) else ((some (Int.tmod (i64.wrap ((Int.tmod (i64.wrap (Int.tdiv x1 108000000000)) 12)+12)) 12)).bind λx3=>if x3=(0:Int) then (zec F x3 (decide (x3=(0:Int)))) else (zec F x3 (decide (x3=(6:Int)))))
theorem zhK (F:Nat) (x1:Int) (w0:World) (r:Int) (M:zgk F x1=some r) :
    Ret P 101 #[I x1] w0 (G:=Unit) (λ_=>.tuple #[I r,B true]) (λ_ w=>St w0 w noX [] []):=by
 unfold zgk at M; refine roW Tryz.func101 C C C (λa H=>?_); have X:St w0 w0 noX [] []:=Sbw lnn; refine sg (l:=[0,1]) C<|mv2 H C C λa H=>nk<|W.seq<|sg (l:=[0,1,2]) C<|mv H C λa H=>ov (v:=I (Int.tmod x1 108000000000)) H C (Z.rem (q:=108000000000) C C (by decide)) λa H=>ov H C (Z.neq C C) λa H=>nk<|?_; refine W.ifdI H C (λhc2=>?_) (λhc2=>?_)
 ·nomatch hm_p M hc2
 ·replace M:=hm_n M hc2; refine W.skip<|ksq<|sg (l:=[0,1,2,3,4,5]) C<|mv H C λa H=>ov (v:=I (i64.wrap (Int.tdiv x1 108000000000))) H C (Z.quo (q:=108000000000) C C (by decide)) λa H=>ov (v:=I (Int.tmod (i64.wrap (Int.tdiv x1 108000000000)) 12)) H C (Z.rem (q:=12) C C (by decide)) λa H=>ov H C (Z.add C C) λa H=>ov (v:=I (Int.tmod (i64.wrap ((Int.tmod (i64.wrap (Int.tdiv x1 108000000000)) 12)+12)) 12)) H C (Z.rem (q:=12) C C (by decide)) λa H=>mv H C λa H=>nk<|?_; obtain ⟨x3,hx3,M⟩:=hm_b M; rw [oj hx3] at H; refine sg (l:=[0]) C<|mv H C λa H=>nk<|W.seq<|sg (l:=[0]) C<|mv H C λa H=>nk<|W.block<|?_; refine W.seqR (λa w=>∃ (x4:Bool),Fr a 35 [] [(2,I 0),(3,B false),(5,I 549755813888),(14,I x3),(15,B x4)]∧St w0 w noX [] []∧zec F x3 x4=some r) ?_ ?_
  ·refine sg (l:=[0,1]) C<|ov H C (Z.eql C C) λa H=>mv H C λa H=>nk<|?_; refine W.ifdI H C (λhc14=>?_) (λhc14=>?_)
   ·replace M:=hm_p M hc14; refine W.skip ?_; exact kth ⟨decide (x3=(0:Int)),H.q C,X,M⟩
   ·replace M:=hm_n M hc14; refine wrL (l:=[0,1]) C<|ov H C (Z.eql C C) λa H=>mv H C λa H=>O.nil<|?_; exact kth ⟨decide (x3=(6:Int)),H.q C,X,M⟩
  ·clear H X M a; (try clear w); rintro a w ⟨x4,H,X,M⟩; unfold zec at M; refine W.if_ H C (λhc5=>?_) (λhc5=>?_)
   ·replace M:=hm_t M hc5; refine sg (l:=[0,1]) C<|mv2 H C C λa H=>nk<|W.ret<|kbr<|ktr<|?_; obtain rfl:=oj M; refine post2 H C (rkt C) (rkt C) ?_; exact ⟨(),C,X.noB⟩
   ·replace M:=hm_f M hc5; refine W.seqR (λa w=>∃ (x6:Bool),Fr a 35 [] [(2,I 0),(3,B false),(5,I 549755813888),(14,I x3),(18,B x6)]∧St w0 w noX [] []∧zeb F x3 x6=some r) ?_ ?_
    ·refine sg (l:=[0,1]) C<|ov H C (Z.eql C C) λa H=>mv H C λa H=>nk<|?_; refine W.ifdI H C (λhc13=>?_) (λhc13=>?_)
     ·replace M:=hm_p M hc13; refine W.skip ?_; exact kth ⟨decide (x3=(1:Int)),H.q C,X,M⟩
     ·replace M:=hm_n M hc13; refine wrL (l:=[0,1]) C<|ov H C (Z.eql C C) λa H=>mv H C λa H=>O.nil<|?_; exact kth ⟨decide (x3=(5:Int)),H.q C,X,M⟩
    ·clear H X M a; (try clear w); rintro a w ⟨x6,H,X,M⟩; unfold zeb at M; refine W.if_ H C (λhc7=>?_) (λhc7=>?_)
     ·nomatch hm_t M hc7
     ·replace M:=hm_f M hc7; refine sg (l:=[0,1]) C<|ov H C (Z.eql C C) λa H=>mv H C λa H=>nk<|?_; refine W.ifdI H C (λhc8=>?_) (λhc8=>?_)
      ·replace M:=hm_p M hc8; refine sg (l:=[0,1,2,3]) C<|mv H C λa H=>ov H C (Z.mul (p:=2) (q:=549755813888) C C) λa H=>mv2 H C C λa H=>nk<|W.ret<|kbr<|ktr<|?_; obtain rfl:=oj M; refine post2 H C (rkt C) (rkt C) ?_; exact ⟨(),C,X.noB⟩
      ·replace M:=hm_n M hc8; refine W.seqR (λa w=>∃ (x9:Bool),Fr a 35 [] [(2,I 0),(3,B false),(5,I 549755813888),(14,I x3),(26,B x9)]∧St w0 w noX [] []∧zea F x3 x9=some r) ?_ ?_
       ·refine sg (l:=[0,1]) C<|ov H C (Z.eql C C) λa H=>mv H C λa H=>nk<|?_; refine W.ifdI H C (λhc12=>?_) (λhc12=>?_)
        ·replace M:=hm_p M hc12; refine W.skip ?_; exact kth ⟨decide (x3=(7:Int)),H.q C,X,M⟩
        ·replace M:=hm_n M hc12; refine wrL (l:=[0,1]) C<|ov H C (Z.eql C C) λa H=>mv H C λa H=>O.nil<|?_; exact kth ⟨decide (x3=(11:Int)),H.q C,X,M⟩
       ·clear H X M a; (try clear w); rintro a w ⟨x9,H,X,M⟩; unfold zea at M; refine W.if_ H C (λhc10=>?_) (λhc10=>?_)
        ·nomatch hm_t M hc10
        ·replace M:=hm_f M hc10; refine sg (l:=[0,1]) C<|ov H C (Z.eql C C) λa H=>mv H C λa H=>nk<|?_; refine W.ifdI H C (λhc11=>?_) (λhc11=>?_)
         ·nomatch hm_p M hc11
         ·replace M:=hm_n M hc11; refine W.skip<|kbn<|ksq<|?_; nomatch M
def zgS (F:Nat) (x1:Int):Option (Int × Int) :=
  (zgk F x1).bind λx3=>some (x3,x3)
theorem zh5 (F:Nat) (x1:Int) (w0:World) (r:Int × Int) (M:zgS F x1=some r) :
    Ret P 69 #[I x1] w0 (G:=Unit) (λ_=>.agg #[I r.1,I r.2]) (λ_ w=>St w0 w noX [] []):=by
 unfold zgS at M; refine roW Tryz.func69 C C C (λa H=>?_); have X:St w0 w0 noX [] []:=Sbw lnn; refine sg (l:=[0]) C<|O.alloc (cs:=#[I 0,I 0]) H X C C zaT C<|?_; intro b2 w a hb2 X H; refine nk<|wsc<|W.seq<|sg (l:=[0,1,2,3,4,5,6]) C<|mv H C λa H=>?_; refine hb M λx3 hx3 M=>oq H X C ziS (zhK F x1 _ x3 hx3) ?_; rintro _ w X a H; refine mv H C λa H=>ex H C C C λa H=>ex H C C C λa H=>mv2 H C C λa H=>nk<|sg (l:=[0]) C<|mv H C λa H=>nk<|W.if_tt H C<|?_; refine sg (l:=[0,1,2,3]) C<|mv2 H C C λa H=>ov (v:=.agg #[I x3,I x3]) H C (Z.buildS (cs':=#[I x3,I x3]) zhy zaT C (by kernel_rfl)) λa H=>ost 0 #[I x3,I x3] H X C C C zar C C C (bl C) C<|?_; intro w X; refine nk<|W.ret<|ktr<|k_stl_ret<|?_; obtain rfl:=oj M; refine post1 H C (rkn (cs':=#[I x3,I x3]) C zcp zar (X.p 0 C) (bl C) C) ?_; replace X:=X.s0; exact ⟨(),C,X.noB⟩
def zer (F:Nat) :Option Unit :=
  some ()
def zdg (F:Nat) (x2 x3 x4 x5:Int):Option Unit :=
  if (((decide (x2>(x3:Int)))||(decide (x2<(-2305843009213693952:Int))))||(decide (x3>(2305843009213693952:Int))))=true then (none) else (if (((decide (x4>(x5:Int)))||(decide (x4<(-2305843009213693952:Int))))||(decide (x5>(2305843009213693952:Int))))=true then (none) else (zer F))
theorem zes (F b1:Nat) (x2 x3 x4 x5:Int) (w0:World) (h_b1:w0.heap[b1]? = some (.cells #[I x2,I x3,I x4,I x5] 93 (0,0))) (r:Unit) (M:zdg F x2 x3 x4 x5=some r) :
    Ret P 77 #[.slice (some ⟨b1,0,none⟩) 2 2] w0 (G:=Unit) (λ_=>I 0) (λ_ w=>St w0 w noX [] []):=by
 unfold zdg at M; refine roW Tryz.func77 C C C (λa H=>?_); have X:St w0 w0 noX [pt b1 (Cs #[I x2,I x3,I x4,I x5] 93)] []:=Sbw (lnc (lendPt h_b1) lnn); refine sg (l:=[0]) C<|mv H C λa H=>nk<|?_; refine W.seqR (λa w=>Fr a 27 [] [(2,I 0)]∧St w0 w noX [pt b1 (Cs #[I x2,I x3,I x4,I x5] 93)] []∧zer F=some r) ?_ ?_
 ·refine sg (l:=[0,1,2]) C<|mv H C λa H=>ov (v:=I 2) H C (Z.len (e:=93) (by simpa using zew) C) λa H=>mv H C λa H=>nk<|W.block<|?_; refine W.loopH (LH.step ?_); refine sg (l:=[0]) C<|ov H C (Z.lss (p:=0) (q:=2) C C) λa H=>nk<|W.seq<|W.if_tt H C<|W.skip<|ksq<|W.seq<|W.block<|sg (l:=[0,1,2,3]) C<|?_; refine ov H C (Z.indexSl (j:=0) (m:=0) zew zar C C C (by decide) C) λa H=>ov H C (Z.loadN (cs':=#[I x2,I x3]) zcp zar C (X.bptAt (i:=0) C) (bl C) C) λa H=>O.alloc (cs:=#[I 0,I 0]) H X C C zaT C<|?_; intro b6 w a hb6 X H; refine ost 0 #[I x2,I x3] H X C C C zar C C C (bl C) C ?_; intro w X; refine nk<|sg (l:=[0,1,2,3,4,5,6,7,8,9,10,11,12,13,14]) C<|ov H C (Z.field zbe C C) λa H=>ov H C (Z.load1 zaf C (X.p 0 C) C) λa H=>ov H C (Z.field zbf C C) λa H=>ov H C (Z.load1 zaf C (X.p 0 C) C) λa H=>ov H C (Z.gtr C C) λa H=>mv H C λa H=>?_; refine O.cutN (l₁:=[6,7,8,9]) (l₂:=_) (λa w=>Fr a 27 [] [(2,I 0),(4,Pv b6 0),(5,.slice (some ⟨b1,0,none⟩) 2 2),(6,I 2),(7,I 0),(20,B ((decide (x2>(x3:Int)))||(decide (x2<(-2305843009213693952:Int)))))]∧St w0 w noX [pt b1 (Cs #[I x2,I x3,I x4,I x5] 93)] [pJ93 b6 x2 x3]) C ?_ ?_
  ·rcases Bool.eq_false_or_eq_true (decide (x2>(x3:Int))) with hb7 | hb7
   ·refine sk H C hb7 λa H=>sk H C hb7 λa H=>sk H C hb7 λa H=>?_; refine ov (v:=B ((decide (x2>(x3:Int)))||(decide (x2<(-2305843009213693952:Int))))) H C (Z.pick C C C (by rw [hb7]; rfl)) ?_; clear H a; intro a H; exact O.nil ⟨C,H.q C,X⟩
   ·refine og H C hb7 (Z.field zbe C C) λa H=>og H C hb7 (Z.load1 zaf C (X.p 0 C) C) λa H=>og H C hb7 (Z.lss C C) λa H=>?_; refine ov (v:=B ((decide (x2>(x3:Int)))||(decide (x2<(-2305843009213693952:Int))))) H C (Z.pick C C C (by rw [hb7]; rfl)) ?_; clear H a; intro a H; exact O.nil ⟨C,H.q C,X⟩
  clear H X a; (try clear w); rintro a w ⟨H,X⟩; refine mv H C λa H=>?_; refine O.cutN (l₁:=[11,12,13,14]) (l₂:=_) (λa w=>Fr a 27 [] [(2,I 0),(5,.slice (some ⟨b1,0,none⟩) 2 2),(6,I 2),(7,I 0),(25,B (((decide (x2>(x3:Int)))||(decide (x2<(-2305843009213693952:Int))))||(decide (x3>(2305843009213693952:Int)))))]∧St w0 w noX [pt b1 (Cs #[I x2,I x3,I x4,I x5] 93)] [pJ93 b6 x2 x3]) C ?_ ?_
  ·rcases Bool.eq_false_or_eq_true ((decide (x2>(x3:Int)))||(decide (x2<(-2305843009213693952:Int)))) with hb8 | hb8
   ·refine sk H C hb8 λa H=>sk H C hb8 λa H=>sk H C hb8 λa H=>?_; refine ov (v:=B (((decide (x2>(x3:Int)))||(decide (x2<(-2305843009213693952:Int))))||(decide (x3>(2305843009213693952:Int))))) H C (Z.pick C C C (by rw [hb8]; rfl)) ?_; clear H a; intro a H; exact O.nil ⟨C,H.q C,X⟩
   ·refine og H C hb8 (Z.field zbf C C) λa H=>og H C hb8 (Z.load1 zaf C (X.p 0 C) C) λa H=>og H C hb8 (Z.gtr C C) λa H=>?_; refine ov (v:=B (((decide (x2>(x3:Int)))||(decide (x2<(-2305843009213693952:Int))))||(decide (x3>(2305843009213693952:Int))))) H C (Z.pick C C C (by rw [hb8]; rfl)) ?_; clear H a; intro a H; exact O.nil ⟨C,H.q C,X⟩
  clear H X a; (try clear w); rintro a w ⟨H,X⟩; refine nk ?_; replace X:=X.s0; refine W.if_ H C (λhc9=>?_) (λhc9=>?_)
  ·nomatch hm_t M hc9
  ·replace M:=hm_f M hc9; refine W.skip<|kbn<|ksq<|wrL (l:=[0,1]) C<|ov H C (Z.add (p:=0) (q:=1) C C) λa H=>mv H C λa H=>O.nil<|?_; refine kth (LH.step ?_); refine sg (l:=[0]) C<|ov H C (Z.lss (p:=1) (q:=2) C C) λa H=>nk<|W.seq<|W.if_tt H C<|W.skip<|ksq<|W.seq<|W.block<|sg (l:=[0,1,2,3]) C<|?_; refine ov H C (Z.indexSl (j:=1) (m:=2) zew zar C C C (by decide) C) λa H=>ov H C (Z.loadN (cs':=#[I x4,I x5]) zcp zar C (X.bptAt (i:=0) C) (bl C) C) λa H=>O.alloc (cs:=#[I 0,I 0]) H X C C zaT C<|?_; intro b10 w a hb10 X H; refine ost 0 #[I x4,I x5] H X C C C zar C C C (bl C) C ?_; intro w X; refine nk<|sg (l:=[0,1,2,3,4,5,6,7,8,9,10,11,12,13,14]) C<|ov H C (Z.field zbe C C) λa H=>ov H C (Z.load1 zaf C (X.p 0 C) C) λa H=>ov H C (Z.field zbf C C) λa H=>ov H C (Z.load1 zaf C (X.p 0 C) C) λa H=>ov H C (Z.gtr C C) λa H=>mv H C λa H=>?_; refine O.cutN (l₁:=[6,7,8,9]) (l₂:=_) (λa w=>Fr a 27 [] [(2,I 0),(4,Pv b10 0),(5,.slice (some ⟨b1,0,none⟩) 2 2),(6,I 2),(7,I 1),(20,B ((decide (x4>(x5:Int)))||(decide (x4<(-2305843009213693952:Int)))))]∧St w0 w noX [pt b1 (Cs #[I x2,I x3,I x4,I x5] 93)] [pJ93 b10 x4 x5]) C ?_ ?_
   ·rcases Bool.eq_false_or_eq_true (decide (x4>(x5:Int))) with hb11 | hb11
    ·refine sk H C hb11 λa H=>sk H C hb11 λa H=>sk H C hb11 λa H=>?_; refine ov (v:=B ((decide (x4>(x5:Int)))||(decide (x4<(-2305843009213693952:Int))))) H C (Z.pick C C C (by rw [hb11]; rfl)) ?_; clear H a; intro a H; exact O.nil ⟨C,H.q C,X⟩
    ·refine og H C hb11 (Z.field zbe C C) λa H=>og H C hb11 (Z.load1 zaf C (X.p 0 C) C) λa H=>og H C hb11 (Z.lss C C) λa H=>?_; refine ov (v:=B ((decide (x4>(x5:Int)))||(decide (x4<(-2305843009213693952:Int))))) H C (Z.pick C C C (by rw [hb11]; rfl)) ?_; clear H a; intro a H; exact O.nil ⟨C,H.q C,X⟩
   clear H X a; (try clear w); rintro a w ⟨H,X⟩; refine mv H C λa H=>?_; refine O.cutN (l₁:=[11,12,13,14]) (l₂:=_) (λa w=>Fr a 27 [] [(2,I 0),(5,.slice (some ⟨b1,0,none⟩) 2 2),(6,I 2),(7,I 1),(25,B (((decide (x4>(x5:Int)))||(decide (x4<(-2305843009213693952:Int))))||(decide (x5>(2305843009213693952:Int)))))]∧St w0 w noX [pt b1 (Cs #[I x2,I x3,I x4,I x5] 93)] [pJ93 b10 x4 x5]) C ?_ ?_
   ·rcases Bool.eq_false_or_eq_true ((decide (x4>(x5:Int)))||(decide (x4<(-2305843009213693952:Int)))) with hb12 | hb12
    ·refine sk H C hb12 λa H=>sk H C hb12 λa H=>sk H C hb12 λa H=>?_; refine ov (v:=B (((decide (x4>(x5:Int)))||(decide (x4<(-2305843009213693952:Int))))||(decide (x5>(2305843009213693952:Int))))) H C (Z.pick C C C (by rw [hb12]; rfl)) ?_; clear H a; intro a H; exact O.nil ⟨C,H.q C,X⟩
    ·refine og H C hb12 (Z.field zbf C C) λa H=>og H C hb12 (Z.load1 zaf C (X.p 0 C) C) λa H=>og H C hb12 (Z.gtr C C) λa H=>?_; refine ov (v:=B (((decide (x4>(x5:Int)))||(decide (x4<(-2305843009213693952:Int))))||(decide (x5>(2305843009213693952:Int))))) H C (Z.pick C C C (by rw [hb12]; rfl)) ?_; clear H a; intro a H; exact O.nil ⟨C,H.q C,X⟩
   clear H X a; (try clear w); rintro a w ⟨H,X⟩; refine nk ?_; replace X:=X.s0; refine W.if_ H C (λhc13=>?_) (λhc13=>?_)
   ·nomatch hm_t M hc13
   ·replace M:=hm_f M hc13; refine W.skip<|kbn<|ksq<|wrL (l:=[0,1]) C<|ov H C (Z.add (p:=1) (q:=1) C C) λa H=>mv H C λa H=>O.nil<|?_; refine kth (LH.step ?_); refine sg (l:=[0]) C<|ov H C (Z.lss (p:=2) (q:=2) C C) λa H=>nk<|W.seq<|W.if_ff H C<|W.exit<|kte<|kte<|kbk<|?_; exact kth ⟨H.q C,X,M⟩
 ·clear H X M a; (try clear w); rintro a w ⟨H,X,M⟩; unfold zer at M; refine sg (l:=[0]) C<|mv H C λa H=>nk<|W.ret<|?_; obtain rfl:=oj M; refine post1 H C (rkt C) ?_; exact ⟨(),C,X.noB⟩
def zgT (F:Nat) (x1 x2 x3 x4:Int):Option (Int × Int) :=
  (zdg F x1 x2 x3 x4).bind λx9=>(zd2 F (i64.wrap (x1-x4)) (i64.wrap (x2-x3))).bind λx10=>(some (i64.wrap (x1-x4))).bind λx11=>(some (i64.wrap (x2-x3))).bind λx12=>some (x11,x12)
theorem zh6 (F:Nat) (x1 x2 x3 x4:Int) (w0:World) (r:Int × Int) (M:zgT F x1 x2 x3 x4=some r) :
    Ret P 74 #[.agg #[I x1,I x2],.agg #[I x3,I x4]] w0 (G:=Unit) (λ_=>.tuple #[.agg #[I r.1,I r.2],I 0]) (λ_ w=>St w0 w noX [] []):=by
 unfold zgT at M; refine roW Tryz.func74 C C C (λa H=>?_); have X:St w0 w0 noX [] []:=Sbw lnn; refine sg (l:=[0,1,2,3]) C<|O.box (cs:=#[I x1,I x2]) H X C C C C<|?_; intro b5 w a hb5 X H; refine O.box (cs:=#[I x3,I x4]) H X C C C C ?_; intro b6 w a hb6 X H; refine O.alloc (cs:=#[I 0,I 0]) H X C C zaT C ?_; intro b7 w a hb7 X H; refine mv H C λa H=>nk<|W.seq<|sg (l:=[0,1,2,3,4]) C<|ov H C (lN (cs':=#[I x1,I x2]) A_93 C (X.p 2 C) C C) λa H=>ov H C (lN (cs':=#[I x3,I x4]) A_93 C (X.p 1 C) C C) λa H=>O.buildSlice (cs':=#[I x1,I x2,I x3,I x4]) (zs:=#[I 0,I 0,I 0,I 0]) H X C C zew zar zaT C C C C C<|?_; intro b8 w a hb8 X H; refine hb M λx9 hx9 M=>oq H X C zhS (zes F b8 x1 x2 x3 x4 _ (X.p 0 C) x9 hx9) ?_; rintro _ w X a H; refine mv H C λa H=>nk<|?_; replace X:=X.sl [0,1,1,1]; refine sg (l:=[0,1]) C<|mv H C λa H=>ov H C (Z.neq (p:=0) (q:=0) C C) λa H=>nk<|W.if_ff H C<|W.skip<|ksq<|sg (l:=[0,1,2,3,4,5,6,7,8,9,10,11,12,13,14]) C<|ov H C (Z.field zbe C C) λa H=>ov H C (Z.load1 zaf C (X.p 2 C) C) λa H=>?_; refine ov H C (Z.field zbf C C) λa H=>ov H C (Z.load1 zaf C (X.p 1 C) C) λa H=>ov H C (Z.sub C C) λa H=>ov H C (Z.field zbf C C) λa H=>ov H C (Z.load1 zaf C (X.p 2 C) C) λa H=>ov H C (Z.field zbe C C) λa H=>ov H C (Z.load1 zaf C (X.p 1 C) C) λa H=>ov H C (Z.sub C C) λa H=>?_; refine hb M λx10 hx10 M=>oq H X C zhn (zeB F (i64.wrap (x1-x4)) (i64.wrap (x2-x3)) _ x10 hx10) ?_; rintro _ w X a H; refine ex H C C C λa H=>ex H C C C λa H=>ost 0 #[I (i64.wrap (x1-x4)),I (i64.wrap (x2-x3))] H X C C C zar C C C (bl C) C<|?_; intro w X; refine mv H C λa H=>nk<|?_; replace X:=X.sl [1]; obtain ⟨x11,hx11,M⟩:=hm_b M; rw [oj hx11] at X; obtain ⟨x12,hx12,M⟩:=hm_b M; rw [oj hx12] at X; refine W.ret ?_; obtain rfl:=oj M; refine post2 H C (rkn (cs':=#[I x11,I x12]) C zcp zar (X.p 0 C) (bl C) C) (rkt C) ?_; replace X:=X.s0; exact ⟨(),C,X.noB⟩
def zat (F:Nat) (x2 x3 x4 x5 x6:Int):Option (Int × Int) :=
  if x2≠(0:Int) then (none) else ((zgT F x3 x4 x5 x6).bind λx11=>some x11)
theorem zbt (F b1:Nat) (x2 x3 x4 x5 x6:Int) (w0:World) (h_b1:w0.heap[b1]? = some (.cells (Sh0 (I x2)) 110 (0,0))) (r:Int × Int) (M:zat F x2 x3 x4 x5 x6=some r) :
    Ret P 44 #[Pv b1 0,.func (.func 74) #[] #[],.agg #[I x3,I x4],.agg #[I x5,I x6]] w0 (G:=Unit) (λ_=>.agg #[I r.1,I r.2]) (λ_ w=>St w0 w (λk=>k=b1) [] [pS0110 b1 0]):=by
 unfold zat at M; refine roW Tryz.func44 C C C (λa H=>?_); have X:St w0 w0 (λk=>k=b1) [] [pS0110 b1 x2]:=St.ownPt h_b1 lnn (apAll_nil (q:=pS0110 b1 x2)); refine sg (l:=[0,1,2]) C<|O.box (cs:=#[I x3,I x4]) H X C C C C<|?_; intro b7 w a hb7 X H; refine O.box (cs:=#[I x5,I x6]) H X C C C C ?_; intro b8 w a hb8 X H; refine O.alloc (cs:=#[I 0,I 0]) H X C C zaT C ?_; intro b9 w a hb9 X H; refine nk<|W.seq<|sg (l:=[0,1,2,3,4]) C<|mv H C λa H=>ov H C (Z.nilCheck C) λa H=>ov H C (Z.field zc3 C C) λa H=>ov H C (Z.load1 zcN C (X.p 3 C) C) λa H=>ov H C (Z.neq C C) λa H=>nk<|?_; refine W.ifdI H C (λhc10=>?_) (λhc10=>?_)
 ·nomatch hm_p M hc10
 ·replace M:=hm_n M hc10; refine W.skip<|ksq<|sg (l:=[0,1,2,3,4,5,6,7,8,9]) C<|mv H C λa H=>ov H C (lN (cs':=#[I x3,I x4]) A_93 C (X.p 2 C) C C) λa H=>ov H C (lN (cs':=#[I x5,I x6]) A_93 C (X.p 1 C) C C) λa H=>?_; refine hb M λx11 hx11 M=>oq H X C zjy (zh6 F x3 x4 x5 x6 _ x11 hx11) ?_; rintro _ w X a H; refine mv H C λa H=>ex H C C C λa H=>ex H C C C λa H=>O.alloc (cs:=#[I 0,I 0]) H X C C zaT C<|?_; intro b12 w a hb12 X H; refine ost 0 #[I x11.1,I x11.2] H X C C C zar C C C (bl C) C ?_; intro w X; refine mv H C λa H=>nk<|?_; replace X:=X.sl [1,1,0,0,1]; refine sg (l:=[0,1,2,3,4]) C<|mv2 H C C λa H=>ov H C (Z.nilCheck C) λa H=>ov H C (Z.field zc3 C C) λa H=>ost 2 (Sh0 (I 0)) H X C C C zcI C C C (bl C) C<|?_; intro w X; refine nk<|sg (l:=[0,1]) C<|ov H C (lN (cs':=#[I x11.1,I x11.2]) A_93 C (X.p 0 C) C C) λa H=>ost 1 #[I x11.1,I x11.2] H X C C C zar C C C (bl C) C<|?_; intro w X; refine nk ?_; replace X:=X.sl [0,1,1]; refine W.ret ?_; obtain rfl:=oj M; refine post1 H C (rkn (cs':=#[I x11.1,I x11.2]) C zcp zar (X.p 0 C) (bl C) C) ?_; replace X:=X.sl [0,1]; exact ⟨(),C,X.noB⟩
def zeH (F:Nat) (x1 x2:Int):Option (Int × Int) :=
  (some (u64.wrap ((bitand .u64 x1 4294967295)*(bitand .u64 x2 4294967295)))).bind λx3=>(some (u64.wrap ((u64.wrap ((Int.fdiv x1 (2^32))*(bitand .u64 x2 4294967295)))+(Int.fdiv x3 (2^32))))).bind λx4=>(some (u64.wrap ((bitand .u64 x4 4294967295)+(u64.wrap ((bitand .u64 x1 4294967295)*(Int.fdiv x2 (2^32))))))).bind λx5=>(some (u64.wrap ((u64.wrap ((u64.wrap ((Int.fdiv x1 (2^32))*(Int.fdiv x2 (2^32))))+(Int.fdiv x4 (2^32))))+(Int.fdiv x5 (2^32))))).bind λx6=>some (x6,u64.wrap (x1*x2))
theorem zgU (F:Nat) (x1 x2:Int) (w0:World) (r:Int × Int) (M:zeH F x1 x2=some r) :
    Ret P 134 #[Uv x1,Uv x2] w0 (G:=Unit) (λ_=>.tuple #[Uv r.1,Uv r.2]) (λ_ w=>St w0 w noX [] []):=by
 unfold zeH at M; refine roW Tryz.func134 C C C (λa H=>?_); have X:St w0 w0 noX [] []:=Sbw lnn; refine sg (l:=[0,1]) C<|mv2 H C C λa H=>nk<|sg (l:=[0,1,2]) C<|mv H C λa H=>ov (v:=Uv (bitand .u64 x1 4294967295)) H C (Z.bitand C C) λa H=>mv H C λa H=>nk<|sg (l:=[0,1,2]) C<|?_; refine mv H C λa H=>ov (v:=Uv (Int.fdiv x1 (2^32))) H C (Z.shr (q:=32) C C (by decide)) λa H=>mv H C λa H=>nk<|sg (l:=[0,1,2]) C<|mv H C λa H=>ov (v:=Uv (bitand .u64 x2 4294967295)) H C (Z.bitand C C) λa H=>mv H C λa H=>nk<|sg (l:=[0,1,2]) C<|?_; refine mv H C λa H=>ov (v:=Uv (Int.fdiv x2 (2^32))) H C (Z.shr (q:=32) C C (by decide)) λa H=>mv H C λa H=>nk<|sg (l:=[0,1,2,3]) C<|mv2 H C C λa H=>ov H C (Z.mul C C) λa H=>mv H C λa H=>nk<|?_; obtain ⟨x3,hx3,M⟩:=hm_b M; rw [oj hx3] at H; refine sg (l:=[0,1,2,3,4,5,6]) C<|mv2 H C C λa H=>ov H C (Z.mul C C) λa H=>mv H C λa H=>ov (v:=Uv (Int.fdiv x3 (2^32))) H C (Z.shr (q:=32) C C (by decide)) λa H=>ov H C (Z.add C C) λa H=>mv H C λa H=>nk<|?_; obtain ⟨x4,hx4,M⟩:=hm_b M; rw [oj hx4] at H; refine sg (l:=[0,1,2]) C<|mv H C λa H=>ov (v:=Uv (bitand .u64 x4 4294967295)) H C (Z.bitand C C) λa H=>mv H C λa H=>nk<|sg (l:=[0,1,2]) C<|mv H C λa H=>ov (v:=Uv (Int.fdiv x4 (2^32))) H C (Z.shr (q:=32) C C (by decide)) λa H=>mv H C λa H=>nk<|?_; refine sg (l:=[0,1,2,3,4,5]) C<|mv2 H C C λa H=>mv H C λa H=>ov H C (Z.mul C C) λa H=>ov H C (Z.add C C) λa H=>mv H C λa H=>nk<|?_; obtain ⟨x5,hx5,M⟩:=hm_b M; rw [oj hx5] at H; refine sg (l:=[0,1,2,3,4,5,6,7,8]) C<|mv2 H C C λa H=>ov H C (Z.mul C C) λa H=>mv H C λa H=>ov H C (Z.add C C) λa H=>mv H C λa H=>ov (v:=Uv (Int.fdiv x5 (2^32))) H C (Z.shr (q:=32) C C (by decide)) λa H=>ov H C (Z.add C C) λa H=>mv H C λa H=>?_; refine nk ?_; obtain ⟨x6,hx6,M⟩:=hm_b M; rw [oj hx6] at H; refine sg (l:=[0,1,2,3]) C<|mv2 H C C λa H=>ov H C (Z.mul C C) λa H=>mv H C λa H=>nk<|W.ret<|?_; obtain rfl:=oj M; refine post2 H C (rkt C) (rkt C) ?_; exact ⟨(),C,X.noB⟩
def zdu (F:Nat) (x1 x2:Int):Option (Int × Int) :=
  (zeH F (u64.wrap x1) (u64.wrap x2)).bind λx4=>if x1<(0:Int) then (none) else (if x2<(0:Int) then (none) else (some (i64.wrap x4.1,x4.2)))
theorem zed (F:Nat) (x1 x2:Int) (w0:World) (r:Int × Int) (M:zdu F x1 x2=some r) :
    Ret P 104 #[I x1,I x2] w0 (G:=Unit) (λ_=>.agg #[I r.1,Uv r.2]) (λ_ w=>St w0 w noX [] []):=by
 unfold zdu at M; refine roW Tryz.func104 C C C (λa H=>?_); have X:St w0 w0 noX [] []:=Sbw lnn; refine sg (l:=[0]) C<|O.alloc (cs:=#[I 0,Uv 0]) H X C C zb7 C<|?_; intro b3 w a hb3 X H; refine nk<|sg (l:=[0,1,2,3,4,5,6,7,8,9]) C<|mv H C λa H=>ov (v:=Uv (u64.wrap x1)) H C (Z.conv ze4 zaD C) λa H=>mv H C λa H=>ov (v:=Uv (u64.wrap x2)) H C (Z.conv ze4 zaD C) λa H=>?_; refine hb M λx4 hx4 M=>oq H X C zi6 (zgU F (u64.wrap x1) (u64.wrap x2) _ x4 hx4) ?_; rintro _ w X a H; refine mv H C λa H=>ex H C C C λa H=>ex H C C C λa H=>mv2 H C C λa H=>nk<|sg (l:=[0,1,2]) C<|mv H C λa H=>ov (v:=I (i64.wrap x4.1)) H C (Z.conv zaI ze3 C) λa H=>mv H C λa H=>?_; refine nk<|W.seq<|sg (l:=[0,1]) C<|mv H C λa H=>ov H C (Z.lss C C) λa H=>nk<|?_; refine W.ifdI H C (λhc5=>?_) (λhc5=>?_)
 ·nomatch hm_p M hc5
 ·replace M:=hm_n M hc5; refine W.skip<|ksq<|W.seq<|sg (l:=[0,1]) C<|mv H C λa H=>ov H C (Z.lss C C) λa H=>nk<|?_; refine W.ifdI H C (λhc6=>?_) (λhc6=>?_)
  ·nomatch hm_p M hc6
  ·replace M:=hm_n M hc6; refine W.skip<|ksq<|sg (l:=[0,1,2,3]) C<|mv2 H C C λa H=>ov (v:=.agg #[I (i64.wrap x4.1),Uv x4.2]) H C (Z.buildS (cs':=#[I (i64.wrap x4.1),Uv x4.2]) zir zb7 C (by kernel_rfl)) λa H=>ost 0 #[I (i64.wrap x4.1),Uv x4.2] H X C C C zak C C C (bl C) C<|?_; intro w X; refine nk<|W.ret<|?_; obtain rfl:=oj M; refine post1 H C (rkn (cs':=#[I (i64.wrap x4.1),Uv x4.2]) C zcH zak (X.p 0 C) (bl C) C) ?_; replace X:=X.s0; exact ⟨(),C,X.noB⟩
def zbr (F:Nat) (x1 x2 x3 x4:Int):Option Unit :=
  if ((x1 == x3)&&((x2 == x4)&&(true)))=true then (some ()) else (if ((decide (x1<(x3:Int)))||((decide (x1=(x3:Int)))&&(decide (x2<(x4:Int)))))=true then (none) else (none))
theorem zbI (F:Nat) (x1 x2 x3 x4:Int) (w0:World) (r:Unit) (M:zbr F x1 x2 x3 x4=some r) :
    Ret P 135 #[.agg #[I x1,Uv x2],.agg #[I x3,Uv x4]] w0 (G:=Unit) (λ_=>I 0) (λ_ w=>St w0 w noX [] []):=by
 unfold zbr at M; refine roW Tryz.func135 C C C (λa H=>?_); have X:St w0 w0 noX [] []:=Sbw lnn; refine sg (l:=[0,1,2]) C<|O.box (cs:=#[I x1,Uv x2]) H X C C C C<|?_; intro b5 w a hb5 X H; refine O.box (cs:=#[I x3,Uv x4]) H X C C C C ?_; intro b6 w a hb6 X H; refine mv H C λa H=>nk<|W.seq<|W.block<|sg (l:=[0,1,2,3]) C<|ov H C (lN (cs':=#[I x1,Uv x2]) A_174 C (X.p 1 C) C C) λa H=>ov H C (lN (cs':=#[I x3,Uv x4]) A_174 C (X.p 0 C) C C) λa H=>ov (v:=B ((x1 == x3)&&((x2 == x4)&&(true)))) H C (Z.eqAgg (d:=10) C ziQ C C (EqR.struct (d:=9999) zji (EqL.cons (PartR.one (v:=I x1) zaf C) (PartR.one (v:=I x3) zaf C) (EqR.int (d:=9998) ze3) (EqL.cons (PartR.one (v:=Uv x2) zdi C) (PartR.one (v:=Uv x4) zdi C) (EqR.int (d:=9998) zaD) EqL.nil)))) λa H=>mv H C λa H=>nk<|?_; refine W.if_ H C (λhc7=>?_) (λhc7=>?_)
 ·replace M:=hm_t M hc7; refine sg (l:=[0]) C<|mv H C λa H=>nk<|?_; replace X:=X.s0; refine W.ret<|kbr<|ktr<|?_; obtain rfl:=oj M; refine post1 H C (rkt C) ?_; exact ⟨(),C,X.noB⟩
 ·replace M:=hm_f M hc7; refine sg (l:=[0,1,2,3,4,5,6,7,8,9,10,11,12,13,14,15,16,17,18,19]) C<|ov H C (Z.field zbk C C) λa H=>ov H C (Z.load1 zaf C (X.p 1 C) C) λa H=>ov H C (Z.field zbk C C) λa H=>ov H C (Z.load1 zaf C (X.p 0 C) C) λa H=>ov H C (Z.lss C C) λa H=>mv H C λa H=>?_; refine O.cutN (l₁:=[6,7,8,9,10,11,12,13,14,15,16,17,18]) (l₂:=_) (λa w=>Fr a 29 [] [(4,I 0),(28,B ((decide (x1<(x3:Int)))||((decide (x1=(x3:Int)))&&(decide (x2<(x4:Int))))))]∧St w0 w noX [] [pt b6 (Cs #[I x3,Uv x4] 174),pt b5 (Cs #[I x1,Uv x2] 174)]) C ?_ ?_
  ·rcases Bool.eq_false_or_eq_true (decide (x1<(x3:Int))) with hb8 | hb8
   ·refine sk H C hb8 λa H=>sk H C hb8 λa H=>sk H C hb8 λa H=>sk H C hb8 λa H=>sk H C hb8 λa H=>sk H C hb8 λa H=>O.skipU H C C C C λa H=>O.skipU H C C C C λa H=>O.skipU H C C C C λa H=>O.skipU H C C C C λa H=>?_; refine O.skipU H C C C C λa H=>sk H C hb8 λa H=>?_; refine ov (v:=B ((decide (x1<(x3:Int)))||((decide (x1=(x3:Int)))&&(decide (x2<(x4:Int)))))) H C (Z.pick C C C (by rw [hb8]; rfl)) ?_; clear H a; intro a H; exact O.nil ⟨C,H.q C,X⟩
   ·refine og H C hb8 (Z.field zbk C C) λa H=>og H C hb8 (Z.load1 zaf C (X.p 1 C) C) λa H=>og H C hb8 (Z.field zbk C C) λa H=>og H C hb8 (Z.load1 zaf C (X.p 0 C) C) λa H=>og H C hb8 (Z.eql C C) λa H=>og H C hb8 (Z.move C) λa H=>?_; refine O.cutN (l₁:=[12,13,14,15,16,17]) (l₂:=_) (λa w=>Fr a 29 [] [(2,Pv b5 0),(3,Pv b6 0),(4,I 0),(5,B ((x1 == x3)&&((x2 == x4)&&(true)))),(10,Pv b5 0),(11,I x1),(12,Pv b6 0),(13,I x3),(14,B (decide (x1<(x3:Int)))),(15,B (decide (x1<(x3:Int)))),(16,Pv b5 0),(17,I x1),(18,Pv b6 0),(19,I x3),(20,B (decide (x1=(x3:Int)))),(21,B (decide (x1=(x3:Int)))),(27,B ((decide (x1=(x3:Int)))&&(decide (x2<(x4:Int)))))]∧St w0 w noX [] [pt b6 (Cs #[I x3,Uv x4] 174),pt b5 (Cs #[I x1,Uv x2] 174)]) C ?_ ?_
    ·rcases Bool.eq_false_or_eq_true (decide (x1=(x3:Int))) with hb9 | hb9
     ·refine og H C hb9 (Z.field zeN C C) λa H=>og H C hb9 (Z.load1 zdi C (X.p 1 C) C) λa H=>og H C hb9 (Z.field zeN C C) λa H=>og H C hb9 (Z.load1 zdi C (X.p 0 C) C) λa H=>og H C hb9 (Z.lss C C) λa H=>?_; refine og (v:=B ((decide (x1=(x3:Int)))&&(decide (x2<(x4:Int))))) H C hb8 (Z.pick C C C (by rw [hb9]; rfl)) ?_; clear H a; intro a H; exact O.nil ⟨C,H.q C,X⟩
     ·refine sk H C hb9 λa H=>sk H C hb9 λa H=>sk H C hb9 λa H=>sk H C hb9 λa H=>sk H C hb9 λa H=>?_; refine og (v:=B ((decide (x1=(x3:Int)))&&(decide (x2<(x4:Int))))) H C hb8 (Z.pick C C C (by rw [hb9]; rfl)) ?_; clear H a; intro a H; exact O.nil ⟨C,H.q C,X⟩
    clear H X a; (try clear w); rintro a w ⟨H,X⟩; refine ov (v:=B ((decide (x1<(x3:Int)))||((decide (x1=(x3:Int)))&&(decide (x2<(x4:Int)))))) H C (Z.pick C C C (by rw [hb8]; rfl)) ?_; clear H a; intro a H; exact O.nil ⟨C,H.q C,X⟩
  clear H X a; (try clear w); rintro a w ⟨H,X⟩; refine mv H C λa H=>nk<|?_; replace X:=X.s0; refine W.if_ H C (λhc10=>?_) (λhc10=>?_)
  ·nomatch hm_t M hc10
  ·replace M:=hm_f M hc10; refine W.skip<|kbn<|ksq<|?_; nomatch M
def zeI (F:Nat) :Option Unit :=
  some ()
def zfO (F:Nat) (x1 x2 x4 x5 x6 x7 x8 x9 x10 x11:Int):Option Unit :=
  (zbr F x6 x7 x1 x2).bind λx15=>(zbr F x8 x9 x1 x2).bind λx17=>(zbr F x10 x11 x1 x2).bind λx19=>zeI F
theorem zhu (F:Nat) (x1 x2:Int) (b3:Nat) (x4 x5 x6 x7 x8 x9 x10 x11:Int) (w0:World) (h_b3:w0.heap[b3]? = some (.cells #[I x4,Uv x5,I x6,Uv x7,I x8,Uv x9,I x10,Uv x11] 175 (0,0))) (r:Unit) (M:zfO F x1 x2 x4 x5 x6 x7 x8 x9 x10 x11=some r) :
    Ret P 105 #[.agg #[I x1,Uv x2],.slice (some ⟨b3,2,none⟩) 3 3] w0 (G:=Unit) (λ_=>.agg #[I x1,Uv x2]) (λ_ w=>St w0 w noX [] []):=by
 unfold zfO at M; refine roW Tryz.func105 C C C (λa H=>?_); have X:St w0 w0 noX [pt b3 (Cs #[I x4,Uv x5,I x6,Uv x7,I x8,Uv x9,I x10,Uv x11] 175)] []:=Sbw (lnc (lendPt h_b3) lnn); refine sg (l:=[0,1]) C<|O.box (cs:=#[I x1,Uv x2]) H X C C C C<|?_; intro b12 w a hb12 X H; refine O.alloc (cs:=#[I 0,Uv 0]) H X C C zb7 C ?_; intro b13 w a hb13 X H; refine nk ?_; refine W.seqR (λa w=>Fr a 20 [] [(2,Pv b12 0),(4,Pv b13 0)]∧St w0 w noX [pt b3 (Cs #[I x4,Uv x5,I x6,Uv x7,I x8,Uv x9,I x10,Uv x11] 175)] [pt b12 (Cs #[I x1,Uv x2] 174),pt b13 (Cs #[I 0,Uv 0] 174)]∧zeI F=some r) ?_ ?_
 ·refine sg (l:=[0,1,2]) C<|mv H C λa H=>ov (v:=I 3) H C (Z.len (e:=174) (by simpa using zc9) C) λa H=>mv H C λa H=>nk<|W.block<|?_; refine W.loopH (LH.step ?_); refine sg (l:=[0]) C<|ov H C (Z.lss (p:=0) (q:=3) C C) λa H=>nk<|W.seq<|W.if_tt H C<|W.skip<|ksq<|W.seq<|W.block<|sg (l:=[0,1,2,3]) C<|?_; refine ov H C (Z.indexSl (j:=0) (m:=2) zc9 zak C C C (by decide) C) λa H=>ov H C (Z.loadN (cs':=#[I x6,Uv x7]) zcH zak C (X.bptAt (i:=0) C) (bl C) C) λa H=>O.alloc (cs:=#[I 0,Uv 0]) H X C C zb7 C<|?_; intro b14 w a hb14 X H; refine ost 0 #[I x6,Uv x7] H X C C C zak C C C (bl C) C ?_; intro w X; refine nk<|sg (l:=[0,1,2,3]) C<|ov H C (lN (cs':=#[I x6,Uv x7]) A_174 C (X.p 0 C) C C) λa H=>ov H C (lN (cs':=#[I x1,Uv x2]) A_174 C (X.p 2 C) C C) λa H=>?_; refine hb M λx15 hx15 M=>oq H X C zfA (zbI F x6 x7 x1 x2 _ x15 hx15) ?_; rintro _ w X a H; refine ov H C (Z.lss (p:=0) (q:=0) C C) λa H=>nk<|W.if_ff H C<|W.skip<|kbn<|ksq<|?_; replace X:=X.sl [0,1,1]; refine wrL (l:=[0,1]) C<|ov H C (Z.add (p:=0) (q:=1) C C) λa H=>mv H C λa H=>O.nil<|?_; refine kth (LH.step ?_); refine sg (l:=[0]) C<|ov H C (Z.lss (p:=1) (q:=3) C C) λa H=>nk<|W.seq<|W.if_tt H C<|W.skip<|ksq<|W.seq<|W.block<|sg (l:=[0,1,2,3]) C<|?_; refine ov H C (Z.indexSl (j:=1) (m:=4) zc9 zak C C C (by decide) C) λa H=>ov H C (Z.loadN (cs':=#[I x8,Uv x9]) zcH zak C (X.bptAt (i:=0) C) (bl C) C) λa H=>O.alloc (cs:=#[I 0,Uv 0]) H X C C zb7 C<|?_; intro b16 w a hb16 X H; refine ost 0 #[I x8,Uv x9] H X C C C zak C C C (bl C) C ?_; intro w X; refine nk<|sg (l:=[0,1,2,3]) C<|ov H C (lN (cs':=#[I x8,Uv x9]) A_174 C (X.p 0 C) C C) λa H=>ov H C (lN (cs':=#[I x1,Uv x2]) A_174 C (X.p 2 C) C C) λa H=>?_; refine hb M λx17 hx17 M=>oq H X C zfA (zbI F x8 x9 x1 x2 _ x17 hx17) ?_; rintro _ w X a H; refine ov H C (Z.lss (p:=0) (q:=0) C C) λa H=>nk<|W.if_ff H C<|W.skip<|kbn<|ksq<|?_; replace X:=X.sl [0,1,1]; refine wrL (l:=[0,1]) C<|ov H C (Z.add (p:=1) (q:=1) C C) λa H=>mv H C λa H=>O.nil<|?_; refine kth (LH.step ?_); refine sg (l:=[0]) C<|ov H C (Z.lss (p:=2) (q:=3) C C) λa H=>nk<|W.seq<|W.if_tt H C<|W.skip<|ksq<|W.seq<|W.block<|sg (l:=[0,1,2,3]) C<|?_; refine ov H C (Z.indexSl (j:=2) (m:=6) zc9 zak C C C (by decide) C) λa H=>ov H C (Z.loadN (cs':=#[I x10,Uv x11]) zcH zak C (X.bptAt (i:=0) C) (bl C) C) λa H=>O.alloc (cs:=#[I 0,Uv 0]) H X C C zb7 C<|?_; intro b18 w a hb18 X H; refine ost 0 #[I x10,Uv x11] H X C C C zak C C C (bl C) C ?_; intro w X; refine nk<|sg (l:=[0,1,2,3]) C<|ov H C (lN (cs':=#[I x10,Uv x11]) A_174 C (X.p 0 C) C C) λa H=>ov H C (lN (cs':=#[I x1,Uv x2]) A_174 C (X.p 2 C) C C) λa H=>?_; refine hb M λx19 hx19 M=>oq H X C zfA (zbI F x10 x11 x1 x2 _ x19 hx19) ?_; rintro _ w X a H; refine ov H C (Z.lss (p:=0) (q:=0) C C) λa H=>nk<|W.if_ff H C<|W.skip<|kbn<|ksq<|?_; replace X:=X.sl [0,1,1]; refine wrL (l:=[0,1]) C<|ov H C (Z.add (p:=2) (q:=1) C C) λa H=>mv H C λa H=>O.nil<|?_; refine kth (LH.step ?_); refine sg (l:=[0]) C<|ov H C (Z.lss (p:=3) (q:=3) C C) λa H=>nk<|W.seq<|W.if_ff H C<|W.exit<|kte<|kte<|kbk<|?_; replace X:=X.fr 1; exact kth ⟨H.q C,X,M⟩
 ·clear H X M a; (try clear w); rintro a w ⟨H,X,M⟩; unfold zeI at M; refine sg (l:=[0,1]) C<|ov H C (lN (cs':=#[I x1,Uv x2]) A_174 C (X.p 0 C) C C) λa H=>ost 1 #[I x1,Uv x2] H X C C C zak C C C (bl C) C<|?_; intro w X; refine nk ?_; replace X:=X.sl [0,1]; refine W.ret ?_; obtain rfl:=oj M; refine post1 H C (rkn (cs':=#[I x1,Uv x2]) C zcH zak (X.p 0 C) (bl C) C) ?_; replace X:=X.s0; exact ⟨(),C,X.noB⟩
def zcC (F:Nat) (x6 x7:Int):Option Int :=
  (strIdx strc1 (IntKind.u8.wrap x6)).bind λx8=>(some (i64.wrap (x7+(i64.wrap x8)))).bind λx9=>some x9
def zcD (F:Nat) (x4 x5:Int):Option Int :=
  if x4≥(256:Int) then (zcC F (Int.fdiv x4 (2^8)) (i64.wrap (x5+8))) else (zcC F x4 x5)
def zcE (F:Nat) (x2 x3:Int):Option Int :=
  if x2≥(65536:Int) then (zcD F (Int.fdiv x2 (2^16)) (i64.wrap (x3+16))) else (zcD F x2 x3)
def zdn (F:Nat) (x1:Int):Option Int :=
  if x1≥(4294967296:Int) then (zcE F (Int.fdiv x1 (2^32)) 32) else (zcE F x1 0)
theorem zfo (F:Nat) (x1:Int) (w0:World) (r:Int) (M:zdn F x1=some r) :
    Ret P 30 #[Uv x1] w0 (G:=Unit) (λ_=>I r) (λ_ w=>St w0 w noX [] []):=by
 unfold zdn at M; refine roW Tryz.func30 C C C (λa H=>?_); have X:St w0 w0 noX [] []:=Sbw lnn; refine sg (l:=[0]) C<|mv H C λa H=>nk<|?_; refine W.seqR (λa w=>∃ (x2:Int) (x3:Int),Fr a 25 [] [(0,Uv x2),(2,I x3)]∧St w0 w noX [] []∧zcE F x2 x3=some r) ?_ ?_
 ·refine sg (l:=[0,1]) C<|mv H C λa H=>ov H C (Z.geq C C) λa H=>nk<|?_; refine W.ifdI H C (λhc12=>?_) (λhc12=>?_)
  ·replace M:=hm_p M hc12; refine sg (l:=[0,1,2]) C<|mv H C λa H=>ov (v:=Uv (Int.fdiv x1 (2^32))) H C (Z.shr (q:=32) C C (by decide)) λa H=>mv H C λa H=>nk<|wrL (l:=[0]) C<|mv H C λa H=>O.nil<|?_; exact kth ⟨Int.fdiv x1 (2^32),32,H.q C,X,M⟩
  ·replace M:=hm_n M hc12; refine W.skip ?_; exact kth ⟨x1,0,H.q C,X,M⟩
 ·clear H X M a; (try clear w); rintro a w ⟨x2,x3,H,X,M⟩; unfold zcE at M; refine W.seqR (λa w=>∃ (x4:Int) (x5:Int),Fr a 25 [] [(0,Uv x4),(2,I x5)]∧St w0 w noX [] []∧zcD F x4 x5=some r) ?_ ?_
  ·refine sg (l:=[0,1]) C<|mv H C λa H=>ov H C (Z.geq C C) λa H=>nk<|?_; refine W.ifdI H C (λhc11=>?_) (λhc11=>?_)
   ·replace M:=hm_p M hc11; refine sg (l:=[0,1,2]) C<|mv H C λa H=>ov (v:=Uv (Int.fdiv x2 (2^16))) H C (Z.shr (q:=16) C C (by decide)) λa H=>mv H C λa H=>nk<|wrL (l:=[0,1,2]) C<|mv H C λa H=>ov H C (Z.add C C) λa H=>mv H C λa H=>O.nil<|?_; exact kth ⟨Int.fdiv x2 (2^16),i64.wrap (x3+16),H.q C,X,M⟩
   ·replace M:=hm_n M hc11; refine W.skip ?_; exact kth ⟨x2,x3,H.q C,X,M⟩
  ·clear H X M a; (try clear w); rintro a w ⟨x4,x5,H,X,M⟩; unfold zcD at M; refine W.seqR (λa w=>∃ (x6:Int) (x7:Int),Fr a 25 [] [(0,Uv x6),(2,I x7)]∧St w0 w noX [] []∧zcC F x6 x7=some r) ?_ ?_
   ·refine sg (l:=[0,1]) C<|mv H C λa H=>ov H C (Z.geq C C) λa H=>nk<|?_; refine W.ifdI H C (λhc10=>?_) (λhc10=>?_)
    ·replace M:=hm_p M hc10; refine sg (l:=[0,1,2]) C<|mv H C λa H=>ov (v:=Uv (Int.fdiv x4 (2^8))) H C (Z.shr (q:=8) C C (by decide)) λa H=>mv H C λa H=>nk<|wrL (l:=[0,1,2]) C<|mv H C λa H=>ov H C (Z.add C C) λa H=>mv H C λa H=>O.nil<|?_; exact kth ⟨Int.fdiv x4 (2^8),i64.wrap (x5+8),H.q C,X,M⟩
    ·replace M:=hm_n M hc10; refine W.skip ?_; exact kth ⟨x4,x5,H.q C,X,M⟩
   ·clear H X M a; (try clear w); rintro a w ⟨x6,x7,H,X,M⟩; unfold zcC at M; refine sg (l:=[0,1,2,3,4,5,6]) C<|mv2 H C C λa H=>ov (v:=.int .u8 (IntKind.u8.wrap x6)) H C (Z.conv zaI ziE C) λa H=>?_; refine hb M λx8 hx8 M=>ov H C (Z.indexStr zgM C C hx8) λa H=>ov (v:=I (i64.wrap x8)) H C (Z.conv ziG ziD C) λa H=>ov H C (Z.add C C) λa H=>mv H C λa H=>nk<|?_; obtain ⟨x9,hx9,M⟩:=hm_b M; rw [oj hx9] at H; refine W.ret ?_; obtain rfl:=oj M; refine post1 H C (rkt C) ?_; exact ⟨(),C,X.noB⟩
def zcu (F:Nat) (x1:Int):Option Int :=
  (zdn F x1).bind λx2=>some (i64.wrap (64-x2))
theorem zfy (F:Nat) (x1:Int) (w0:World) (r:Int) (M:zcu F x1=some r) :
    Ret P 154 #[Uv x1] w0 (G:=Unit) (λ_=>I r) (λ_ w=>St w0 w noX [] []):=by
 unfold zcu at M; refine roW Tryz.func154 C C C (λa H=>?_); have X:St w0 w0 noX [] []:=Sbw lnn; refine sg (l:=[0]) C<|mv H C λa H=>nk<|sg (l:=[0,1,2,3]) C<|mv H C λa H=>?_; refine hb M λx2 hx2 M=>oq H X C ziv (zfo F x1 _ x2 hx2) ?_; rintro _ w X a H; refine ov H C (Z.sub C C) λa H=>mv H C λa H=>nk<|W.ret<|?_; obtain rfl:=oj M; refine post1 H C (rkt C) ?_; exact ⟨(),C,X.noB⟩
def zcF (F:Nat) (x10 x21 x23 x17 x12 x27:Int):Option (Int × Int) :=
  if 0≤(u64.wrap x10) then (some (u64.wrap ((u64.wrap (x21*4294967296))+x27))).bind λx29=>(some (Int.fdiv (u64.wrap ((u64.wrap ((u64.wrap (x23*4294967296))+(bitand .u64 x17 4294967295)))-(u64.wrap (x27*x12)))) (2^(min (Int.toNat (u64.wrap x10)) (IntKind.bits .u64))))).bind λx30=>some (x29,x30) else none
end Go.Proofs.YtfaflenaajafgaaGreatDoor
