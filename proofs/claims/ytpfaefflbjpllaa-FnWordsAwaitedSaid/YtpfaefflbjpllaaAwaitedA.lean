/- The law FnWordsAwaited. Conditions: what is stated. -/
import Derived.Test.YtpfaefflbjpllaaAwaitedB
namespace Go.Proofs.Ytpfaefflbjpllaa
open Go.ChangeShapes Go.WideShapes Go.ChangeAt Go.RowKit

set_option maxRecDepth 1000000 in
theorem partBK (A1 : Option Addr) (n1 c1 : Nat) (x1 : List Int) (gw n cw s S g2 cc2 : Nat) (ws : List Int) {s0 s2 s3 s4 s8 s9 s11 s13 s16 s17 s18 s19 s20 s21 s22 s23 s24 s25 s26 s27 s28 s29 s30 s31 s32 s33 s34 s35 s36 s37 s38 s39 s40 s41 s42 s43 s44 s45 s46 s47 s48 s49 s50 s51 s52 s53 s54 s55 s56 s57 s58 s59 s60 s61 s62 s63 s64 s65 s66 s67 s68 s69 s70 s71 s72 s73 s74 s75 s76 s77 s78 s79 s80 s81 s82 s83 s84 s85 s86 s87 s88 s89 s90 s91 s92 s93 s94 s95 s96 s97 s98 s99 s100 s101 s102 s103 s104 s105 s106 s107 s108 s109 s110 s111 s112 s113 s114 s115 s116 s117 s118 s119 s120 s121 s122 s123 s124 s125 s126 s127 s128 s129 s130 s131 s132 s133 s134 s135 s136 s137 s138 s139 s140 s141 s142 s143 s144 s145 s146 s147 s148 s149 s150 s151 s152 s153 s154 s155 s156 s157 s158 s159 s160 s161 s162 s163 s164 s165 s166 s167 s168 s169 s170 s171 s172 s173 s174 s175 s176 s177 s178 s179 s180 s181 s182 s183 s184 s185 s186 s187 s188 s189 s190 s191 s192 s193 s194 s195 s196 s197 s198 s199 s200 s201 s202 s203 s204 s205 s206 s207 s208 s209 s210 s211 s212 s213 s214 s215 s216 s217 s218 s219 s220 s221 s222 s223 s224 s225 s226 s227 s228 s229 s230 s231 s232 s233 s234 s235 s236 s237 s238 s239 s240 s241 s242 s243 s244 s245 s246 s247 s248 s249 s250 s251 s252 s253 s254 s255 s256 s257 s258 s259 s260 s261 s262 s263 s264 s265 s266 s267 s268 s269 s270 s271 s272 s273 s274 s275 s276 s277 s278 s279 s280 s281 s282 s283 s284 s285 s286 s287 s288 s289 s290 s291 s292 s293 s294 s295 s296 s297 s298 s299 s300 s301 s302 s303 s304 s305 s306 s307 s308 s309 s310 s311 s312 s313 s314 s315 s316 s317 s318 s319 s320 s321 s322 s323 s324 s325 s326 s327 s328 s329 s330 s331 s332 s333 s334 s335 s336 s337 s338 : Value} (w w7 : World) (hr1 : RdU w A1 n1 x1) (hn48 : n1 ≤ 48) (hwd0 : wordB ws (s : Int) = true) (hl0 : ws.length = n) (hn1 : 1 ≤ n) (hn6 : n ≤ 6)
    (hs2 : 2 ≤ s) (hs3 : s ≤ 3) (hS : S ≤ 26121388032) (d0 : w7.cell? ⟨g2, 0, none⟩ = some (.int .i64 (S : Int))) (d1 : w7.cell? ⟨g2, 1, none⟩ = some (.int .i64 (s : Int))) (hv : RV w7 (.slice (some ⟨gw, 0, none⟩) n cw) ws) (hb : Below w.heap.size w w7) (K : Act → World → Prop)
    (hK : ∀ (a : Act) (w9 : World), Code.wp Try.prog ((Try.f10.body.bind (sufK 18)).getD .skip) (bodyPost Try.prog Try.f10 fun e w9 => e = .returned (.bool true) ∧ Below w.heap.size w w9)  a w9 → K a w9) : K ⟨#[s0, .slice A1 n1 c1, s2, s3, s4, .int .i64 (n : Int), .int .i64 (s : Int), .slice (some ⟨gw, 0, none⟩) n cw, s8, s9, .int .i64 (S : Int), s11, .int .i64 (S : Int), s13, .slice (some ⟨g2, 0, none⟩) 2 cc2, .bool true, s16, s17, s18, s19, s20, s21, s22, s23, s24, s25, s26, s27, s28, s29, s30, s31, s32, s33, s34, s35, s36, s37, s38, s39, s40, s41, s42, s43, s44, s45, s46, s47, s48, s49, s50, s51, s52, s53, s54, s55, s56, s57, s58, s59, s60, s61, s62, s63, s64, s65, s66, s67, s68, s69, s70, s71, s72, s73, s74, s75, s76, s77, s78, s79, s80, s81, s82, s83, s84, s85, s86, s87, s88, s89, s90, s91, s92, s93, s94, s95, s96, s97, s98, s99, s100, s101, s102, s103, s104, s105, s106, s107, s108, s109, s110, s111, s112, s113, s114, s115, s116, s117, s118, s119, s120, s121, s122, s123, s124, s125, s126, s127, s128, s129, s130, s131, s132, s133, s134, s135, s136, s137, s138, s139, s140, s141, s142, s143, s144, s145, s146, s147, s148, s149, s150, s151, s152, s153, s154, s155, s156, s157, s158, s159, s160, s161, s162, s163, s164, s165, s166, s167, s168, s169, s170, s171, s172, s173, s174, s175, s176, s177, s178, s179, s180, s181, s182, s183, s184, s185, s186, s187, s188, s189, s190, s191, s192, s193, s194, s195, s196, s197, s198, s199, s200, s201, s202, s203, s204, s205, s206, s207, s208, s209, s210, s211, s212, s213, s214, s215, s216, s217, s218, s219, s220, s221, s222, s223, s224, s225, s226, s227, s228, s229, s230, s231, s232, s233, s234, s235, s236, s237, s238, s239, s240, s241, s242, s243, s244, s245, s246, s247, s248, s249, s250, s251, s252, s253, s254, s255, s256, s257, s258, s259, s260, s261, s262, s263, s264, s265, s266, s267, s268, s269, s270, s271, s272, s273, s274, s275, s276, s277, s278, s279, s280, s281, s282, s283, s284, s285, s286, s287, s288, s289, s290, s291, s292, s293, s294, s295, s296, s297, s298, s299, s300, s301, s302, s303, s304, s305, s306, s307, s308, s309, s310, s311, s312, s313, s314, s315, s316, s317, s318, s319, s320, s321, s322, s323, s324, s325, s326, s327, s328, s329, s330, s331, s332, s333, s334, s335, s336, s337, s338], []⟩ w7 := by
  refine hK _ _ ?_
  exact partB A1 n1 c1 x1 gw n cw s S g2 cc2 ws w w7 hr1 hn48 hwd0 hl0 hn1 hn6 hs2 hs3 hS d0 d1 hv hb

set_option maxRecDepth 1000000 in
set_option maxHeartbeats 6400000 in
theorem lawAwaited (A0 A1 : Option Addr) (c0 c1 : Nat) (x0 x1 : List Int) (w : World) (hr0 : RdU w A0 x0.length x0) (hr1 : RdU w A1 x1.length x1) :
    Calls Try.prog 10 #[.slice A0 x0.length c0, .slice A1 x1.length c1] w fun e w' => e = .returned (.bool true) ∧ Below w.heap.size w w' := by
  have HL := Lib.hid (fun W => rLong A0 A1 x0.length x1.length c0 c1 W)
  by_cases hlong : 48 < x0.length ∨ 48 < x1.length
  · have e : (decide (48 < x0.length) || decide (48 < x1.length)) = true := by simpa using hlong
    rw [e] at HL
    clear hlong e hr0 hr1
    go_enter Try.func10, Try.ntmps10
    go_wp2_with (go_at_call 33; refine (HL.out _).mono ?_; rintro e w' ⟨rfl, rfl⟩)
    go_ret
    exact ⟨rfl, Below.refl _ _⟩
  have e : (decide (48 < x0.length) || decide (48 < x1.length)) = false := by simp; omega
  rw [e] at HL
  have hn0 : x0.length ≤ 48 := by omega
  have hn1 : x1.length ≤ 48 := by omega
  have HC1 := Lib.hid (fun W i k (hb : Below w.heap.size w W) a b c d => rAt A1 x1.length c1 x1 i k W (hr1.below hb) hn1 a b c d)
  have HW0 := Lib.hid (fun W N m (hb : Below w.heap.size w W) a b c => sBelow A0 x0.length c0 N m x0 W (hr0.below hb) (by omega) a b c)
  have HW1 := Lib.hid (fun W N m (hb : Below w.heap.size w W) a b c => sBelow A1 x1.length c1 N m x1 W (hr1.below hb) (by omega) a b c)
  have HR1 := hide hr1
  have Hn48 := hide hn1
  clear hlong e hr0 hr1 hn0 hn1
  generalize x0.length = n0 at *
  generalize x1.length = n1 at *
  go_enter Try.func10, Try.ntmps10
  go_wp2_with fail
  refine (HL.out _).mono ?_
  rintro e w' ⟨rfl, rfl⟩
  have hb0 : Below w.heap.size w w := Below.refl _ _
  go_wp2_with fail
  refine (HC1.out _ 40 6 hb0 (by omega) (by omega) (by omega) (by omega)).mono ?_
  rintro e w' ⟨⟨n', rfl, hn'⟩, rfl⟩
  obtain ⟨n, hn⟩ : ∃ n : Nat, n = 1 + n' := ⟨_, rfl⟩
  have en : (1 : Int) + (n' : Int) = (n : Int) := by omega
  have hn1' : 1 ≤ n := by omega
  have hn6 : n ≤ 6 := by omega
  clear hn hn'
  go_wp2_with fail
  refine (HC1.out _ 41 2 hb0 (by omega) (by omega) (by omega) (by omega)).mono ?_
  rintro e w' ⟨⟨s', rfl, hs'⟩, rfl⟩
  obtain ⟨s, hs⟩ : ∃ s : Nat, s = 2 + s' := ⟨_, rfl⟩
  have es : (2 : Int) + (s' : Int) = (s : Int) := by omega
  have hs2 : 2 ≤ s := by omega
  have hs3 : s ≤ 3 := by omega
  clear hs hs'
  go_wp2_with fail
  refine (HW0.out _ n s hb0 (by omega) hs2 (by omega)).mono ?_
  rintro e w1 ⟨v, ws, rfl, ho, hl, hin, b1⟩
  obtain ⟨gw, cw, rfl, hcw, hgw, hlw, hcellw⟩ := formN ho hl (by omega)
  have z1 := b1.size
  have hwd : wordB ws (s : Int) = true := word_of hin hl hn1' (by omega) hs2 (by omega)
  have hwd6 : wordB ws 6 = true := word_of (s := 6) (fun x hx => by have := hin x hx; omega) hl hn1' (by omega) (by omega) (by omega)
  have hwf : (Lit.int .i64 (s : Int)).wf = true := WalkArith.wf_i64 (by omega)
  have hrb : RWordBorders ws = (ov ws ws ws.length, true) := by rw [RWordBorders, if_pos hwd6]
  have hrw : RWordWait ws (s : Int) = (((psum s 0 (ov ws ws ws.length) : Nat) : Int), true) := by rw [RWordWait, if_pos hwd]; rfl
  have HB := Lib.hid (iWordBorders _ ws w1 ho.rv (by omega))
  rw [hrb] at HB
  have Ho := hide ho
  have hos := ov_self (xs := ws) (by omega)
  have hoa : ∀ i, i < (ov ws ws ws.length).length → ∃ l : Nat, (ov ws ws ws.length).getD i 0 = (l : Int) ∧ 1 ≤ l ∧ l ≤ n ∧ endsB ws ws l = true := fun i hi => by
    obtain ⟨l, h1, h2, h3, h4⟩ := ov_at hi
    exact ⟨l, h1, h2, by omega, h4⟩
  have hou := ov_up ws ws ws.length
  have hol := ov_len ws ws ws.length
  have hps : psum s 0 (ov ws ws ws.length) ≤ 26121388032 := by
    have h1 := psum_le (off := 0) (s := s) (by omega) (ov ws ws ws.length) (fun l h => by have := ov_mem h; omega)
    have h3 : (ov ws ws ws.length).length * 2176782336 ≤ 12 * 2176782336 := Nat.mul_le_mul_right _ (by omega)
    omega
  have hpb : ∀ k, psum s 0 ((ov ws ws ws.length).take k) ≤ 26121388032 := fun k => by
    have h1 := psum_le (off := 0) (s := s) (by omega) ((ov ws ws ws.length).take k) (fun l h => by have := ov_mem (List.mem_of_mem_take h); omega)
    have h2 : ((ov ws ws ws.length).take k).length ≤ 12 := by rw [List.length_take]; omega
    have h3 : ((ov ws ws ws.length).take k).length * 2176782336 ≤ 12 * 2176782336 := Nat.mul_le_mul_right _ h2
    omega
  have hpst := fun k hk => psum_step s 0 (ov ws ws ws.length) k hk
  have hpsl : psum s 0 ((ov ws ws ws.length).take (ov ws ws ws.length).length) = psum s 0 (ov ws ws ws.length) := by rw [List.take_length]
  have Hwd := hide hwd
  have Hhl := hide hl
  have Hin := hide hin
  rw [hl] at hos hol
  have HWt := Lib.hid (fun W (h : RV W (.slice (some ⟨gw, 0, none⟩) n cw) ws) => iWordWait _ ws (s : Int) W h (by omega) hwf)
  have HWd := Lib.hid (fun W (h : RV W (.slice (some ⟨gw, 0, none⟩) n cw) ws) => iWordV _ ws (s : Int) W h (by omega))
  rw [hrw] at HWt
  rw [hwd] at HWd
  rw [hl] at HB HWt hoa hou hps hpst hpsl hpb hrw
  clear hrb hwd hwd6 hl hin ho
  generalize ov ws ws n = bs at *
  obtain ⟨K, hK⟩ : ∃ K, K = bs.length := ⟨_, rfl⟩
  have HK := hide hK
  rw [← hK] at hos hol hoa hou hpst hpsl
  obtain ⟨S, hS⟩ : ∃ S, S = psum s 0 bs := ⟨_, rfl⟩
  rw [← hS] at HWt hps hpsl hrw
  have HrW := hide hrw
  clear hrw
  have Hoa := Lib.hid hoa
  have Hou := Lib.hid hou
  have Hpst := Lib.hid hpst
  have Hpb := Lib.hid hpb
  have Hpsl := hide hpsl
  have Hlast := hide hos.2
  have hK0 := hos.1
  clear hS hpst hpsl hoa hou hos hK hpb
  go_wp2_with fail
  refine HB.out.mono ?_
  rintro e w2 ⟨r, rfl, hor, b2⟩
  have z2 := b2.size
  have hrv2 := (Ho.out.below b2).rv
  obtain ⟨gb, cb, rfl, hcb, hgb, hlb, hcellb⟩ := formN hor (by rw [← HK.out]) hK0
  have Hcb := Lib.hid hcellb
  clear hor hcellb
  go_wp2_with fail
  refine (HWt.out _ hrv2).mono ?_
  rintro e w3 ⟨rfl, b3⟩
  have z3 := b3.size
  go_wp2_with fail
  refine (HWd.out _ (hrv2.below b3)).mono ?_
  rintro e w4 ⟨rfl, b4⟩
  have b24 := b3.trans (b4.mono z3)
  have clast := (b24.cell (p := ⟨gb, K - 1, none⟩) hgb).trans (Hcb.out (K - 1) (by omega))
  rw [Hlast.out] at clast
  have B4 := hide (b1.trans ((b2.trans (b24.mono z2)).mono z1))
  have Hrd4 := hide ((hrv2.below b3).below b4)
  have Hcb4 : Hid (∀ j, j < K → w4.cell? ⟨gb, j, none⟩ = some (.int .i64 (bs.getD j 0))) := hide fun j hj => (b24.cell (p := ⟨gb, j, none⟩) hgb).trans (Hcb.out j hj)
  have g1 : ((K : Int) - 1).toNat = K - 1 := by omega
  have g2 : (0 : Int) ≤ (K : Int) - 1 := by omega
  have g3 : (K : Int) - 1 < (K : Int) := by omega
  have g4 : decide ((K : Int) < 1) = false := decide_eq_false (by omega)
  have g5 : decide (K < 1) = false := decide_eq_false (by omega)
  clear hrv2 b24 b2 b3 b4 hcellw b1
  go_wp2
  clear g1 g2 g3 g4 g5 clast
  go_loopw [12, 13] (fun S' i wr => ∃ k : Nat, k ≤ K ∧ i = .int .i64 k ∧ S' = .int .i64 ((psum s 0 (bs.take k) : Nat) : Int) ∧ Hid (∃ q, wr = w4.drewN q)) (fun _ i _ => K - (intOf i).toNat)
  case atStart => exact ⟨0, Nat.zero_le _, rfl, by simp [psum], hide ⟨0, rfl⟩⟩
  case round =>
    obtain ⟨k, hk, rfl, rfl, hq⟩ := hrel
    obtain ⟨q, rfl⟩ := hq.out
    by_cases hlt : k < K
    · obtain ⟨l, hl, l1, ln, hE⟩ := Hoa.out k hlt
      obtain ⟨d, hd⟩ : ∃ d, d = n - l := ⟨_, rfl⟩
      have ck := Hcb4.out k hlt
      rw [hl] at ck
      have hst := Hpst.out k hlt
      have hpb := Hpb.out k
      rw [hl] at hst
      simp only [Int.toNat_natCast, Nat.sub_zero] at hst
      have hpb2 := Hpb.out (k + 1)
      rw [hst] at hpb2
      have Hst := hide hst
      have Hd := hide hd
      have hrd := Hrd4.out
      obtain ⟨A', c', e', hrd, _⟩ := hrd
      rw [Hhl.out] at e' hrd
      injection e' with e1 _ e3
      subst e1 e3
      have hc1 := hrd.from (k := d) (cap := cw) (by omega) hcw
      rw [if_neg (by omega)] at hc1
      have hc1 : Rd w4 (some ⟨gw, d, none⟩) (n - d) (iv (ws.drop d)) := by simpa [Addr.add_lit] using hc1
      have hc2 := hrd.upto (k := l) ln
      have hbs := border_same (xs := ws) (l := l) (by rw [Hhl.out]; exact ln) hE
      rw [Hhl.out, ← hd] at hbs
      have HSm := Lib.hid (fun (Q : Nat) => lSame (some ⟨gw, d, none⟩) (some ⟨gw, 0, none⟩) (n - d) l (cw - d) cw (ws.drop d) (ws.take l) (w4.drewN Q) (hc1.drewN Q) (hc2.drewN Q) (by omega) (by omega))
      rw [hbs] at HSm
      have HPw := Lib.hid (fun W => lPow s l W (by omega) (by omega) (by omega) (Nat.le_trans (pow_le12 (by omega) (by omega)) (by omega)))
      clear hst hrd hc1 hc2 hbs hE
      have hdn : d + l = n := by omega
      clear hd
      have f0 : (0 : Int) ≤ (k : Int) := by omega
      have f1 : (k : Int) < (K : Int) := by omega
      have f2 : decide ((l : Int) < 1) = false := decide_eq_false (by omega)
      have f3 : decide (l < 1) = false := decide_eq_false (by omega)
      have f4 : decide ((n : Int) < (l : Int)) = false := decide_eq_false (by omega)
      have f5 : decide (n < l) = false := decide_eq_false (by omega)
      have f7 : (0 : Int) ≤ (d : Int) := by omega
      have f8 : (d : Int) ≤ (n : Int) := by omega
      have f9 : d ≤ n := by omega
      have f10 : ¬ cw = d := by omega
      have f11 : l ≤ cw := by omega
      have f12 : (l : Int) ≤ (cw : Int) := by omega
      have f13 : (0 : Int) ≤ (l : Int) := by omega
      have F6 : Hid (IntKind.i64.wrap ((n : Int) - (l : Int)) = (d : Int)) := hide (by rw [show (n : Int) - (l : Int) = (d : Int) by omega]; exact IntWalk.i64_in _ (by omega))
      have f15 : ¬ cw = 0 := by omega
      have f16 : ¬ l = 0 := by omega
      have Hdn := hide hdn
      clear hdn
      generalize psum s 0 (bs.take k) = pk at *
      generalize s ^ l = pw at *
      by_cases hk0 : k = 0
      · subst hk0
        have f6 := F6.out
        have f17 : (0 : Int) < (K : Int) := by omega
        rw [show ((0 : Nat) : Int) = 0 from rfl]
        clear f0 f1
        go_wp2
        go_quiet ((go_at_call 36; refine (HSm.out _).mono ?_; rintro e w' ⟨rfl, q2, rfl⟩; exact ⟨rfl, drew_more _ _ _ _⟩))
        go_wp2_with fail
        refine (HPw.out _).mono ?_
        rintro e w' ⟨rfl, rfl⟩
        go_wp2
        go_roundw
        case rel => exact ⟨1, by omega, by go_num, by rw [show 0 + 1 = 1 from rfl] at Hst; rw [Hst.out]; go_num, hide ⟨_, rfl⟩⟩
        case measure => simp [intOf]; omega
      · obtain ⟨l', hl', l1', ln', _⟩ := Hoa.out (k - 1) (by omega)
        have hup := Hou.out (k - 1) (by omega)
        rw [show k - 1 + 1 = k by omega, hl, hl'] at hup
        have cp := Hcb4.out (k - 1) (by omega)
        rw [hl'] at cp
        have f17 : decide ((l : Int) ≤ (l' : Int)) = false := decide_eq_false (by omega)
        have f18 : decide (l ≤ l') = false := decide_eq_false (by omega)
        have f19 : decide ((0 : Int) < (k : Int)) = true := decide_eq_true (by omega)
        have f20 : decide (0 < k) = true := decide_eq_true (by omega)
        have f21 : (0 : Int) ≤ (k : Int) - 1 := by omega
        have f22 : (k : Int) - 1 < (K : Int) := by omega
        have f23 : ((k : Int) - 1).toNat = k - 1 := by omega
        have F24 : Hid (IntKind.i64.wrap ((k : Int) - 1) = (k : Int) - 1) := hide (IntWalk.i64_in _ (by omega))
        have f6 := F6.out
        have f24 := F24.out
        clear hup hl hl'
        go_wp2
        go_quiet ((go_at_call 36; refine (HSm.out _).mono ?_; rintro e w' ⟨rfl, q2, rfl⟩; exact ⟨rfl, drew_more _ _ _ _⟩))
        go_wp2_with fail
        refine (HPw.out _).mono ?_
        rintro e w' ⟨rfl, rfl⟩
        go_wp2
        go_roundw
        case rel => exact ⟨k + 1, by omega, by go_num, by rw [Hst.out]; go_num, hide ⟨_, rfl⟩⟩
        case measure => simp [intOf]; omega
    · obtain rfl : k = K := by omega
      rw [Hpsl.out]
      obtain ⟨w5, hw5⟩ : ∃ w5, w5 = w4.drewN q := ⟨_, rfl⟩
      have B5 := hide (below_drewN B4.out q)
      have Hrd5 := hide (Hrd4.out.drewN q)
      rw [← hw5] at B5 Hrd5 ⊢
      have hz5 := B5.out.size
      clear hw5 Hcb4 Hcb Hrd4 B4
      go_upto_region 17 with fail
      go_cut [14, 15] (fun u v wx => ∃ (g2 cc2 : Nat) (w9 : World), u = .slice (some ⟨g2, 0, none⟩) 2 cc2 ∧ v = .bool true ∧ wx = w9 ∧ w9.cell? ⟨g2, 0, none⟩ = some (.int .i64 (S : Int)) ∧ w9.cell? ⟨g2, 1, none⟩ = some (.int .i64 (s : Int)) ∧ RV w9 (.slice (some ⟨gw, 0, none⟩) n cw) ws ∧ Below w.heap.size w w9)
      case first =>
        have b5a : Below w5.heap.size w5 (w5.alloc (.cells #[.int .i64 1] 2)) := (Below.refl _ _).alloc (Nat.le_refl _) _
        have b5b : Below w5.heap.size w5 ((w5.alloc (.cells #[.int .i64 1] 2)).alloc (.cells #[.slice (some ⟨gw, 0, none⟩) n cw, .slice (some ⟨w5.heap.size, 0, none⟩) 1 1] 22)) := b5a.alloc b5a.size _
        have B6 := hide (B5.out.trans (b5b.mono hz5))
        go_wp2_with fail
        obtain ⟨w6, hw6⟩ : ∃ w6, w6 = ((w5.alloc (.cells #[.int .i64 1] 2)).alloc (.cells #[.slice (some ⟨gw, 0, none⟩) n cw, .slice (some ⟨w5.heap.size, 0, none⟩) 1 1] 22)) := ⟨_, rfl⟩
        have hRR : RVR w6 (.slice (some ⟨w5.heap.size + 1, 0, none⟩) 2 2) [ws, [1]] := by
          have hsz : (w5.alloc (.cells #[.int .i64 1] 2)).heap.size = w5.heap.size + 1 := by simp
          have hBo : Bk w6 (w5.heap.size + 1) 22 [.slice (some ⟨gw, 0, none⟩) n cw, .slice (some ⟨w5.heap.size, 0, none⟩) 1 1] := by
            rw [hw6, ← hsz]; exact Bk.new _ _ _
          have hBi : Bk w6 w5.heap.size 2 (iv [1]) := by rw [hw6]; exact (Bk.new w5 2 _).alloc _
          have h5 : Below w5.heap.size w5 w6 := by rw [hw6]; exact b5b
          refine ⟨some ⟨w5.heap.size + 1, 0, none⟩, 2, rfl, ⟨_, rfl, hBo.rd, fun k v hk => ?_⟩, Nat.le_refl _⟩
          match k, hk with
          | 0, hk => injection hk with hk; subst hk; exact Hrd5.out.below h5
          | 1, hk => injection hk with hk; subst hk; exact hBi.rv rfl
          | k + 2, hk => simp at hk
        have h56 : Below w5.heap.size w5 w6 := by rw [hw6]; exact b5b
        rw [← hw6] at B6 ⊢
        have Hrd6 := hide (Hrd5.out.below h56)
        have HRR := hide hRR
        clear hw6 b5a b5b h56 hRR Hrd5
        refine (HC1.out _ 42 8 B6.out (by omega) (by omega) (by omega) (by omega)).mono ?_
        rintro e w' ⟨⟨m', rfl, hm'⟩, rfl⟩
        obtain ⟨mm, hmm⟩ : ∃ mm : Nat, mm = 1 + m' := ⟨_, rfl⟩
        have emm : (1 : Int) + (m' : Int) = (mm : Int) := by omega
        have hm1 : (1 : Int) ≤ (mm : Int) ∧ (mm : Int) ≤ 8 := by omega
        have hmm8 : mm ≤ 8 := by omega
        have HSh := Lib.hid (iWaitsShared _ [ws, [1]] (s : Int) (mm : Int) _ HRR.out (by show 2 + ws.length + ([1] : List Int).length ≤ _; rw [Hhl.out]; simp; omega) hwf (WalkArith.wf_i64 (by omega)))
        rw [shared_two Hwd.out HrW.out hs2 hs3 hm1] at HSh
        clear hm' hmm hm1
        go_wp2_with fail
        refine HSh.out.mono ?_
        rintro e w7 ⟨r2, rfl, ho2, b7⟩
        obtain ⟨g2, cc2, rfl, _, hg2, _, hc2⟩ := formN ho2 (n := 2) rfl (by omega)
        have d0 : w7.cell? ⟨g2, 0, none⟩ = some (.int .i64 (S : Int)) := hc2 0 (by omega)
        have d1 : w7.cell? ⟨g2, 1, none⟩ = some (.int .i64 (s : Int)) := hc2 1 (by omega)
        have B7 := hide (B6.out.trans (b7.mono B6.out.size))
        have Hrd7 := hide (Hrd6.out.below b7)
        clear hc2 ho2 HSh HRR B6 Hrd6 b7
        go_wp2
        go_meet
        exact ⟨g2, cc2, _, rfl, rfl, rfl, d0, d1, Hrd7.out, B7.out⟩
      case rest =>
        obtain ⟨g2, cc2, _, rfl, rfl, rfl, d0, d1, hv7, hb7⟩ := hcut
        exact partBK A1 n1 c1 x1 gw n cw s S g2 cc2 ws w _ HR1.out Hn48.out Hwd.out Hhl.out hn1' hn6 hs2 hs3 hps d0 d1 hv7 hb7 _ (by assumption)
end Go.Proofs.Ytpfaefflbjpllaa
