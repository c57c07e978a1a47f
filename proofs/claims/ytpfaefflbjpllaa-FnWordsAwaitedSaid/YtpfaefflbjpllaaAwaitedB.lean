/- The law FnWordsAwaited, its second part: the races. Conditions: what is stated. -/
import Derived.Test.YtpfaefflbjpllaaAwaitedC
namespace Go.Proofs.Ytpfaefflbjpllaa
open Go.ChangeShapes Go.WideShapes Go.ChangeAt Go.RowKit

set_option maxRecDepth 1000000 in
set_option maxHeartbeats 6400000 in
theorem partB (A1 : Option Addr) (n1 c1 : Nat) (x1 : List Int) (gw n cw s S g2 cc2 : Nat) (ws : List Int) {s0 s2 s3 s4 s8 s9 s11 s13 s16 s17 s18 s19 s20 s21 s22 s23 s24 s25 s26 s27 s28 s29 s30 s31 s32 s33 s34 s35 s36 s37 s38 s39 s40 s41 s42 s43 s44 s45 s46 s47 s48 s49 s50 s51 s52 s53 s54 s55 s56 s57 s58 s59 s60 s61 s62 s63 s64 s65 s66 s67 s68 s69 s70 s71 s72 s73 s74 s75 s76 s77 s78 s79 s80 s81 s82 s83 s84 s85 s86 s87 s88 s89 s90 s91 s92 s93 s94 s95 s96 s97 s98 s99 s100 s101 s102 s103 s104 s105 s106 s107 s108 s109 s110 s111 s112 s113 s114 s115 s116 s117 s118 s119 s120 s121 s122 s123 s124 s125 s126 s127 s128 s129 s130 s131 s132 s133 s134 s135 s136 s137 s138 s139 s140 s141 s142 s143 s144 s145 s146 s147 s148 s149 s150 s151 s152 s153 s154 s155 s156 s157 s158 s159 s160 s161 s162 s163 s164 s165 s166 s167 s168 s169 s170 s171 s172 s173 s174 s175 s176 s177 s178 s179 s180 s181 s182 s183 s184 s185 s186 s187 s188 s189 s190 s191 s192 s193 s194 s195 s196 s197 s198 s199 s200 s201 s202 s203 s204 s205 s206 s207 s208 s209 s210 s211 s212 s213 s214 s215 s216 s217 s218 s219 s220 s221 s222 s223 s224 s225 s226 s227 s228 s229 s230 s231 s232 s233 s234 s235 s236 s237 s238 s239 s240 s241 s242 s243 s244 s245 s246 s247 s248 s249 s250 s251 s252 s253 s254 s255 s256 s257 s258 s259 s260 s261 s262 s263 s264 s265 s266 s267 s268 s269 s270 s271 s272 s273 s274 s275 s276 s277 s278 s279 s280 s281 s282 s283 s284 s285 s286 s287 s288 s289 s290 s291 s292 s293 s294 s295 s296 s297 s298 s299 s300 s301 s302 s303 s304 s305 s306 s307 s308 s309 s310 s311 s312 s313 s314 s315 s316 s317 s318 s319 s320 s321 s322 s323 s324 s325 s326 s327 s328 s329 s330 s331 s332 s333 s334 s335 s336 s337 s338 : Value} (w w7 : World) (hr1 : RdU w A1 n1 x1) (hn48 : n1 ≤ 48) (hwd0 : wordB ws (s : Int) = true) (hl0 : ws.length = n) (hn1 : 1 ≤ n) (hn6 : n ≤ 6)
    (hs2 : 2 ≤ s) (hs3 : s ≤ 3) (hS : S ≤ 26121388032) (d0 : w7.cell? ⟨g2, 0, none⟩ = some (.int .i64 (S : Int))) (d1 : w7.cell? ⟨g2, 1, none⟩ = some (.int .i64 (s : Int))) (hv : RV w7 (.slice (some ⟨gw, 0, none⟩) n cw) ws) (hb : Below w.heap.size w w7) :
    Code.wp Try.prog ((Try.f10.body.bind (sufK 18)).getD .skip) (bodyPost Try.prog Try.f10 fun e w9 => e = .returned (.bool true) ∧ Below w.heap.size w w9) ⟨#[s0, .slice A1 n1 c1, s2, s3, s4, .int .i64 (n : Int), .int .i64 (s : Int), .slice (some ⟨gw, 0, none⟩) n cw, s8, s9, .int .i64 (S : Int), s11, .int .i64 (S : Int), s13, .slice (some ⟨g2, 0, none⟩) 2 cc2, .bool true, s16, s17, s18, s19, s20, s21, s22, s23, s24, s25, s26, s27, s28, s29, s30, s31, s32, s33, s34, s35, s36, s37, s38, s39, s40, s41, s42, s43, s44, s45, s46, s47, s48, s49, s50, s51, s52, s53, s54, s55, s56, s57, s58, s59, s60, s61, s62, s63, s64, s65, s66, s67, s68, s69, s70, s71, s72, s73, s74, s75, s76, s77, s78, s79, s80, s81, s82, s83, s84, s85, s86, s87, s88, s89, s90, s91, s92, s93, s94, s95, s96, s97, s98, s99, s100, s101, s102, s103, s104, s105, s106, s107, s108, s109, s110, s111, s112, s113, s114, s115, s116, s117, s118, s119, s120, s121, s122, s123, s124, s125, s126, s127, s128, s129, s130, s131, s132, s133, s134, s135, s136, s137, s138, s139, s140, s141, s142, s143, s144, s145, s146, s147, s148, s149, s150, s151, s152, s153, s154, s155, s156, s157, s158, s159, s160, s161, s162, s163, s164, s165, s166, s167, s168, s169, s170, s171, s172, s173, s174, s175, s176, s177, s178, s179, s180, s181, s182, s183, s184, s185, s186, s187, s188, s189, s190, s191, s192, s193, s194, s195, s196, s197, s198, s199, s200, s201, s202, s203, s204, s205, s206, s207, s208, s209, s210, s211, s212, s213, s214, s215, s216, s217, s218, s219, s220, s221, s222, s223, s224, s225, s226, s227, s228, s229, s230, s231, s232, s233, s234, s235, s236, s237, s238, s239, s240, s241, s242, s243, s244, s245, s246, s247, s248, s249, s250, s251, s252, s253, s254, s255, s256, s257, s258, s259, s260, s261, s262, s263, s264, s265, s266, s267, s268, s269, s270, s271, s272, s273, s274, s275, s276, s277, s278, s279, s280, s281, s282, s283, s284, s285, s286, s287, s288, s289, s290, s291, s292, s293, s294, s295, s296, s297, s298, s299, s300, s301, s302, s303, s304, s305, s306, s307, s308, s309, s310, s311, s312, s313, s314, s315, s316, s317, s318, s319, s320, s321, s322, s323, s324, s325, s326, s327, s328, s329, s330, s331, s332, s333, s334, s335, s336, s337, s338], []⟩ w7 := by
  have HC1 := Lib.hid (fun W i k (hb : Below w.heap.size w W) a b c d => rAt A1 n1 c1 x1 i k W (hr1.below hb) hn48 a b c d)
  have HW1 := Lib.hid (fun W N m (hb : Below w.heap.size w W) a b c => sBelow A1 n1 c1 N m x1 W (hr1.below hb) (by omega) a b c)
  have HR1 := hide hr1
  have Hn48 := hide hn48
  have hwf : (Lit.int .i64 (s : Int)).wf = true := WalkArith.wf_i64 (by omega)
  have Hwd := hide hwd0
  have Hhl := hide hl0
  have HV := hide hv
  have HB := hide hb
  clear hwd0 hl0 hv hb hr1 hn48
  conv => arg 2; whnf
  go_wp2_with fail
  clear d0 d1
  refine (HW1.out _ n s HB.out (by omega) hs2 (by omega)).mono ?_
  rintro e w8 ⟨vo, os, rfl, ho8, hlo8, hino, b8⟩
  have hwo : wordB os (s : Int) = true := word_of hino hlo8 hn1 (by omega) hs2 (by omega)
  obtain ⟨a1, b1', c1', d1', hR1, hR2, hRf⟩ := race_two hs2 (by omega) hn1 (by omega) Hwd.out hwo Hhl.out hlo8
  have HRc1 := Lib.hid (fun W (h1 : RV W (.slice (some ⟨gw, 0, none⟩) n cw) ws) (h2 : RV W vo os) => iWordRace _ ws vo os (s : Int) W h1 h2 (by rw [Hhl.out]; omega) (by omega) hwf)
  have HRc2 := Lib.hid (fun W (h2 : RV W vo os) (h1 : RV W (.slice (some ⟨gw, 0, none⟩) n cw) ws) => iWordRace vo os _ ws (s : Int) W h2 h1 (by omega) (by rw [Hhl.out]; omega) hwf)
  have HSo := Lib.hid (fun W (h1 : RV W (.slice (some ⟨gw, 0, none⟩) n cw) ws) (h2 : RV W vo os) => lSameV _ vo ws os W h1 h2 (by rw [Hhl.out]; omega) (by omega))
  rw [hR1] at HRc1
  rw [hR2] at HRc2
  have Hrd8 := hide (HV.out.below b8)
  have Ho8 := hide ho8.rv
  have B8 := hide (HB.out.trans (b8.mono HB.out.size))
  have HRf := Lib.hid hRf
  clear hR1 hR2 hRf hwo hino hlo8 ho8 b8
  generalize eqL ws os = E at *
  go_wp2_with fail
  refine (HRc1.out _ Hrd8.out Ho8.out).mono ?_
  rintro e w9 ⟨rfl, b9⟩
  have Hrd9 := hide (Hrd8.out.below b9)
  have Ho9 := hide (Ho8.out.below b9)
  have B9 := hide (B8.out.trans (b9.mono B8.out.size))
  clear b9 Hrd8 Ho8 B8
  go_wp2_with fail
  refine (HRc2.out _ Ho9.out Hrd9.out).mono ?_
  rintro e w10 ⟨rfl, b10⟩
  have Hrd10 := hide (Hrd9.out.below b10)
  have Ho10 := hide (Ho9.out.below b10)
  have B10 := hide (B9.out.trans (b10.mono B9.out.size))
  clear b10 Hrd9 Ho9 B9
  go_upto_region 23 with fail
  go_cut [243] (fun u wx => u = .bool false ∧ ∃ q, wx = w10.drewN q)
  case first =>
    cases E with
    | true =>
      go_wp2_with fail
      refine (HSo.out _ Hrd10.out Ho10.out).mono ?_
      rintro e w' ⟨rfl, q, rfl⟩
      go_wp2
      go_meet
      exact ⟨rfl, _, rfl⟩
    | false =>
      obtain ⟨h1, h2, h3, h4, h5, h6⟩ := HRf.out rfl
      subst h2
      have e3 : (a1 : Int) + (c1' : Int) = (b1' : Int) := by omega
      have e4 : ¬ b1' = 0 := by omega
      have e5 : ¬ a1 = 0 := by omega
      have e6 : ¬ c1' = 0 := by omega
      have e7 : decide ((b1' : Int) < 1) = false := decide_eq_false (by omega)
      have e8 : decide ((a1 : Int) < 1) = false := decide_eq_false (by omega)
      have e9 : decide ((c1' : Int) < 1) = false := decide_eq_false (by omega)
      clear h3
      go_wp2_with fail
      refine (HSo.out _ Hrd10.out Ho10.out).mono ?_
      rintro e w' ⟨rfl, q, rfl⟩
      go_wp2
      go_meet
      exact ⟨rfl, _, rfl⟩
  case rest =>
    obtain ⟨rfl, q, rfl⟩ := hcut
    obtain ⟨w11, hw11⟩ : ∃ w11, w11 = w10.drewN q := ⟨_, rfl⟩
    have Hrd11 := hide (Hrd10.out.drewN q)
    have B11 := hide (below_drewN B10.out q)
    rw [← hw11] at Hrd11 B11 ⊢
    clear hw11 Hrd10 B10 Ho10 HSo HRc1 HRc2 HRf
    go_upto_region 25 with fail
    go_cut [23] (fun u wx => ∃ t : Nat, u = .int .i64 (t : Int) ∧ t ≤ 9 ∧ wx = w11)
    case first =>
      go_wp2_with fail
      refine (HC1.out _ 43 10 B11.out (by omega) (by omega) (by omega) (by omega)).mono ?_
      rintro e w' ⟨⟨t, rfl, ht⟩, rfl⟩
      go_wp2
      go_meet
      exact ⟨t, rfl, by omega, rfl⟩
    case rest =>
      obtain ⟨t, rfl, ht9, rfl⟩ := hcut
      exact partC A1 n1 c1 x1 gw n cw s t ws w _ HR1.out Hn48.out Hwd.out Hhl.out hn1 hn6 hs2 hs3 ht9 Hrd11.out B11.out _ (by assumption)
end Go.Proofs.Ytpfaefflbjpllaa
