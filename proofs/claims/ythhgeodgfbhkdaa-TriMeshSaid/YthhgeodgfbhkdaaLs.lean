/- The functions that the Tri laws reach, made ready for the executor (printed by gen/lit.lean and gen/loops.py). -/
import Derived.Test.YthhgeodgfbhkdaaAxZA
import Derived.Test.YthhgeodgfbhkdaaAxRb
set_option linter.unusedVariables false
set_option linter.unusedSimpArgs false
set_option linter.unusedSectionVars false
namespace Go.AX.Tri
open Go.Proofs Go.AX.Mc
noncomputable section
def a3 : AFn := ⟨1, [(.t (pa 2))],
  (.seq (.region [yP (oMov (.c (.bool .false))) 2 0])
  (.seq (.seq (.region [yE (oEnter 11 []) 4 0,
    yP (oUn Try.prog .not (t 4)) 5 0])
  (.cond (t 5)
    (.seq (.region [yP (oMov (.c (.bool .false))) 2 0])
    .ret)
    .skip))
  (.seq (.region [yP (oMov (t 0)) 6 0,
    yP (oMov (t 0)) 7 0,
    yP (oLenS (t 7)) 8 0,
    yP (oMinmax Try.prog .false [(t 8), (.c (.int .i64 8))]) 9 0,
    yP (oSliceS 6 (t 6) .none (.some (t 9)) .none) 10 0,
    yP (oMov (t 10)) 0 0])
  (.seq (.region [yP (oMov (t 0)) 11 0,
    yE (oEnter 12 [(t 11)]) 12 0,
    yP (oMov (t 12)) 3 0])
  (.seq (.region [yP (oMov (t 3)) 13 0,
    yP (oBin Try.prog .eql 24 (.tmp 13) (.const (.int .i64 0)) .none (t 13) (.c (.int .i64 0))) 14 0,
    yP (oMov (t 0)) 15 0,
    yE (oEnter 13 [(t 15)]) 16 0,
    yP (oBin Try.prog .eql 4 (.tmp 14) (.tmp 16) .none (t 14) (t 16)) 17 0,
    yP (oMov (t 17)) 18 0,
    yPg (oMov (t 3)) 19 18 true 0,
    yPg (oBin Try.prog .eql 24 (.tmp 19) (.const (.int .i64 0)) .none (t 19) (.c (.int .i64 0))) 20 18 true 0,
    yPg (oMov (t 20)) 21 18 true 0,
    yPg (oMov (t 3)) 22 21 false 0,
    yPg (oBin Try.prog .eql 24 (.tmp 22) (.const (.int .i64 320)) .none (t 22) (.c (.int .i64 320))) 23 21 false 0,
    yPg (oPick (t 21) (.c (.bool .true)) (t 23)) 24 18 true 0,
    yP (oPick (t 18) (t 24) (.c (.bool .false))) 25 0,
    yP (oMov (t 25)) 2 0])
  .ret)))))⟩
def a4l0 : ACode := (.seq (.region [yP (oBin Try.prog .lss 3 (.tmp 101) (.const (.int .i64 64)) .none (t 101) (.c (.int .i64 64))) 102 0])
            (.seq (.cond (t 102)
              .skip
              (.exit 4))
            (.seq (.block 5
              (.seq (.region [yP (oMov (t 101)) 103 0,
                yP (oMov (t 103)) 17 0])
              (.seq (.region [yP (oMov (t 16)) 104 0,
                yP (oBin Try.prog .mul 3 (.const (.int .i64 256)) (.tmp 104) .none (.c (.int .i64 256)) (t 104)) 105 0,
                yP (oBin Try.prog .add 3 (.tmp 105) (.const (.int .i64 128)) .none (t 105) (.c (.int .i64 128))) 106 0,
                yP (oMov (t 17)) 107 0,
                yP (oBin Try.prog .mul 3 (.const (.int .i64 256)) (.tmp 107) .none (.c (.int .i64 256)) (t 107)) 108 0,
                yP (oBin Try.prog .add 3 (.tmp 108) (.const (.int .i64 128)) .none (t 108) (.c (.int .i64 128))) 109 0,
                yP (oBuild [(.int .i64 0), (.int .i64 0), (.int .i32 0), (.int .i32 0), (.int .i32 0), (.slice .none 0 0)] [(0, (1, (t 106))), (1, (1, (t 109))), (3, (1, (.c (.int .i32 1))))]) 110 0,
                yN (oAlloc [(.int .i64 0), (.int .i64 0), (.int .i32 0), (.int .i32 0), (.int .i32 0), (.slice .none 0 0)]) 18 0,
                zE (oStore 6 (t 18) (t 110)) 0])
              (.seq (.region [yR (oLoadA 6 (t 5)) 111 0,
                yR (oLoadA 6 (t 6)) 112 0,
                yR (oLoadA 6 (t 18)) 113 0,
                yE (oEnter 14 [(t 111), (t 112), (t 113)]) 114 0,
                yP (oBin Try.prog .eql 3 (.tmp 114) (.const (.int .i64 0)) .none (t 114) (.c (.int .i64 0))) 115 0,
                yP (oMov (t 115)) 116 0,
                yPg (oFieldAddr 0 (t 5)) 117 116 true 0,
                yRg (oLoad1 (t 117)) 118 116 true 0,
                yPg (oFieldAddr 0 (t 6)) 119 116 true 0,
                yRg (oLoad1 (t 119)) 120 116 true 0,
                yPg (oFieldAddr 0 (t 18)) 121 116 true 0,
                yRg (oLoad1 (t 121)) 122 116 true 0,
                yEg (oEnter 16 [(t 118), (t 120), (t 122)]) 123 116 true 0,
                yP (oPick (t 116) (t 123) (.c (.bool .false))) 124 0,
                yP (oMov (t 124)) 125 0,
                yPg (oFieldAddr 1 (t 5)) 126 125 true 0,
                yRg (oLoad1 (t 126)) 127 125 true 0,
                yPg (oFieldAddr 1 (t 6)) 128 125 true 0,
                yRg (oLoad1 (t 128)) 129 125 true 0,
                yPg (oFieldAddr 1 (t 18)) 130 125 true 0,
                yRg (oLoad1 (t 130)) 131 125 true 0,
                yEg (oEnter 16 [(t 127), (t 129), (t 131)]) 132 125 true 0,
                yP (oPick (t 125) (t 132) (.c (.bool .false))) 133 0,
                yP (oMov (t 133)) 134 0,
                yPg (oFieldAddr 0 (t 18)) 135 134 true 0,
                yRg (oLoad1 (t 135)) 136 134 true 0,
                yPg (oFieldAddr 0 (t 5)) 137 134 true 0,
                yRg (oLoad1 (t 137)) 138 134 true 0,
                yPg (oBin Try.prog .neq 3 (.tmp 136) (.tmp 138) .none (t 136) (t 138)) 139 134 true 0,
                yPg (oMov (t 139)) 140 134 true 0,
                yPg (oFieldAddr 1 (t 18)) 141 140 false 0,
                yRg (oLoad1 (t 141)) 142 140 false 0,
                yPg (oFieldAddr 1 (t 5)) 143 140 false 0,
                yRg (oLoad1 (t 143)) 144 140 false 0,
                yPg (oBin Try.prog .neq 3 (.tmp 142) (.tmp 144) .none (t 142) (t 144)) 145 140 false 0,
                yPg (oPick (t 140) (.c (.bool .true)) (t 145)) 146 134 true 0,
                yP (oPick (t 134) (t 146) (.c (.bool .false))) 147 0,
                yP (oMov (t 147)) 148 0,
                yPg (oFieldAddr 0 (t 18)) 149 148 true 0,
                yRg (oLoad1 (t 149)) 150 148 true 0,
                yPg (oFieldAddr 0 (t 6)) 151 148 true 0,
                yRg (oLoad1 (t 151)) 152 148 true 0,
                yPg (oBin Try.prog .neq 3 (.tmp 150) (.tmp 152) .none (t 150) (t 152)) 153 148 true 0,
                yPg (oMov (t 153)) 154 148 true 0,
                yPg (oFieldAddr 1 (t 18)) 155 154 false 0,
                yRg (oLoad1 (t 155)) 156 154 false 0,
                yPg (oFieldAddr 1 (t 6)) 157 154 false 0,
                yRg (oLoad1 (t 157)) 158 154 false 0,
                yPg (oBin Try.prog .neq 3 (.tmp 156) (.tmp 158) .none (t 156) (t 158)) 159 154 false 0,
                yPg (oPick (t 154) (.c (.bool .true)) (t 159)) 160 148 true 0,
                yP (oPick (t 148) (t 160) (.c (.bool .false))) 161 0,
                yP (oMov (t 161)) 162 0,
                yPg (oMov (t 13)) 163 162 true 0,
                yPg (oMov (t 16)) 164 162 true 0,
                yPg (oMov (t 17)) 165 162 true 0,
                yPg (oBuild [(.int .i64 0), (.int .i64 0)] [(0, (1, (t 164))), (1, (1, (t 165)))]) 166 162 true 0,
                yRg (oLookup Try.prog 44 (.bool .false) .false (t 163) (t 166)) 167 162 true 0,
                yPg (oUn Try.prog .not (t 167)) 168 162 true 0,
                yP (oPick (t 162) (t 168) (.c (.bool .false))) 169 0])
              (.cond (t 169)
                (.seq (.region [yP (oMov (.c (.bool .false))) 4 0])
                .ret)
                .skip)))))
            (.region [yP (oBin Try.prog .add 3 (.tmp 101) (.const (.int .i64 1)) .none (t 101) (.c (.int .i64 1))) 170 0,
              yP (oMov (t 170)) 101 0]))))
def a4l1 : ACode := (.seq (.region [yP (oBin Try.prog .lss 3 (.tmp 98) (.const (.int .i64 64)) .none (t 98) (.c (.int .i64 64))) 99 0])
      (.seq (.cond (t 99)
        .skip
        (.exit 2))
      (.seq (.block 3
        (.seq (.region [yP (oMov (t 98)) 100 0,
          yP (oMov (t 100)) 16 0])
        (.seq (.region [yP (oMov (.c (.int .i64 0))) 101 0])
        (.block 4
          (.loop a4l0)))))
      (.region [yP (oBin Try.prog .add 3 (.tmp 98) (.const (.int .i64 1)) .none (t 98) (.c (.int .i64 1))) 171 0,
        yP (oMov (t 171)) 98 0]))))
def a4l2 : ACode := (.seq (.region [yP (oBin Try.prog .lss 3 (.tmp 80) (.tmp 79) .none (t 80) (t 79)) 81 0])
      (.seq (.cond (t 81)
        .skip
        (.exit 0))
      (.seq (.block 1
        (.seq (.region [yP (oIndexAddrS 10 (t 78) (t 80)) 82 0,
          yR (oLoadA 10 (t 82)) 83 0,
          yN (oAlloc [(.int .i64 0), (.int .i64 0), (.int .i32 0), (.int .i32 0), (.bool .false), (.int .i32 0), (.int .i32 0), (.int .i32 0), (.int .i32 0), (.slice .none 0 0)]) 15 0,
          zE (oStore 10 (t 15) (t 83)) 0])
        (.seq (.seq (.region [yP (oMov (t 13)) 84 0,
          yP (oFieldAddr 0 (t 15)) 85 0,
          yR (oLoad1 (t 85)) 86 0,
          yP (oFieldAddr 1 (t 15)) 87 0,
          yR (oLoad1 (t 87)) 88 0,
          yP (oBuild [(.int .i64 0), (.int .i64 0)] [(0, (1, (t 86))), (1, (1, (t 88)))]) 89 0,
          yR (oLookup Try.prog 44 (.bool .false) .false (t 84) (t 89)) 90 0])
        (.cond (t 90)
          (.seq (.region [yP (oMov (.c (.bool .false))) 4 0])
          .ret)
          .skip))
        (.region [yP (oMov (t 13)) 91 0,
          yP (oFieldAddr 0 (t 15)) 92 0,
          yR (oLoad1 (t 92)) 93 0,
          yP (oFieldAddr 1 (t 15)) 94 0,
          yR (oLoad1 (t 94)) 95 0,
          yP (oBuild [(.int .i64 0), (.int .i64 0)] [(0, (1, (t 93))), (1, (1, (t 95)))]) 96 0,
          zE (oMapUpdate Try.prog 44 (t 91) (t 96) (.c (.bool .true))) 0]))))
      (.region [yP (oBin Try.prog .add 3 (.tmp 80) (.const (.int .i64 1)) .none (t 80) (.c (.int .i64 1))) 97 0,
        yP (oMov (t 97)) 80 0]))))
def a4 : AFn := ⟨2, [(.t (pa 4))],
  (.seq (.region [yN (oBox (t 0)) 2 0,
    yN (oBox (t 1)) 3 0,
    yP (oMov (.c (.bool .false))) 4 0])
  (.seq (.seq (.region [yE (oEnter 11 []) 19 0,
    yP (oUn Try.prog .not (t 19)) 20 0])
  (.cond (t 20)
    (.seq (.region [yP (oMov (.c (.bool .false))) 4 0])
    .ret)
    .skip))
  (.seq (.draw [yP (oIndexAddrA 3 6 (t 2) (.c (.int .i64 0))) 21 0,
    yR (oLoadA 6 (t 21)) 22 1,
    yP (oIndexAddrA 3 6 (t 2) (.c (.int .i64 1))) 23 0,
    yR (oLoadA 6 (t 23)) 24 4,
    yP (oIndexAddrA 3 6 (t 2) (.c (.int .i64 2))) 25 0,
    yR (oLoadA 6 (t 25)) 26 16,
    yN (oAlloc [(.int .i64 0), (.int .i64 0), (.int .i32 0), (.int .i32 0), (.int .i32 0), (.slice .none 0 0)]) 5 0,
    yN (oAlloc [(.int .i64 0), (.int .i64 0), (.int .i32 0), (.int .i32 0), (.int .i32 0), (.slice .none 0 0)]) 6 0,
    yN (oAlloc [(.int .i64 0), (.int .i64 0), (.int .i32 0), (.int .i32 0), (.int .i32 0), (.slice .none 0 0)]) 7 0,
    zE (oStore 6 (t 5) (t 22)) 451,
    zE (oStore 6 (t 6) (t 24)) 975,
    zE (oStore 6 (t 7) (t 26)) 2047])
  (.seq (.region [yP (oFieldAddr 5 (t 5)) 27 0,
    zE (oStore 1 (t 27) (.c (.slice .none 0 0))) 0,
    yP (oFieldAddr 5 (t 6)) 28 0,
    zE (oStore 1 (t 28) (.c (.slice .none 0 0))) 0,
    yP (oFieldAddr 5 (t 7)) 29 0,
    zE (oStore 1 (t 29) (.c (.slice .none 0 0))) 0,
    yP (oFieldAddr 5 (t 3)) 30 0,
    zE (oStore 1 (t 30) (.c (.slice .none 0 0))) 0])
  (.seq (.seq (.region [yR (oLoadA 6 (t 5)) 31 0,
    yR (oLoadA 6 (t 6)) 32 0,
    yR (oLoadA 6 (t 7)) 33 0,
    yR (oLoadA 6 (t 3)) 34 0,
    yN (oBuildSlice 4 [(.int .i64 0), (.int .i64 0), (.int .i32 0), (.int .i32 0), (.int .i32 0), (.slice .none 0 0), (.int .i64 0), (.int .i64 0), (.int .i32 0), (.int .i32 0), (.int .i32 0), (.slice .none 0 0), (.int .i64 0), (.int .i64 0), (.int .i32 0), (.int .i32 0), (.int .i32 0), (.slice .none 0 0), (.int .i64 0), (.int .i64 0), (.int .i32 0), (.int .i32 0), (.int .i32 0), (.slice .none 0 0)] [(0, (6, (t 31))), (6, (6, (t 32))), (12, (6, (t 33))), (18, (6, (t 34)))]) 35 0,
    yE (oEnter 12 [(t 35)]) 36 0,
    yP (oBin Try.prog .neq 24 (.tmp 36) (.const (.int .i64 0)) .none (t 36) (.c (.int .i64 0))) 37 0,
    yP (oMov (t 37)) 38 0,
    yRg (oLoadA 6 (t 5)) 39 38 false 0,
    yRg (oLoadA 6 (t 6)) 40 38 false 0,
    yRg (oLoadA 6 (t 7)) 41 38 false 0,
    yEg (oEnter 14 [(t 39), (t 40), (t 41)]) 42 38 false 0,
    yPg (oBin Try.prog .leq 3 (.tmp 42) (.const (.int .i64 0)) .none (t 42) (.c (.int .i64 0))) 43 38 false 0,
    yP (oPick (t 38) (.c (.bool .true)) (t 43)) 44 0,
    yP (oMov (t 44)) 45 0,
    yRg (oLoadA 6 (t 5)) 46 45 false 0,
    yRg (oLoadA 6 (t 6)) 47 45 false 0,
    yRg (oLoadA 6 (t 3)) 48 45 false 0,
    yEg (oEnter 14 [(t 46), (t 47), (t 48)]) 49 45 false 0,
    yPg (oBin Try.prog .geq 3 (.tmp 49) (.const (.int .i64 0)) .none (t 49) (.c (.int .i64 0))) 50 45 false 0,
    yP (oPick (t 45) (.c (.bool .true)) (t 50)) 51 0])
  (.cond (t 51)
    (.seq (.region [yP (oMov (.c (.bool .true))) 4 0])
    .ret)
    .skip))
  (.seq (.region [yP (oBuild [(.int .i64 0), (.int .i64 0), (.int .i64 0), (.int .i64 0)] [(2, (1, (.c (.int .i64 64)))), (3, (1, (.c (.int .i64 64))))]) 52 0,
    yN (oAlloc [(.int .i64 0), (.int .i64 0), (.int .i64 0), (.int .i64 0)]) 8 0,
    zE (oStore 4 (t 8) (t 52)) 0])
  (.seq (.region [yR (oLoadA 6 (t 5)) 54 0,
    yR (oLoadA 6 (t 6)) 55 0,
    yR (oLoadA 6 (t 7)) 56 0,
    yR (oLoadA 4 (t 8)) 57 0,
    yE (oEnter 15 [(t 54), (t 55), (t 56), (t 57)]) 58 0,
    yP (oMov (t 58)) 53 0,
    yP (oExtract 0 (t 53)) 59 0,
    yP (oExtract 1 (t 53)) 60 0,
    yP (oMov (t 59)) 9 0,
    yP (oMov (t 60)) 10 0])
  (.seq (.region [yR (oLoadA 6 (t 5)) 62 0,
    yR (oLoadA 6 (t 3)) 63 0,
    yR (oLoadA 6 (t 6)) 64 0,
    yR (oLoadA 4 (t 8)) 65 0,
    yE (oEnter 15 [(t 62), (t 63), (t 64), (t 65)]) 66 0,
    yP (oMov (t 66)) 61 0,
    yP (oExtract 0 (t 61)) 67 0,
    yP (oExtract 1 (t 61)) 68 0,
    yP (oMov (t 67)) 11 0,
    yP (oMov (t 68)) 12 0])
  (.seq (.seq (.region [yP (oMov (t 10)) 69 0,
    yP (oBin Try.prog .neq 24 (.tmp 69) (.const (.int .i64 0)) .none (t 69) (.c (.int .i64 0))) 70 0,
    yP (oMov (t 70)) 71 0,
    yPg (oMov (t 12)) 72 71 false 0,
    yPg (oBin Try.prog .neq 24 (.tmp 72) (.const (.int .i64 0)) .none (t 72) (.c (.int .i64 0))) 73 71 false 0,
    yP (oPick (t 71) (.c (.bool .true)) (t 73)) 74 0])
  (.cond (t 74)
    (.seq (.region [yP (oMov (.c (.bool .false))) 4 0])
    .ret)
    .skip))
  (.seq (.region [yN (oMkMap) 75 0,
    yP (oMov (t 75)) 13 0])
  (.seq (.seq (.region [yP (oMov (t 9)) 76 0,
    yP (oMov (t 11)) 77 0,
    yE (oAppend 10 72 (t 76) (t 77)) 78 0,
    yP (oLenS (t 78)) 79 0,
    yP (oMov (.c (.int .i64 0))) 80 0])
  (.block 0
    (.loop a4l2)))
  (.seq (.seq (.region [yP (oMov (.c (.int .i64 0))) 98 0])
  (.block 2
    (.loop a4l1)))
  (.seq (.region [yP (oMov (.c (.bool .true))) 4 0])
  .ret)))))))))))))⟩
def a5l0 : ACode := (.seq (.region [yP (oBin Try.prog .lss 3 (.tmp 146) (.const (.int .i64 16)) .none (t 146) (.c (.int .i64 16))) 147 0])
            (.seq (.cond (t 147)
              .skip
              (.exit 10))
            (.seq (.block 11
              (.seq (.region [yP (oMov (t 146)) 148 0,
                yP (oMov (t 148)) 25 0])
              (.seq (.region [yP (oMov (t 24)) 149 0,
                yP (oBin Try.prog .mul 3 (.const (.int .i64 256)) (.tmp 149) .none (.c (.int .i64 256)) (t 149)) 150 0,
                yP (oBin Try.prog .add 3 (.tmp 150) (.const (.int .i64 128)) .none (t 150) (.c (.int .i64 128))) 151 0,
                yP (oMov (t 25)) 152 0,
                yP (oBin Try.prog .mul 3 (.const (.int .i64 256)) (.tmp 152) .none (.c (.int .i64 256)) (t 152)) 153 0,
                yP (oBin Try.prog .add 3 (.tmp 153) (.const (.int .i64 128)) .none (t 153) (.c (.int .i64 128))) 154 0,
                yP (oMov (t 151)) 26 0,
                yP (oMov (t 154)) 27 0])
              (.seq (.region [yP (oMov (.c (.int .i64 (-1)))) 28 0])
              (.seq (.block 12
                (.seq (.region [yP (oMov (t 26)) 156 0,
                  yP (oBin Try.prog .gtr 3 (.tmp 156) (.const (.int .i64 0)) .none (t 156) (.c (.int .i64 0))) 157 0,
                  yP (oMov (t 157)) 158 0,
                  yPg (oMov (t 27)) 159 158 true 0,
                  yPg (oBin Try.prog .gtr 3 (.tmp 159) (.const (.int .i64 0)) .none (t 159) (.c (.int .i64 0))) 160 158 true 0,
                  yP (oPick (t 158) (t 160) (.c (.bool .false))) 161 0,
                  yP (oMov (t 161)) 162 0,
                  yPg (oMov (t 26)) 163 162 true 0,
                  yPg (oMov (t 22)) 164 162 true 0,
                  yPg (oBin Try.prog .lss 3 (.tmp 163) (.tmp 164) .none (t 163) (t 164)) 165 162 true 0,
                  yP (oPick (t 162) (t 165) (.c (.bool .false))) 166 0,
                  yP (oMov (t 166)) 167 0,
                  yPg (oMov (t 27)) 168 167 true 0,
                  yPg (oMov (t 23)) 169 167 true 0,
                  yPg (oBin Try.prog .lss 3 (.tmp 168) (.tmp 169) .none (t 168) (t 169)) 170 167 true 0,
                  yP (oPick (t 167) (t 170) (.c (.bool .false))) 171 0,
                  yP (oMov (t 171)) 155 0])
                (.cond (t 155)
                  (.region [yP (oMov (.c (.int .i64 1))) 28 0])
                  (.seq (.region [yP (oMov (t 26)) 173 0,
                    yP (oMov (t 22)) 174 0,
                    yP (oBin Try.prog .gtr 3 (.tmp 173) (.tmp 174) .none (t 173) (t 174)) 175 0,
                    yP (oMov (t 175)) 176 0,
                    yPg (oMov (t 27)) 177 176 false 0,
                    yPg (oMov (t 23)) 178 176 false 0,
                    yPg (oBin Try.prog .gtr 3 (.tmp 177) (.tmp 178) .none (t 177) (t 178)) 179 176 false 0,
                    yP (oPick (t 176) (.c (.bool .true)) (t 179)) 180 0,
                    yP (oMov (t 180)) 172 0])
                  (.cond (t 172)
                    (.region [yP (oMov (.c (.int .i64 0))) 28 0])
                    .skip)))))
              (.seq (.region [yP (oMov (t 10)) 181 0,
                yP (oMov (t 24)) 182 0,
                yP (oMov (t 25)) 183 0,
                yP (oBuild [(.int .i64 0), (.int .i64 0)] [(0, (1, (t 182))), (1, (1, (t 183)))]) 184 0,
                yR (oLookup Try.prog 44 (.int .i64 0) .false (t 181) (t 184)) 185 0,
                yP (oMov (t 185)) 29 0])
              (.seq (.region [yP (oMov (t 29)) 186 0,
                yP (oBin Try.prog .gtr 3 (.tmp 186) (.const (.int .i64 1)) .none (t 186) (.c (.int .i64 1))) 187 0,
                yP (oMov (t 187)) 188 0,
                yPg (oMov (t 28)) 189 188 false 0,
                yPg (oBin Try.prog .geq 3 (.tmp 189) (.const (.int .i64 0)) .none (t 189) (.c (.int .i64 0))) 190 188 false 0,
                yPg (oMov (t 190)) 191 188 false 0,
                yPg (oMov (t 29)) 192 191 true 0,
                yPg (oMov (t 28)) 193 191 true 0,
                yPg (oBin Try.prog .neq 3 (.tmp 192) (.tmp 193) .none (t 192) (t 193)) 194 191 true 0,
                yPg (oPick (t 191) (t 194) (.c (.bool .false))) 195 188 false 0,
                yP (oPick (t 188) (.c (.bool .true)) (t 195)) 196 0])
              (.cond (t 196)
                (.seq (.region [yP (oMov (.c (.bool .false))) 6 0])
                .ret)
                .skip))))))))
            (.region [yP (oBin Try.prog .add 3 (.tmp 146) (.const (.int .i64 1)) .none (t 146) (.c (.int .i64 1))) 197 0,
              yP (oMov (t 197)) 146 0]))))
def a5l1 : ACode := (.seq (.region [yP (oBin Try.prog .lss 3 (.tmp 143) (.const (.int .i64 16)) .none (t 143) (.c (.int .i64 16))) 144 0])
      (.seq (.cond (t 144)
        .skip
        (.exit 8))
      (.seq (.block 9
        (.seq (.region [yP (oMov (t 143)) 145 0,
          yP (oMov (t 145)) 24 0])
        (.seq (.region [yP (oMov (.c (.int .i64 0))) 146 0])
        (.block 10
          (.loop a5l0)))))
      (.region [yP (oBin Try.prog .add 3 (.tmp 143) (.const (.int .i64 1)) .none (t 143) (.c (.int .i64 1))) 198 0,
        yP (oMov (t 198)) 143 0]))))
def a5l2 : ACode := (.seq (.region [yP (oBin Try.prog .lss 3 (.tmp 113) (.tmp 112) .none (t 113) (t 112)) 114 0])
                        (.seq (.cond (t 114)
                          .skip
                          (.exit 6))
                        (.seq (.block 7
                          (.seq (.region [yP (oIndexAddrS 10 (t 111) (t 113)) 115 0,
                            yR (oLoadA 10 (t 115)) 116 0,
                            yN (oAlloc [(.int .i64 0), (.int .i64 0), (.int .i32 0), (.int .i32 0), (.bool .false), (.int .i32 0), (.int .i32 0), (.int .i32 0), (.int .i32 0), (.slice .none 0 0)]) 21 0,
                            zE (oStore 10 (t 21) (t 116)) 0])
                          (.draw [yP (oMov (t 10)) 117 0,
                            yP (oFieldAddr 0 (t 21)) 118 0,
                            yR (oLoad1 (t 118)) 119 2,
                            yP (oFieldAddr 1 (t 21)) 120 0,
                            yR (oLoad1 (t 120)) 121 8,
                            yP (oBuild [(.int .i64 0), (.int .i64 0)] [(0, (1, (t 119))), (1, (1, (t 121)))]) 122 30,
                            yR (oLookup Try.prog 44 (.int .i64 0) .false (t 117) (t 122)) 123 63,
                            yP (oBin Try.prog .add 3 (.tmp 123) (.const (.int .i64 1)) .none (t 123) (.c (.int .i64 1))) 124 127,
                            yE (oMapEntry Try.prog 44 (.int .i64 0) (t 117) (t 122)) 125 63,
                            yP (oExtract 1 (t 125)) 126 319,
                            zE (oEntryStore (t 117) (t 126) (t 124)) 1023])))
                        (.region [yP (oBin Try.prog .add 3 (.tmp 113) (.const (.int .i64 1)) .none (t 113) (.c (.int .i64 1))) 127 0,
                          yP (oMov (t 127)) 113 0]))))
def a5l3 : ACode := (.seq (.region [yP (oBin Try.prog .lss 3 (.tmp 95) (.const (.int .i64 2)) .none (t 95) (.c (.int .i64 2))) 96 0])
                  (.seq (.cond (t 96)
                    .skip
                    (.exit 4))
                  (.seq (.block 5
                    (.seq (.region [yP (oIndexA 2 18 .true (t 94) (t 95)) 97 0,
                      yN (oAlloc [(.int .i64 0), (.int .i64 0), (.int .i32 0), (.int .i32 0), (.int .i32 0), (.slice .none 0 0), (.int .i64 0), (.int .i64 0), (.int .i32 0), (.int .i32 0), (.int .i32 0), (.slice .none 0 0), (.int .i64 0), (.int .i64 0), (.int .i32 0), (.int .i32 0), (.int .i32 0), (.slice .none 0 0)]) 17 0,
                      zE (oStore 18 (t 17) (t 97)) 0])
                    (.seq (.region [yP (oIndexAddrA 3 6 (t 17) (.c (.int .i64 0))) 99 0,
                      yR (oLoadA 6 (t 99)) 100 0,
                      yP (oIndexAddrA 3 6 (t 17) (.c (.int .i64 1))) 101 0,
                      yR (oLoadA 6 (t 101)) 102 0,
                      yP (oIndexAddrA 3 6 (t 17) (.c (.int .i64 2))) 103 0,
                      yR (oLoadA 6 (t 103)) 104 0,
                      yP (oBuild [(.int .i64 0), (.int .i64 0), (.int .i64 0), (.int .i64 0)] [(2, (1, (.c (.int .i64 16)))), (3, (1, (.c (.int .i64 16))))]) 105 0,
                      yE (oEnter 15 [(t 100), (t 102), (t 104), (t 105)]) 106 0,
                      yP (oMov (t 106)) 98 0,
                      yP (oExtract 0 (t 98)) 107 0,
                      yP (oExtract 1 (t 98)) 108 0,
                      yP (oMov (t 107)) 18 0,
                      yP (oMov (t 108)) 19 0])
                    (.seq (.seq (.region [yP (oMov (t 19)) 109 0,
                      yP (oBin Try.prog .neq 24 (.tmp 109) (.const (.int .i64 0)) .none (t 109) (.c (.int .i64 0))) 110 0])
                    (.cond (t 110)
                      (.seq (.region [yP (oMov (.c (.bool .false))) 6 0])
                      .ret)
                      .skip))
                    (.seq (.region [yP (oMov (t 18)) 111 0,
                      yP (oLenS (t 111)) 112 0,
                      yP (oMov (.c (.int .i64 0))) 113 0])
                    (.block 6
                      (.loop a5l2)))))))
                  (.region [yP (oBin Try.prog .add 3 (.tmp 95) (.const (.int .i64 1)) .none (t 95) (.c (.int .i64 1))) 128 0,
                    yP (oMov (t 128)) 95 0]))))
def a5l4 : ACode := (.seq (.region [yP (oBin Try.prog .lss 3 (.tmp 48) (.tmp 47) .none (t 48) (t 47)) 49 0])
            (.seq (.cond (t 49)
              .skip
              (.exit 2))
            (.seq (.block 3
              (.seq (.region [yP (oMov (t 48)) 50 0,
                yN (oAlloc [(.int .i64 0)]) 13 0,
                zE (oStore 1 (t 13) (t 50)) 0])
              (.seq (.region [yP (oMkFunc 18 [] [(t 8), (t 12), (t 9), (t 13)]) 51 0,
                yP (oMov (t 51)) 14 0])
              (.seq (.region [yP (oMov (t 14)) 52 0,
                yE (oCallV (t 52) [(.c (.int .i64 0)), (.c (.int .i64 0))]) 53 0,
                yP (oMov (t 14)) 54 0,
                yE (oCallV (t 54) [(.c (.int .i64 1)), (.c (.int .i64 0))]) 55 0,
                yP (oMov (t 14)) 56 0,
                yE (oCallV (t 56) [(.c (.int .i64 1)), (.c (.int .i64 1))]) 57 0,
                yP (oBuild [(.int .i64 0), (.int .i64 0), (.int .i32 0), (.int .i32 0), (.int .i32 0), (.slice .none 0 0), (.int .i64 0), (.int .i64 0), (.int .i32 0), (.int .i32 0), (.int .i32 0), (.slice .none 0 0), (.int .i64 0), (.int .i64 0), (.int .i32 0), (.int .i32 0), (.int .i32 0), (.slice .none 0 0)] [(0, (6, (t 53))), (6, (6, (t 55))), (12, (6, (t 57)))]) 58 0,
                yP (oMov (t 14)) 59 0,
                yE (oCallV (t 59) [(.c (.int .i64 0)), (.c (.int .i64 0))]) 60 0,
                yP (oMov (t 14)) 61 0,
                yE (oCallV (t 61) [(.c (.int .i64 1)), (.c (.int .i64 1))]) 62 0,
                yP (oMov (t 14)) 63 0,
                yE (oCallV (t 63) [(.c (.int .i64 0)), (.c (.int .i64 1))]) 64 0,
                yP (oBuild [(.int .i64 0), (.int .i64 0), (.int .i32 0), (.int .i32 0), (.int .i32 0), (.slice .none 0 0), (.int .i64 0), (.int .i64 0), (.int .i32 0), (.int .i32 0), (.int .i32 0), (.slice .none 0 0), (.int .i64 0), (.int .i64 0), (.int .i32 0), (.int .i32 0), (.int .i32 0), (.slice .none 0 0)] [(0, (6, (t 60))), (6, (6, (t 62))), (12, (6, (t 64)))]) 65 0,
                yP (oBuild [(.int .i64 0), (.int .i64 0), (.int .i32 0), (.int .i32 0), (.int .i32 0), (.slice .none 0 0), (.int .i64 0), (.int .i64 0), (.int .i32 0), (.int .i32 0), (.int .i32 0), (.slice .none 0 0), (.int .i64 0), (.int .i64 0), (.int .i32 0), (.int .i32 0), (.int .i32 0), (.slice .none 0 0), (.int .i64 0), (.int .i64 0), (.int .i32 0), (.int .i32 0), (.int .i32 0), (.slice .none 0 0), (.int .i64 0), (.int .i64 0), (.int .i32 0), (.int .i32 0), (.int .i32 0), (.slice .none 0 0), (.int .i64 0), (.int .i64 0), (.int .i32 0), (.int .i32 0), (.int .i32 0), (.slice .none 0 0)] [(0, (18, (t 58))), (18, (18, (t 65)))]) 66 0,
                yN (oAlloc [(.int .i64 0), (.int .i64 0), (.int .i32 0), (.int .i32 0), (.int .i32 0), (.slice .none 0 0), (.int .i64 0), (.int .i64 0), (.int .i32 0), (.int .i32 0), (.int .i32 0), (.slice .none 0 0), (.int .i64 0), (.int .i64 0), (.int .i32 0), (.int .i32 0), (.int .i32 0), (.slice .none 0 0), (.int .i64 0), (.int .i64 0), (.int .i32 0), (.int .i32 0), (.int .i32 0), (.slice .none 0 0), (.int .i64 0), (.int .i64 0), (.int .i32 0), (.int .i32 0), (.int .i32 0), (.slice .none 0 0), (.int .i64 0), (.int .i64 0), (.int .i32 0), (.int .i32 0), (.int .i32 0), (.slice .none 0 0)]) 15 0,
                zE (oStore 36 (t 15) (t 66)) 0])
              (.seq (.seq (.region [yP (oMov (t 11)) 67 0,
                yP (oMov (t 2)) 68 0,
                yP (oLenS (t 68)) 69 0,
                yP (oBin Try.prog .lss 3 (.tmp 67) (.tmp 69) .none (t 67) (t 69)) 70 0,
                yP (oMov (t 70)) 71 0,
                yPg (oMov (t 2)) 72 71 true 0,
                yPg (oMov (t 11)) 73 71 true 0,
                yPg (oIndexAddrS 1 (t 72) (t 73)) 74 71 true 0,
                yRg (oLoad1 (t 74)) 75 71 true 0,
                yP (oPick (t 71) (t 75) (.c (.bool .false))) 76 0])
              (.cond (t 76)
                (.region [yP (oMov (t 14)) 77 0,
                  yE (oCallV (t 77) [(.c (.int .i64 0)), (.c (.int .i64 0))]) 78 0,
                  yP (oMov (t 14)) 79 0,
                  yE (oCallV (t 79) [(.c (.int .i64 1)), (.c (.int .i64 0))]) 80 0,
                  yP (oMov (t 14)) 81 0,
                  yE (oCallV (t 81) [(.c (.int .i64 0)), (.c (.int .i64 1))]) 82 0,
                  yP (oBuild [(.int .i64 0), (.int .i64 0), (.int .i32 0), (.int .i32 0), (.int .i32 0), (.slice .none 0 0), (.int .i64 0), (.int .i64 0), (.int .i32 0), (.int .i32 0), (.int .i32 0), (.slice .none 0 0), (.int .i64 0), (.int .i64 0), (.int .i32 0), (.int .i32 0), (.int .i32 0), (.slice .none 0 0)] [(0, (6, (t 78))), (6, (6, (t 80))), (12, (6, (t 82)))]) 83 0,
                  yP (oMov (t 14)) 84 0,
                  yE (oCallV (t 84) [(.c (.int .i64 0)), (.c (.int .i64 1))]) 85 0,
                  yP (oMov (t 14)) 86 0,
                  yE (oCallV (t 86) [(.c (.int .i64 1)), (.c (.int .i64 1))]) 87 0,
                  yP (oMov (t 14)) 88 0,
                  yE (oCallV (t 88) [(.c (.int .i64 1)), (.c (.int .i64 0))]) 89 0,
                  yP (oBuild [(.int .i64 0), (.int .i64 0), (.int .i32 0), (.int .i32 0), (.int .i32 0), (.slice .none 0 0), (.int .i64 0), (.int .i64 0), (.int .i32 0), (.int .i32 0), (.int .i32 0), (.slice .none 0 0), (.int .i64 0), (.int .i64 0), (.int .i32 0), (.int .i32 0), (.int .i32 0), (.slice .none 0 0)] [(0, (6, (t 85))), (6, (6, (t 87))), (12, (6, (t 89)))]) 90 0,
                  yP (oBuild [(.int .i64 0), (.int .i64 0), (.int .i32 0), (.int .i32 0), (.int .i32 0), (.slice .none 0 0), (.int .i64 0), (.int .i64 0), (.int .i32 0), (.int .i32 0), (.int .i32 0), (.slice .none 0 0), (.int .i64 0), (.int .i64 0), (.int .i32 0), (.int .i32 0), (.int .i32 0), (.slice .none 0 0), (.int .i64 0), (.int .i64 0), (.int .i32 0), (.int .i32 0), (.int .i32 0), (.slice .none 0 0), (.int .i64 0), (.int .i64 0), (.int .i32 0), (.int .i32 0), (.int .i32 0), (.slice .none 0 0), (.int .i64 0), (.int .i64 0), (.int .i32 0), (.int .i32 0), (.int .i32 0), (.slice .none 0 0)] [(0, (18, (t 83))), (18, (18, (t 90)))]) 91 0,
                  zE (oStore 36 (t 15) (t 91)) 0])
                .skip))
              (.seq (.region [yP (oMov (t 11)) 92 0,
                yP (oBin Try.prog .add 3 (.tmp 92) (.const (.int .i64 1)) .none (t 92) (.c (.int .i64 1))) 93 0,
                yP (oMov (t 93)) 11 0])
              (.seq (.region [yR (oLoadA 36 (t 15)) 94 0,
                yP (oMov (.c (.int .i64 0))) 95 0])
              (.block 4
                (.loop a5l3)))))))))
            (.region [yP (oBin Try.prog .add 3 (.tmp 48) (.const (.int .i64 1)) .none (t 48) (.c (.int .i64 1))) 129 0,
              yP (oMov (t 129)) 48 0]))))
def a5l5 : ACode := (.seq (.region [yP (oBin Try.prog .lss 3 (.tmp 42) (.tmp 41) .none (t 42) (t 41)) 43 0])
      (.seq (.cond (t 43)
        .skip
        (.exit 0))
      (.seq (.block 1
        (.seq (.region [yP (oMov (t 42)) 44 0,
          yN (oAlloc [(.int .i64 0)]) 12 0,
          zE (oStore 1 (t 12) (t 44)) 0])
        (.seq (.region [yR (oLoad1 (t 9)) 45 0,
          yP (oLenS (t 45)) 46 0,
          yP (oBin Try.prog .sub 3 (.tmp 46) (.const (.int .i64 1)) .none (t 46) (.c (.int .i64 1))) 47 0,
          yP (oMov (.c (.int .i64 0))) 48 0])
        (.block 2
          (.loop a5l4)))))
      (.region [yP (oBin Try.prog .add 3 (.tmp 42) (.const (.int .i64 1)) .none (t 42) (.c (.int .i64 1))) 130 0,
        yP (oMov (t 130)) 42 0]))))
def a5 : AFn := ⟨3, [(.t (pa 6))],
  (.seq (.region [yP (oMov (.c (.bool .false))) 6 0])
  (.seq (.seq (.region [yE (oEnter 11 []) 30 0,
    yP (oUn Try.prog .not (t 30)) 31 0])
  (.cond (t 31)
    (.seq (.region [yP (oMov (.c (.bool .false))) 6 0])
    .ret)
    .skip))
  (.seq (.region [yP (oMov (.c (.func (.func 17) #[] #[]))) 7 0])
  (.seq (.region [yP (oMov (t 7)) 32 0,
    yP (oMov (t 0)) 33 0,
    yE (oCallV (t 32) [(t 33)]) 34 0,
    yP (oMov (t 7)) 35 0,
    yP (oMov (t 1)) 36 0,
    yE (oCallV (t 35) [(t 36)]) 37 0,
    yN (oAlloc [(.slice .none 0 0)]) 8 0,
    yN (oAlloc [(.slice .none 0 0)]) 9 0,
    zE (oStore 1 (t 8) (t 34)) 0,
    zE (oStore 1 (t 9) (t 37)) 0])
  (.seq (.region [yN (oMkMap) 38 0,
    yP (oMov (t 38)) 10 0])
  (.seq (.region [yP (oMov (.c (.int .i64 0))) 11 0])
  (.seq (.seq (.region [yR (oLoad1 (t 8)) 39 0,
    yP (oLenS (t 39)) 40 0,
    yP (oBin Try.prog .sub 3 (.tmp 40) (.const (.int .i64 1)) .none (t 40) (.c (.int .i64 1))) 41 0,
    yP (oMov (.c (.int .i64 0))) 42 0])
  (.block 0
    (.loop a5l5)))
  (.seq (.draw [yR (oLoad1 (t 8)) 131 0,
    yR (oLoad1 (t 8)) 132 0,
    yP (oLenS (t 132)) 133 2,
    yP (oBin Try.prog .sub 3 (.tmp 133) (.const (.int .i64 1)) .none (t 133) (.c (.int .i64 1))) 134 6,
    yP (oIndexAddrS 1 (t 131) (t 134)) 135 15,
    yR (oLoad1 (t 135)) 136 31,
    yR (oLoad1 (t 9)) 137 0,
    yR (oLoad1 (t 9)) 138 0,
    yP (oLenS (t 138)) 139 128,
    yP (oBin Try.prog .sub 3 (.tmp 139) (.const (.int .i64 1)) .none (t 139) (.c (.int .i64 1))) 140 384,
    yP (oIndexAddrS 1 (t 137) (t 140)) 141 960,
    yR (oLoad1 (t 141)) 142 1984,
    yP (oMov (t 136)) 22 63,
    yP (oMov (t 142)) 23 8191])
  (.seq (.seq (.region [yP (oMov (.c (.int .i64 0))) 143 0])
  (.block 8
    (.loop a5l1)))
  (.seq (.region [yP (oMov (.c (.bool .true))) 6 0])
  .ret))))))))))⟩
def a6l0 : ACode := (.seq (.region [yP (oBin Try.prog .lss 3 (.tmp 169) (.tmp 168) .none (t 169) (t 168)) 170 0])
      (.seq (.cond (t 170)
        .skip
        (.exit 8))
      (.seq (.block 9
        (.seq (.region [yP (oIndexAddrS 10 (t 167) (t 169)) 171 0,
          yR (oLoadA 10 (t 171)) 172 0,
          yN (oAlloc [(.int .i64 0), (.int .i64 0), (.int .i32 0), (.int .i32 0), (.bool .false), (.int .i32 0), (.int .i32 0), (.int .i32 0), (.int .i32 0), (.slice .none 0 0)]) 18 0,
          zE (oStore 10 (t 18) (t 172)) 0])
        (.seq (.draw [yP (oFieldAddr 9 (t 18)) 173 0,
          yR (oLoad1 (t 173)) 174 1,
          yP (oIndexAddrS 4 (t 174) (.c (.int .i64 0))) 175 3,
          yP (oIndexAddrA 4 1 (t 175) (.c (.int .i64 0))) 176 7,
          yR (oLoad1 (t 176)) 177 15,
          yP (oFieldAddr 2 (t 18)) 178 0,
          yR (oLoad1 (t 178)) 179 32,
          yP (oBin Try.prog .neq 27 (.tmp 177) (.tmp 179) .none (t 177) (t 179)) 180 127])
        (.cond (t 180)
          (.seq (.region [yP (oMov (.c (.bool .false))) 6 0])
          .ret)
          .skip))))
      (.region [yP (oBin Try.prog .add 3 (.tmp 169) (.const (.int .i64 1)) .none (t 169) (.c (.int .i64 1))) 181 0,
        yP (oMov (t 181)) 169 0]))))
def a6l1 : ACode := (.seq (.region [yP (oBin Try.prog .lss 3 (.tmp 139) (.const (.int .i64 3)) .none (t 139) (.c (.int .i64 3))) 140 0])
      (.seq (.cond (t 140)
        .skip
        (.exit 6))
      (.seq (.block 7
        (.seq (.region [yP (oMov (t 139)) 141 0,
          yP (oMov (t 141)) 16 0])
        (.seq (.region [yP (oMov (t 16)) 142 0,
          yP (oMov (t 2)) 143 0,
          yP (oIndexAddrA 3 6 (t 3) (t 142)) 144 0,
          yP (oFieldAddr 3 (t 144)) 145 0,
          zE (oStore 1 (t 145) (t 143)) 0])
        (.region [yP (oMov (t 16)) 146 0,
          yP (oMov (t 16)) 147 0,
          yP (oIndexAddrA 3 6 (t 3) (t 147)) 148 0,
          yP (oFieldAddr 2 (t 148)) 149 0,
          yR (oLoad1 (t 149)) 150 0,
          yP (oBuild [(.int .i32 0), (.int .i32 0), (.int .i32 0), (.int .i32 0)] [(0, (1, (t 150)))]) 151 0,
          yN (oBuildSlice 1 [(.int .i32 0), (.int .i32 0), (.int .i32 0), (.int .i32 0)] [(0, (4, (t 151)))]) 152 0,
          yP (oIndexAddrA 3 6 (t 3) (t 146)) 153 0,
          yP (oFieldAddr 5 (t 153)) 154 0,
          zE (oStore 1 (t 154) (t 152)) 0]))))
      (.region [yP (oBin Try.prog .add 3 (.tmp 139) (.const (.int .i64 1)) .none (t 139) (.c (.int .i64 1))) 155 0,
        yP (oMov (t 155)) 139 0]))))
def a6l2 : ACode := (.seq (.region [yP (oBin Try.prog .lss 3 (.tmp 102) (.const (.int .i64 4)) .none (t 102) (.c (.int .i64 4))) 103 0])
                  (.seq (.cond (t 103)
                    .skip
                    (.exit 4))
                  (.seq (.block 5
                    (.seq (.region [yP (oMov (t 102)) 104 0,
                      yP (oIndexA 4 1 .false (t 101) (t 102)) 105 0,
                      yP (oMov (t 104)) 14 0,
                      yP (oMov (t 105)) 15 0])
                    (.seq (.draw [yP (oMov (t 9)) 106 0,
                      yP (oMov (t 15)) 107 0,
                      yP (oIndexAddrA 3 6 (t 3) (.c (.int .i64 0))) 108 0,
                      yP (oFieldAddr 5 (t 108)) 109 4,
                      yR (oLoad1 (t 109)) 110 12,
                      yP (oMov (t 12)) 111 0,
                      yP (oMov (t 14)) 112 0,
                      yP (oIndexAddrS 4 (t 110) (t 111)) 113 60,
                      yP (oIndexAddrA 4 1 (t 113) (t 112)) 114 252,
                      yR (oLoad1 (t 114)) 115 508,
                      yP (oIndexAddrA 3 6 (t 3) (.c (.int .i64 1))) 116 0,
                      yP (oFieldAddr 5 (t 116)) 117 1024,
                      yR (oLoad1 (t 117)) 118 3072,
                      yP (oMov (t 12)) 119 0,
                      yP (oMov (t 14)) 120 0,
                      yP (oIndexAddrS 4 (t 118) (t 119)) 121 15360,
                      yP (oIndexAddrA 4 1 (t 121) (t 120)) 122 64512,
                      yR (oLoad1 (t 122)) 123 130048,
                      yP (oIndexAddrA 3 6 (t 3) (.c (.int .i64 2))) 124 0,
                      yP (oFieldAddr 5 (t 124)) 125 262144,
                      yR (oLoad1 (t 125)) 126 786432,
                      yP (oMov (t 12)) 127 0,
                      yP (oMov (t 14)) 128 0,
                      yP (oIndexAddrS 4 (t 126) (t 127)) 129 3932160,
                      yP (oIndexAddrA 4 1 (t 129) (t 128)) 130 16515072,
                      yR (oLoad1 (t 130)) 131 33292288,
                      yE (oCallV (t 106) [(t 107), (t 115), (t 123), (t 131)]) 132 67108863,
                      yP (oUn Try.prog .not (t 132)) 133 134217727])
                    (.cond (t 133)
                      (.seq (.region [yP (oMov (.c (.bool .false))) 6 0])
                      .ret)
                      .skip))))
                  (.region [yP (oBin Try.prog .add 3 (.tmp 102) (.const (.int .i64 1)) .none (t 102) (.c (.int .i64 1))) 134 0,
                    yP (oMov (t 134)) 102 0]))))
def a6l3 : ACode := (.seq (.region [yP (oBin Try.prog .lss 3 (.tmp 96) (.tmp 95) .none (t 96) (t 95)) 97 0])
            (.seq (.cond (t 97)
              .skip
              (.exit 2))
            (.seq (.block 3
              (.seq (.region [yP (oMov (t 96)) 98 0,
                yP (oIndexAddrS 4 (t 94) (t 96)) 99 0,
                yR (oLoadA 4 (t 99)) 100 0,
                yN (oAlloc [(.int .i32 0), (.int .i32 0), (.int .i32 0), (.int .i32 0)]) 13 0,
                yP (oMov (t 98)) 12 0,
                zE (oStore 4 (t 13) (t 100)) 0])
              (.seq (.region [yR (oLoadA 4 (t 13)) 101 0,
                yP (oMov (.c (.int .i64 0))) 102 0])
              (.block 4
                (.loop a6l2)))))
            (.region [yP (oBin Try.prog .add 3 (.tmp 96) (.const (.int .i64 1)) .none (t 96) (.c (.int .i64 1))) 135 0,
              yP (oMov (t 135)) 96 0]))))
def a6l4 : ACode := (.seq (.region [yP (oBin Try.prog .lss 3 (.tmp 41) (.tmp 40) .none (t 41) (t 40)) 42 0])
      (.seq (.cond (t 42)
        .skip
        (.exit 0))
      (.seq (.block 1
        (.seq (.region [yP (oIndexAddrS 10 (t 39) (t 41)) 43 0,
          yR (oLoadA 10 (t 43)) 44 0,
          yN (oAlloc [(.int .i64 0), (.int .i64 0), (.int .i32 0), (.int .i32 0), (.bool .false), (.int .i32 0), (.int .i32 0), (.int .i32 0), (.int .i32 0), (.slice .none 0 0)]) 11 0,
          zE (oStore 10 (t 11) (t 44)) 0])
        (.seq (.seq (.region [yP (oMov (t 9)) 45 0,
          yP (oFieldAddr 2 (t 11)) 46 0,
          yR (oLoad1 (t 46)) 47 0,
          yP (oIndexAddrA 3 6 (t 3) (.c (.int .i64 0))) 48 0,
          yP (oFieldAddr 2 (t 48)) 49 0,
          yR (oLoad1 (t 49)) 50 0,
          yP (oIndexAddrA 3 6 (t 3) (.c (.int .i64 1))) 51 0,
          yP (oFieldAddr 2 (t 51)) 52 0,
          yR (oLoad1 (t 52)) 53 0,
          yP (oIndexAddrA 3 6 (t 3) (.c (.int .i64 2))) 54 0,
          yP (oFieldAddr 2 (t 54)) 55 0,
          yR (oLoad1 (t 55)) 56 0,
          yE (oCallV (t 45) [(t 47), (t 50), (t 53), (t 56)]) 57 0,
          yP (oUn Try.prog .not (t 57)) 58 0,
          yP (oMov (t 58)) 59 0,
          yPg (oFieldAddr 0 (t 11)) 60 59 false 0,
          yRg (oLoad1 (t 60)) 61 59 false 0,
          yPg (oFieldAddr 0 (t 4)) 62 59 false 0,
          yRg (oLoad1 (t 62)) 63 59 false 0,
          yPg (oBin Try.prog .lss 3 (.tmp 61) (.tmp 63) .none (t 61) (t 63)) 64 59 false 0,
          yP (oPick (t 59) (.c (.bool .true)) (t 64)) 65 0,
          yP (oMov (t 65)) 66 0,
          yPg (oFieldAddr 0 (t 11)) 67 66 false 0,
          yRg (oLoad1 (t 67)) 68 66 false 0,
          yPg (oFieldAddr 0 (t 4)) 69 66 false 0,
          yRg (oLoad1 (t 69)) 70 66 false 0,
          yPg (oFieldAddr 2 (t 4)) 71 66 false 0,
          yRg (oLoad1 (t 71)) 72 66 false 0,
          yPg (oBin Try.prog .add 3 (.tmp 70) (.tmp 72) .none (t 70) (t 72)) 73 66 false 0,
          yPg (oBin Try.prog .geq 3 (.tmp 68) (.tmp 73) .none (t 68) (t 73)) 74 66 false 0,
          yP (oPick (t 66) (.c (.bool .true)) (t 74)) 75 0,
          yP (oMov (t 75)) 76 0,
          yPg (oFieldAddr 1 (t 11)) 77 76 false 0,
          yRg (oLoad1 (t 77)) 78 76 false 0,
          yPg (oFieldAddr 1 (t 4)) 79 76 false 0,
          yRg (oLoad1 (t 79)) 80 76 false 0,
          yPg (oBin Try.prog .lss 3 (.tmp 78) (.tmp 80) .none (t 78) (t 80)) 81 76 false 0,
          yP (oPick (t 76) (.c (.bool .true)) (t 81)) 82 0,
          yP (oMov (t 82)) 83 0,
          yPg (oFieldAddr 1 (t 11)) 84 83 false 0,
          yRg (oLoad1 (t 84)) 85 83 false 0,
          yPg (oFieldAddr 1 (t 4)) 86 83 false 0,
          yRg (oLoad1 (t 86)) 87 83 false 0,
          yPg (oFieldAddr 3 (t 4)) 88 83 false 0,
          yRg (oLoad1 (t 88)) 89 83 false 0,
          yPg (oBin Try.prog .add 3 (.tmp 87) (.tmp 89) .none (t 87) (t 89)) 90 83 false 0,
          yPg (oBin Try.prog .geq 3 (.tmp 85) (.tmp 90) .none (t 85) (t 90)) 91 83 false 0,
          yP (oPick (t 83) (.c (.bool .true)) (t 91)) 92 0])
        (.cond (t 92)
          (.seq (.region [yP (oMov (.c (.bool .false))) 6 0])
          .ret)
          .skip))
        (.seq (.region [yP (oFieldAddr 9 (t 11)) 93 0,
          yR (oLoad1 (t 93)) 94 0,
          yP (oLenS (t 94)) 95 0,
          yP (oMov (.c (.int .i64 0))) 96 0])
        (.block 2
          (.loop a6l3))))))
      (.region [yP (oBin Try.prog .add 3 (.tmp 41) (.const (.int .i64 1)) .none (t 41) (.c (.int .i64 1))) 136 0,
        yP (oMov (t 136)) 41 0]))))
def a6 : AFn := ⟨3, [(.t (pa 6))],
  (.seq (.region [yN (oBox (t 0)) 3 0,
    yN (oBox (t 1)) 4 0,
    yP (oMov (.c (.bool .false))) 6 0])
  (.seq (.seq (.region [yE (oEnter 11 []) 19 0,
    yP (oUn Try.prog .not (t 19)) 20 0])
  (.cond (t 20)
    (.seq (.region [yP (oMov (.c (.bool .false))) 6 0])
    .ret)
    .skip))
  (.seq (.region [yR (oLoadA 18 (t 3)) 21 0,
    yE (oEnter 19 [(t 21)]) 22 0,
    zE (oStore 18 (t 3) (t 22)) 0])
  (.seq (.region [yP (oIndexAddrA 3 6 (t 3) (.c (.int .i64 0))) 24 0,
    yR (oLoadA 6 (t 24)) 25 0,
    yP (oIndexAddrA 3 6 (t 3) (.c (.int .i64 1))) 26 0,
    yR (oLoadA 6 (t 26)) 27 0,
    yP (oIndexAddrA 3 6 (t 3) (.c (.int .i64 2))) 28 0,
    yR (oLoadA 6 (t 28)) 29 0,
    yR (oLoadA 4 (t 4)) 30 0,
    yE (oEnter 15 [(t 25), (t 27), (t 29), (t 30)]) 31 0,
    yP (oMov (t 31)) 23 0,
    yP (oExtract 0 (t 23)) 32 0,
    yP (oExtract 1 (t 23)) 33 0,
    yP (oMov (t 32)) 7 0,
    yP (oMov (t 33)) 8 0])
  (.seq (.seq (.region [yP (oMov (t 8)) 34 0,
    yP (oBin Try.prog .neq 24 (.tmp 34) (.const (.int .i64 0)) .none (t 34) (.c (.int .i64 0))) 35 0])
  (.cond (t 35)
    (.seq (.region [yP (oMov (t 7)) 36 0,
      yP (oLenS (t 36)) 37 0,
      yP (oBin Try.prog .eql 3 (.tmp 37) (.const (.int .i64 0)) .none (t 37) (.c (.int .i64 0))) 38 0,
      yP (oMov (t 38)) 6 0])
    .ret)
    .skip))
  (.seq (.region [yP (oMov (.c (.func (.func 20) #[] #[]))) 9 0])
  (.seq (.seq (.region [yP (oMov (t 7)) 39 0,
    yP (oLenS (t 39)) 40 0,
    yP (oMov (.c (.int .i64 0))) 41 0])
  (.block 0
    (.loop a6l4)))
  (.seq (.region [yP (oMov (t 2)) 137 0,
    yP (oMinmax Try.prog .true [(t 137), (.c (.int .i32 1))]) 138 0,
    yP (oMov (t 138)) 2 0])
  (.seq (.seq (.region [yP (oMov (.c (.int .i64 0))) 139 0])
  (.block 6
    (.loop a6l1)))
  (.seq (.region [yP (oIndexAddrA 3 6 (t 3) (.c (.int .i64 0))) 157 0,
    yR (oLoadA 6 (t 157)) 158 0,
    yP (oIndexAddrA 3 6 (t 3) (.c (.int .i64 1))) 159 0,
    yR (oLoadA 6 (t 159)) 160 0,
    yP (oIndexAddrA 3 6 (t 3) (.c (.int .i64 2))) 161 0,
    yR (oLoadA 6 (t 161)) 162 0,
    yR (oLoadA 4 (t 4)) 163 0,
    yE (oEnter 15 [(t 158), (t 160), (t 162), (t 163)]) 164 0,
    yP (oMov (t 164)) 156 0,
    yP (oExtract 0 (t 156)) 165 0,
    yP (oExtract 1 (t 156)) 166 0,
    yP (oMov (t 165)) 7 0,
    yP (oMov (t 166)) 8 0])
  (.seq (.seq (.region [yP (oMov (t 7)) 167 0,
    yP (oLenS (t 167)) 168 0,
    yP (oMov (.c (.int .i64 0))) 169 0])
  (.block 8
    (.loop a6l0)))
  (.seq (.region [yP (oMov (t 8)) 182 0,
    yP (oBin Try.prog .eql 24 (.tmp 182) (.const (.int .i64 0)) .none (t 182) (.c (.int .i64 0))) 183 0,
    yP (oMov (t 183)) 6 0])
  .ret))))))))))))⟩
def a7 : AFn := ⟨3, [(.t (pa 6))],
  (.seq (.region [yN (oBox (t 0)) 3 0,
    yP (oMov (.c (.bool .false))) 6 0])
  (.seq (.seq (.region [yE (oEnter 11 []) 11 0,
    yP (oUn Try.prog .not (t 11)) 12 0])
  (.cond (t 12)
    (.seq (.region [yP (oMov (.c (.bool .false))) 6 0])
    .ret)
    .skip))
  (.seq (.region [yR (oLoadA 18 (t 3)) 13 0,
    yE (oEnter 19 [(t 13)]) 14 0,
    zE (oStore 18 (t 3) (t 14)) 0])
  (.seq (.region [yP (oIndexAddrA 3 6 (t 3) (.c (.int .i64 0))) 16 0,
    yR (oLoadA 6 (t 16)) 17 0,
    yP (oIndexAddrA 3 6 (t 3) (.c (.int .i64 1))) 18 0,
    yR (oLoadA 6 (t 18)) 19 0,
    yP (oIndexAddrA 3 6 (t 3) (.c (.int .i64 2))) 20 0,
    yR (oLoadA 6 (t 20)) 21 0,
    yP (oMov (t 1)) 22 0,
    yP (oMov (t 2)) 23 0,
    yE (oEnter 21 [(t 17), (t 19), (t 21), (t 22), (t 23)]) 24 0,
    yP (oMov (t 24)) 15 0,
    yP (oExtract 0 (t 15)) 25 0,
    yP (oExtract 1 (t 15)) 26 0,
    yN (oAlloc [(.int .i64 0), (.int .i64 0), (.int .i32 0), (.int .i32 0), (.bool .false), (.int .i32 0), (.int .i32 0), (.int .i32 0), (.int .i32 0), (.slice .none 0 0)]) 7 0,
    zE (oStore 10 (t 7) (t 25)) 0,
    yP (oMov (t 26)) 8 0])
  (.seq (.region [yP (oIndexAddrA 3 6 (t 3) (.c (.int .i64 0))) 27 0,
    yR (oLoadA 6 (t 27)) 28 0,
    yP (oIndexAddrA 3 6 (t 3) (.c (.int .i64 1))) 29 0,
    yR (oLoadA 6 (t 29)) 30 0,
    yP (oIndexAddrA 3 6 (t 3) (.c (.int .i64 2))) 31 0,
    yR (oLoadA 6 (t 31)) 32 0,
    yP (oMov (t 1)) 33 0,
    yP (oMov (t 2)) 34 0,
    yE (oEnter 22 [(t 28), (t 30), (t 32), (t 33), (t 34)]) 35 0,
    yP (oMov (t 35)) 9 0])
  (.seq (.region [yR (oLoadA 10 (t 7)) 36 0,
    yN (oBuildSlice 1 [(.int .i64 0), (.int .i64 0), (.int .i32 0), (.int .i32 0), (.bool .false), (.int .i32 0), (.int .i32 0), (.int .i32 0), (.int .i32 0), (.slice .none 0 0)] [(0, (10, (t 36)))]) 37 0,
    yP (oBuild [(.int .i64 0), (.int .i64 0), (.int .i32 0), (.int .i32 0), (.bool .false), (.int .i32 0), (.int .i32 0), (.int .i32 0), (.int .i32 0), (.slice .none 0 0)] []) 38 0,
    yN (oBuildSlice 1 [(.int .i64 0), (.int .i64 0), (.int .i32 0), (.int .i32 0), (.bool .false), (.int .i32 0), (.int .i32 0), (.int .i32 0), (.int .i32 0), (.slice .none 0 0)] [(0, (10, (t 38)))]) 39 0,
    yE (oEnter 23 [(t 37), (t 39)]) 40 0,
    yP (oMov (t 40)) 10 0])
  (.seq (.seq (.region [yR (oLoadA 18 (t 3)) 41 0,
    yE (oEnter 24 [(t 41)]) 42 0,
    yP (oUn Try.prog .not (t 42)) 43 0])
  (.cond (t 43)
    (.seq (.region [yP (oMov (t 8)) 44 0,
      yP (oBin Try.prog .eql 24 (.tmp 44) (.const (.int .i64 320)) .none (t 44) (.c (.int .i64 320))) 45 0,
      yP (oMov (t 45)) 46 0,
      yPg (oMov (t 10)) 47 46 true 0,
      yP (oPick (t 46) (t 47) (.c (.bool .false))) 48 0,
      yP (oMov (t 48)) 49 0,
      yPg (oMov (t 9)) 50 49 true 0,
      yPg (oUn Try.prog .not (t 50)) 51 49 true 0,
      yP (oPick (t 49) (t 51) (.c (.bool .false))) 52 0,
      yP (oMov (t 52)) 6 0])
    .ret)
    .skip))
  (.seq (.seq (.region [yP (oIndexAddrA 3 6 (t 3) (.c (.int .i64 0))) 53 0,
    yR (oLoadA 6 (t 53)) 54 0,
    yP (oIndexAddrA 3 6 (t 3) (.c (.int .i64 1))) 55 0,
    yR (oLoadA 6 (t 55)) 56 0,
    yP (oIndexAddrA 3 6 (t 3) (.c (.int .i64 2))) 57 0,
    yR (oLoadA 6 (t 57)) 58 0,
    yP (oMov (t 1)) 59 0,
    yP (oMov (t 2)) 60 0,
    yE (oEnter 25 [(t 54), (t 56), (t 58), (t 59), (t 60)]) 61 0,
    yP (oUn Try.prog .not (t 61)) 62 0])
  (.cond (t 62)
    (.seq (.region [yP (oMov (t 8)) 63 0,
      yP (oBin Try.prog .eql 24 (.tmp 63) (.const (.int .i64 4)) .none (t 63) (.c (.int .i64 4))) 64 0,
      yP (oMov (t 64)) 65 0,
      yPg (oMov (t 10)) 66 65 true 0,
      yP (oPick (t 65) (t 66) (.c (.bool .false))) 67 0,
      yP (oMov (t 67)) 68 0,
      yPg (oMov (t 9)) 69 68 true 0,
      yPg (oUn Try.prog .not (t 69)) 70 68 true 0,
      yP (oPick (t 68) (t 70) (.c (.bool .false))) 71 0,
      yP (oMov (t 71)) 6 0])
    .ret)
    .skip))
  (.seq (.draw [yP (oMov (t 8)) 72 0,
    yP (oBin Try.prog .eql 24 (.tmp 72) (.const (.int .i64 0)) .none (t 72) (.c (.int .i64 0))) 73 1,
    yP (oMov (t 73)) 74 3,
    yPg (oMov (t 9)) 75 74 true 7,
    yP (oPick (t 74) (t 75) (.c (.bool .false))) 76 15,
    yP (oMov (t 76)) 77 31,
    yRg (oLoadA 10 (t 7)) 78 77 true 63,
    yNg (oBuildSlice 1 [(.int .i64 0), (.int .i64 0), (.int .i32 0), (.int .i32 0), (.bool .false), (.int .i32 0), (.int .i32 0), (.int .i32 0), (.int .i32 0), (.slice .none 0 0)] [(0, (10, (t 78)))]) 79 77 true 127,
    yPg (oIndexAddrA 3 6 (t 3) (.c (.int .i64 0))) 80 77 true 63,
    yRg (oLoadA 6 (t 80)) 81 77 true 319,
    yPg (oIndexAddrA 3 6 (t 3) (.c (.int .i64 1))) 82 77 true 63,
    yRg (oLoadA 6 (t 82)) 83 77 true 1087,
    yPg (oIndexAddrA 3 6 (t 3) (.c (.int .i64 2))) 84 77 true 63,
    yRg (oLoadA 6 (t 84)) 85 77 true 4159,
    yPg (oMov (t 1)) 86 77 true 63,
    yPg (oMov (t 2)) 87 77 true 63,
    yEg (oEnter 26 [(t 81), (t 83), (t 85), (t 86), (t 87)]) 88 77 true 65343,
    yNg (oBuildSlice 1 [(.int .i64 0), (.int .i64 0), (.int .i32 0), (.int .i32 0), (.bool .false), (.int .i32 0), (.int .i32 0), (.int .i32 0), (.int .i32 0), (.slice .none 0 0)] [(0, (10, (t 88)))]) 89 77 true 130879,
    yEg (oEnter 23 [(t 79), (t 89)]) 90 77 true 262143,
    yP (oPick (t 77) (t 90) (.c (.bool .false))) 91 524287,
    yP (oMov (t 91)) 6 1048575])
  .ret)))))))))⟩
def a8l0 : ACode := (.seq (.region [yP (oBin Try.prog .lss 3 (.tmp 174) (.tmp 173) .none (t 174) (t 173)) 175 0])
            (.seq (.cond (t 175)
              .skip
              (.exit 11))
            (.seq (.block 12
              (.seq (.region [yP (oMov (t 174)) 176 0,
                yP (oMov (t 176)) 14 0])
              (.seq (.draw [yP (oMov (t 13)) 177 0,
                yP (oIndexAddrA 3 6 (t 2) (t 177)) 178 1,
                yP (oFieldAddr 5 (t 178)) 179 3,
                yR (oLoad1 (t 179)) 180 7,
                yP (oMov (t 14)) 181 0,
                yP (oIndexAddrS 4 (t 180) (t 181)) 182 31,
                yR (oLoadA 4 (t 182)) 183 63,
                yP (oMov (t 13)) 184 0,
                yP (oIndexAddrA 3 6 (t 5) (t 184)) 185 128,
                yP (oFieldAddr 5 (t 185)) 186 384,
                yR (oLoad1 (t 186)) 187 896,
                yP (oMov (t 14)) 188 0,
                yP (oIndexAddrS 4 (t 187) (t 188)) 189 3968,
                yR (oLoadA 4 (t 189)) 190 8064,
                yP (oBin Try.prog .neq 40 (.tmp 183) (.tmp 190) .none (t 183) (t 190)) 191 16383])
              (.cond (t 191)
                (.seq (.region [yP (oMov (.c (.bool .false))) 4 0])
                .ret)
                .skip))))
            (.region [yP (oBin Try.prog .add 3 (.tmp 174) (.const (.int .i64 1)) .none (t 174) (.c (.int .i64 1))) 192 0,
              yP (oMov (t 192)) 174 0]))))
def a8l1 : ACode := (.seq (.region [yP (oBin Try.prog .lss 3 (.tmp 166) (.const (.int .i64 3)) .none (t 166) (.c (.int .i64 3))) 167 0])
      (.seq (.cond (t 167)
        .skip
        (.exit 9))
      (.seq (.block 10
        (.seq (.region [yP (oMov (t 166)) 168 0,
          yP (oMov (t 168)) 13 0])
        (.seq (.region [yP (oMov (t 13)) 169 0,
          yP (oIndexAddrA 3 6 (t 2) (t 169)) 170 0,
          yP (oFieldAddr 5 (t 170)) 171 0,
          yR (oLoad1 (t 171)) 172 0,
          yP (oLenS (t 172)) 173 0,
          yP (oMov (.c (.int .i64 0))) 174 0])
        (.block 11
          (.loop a8l0)))))
      (.region [yP (oBin Try.prog .add 3 (.tmp 166) (.const (.int .i64 1)) .none (t 166) (.c (.int .i64 1))) 193 0,
        yP (oMov (t 193)) 166 0]))))
def a8l2 : ACode := (.seq (.region [yP (oBin Try.prog .lss 3 (.tmp 153) (.tmp 152) .none (t 153) (t 152)) 154 0])
            (.seq (.cond (t 154)
              .skip
              (.exit 7))
            (.seq (.block 8
              (.seq (.region [yP (oMov (t 153)) 155 0,
                yP (oMov (t 155)) 12 0])
              (.region [yP (oMov (t 6)) 156 0,
                yP (oMov (t 11)) 157 0,
                yP (oIndexAddrS 10 (t 156) (t 157)) 158 0,
                yP (oFieldAddr 9 (t 158)) 159 0,
                yR (oLoad1 (t 159)) 160 0,
                yP (oMov (t 12)) 161 0,
                yP (oBuild [(.int .i32 0), (.int .i32 0), (.int .i32 0), (.int .i32 0)] [(0, (1, (.c (.int .i32 9))))]) 162 0,
                yP (oIndexAddrS 4 (t 160) (t 161)) 163 0,
                zE (oStore 4 (t 163) (t 162)) 0])))
            (.region [yP (oBin Try.prog .add 3 (.tmp 153) (.const (.int .i64 1)) .none (t 153) (.c (.int .i64 1))) 164 0,
              yP (oMov (t 164)) 153 0]))))
def a8l3 : ACode := (.seq (.region [yP (oBin Try.prog .lss 3 (.tmp 144) (.tmp 143) .none (t 144) (t 143)) 145 0])
      (.seq (.cond (t 145)
        .skip
        (.exit 5))
      (.seq (.block 6
        (.seq (.region [yP (oMov (t 144)) 146 0,
          yP (oMov (t 146)) 11 0])
        (.seq (.region [yP (oMov (t 6)) 147 0,
          yP (oMov (t 11)) 148 0,
          yP (oIndexAddrS 10 (t 147) (t 148)) 149 0,
          yP (oFieldAddr 9 (t 149)) 150 0,
          yR (oLoad1 (t 150)) 151 0,
          yP (oLenS (t 151)) 152 0,
          yP (oMov (.c (.int .i64 0))) 153 0])
        (.block 7
          (.loop a8l2)))))
      (.region [yP (oBin Try.prog .add 3 (.tmp 144) (.const (.int .i64 1)) .none (t 144) (.c (.int .i64 1))) 165 0,
        yP (oMov (t 165)) 144 0]))))
def a8l4 : ACode := (.seq (.region [yP (oBin Try.prog .lss 3 (.tmp 40) (.tmp 39) .none (t 40) (t 39)) 41 0])
            (.seq (.cond (t 41)
              .skip
              (.exit 2))
            (.seq (.block 3
              (.seq (.region [yP (oMov (t 40)) 42 0,
                yP (oMov (t 42)) 9 0])
              (.seq (.draw [yP (oMov (t 8)) 43 0,
                yP (oIndexAddrA 3 6 (t 2) (t 43)) 44 1,
                yP (oFieldAddr 5 (t 44)) 45 3,
                yR (oLoad1 (t 45)) 46 7,
                yP (oMov (t 9)) 47 0,
                yP (oIndexAddrS 4 (t 46) (t 47)) 48 31,
                yR (oLoadA 4 (t 48)) 49 63,
                yP (oMov (t 8)) 50 0,
                yP (oIndexAddrA 3 6 (t 5) (t 50)) 51 128,
                yP (oFieldAddr 5 (t 51)) 52 384,
                yR (oLoad1 (t 52)) 53 896,
                yP (oMov (t 9)) 54 0,
                yP (oIndexAddrS 4 (t 53) (t 54)) 55 3968,
                yR (oLoadA 4 (t 55)) 56 8064,
                yP (oBin Try.prog .neq 40 (.tmp 49) (.tmp 56) .none (t 49) (t 56)) 57 16383])
              (.cond (t 57)
                (.seq (.region [yP (oMov (.c (.bool .false))) 4 0])
                .ret)
                .skip))))
            (.region [yP (oBin Try.prog .add 3 (.tmp 40) (.const (.int .i64 1)) .none (t 40) (.c (.int .i64 1))) 58 0,
              yP (oMov (t 58)) 40 0]))))
def a8l5 : ACode := (.seq (.region [yP (oBin Try.prog .lss 3 (.tmp 32) (.const (.int .i64 3)) .none (t 32) (.c (.int .i64 3))) 33 0])
      (.seq (.cond (t 33)
        .skip
        (.exit 0))
      (.seq (.block 1
        (.seq (.region [yP (oMov (t 32)) 34 0,
          yP (oMov (t 34)) 8 0])
        (.seq (.region [yP (oMov (t 8)) 35 0,
          yP (oIndexAddrA 3 6 (t 2) (t 35)) 36 0,
          yP (oFieldAddr 5 (t 36)) 37 0,
          yR (oLoad1 (t 37)) 38 0,
          yP (oLenS (t 38)) 39 0,
          yP (oMov (.c (.int .i64 0))) 40 0])
        (.block 2
          (.loop a8l4)))))
      (.region [yP (oBin Try.prog .add 3 (.tmp 32) (.const (.int .i64 1)) .none (t 32) (.c (.int .i64 1))) 59 0,
        yP (oMov (t 59)) 32 0]))))
def a8 : AFn := ⟨2, [(.t (pa 4))],
  (.seq (.region [yN (oBox (t 0)) 2 0,
    yN (oBox (t 1)) 3 0,
    yP (oMov (.c (.bool .false))) 4 0])
  (.seq (.seq (.region [yE (oEnter 11 []) 15 0,
    yP (oUn Try.prog .not (t 15)) 16 0])
  (.cond (t 16)
    (.seq (.region [yP (oMov (.c (.bool .false))) 4 0])
    .ret)
    .skip))
  (.seq (.region [yR (oLoadA 18 (t 2)) 17 0,
    yE (oEnter 19 [(t 17)]) 18 0,
    zE (oStore 18 (t 2) (t 18)) 0])
  (.seq (.region [yR (oLoadA 18 (t 2)) 19 0,
    yE (oEnter 19 [(t 19)]) 20 0,
    yN (oAlloc [(.int .i64 0), (.int .i64 0), (.int .i32 0), (.int .i32 0), (.int .i32 0), (.slice .none 0 0), (.int .i64 0), (.int .i64 0), (.int .i32 0), (.int .i32 0), (.int .i32 0), (.slice .none 0 0), (.int .i64 0), (.int .i64 0), (.int .i32 0), (.int .i32 0), (.int .i32 0), (.slice .none 0 0)]) 5 0,
    zE (oStore 18 (t 5) (t 20)) 0])
  (.seq (.region [yP (oIndexAddrA 3 6 (t 2) (.c (.int .i64 0))) 22 0,
    yR (oLoadA 6 (t 22)) 23 0,
    yP (oIndexAddrA 3 6 (t 2) (.c (.int .i64 1))) 24 0,
    yR (oLoadA 6 (t 24)) 25 0,
    yP (oIndexAddrA 3 6 (t 2) (.c (.int .i64 2))) 26 0,
    yR (oLoadA 6 (t 26)) 27 0,
    yR (oLoadA 4 (t 3)) 28 0,
    yE (oEnter 15 [(t 23), (t 25), (t 27), (t 28)]) 29 0,
    yP (oMov (t 29)) 21 0,
    yP (oExtract 0 (t 21)) 30 0,
    yP (oExtract 1 (t 21)) 31 0,
    yP (oMov (t 30)) 6 0,
    yP (oMov (t 31)) 7 0])
  (.seq (.seq (.region [yP (oMov (.c (.int .i64 0))) 32 0])
  (.block 0
    (.loop a8l5)))
  (.seq (.block 4
    (.seq (.region [yR (oLoadA 18 (t 5)) 61 0,
      yE (oEnter 24 [(t 61)]) 62 0,
      yP (oUn Try.prog .not (t 62)) 63 0,
      yP (oMov (t 63)) 60 0])
    (.cond (t 60)
      (.seq (.region [yP (oMov (t 7)) 64 0,
        yP (oBin Try.prog .eql 24 (.tmp 64) (.const (.int .i64 320)) .none (t 64) (.c (.int .i64 320))) 65 0,
        yP (oMov (t 65)) 66 0,
        yPg (oMov (t 6)) 67 66 true 0,
        yPg (oLenS (t 67)) 68 66 true 0,
        yPg (oBin Try.prog .eql 3 (.tmp 68) (.const (.int .i64 0)) .none (t 68) (.c (.int .i64 0))) 69 66 true 0,
        yP (oPick (t 66) (t 69) (.c (.bool .false))) 70 0,
        yP (oMov (t 70)) 71 0,
        yPg (oIndexAddrA 3 6 (t 2) (.c (.int .i64 0))) 72 71 true 0,
        yRg (oLoadA 6 (t 72)) 73 71 true 0,
        yPg (oIndexAddrA 3 6 (t 2) (.c (.int .i64 1))) 74 71 true 0,
        yRg (oLoadA 6 (t 74)) 75 71 true 0,
        yPg (oIndexAddrA 3 6 (t 2) (.c (.int .i64 2))) 76 71 true 0,
        yRg (oLoadA 6 (t 76)) 77 71 true 0,
        yNg (oBuildSlice 3 [(.int .i64 0), (.int .i64 0), (.int .i32 0), (.int .i32 0), (.int .i32 0), (.slice .none 0 0), (.int .i64 0), (.int .i64 0), (.int .i32 0), (.int .i32 0), (.int .i32 0), (.slice .none 0 0), (.int .i64 0), (.int .i64 0), (.int .i32 0), (.int .i32 0), (.int .i32 0), (.slice .none 0 0)] [(0, (6, (t 73))), (6, (6, (t 75))), (12, (6, (t 77)))]) 78 71 true 0,
        yEg (oEnter 12 [(t 78)]) 79 71 true 0,
        yPg (oBin Try.prog .eql 24 (.tmp 79) (.const (.int .i64 320)) .none (t 79) (.c (.int .i64 320))) 80 71 true 0,
        yP (oPick (t 71) (t 80) (.c (.bool .false))) 81 0,
        yP (oMov (t 81)) 82 0,
        yPg (oIndexAddrA 3 6 (t 2) (.c (.int .i64 0))) 83 82 true 0,
        yRg (oLoadA 6 (t 83)) 84 82 true 0,
        yPg (oIndexAddrA 3 6 (t 2) (.c (.int .i64 1))) 85 82 true 0,
        yRg (oLoadA 6 (t 85)) 86 82 true 0,
        yPg (oIndexAddrA 3 6 (t 2) (.c (.int .i64 2))) 87 82 true 0,
        yRg (oLoadA 6 (t 87)) 88 82 true 0,
        yEg (oEnter 14 [(t 84), (t 86), (t 88)]) 89 82 true 0,
        yPg (oBin Try.prog .eql 3 (.tmp 89) (.const (.int .i64 0)) .none (t 89) (.c (.int .i64 0))) 90 82 true 0,
        yP (oPick (t 82) (t 90) (.c (.bool .false))) 91 0,
        yP (oMov (t 91)) 4 0])
      .ret)
      (.seq (.region [yR (oLoadA 4 (t 3)) 93 0,
        yE (oEnter 27 [(t 93)]) 94 0,
        yP (oUn Try.prog .not (t 94)) 95 0,
        yP (oMov (t 95)) 92 0])
      (.cond (t 92)
        (.seq (.region [yP (oMov (t 7)) 96 0,
          yP (oBin Try.prog .eql 24 (.tmp 96) (.const (.int .i64 2)) .none (t 96) (.c (.int .i64 2))) 97 0,
          yP (oMov (t 97)) 98 0,
          yPg (oMov (t 6)) 99 98 true 0,
          yPg (oLenS (t 99)) 100 98 true 0,
          yPg (oBin Try.prog .eql 3 (.tmp 100) (.const (.int .i64 0)) .none (t 100) (.c (.int .i64 0))) 101 98 true 0,
          yP (oPick (t 98) (t 101) (.c (.bool .false))) 102 0,
          yP (oMov (t 102)) 4 0])
        .ret)
        .skip)))))
  (.seq (.region [yP (oIndexAddrA 3 6 (t 5) (.c (.int .i64 0))) 103 0,
    yR (oLoadA 6 (t 103)) 104 0,
    yP (oIndexAddrA 3 6 (t 5) (.c (.int .i64 1))) 105 0,
    yR (oLoadA 6 (t 105)) 106 0,
    yP (oIndexAddrA 3 6 (t 5) (.c (.int .i64 2))) 107 0,
    yR (oLoadA 6 (t 107)) 108 0,
    yR (oLoadA 4 (t 3)) 109 0,
    yE (oEnter 28 [(t 104), (t 106), (t 108), (t 109)]) 110 0,
    yP (oMov (t 110)) 10 0])
  (.seq (.seq (.draw [yP (oMov (t 7)) 111 0,
    yP (oBin Try.prog .neq 24 (.tmp 111) (.const (.int .i64 0)) .none (t 111) (.c (.int .i64 0))) 112 1,
    yP (oMov (t 112)) 113 3,
    yPg (oMov (t 6)) 114 113 false 7,
    yPg (oMov (t 10)) 115 113 false 7,
    yEg (oEnter 23 [(t 114), (t 115)]) 116 113 false 31,
    yPg (oUn Try.prog .not (t 116)) 117 113 false 63,
    yP (oPick (t 113) (.c (.bool .true)) (t 117)) 118 127,
    yP (oMov (t 118)) 119 255,
    yPg (oMov (t 6)) 120 119 false 511,
    yPg (oMov (t 10)) 121 119 false 511,
    yEg (oEnter 29 [(t 120), (t 121)]) 122 119 false 2047,
    yPg (oUn Try.prog .not (t 122)) 123 119 false 4095,
    yP (oPick (t 119) (.c (.bool .true)) (t 123)) 124 8191,
    yP (oMov (t 124)) 125 16383,
    yPg (oIndexAddrA 3 6 (t 2) (.c (.int .i64 0))) 126 125 false 32767,
    yRg (oLoadA 6 (t 126)) 127 125 false 65535,
    yPg (oIndexAddrA 3 6 (t 2) (.c (.int .i64 1))) 128 125 false 32767,
    yRg (oLoadA 6 (t 128)) 129 125 false 163839,
    yPg (oIndexAddrA 3 6 (t 2) (.c (.int .i64 2))) 130 125 false 32767,
    yRg (oLoadA 6 (t 130)) 131 125 false 557055,
    yEg (oEnter 14 [(t 127), (t 129), (t 131)]) 132 125 false 2097151,
    yPg (oIndexAddrA 3 6 (t 5) (.c (.int .i64 0))) 133 125 false 32767,
    yRg (oLoadA 6 (t 133)) 134 125 false 4227071,
    yPg (oIndexAddrA 3 6 (t 5) (.c (.int .i64 1))) 135 125 false 32767,
    yRg (oLoadA 6 (t 135)) 136 125 false 16809983,
    yPg (oIndexAddrA 3 6 (t 5) (.c (.int .i64 2))) 137 125 false 32767,
    yRg (oLoadA 6 (t 137)) 138 125 false 67141631,
    yEg (oEnter 30 [(t 134), (t 136), (t 138)]) 139 125 false 268435455,
    yPg (oBin Try.prog .neq 3 (.tmp 132) (.tmp 139) .none (t 132) (t 139)) 140 125 false 536870911,
    yP (oPick (t 125) (.c (.bool .true)) (t 140)) 141 1073741823])
  (.cond (t 141)
    (.seq (.region [yP (oMov (.c (.bool .false))) 4 0])
    .ret)
    .skip))
  (.seq (.seq (.region [yP (oMov (t 6)) 142 0,
    yP (oLenS (t 142)) 143 0,
    yP (oMov (.c (.int .i64 0))) 144 0])
  (.block 5
    (.loop a8l3)))
  (.seq (.seq (.region [yP (oMov (.c (.int .i64 0))) 166 0])
  (.block 9
    (.loop a8l1)))
  (.seq (.region [yP (oIndexAddrA 3 6 (t 2) (.c (.int .i64 0))) 194 0,
    yR (oLoadA 6 (t 194)) 195 0,
    yP (oIndexAddrA 3 6 (t 2) (.c (.int .i64 1))) 196 0,
    yR (oLoadA 6 (t 196)) 197 0,
    yP (oIndexAddrA 3 6 (t 2) (.c (.int .i64 2))) 198 0,
    yR (oLoadA 6 (t 198)) 199 0,
    yN (oBuildSlice 3 [(.int .i64 0), (.int .i64 0), (.int .i32 0), (.int .i32 0), (.int .i32 0), (.slice .none 0 0), (.int .i64 0), (.int .i64 0), (.int .i32 0), (.int .i32 0), (.int .i32 0), (.slice .none 0 0), (.int .i64 0), (.int .i64 0), (.int .i32 0), (.int .i32 0), (.int .i32 0), (.slice .none 0 0)] [(0, (6, (t 195))), (6, (6, (t 197))), (12, (6, (t 199)))]) 200 0,
    yE (oEnter 12 [(t 200)]) 201 0,
    yP (oBin Try.prog .eql 24 (.tmp 201) (.const (.int .i64 0)) .none (t 201) (.c (.int .i64 0))) 202 0,
    yP (oMov (t 202)) 4 0])
  .ret))))))))))))⟩
def a9 : AFn := ⟨2, [(.t (pa 4))],
  (.seq (.region [yP (oMov (.c (.bool .false))) 4 0])
  (.seq (.seq (.region [yE (oEnter 11 []) 5 0,
    yP (oUn Try.prog .not (t 5)) 6 0])
  (.cond (t 6)
    (.seq (.region [yP (oMov (.c (.bool .false))) 4 0])
    .ret)
    .skip))
  (.seq (.draw [yP (oMov (t 0)) 7 0,
    yP (oMov (t 0)) 8 0,
    yP (oLenS (t 8)) 9 2,
    yP (oMinmax Try.prog .false [(t 9), (.c (.int .i64 20))]) 10 6,
    yP (oSliceS 10 (t 7) .none (.some (t 10)) .none) 11 15,
    yP (oMov (t 1)) 12 0,
    yP (oMov (t 1)) 13 0,
    yP (oLenS (t 13)) 14 64,
    yP (oMinmax Try.prog .false [(t 14), (.c (.int .i64 20))]) 15 192,
    yP (oSliceS 10 (t 12) .none (.some (t 15)) .none) 16 480,
    yP (oMov (t 11)) 0 31,
    yP (oMov (t 16)) 1 2047])
  (.seq (.region [yP (oMov (t 0)) 17 0,
    yP (oMov (t 1)) 18 0,
    yE (oEnter 29 [(t 17), (t 18)]) 19 0,
    yP (oMov (t 0)) 20 0,
    yP (oMov (t 1)) 21 0,
    yE (oEnter 23 [(t 20), (t 21)]) 22 0,
    yP (oBin Try.prog .eql 4 (.tmp 19) (.tmp 22) .none (t 19) (t 22)) 23 0,
    yP (oMov (t 23)) 24 0,
    yPg (oMov (t 0)) 25 24 true 0,
    yPg (oMov (t 0)) 26 24 true 0,
    yEg (oEnter 29 [(t 25), (t 26)]) 27 24 true 0,
    yP (oPick (t 24) (t 27) (.c (.bool .false))) 28 0,
    yP (oMov (t 28)) 4 0])
  .ret))))⟩
def a10l0 : ACode := (.seq (.region [yP (oBin Try.prog .lss 3 (.tmp 131) (.tmp 130) .none (t 131) (t 130)) 132 0])
            (.seq (.cond (t 132)
              .skip
              (.exit 2))
            (.seq (.block 3
              (.seq (.region [yP (oMov (t 131)) 133 0,
                yP (oMov (t 133)) 14 0])
              (.seq (.draw [yP (oFieldAddr 9 (t 12)) 134 0,
                yR (oLoad1 (t 134)) 135 1,
                yP (oMov (t 14)) 136 0,
                yP (oIndexAddrS 4 (t 135) (t 136)) 137 7,
                yR (oLoadA 4 (t 137)) 138 15,
                yP (oFieldAddr 9 (t 13)) 139 0,
                yR (oLoad1 (t 139)) 140 32,
                yP (oMov (t 14)) 141 0,
                yP (oIndexAddrS 4 (t 140) (t 141)) 142 224,
                yR (oLoadA 4 (t 142)) 143 480,
                yP (oBin Try.prog .neq 40 (.tmp 138) (.tmp 143) .none (t 138) (t 143)) 144 1023])
              (.cond (t 144)
                (.seq (.region [yP (oMov (.c (.bool .false))) 4 0])
                .ret)
                .skip))))
            (.region [yP (oBin Try.prog .add 3 (.tmp 131) (.const (.int .i64 1)) .none (t 131) (.c (.int .i64 1))) 145 0,
              yP (oMov (t 145)) 131 0]))))
def a10l1 : ACode := (.seq (.region [yP (oBin Try.prog .lss 3 (.tmp 75) (.tmp 74) .none (t 75) (t 74)) 76 0])
      (.seq (.cond (t 76)
        .skip
        (.exit 0))
      (.seq (.block 1
        (.seq (.region [yP (oMov (t 75)) 77 0,
          yP (oMov (t 77)) 11 0])
        (.seq (.draw [yP (oMov (t 5)) 78 0,
          yP (oMov (t 11)) 79 0,
          yP (oIndexAddrS 10 (t 78) (t 79)) 80 3,
          yR (oLoadA 10 (t 80)) 81 7,
          yP (oMov (t 9)) 82 0,
          yP (oMov (t 11)) 83 0,
          yP (oIndexAddrS 10 (t 82) (t 83)) 84 48,
          yR (oLoadA 10 (t 84)) 85 112,
          yN (oAlloc [(.int .i64 0), (.int .i64 0), (.int .i32 0), (.int .i32 0), (.bool .false), (.int .i32 0), (.int .i32 0), (.int .i32 0), (.int .i32 0), (.slice .none 0 0)]) 12 0,
          yN (oAlloc [(.int .i64 0), (.int .i64 0), (.int .i32 0), (.int .i32 0), (.bool .false), (.int .i32 0), (.int .i32 0), (.int .i32 0), (.int .i32 0), (.slice .none 0 0)]) 13 0,
          zE (oStore 10 (t 12) (t 81)) 783,
          zE (oStore 10 (t 13) (t 85)) 2047])
        (.seq (.seq (.region [yP (oFieldAddr 0 (t 12)) 86 0,
          yR (oLoad1 (t 86)) 87 0,
          yP (oFieldAddr 0 (t 13)) 88 0,
          yR (oLoad1 (t 88)) 89 0,
          yP (oBin Try.prog .neq 3 (.tmp 87) (.tmp 89) .none (t 87) (t 89)) 90 0,
          yP (oMov (t 90)) 91 0,
          yPg (oFieldAddr 1 (t 12)) 92 91 false 0,
          yRg (oLoad1 (t 92)) 93 91 false 0,
          yPg (oFieldAddr 1 (t 13)) 94 91 false 0,
          yRg (oLoad1 (t 94)) 95 91 false 0,
          yPg (oBin Try.prog .neq 3 (.tmp 93) (.tmp 95) .none (t 93) (t 95)) 96 91 false 0,
          yP (oPick (t 91) (.c (.bool .true)) (t 96)) 97 0,
          yP (oMov (t 97)) 98 0,
          yPg (oFieldAddr 2 (t 12)) 99 98 false 0,
          yRg (oLoad1 (t 99)) 100 98 false 0,
          yPg (oFieldAddr 2 (t 13)) 101 98 false 0,
          yRg (oLoad1 (t 101)) 102 98 false 0,
          yPg (oBin Try.prog .neq 27 (.tmp 100) (.tmp 102) .none (t 100) (t 102)) 103 98 false 0,
          yP (oPick (t 98) (.c (.bool .true)) (t 103)) 104 0,
          yP (oMov (t 104)) 105 0,
          yPg (oFieldAddr 3 (t 12)) 106 105 false 0,
          yRg (oLoad1 (t 106)) 107 105 false 0,
          yPg (oFieldAddr 3 (t 13)) 108 105 false 0,
          yRg (oLoad1 (t 108)) 109 105 false 0,
          yPg (oBin Try.prog .neq 27 (.tmp 107) (.tmp 109) .none (t 107) (t 109)) 110 105 false 0,
          yP (oPick (t 105) (.c (.bool .true)) (t 110)) 111 0,
          yP (oMov (t 111)) 112 0,
          yPg (oFieldAddr 4 (t 12)) 113 112 false 0,
          yRg (oLoad1 (t 113)) 114 112 false 0,
          yPg (oFieldAddr 4 (t 13)) 115 112 false 0,
          yRg (oLoad1 (t 115)) 116 112 false 0,
          yPg (oBin Try.prog .eql 4 (.tmp 114) (.tmp 116) .none (t 114) (t 116)) 117 112 false 0,
          yP (oPick (t 112) (.c (.bool .true)) (t 117)) 118 0,
          yP (oMov (t 118)) 119 0,
          yPg (oFieldAddr 9 (t 12)) 120 119 false 0,
          yRg (oLoad1 (t 120)) 121 119 false 0,
          yPg (oLenS (t 121)) 122 119 false 0,
          yPg (oFieldAddr 9 (t 13)) 123 119 false 0,
          yRg (oLoad1 (t 123)) 124 119 false 0,
          yPg (oLenS (t 124)) 125 119 false 0,
          yPg (oBin Try.prog .neq 3 (.tmp 122) (.tmp 125) .none (t 122) (t 125)) 126 119 false 0,
          yP (oPick (t 119) (.c (.bool .true)) (t 126)) 127 0])
        (.cond (t 127)
          (.seq (.region [yP (oMov (.c (.bool .false))) 4 0])
          .ret)
          .skip))
        (.seq (.region [yP (oFieldAddr 9 (t 12)) 128 0,
          yR (oLoad1 (t 128)) 129 0,
          yP (oLenS (t 129)) 130 0,
          yP (oMov (.c (.int .i64 0))) 131 0])
        (.block 2
          (.loop a10l0)))))))
      (.region [yP (oBin Try.prog .add 3 (.tmp 75) (.const (.int .i64 1)) .none (t 75) (.c (.int .i64 1))) 146 0,
        yP (oMov (t 146)) 75 0]))))
def a10 : AFn := ⟨2, [(.t (pa 4))],
  (.seq (.region [yN (oBox (t 0)) 2 0,
    yN (oBox (t 1)) 3 0,
    yP (oMov (.c (.bool .false))) 4 0])
  (.seq (.seq (.region [yE (oEnter 11 []) 15 0,
    yP (oUn Try.prog .not (t 15)) 16 0])
  (.cond (t 16)
    (.seq (.region [yP (oMov (.c (.bool .false))) 4 0])
    .ret)
    .skip))
  (.seq (.region [yR (oLoadA 18 (t 2)) 17 0,
    yE (oEnter 19 [(t 17)]) 18 0,
    zE (oStore 18 (t 2) (t 18)) 0])
  (.seq (.region [yP (oIndexAddrA 3 6 (t 2) (.c (.int .i64 0))) 20 0,
    yR (oLoadA 6 (t 20)) 21 0,
    yP (oIndexAddrA 3 6 (t 2) (.c (.int .i64 1))) 22 0,
    yR (oLoadA 6 (t 22)) 23 0,
    yP (oIndexAddrA 3 6 (t 2) (.c (.int .i64 2))) 24 0,
    yR (oLoadA 6 (t 24)) 25 0,
    yR (oLoadA 4 (t 3)) 26 0,
    yE (oEnter 15 [(t 21), (t 23), (t 25), (t 26)]) 27 0,
    yP (oMov (t 27)) 19 0,
    yP (oExtract 0 (t 19)) 28 0,
    yP (oExtract 1 (t 19)) 29 0,
    yP (oMov (t 28)) 5 0,
    yP (oMov (t 29)) 6 0])
  (.seq (.region [yP (oIndexAddrA 3 6 (t 2) (.c (.int .i64 1))) 31 0,
    yR (oLoadA 6 (t 31)) 32 0,
    yP (oIndexAddrA 3 6 (t 2) (.c (.int .i64 2))) 33 0,
    yR (oLoadA 6 (t 33)) 34 0,
    yP (oIndexAddrA 3 6 (t 2) (.c (.int .i64 0))) 35 0,
    yR (oLoadA 6 (t 35)) 36 0,
    yR (oLoadA 4 (t 3)) 37 0,
    yE (oEnter 15 [(t 32), (t 34), (t 36), (t 37)]) 38 0,
    yP (oMov (t 38)) 30 0,
    yP (oExtract 0 (t 30)) 39 0,
    yP (oExtract 1 (t 30)) 40 0,
    yP (oMov (t 39)) 7 0,
    yP (oMov (t 40)) 8 0])
  (.seq (.region [yP (oIndexAddrA 3 6 (t 2) (.c (.int .i64 1))) 42 0,
    yR (oLoadA 6 (t 42)) 43 0,
    yP (oIndexAddrA 3 6 (t 2) (.c (.int .i64 0))) 44 0,
    yR (oLoadA 6 (t 44)) 45 0,
    yP (oIndexAddrA 3 6 (t 2) (.c (.int .i64 2))) 46 0,
    yR (oLoadA 6 (t 46)) 47 0,
    yR (oLoadA 4 (t 3)) 48 0,
    yE (oEnter 15 [(t 43), (t 45), (t 47), (t 48)]) 49 0,
    yP (oMov (t 49)) 41 0,
    yP (oExtract 0 (t 41)) 50 0,
    yP (oExtract 1 (t 41)) 51 0,
    yP (oMov (t 50)) 9 0,
    yP (oMov (t 51)) 10 0])
  (.seq (.seq (.region [yP (oMov (t 6)) 52 0,
    yP (oMov (t 8)) 53 0,
    yP (oBin Try.prog .neq 24 (.tmp 52) (.tmp 53) .none (t 52) (t 53)) 54 0,
    yP (oMov (t 54)) 55 0,
    yPg (oMov (t 6)) 56 55 false 0,
    yPg (oMov (t 10)) 57 55 false 0,
    yPg (oBin Try.prog .neq 24 (.tmp 56) (.tmp 57) .none (t 56) (t 57)) 58 55 false 0,
    yP (oPick (t 55) (.c (.bool .true)) (t 58)) 59 0,
    yP (oMov (t 59)) 60 0,
    yPg (oMov (t 5)) 61 60 false 0,
    yPg (oMov (t 7)) 62 60 false 0,
    yEg (oEnter 29 [(t 61), (t 62)]) 63 60 false 0,
    yPg (oUn Try.prog .not (t 63)) 64 60 false 0,
    yP (oPick (t 60) (.c (.bool .true)) (t 64)) 65 0,
    yP (oMov (t 65)) 66 0,
    yPg (oMov (t 5)) 67 66 false 0,
    yPg (oLenS (t 67)) 68 66 false 0,
    yPg (oMov (t 9)) 69 66 false 0,
    yPg (oLenS (t 69)) 70 66 false 0,
    yPg (oBin Try.prog .neq 3 (.tmp 68) (.tmp 70) .none (t 68) (t 70)) 71 66 false 0,
    yP (oPick (t 66) (.c (.bool .true)) (t 71)) 72 0])
  (.cond (t 72)
    (.seq (.region [yP (oMov (.c (.bool .false))) 4 0])
    .ret)
    .skip))
  (.seq (.seq (.region [yP (oMov (t 5)) 73 0,
    yP (oLenS (t 73)) 74 0,
    yP (oMov (.c (.int .i64 0))) 75 0])
  (.block 0
    (.loop a10l1)))
  (.seq (.region [yP (oMov (.c (.bool .true))) 4 0])
  .ret)))))))))⟩
def a11 : AFn := ⟨0, [(.t (pa 0))],
  (.seq (.region [yP (oMov (.c (.bool .false))) 0 0])
  (.seq (.region [yP (oBuild [(.int .i64 0), (.int .i64 0), (.int .i32 0), (.int .i32 0), (.int .i32 0), (.slice .none 0 0)] [(3, (1, (.c (.int .i32 65536))))]) 6 0,
    yP (oBuild [(.int .i64 0), (.int .i64 0), (.int .i32 0), (.int .i32 0), (.int .i32 0), (.slice .none 0 0)] [(0, (1, (.c (.int .i64 512)))), (3, (1, (.c (.int .i32 65536))))]) 7 0,
    yP (oBuild [(.int .i64 0), (.int .i64 0), (.int .i32 0), (.int .i32 0), (.int .i32 0), (.slice .none 0 0)] [(1, (1, (.c (.int .i64 512)))), (2, (1, (.c (.int .i32 65536)))), (3, (1, (.c (.int .i32 65536))))]) 8 0,
    yN (oAlloc [(.int .i64 0), (.int .i64 0), (.int .i32 0), (.int .i32 0), (.int .i32 0), (.slice .none 0 0)]) 1 0,
    yN (oAlloc [(.int .i64 0), (.int .i64 0), (.int .i32 0), (.int .i32 0), (.int .i32 0), (.slice .none 0 0)]) 2 0,
    yN (oAlloc [(.int .i64 0), (.int .i64 0), (.int .i32 0), (.int .i32 0), (.int .i32 0), (.slice .none 0 0)]) 3 0,
    zE (oStore 6 (t 1) (t 6)) 0,
    zE (oStore 6 (t 2) (t 7)) 0,
    zE (oStore 6 (t 3) (t 8)) 0])
  (.seq (.region [yR (oLoadA 6 (t 1)) 10 0,
    yR (oLoadA 6 (t 2)) 11 0,
    yR (oLoadA 6 (t 3)) 12 0,
    yP (oBuild [(.int .i64 0), (.int .i64 0), (.int .i64 0), (.int .i64 0)] [(2, (1, (.c (.int .i64 64)))), (3, (1, (.c (.int .i64 64))))]) 13 0,
    yE (oEnter 15 [(t 10), (t 11), (t 12), (t 13)]) 14 0,
    yP (oMov (t 14)) 9 0,
    yP (oExtract 0 (t 9)) 15 0,
    yP (oExtract 1 (t 9)) 16 0,
    yP (oMov (t 15)) 4 0,
    yP (oMov (t 16)) 5 0])
  (.seq (.region [yP (oMov (t 5)) 17 0,
    yP (oBin Try.prog .eql 24 (.tmp 17) (.const (.int .i64 0)) .none (t 17) (.c (.int .i64 0))) 18 0,
    yP (oMov (t 18)) 19 0,
    yPg (oMov (t 4)) 20 19 true 0,
    yPg (oLenS (t 20)) 21 19 true 0,
    yPg (oBin Try.prog .eql 3 (.tmp 21) (.const (.int .i64 1)) .none (t 21) (.c (.int .i64 1))) 22 19 true 0,
    yP (oPick (t 19) (t 22) (.c (.bool .false))) 23 0,
    yP (oMov (t 23)) 24 0,
    yPg (oMov (t 4)) 25 24 true 0,
    yPg (oIndexAddrS 10 (t 25) (.c (.int .i64 0))) 26 24 true 0,
    yPg (oFieldAddr 2 (t 26)) 27 24 true 0,
    yRg (oLoad1 (t 27)) 28 24 true 0,
    yPg (oBin Try.prog .eql 27 (.tmp 28) (.const (.int .i32 16384)) .none (t 28) (.c (.int .i32 16384))) 29 24 true 0,
    yP (oPick (t 24) (t 29) (.c (.bool .false))) 30 0,
    yP (oMov (t 30)) 31 0,
    yPg (oMov (t 4)) 32 31 true 0,
    yPg (oIndexAddrS 10 (t 32) (.c (.int .i64 0))) 33 31 true 0,
    yPg (oFieldAddr 4 (t 33)) 34 31 true 0,
    yRg (oLoad1 (t 34)) 35 31 true 0,
    yP (oPick (t 31) (t 35) (.c (.bool .false))) 36 0,
    yP (oMov (t 36)) 37 0,
    yRg (oLoadA 6 (t 1)) 38 37 true 0,
    yRg (oLoadA 6 (t 3)) 39 37 true 0,
    yRg (oLoadA 6 (t 2)) 40 37 true 0,
    yEg (oEnter 14 [(t 38), (t 39), (t 40)]) 41 37 true 0,
    yPg (oBin Try.prog .eql 3 (.tmp 41) (.const (.int .i64 (-262144))) .none (t 41) (.c (.int .i64 (-262144)))) 42 37 true 0,
    yP (oPick (t 37) (t 42) (.c (.bool .false))) 43 0,
    yP (oMov (t 43)) 44 0,
    yPg (oBuild [(.int .i64 0), (.int .i64 0), (.int .i32 0), (.int .i32 0), (.int .i32 0), (.slice .none 0 0)] []) 45 44 true 0,
    yNg (oBuildSlice 1 [(.int .i64 0), (.int .i64 0), (.int .i32 0), (.int .i32 0), (.int .i32 0), (.slice .none 0 0)] [(0, (6, (t 45)))]) 46 44 true 0,
    yEg (oEnter 12 [(t 46)]) 47 44 true 0,
    yPg (oBin Try.prog .eql 24 (.tmp 47) (.const (.int .i64 320)) .none (t 47) (.c (.int .i64 320))) 48 44 true 0,
    yP (oPick (t 44) (t 48) (.c (.bool .false))) 49 0,
    yP (oMov (t 49)) 0 0])
  .ret))))⟩
def a12l0 : ACode := (.seq (.region [yP (oBin Try.prog .lss 3 (.tmp 7) (.tmp 6) .none (t 7) (t 6)) 8 0])
      (.seq (.cond (t 8)
        .skip
        (.exit 0))
      (.seq (.block 1
        (.seq (.region [yP (oIndexAddrS 6 (t 5) (t 7)) 9 0,
          yR (oLoadA 6 (t 9)) 10 0,
          yN (oAlloc [(.int .i64 0), (.int .i64 0), (.int .i32 0), (.int .i32 0), (.int .i32 0), (.slice .none 0 0)]) 4 0,
          zE (oStore 6 (t 4) (t 10)) 0])
        (.seq (.draw [yP (oFieldAddr 0 (t 4)) 11 0,
          yR (oLoad1 (t 11)) 12 1,
          yP (oBin Try.prog .lss 3 (.tmp 12) (.const (.int .i64 0)) .none (t 12) (.c (.int .i64 0))) 13 3,
          yP (oMov (t 13)) 14 7,
          yPg (oFieldAddr 0 (t 4)) 15 14 false 15,
          yRg (oLoad1 (t 15)) 16 14 false 31,
          yPg (oBin Try.prog .gtr 3 (.tmp 16) (.const (.int .i64 16384)) .none (t 16) (.c (.int .i64 16384))) 17 14 false 63,
          yP (oPick (t 14) (.c (.bool .true)) (t 17)) 18 127,
          yP (oMov (t 18)) 19 255,
          yPg (oFieldAddr 1 (t 4)) 20 19 false 511,
          yRg (oLoad1 (t 20)) 21 19 false 1023,
          yPg (oBin Try.prog .lss 3 (.tmp 21) (.const (.int .i64 0)) .none (t 21) (.c (.int .i64 0))) 22 19 false 2047,
          yP (oPick (t 19) (.c (.bool .true)) (t 22)) 23 4095,
          yP (oMov (t 23)) 24 8191,
          yPg (oFieldAddr 1 (t 4)) 25 24 false 16383,
          yRg (oLoad1 (t 25)) 26 24 false 32767,
          yPg (oBin Try.prog .gtr 3 (.tmp 26) (.const (.int .i64 16384)) .none (t 26) (.c (.int .i64 16384))) 27 24 false 65535,
          yP (oPick (t 24) (.c (.bool .true)) (t 27)) 28 131071,
          yP (oMov (t 28)) 29 262143,
          yPg (oFieldAddr 3 (t 4)) 30 29 false 524287,
          yRg (oLoad1 (t 30)) 31 29 false 1048575,
          yPg (oBin Try.prog .leq 27 (.tmp 31) (.const (.int .i32 0)) .none (t 31) (.c (.int .i32 0))) 32 29 false 2097151,
          yP (oPick (t 29) (.c (.bool .true)) (t 32)) 33 4194303,
          yP (oMov (t 33)) 34 8388607,
          yPg (oFieldAddr 5 (t 4)) 35 34 false 16777215,
          yRg (oLoad1 (t 35)) 36 34 false 33554431,
          yPg (oLenS (t 36)) 37 34 false 67108863,
          yPg (oBin Try.prog .gtr 3 (.tmp 37) (.const (.int .i64 4)) .none (t 37) (.c (.int .i64 4))) 38 34 false 134217727,
          yP (oPick (t 34) (.c (.bool .true)) (t 38)) 39 268435455,
          yP (oMov (t 39)) 40 536870911,
          yPg (oFieldAddr 5 (t 4)) 41 40 false 1073741823,
          yRg (oLoad1 (t 41)) 42 40 false 2147483647,
          yPg (oLenS (t 42)) 43 40 false 4294967295,
          yPg (oMov (t 0)) 44 40 false 1073741823,
          yPg (oIndexAddrS 6 (t 44) (.c (.int .i64 0))) 45 40 false 9663676415,
          yPg (oFieldAddr 5 (t 45)) 46 40 false 26843545599,
          yRg (oLoad1 (t 46)) 47 40 false 61203283967,
          yPg (oLenS (t 47)) 48 40 false 129922760703,
          yPg (oBin Try.prog .neq 3 (.tmp 43) (.tmp 48) .none (t 43) (t 48)) 49 40 false 274877906943,
          yP (oPick (t 40) (.c (.bool .true)) (t 49)) 50 549755813887])
        (.cond (t 50)
          (.seq (.region [yP (oMov (.c (.int .i64 320))) 2 0])
          .ret)
          .skip))))
      (.region [yP (oBin Try.prog .add 3 (.tmp 7) (.const (.int .i64 1)) .none (t 7) (.c (.int .i64 1))) 51 0,
        yP (oMov (t 51)) 7 0]))))
def a12 : AFn := ⟨1, [(.t (pa 2))],
  (.seq (.region [yP (oMov (.c (.int .i64 0))) 2 0])
  (.seq (.seq (.region [yP (oMov (t 0)) 5 0,
    yP (oLenS (t 5)) 6 0,
    yP (oMov (.c (.int .i64 0))) 7 0])
  (.block 0
    (.loop a12l0)))
  (.seq (.region [yP (oMov (.c (.int .i64 0))) 2 0])
  .ret)))⟩
def a13l0 : ACode := (.seq (.region [yP (oBin Try.prog .lss 3 (.tmp 7) (.tmp 6) .none (t 7) (t 6)) 8 0])
      (.seq (.cond (t 8)
        .skip
        (.exit 0))
      (.seq (.block 1
        (.seq (.region [yP (oIndexAddrS 6 (t 5) (t 7)) 9 0,
          yR (oLoadA 6 (t 9)) 10 0,
          yN (oAlloc [(.int .i64 0), (.int .i64 0), (.int .i32 0), (.int .i32 0), (.int .i32 0), (.slice .none 0 0)]) 4 0,
          zE (oStore 6 (t 4) (t 10)) 0])
        (.seq (.draw [yP (oFieldAddr 0 (t 4)) 11 0,
          yR (oLoad1 (t 11)) 12 1,
          yP (oBin Try.prog .lss 3 (.tmp 12) (.const (.int .i64 0)) .none (t 12) (.c (.int .i64 0))) 13 3,
          yP (oMov (t 13)) 14 7,
          yPg (oFieldAddr 0 (t 4)) 15 14 false 15,
          yRg (oLoad1 (t 15)) 16 14 false 31,
          yPg (oBin Try.prog .gtr 3 (.tmp 16) (.const (.int .i64 16384)) .none (t 16) (.c (.int .i64 16384))) 17 14 false 63,
          yP (oPick (t 14) (.c (.bool .true)) (t 17)) 18 127,
          yP (oMov (t 18)) 19 255,
          yPg (oFieldAddr 1 (t 4)) 20 19 false 511,
          yRg (oLoad1 (t 20)) 21 19 false 1023,
          yPg (oBin Try.prog .lss 3 (.tmp 21) (.const (.int .i64 0)) .none (t 21) (.c (.int .i64 0))) 22 19 false 2047,
          yP (oPick (t 19) (.c (.bool .true)) (t 22)) 23 4095,
          yP (oMov (t 23)) 24 8191,
          yPg (oFieldAddr 1 (t 4)) 25 24 false 16383,
          yRg (oLoad1 (t 25)) 26 24 false 32767,
          yPg (oBin Try.prog .gtr 3 (.tmp 26) (.const (.int .i64 16384)) .none (t 26) (.c (.int .i64 16384))) 27 24 false 65535,
          yP (oPick (t 24) (.c (.bool .true)) (t 27)) 28 131071,
          yP (oMov (t 28)) 29 262143,
          yPg (oFieldAddr 3 (t 4)) 30 29 false 524287,
          yRg (oLoad1 (t 30)) 31 29 false 1048575,
          yPg (oBin Try.prog .leq 27 (.tmp 31) (.const (.int .i32 0)) .none (t 31) (.c (.int .i32 0))) 32 29 false 2097151,
          yP (oPick (t 29) (.c (.bool .true)) (t 32)) 33 4194303,
          yP (oMov (t 33)) 34 8388607,
          yPg (oFieldAddr 5 (t 4)) 35 34 false 16777215,
          yRg (oLoad1 (t 35)) 36 34 false 33554431,
          yPg (oLenS (t 36)) 37 34 false 67108863,
          yPg (oBin Try.prog .gtr 3 (.tmp 37) (.const (.int .i64 4)) .none (t 37) (.c (.int .i64 4))) 38 34 false 134217727,
          yP (oPick (t 34) (.c (.bool .true)) (t 38)) 39 268435455,
          yP (oMov (t 39)) 40 536870911,
          yPg (oFieldAddr 5 (t 4)) 41 40 false 1073741823,
          yRg (oLoad1 (t 41)) 42 40 false 2147483647,
          yPg (oLenS (t 42)) 43 40 false 4294967295,
          yPg (oMov (t 0)) 44 40 false 1073741823,
          yPg (oIndexAddrS 6 (t 44) (.c (.int .i64 0))) 45 40 false 9663676415,
          yPg (oFieldAddr 5 (t 45)) 46 40 false 26843545599,
          yRg (oLoad1 (t 46)) 47 40 false 61203283967,
          yPg (oLenS (t 47)) 48 40 false 129922760703,
          yPg (oBin Try.prog .neq 3 (.tmp 43) (.tmp 48) .none (t 43) (t 48)) 49 40 false 274877906943,
          yP (oPick (t 40) (.c (.bool .true)) (t 49)) 50 549755813887])
        (.cond (t 50)
          (.seq (.region [yP (oMov (.c (.bool .false))) 2 0])
          .ret)
          .skip))))
      (.region [yP (oBin Try.prog .add 3 (.tmp 7) (.const (.int .i64 1)) .none (t 7) (.c (.int .i64 1))) 51 0,
        yP (oMov (t 51)) 7 0]))))
def a13 : AFn := ⟨1, [(.t (pa 2))],
  (.seq (.region [yP (oMov (.c (.bool .false))) 2 0])
  (.seq (.seq (.region [yP (oMov (t 0)) 5 0,
    yP (oLenS (t 5)) 6 0,
    yP (oMov (.c (.int .i64 0))) 7 0])
  (.block 0
    (.loop a13l0)))
  (.seq (.region [yP (oMov (.c (.bool .true))) 2 0])
  .ret)))⟩
def a14 : AFn := ⟨3, [(.t (pa 6))],
  (.seq (.region [yN (oBox (t 0)) 3 0,
    yN (oBox (t 1)) 4 0,
    yN (oBox (t 2)) 5 0,
    yP (oMov (.c (.int .i64 0))) 6 0])
  (.seq (.seq (.region [yR (oLoadA 6 (t 3)) 7 0,
    yR (oLoadA 6 (t 4)) 8 0,
    yR (oLoadA 6 (t 5)) 9 0,
    yN (oBuildSlice 3 [(.int .i64 0), (.int .i64 0), (.int .i32 0), (.int .i32 0), (.int .i32 0), (.slice .none 0 0), (.int .i64 0), (.int .i64 0), (.int .i32 0), (.int .i32 0), (.int .i32 0), (.slice .none 0 0), (.int .i64 0), (.int .i64 0), (.int .i32 0), (.int .i32 0), (.int .i32 0), (.slice .none 0 0)] [(0, (6, (t 7))), (6, (6, (t 8))), (12, (6, (t 9)))]) 10 0,
    yE (oEnter 12 [(t 10)]) 11 0,
    yP (oBin Try.prog .neq 24 (.tmp 11) (.const (.int .i64 0)) .none (t 11) (.c (.int .i64 0))) 12 0])
  (.cond (t 12)
    (.seq (.region [yP (oMov (.c (.int .i64 0))) 6 0])
    .ret)
    .skip))
  (.seq (.region [yR (oLoadA 6 (t 3)) 13 0,
    yR (oLoadA 6 (t 4)) 14 0,
    yP (oFieldAddr 0 (t 5)) 15 0,
    yR (oLoad1 (t 15)) 16 0,
    yP (oFieldAddr 1 (t 5)) 17 0,
    yR (oLoad1 (t 17)) 18 0,
    yE (oEnter 31 [(t 13), (t 14), (t 16), (t 18)]) 19 0,
    yP (oMov (t 19)) 6 0])
  .ret)))⟩
def a15 : AFn := ⟨4, [(.t (pa 8)), (.t (pa 9))],
  (.seq (.region [yN (oBox (t 0)) 4 0,
    yN (oBox (t 1)) 5 0,
    yN (oBox (t 2)) 6 0,
    yN (oBox (t 3)) 7 0,
    yP (oMov (.c (.slice .none 0 0))) 8 0,
    yP (oMov (.c (.int .i64 0))) 9 0])
  (.scope
    (.seq (.seq (.region [yR (oLoadA 6 (t 4)) 18 0,
      yR (oLoadA 6 (t 5)) 19 0,
      yR (oLoadA 6 (t 6)) 20 0,
      yN (oBuildSlice 3 [(.int .i64 0), (.int .i64 0), (.int .i32 0), (.int .i32 0), (.int .i32 0), (.slice .none 0 0), (.int .i64 0), (.int .i64 0), (.int .i32 0), (.int .i32 0), (.int .i32 0), (.slice .none 0 0), (.int .i64 0), (.int .i64 0), (.int .i32 0), (.int .i32 0), (.int .i32 0), (.slice .none 0 0)] [(0, (6, (t 18))), (6, (6, (t 19))), (12, (6, (t 20)))]) 21 0,
      yE (oEnter 12 [(t 21)]) 22 0,
      yP (oMov (t 22)) 10 0])
    (.seq (.region [yP (oMov (t 10)) 23 0,
      yP (oBin Try.prog .neq 24 (.tmp 23) (.const (.int .i64 0)) .none (t 23) (.c (.int .i64 0))) 24 0])
    (.cond (t 24)
      (.seq (.region [yP (oMov (t 10)) 25 0,
        yP (oMov (.c (.slice .none 0 0))) 8 0,
        yP (oMov (t 25)) 9 0])
      .ret)
      .skip)))
    (.seq (.region [yP (oMov (.c (.func (.func 32) #[] #[]))) 11 0])
    (.seq (.seq (.region [yP (oMov (t 11)) 26 0,
      yP (oFieldAddr 0 (t 7)) 27 0,
      yR (oLoad1 (t 27)) 28 0,
      yP (oFieldAddr 2 (t 7)) 29 0,
      yR (oLoad1 (t 29)) 30 0,
      yE (oCallV (t 26) [(t 28), (t 30)]) 31 0,
      yP (oUn Try.prog .not (t 31)) 32 0,
      yP (oMov (t 32)) 33 0,
      yPg (oMov (t 11)) 34 33 false 0,
      yPg (oFieldAddr 1 (t 7)) 35 33 false 0,
      yRg (oLoad1 (t 35)) 36 33 false 0,
      yPg (oFieldAddr 3 (t 7)) 37 33 false 0,
      yRg (oLoad1 (t 37)) 38 33 false 0,
      yEg (oCallV (t 34) [(t 36), (t 38)]) 39 33 false 0,
      yPg (oUn Try.prog .not (t 39)) 40 33 false 0,
      yP (oPick (t 33) (.c (.bool .true)) (t 40)) 41 0])
    (.cond (t 41)
      (.seq (.region [yP (oMov (.c (.slice .none 0 0))) 8 0,
        yP (oMov (.c (.int .i64 2))) 9 0])
      .ret)
      .skip))
    (.seq (.region [yN (oAlloc [(.slice .none 0 0)]) 12 0])
    (.seq (.region [yR (oLoadA 6 (t 4)) 42 0,
      yR (oLoadA 6 (t 5)) 43 0,
      yR (oLoadA 6 (t 6)) 44 0,
      yE (oEnter 33 [(t 42), (t 43), (t 44)]) 45 0,
      yN (oAlloc [(.int .i64 0), (.int .i64 0), (.int .i32 0), (.int .i32 0), (.int .i32 0), (.slice .none 0 0), (.int .i64 0), (.int .i64 0), (.int .i32 0), (.int .i32 0), (.int .i32 0), (.slice .none 0 0), (.int .i64 0), (.int .i64 0), (.int .i32 0), (.int .i32 0), (.int .i32 0), (.slice .none 0 0), (.int .i64 0), (.bool .false)]) 13 0,
      zE (oStore 20 (t 13) (t 45)) 0])
    (.seq .skip
    (.seq (.seq (.region [yR (oLoadA 4 (t 7)) 46 0,
      yE (oEnter 34 [(t 46)]) 47 0])
    (.block 0
      (.rangeF (t 47) [(pa 48), (pa 49)]
        (.seq (.region [yP (oMov (t 48)) 14 0])
        (.region [yP (oMov (t 49)) 15 0]))
        (.block 1
          (.seq (.region [yP (oMov (t 14)) 51 0,
            yP (oMov (t 15)) 52 0,
            yE (oEnter 35 [(t 13), (t 51), (t 52)]) 53 0,
            yP (oMov (t 53)) 50 0,
            yP (oExtract 0 (t 50)) 54 0,
            yP (oExtract 1 (t 50)) 55 0,
            yN (oAlloc [(.int .i64 0), (.int .i64 0), (.int .i64 0)]) 16 0,
            zE (oStore 3 (t 16) (t 54)) 0,
            yP (oMov (t 55)) 17 0])
          (.seq (.seq (.region [yP (oMov (t 17)) 56 0,
            yP (oUn Try.prog .not (t 56)) 57 0])
          (.cond (t 57)
            (.exit 1)
            .skip))
          (.draw [yR (oLoad1 (t 12)) 58 0,
            yP (oMov (t 14)) 59 0,
            yP (oMov (t 15)) 60 0,
            yR (oLoadA 3 (t 16)) 61 0,
            yE (oEnter 36 [(t 13), (t 59), (t 60), (t 61)]) 62 14,
            yN (oBuildSlice 1 [(.int .i64 0), (.int .i64 0), (.int .i32 0), (.int .i32 0), (.bool .false), (.int .i32 0), (.int .i32 0), (.int .i32 0), (.int .i32 0), (.slice .none 0 0)] [(0, (10, (t 62)))]) 63 30,
            yE (oAppend 10 72 (t 58) (t 63)) 64 63,
            zE (oStore 1 (t 12) (t 64)) 127])))))))
    (.seq (.region [yR (oLoad1 (t 12)) 65 0,
      yP (oMov (t 65)) 8 0,
      yP (oMov (.c (.int .i64 0))) 9 0])
    .ret))))))))))⟩
def a16 : AFn := ⟨3, [(.t (pa 6))],
  (.seq (.region [yP (oMov (.c (.bool .false))) 6 0])
  (.seq (.region [yP (oMov (t 0)) 7 0,
    yP (oMov (t 1)) 8 0,
    yP (oMinmax Try.prog .false [(t 7), (t 8)]) 9 0,
    yP (oMov (t 2)) 10 0,
    yP (oBin Try.prog .leq 3 (.tmp 9) (.tmp 10) .none (t 9) (t 10)) 11 0,
    yP (oMov (t 11)) 12 0,
    yPg (oMov (t 2)) 13 12 true 0,
    yPg (oMov (t 0)) 14 12 true 0,
    yPg (oMov (t 1)) 15 12 true 0,
    yPg (oMinmax Try.prog .true [(t 14), (t 15)]) 16 12 true 0,
    yPg (oBin Try.prog .leq 3 (.tmp 13) (.tmp 16) .none (t 13) (t 16)) 17 12 true 0,
    yP (oPick (t 12) (t 17) (.c (.bool .false))) 18 0,
    yP (oMov (t 18)) 6 0])
  .ret))⟩
def a17l0 : ACode := (.seq (.region [yP (oBin Try.prog .lss 3 (.tmp 10) (.tmp 9) .none (t 10) (t 9)) 11 0])
      (.seq (.cond (t 11)
        .skip
        (.exit 0))
      (.seq (.block 1
        (.seq (.region [yP (oMov (t 10)) 12 0,
          yP (oIndexAddrS 1 (t 8) (t 10)) 13 0,
          yR (oLoad1 (t 13)) 14 0,
          yP (oMov (t 12)) 4 0,
          yP (oMov (t 14)) 5 0])
        (.seq (.seq (.region [yP (oMov (t 4)) 15 0,
          yP (oBin Try.prog .eql 3 (.tmp 15) (.const (.int .i64 4)) .none (t 15) (.c (.int .i64 4))) 16 0])
        (.cond (t 16)
          (.exit 0)
          .skip))
        (.seq (.region [yP (oMov (t 3)) 17 0,
          yP (oMov (t 3)) 18 0,
          yP (oLenS (t 18)) 19 0,
          yP (oBin Try.prog .sub 3 (.tmp 19) (.const (.int .i64 1)) .none (t 19) (.c (.int .i64 1))) 20 0,
          yP (oIndexAddrS 1 (t 17) (t 20)) 21 0,
          yR (oLoad1 (t 21)) 22 0,
          yP (oBin Try.prog .add 3 (.tmp 22) (.const (.int .i64 1)) .none (t 22) (.c (.int .i64 1))) 23 0,
          yP (oMov (t 5)) 24 0,
          yP (oCvtInt .u64 (t 24)) 25 0,
          yP (oBin Try.prog .rem 49 (.tmp 25) (.const (.int .u64 2000)) .none (t 25) (.c (.int .u64 2000))) 26 0,
          yP (oCvtInt .i64 (t 26)) 27 0,
          yP (oBin Try.prog .add 3 (.tmp 23) (.tmp 27) .none (t 23) (t 27)) 28 0,
          yP (oMov (t 28)) 6 0])
        (.seq (.region [yP (oMov (t 6)) 29 0,
          yP (oBin Try.prog .leq 3 (.tmp 29) (.const (.int .i64 3000)) .none (t 29) (.c (.int .i64 3000))) 30 0])
        (.cond (t 30)
          (.region [yP (oMov (t 3)) 31 0,
            yP (oMov (t 6)) 32 0,
            yN (oBuildSlice 1 [(.int .i64 0)] [(0, (1, (t 32)))]) 33 0,
            yE (oAppend 1 8 (t 31) (t 33)) 34 0,
            yP (oMov (t 34)) 3 0])
          .skip))))))
      (.region [yP (oBin Try.prog .add 3 (.tmp 10) (.const (.int .i64 1)) .none (t 10) (.c (.int .i64 1))) 35 0,
        yP (oMov (t 35)) 10 0]))))
def a17 : AFn := ⟨1, [(.t (pa 2))],
  (.seq (.region [yP (oMov (.c (.slice .none 0 0))) 2 0])
  (.seq (.region [yN (oBuildSlice 1 [(.int .i64 0)] [(0, (1, (.c (.int .i64 0))))]) 7 0,
    yP (oMov (t 7)) 3 0])
  (.seq (.seq (.region [yP (oMov (t 0)) 8 0,
    yP (oLenS (t 8)) 9 0,
    yP (oMov (.c (.int .i64 0))) 10 0])
  (.block 0
    (.loop a17l0)))
  (.seq (.region [yP (oMov (t 3)) 36 0,
    yP (oMov (t 36)) 2 0])
  .ret))))⟩
def a18 : AFn := ⟨6, [(.cA 6 (pa 8))],
  (.seq (.region [yN (oAlloc [(.int .i64 0), (.int .i64 0), (.int .i32 0), (.int .i32 0), (.int .i32 0), (.slice .none 0 0)]) 8 0])
  (.seq (.draw [yR (oLoad1 (t 2)) 9 0,
    yR (oLoad1 (t 3)) 10 0,
    yP (oMov (t 0)) 11 0,
    yP (oBin Try.prog .add 3 (.tmp 10) (.tmp 11) .none (t 10) (t 11)) 12 6,
    yP (oIndexAddrS 1 (t 9) (t 12)) 13 15,
    yR (oLoad1 (t 13)) 14 31,
    yR (oLoad1 (t 4)) 15 0,
    yR (oLoad1 (t 5)) 16 0,
    yP (oMov (t 1)) 17 0,
    yP (oBin Try.prog .add 3 (.tmp 16) (.tmp 17) .none (t 16) (t 17)) 18 384,
    yP (oIndexAddrS 1 (t 15) (t 18)) 19 960,
    yR (oLoad1 (t 19)) 20 1984,
    yP (oBuild [(.int .i64 0), (.int .i64 0), (.int .i32 0), (.int .i32 0), (.int .i32 0), (.slice .none 0 0)] [(0, (1, (t 14))), (1, (1, (t 20))), (3, (1, (.c (.int .i32 65536))))]) 21 4095,
    zE (oStore 6 (t 8) (t 21)) 8191])
  .ret))⟩
def a19l0 : ACode := (.seq (.region [yP (oBin Try.prog .lss 3 (.tmp 4) (.const (.int .i64 3)) .none (t 4) (.c (.int .i64 3))) 5 0])
      (.seq (.cond (t 5)
        .skip
        (.exit 0))
      (.seq (.block 1
        (.seq (.region [yP (oMov (t 4)) 6 0,
          yP (oMov (t 6)) 3 0])
        (.draw [yP (oMov (t 3)) 7 0,
          yN (oBuildSlice 0 [] []) 8 0,
          yP (oMov (t 3)) 9 0,
          yP (oIndexAddrA 3 6 (t 1) (t 9)) 10 4,
          yP (oFieldAddr 5 (t 10)) 11 12,
          yR (oLoad1 (t 11)) 12 28,
          yP (oMov (t 3)) 13 0,
          yP (oIndexAddrA 3 6 (t 1) (t 13)) 14 64,
          yP (oFieldAddr 5 (t 14)) 15 192,
          yR (oLoad1 (t 15)) 16 448,
          yP (oLenS (t 16)) 17 960,
          yP (oMinmax Try.prog .false [(t 17), (.c (.int .i64 6))]) 18 1984,
          yP (oSliceS 4 (t 12) .none (.some (t 18)) .none) 19 4092,
          yE (oAppend 4 16 (t 8) (t 19)) 20 8190,
          yP (oIndexAddrA 3 6 (t 1) (t 7)) 21 16383,
          yP (oFieldAddr 5 (t 21)) 22 32767,
          zE (oStore 1 (t 22) (t 20)) 65535])))
      (.region [yP (oBin Try.prog .add 3 (.tmp 4) (.const (.int .i64 1)) .none (t 4) (.c (.int .i64 1))) 23 0,
        yP (oMov (t 23)) 4 0]))))
def a19 : AFn := ⟨1, [(.cA 18 (pa 2))],
  (.seq (.region [yN (oBox (t 0)) 1 0,
    yN (oAlloc [(.int .i64 0), (.int .i64 0), (.int .i32 0), (.int .i32 0), (.int .i32 0), (.slice .none 0 0), (.int .i64 0), (.int .i64 0), (.int .i32 0), (.int .i32 0), (.int .i32 0), (.slice .none 0 0), (.int .i64 0), (.int .i64 0), (.int .i32 0), (.int .i32 0), (.int .i32 0), (.slice .none 0 0)]) 2 0])
  (.seq (.seq (.region [yP (oMov (.c (.int .i64 0))) 4 0])
  (.block 0
    (.loop a19l0)))
  (.seq (.region [yR (oLoadA 18 (t 1)) 24 0,
    zE (oStore 18 (t 2) (t 24)) 0])
  .ret)))⟩
def a20 : AFn := ⟨4, [(.t (pa 8))],
  (.seq (.region [yP (oMov (.c (.bool .false))) 8 0])
  (.seq (.region [yP (oMov (t 0)) 9 0,
    yP (oMov (t 1)) 10 0,
    yP (oMov (t 2)) 11 0,
    yP (oMov (t 3)) 12 0,
    yP (oMinmax Try.prog .false [(t 10), (t 11), (t 12)]) 13 0,
    yP (oBin Try.prog .geq 27 (.tmp 9) (.tmp 13) .none (t 9) (t 13)) 14 0,
    yP (oMov (t 14)) 15 0,
    yPg (oMov (t 0)) 16 15 true 0,
    yPg (oMov (t 1)) 17 15 true 0,
    yPg (oMov (t 2)) 18 15 true 0,
    yPg (oMov (t 3)) 19 15 true 0,
    yPg (oMinmax Try.prog .true [(t 17), (t 18), (t 19)]) 20 15 true 0,
    yPg (oBin Try.prog .leq 27 (.tmp 16) (.tmp 20) .none (t 16) (t 20)) 21 15 true 0,
    yP (oPick (t 15) (t 21) (.c (.bool .false))) 22 0,
    yP (oMov (t 22)) 8 0])
  .ret))⟩
def a21 : AFn := ⟨5, [(.cA 10 (pa 10)), (.t (pa 11))],
  (.seq (.region [yN (oBox (t 0)) 5 0,
    yN (oBox (t 1)) 6 0,
    yN (oBox (t 2)) 7 0,
    yN (oAlloc [(.int .i64 0), (.int .i64 0), (.int .i32 0), (.int .i32 0), (.bool .false), (.int .i32 0), (.int .i32 0), (.int .i32 0), (.int .i32 0), (.slice .none 0 0)]) 10 0,
    yP (oMov (.c (.int .i64 0))) 11 0])
  (.seq (.seq (.region [yR (oLoadA 6 (t 5)) 16 0,
    yR (oLoadA 6 (t 6)) 17 0,
    yR (oLoadA 6 (t 7)) 18 0,
    yN (oBuildSlice 3 [(.int .i64 0), (.int .i64 0), (.int .i32 0), (.int .i32 0), (.int .i32 0), (.slice .none 0 0), (.int .i64 0), (.int .i64 0), (.int .i32 0), (.int .i32 0), (.int .i32 0), (.slice .none 0 0), (.int .i64 0), (.int .i64 0), (.int .i32 0), (.int .i32 0), (.int .i32 0), (.slice .none 0 0)] [(0, (6, (t 16))), (6, (6, (t 17))), (12, (6, (t 18)))]) 19 0,
    yE (oEnter 12 [(t 19)]) 20 0,
    yP (oMov (t 20)) 12 0])
  (.seq (.region [yP (oMov (t 12)) 21 0,
    yP (oBin Try.prog .neq 24 (.tmp 21) (.const (.int .i64 0)) .none (t 21) (.c (.int .i64 0))) 22 0])
  (.cond (t 22)
    (.seq (.region [yP (oBuild [(.int .i64 0), (.int .i64 0), (.int .i32 0), (.int .i32 0), (.bool .false), (.int .i32 0), (.int .i32 0), (.int .i32 0), (.int .i32 0), (.slice .none 0 0)] []) 23 0,
      yP (oMov (t 12)) 24 0,
      zE (oStore 10 (t 10) (t 23)) 0,
      yP (oMov (t 24)) 11 0])
    .ret)
    .skip)))
  (.seq (.region [yR (oLoadA 6 (t 5)) 25 0,
    yR (oLoadA 6 (t 6)) 26 0,
    yR (oLoadA 6 (t 7)) 27 0,
    yE (oEnter 33 [(t 25), (t 26), (t 27)]) 28 0,
    yN (oAlloc [(.int .i64 0), (.int .i64 0), (.int .i32 0), (.int .i32 0), (.int .i32 0), (.slice .none 0 0), (.int .i64 0), (.int .i64 0), (.int .i32 0), (.int .i32 0), (.int .i32 0), (.slice .none 0 0), (.int .i64 0), (.int .i64 0), (.int .i32 0), (.int .i32 0), (.int .i32 0), (.slice .none 0 0), (.int .i64 0), (.bool .false)]) 13 0,
    zE (oStore 20 (t 13) (t 28)) 0])
  (.seq (.region [yP (oMov (t 3)) 30 0,
    yP (oMov (t 4)) 31 0,
    yE (oEnter 35 [(t 13), (t 30), (t 31)]) 32 0,
    yP (oMov (t 32)) 29 0,
    yP (oExtract 0 (t 29)) 33 0,
    yP (oExtract 1 (t 29)) 34 0,
    yN (oAlloc [(.int .i64 0), (.int .i64 0), (.int .i64 0)]) 14 0,
    zE (oStore 3 (t 14) (t 33)) 0,
    yP (oMov (t 34)) 15 0])
  (.seq (.seq (.region [yP (oMov (t 3)) 35 0,
    yP (oMov (t 4)) 36 0,
    yE (oEnter 37 [(t 35), (t 36)]) 37 0,
    yP (oUn Try.prog .not (t 37)) 38 0,
    yP (oMov (t 38)) 39 0,
    yPg (oMov (t 15)) 40 39 false 0,
    yPg (oUn Try.prog .not (t 40)) 41 39 false 0,
    yP (oPick (t 39) (.c (.bool .true)) (t 41)) 42 0])
  (.cond (t 42)
    (.seq (.region [yP (oBuild [(.int .i64 0), (.int .i64 0), (.int .i32 0), (.int .i32 0), (.bool .false), (.int .i32 0), (.int .i32 0), (.int .i32 0), (.int .i32 0), (.slice .none 0 0)] []) 43 0,
      zE (oStore 10 (t 10) (t 43)) 0,
      yP (oMov (.c (.int .i64 4))) 11 0])
    .ret)
    .skip))
  (.seq (.region [yP (oMov (t 3)) 44 0,
    yP (oMov (t 4)) 45 0,
    yR (oLoadA 3 (t 14)) 46 0,
    yE (oEnter 36 [(t 13), (t 44), (t 45), (t 46)]) 47 0,
    zE (oStore 10 (t 10) (t 47)) 0,
    yP (oMov (.c (.int .i64 0))) 11 0])
  .ret))))))⟩
def a22 : AFn := ⟨5, [(.t (pa 10))],
  (.seq (.region [yN (oBox (t 0)) 5 0,
    yN (oBox (t 1)) 6 0,
    yN (oBox (t 2)) 7 0,
    yP (oMov (.c (.bool .false))) 10 0])
  (.seq (.seq (.region [yR (oLoadA 6 (t 5)) 14 0,
    yR (oLoadA 6 (t 6)) 15 0,
    yR (oLoadA 6 (t 7)) 16 0,
    yN (oBuildSlice 3 [(.int .i64 0), (.int .i64 0), (.int .i32 0), (.int .i32 0), (.int .i32 0), (.slice .none 0 0), (.int .i64 0), (.int .i64 0), (.int .i32 0), (.int .i32 0), (.int .i32 0), (.slice .none 0 0), (.int .i64 0), (.int .i64 0), (.int .i32 0), (.int .i32 0), (.int .i32 0), (.slice .none 0 0)] [(0, (6, (t 14))), (6, (6, (t 15))), (12, (6, (t 16)))]) 17 0,
    yE (oEnter 12 [(t 17)]) 18 0,
    yP (oBin Try.prog .neq 24 (.tmp 18) (.const (.int .i64 0)) .none (t 18) (.c (.int .i64 0))) 19 0,
    yP (oMov (t 19)) 20 0,
    yPg (oMov (t 3)) 21 20 false 0,
    yPg (oMov (t 4)) 22 20 false 0,
    yEg (oEnter 37 [(t 21), (t 22)]) 23 20 false 0,
    yPg (oUn Try.prog .not (t 23)) 24 20 false 0,
    yP (oPick (t 20) (.c (.bool .true)) (t 24)) 25 0])
  (.cond (t 25)
    (.seq (.region [yP (oMov (.c (.bool .false))) 10 0])
    .ret)
    .skip))
  (.seq (.region [yR (oLoadA 6 (t 5)) 26 0,
    yR (oLoadA 6 (t 6)) 27 0,
    yR (oLoadA 6 (t 7)) 28 0,
    yE (oEnter 33 [(t 26), (t 27), (t 28)]) 29 0,
    yN (oAlloc [(.int .i64 0), (.int .i64 0), (.int .i32 0), (.int .i32 0), (.int .i32 0), (.slice .none 0 0), (.int .i64 0), (.int .i64 0), (.int .i32 0), (.int .i32 0), (.int .i32 0), (.slice .none 0 0), (.int .i64 0), (.int .i64 0), (.int .i32 0), (.int .i32 0), (.int .i32 0), (.slice .none 0 0), (.int .i64 0), (.bool .false)]) 11 0,
    zE (oStore 20 (t 11) (t 29)) 0])
  (.seq (.region [yP (oMov (t 3)) 31 0,
    yP (oMov (t 4)) 32 0,
    yE (oEnter 35 [(t 11), (t 31), (t 32)]) 33 0,
    yP (oMov (t 33)) 30 0,
    yP (oExtract 0 (t 30)) 34 0,
    yP (oExtract 1 (t 30)) 35 0,
    yN (oAlloc [(.int .i64 0), (.int .i64 0), (.int .i64 0)]) 12 0,
    zE (oStore 3 (t 12) (t 34)) 0,
    yP (oMov (t 35)) 13 0])
  (.seq (.region [yP (oMov (t 13)) 36 0,
    yP (oMov (t 36)) 10 0])
  .ret)))))⟩
def a23l0 : ACode := (.seq (.region [yP (oBin Try.prog .lss 3 (.tmp 79) (.tmp 78) .none (t 79) (t 78)) 80 0])
            (.seq (.cond (t 80)
              .skip
              (.exit 2))
            (.seq (.block 3
              (.seq (.region [yP (oMov (t 79)) 81 0,
                yP (oMov (t 81)) 8 0])
              (.seq (.draw [yP (oFieldAddr 9 (t 6)) 82 0,
                yR (oLoad1 (t 82)) 83 1,
                yP (oMov (t 8)) 84 0,
                yP (oIndexAddrS 4 (t 83) (t 84)) 85 7,
                yR (oLoadA 4 (t 85)) 86 15,
                yP (oFieldAddr 9 (t 7)) 87 0,
                yR (oLoad1 (t 87)) 88 32,
                yP (oMov (t 8)) 89 0,
                yP (oIndexAddrS 4 (t 88) (t 89)) 90 224,
                yR (oLoadA 4 (t 90)) 91 480,
                yP (oBin Try.prog .neq 40 (.tmp 86) (.tmp 91) .none (t 86) (t 91)) 92 1023])
              (.cond (t 92)
                (.seq (.region [yP (oMov (.c (.bool .false))) 4 0])
                .ret)
                .skip))))
            (.region [yP (oBin Try.prog .add 3 (.tmp 79) (.const (.int .i64 1)) .none (t 79) (.c (.int .i64 1))) 93 0,
              yP (oMov (t 93)) 79 0]))))
def a23l1 : ACode := (.seq (.region [yP (oBin Try.prog .lss 3 (.tmp 16) (.tmp 15) .none (t 16) (t 15)) 17 0])
      (.seq (.cond (t 17)
        .skip
        (.exit 0))
      (.seq (.block 1
        (.seq (.region [yP (oMov (t 16)) 18 0,
          yP (oMov (t 18)) 5 0])
        (.seq (.draw [yP (oMov (t 0)) 19 0,
          yP (oMov (t 5)) 20 0,
          yP (oIndexAddrS 10 (t 19) (t 20)) 21 3,
          yR (oLoadA 10 (t 21)) 22 7,
          yP (oMov (t 1)) 23 0,
          yP (oMov (t 5)) 24 0,
          yP (oIndexAddrS 10 (t 23) (t 24)) 25 48,
          yR (oLoadA 10 (t 25)) 26 112,
          yN (oAlloc [(.int .i64 0), (.int .i64 0), (.int .i32 0), (.int .i32 0), (.bool .false), (.int .i32 0), (.int .i32 0), (.int .i32 0), (.int .i32 0), (.slice .none 0 0)]) 6 0,
          yN (oAlloc [(.int .i64 0), (.int .i64 0), (.int .i32 0), (.int .i32 0), (.bool .false), (.int .i32 0), (.int .i32 0), (.int .i32 0), (.int .i32 0), (.slice .none 0 0)]) 7 0,
          zE (oStore 10 (t 6) (t 22)) 783,
          zE (oStore 10 (t 7) (t 26)) 2047])
        (.seq (.seq (.region [yP (oFieldAddr 0 (t 6)) 27 0,
          yR (oLoad1 (t 27)) 28 0,
          yP (oFieldAddr 0 (t 7)) 29 0,
          yR (oLoad1 (t 29)) 30 0,
          yP (oBin Try.prog .neq 3 (.tmp 28) (.tmp 30) .none (t 28) (t 30)) 31 0,
          yP (oMov (t 31)) 32 0,
          yPg (oFieldAddr 1 (t 6)) 33 32 false 0,
          yRg (oLoad1 (t 33)) 34 32 false 0,
          yPg (oFieldAddr 1 (t 7)) 35 32 false 0,
          yRg (oLoad1 (t 35)) 36 32 false 0,
          yPg (oBin Try.prog .neq 3 (.tmp 34) (.tmp 36) .none (t 34) (t 36)) 37 32 false 0,
          yP (oPick (t 32) (.c (.bool .true)) (t 37)) 38 0,
          yP (oMov (t 38)) 39 0,
          yPg (oFieldAddr 2 (t 6)) 40 39 false 0,
          yRg (oLoad1 (t 40)) 41 39 false 0,
          yPg (oFieldAddr 2 (t 7)) 42 39 false 0,
          yRg (oLoad1 (t 42)) 43 39 false 0,
          yPg (oBin Try.prog .neq 27 (.tmp 41) (.tmp 43) .none (t 41) (t 43)) 44 39 false 0,
          yP (oPick (t 39) (.c (.bool .true)) (t 44)) 45 0,
          yP (oMov (t 45)) 46 0,
          yPg (oFieldAddr 3 (t 6)) 47 46 false 0,
          yRg (oLoad1 (t 47)) 48 46 false 0,
          yPg (oFieldAddr 3 (t 7)) 49 46 false 0,
          yRg (oLoad1 (t 49)) 50 46 false 0,
          yPg (oBin Try.prog .neq 27 (.tmp 48) (.tmp 50) .none (t 48) (t 50)) 51 46 false 0,
          yP (oPick (t 46) (.c (.bool .true)) (t 51)) 52 0,
          yP (oMov (t 52)) 53 0,
          yPg (oFieldAddr 4 (t 6)) 54 53 false 0,
          yRg (oLoad1 (t 54)) 55 53 false 0,
          yPg (oFieldAddr 4 (t 7)) 56 53 false 0,
          yRg (oLoad1 (t 56)) 57 53 false 0,
          yPg (oBin Try.prog .neq 4 (.tmp 55) (.tmp 57) .none (t 55) (t 57)) 58 53 false 0,
          yP (oPick (t 53) (.c (.bool .true)) (t 58)) 59 0,
          yP (oMov (t 59)) 60 0,
          yPg (oFieldAddr 5 (t 6)) 61 60 false 0,
          yRg (oLoadA 4 (t 61)) 62 60 false 0,
          yPg (oFieldAddr 5 (t 7)) 63 60 false 0,
          yRg (oLoadA 4 (t 63)) 64 60 false 0,
          yPg (oBin Try.prog .neq 40 (.tmp 62) (.tmp 64) .none (t 62) (t 64)) 65 60 false 0,
          yP (oPick (t 60) (.c (.bool .true)) (t 65)) 66 0,
          yP (oMov (t 66)) 67 0,
          yPg (oFieldAddr 9 (t 6)) 68 67 false 0,
          yRg (oLoad1 (t 68)) 69 67 false 0,
          yPg (oLenS (t 69)) 70 67 false 0,
          yPg (oFieldAddr 9 (t 7)) 71 67 false 0,
          yRg (oLoad1 (t 71)) 72 67 false 0,
          yPg (oLenS (t 72)) 73 67 false 0,
          yPg (oBin Try.prog .neq 3 (.tmp 70) (.tmp 73) .none (t 70) (t 73)) 74 67 false 0,
          yP (oPick (t 67) (.c (.bool .true)) (t 74)) 75 0])
        (.cond (t 75)
          (.seq (.region [yP (oMov (.c (.bool .false))) 4 0])
          .ret)
          .skip))
        (.seq (.region [yP (oFieldAddr 9 (t 6)) 76 0,
          yR (oLoad1 (t 76)) 77 0,
          yP (oLenS (t 77)) 78 0,
          yP (oMov (.c (.int .i64 0))) 79 0])
        (.block 2
          (.loop a23l0)))))))
      (.region [yP (oBin Try.prog .add 3 (.tmp 16) (.const (.int .i64 1)) .none (t 16) (.c (.int .i64 1))) 94 0,
        yP (oMov (t 94)) 16 0]))))
def a23 : AFn := ⟨2, [(.t (pa 4))],
  (.seq (.region [yP (oMov (.c (.bool .false))) 4 0])
  (.seq (.seq (.region [yP (oMov (t 0)) 9 0,
    yP (oLenS (t 9)) 10 0,
    yP (oMov (t 1)) 11 0,
    yP (oLenS (t 11)) 12 0,
    yP (oBin Try.prog .neq 3 (.tmp 10) (.tmp 12) .none (t 10) (t 12)) 13 0])
  (.cond (t 13)
    (.seq (.region [yP (oMov (.c (.bool .false))) 4 0])
    .ret)
    .skip))
  (.seq (.seq (.region [yP (oMov (t 0)) 14 0,
    yP (oLenS (t 14)) 15 0,
    yP (oMov (.c (.int .i64 0))) 16 0])
  (.block 0
    (.loop a23l1)))
  (.seq (.region [yP (oMov (.c (.bool .true))) 4 0])
  .ret))))⟩
def a24 : AFn := ⟨1, [(.t (pa 2))],
  (.seq (.region [yN (oBox (t 0)) 1 0,
    yP (oMov (.c (.bool .false))) 2 0])
  (.seq (.region [yP (oSliceA 3 6 (t 1) .none .none .none) 3 0,
    yE (oEnter 13 [(t 3)]) 4 0,
    yP (oMov (t 4)) 2 0])
  .ret))⟩
def a25 : AFn := ⟨5, [(.t (pa 10))],
  (.seq (.region [yN (oBox (t 0)) 5 0,
    yN (oBox (t 1)) 6 0,
    yN (oBox (t 2)) 7 0,
    yP (oMov (.c (.bool .false))) 10 0])
  (.seq (.seq (.region [yP (oMov (t 3)) 13 0,
    yP (oBin Try.prog .lss 3 (.tmp 13) (.const (.int .i64 0)) .none (t 13) (.c (.int .i64 0))) 14 0,
    yP (oMov (t 14)) 15 0,
    yPg (oMov (t 3)) 16 15 false 0,
    yPg (oBin Try.prog .geq 3 (.tmp 16) (.const (.int .i64 64)) .none (t 16) (.c (.int .i64 64))) 17 15 false 0,
    yP (oPick (t 15) (.c (.bool .true)) (t 17)) 18 0,
    yP (oMov (t 18)) 19 0,
    yPg (oMov (t 4)) 20 19 false 0,
    yPg (oBin Try.prog .lss 3 (.tmp 20) (.const (.int .i64 0)) .none (t 20) (.c (.int .i64 0))) 21 19 false 0,
    yP (oPick (t 19) (.c (.bool .true)) (t 21)) 22 0,
    yP (oMov (t 22)) 23 0,
    yPg (oMov (t 4)) 24 23 false 0,
    yPg (oBin Try.prog .geq 3 (.tmp 24) (.const (.int .i64 64)) .none (t 24) (.c (.int .i64 64))) 25 23 false 0,
    yP (oPick (t 23) (.c (.bool .true)) (t 25)) 26 0,
    yP (oMov (t 26)) 27 0,
    yRg (oLoadA 6 (t 5)) 28 27 false 0,
    yRg (oLoadA 6 (t 6)) 29 27 false 0,
    yRg (oLoadA 6 (t 7)) 30 27 false 0,
    yEg (oEnter 30 [(t 28), (t 29), (t 30)]) 31 27 false 0,
    yPg (oBin Try.prog .eql 3 (.tmp 31) (.const (.int .i64 0)) .none (t 31) (.c (.int .i64 0))) 32 27 false 0,
    yP (oPick (t 27) (.c (.bool .true)) (t 32)) 33 0])
  (.cond (t 33)
    (.seq (.region [yP (oMov (.c (.bool .false))) 10 0])
    .ret)
    .skip))
  (.seq (.region [yR (oLoadA 6 (t 5)) 35 0,
    yR (oLoadA 6 (t 6)) 36 0,
    yR (oLoadA 6 (t 7)) 37 0,
    yE (oEnter 38 [(t 35), (t 36), (t 37)]) 38 0,
    yP (oMov (t 38)) 34 0,
    yP (oExtract 0 (t 34)) 39 0,
    yP (oExtract 1 (t 34)) 40 0,
    yP (oExtract 2 (t 34)) 41 0,
    zE (oStore 6 (t 5) (t 39)) 0,
    zE (oStore 6 (t 6) (t 40)) 0,
    zE (oStore 6 (t 7) (t 41)) 0])
  (.seq (.region [yP (oMov (t 3)) 42 0,
    yP (oBin Try.prog .mul 3 (.const (.int .i64 256)) (.tmp 42) .none (.c (.int .i64 256)) (t 42)) 43 0,
    yP (oBin Try.prog .add 3 (.tmp 43) (.const (.int .i64 128)) .none (t 43) (.c (.int .i64 128))) 44 0,
    yP (oMov (t 4)) 45 0,
    yP (oBin Try.prog .mul 3 (.const (.int .i64 256)) (.tmp 45) .none (.c (.int .i64 256)) (t 45)) 46 0,
    yP (oBin Try.prog .add 3 (.tmp 46) (.const (.int .i64 128)) .none (t 46) (.c (.int .i64 128))) 47 0,
    yP (oMov (t 44)) 11 0,
    yP (oMov (t 47)) 12 0])
  (.seq (.region [yR (oLoadA 6 (t 6)) 48 0,
    yR (oLoadA 6 (t 7)) 49 0,
    yP (oMov (t 11)) 50 0,
    yP (oMov (t 12)) 51 0,
    yE (oEnter 39 [(t 48), (t 49), (t 50), (t 51)]) 52 0,
    yP (oMov (t 52)) 53 0,
    yRg (oLoadA 6 (t 7)) 54 53 true 0,
    yRg (oLoadA 6 (t 5)) 55 53 true 0,
    yPg (oMov (t 11)) 56 53 true 0,
    yPg (oMov (t 12)) 57 53 true 0,
    yEg (oEnter 39 [(t 54), (t 55), (t 56), (t 57)]) 58 53 true 0,
    yP (oPick (t 53) (t 58) (.c (.bool .false))) 59 0,
    yP (oMov (t 59)) 60 0,
    yRg (oLoadA 6 (t 5)) 61 60 true 0,
    yRg (oLoadA 6 (t 6)) 62 60 true 0,
    yPg (oMov (t 11)) 63 60 true 0,
    yPg (oMov (t 12)) 64 60 true 0,
    yEg (oEnter 39 [(t 61), (t 62), (t 63), (t 64)]) 65 60 true 0,
    yP (oPick (t 60) (t 65) (.c (.bool .false))) 66 0,
    yP (oMov (t 66)) 10 0])
  .ret)))))⟩
def a26l0 : ACode := (.seq (.region [yP (oBin Try.prog .lss 3 (.tmp 75) (.const (.int .i64 4)) .none (t 75) (.c (.int .i64 4))) 76 0])
            (.seq (.cond (t 76)
              .skip
              (.exit 2))
            (.seq (.block 3
              (.seq (.region [yP (oMov (t 75)) 77 0,
                yP (oMov (t 77)) 16 0])
              (.draw [yP (oMov (t 16)) 78 0,
                yP (oMov (t 13)) 79 0,
                yP (oFieldAddr 5 (t 5)) 80 0,
                yR (oLoad1 (t 80)) 81 4,
                yP (oMov (t 14)) 82 0,
                yP (oMov (t 16)) 83 0,
                yP (oIndexAddrS 4 (t 81) (t 82)) 84 28,
                yP (oIndexAddrA 4 1 (t 84) (t 83)) 85 124,
                yR (oLoad1 (t 85)) 86 252,
                yP (oCvtInt .i64 (t 86)) 87 508,
                yP (oFieldAddr 5 (t 6)) 88 0,
                yR (oLoad1 (t 88)) 89 1024,
                yP (oMov (t 14)) 90 0,
                yP (oMov (t 16)) 91 0,
                yP (oIndexAddrS 4 (t 89) (t 90)) 92 7168,
                yP (oIndexAddrA 4 1 (t 92) (t 91)) 93 31744,
                yR (oLoad1 (t 93)) 94 64512,
                yP (oCvtInt .i64 (t 94)) 95 130048,
                yP (oFieldAddr 5 (t 7)) 96 0,
                yR (oLoad1 (t 96)) 97 262144,
                yP (oMov (t 14)) 98 0,
                yP (oMov (t 16)) 99 0,
                yP (oIndexAddrS 4 (t 97) (t 98)) 100 1835008,
                yP (oIndexAddrA 4 1 (t 100) (t 99)) 101 8126464,
                yR (oLoad1 (t 101)) 102 16515072,
                yP (oCvtInt .i64 (t 102)) 103 33292288,
                yN (oBuildSlice 3 [(.int .i64 0), (.int .i64 0), (.int .i64 0)] [(0, (1, (t 87))), (1, (1, (t 95))), (2, (1, (t 103)))]) 104 67108860,
                yE (oEnter 41 [(t 79), (t 104)]) 105 134217726,
                yP (oIndexAddrA 4 1 (t 15) (t 78)) 106 268435455,
                zE (oStore 1 (t 106) (t 105)) 536870911])))
            (.region [yP (oBin Try.prog .add 3 (.tmp 75) (.const (.int .i64 1)) .none (t 75) (.c (.int .i64 1))) 107 0,
              yP (oMov (t 107)) 75 0]))))
def a26l1 : ACode := (.seq (.region [yP (oBin Try.prog .lss 3 (.tmp 72) (.tmp 71) .none (t 72) (t 71)) 73 0])
      (.seq (.cond (t 73)
        .skip
        (.exit 0))
      (.seq (.block 1
        (.seq (.region [yP (oMov (t 72)) 74 0,
          yP (oMov (t 74)) 14 0])
        (.seq (.region [yN (oAlloc [(.int .i32 0), (.int .i32 0), (.int .i32 0), (.int .i32 0)]) 15 0])
        (.seq (.seq (.region [yP (oMov (.c (.int .i64 0))) 75 0])
        (.block 2
          (.loop a26l0)))
        (.region [yP (oFieldAddr 9 (t 11)) 108 0,
          yR (oLoad1 (t 108)) 109 0,
          yR (oLoadA 4 (t 15)) 110 0,
          yN (oBuildSlice 1 [(.int .i32 0), (.int .i32 0), (.int .i32 0), (.int .i32 0)] [(0, (4, (t 110)))]) 111 0,
          yE (oAppend 4 16 (t 109) (t 111)) 112 0,
          yP (oFieldAddr 9 (t 11)) 113 0,
          zE (oStore 1 (t 113) (t 112)) 0])))))
      (.region [yP (oBin Try.prog .add 3 (.tmp 72) (.const (.int .i64 1)) .none (t 72) (.c (.int .i64 1))) 114 0,
        yP (oMov (t 114)) 72 0]))))
def a26 : AFn := ⟨5, [(.cA 10 (pa 10))],
  (.seq (.region [yN (oBox (t 0)) 5 0,
    yN (oBox (t 1)) 6 0,
    yN (oBox (t 2)) 7 0,
    yN (oAlloc [(.int .i64 0), (.int .i64 0), (.int .i32 0), (.int .i32 0), (.bool .false), (.int .i32 0), (.int .i32 0), (.int .i32 0), (.int .i32 0), (.slice .none 0 0)]) 10 0])
  (.seq (.region [yP (oMov (t 3)) 17 0,
    yP (oMov (t 4)) 18 0,
    yR (oLoadA 6 (t 5)) 19 0,
    yR (oLoadA 6 (t 6)) 20 0,
    yR (oLoadA 6 (t 7)) 21 0,
    yE (oEnter 30 [(t 19), (t 20), (t 21)]) 22 0,
    yP (oBin Try.prog .gtr 3 (.tmp 22) (.const (.int .i64 0)) .none (t 22) (.c (.int .i64 0))) 23 0,
    yP (oBuild [(.int .i64 0), (.int .i64 0), (.int .i32 0), (.int .i32 0), (.bool .false), (.int .i32 0), (.int .i32 0), (.int .i32 0), (.int .i32 0), (.slice .none 0 0)] [(0, (1, (t 17))), (1, (1, (t 18))), (4, (1, (t 23)))]) 24 0,
    yN (oAlloc [(.int .i64 0), (.int .i64 0), (.int .i32 0), (.int .i32 0), (.bool .false), (.int .i32 0), (.int .i32 0), (.int .i32 0), (.int .i32 0), (.slice .none 0 0)]) 11 0,
    zE (oStore 10 (t 11) (t 24)) 0])
  (.seq (.region [yR (oLoadA 6 (t 5)) 26 0,
    yR (oLoadA 6 (t 6)) 27 0,
    yR (oLoadA 6 (t 7)) 28 0,
    yE (oEnter 38 [(t 26), (t 27), (t 28)]) 29 0,
    yP (oMov (t 29)) 25 0,
    yP (oExtract 0 (t 25)) 30 0,
    yP (oExtract 1 (t 25)) 31 0,
    yP (oExtract 2 (t 25)) 32 0,
    zE (oStore 6 (t 5) (t 30)) 0,
    zE (oStore 6 (t 6) (t 31)) 0,
    zE (oStore 6 (t 7) (t 32)) 0])
  (.seq (.region [yR (oLoadA 6 (t 5)) 34 0,
    yR (oLoadA 6 (t 6)) 35 0,
    yR (oLoadA 6 (t 7)) 36 0,
    yP (oMov (t 3)) 37 0,
    yP (oBin Try.prog .mul 3 (.const (.int .i64 256)) (.tmp 37) .none (.c (.int .i64 256)) (t 37)) 38 0,
    yP (oBin Try.prog .add 3 (.tmp 38) (.const (.int .i64 128)) .none (t 38) (.c (.int .i64 128))) 39 0,
    yP (oMov (t 4)) 40 0,
    yP (oBin Try.prog .mul 3 (.const (.int .i64 256)) (.tmp 40) .none (.c (.int .i64 256)) (t 40)) 41 0,
    yP (oBin Try.prog .add 3 (.tmp 41) (.const (.int .i64 128)) .none (t 41) (.c (.int .i64 128))) 42 0,
    yE (oEnter 40 [(t 34), (t 35), (t 36), (t 39), (t 42)]) 43 0,
    yP (oMov (t 43)) 33 0,
    yP (oExtract 0 (t 33)) 44 0,
    yP (oExtract 1 (t 33)) 45 0,
    yP (oMov (t 44)) 12 0,
    yP (oMov (t 45)) 13 0])
  (.seq (.region [yP (oMov (t 12)) 46 0,
    yP (oFieldAddr 2 (t 5)) 47 0,
    yR (oLoad1 (t 47)) 48 0,
    yP (oCvtInt .i64 (t 48)) 49 0,
    yP (oFieldAddr 2 (t 6)) 50 0,
    yR (oLoad1 (t 50)) 51 0,
    yP (oCvtInt .i64 (t 51)) 52 0,
    yP (oFieldAddr 2 (t 7)) 53 0,
    yR (oLoad1 (t 53)) 54 0,
    yP (oCvtInt .i64 (t 54)) 55 0,
    yN (oBuildSlice 3 [(.int .i64 0), (.int .i64 0), (.int .i64 0)] [(0, (1, (t 49))), (1, (1, (t 52))), (2, (1, (t 55)))]) 56 0,
    yE (oEnter 41 [(t 46), (t 56)]) 57 0,
    yP (oFieldAddr 2 (t 11)) 58 0,
    zE (oStore 1 (t 58) (t 57)) 0])
  (.seq (.draw [yP (oMov (t 12)) 59 0,
    yR (oLoadA 6 (t 5)) 60 0,
    yE (oEnter 42 [(t 60)]) 61 2,
    yR (oLoadA 6 (t 6)) 62 0,
    yE (oEnter 42 [(t 62)]) 63 14,
    yR (oLoadA 6 (t 7)) 64 0,
    yE (oEnter 42 [(t 64)]) 65 62,
    yN (oBuildSlice 3 [(.int .i64 0), (.int .i64 0), (.int .i64 0)] [(0, (1, (t 61))), (1, (1, (t 63))), (2, (1, (t 65)))]) 66 126,
    yE (oEnter 41 [(t 59), (t 66)]) 67 255,
    yP (oFieldAddr 3 (t 11)) 68 511,
    zE (oStore 1 (t 68) (t 67)) 1023])
  (.seq (.seq (.region [yP (oFieldAddr 5 (t 5)) 69 0,
    yR (oLoad1 (t 69)) 70 0,
    yP (oLenS (t 70)) 71 0,
    yP (oMov (.c (.int .i64 0))) 72 0])
  (.block 0
    (.loop a26l1)))
  (.seq (.region [yR (oLoadA 10 (t 11)) 115 0,
    zE (oStore 10 (t 10) (t 115)) 0])
  .ret))))))))⟩
def a27 : AFn := ⟨1, [(.t (pa 2))],
  (.seq (.region [yN (oBox (t 0)) 1 0,
    yP (oMov (.c (.bool .false))) 2 0])
  (.seq (.region [yP (oFieldAddr 0 (t 1)) 3 0,
    yR (oLoad1 (t 3)) 4 0,
    yP (oBin Try.prog .geq 3 (.tmp 4) (.const (.int .i64 0)) .none (t 4) (.c (.int .i64 0))) 5 0,
    yP (oMov (t 5)) 6 0,
    yPg (oFieldAddr 1 (t 1)) 7 6 true 0,
    yRg (oLoad1 (t 7)) 8 6 true 0,
    yPg (oBin Try.prog .geq 3 (.tmp 8) (.const (.int .i64 0)) .none (t 8) (.c (.int .i64 0))) 9 6 true 0,
    yP (oPick (t 6) (t 9) (.c (.bool .false))) 10 0,
    yP (oMov (t 10)) 11 0,
    yPg (oFieldAddr 2 (t 1)) 12 11 true 0,
    yRg (oLoad1 (t 12)) 13 11 true 0,
    yPg (oBin Try.prog .geq 3 (.tmp 13) (.const (.int .i64 0)) .none (t 13) (.c (.int .i64 0))) 14 11 true 0,
    yP (oPick (t 11) (t 14) (.c (.bool .false))) 15 0,
    yP (oMov (t 15)) 16 0,
    yPg (oFieldAddr 3 (t 1)) 17 16 true 0,
    yRg (oLoad1 (t 17)) 18 16 true 0,
    yPg (oBin Try.prog .geq 3 (.tmp 18) (.const (.int .i64 0)) .none (t 18) (.c (.int .i64 0))) 19 16 true 0,
    yP (oPick (t 16) (t 19) (.c (.bool .false))) 20 0,
    yP (oMov (t 20)) 21 0,
    yPg (oFieldAddr 0 (t 1)) 22 21 true 0,
    yRg (oLoad1 (t 22)) 23 21 true 0,
    yPg (oBin Try.prog .leq 3 (.tmp 23) (.const (.int .i64 64)) .none (t 23) (.c (.int .i64 64))) 24 21 true 0,
    yP (oPick (t 21) (t 24) (.c (.bool .false))) 25 0,
    yP (oMov (t 25)) 26 0,
    yPg (oFieldAddr 1 (t 1)) 27 26 true 0,
    yRg (oLoad1 (t 27)) 28 26 true 0,
    yPg (oBin Try.prog .leq 3 (.tmp 28) (.const (.int .i64 64)) .none (t 28) (.c (.int .i64 64))) 29 26 true 0,
    yP (oPick (t 26) (t 29) (.c (.bool .false))) 30 0,
    yP (oMov (t 30)) 31 0,
    yPg (oFieldAddr 2 (t 1)) 32 31 true 0,
    yRg (oLoad1 (t 32)) 33 31 true 0,
    yPg (oFieldAddr 0 (t 1)) 34 31 true 0,
    yRg (oLoad1 (t 34)) 35 31 true 0,
    yPg (oBin Try.prog .sub 3 (.const (.int .i64 64)) (.tmp 35) .none (.c (.int .i64 64)) (t 35)) 36 31 true 0,
    yPg (oBin Try.prog .leq 3 (.tmp 33) (.tmp 36) .none (t 33) (t 36)) 37 31 true 0,
    yP (oPick (t 31) (t 37) (.c (.bool .false))) 38 0,
    yP (oMov (t 38)) 39 0,
    yPg (oFieldAddr 3 (t 1)) 40 39 true 0,
    yRg (oLoad1 (t 40)) 41 39 true 0,
    yPg (oFieldAddr 1 (t 1)) 42 39 true 0,
    yRg (oLoad1 (t 42)) 43 39 true 0,
    yPg (oBin Try.prog .sub 3 (.const (.int .i64 64)) (.tmp 43) .none (.c (.int .i64 64)) (t 43)) 44 39 true 0,
    yPg (oBin Try.prog .leq 3 (.tmp 41) (.tmp 44) .none (t 41) (t 44)) 45 39 true 0,
    yP (oPick (t 39) (t 45) (.c (.bool .false))) 46 0,
    yP (oMov (t 46)) 2 0])
  .ret))⟩
def a28l0 : ACode := (.seq (.seq (.region [yP (oMov (t 11)) 25 0,
              yP (oFieldAddr 0 (t 7)) 26 0,
              yR (oLoad1 (t 26)) 27 0,
              yP (oFieldAddr 2 (t 7)) 28 0,
              yR (oLoad1 (t 28)) 29 0,
              yP (oBin Try.prog .add 3 (.tmp 27) (.tmp 29) .none (t 27) (t 29)) 30 0,
              yP (oBin Try.prog .lss 3 (.tmp 25) (.tmp 30) .none (t 25) (t 30)) 31 0])
            (.cond (t 31)
              .skip
              (.exit 2)))
            (.seq (.block 3
              (.seq (.region [yR (oLoadA 6 (t 4)) 34 0,
                yR (oLoadA 6 (t 5)) 35 0,
                yR (oLoadA 6 (t 6)) 36 0,
                yP (oMov (t 11)) 37 0,
                yP (oMov (t 10)) 38 0,
                yE (oEnter 25 [(t 34), (t 35), (t 36), (t 37), (t 38)]) 39 0])
              (.cond (t 39)
                (.region [yP (oMov (t 9)) 40 0,
                  yR (oLoadA 6 (t 4)) 41 0,
                  yR (oLoadA 6 (t 5)) 42 0,
                  yR (oLoadA 6 (t 6)) 43 0,
                  yP (oMov (t 11)) 44 0,
                  yP (oMov (t 10)) 45 0,
                  yE (oEnter 26 [(t 41), (t 42), (t 43), (t 44), (t 45)]) 46 0,
                  yN (oBuildSlice 1 [(.int .i64 0), (.int .i64 0), (.int .i32 0), (.int .i32 0), (.bool .false), (.int .i32 0), (.int .i32 0), (.int .i32 0), (.int .i32 0), (.slice .none 0 0)] [(0, (10, (t 46)))]) 47 0,
                  yE (oAppend 10 72 (t 40) (t 47)) 48 0,
                  yP (oMov (t 48)) 9 0])
                .skip)))
            (.region [yP (oMov (t 11)) 32 0,
              yP (oBin Try.prog .add 3 (.tmp 32) (.const (.int .i64 1)) .none (t 32) (.c (.int .i64 1))) 33 0,
              yP (oMov (t 33)) 11 0])))
def a28l1 : ACode := (.seq (.seq (.region [yP (oMov (t 10)) 14 0,
        yP (oFieldAddr 1 (t 7)) 15 0,
        yR (oLoad1 (t 15)) 16 0,
        yP (oFieldAddr 3 (t 7)) 17 0,
        yR (oLoad1 (t 17)) 18 0,
        yP (oBin Try.prog .add 3 (.tmp 16) (.tmp 18) .none (t 16) (t 18)) 19 0,
        yP (oBin Try.prog .lss 3 (.tmp 14) (.tmp 19) .none (t 14) (t 19)) 20 0])
      (.cond (t 20)
        .skip
        (.exit 0)))
      (.seq (.block 1
        (.seq (.region [yP (oFieldAddr 0 (t 7)) 23 0,
          yR (oLoad1 (t 23)) 24 0,
          yP (oMov (t 24)) 11 0])
        (.block 2
          (.loop a28l0))))
      (.region [yP (oMov (t 10)) 21 0,
        yP (oBin Try.prog .add 3 (.tmp 21) (.const (.int .i64 1)) .none (t 21) (.c (.int .i64 1))) 22 0,
        yP (oMov (t 22)) 10 0])))
def a28 : AFn := ⟨4, [(.t (pa 8))],
  (.seq (.region [yN (oBox (t 0)) 4 0,
    yN (oBox (t 1)) 5 0,
    yN (oBox (t 2)) 6 0,
    yN (oBox (t 3)) 7 0,
    yP (oMov (.c (.slice .none 0 0))) 8 0])
  (.seq (.region [yP (oMov (.c (.slice .none 0 0))) 9 0])
  (.seq (.seq (.region [yP (oFieldAddr 1 (t 7)) 12 0,
    yR (oLoad1 (t 12)) 13 0,
    yP (oMov (t 13)) 10 0])
  (.block 0
    (.loop a28l1)))
  (.seq (.region [yP (oMov (t 9)) 49 0,
    yP (oMov (t 49)) 8 0])
  .ret))))⟩
def a29 : AFn := ⟨2, [(.t (pa 4))],
  (.seq (.region [yP (oMov (.c (.bool .false))) 4 0])
  (.seq (.region [yP (oMov (t 0)) 5 0,
    yP (oMov (t 1)) 6 0,
    yE (oEnter 43 [(t 5), (t 6), (.c (.func (.func 44) #[] #[]))]) 7 0,
    yP (oMov (t 7)) 4 0])
  .ret))⟩
def a30 : AFn := ⟨3, [(.t (pa 6))],
  (.seq (.region [yN (oBox (t 0)) 3 0,
    yN (oBox (t 1)) 4 0,
    yN (oBox (t 2)) 5 0,
    yP (oMov (.c (.int .i64 0))) 6 0])
  (.seq (.region [yP (oFieldAddr 0 (t 4)) 7 0,
    yR (oLoad1 (t 7)) 8 0,
    yP (oFieldAddr 0 (t 3)) 9 0,
    yR (oLoad1 (t 9)) 10 0,
    yP (oBin Try.prog .sub 3 (.tmp 8) (.tmp 10) .none (t 8) (t 10)) 11 0,
    yP (oFieldAddr 1 (t 5)) 12 0,
    yR (oLoad1 (t 12)) 13 0,
    yP (oFieldAddr 1 (t 3)) 14 0,
    yR (oLoad1 (t 14)) 15 0,
    yP (oBin Try.prog .sub 3 (.tmp 13) (.tmp 15) .none (t 13) (t 15)) 16 0,
    yP (oBin Try.prog .mul 3 (.tmp 11) (.tmp 16) .none (t 11) (t 16)) 17 0,
    yP (oFieldAddr 0 (t 5)) 18 0,
    yR (oLoad1 (t 18)) 19 0,
    yP (oFieldAddr 0 (t 3)) 20 0,
    yR (oLoad1 (t 20)) 21 0,
    yP (oBin Try.prog .sub 3 (.tmp 19) (.tmp 21) .none (t 19) (t 21)) 22 0,
    yP (oFieldAddr 1 (t 4)) 23 0,
    yR (oLoad1 (t 23)) 24 0,
    yP (oFieldAddr 1 (t 3)) 25 0,
    yR (oLoad1 (t 25)) 26 0,
    yP (oBin Try.prog .sub 3 (.tmp 24) (.tmp 26) .none (t 24) (t 26)) 27 0,
    yP (oBin Try.prog .mul 3 (.tmp 22) (.tmp 27) .none (t 22) (t 27)) 28 0,
    yP (oBin Try.prog .sub 3 (.tmp 17) (.tmp 28) .none (t 17) (t 28)) 29 0,
    yP (oMov (t 29)) 6 0])
  .ret))⟩
def a31 : AFn := ⟨4, [(.t (pa 8))],
  (.seq (.region [yN (oBox (t 0)) 4 0,
    yN (oBox (t 1)) 5 0,
    yP (oMov (.c (.int .i64 0))) 8 0])
  (.seq (.region [yP (oFieldAddr 0 (t 5)) 9 0,
    yR (oLoad1 (t 9)) 10 0,
    yP (oFieldAddr 0 (t 4)) 11 0,
    yR (oLoad1 (t 11)) 12 0,
    yP (oBin Try.prog .sub 3 (.tmp 10) (.tmp 12) .none (t 10) (t 12)) 13 0,
    yP (oMov (t 3)) 14 0,
    yP (oFieldAddr 1 (t 4)) 15 0,
    yR (oLoad1 (t 15)) 16 0,
    yP (oBin Try.prog .sub 3 (.tmp 14) (.tmp 16) .none (t 14) (t 16)) 17 0,
    yP (oBin Try.prog .mul 3 (.tmp 13) (.tmp 17) .none (t 13) (t 17)) 18 0,
    yP (oFieldAddr 1 (t 5)) 19 0,
    yR (oLoad1 (t 19)) 20 0,
    yP (oFieldAddr 1 (t 4)) 21 0,
    yR (oLoad1 (t 21)) 22 0,
    yP (oBin Try.prog .sub 3 (.tmp 20) (.tmp 22) .none (t 20) (t 22)) 23 0,
    yP (oMov (t 2)) 24 0,
    yP (oFieldAddr 0 (t 4)) 25 0,
    yR (oLoad1 (t 25)) 26 0,
    yP (oBin Try.prog .sub 3 (.tmp 24) (.tmp 26) .none (t 24) (t 26)) 27 0,
    yP (oBin Try.prog .mul 3 (.tmp 23) (.tmp 27) .none (t 23) (t 27)) 28 0,
    yP (oBin Try.prog .sub 3 (.tmp 18) (.tmp 28) .none (t 18) (t 28)) 29 0,
    yP (oMov (t 29)) 8 0])
  .ret))⟩
def a32 : AFn := ⟨2, [(.t (pa 4))],
  (.seq (.region [yP (oMov (.c (.bool .false))) 4 0])
  (.seq (.region [yP (oMov (t 0)) 5 0,
    yP (oBin Try.prog .geq 3 (.tmp 5) (.const (.int .i64 0)) .none (t 5) (.c (.int .i64 0))) 6 0,
    yP (oMov (t 6)) 7 0,
    yPg (oMov (t 1)) 8 7 true 0,
    yPg (oBin Try.prog .geq 3 (.tmp 8) (.const (.int .i64 0)) .none (t 8) (.c (.int .i64 0))) 9 7 true 0,
    yP (oPick (t 7) (t 9) (.c (.bool .false))) 10 0,
    yP (oMov (t 10)) 11 0,
    yPg (oMov (t 0)) 12 11 true 0,
    yPg (oBin Try.prog .leq 3 (.tmp 12) (.const (.int .i64 64)) .none (t 12) (.c (.int .i64 64))) 13 11 true 0,
    yP (oPick (t 11) (t 13) (.c (.bool .false))) 14 0,
    yP (oMov (t 14)) 15 0,
    yPg (oMov (t 1)) 16 15 true 0,
    yPg (oMov (t 0)) 17 15 true 0,
    yPg (oBin Try.prog .sub 3 (.const (.int .i64 64)) (.tmp 17) .none (.c (.int .i64 64)) (t 17)) 18 15 true 0,
    yPg (oBin Try.prog .leq 3 (.tmp 16) (.tmp 18) .none (t 16) (t 18)) 19 15 true 0,
    yP (oPick (t 15) (t 19) (.c (.bool .false))) 20 0,
    yP (oMov (t 20)) 4 0])
  .ret))⟩
def a33 : AFn := ⟨3, [(.cA 20 (pa 6))],
  (.seq (.region [yN (oBox (t 0)) 3 0,
    yN (oBox (t 1)) 4 0,
    yN (oBox (t 2)) 5 0,
    yN (oAlloc [(.int .i64 0), (.int .i64 0), (.int .i32 0), (.int .i32 0), (.int .i32 0), (.slice .none 0 0), (.int .i64 0), (.int .i64 0), (.int .i32 0), (.int .i32 0), (.int .i32 0), (.slice .none 0 0), (.int .i64 0), (.int .i64 0), (.int .i32 0), (.int .i32 0), (.int .i32 0), (.slice .none 0 0), (.int .i64 0), (.bool .false)]) 6 0])
  (.seq (.region [yR (oLoadA 6 (t 3)) 8 0,
    yR (oLoadA 6 (t 4)) 9 0,
    yP (oFieldAddr 0 (t 5)) 10 0,
    yR (oLoad1 (t 10)) 11 0,
    yP (oFieldAddr 1 (t 5)) 12 0,
    yR (oLoad1 (t 12)) 13 0,
    yE (oEnter 31 [(t 8), (t 9), (t 11), (t 13)]) 14 0,
    yP (oMov (t 14)) 7 0])
  (.seq (.seq (.region [yP (oMov (t 7)) 15 0,
    yP (oBin Try.prog .lss 3 (.tmp 15) (.const (.int .i64 0)) .none (t 15) (.c (.int .i64 0))) 16 0])
  (.cond (t 16)
    (.seq (.region [yR (oLoadA 6 (t 3)) 17 0,
      yR (oLoadA 6 (t 5)) 18 0,
      yR (oLoadA 6 (t 4)) 19 0,
      yP (oBuild [(.int .i64 0), (.int .i64 0), (.int .i32 0), (.int .i32 0), (.int .i32 0), (.slice .none 0 0), (.int .i64 0), (.int .i64 0), (.int .i32 0), (.int .i32 0), (.int .i32 0), (.slice .none 0 0), (.int .i64 0), (.int .i64 0), (.int .i32 0), (.int .i32 0), (.int .i32 0), (.slice .none 0 0)] [(0, (6, (t 17))), (6, (6, (t 18))), (12, (6, (t 19)))]) 20 0,
      yP (oMov (t 7)) 21 0,
      yP (oUn Try.prog .neg (t 21)) 22 0,
      yP (oBuild [(.int .i64 0), (.int .i64 0), (.int .i32 0), (.int .i32 0), (.int .i32 0), (.slice .none 0 0), (.int .i64 0), (.int .i64 0), (.int .i32 0), (.int .i32 0), (.int .i32 0), (.slice .none 0 0), (.int .i64 0), (.int .i64 0), (.int .i32 0), (.int .i32 0), (.int .i32 0), (.slice .none 0 0), (.int .i64 0), (.bool .false)] [(0, (18, (t 20))), (18, (1, (t 22))), (19, (1, (.c (.bool .false))))]) 23 0,
      zE (oStore 20 (t 6) (t 23)) 0])
    .ret)
    .skip))
  (.seq (.region [yR (oLoadA 6 (t 3)) 24 0,
    yR (oLoadA 6 (t 4)) 25 0,
    yR (oLoadA 6 (t 5)) 26 0,
    yP (oBuild [(.int .i64 0), (.int .i64 0), (.int .i32 0), (.int .i32 0), (.int .i32 0), (.slice .none 0 0), (.int .i64 0), (.int .i64 0), (.int .i32 0), (.int .i32 0), (.int .i32 0), (.slice .none 0 0), (.int .i64 0), (.int .i64 0), (.int .i32 0), (.int .i32 0), (.int .i32 0), (.slice .none 0 0)] [(0, (6, (t 24))), (6, (6, (t 25))), (12, (6, (t 26)))]) 27 0,
    yP (oMov (t 7)) 28 0,
    yP (oMov (t 7)) 29 0,
    yP (oBin Try.prog .gtr 3 (.tmp 29) (.const (.int .i64 0)) .none (t 29) (.c (.int .i64 0))) 30 0,
    yP (oBuild [(.int .i64 0), (.int .i64 0), (.int .i32 0), (.int .i32 0), (.int .i32 0), (.slice .none 0 0), (.int .i64 0), (.int .i64 0), (.int .i32 0), (.int .i32 0), (.int .i32 0), (.slice .none 0 0), (.int .i64 0), (.int .i64 0), (.int .i32 0), (.int .i32 0), (.int .i32 0), (.slice .none 0 0), (.int .i64 0), (.bool .false)] [(0, (18, (t 27))), (18, (1, (t 28))), (19, (1, (t 30)))]) 31 0,
    zE (oStore 20 (t 6) (t 31)) 0])
  .ret))))⟩
def a34 : AFn := ⟨1, [(.t (pa 2))],
  (.seq (.region [yN (oBox (t 0)) 1 0,
    yP (oMov (.c .nilFunc)) 2 0])
  (.seq (.region [yP (oMkFunc 46 [] [(t 1)]) 3 0,
    yP (oMov (t 3)) 2 0])
  .ret))⟩
def a35 : AFn := ⟨3, [(.cA 3 (pa 6)), (.t (pa 7))],
  (.seq (.region [yN (oAlloc [(.int .i64 0), (.int .i64 0), (.int .i64 0)]) 6 0,
    yP (oMov (.c (.bool .false))) 7 0])
  (.seq (.region [yN (oAlloc [(.int .i64 0), (.int .i64 0), (.int .i64 0)]) 8 0])
  (.seq (.region [yP (oMov (t 1)) 14 0,
    yP (oBin Try.prog .mul 3 (.const (.int .i64 256)) (.tmp 14) .none (.c (.int .i64 256)) (t 14)) 15 0,
    yP (oBin Try.prog .add 3 (.tmp 15) (.const (.int .i64 128)) .none (t 15) (.c (.int .i64 128))) 16 0,
    yP (oMov (t 2)) 17 0,
    yP (oBin Try.prog .mul 3 (.const (.int .i64 256)) (.tmp 17) .none (.c (.int .i64 256)) (t 17)) 18 0,
    yP (oBin Try.prog .add 3 (.tmp 18) (.const (.int .i64 128)) .none (t 18) (.c (.int .i64 128))) 19 0,
    yN (oAlloc [(.int .i64 0)]) 9 0,
    yN (oAlloc [(.int .i64 0)]) 10 0,
    zE (oStore 1 (t 9) (t 16)) 0,
    zE (oStore 1 (t 10) (t 19)) 0])
  (.seq (.region [yP (oMkFunc 47 [] [(t 9), (t 10), (t 8)]) 20 0,
    yP (oMov (t 20)) 11 0])
  (.seq (.region [yP (oMov (t 0)) 21 0,
    yP (oNilCheck (t 21)) 22 0,
    yP (oFieldAddr 0 (t 22)) 23 0,
    yP (oMov (t 23)) 12 0])
  (.seq (.draw [yP (oMov (t 0)) 24 0,
    yP (oNilCheck (t 24)) 25 1,
    yP (oFieldAddr 18 (t 25)) 26 3,
    yR (oLoad1 (t 26)) 27 7,
    yP (oBin Try.prog .gtr 3 (.tmp 27) (.const (.int .i64 0)) .none (t 27) (.c (.int .i64 0))) 28 15,
    yP (oMov (t 28)) 29 31,
    yPg (oMov (t 11)) 30 29 true 63,
    yPg (oMov (t 12)) 31 29 true 63,
    yPg (oNilCheck (t 31)) 32 29 true 191,
    yPg (oIndexAddrA 3 6 (t 32) (.c (.int .i64 1))) 33 29 true 447,
    yRg (oLoadA 6 (t 33)) 34 29 true 959,
    yPg (oMov (t 12)) 35 29 true 63,
    yPg (oNilCheck (t 35)) 36 29 true 2111,
    yPg (oIndexAddrA 3 6 (t 36) (.c (.int .i64 2))) 37 29 true 6207,
    yRg (oLoadA 6 (t 37)) 38 29 true 14399,
    yEg (oCallV (t 30) [(t 34), (t 38), (.c (.int .i64 0))]) 39 29 true 32767,
    yP (oPick (t 29) (t 39) (.c (.bool .false))) 40 65535,
    yP (oMov (t 40)) 13 131071])
  (.seq (.draw [yP (oMov (t 13)) 41 0,
    yP (oMov (t 41)) 42 1,
    yPg (oMov (t 11)) 43 42 true 3,
    yPg (oMov (t 12)) 44 42 true 3,
    yPg (oNilCheck (t 44)) 45 42 true 11,
    yPg (oIndexAddrA 3 6 (t 45) (.c (.int .i64 2))) 46 42 true 27,
    yRg (oLoadA 6 (t 46)) 47 42 true 59,
    yPg (oMov (t 12)) 48 42 true 3,
    yPg (oNilCheck (t 48)) 49 42 true 131,
    yPg (oIndexAddrA 3 6 (t 49) (.c (.int .i64 0))) 50 42 true 387,
    yRg (oLoadA 6 (t 50)) 51 42 true 899,
    yEg (oCallV (t 43) [(t 47), (t 51), (.c (.int .i64 1))]) 52 42 true 2047,
    yP (oPick (t 42) (t 52) (.c (.bool .false))) 53 4095,
    yP (oMov (t 53)) 13 8191])
  (.seq (.draw [yP (oMov (t 13)) 54 0,
    yP (oMov (t 54)) 55 1,
    yPg (oMov (t 11)) 56 55 true 3,
    yPg (oMov (t 12)) 57 55 true 3,
    yPg (oNilCheck (t 57)) 58 55 true 11,
    yPg (oIndexAddrA 3 6 (t 58) (.c (.int .i64 0))) 59 55 true 27,
    yRg (oLoadA 6 (t 59)) 60 55 true 59,
    yPg (oMov (t 12)) 61 55 true 3,
    yPg (oNilCheck (t 61)) 62 55 true 131,
    yPg (oIndexAddrA 3 6 (t 62) (.c (.int .i64 1))) 63 55 true 387,
    yRg (oLoadA 6 (t 63)) 64 55 true 899,
    yEg (oCallV (t 56) [(t 60), (t 64), (.c (.int .i64 2))]) 65 55 true 2047,
    yP (oPick (t 55) (t 65) (.c (.bool .false))) 66 4095,
    yP (oMov (t 66)) 13 8191])
  (.seq (.region [yR (oLoadA 3 (t 8)) 67 0,
    yP (oMov (t 13)) 68 0,
    zE (oStore 3 (t 6) (t 67)) 0,
    yP (oMov (t 68)) 7 0])
  .ret)))))))))⟩
def a36l0 : ACode := (.seq (.region [yP (oBin Try.prog .lss 3 (.tmp 82) (.const (.int .i64 4)) .none (t 82) (.c (.int .i64 4))) 83 0])
            (.seq (.cond (t 83)
              .skip
              (.exit 4))
            (.seq (.block 5
              (.seq (.region [yP (oMov (t 82)) 84 0,
                yN (oAlloc [(.int .i64 0)]) 17 0,
                zE (oStore 1 (t 17) (t 84)) 0])
              (.draw [yR (oLoad1 (t 17)) 85 0,
                yP (oMov (t 13)) 86 0,
                yR (oLoadA 6 (t 10)) 87 0,
                yP (oMkFunc 54 [] [(t 15), (t 17)]) 88 0,
                yE (oCallV (t 86) [(t 87), (t 88)]) 89 14,
                yP (oIndexAddrA 4 1 (t 16) (t 85)) 90 31,
                zE (oStore 1 (t 90) (t 89)) 63])))
            (.region [yP (oBin Try.prog .add 3 (.tmp 82) (.const (.int .i64 1)) .none (t 82) (.c (.int .i64 1))) 91 0,
              yP (oMov (t 91)) 82 0]))))
def a36l1 : ACode := (.seq (.region [yP (oBin Try.prog .lss 3 (.tmp 79) (.tmp 78) .none (t 79) (t 78)) 80 0])
      (.seq (.cond (t 80)
        .skip
        (.exit 2))
      (.seq (.block 3
        (.seq (.region [yP (oMov (t 79)) 81 0,
          yN (oAlloc [(.int .i64 0)]) 15 0,
          zE (oStore 1 (t 15) (t 81)) 0])
        (.seq (.region [yN (oAlloc [(.int .i32 0), (.int .i32 0), (.int .i32 0), (.int .i32 0)]) 16 0])
        (.seq (.seq (.region [yP (oMov (.c (.int .i64 0))) 82 0])
        (.block 4
          (.loop a36l0)))
        (.region [yP (oFieldAddr 9 (t 14)) 92 0,
          yR (oLoad1 (t 92)) 93 0,
          yR (oLoadA 4 (t 16)) 94 0,
          yN (oBuildSlice 1 [(.int .i32 0), (.int .i32 0), (.int .i32 0), (.int .i32 0)] [(0, (4, (t 94)))]) 95 0,
          yE (oAppend 4 16 (t 93) (t 95)) 96 0,
          yP (oFieldAddr 9 (t 14)) 97 0,
          zE (oStore 1 (t 97) (t 96)) 0])))))
      (.region [yP (oBin Try.prog .add 3 (.tmp 79) (.const (.int .i64 1)) .none (t 79) (.c (.int .i64 1))) 98 0,
        yP (oMov (t 98)) 79 0]))))
def a36l2 : ACode := (.seq (.region [yP (oBin Try.prog .lss 3 (.tmp 19) (.const (.int .i64 3)) .none (t 19) (.c (.int .i64 3))) 20 0])
      (.seq (.cond (t 20)
        .skip
        (.exit 0))
      (.seq (.block 1
        (.seq (.region [yP (oMov (t 19)) 21 0,
          yP (oIndexA 3 1 .false (t 18) (t 19)) 22 0,
          yP (oMov (t 21)) 11 0,
          yP (oMov (t 22)) 12 0])
        (.seq (.region [yP (oMov (t 11)) 23 0,
          yP (oMov (t 12)) 24 0,
          yP (oCvtInt .u64 (t 24)) 25 0,
          yP (oBuild [(.int .u64 0), (.int .u64 0)] [(0, (1, (.c (.int .u64 0)))), (1, (1, (t 25)))]) 26 0,
          yP (oIndexAddrA 3 2 (t 9) (t 23)) 27 0,
          zE (oStore 2 (t 27) (t 26)) 0])
        (.draw [yP (oMov (t 11)) 28 0,
          yP (oMov (t 11)) 29 0,
          yP (oIndexAddrA 3 2 (t 9) (t 29)) 30 2,
          yR (oLoadA 2 (t 30)) 31 6,
          yR (oLoad1 (t 4)) 32 0,
          yP (oMov (t 11)) 33 0,
          yP (oBin Try.prog .add 3 (.tmp 33) (.const (.int .i64 1)) .none (t 33) (.c (.int .i64 1))) 34 32,
          yP (oBin Try.prog .rem 3 (.tmp 34) (.const (.int .i64 3)) .none (t 34) (.c (.int .i64 3))) 35 96,
          yP (oNilCheck (t 32)) 36 16,
          yP (oFieldAddr 0 (t 36)) 37 272,
          yP (oIndexAddrA 3 6 (t 37) (t 35)) 38 1008,
          yP (oFieldAddr 3 (t 38)) 39 2032,
          yR (oLoad1 (t 39)) 40 4080,
          yP (oCvtInt .u64 (t 40)) 41 8176,
          yE (oEnter 48 [(t 31), (t 41)]) 42 16382,
          yR (oLoad1 (t 4)) 43 0,
          yP (oMov (t 11)) 44 0,
          yP (oBin Try.prog .add 3 (.tmp 44) (.const (.int .i64 2)) .none (t 44) (.c (.int .i64 2))) 45 65536,
          yP (oBin Try.prog .rem 3 (.tmp 45) (.const (.int .i64 3)) .none (t 45) (.c (.int .i64 3))) 46 196608,
          yP (oNilCheck (t 43)) 47 32768,
          yP (oFieldAddr 0 (t 47)) 48 557056,
          yP (oIndexAddrA 3 6 (t 48) (t 46)) 49 2064384,
          yP (oFieldAddr 3 (t 49)) 50 4161536,
          yR (oLoad1 (t 50)) 51 8355840,
          yP (oCvtInt .u64 (t 51)) 52 16744448,
          yE (oEnter 48 [(t 42), (t 52)]) 53 33554430,
          yP (oIndexAddrA 3 2 (t 10) (t 28)) 54 67108863,
          zE (oStore 2 (t 54) (t 53)) 134217727]))))
      (.region [yP (oBin Try.prog .add 3 (.tmp 19) (.const (.int .i64 1)) .none (t 19) (.c (.int .i64 1))) 55 0,
        yP (oMov (t 55)) 19 0]))))
def a36 : AFn := ⟨4, [(.cA 10 (pa 8))],
  (.seq (.region [yN (oBox (t 0)) 4 0,
    yN (oBox (t 3)) 7 0,
    yN (oAlloc [(.int .i64 0), (.int .i64 0), (.int .i32 0), (.int .i32 0), (.bool .false), (.int .i32 0), (.int .i32 0), (.int .i32 0), (.int .i32 0), (.slice .none 0 0)]) 8 0])
  (.seq (.region [yN (oAlloc [(.int .u64 0), (.int .u64 0), (.int .u64 0), (.int .u64 0), (.int .u64 0), (.int .u64 0)]) 9 0,
    yN (oAlloc [(.int .u64 0), (.int .u64 0), (.int .u64 0), (.int .u64 0), (.int .u64 0), (.int .u64 0)]) 10 0])
  (.seq (.seq (.region [yR (oLoadA 3 (t 7)) 18 0,
    yP (oMov (.c (.int .i64 0))) 19 0])
  (.block 0
    (.loop a36l2)))
  (.seq (.region [yP (oMkFunc 49 [] [(t 4)]) 56 0,
    yP (oMov (t 56)) 13 0])
  (.seq (.region [yP (oMov (t 1)) 57 0,
    yP (oMov (t 2)) 58 0,
    yR (oLoad1 (t 4)) 59 0,
    yP (oNilCheck (t 59)) 60 0,
    yP (oFieldAddr 19 (t 60)) 61 0,
    yR (oLoad1 (t 61)) 62 0,
    yP (oBuild [(.int .i64 0), (.int .i64 0), (.int .i32 0), (.int .i32 0), (.bool .false), (.int .i32 0), (.int .i32 0), (.int .i32 0), (.int .i32 0), (.slice .none 0 0)] [(0, (1, (t 57))), (1, (1, (t 58))), (4, (1, (t 62)))]) 63 0,
    yN (oAlloc [(.int .i64 0), (.int .i64 0), (.int .i32 0), (.int .i32 0), (.bool .false), (.int .i32 0), (.int .i32 0), (.int .i32 0), (.int .i32 0), (.slice .none 0 0)]) 14 0,
    zE (oStore 10 (t 14) (t 63)) 0])
  (.seq (.region [yP (oMov (t 13)) 64 0,
    yR (oLoadA 6 (t 9)) 65 0,
    yE (oCallV (t 64) [(t 65), (.c (.func (.func 51) #[] #[]))]) 66 0,
    yP (oFieldAddr 2 (t 14)) 67 0,
    zE (oStore 1 (t 67) (t 66)) 0])
  (.seq (.region [yP (oMov (t 13)) 68 0,
    yR (oLoadA 6 (t 9)) 69 0,
    yE (oCallV (t 68) [(t 69), (.c (.func (.func 52) #[] #[]))]) 70 0,
    yP (oFieldAddr 3 (t 14)) 71 0,
    zE (oStore 1 (t 71) (t 70)) 0])
  (.seq (.seq (.region [yR (oLoad1 (t 4)) 72 0,
    yP (oNilCheck (t 72)) 73 0,
    yP (oFieldAddr 0 (t 73)) 74 0,
    yP (oIndexAddrA 3 6 (t 74) (.c (.int .i64 0))) 75 0,
    yP (oFieldAddr 5 (t 75)) 76 0,
    yR (oLoad1 (t 76)) 77 0,
    yP (oLenS (t 77)) 78 0,
    yP (oMov (.c (.int .i64 0))) 79 0])
  (.block 2
    (.loop a36l1)))
  (.seq (.region [yR (oLoadA 10 (t 14)) 99 0,
    zE (oStore 10 (t 8) (t 99)) 0])
  .ret)))))))))⟩
def a37 : AFn := ⟨2, [(.t (pa 4))],
  (.seq (.region [yP (oMov (.c (.bool .false))) 4 0])
  (.seq (.region [yP (oMov (t 0)) 5 0,
    yP (oBin Try.prog .geq 3 (.tmp 5) (.const (.int .i64 0)) .none (t 5) (.c (.int .i64 0))) 6 0,
    yP (oMov (t 6)) 7 0,
    yPg (oMov (t 0)) 8 7 true 0,
    yPg (oBin Try.prog .lss 3 (.tmp 8) (.const (.int .i64 64)) .none (t 8) (.c (.int .i64 64))) 9 7 true 0,
    yP (oPick (t 7) (t 9) (.c (.bool .false))) 10 0,
    yP (oMov (t 10)) 11 0,
    yPg (oMov (t 1)) 12 11 true 0,
    yPg (oBin Try.prog .geq 3 (.tmp 12) (.const (.int .i64 0)) .none (t 12) (.c (.int .i64 0))) 13 11 true 0,
    yP (oPick (t 11) (t 13) (.c (.bool .false))) 14 0,
    yP (oMov (t 14)) 15 0,
    yPg (oMov (t 1)) 16 15 true 0,
    yPg (oBin Try.prog .lss 3 (.tmp 16) (.const (.int .i64 64)) .none (t 16) (.c (.int .i64 64))) 17 15 true 0,
    yP (oPick (t 15) (t 17) (.c (.bool .false))) 18 0,
    yP (oMov (t 18)) 4 0])
  .ret))⟩
def a38 : AFn := ⟨3, [(.cA 6 (pa 6)), (.cA 6 (pa 7)), (.cA 6 (pa 8))],
  (.seq (.region [yN (oBox (t 0)) 3 0,
    yN (oBox (t 1)) 4 0,
    yN (oBox (t 2)) 5 0,
    yN (oAlloc [(.int .i64 0), (.int .i64 0), (.int .i32 0), (.int .i32 0), (.int .i32 0), (.slice .none 0 0)]) 6 0,
    yN (oAlloc [(.int .i64 0), (.int .i64 0), (.int .i32 0), (.int .i32 0), (.int .i32 0), (.slice .none 0 0)]) 7 0,
    yN (oAlloc [(.int .i64 0), (.int .i64 0), (.int .i32 0), (.int .i32 0), (.int .i32 0), (.slice .none 0 0)]) 8 0])
  (.seq (.seq (.region [yR (oLoadA 6 (t 3)) 9 0,
    yR (oLoadA 6 (t 4)) 10 0,
    yR (oLoadA 6 (t 5)) 11 0,
    yE (oEnter 30 [(t 9), (t 10), (t 11)]) 12 0,
    yP (oBin Try.prog .lss 3 (.tmp 12) (.const (.int .i64 0)) .none (t 12) (.c (.int .i64 0))) 13 0])
  (.cond (t 13)
    (.seq (.draw [yR (oLoadA 6 (t 3)) 14 0,
      yR (oLoadA 6 (t 5)) 15 0,
      yR (oLoadA 6 (t 4)) 16 0,
      zE (oStore 6 (t 6) (t 14)) 1,
      zE (oStore 6 (t 7) (t 15)) 11,
      zE (oStore 6 (t 8) (t 16)) 31])
    .ret)
    .skip))
  (.seq (.draw [yR (oLoadA 6 (t 3)) 17 0,
    yR (oLoadA 6 (t 4)) 18 0,
    yR (oLoadA 6 (t 5)) 19 0,
    zE (oStore 6 (t 6) (t 17)) 1,
    zE (oStore 6 (t 7) (t 18)) 11,
    zE (oStore 6 (t 8) (t 19)) 31])
  .ret)))⟩
def a39 : AFn := ⟨4, [(.t (pa 8))],
  (.seq (.region [yN (oBox (t 0)) 4 0,
    yN (oBox (t 1)) 5 0,
    yP (oMov (.c (.bool .false))) 8 0])
  (.seq (.region [yR (oLoadA 6 (t 4)) 10 0,
    yR (oLoadA 6 (t 5)) 11 0,
    yP (oMov (t 2)) 12 0,
    yP (oMov (t 3)) 13 0,
    yE (oEnter 55 [(t 10), (t 11), (t 12), (t 13)]) 14 0,
    yP (oMov (t 14)) 9 0])
  (.seq (.region [yP (oMov (t 9)) 15 0,
    yP (oBin Try.prog .gtr 3 (.tmp 15) (.const (.int .i64 0)) .none (t 15) (.c (.int .i64 0))) 16 0,
    yP (oMov (t 16)) 17 0,
    yPg (oMov (t 9)) 18 17 false 0,
    yPg (oBin Try.prog .eql 3 (.tmp 18) (.const (.int .i64 0)) .none (t 18) (.c (.int .i64 0))) 19 17 false 0,
    yPg (oMov (t 19)) 20 17 false 0,
    yPg (oFieldAddr 1 (t 5)) 21 20 true 0,
    yRg (oLoad1 (t 21)) 22 20 true 0,
    yPg (oFieldAddr 1 (t 4)) 23 20 true 0,
    yRg (oLoad1 (t 23)) 24 20 true 0,
    yPg (oBin Try.prog .lss 3 (.tmp 22) (.tmp 24) .none (t 22) (t 24)) 25 20 true 0,
    yPg (oMov (t 25)) 26 20 true 0,
    yPg (oFieldAddr 1 (t 5)) 27 26 false 0,
    yRg (oLoad1 (t 27)) 28 26 false 0,
    yPg (oFieldAddr 1 (t 4)) 29 26 false 0,
    yRg (oLoad1 (t 29)) 30 26 false 0,
    yPg (oBin Try.prog .eql 3 (.tmp 28) (.tmp 30) .none (t 28) (t 30)) 31 26 false 0,
    yPg (oMov (t 31)) 32 26 false 0,
    yPg (oFieldAddr 0 (t 5)) 33 32 true 0,
    yRg (oLoad1 (t 33)) 34 32 true 0,
    yPg (oFieldAddr 0 (t 4)) 35 32 true 0,
    yRg (oLoad1 (t 35)) 36 32 true 0,
    yPg (oBin Try.prog .lss 3 (.tmp 34) (.tmp 36) .none (t 34) (t 36)) 37 32 true 0,
    yPg (oPick (t 32) (t 37) (.c (.bool .false))) 38 26 false 0,
    yPg (oPick (t 26) (.c (.bool .true)) (t 38)) 39 20 true 0,
    yPg (oPick (t 20) (t 39) (.c (.bool .false))) 40 17 false 0,
    yP (oPick (t 17) (.c (.bool .true)) (t 40)) 41 0,
    yP (oMov (t 41)) 8 0])
  .ret)))⟩
def a40l0 : ACode := (.seq (.region [yP (oBin Try.prog .lss 3 (.tmp 43) (.const (.int .i64 3)) .none (t 43) (.c (.int .i64 3))) 44 0])
      (.seq (.cond (t 44)
        .skip
        (.exit 0))
      (.seq (.block 1
        (.seq (.region [yP (oMov (t 43)) 45 0,
          yP (oMov (t 45)) 16 0])
        (.seq (.region [yP (oMov (t 14)) 46 0,
          yP (oMov (t 16)) 47 0,
          yP (oIndexAddrA 3 1 (t 12) (t 47)) 48 0,
          yR (oLoad1 (t 48)) 49 0,
          yE (oEnter 56 [(t 49)]) 50 0,
          yN (oBuildSlice 1 [(.int .u32 0), (.int .u32 0), (.int .u32 0), (.int .u32 0), (.int .u32 0), (.int .u32 0), (.int .u32 0), (.int .u32 0), (.int .u32 0), (.int .u32 0), (.int .u32 0), (.int .u32 0)] [(0, (12, (t 50)))]) 51 0,
          yE (oAppend 12 48 (t 46) (t 51)) 52 0,
          yP (oMov (t 52)) 14 0])
        (.draw [yP (oMov (t 15)) 53 0,
          yP (oMov (t 16)) 54 0,
          yP (oIndexAddrA 3 1 (t 12) (t 54)) 55 2,
          yR (oLoad1 (t 55)) 56 6,
          yE (oEnter 56 [(t 56)]) 57 14,
          yP (oMov (t 16)) 58 0,
          yP (oBin Try.prog .add 3 (.tmp 58) (.const (.int .i64 1)) .none (t 58) (.c (.int .i64 1))) 59 32,
          yP (oBin Try.prog .rem 3 (.tmp 59) (.const (.int .i64 3)) .none (t 59) (.c (.int .i64 3))) 60 96,
          yP (oIndexAddrA 3 1 (t 13) (t 60)) 61 224,
          yR (oLoad1 (t 61)) 62 480,
          yE (oEnter 57 [(t 57), (t 62)]) 63 1022,
          yP (oMov (t 16)) 64 0,
          yP (oBin Try.prog .add 3 (.tmp 64) (.const (.int .i64 2)) .none (t 64) (.c (.int .i64 2))) 65 2048,
          yP (oBin Try.prog .rem 3 (.tmp 65) (.const (.int .i64 3)) .none (t 65) (.c (.int .i64 3))) 66 6144,
          yP (oIndexAddrA 3 1 (t 13) (t 66)) 67 14336,
          yR (oLoad1 (t 67)) 68 30720,
          yE (oEnter 57 [(t 63), (t 68)]) 69 65534,
          yN (oBuildSlice 1 [(.int .u32 0), (.int .u32 0), (.int .u32 0), (.int .u32 0), (.int .u32 0), (.int .u32 0), (.int .u32 0), (.int .u32 0), (.int .u32 0), (.int .u32 0), (.int .u32 0), (.int .u32 0)] [(0, (12, (t 69)))]) 70 131070,
          yE (oAppend 12 48 (t 53) (t 70)) 71 262143,
          yP (oMov (t 71)) 15 524287]))))
      (.region [yP (oBin Try.prog .add 3 (.tmp 43) (.const (.int .i64 1)) .none (t 43) (.c (.int .i64 1))) 72 0,
        yP (oMov (t 72)) 43 0]))))
def a40 : AFn := ⟨5, [(.t (pa 10)), (.t (pa 11))],
  (.seq (.region [yN (oBox (t 0)) 5 0,
    yN (oBox (t 1)) 6 0,
    yN (oBox (t 2)) 7 0,
    yP (oMov (.c (.slice .none 0 0))) 10 0,
    yP (oMov (.c (.slice .none 0 0))) 11 0])
  (.seq (.draw [yR (oLoadA 6 (t 6)) 17 0,
    yR (oLoadA 6 (t 7)) 18 0,
    yP (oMov (t 3)) 19 0,
    yP (oMov (t 4)) 20 0,
    yE (oEnter 55 [(t 17), (t 18), (t 19), (t 20)]) 21 15,
    yR (oLoadA 6 (t 7)) 22 0,
    yR (oLoadA 6 (t 5)) 23 0,
    yP (oMov (t 3)) 24 0,
    yP (oMov (t 4)) 25 0,
    yE (oEnter 55 [(t 22), (t 23), (t 24), (t 25)]) 26 511,
    yR (oLoadA 6 (t 5)) 27 0,
    yR (oLoadA 6 (t 6)) 28 0,
    yP (oMov (t 3)) 29 0,
    yP (oMov (t 4)) 30 0,
    yE (oEnter 55 [(t 27), (t 28), (t 29), (t 30)]) 31 16383,
    yP (oBuild [(.int .i64 0), (.int .i64 0), (.int .i64 0)] [(0, (1, (t 21))), (1, (1, (t 26))), (2, (1, (t 31)))]) 32 32767,
    yN (oAlloc [(.int .i64 0), (.int .i64 0), (.int .i64 0)]) 12 0,
    zE (oStore 3 (t 12) (t 32)) 131071])
  (.seq (.region [yP (oFieldAddr 3 (t 5)) 33 0,
    yR (oLoad1 (t 33)) 34 0,
    yP (oCvtInt .i64 (t 34)) 35 0,
    yP (oFieldAddr 3 (t 6)) 36 0,
    yR (oLoad1 (t 36)) 37 0,
    yP (oCvtInt .i64 (t 37)) 38 0,
    yP (oFieldAddr 3 (t 7)) 39 0,
    yR (oLoad1 (t 39)) 40 0,
    yP (oCvtInt .i64 (t 40)) 41 0,
    yP (oBuild [(.int .i64 0), (.int .i64 0), (.int .i64 0)] [(0, (1, (t 35))), (1, (1, (t 38))), (2, (1, (t 41)))]) 42 0,
    yN (oAlloc [(.int .i64 0), (.int .i64 0), (.int .i64 0)]) 13 0,
    zE (oStore 3 (t 13) (t 42)) 0])
  (.seq (.region [yP (oMov (.c (.slice .none 0 0))) 14 0,
    yP (oMov (.c (.slice .none 0 0))) 15 0])
  (.seq (.seq (.region [yP (oMov (.c (.int .i64 0))) 43 0])
  (.block 0
    (.loop a40l0)))
  (.seq (.region [yP (oMov (t 14)) 73 0,
    yP (oMov (t 15)) 74 0,
    yP (oMov (t 73)) 10 0,
    yP (oMov (t 74)) 11 0])
  .ret))))))⟩
def a41l0 : ACode := (.seq (.seq (.region [yP (oMov (t 12)) 54 0,
        yP (oBin Try.prog .gtr 2 (.tmp 54) (.const (.int .i64 0)) .none (t 54) (.c (.int .i64 0))) 55 0])
      (.cond (t 55)
        .skip
        (.exit 2)))
      (.seq (.block 3
        (.seq (.region [yP (oMov (t 11)) 58 0,
          yP (oMov (t 12)) 59 0,
          yP (oBin Try.prog .add 2 (.tmp 58) (.tmp 59) .none (t 58) (t 59)) 60 0,
          yP (oMov (t 60)) 13 0])
        (.seq (.draw [yR (oLoadA 12 (t 6)) 61 0,
          yR (oLoadA 12 (t 6)) 62 0,
          yE (oEnter 58 [(t 61), (t 62)]) 63 3,
          yR (oLoadA 12 (t 7)) 64 0,
          yP (oMov (t 13)) 65 0,
          yE (oEnter 57 [(t 64), (t 65)]) 66 31,
          yE (oEnter 58 [(t 63), (t 66)]) 67 63,
          yR (oLoadA 12 (t 7)) 68 0,
          yP (oMov (t 13)) 69 0,
          yP (oBin Try.prog .sub 2 (.tmp 69) (.const (.int .i64 1)) .none (t 69) (.c (.int .i64 1))) 70 256,
          yE (oEnter 57 [(t 68), (t 70)]) 71 1023,
          yE (oEnter 58 [(t 67), (t 71)]) 72 2047,
          yN (oAlloc [(.int .u32 0), (.int .u32 0), (.int .u32 0), (.int .u32 0), (.int .u32 0), (.int .u32 0), (.int .u32 0), (.int .u32 0), (.int .u32 0), (.int .u32 0), (.int .u32 0), (.int .u32 0)]) 14 0,
          zE (oStore 12 (t 14) (t 72)) 8191])
        (.seq (.draw [yP (oMov (t 13)) 73 0,
          yP (oBin Try.prog .lss 2 (.tmp 73) (.const (.int .i64 4294967296)) .none (t 73) (.c (.int .i64 4294967296))) 74 1,
          yP (oMov (t 74)) 75 3,
          yRg (oLoadA 12 (t 5)) 76 75 true 7,
          yRg (oLoadA 12 (t 5)) 77 75 true 7,
          yEg (oEnter 58 [(t 76), (t 77)]) 78 75 true 31,
          yRg (oLoadA 12 (t 14)) 79 75 true 7,
          yEg (oEnter 59 [(t 78), (t 79)]) 80 75 true 127,
          yPg (oUn Try.prog .not (t 80)) 81 75 true 255,
          yP (oPick (t 75) (t 81) (.c (.bool .false))) 82 511])
        (.cond (t 82)
          (.region [yP (oMov (t 13)) 83 0,
            yP (oMov (t 83)) 11 0])
          .skip)))))
      (.region [yP (oMov (t 12)) 56 0,
        yP (oBin Try.prog .quo 2 (.tmp 56) (.const (.int .i64 2)) .none (t 56) (.c (.int .i64 2))) 57 0,
        yP (oMov (t 57)) 12 0])))
def a41l1 : ACode := (.seq (.region [yP (oBin Try.prog .lss 3 (.tmp 17) (.tmp 16) .none (t 17) (t 16)) 18 0])
      (.seq (.cond (t 18)
        .skip
        (.exit 0))
      (.seq (.block 1
        (.seq (.region [yP (oMov (t 17)) 19 0,
          yP (oIndexAddrS 12 (t 15) (t 17)) 20 0,
          yR (oLoadA 12 (t 20)) 21 0,
          yN (oAlloc [(.int .u32 0), (.int .u32 0), (.int .u32 0), (.int .u32 0), (.int .u32 0), (.int .u32 0), (.int .u32 0), (.int .u32 0), (.int .u32 0), (.int .u32 0), (.int .u32 0), (.int .u32 0)]) 9 0,
          yP (oMov (t 19)) 8 0,
          zE (oStore 12 (t 9) (t 21)) 0])
        (.seq (.seq (.region [yP (oMov (t 1)) 22 0,
          yP (oMov (t 8)) 23 0,
          yP (oIndexAddrS 1 (t 22) (t 23)) 24 0,
          yR (oLoad1 (t 24)) 25 0,
          yP (oBin Try.prog .lss 2 (.tmp 25) (.const (.int .i64 0)) .none (t 25) (.c (.int .i64 0))) 26 0])
        (.cond (t 26)
          (.draw [yR (oLoadA 12 (t 6)) 27 0,
            yR (oLoadA 12 (t 9)) 28 0,
            yP (oMov (t 1)) 29 0,
            yP (oMov (t 8)) 30 0,
            yP (oIndexAddrS 1 (t 29) (t 30)) 31 12,
            yR (oLoad1 (t 31)) 32 28,
            yP (oUn Try.prog .neg (t 32)) 33 60,
            yE (oEnter 57 [(t 28), (t 33)]) 34 126,
            yE (oEnter 58 [(t 27), (t 34)]) 35 255,
            zE (oStore 12 (t 6) (t 35)) 511])
          (.draw [yR (oLoadA 12 (t 5)) 36 0,
            yR (oLoadA 12 (t 9)) 37 0,
            yP (oMov (t 1)) 38 0,
            yP (oMov (t 8)) 39 0,
            yP (oIndexAddrS 1 (t 38) (t 39)) 40 12,
            yR (oLoad1 (t 40)) 41 28,
            yE (oEnter 57 [(t 37), (t 41)]) 42 62,
            yE (oEnter 58 [(t 36), (t 42)]) 43 127,
            zE (oStore 12 (t 5) (t 43)) 255])))
        (.region [yR (oLoadA 12 (t 7)) 44 0,
          yR (oLoadA 12 (t 9)) 45 0,
          yE (oEnter 58 [(t 44), (t 45)]) 46 0,
          zE (oStore 12 (t 7) (t 46)) 0]))))
      (.region [yP (oBin Try.prog .add 3 (.tmp 17) (.const (.int .i64 1)) .none (t 17) (.c (.int .i64 1))) 47 0,
        yP (oMov (t 47)) 17 0]))))
def a41 : AFn := ⟨2, [(.t (pa 4))],
  (.seq (.region [yP (oMov (.c (.int .i32 0))) 4 0])
  (.seq (.region [yN (oAlloc [(.int .u32 0), (.int .u32 0), (.int .u32 0), (.int .u32 0), (.int .u32 0), (.int .u32 0), (.int .u32 0), (.int .u32 0), (.int .u32 0), (.int .u32 0), (.int .u32 0), (.int .u32 0)]) 5 0,
    yN (oAlloc [(.int .u32 0), (.int .u32 0), (.int .u32 0), (.int .u32 0), (.int .u32 0), (.int .u32 0), (.int .u32 0), (.int .u32 0), (.int .u32 0), (.int .u32 0), (.int .u32 0), (.int .u32 0)]) 6 0,
    yN (oAlloc [(.int .u32 0), (.int .u32 0), (.int .u32 0), (.int .u32 0), (.int .u32 0), (.int .u32 0), (.int .u32 0), (.int .u32 0), (.int .u32 0), (.int .u32 0), (.int .u32 0), (.int .u32 0)]) 7 0])
  (.seq (.seq (.region [yP (oMov (t 0)) 15 0,
    yP (oLenS (t 15)) 16 0,
    yP (oMov (.c (.int .i64 0))) 17 0])
  (.block 0
    (.loop a41l1)))
  (.seq (.region [yR (oLoadA 12 (t 5)) 48 0,
    yR (oLoadA 12 (t 6)) 49 0,
    yE (oEnter 59 [(t 48), (t 49)]) 50 0,
    yP (oMov (t 50)) 10 0])
  (.seq (.seq (.region [yP (oMov (t 10)) 51 0])
  (.cond (t 51)
    (.region [yR (oLoadA 12 (t 6)) 52 0,
      yR (oLoadA 12 (t 5)) 53 0,
      zE (oStore 12 (t 5) (t 52)) 0,
      zE (oStore 12 (t 6) (t 53)) 0])
    .skip))
  (.seq (.region [yP (oMov (.c (.int .i64 0))) 11 0])
  (.seq (.seq (.region [yP (oMov (.c (.int .i64 8589934592))) 12 0])
  (.block 2
    (.loop a41l0)))
  (.seq (.seq (.region [yP (oMov (t 10)) 84 0])
  (.cond (t 84)
    (.region [yP (oMov (t 11)) 85 0,
      yP (oUn Try.prog .neg (t 85)) 86 0,
      yP (oMov (t 86)) 11 0])
    .skip))
  (.seq (.region [yP (oMov (t 11)) 87 0,
    yE (oEnter 60 [(t 87)]) 88 0,
    yP (oMov (t 88)) 4 0])
  .ret)))))))))⟩
def a42 : AFn := ⟨1, [(.t (pa 2))],
  (.seq (.region [yN (oBox (t 0)) 1 0,
    yP (oMov (.c (.int .i64 0))) 2 0])
  (.seq (.region [yP (oFieldAddr 3 (t 1)) 3 0,
    yR (oLoad1 (t 3)) 4 0,
    yE (oEnter 61 [(.c (.int .i32 65536)), (t 4)]) 5 0,
    yP (oCvtInt .i64 (t 5)) 6 0,
    yP (oMov (t 6)) 2 0])
  .ret))⟩
def a43l0 : ACode := (.seq (.region [yP (oBin Try.prog .lss 3 (.tmp 17) (.tmp 16) .none (t 17) (t 16)) 18 0])
      (.seq (.cond (t 18)
        .skip
        (.exit 0))
      (.seq (.block 1
        (.seq (.region [yP (oMov (t 17)) 19 0,
          yP (oIndexAddrS 10 (t 15) (t 17)) 20 0,
          yR (oLoadA 10 (t 20)) 21 0,
          yN (oAlloc [(.int .i64 0), (.int .i64 0), (.int .i32 0), (.int .i32 0), (.bool .false), (.int .i32 0), (.int .i32 0), (.int .i32 0), (.int .i32 0), (.slice .none 0 0)]) 8 0,
          yP (oMov (t 19)) 7 0,
          zE (oStore 10 (t 8) (t 21)) 0])
        (.seq (.region [yP (oMov (t 1)) 22 0,
          yP (oMov (t 7)) 23 0,
          yP (oIndexAddrS 10 (t 22) (t 23)) 24 0,
          yR (oLoadA 10 (t 24)) 25 0,
          yN (oAlloc [(.int .i64 0), (.int .i64 0), (.int .i32 0), (.int .i32 0), (.bool .false), (.int .i32 0), (.int .i32 0), (.int .i32 0), (.int .i32 0), (.slice .none 0 0)]) 9 0,
          zE (oStore 10 (t 9) (t 25)) 0])
        (.seq (.region [yP (oMov (t 2)) 26 0,
          yR (oLoadA 10 (t 8)) 27 0,
          yR (oLoadA 10 (t 9)) 28 0,
          yE (oCallV (t 26) [(t 27), (t 28)]) 29 0,
          yP (oUn Try.prog .not (t 29)) 30 0])
        (.cond (t 30)
          (.seq (.region [yP (oMov (.c (.bool .false))) 6 0])
          .ret)
          .skip)))))
      (.region [yP (oBin Try.prog .add 3 (.tmp 17) (.const (.int .i64 1)) .none (t 17) (.c (.int .i64 1))) 31 0,
        yP (oMov (t 31)) 17 0]))))
def a43 : AFn := ⟨3, [(.t (pa 6))],
  (.seq (.region [yP (oMov (.c (.bool .false))) 6 0])
  (.seq (.seq (.region [yP (oMov (t 0)) 10 0,
    yP (oLenS (t 10)) 11 0,
    yP (oMov (t 1)) 12 0,
    yP (oLenS (t 12)) 13 0,
    yP (oBin Try.prog .neq 3 (.tmp 11) (.tmp 13) .none (t 11) (t 13)) 14 0])
  (.cond (t 14)
    (.seq (.region [yP (oMov (.c (.bool .false))) 6 0])
    .ret)
    .skip))
  (.seq (.seq (.region [yP (oMov (t 0)) 15 0,
    yP (oLenS (t 15)) 16 0,
    yP (oMov (.c (.int .i64 0))) 17 0])
  (.block 0
    (.loop a43l0)))
  (.seq (.region [yP (oMov (.c (.bool .true))) 6 0])
  .ret))))⟩
def a44 : AFn := ⟨2, [(.t (pa 4))],
  (.seq (.region [yN (oBox (t 0)) 2 0,
    yN (oBox (t 1)) 3 0,
    yP (oMov (.c (.bool .false))) 4 0])
  (.seq (.region [yP (oFieldAddr 0 (t 2)) 6 0,
    yR (oLoad1 (t 6)) 7 0,
    yP (oFieldAddr 0 (t 3)) 8 0,
    yR (oLoad1 (t 8)) 9 0,
    yP (oBin Try.prog .eql 3 (.tmp 7) (.tmp 9) .none (t 7) (t 9)) 10 0,
    yP (oMov (t 10)) 11 0,
    yPg (oFieldAddr 1 (t 2)) 12 11 true 0,
    yRg (oLoad1 (t 12)) 13 11 true 0,
    yPg (oFieldAddr 1 (t 3)) 14 11 true 0,
    yRg (oLoad1 (t 14)) 15 11 true 0,
    yPg (oBin Try.prog .eql 3 (.tmp 13) (.tmp 15) .none (t 13) (t 15)) 16 11 true 0,
    yP (oPick (t 11) (t 16) (.c (.bool .false))) 17 0,
    yP (oMov (t 17)) 18 0,
    yPg (oFieldAddr 2 (t 2)) 19 18 true 0,
    yRg (oLoad1 (t 19)) 20 18 true 0,
    yPg (oFieldAddr 2 (t 3)) 21 18 true 0,
    yRg (oLoad1 (t 21)) 22 18 true 0,
    yPg (oBin Try.prog .eql 27 (.tmp 20) (.tmp 22) .none (t 20) (t 22)) 23 18 true 0,
    yP (oPick (t 18) (t 23) (.c (.bool .false))) 24 0,
    yP (oMov (t 24)) 25 0,
    yPg (oFieldAddr 3 (t 2)) 26 25 true 0,
    yRg (oLoad1 (t 26)) 27 25 true 0,
    yPg (oFieldAddr 3 (t 3)) 28 25 true 0,
    yRg (oLoad1 (t 28)) 29 25 true 0,
    yPg (oBin Try.prog .eql 27 (.tmp 27) (.tmp 29) .none (t 27) (t 29)) 30 25 true 0,
    yP (oPick (t 25) (t 30) (.c (.bool .false))) 31 0,
    yP (oMov (t 31)) 5 0])
  (.seq (.region [yP (oMov (t 5)) 32 0,
    yP (oMov (t 32)) 33 0,
    yPg (oFieldAddr 4 (t 2)) 34 33 true 0,
    yRg (oLoad1 (t 34)) 35 33 true 0,
    yPg (oFieldAddr 4 (t 3)) 36 33 true 0,
    yRg (oLoad1 (t 36)) 37 33 true 0,
    yPg (oBin Try.prog .eql 4 (.tmp 35) (.tmp 37) .none (t 35) (t 37)) 38 33 true 0,
    yP (oPick (t 33) (t 38) (.c (.bool .false))) 39 0,
    yP (oMov (t 39)) 40 0,
    yPg (oFieldAddr 5 (t 2)) 41 40 true 0,
    yRg (oLoadA 4 (t 41)) 42 40 true 0,
    yPg (oFieldAddr 5 (t 3)) 43 40 true 0,
    yRg (oLoadA 4 (t 43)) 44 40 true 0,
    yPg (oBin Try.prog .eql 40 (.tmp 42) (.tmp 44) .none (t 42) (t 44)) 45 40 true 0,
    yP (oPick (t 40) (t 45) (.c (.bool .false))) 46 0,
    yP (oMov (t 46)) 47 0,
    yPg (oFieldAddr 9 (t 2)) 48 47 true 0,
    yRg (oLoad1 (t 48)) 49 47 true 0,
    yPg (oFieldAddr 9 (t 3)) 50 47 true 0,
    yRg (oLoad1 (t 50)) 51 47 true 0,
    yEg (oEnter 45 [(t 49), (t 51)]) 52 47 true 0,
    yP (oPick (t 47) (t 52) (.c (.bool .false))) 53 0,
    yP (oMov (t 53)) 4 0])
  .ret)))⟩
def a45l0 : ACode := (.seq (.region [yP (oBin Try.prog .lss 3 (.tmp 13) (.tmp 12) .none (t 13) (t 12)) 14 0])
      (.seq (.cond (t 14)
        .skip
        (.exit 0))
      (.seq (.block 1
        (.seq (.region [yP (oMov (t 13)) 15 0,
          yP (oMov (t 15)) 5 0])
        (.seq (.draw [yP (oMov (t 0)) 16 0,
          yP (oMov (t 5)) 17 0,
          yP (oIndexAddrS 4 (t 16) (t 17)) 18 3,
          yR (oLoadA 4 (t 18)) 19 7,
          yP (oMov (t 1)) 20 0,
          yP (oMov (t 5)) 21 0,
          yP (oIndexAddrS 4 (t 20) (t 21)) 22 48,
          yR (oLoadA 4 (t 22)) 23 112,
          yP (oBin Try.prog .neq 40 (.tmp 19) (.tmp 23) .none (t 19) (t 23)) 24 255])
        (.cond (t 24)
          (.seq (.region [yP (oMov (.c (.bool .false))) 4 0])
          .ret)
          .skip))))
      (.region [yP (oBin Try.prog .add 3 (.tmp 13) (.const (.int .i64 1)) .none (t 13) (.c (.int .i64 1))) 25 0,
        yP (oMov (t 25)) 13 0]))))
def a45 : AFn := ⟨2, [(.t (pa 4))],
  (.seq (.region [yP (oMov (.c (.bool .false))) 4 0])
  (.seq (.seq (.region [yP (oMov (t 0)) 6 0,
    yP (oLenS (t 6)) 7 0,
    yP (oMov (t 1)) 8 0,
    yP (oLenS (t 8)) 9 0,
    yP (oBin Try.prog .neq 3 (.tmp 7) (.tmp 9) .none (t 7) (t 9)) 10 0])
  (.cond (t 10)
    (.seq (.region [yP (oMov (.c (.bool .false))) 4 0])
    .ret)
    .skip))
  (.seq (.seq (.region [yP (oMov (t 0)) 11 0,
    yP (oLenS (t 11)) 12 0,
    yP (oMov (.c (.int .i64 0))) 13 0])
  (.block 0
    (.loop a45l0)))
  (.seq (.region [yP (oMov (.c (.bool .true))) 4 0])
  .ret))))⟩
def a46l0 : ACode := (.seq (.seq (.region [yP (oMov (t 4)) 18 0,
              yP (oFieldAddr 0 (t 1)) 19 0,
              yR (oLoad1 (t 19)) 20 0,
              yP (oFieldAddr 2 (t 1)) 21 0,
              yR (oLoad1 (t 21)) 22 0,
              yP (oBin Try.prog .add 3 (.tmp 20) (.tmp 22) .none (t 20) (t 22)) 23 0,
              yP (oBin Try.prog .lss 3 (.tmp 18) (.tmp 23) .none (t 18) (t 23)) 24 0])
            (.cond (t 24)
              .skip
              (.exit 2)))
            (.seq (.block 3
              (.seq (.region [yP (oMov (t 0)) 27 0,
                yP (oMov (t 4)) 28 0,
                yP (oMov (t 3)) 29 0,
                yE (oCallV (t 27) [(t 28), (t 29)]) 30 0,
                yP (oUn Try.prog .not (t 30)) 31 0])
              (.cond (t 31)
                .ret
                .skip)))
            (.region [yP (oMov (t 4)) 25 0,
              yP (oBin Try.prog .add 3 (.tmp 25) (.const (.int .i64 1)) .none (t 25) (.c (.int .i64 1))) 26 0,
              yP (oMov (t 26)) 4 0])))
def a46l1 : ACode := (.seq (.seq (.region [yP (oMov (t 3)) 7 0,
        yP (oFieldAddr 1 (t 1)) 8 0,
        yR (oLoad1 (t 8)) 9 0,
        yP (oFieldAddr 3 (t 1)) 10 0,
        yR (oLoad1 (t 10)) 11 0,
        yP (oBin Try.prog .add 3 (.tmp 9) (.tmp 11) .none (t 9) (t 11)) 12 0,
        yP (oBin Try.prog .lss 3 (.tmp 7) (.tmp 12) .none (t 7) (t 12)) 13 0])
      (.cond (t 13)
        .skip
        (.exit 0)))
      (.seq (.block 1
        (.seq (.region [yP (oFieldAddr 0 (t 1)) 16 0,
          yR (oLoad1 (t 16)) 17 0,
          yP (oMov (t 17)) 4 0])
        (.block 2
          (.loop a46l0))))
      (.region [yP (oMov (t 3)) 14 0,
        yP (oBin Try.prog .add 3 (.tmp 14) (.const (.int .i64 1)) .none (t 14) (.c (.int .i64 1))) 15 0,
        yP (oMov (t 15)) 3 0])))
def a46 : AFn := ⟨2, [],
  (.seq (.region [yP (oFieldAddr 1 (t 1)) 5 0,
    yR (oLoad1 (t 5)) 6 0,
    yP (oMov (t 6)) 3 0])
  (.block 0
    (.loop a46l1)))⟩
def a47 : AFn := ⟨6, [(.t (pa 9))],
  (.seq (.region [yN (oBox (t 0)) 6 0,
    yN (oBox (t 1)) 7 0,
    yP (oMov (.c (.bool .false))) 9 0])
  (.seq (.region [yP (oMov (t 2)) 10 0,
    yR (oLoadA 6 (t 6)) 11 0,
    yR (oLoadA 6 (t 7)) 12 0,
    yR (oLoad1 (t 3)) 13 0,
    yR (oLoad1 (t 4)) 14 0,
    yE (oEnter 31 [(t 11), (t 12), (t 13), (t 14)]) 15 0,
    yP (oIndexAddrA 3 1 (t 5) (t 10)) 16 0,
    zE (oStore 1 (t 16) (t 15)) 0])
  (.seq (.region [yP (oMov (t 2)) 17 0,
    yP (oIndexAddrA 3 1 (t 5) (t 17)) 18 0,
    yR (oLoad1 (t 18)) 19 0,
    yP (oBin Try.prog .gtr 3 (.tmp 19) (.const (.int .i64 0)) .none (t 19) (.c (.int .i64 0))) 20 0,
    yP (oMov (t 20)) 21 0,
    yPg (oMov (t 2)) 22 21 false 0,
    yPg (oIndexAddrA 3 1 (t 5) (t 22)) 23 21 false 0,
    yRg (oLoad1 (t 23)) 24 21 false 0,
    yPg (oBin Try.prog .eql 3 (.tmp 24) (.const (.int .i64 0)) .none (t 24) (.c (.int .i64 0))) 25 21 false 0,
    yPg (oMov (t 25)) 26 21 false 0,
    yPg (oFieldAddr 1 (t 7)) 27 26 true 0,
    yRg (oLoad1 (t 27)) 28 26 true 0,
    yPg (oFieldAddr 1 (t 6)) 29 26 true 0,
    yRg (oLoad1 (t 29)) 30 26 true 0,
    yPg (oBin Try.prog .lss 3 (.tmp 28) (.tmp 30) .none (t 28) (t 30)) 31 26 true 0,
    yPg (oMov (t 31)) 32 26 true 0,
    yPg (oFieldAddr 1 (t 7)) 33 32 false 0,
    yRg (oLoad1 (t 33)) 34 32 false 0,
    yPg (oFieldAddr 1 (t 6)) 35 32 false 0,
    yRg (oLoad1 (t 35)) 36 32 false 0,
    yPg (oBin Try.prog .eql 3 (.tmp 34) (.tmp 36) .none (t 34) (t 36)) 37 32 false 0,
    yPg (oMov (t 37)) 38 32 false 0,
    yPg (oFieldAddr 0 (t 7)) 39 38 true 0,
    yRg (oLoad1 (t 39)) 40 38 true 0,
    yPg (oFieldAddr 0 (t 6)) 41 38 true 0,
    yRg (oLoad1 (t 41)) 42 38 true 0,
    yPg (oBin Try.prog .lss 3 (.tmp 40) (.tmp 42) .none (t 40) (t 42)) 43 38 true 0,
    yPg (oPick (t 38) (t 43) (.c (.bool .false))) 44 32 false 0,
    yPg (oPick (t 32) (.c (.bool .true)) (t 44)) 45 26 true 0,
    yPg (oPick (t 26) (t 45) (.c (.bool .false))) 46 21 false 0,
    yP (oPick (t 21) (.c (.bool .true)) (t 46)) 47 0,
    yP (oMov (t 47)) 9 0])
  .ret)))⟩
def a48 : AFn := ⟨2, [(.cA 2 (pa 4))],
  (.seq (.region [yN (oBox (t 0)) 2 0,
    yN (oAlloc [(.int .u64 0), (.int .u64 0)]) 4 0])
  (.seq (.region [yP (oFieldAddr 1 (t 2)) 8 0,
    yR (oLoad1 (t 8)) 9 0,
    yP (oMov (t 1)) 10 0,
    yE (oEnter 62 [(t 9), (t 10)]) 11 0,
    yP (oMov (t 11)) 7 0,
    yP (oExtract 0 (t 7)) 12 0,
    yP (oExtract 1 (t 7)) 13 0,
    yP (oMov (t 12)) 5 0,
    yP (oMov (t 13)) 6 0])
  (.seq (.region [yP (oMov (t 5)) 14 0,
    yP (oFieldAddr 0 (t 2)) 15 0,
    yR (oLoad1 (t 15)) 16 0,
    yP (oMov (t 1)) 17 0,
    yP (oBin Try.prog .mul 95 (.tmp 16) (.tmp 17) .none (t 16) (t 17)) 18 0,
    yP (oBin Try.prog .add 95 (.tmp 14) (.tmp 18) .none (t 14) (t 18)) 19 0,
    yP (oMov (t 6)) 20 0,
    yP (oBuild [(.int .u64 0), (.int .u64 0)] [(0, (1, (t 19))), (1, (1, (t 20)))]) 21 0,
    zE (oStore 2 (t 4) (t 21)) 0])
  .ret)))⟩
def a49 : AFn := ⟨3, [(.t (pa 5))],
  (.seq (.region [yN (oBox (t 0)) 3 0,
    yP (oMov (.c (.int .i32 0))) 5 0])
  (.seq (.draw [yR (oLoadA 6 (t 3)) 6 0,
    yP (oMov (t 1)) 7 0,
    yR (oLoad1 (t 2)) 8 0,
    yP (oNilCheck (t 8)) 9 4,
    yP (oFieldAddr 0 (t 9)) 10 12,
    yP (oIndexAddrA 3 6 (t 10) (.c (.int .i64 0))) 11 28,
    yR (oLoadA 6 (t 11)) 12 60,
    yE (oCallV (t 7) [(t 12)]) 13 126,
    yP (oMov (t 1)) 14 0,
    yR (oLoad1 (t 2)) 15 0,
    yP (oNilCheck (t 15)) 16 512,
    yP (oFieldAddr 0 (t 16)) 17 1536,
    yP (oIndexAddrA 3 6 (t 17) (.c (.int .i64 1))) 18 3584,
    yR (oLoadA 6 (t 18)) 19 7680,
    yE (oCallV (t 14) [(t 19)]) 20 16382,
    yP (oMov (t 1)) 21 0,
    yR (oLoad1 (t 2)) 22 0,
    yP (oNilCheck (t 22)) 23 65536,
    yP (oFieldAddr 0 (t 23)) 24 196608,
    yP (oIndexAddrA 3 6 (t 24) (.c (.int .i64 2))) 25 458752,
    yR (oLoadA 6 (t 25)) 26 983040,
    yE (oCallV (t 21) [(t 26)]) 27 2097150,
    yP (oBuild [(.int .i32 0), (.int .i32 0), (.int .i32 0)] [(0, (1, (t 13))), (1, (1, (t 20))), (2, (1, (t 27)))]) 28 4194302,
    yE (oEnter 50 [(t 6), (t 28)]) 29 8388607,
    yP (oMov (t 29)) 5 16777215])
  .ret))⟩
def a50l0 : ACode := (.seq (.seq (.region [yP (oMov (t 13)) 62 0,
        yP (oBin Try.prog .gtr 95 (.tmp 62) (.const (.int .u64 0)) .none (t 62) (.c (.int .u64 0))) 63 0])
      (.cond (t 63)
        .skip
        (.exit 2)))
      (.seq (.block 3
        (.seq (.draw [yR (oLoadA 2 (t 11)) 66 0,
          yR (oLoadA 2 (t 7)) 67 0,
          yP (oMov (t 12)) 68 0,
          yP (oMov (t 13)) 69 0,
          yP (oBin Try.prog .or 95 (.tmp 68) (.tmp 69) .none (t 68) (t 69)) 70 12,
          yE (oEnter 48 [(t 67), (t 70)]) 71 30,
          yE (oEnter 64 [(t 66), (t 71)]) 72 63,
          yP (oUn Try.prog .not (t 72)) 73 127])
        (.cond (t 73)
          (.region [yP (oMov (t 12)) 74 0,
            yP (oMov (t 13)) 75 0,
            yP (oBin Try.prog .or 95 (.tmp 74) (.tmp 75) .none (t 74) (t 75)) 76 0,
            yP (oMov (t 76)) 12 0])
          .skip)))
      (.region [yP (oMov (t 13)) 64 0,
        yP (oBin Try.prog .shr 95 (.tmp 64) (.const (.int .u64 1)) .none (t 64) (.c (.int .u64 1))) 65 0,
        yP (oMov (t 65)) 13 0])))
def a50l1 : ACode := (.seq (.region [yP (oBin Try.prog .lss 3 (.tmp 15) (.const (.int .i64 3)) .none (t 15) (.c (.int .i64 3))) 16 0])
      (.seq (.cond (t 16)
        .skip
        (.exit 0))
      (.seq (.block 1
        (.seq (.region [yP (oMov (t 15)) 17 0,
          yP (oIndexA 3 2 .true (t 14) (t 15)) 18 0,
          yN (oAlloc [(.int .u64 0), (.int .u64 0)]) 9 0,
          yP (oMov (t 17)) 8 0,
          zE (oStore 2 (t 9) (t 18)) 0])
        (.seq (.region [yR (oLoadA 2 (t 7)) 19 0,
          yR (oLoadA 2 (t 9)) 20 0,
          yE (oEnter 63 [(t 19), (t 20)]) 21 0,
          zE (oStore 2 (t 7) (t 21)) 0])
        (.seq (.region [yP (oMov (t 8)) 22 0,
          yP (oIndexAddrA 3 1 (t 3) (t 22)) 23 0,
          yR (oLoad1 (t 23)) 24 0,
          yP (oBin Try.prog .lss 27 (.tmp 24) (.const (.int .i32 0)) .none (t 24) (.c (.int .i32 0))) 25 0])
        (.cond (t 25)
          (.draw [yR (oLoadA 2 (t 6)) 26 0,
            yR (oLoadA 2 (t 9)) 27 0,
            yP (oMov (t 8)) 28 0,
            yP (oIndexAddrA 3 1 (t 3) (t 28)) 29 4,
            yR (oLoad1 (t 29)) 30 12,
            yP (oCvtInt .i64 (t 30)) 31 28,
            yP (oUn Try.prog .neg (t 31)) 32 60,
            yP (oCvtInt .u64 (t 32)) 33 124,
            yE (oEnter 48 [(t 27), (t 33)]) 34 254,
            yE (oEnter 63 [(t 26), (t 34)]) 35 511,
            zE (oStore 2 (t 6) (t 35)) 1023])
          (.draw [yR (oLoadA 2 (t 5)) 36 0,
            yR (oLoadA 2 (t 9)) 37 0,
            yP (oMov (t 8)) 38 0,
            yP (oIndexAddrA 3 1 (t 3) (t 38)) 39 4,
            yR (oLoad1 (t 39)) 40 12,
            yP (oCvtInt .u64 (t 40)) 41 28,
            yE (oEnter 48 [(t 37), (t 41)]) 42 62,
            yE (oEnter 63 [(t 36), (t 42)]) 43 127,
            zE (oStore 2 (t 5) (t 43)) 255]))))))
      (.region [yP (oBin Try.prog .add 3 (.tmp 15) (.const (.int .i64 1)) .none (t 15) (.c (.int .i64 1))) 44 0,
        yP (oMov (t 44)) 15 0]))))
def a50 : AFn := ⟨2, [(.t (pa 4))],
  (.seq (.region [yN (oBox (t 0)) 2 0,
    yN (oBox (t 1)) 3 0,
    yP (oMov (.c (.int .i32 0))) 4 0])
  (.seq (.region [yN (oAlloc [(.int .u64 0), (.int .u64 0)]) 5 0,
    yN (oAlloc [(.int .u64 0), (.int .u64 0)]) 6 0,
    yN (oAlloc [(.int .u64 0), (.int .u64 0)]) 7 0])
  (.seq (.seq (.region [yR (oLoadA 6 (t 2)) 14 0,
    yP (oMov (.c (.int .i64 0))) 15 0])
  (.block 0
    (.loop a50l1)))
  (.seq (.region [yR (oLoadA 2 (t 5)) 45 0,
    yR (oLoadA 2 (t 6)) 46 0,
    yE (oEnter 64 [(t 45), (t 46)]) 47 0,
    yP (oMov (t 47)) 10 0])
  (.seq (.seq (.region [yP (oMov (t 10)) 48 0])
  (.cond (t 48)
    (.region [yR (oLoadA 2 (t 6)) 49 0,
      yR (oLoadA 2 (t 5)) 50 0,
      zE (oStore 2 (t 5) (t 49)) 0,
      zE (oStore 2 (t 6) (t 50)) 0])
    .skip))
  (.seq (.region [yR (oLoadA 2 (t 5)) 51 0,
    yR (oLoadA 2 (t 6)) 52 0,
    yE (oEnter 65 [(t 51), (t 52)]) 53 0,
    yN (oAlloc [(.int .u64 0), (.int .u64 0)]) 11 0,
    zE (oStore 2 (t 11) (t 53)) 0])
  (.seq (.draw [yR (oLoadA 2 (t 11)) 54 0,
    yR (oLoadA 2 (t 11)) 55 0,
    yE (oEnter 63 [(t 54), (t 55)]) 56 3,
    yR (oLoadA 2 (t 7)) 57 0,
    yE (oEnter 63 [(t 56), (t 57)]) 58 15,
    zE (oStore 2 (t 11) (t 58)) 31])
  (.seq (.region [yR (oLoadA 2 (t 7)) 59 0,
    yR (oLoadA 2 (t 7)) 60 0,
    yE (oEnter 63 [(t 59), (t 60)]) 61 0,
    zE (oStore 2 (t 7) (t 61)) 0])
  (.seq (.region [yP (oMov (.c (.int .u64 0))) 12 0])
  (.seq (.seq (.region [yP (oMov (.c (.int .u64 4294967296))) 13 0])
  (.block 2
    (.loop a50l0)))
  (.seq (.seq (.region [yP (oMov (t 10)) 77 0])
  (.cond (t 77)
    (.seq (.region [yP (oMov (t 12)) 78 0,
      yP (oCvtInt .i64 (t 78)) 79 0,
      yP (oUn Try.prog .neg (t 79)) 80 0,
      yE (oEnter 66 [(t 80)]) 81 0,
      yP (oMov (t 81)) 4 0])
    .ret)
    .skip))
  (.seq (.region [yP (oMov (t 12)) 82 0,
    yP (oCvtInt .i64 (t 82)) 83 0,
    yE (oEnter 66 [(t 83)]) 84 0,
    yP (oMov (t 84)) 4 0])
  .ret))))))))))))⟩
def a51 : AFn := ⟨1, [(.t (pa 2))],
  (.seq (.region [yN (oBox (t 0)) 1 0,
    yP (oMov (.c (.int .i32 0))) 2 0])
  (.seq (.region [yP (oFieldAddr 2 (t 1)) 3 0,
    yR (oLoad1 (t 3)) 4 0,
    yP (oMov (t 4)) 2 0])
  .ret))⟩
def a52 : AFn := ⟨1, [(.t (pa 2))],
  (.seq (.region [yN (oBox (t 0)) 1 0,
    yP (oMov (.c (.int .i32 0))) 2 0])
  (.seq (.region [yP (oFieldAddr 3 (t 1)) 3 0,
    yR (oLoad1 (t 3)) 4 0,
    yE (oEnter 53 [(.c (.int .i32 65536)), (t 4)]) 5 0,
    yP (oMov (t 5)) 2 0])
  .ret))⟩
def a53 : AFn := ⟨2, [(.t (pa 4))],
  (.seq (.region [yP (oMov (.c (.int .i32 0))) 4 0])
  (.seq (.region [yP (oMov (t 0)) 7 0,
    yP (oCvtInt .i64 (t 7)) 8 0,
    yP (oBin Try.prog .shl 2 (.tmp 8) (.const (.int .u64 16)) .none (t 8) (.c (.int .u64 16))) 9 0,
    yP (oMov (t 1)) 10 0,
    yP (oCvtInt .i64 (t 10)) 11 0,
    yP (oMov (t 9)) 5 0,
    yP (oMov (t 11)) 6 0])
  (.seq (.seq (.region [yP (oMov (t 6)) 12 0,
    yP (oBin Try.prog .lss 2 (.tmp 12) (.const (.int .i64 0)) .none (t 12) (.c (.int .i64 0))) 13 0])
  (.cond (t 13)
    (.region [yP (oMov (t 5)) 14 0,
      yP (oUn Try.prog .neg (t 14)) 15 0,
      yP (oMov (t 6)) 16 0,
      yP (oUn Try.prog .neg (t 16)) 17 0,
      yP (oMov (t 15)) 5 0,
      yP (oMov (t 17)) 6 0])
    .skip))
  (.seq (.block 0
    (.seq (.region [yP (oMov (t 6)) 19 0,
      yP (oBin Try.prog .eql 2 (.tmp 19) (.const (.int .i64 0)) .none (t 19) (.c (.int .i64 0))) 20 0,
      yP (oMov (t 20)) 21 0,
      yPg (oMov (t 5)) 22 21 true 0,
      yPg (oBin Try.prog .gtr 2 (.tmp 22) (.const (.int .i64 0)) .none (t 22) (.c (.int .i64 0))) 23 21 true 0,
      yP (oPick (t 21) (t 23) (.c (.bool .false))) 24 0,
      yP (oMov (t 24)) 18 0])
    (.cond (t 18)
      (.seq (.region [yP (oMov (.c (.int .i32 2147483647))) 4 0])
      .ret)
      (.seq (.region [yP (oMov (t 6)) 26 0,
        yP (oBin Try.prog .eql 2 (.tmp 26) (.const (.int .i64 0)) .none (t 26) (.c (.int .i64 0))) 27 0,
        yP (oMov (t 27)) 28 0,
        yPg (oMov (t 5)) 29 28 true 0,
        yPg (oBin Try.prog .lss 2 (.tmp 29) (.const (.int .i64 0)) .none (t 29) (.c (.int .i64 0))) 30 28 true 0,
        yP (oPick (t 28) (t 30) (.c (.bool .false))) 31 0,
        yP (oMov (t 31)) 25 0])
      (.cond (t 25)
        (.seq (.region [yP (oMov (.c (.int .i32 (-2147483648)))) 4 0])
        .ret)
        (.seq (.region [yP (oMov (t 6)) 33 0,
          yP (oBin Try.prog .eql 2 (.tmp 33) (.const (.int .i64 0)) .none (t 33) (.c (.int .i64 0))) 34 0,
          yP (oMov (t 34)) 32 0])
        (.cond (t 32)
          (.seq (.region [yP (oMov (.c (.int .i32 0))) 4 0])
          .ret)
          (.seq (.region [yP (oMov (t 5)) 36 0,
            yP (oBin Try.prog .lss 2 (.tmp 36) (.const (.int .i64 0)) .none (t 36) (.c (.int .i64 0))) 37 0,
            yP (oMov (t 37)) 35 0])
          (.cond (t 35)
            (.seq (.region [yP (oMov (t 5)) 38 0,
              yP (oBin Try.prog .mul 2 (.const (.int .i64 (-2))) (.tmp 38) .none (.c (.int .i64 (-2))) (t 38)) 39 0,
              yP (oMov (t 6)) 40 0,
              yP (oBin Try.prog .add 2 (.tmp 39) (.tmp 40) .none (t 39) (t 40)) 41 0,
              yP (oMov (t 6)) 42 0,
              yP (oBin Try.prog .mul 2 (.const (.int .i64 2)) (.tmp 42) .none (.c (.int .i64 2)) (t 42)) 43 0,
              yP (oBin Try.prog .quo 2 (.tmp 41) (.tmp 43) .none (t 41) (t 43)) 44 0,
              yP (oUn Try.prog .neg (t 44)) 45 0,
              yE (oEnter 66 [(t 45)]) 46 0,
              yP (oMov (t 46)) 4 0])
            .ret)
            .skip)))))))))
  (.seq (.region [yP (oMov (t 5)) 47 0,
    yP (oBin Try.prog .mul 2 (.const (.int .i64 2)) (.tmp 47) .none (.c (.int .i64 2)) (t 47)) 48 0,
    yP (oMov (t 6)) 49 0,
    yP (oBin Try.prog .add 2 (.tmp 48) (.tmp 49) .none (t 48) (t 49)) 50 0,
    yP (oMov (t 6)) 51 0,
    yP (oBin Try.prog .mul 2 (.const (.int .i64 2)) (.tmp 51) .none (.c (.int .i64 2)) (t 51)) 52 0,
    yP (oBin Try.prog .quo 2 (.tmp 50) (.tmp 52) .none (t 50) (t 52)) 53 0,
    yE (oEnter 66 [(t 53)]) 54 0,
    yP (oMov (t 54)) 4 0])
  .ret)))))⟩
def a54 : AFn := ⟨3, [(.t (pa 4))],
  (.seq (.region [yN (oBox (t 0)) 3 0,
    yP (oMov (.c (.int .i32 0))) 4 0])
  (.seq (.draw [yP (oFieldAddr 5 (t 3)) 5 0,
    yR (oLoad1 (t 5)) 6 1,
    yR (oLoad1 (t 1)) 7 0,
    yR (oLoad1 (t 2)) 8 0,
    yP (oIndexAddrS 4 (t 6) (t 7)) 9 7,
    yP (oIndexAddrA 4 1 (t 9) (t 8)) 10 31,
    yR (oLoad1 (t 10)) 11 63,
    yP (oMov (t 11)) 4 127])
  .ret))⟩
def a55 : AFn := ⟨4, [(.t (pa 8))],
  (.seq (.region [yN (oBox (t 0)) 4 0,
    yN (oBox (t 1)) 5 0,
    yP (oMov (.c (.int .i64 0))) 8 0])
  (.seq (.region [yP (oFieldAddr 0 (t 5)) 9 0,
    yR (oLoad1 (t 9)) 10 0,
    yP (oFieldAddr 0 (t 4)) 11 0,
    yR (oLoad1 (t 11)) 12 0,
    yP (oBin Try.prog .sub 3 (.tmp 10) (.tmp 12) .none (t 10) (t 12)) 13 0,
    yP (oMov (t 3)) 14 0,
    yP (oFieldAddr 1 (t 4)) 15 0,
    yR (oLoad1 (t 15)) 16 0,
    yP (oBin Try.prog .sub 3 (.tmp 14) (.tmp 16) .none (t 14) (t 16)) 17 0,
    yP (oBin Try.prog .mul 3 (.tmp 13) (.tmp 17) .none (t 13) (t 17)) 18 0,
    yP (oFieldAddr 1 (t 5)) 19 0,
    yR (oLoad1 (t 19)) 20 0,
    yP (oFieldAddr 1 (t 4)) 21 0,
    yR (oLoad1 (t 21)) 22 0,
    yP (oBin Try.prog .sub 3 (.tmp 20) (.tmp 22) .none (t 20) (t 22)) 23 0,
    yP (oMov (t 2)) 24 0,
    yP (oFieldAddr 0 (t 4)) 25 0,
    yR (oLoad1 (t 25)) 26 0,
    yP (oBin Try.prog .sub 3 (.tmp 24) (.tmp 26) .none (t 24) (t 26)) 27 0,
    yP (oBin Try.prog .mul 3 (.tmp 23) (.tmp 27) .none (t 23) (t 27)) 28 0,
    yP (oBin Try.prog .sub 3 (.tmp 18) (.tmp 28) .none (t 18) (t 28)) 29 0,
    yP (oMov (t 29)) 8 0])
  .ret))⟩
def a56l0 : ACode := (.seq (.region [yP (oBin Try.prog .lss 3 (.tmp 5) (.const (.int .i64 4)) .none (t 5) (.c (.int .i64 4))) 6 0])
      (.seq (.cond (t 6)
        .skip
        (.exit 0))
      (.seq (.block 1
        (.seq (.region [yP (oMov (t 5)) 7 0,
          yP (oMov (t 7)) 4 0])
        (.region [yP (oMov (t 4)) 8 0,
          yP (oMov (t 0)) 9 0,
          yP (oMov (t 4)) 10 0,
          yP (oBin Try.prog .mul 3 (.const (.int .i64 16)) (.tmp 10) .none (.c (.int .i64 16)) (t 10)) 11 0,
          yP (oBin Try.prog .shr 2 (.tmp 9) (.tmp 11) .none (t 9) (t 11)) 12 0,
          yP (oBin Try.prog .and 2 (.tmp 12) (.const (.int .i64 65535)) .none (t 12) (.c (.int .i64 65535))) 13 0,
          yP (oCvtInt .u32 (t 13)) 14 0,
          yP (oIndexAddrA 12 1 (t 3) (t 8)) 15 0,
          zE (oStore 1 (t 15) (t 14)) 0])))
      (.region [yP (oBin Try.prog .add 3 (.tmp 5) (.const (.int .i64 1)) .none (t 5) (.c (.int .i64 1))) 16 0,
        yP (oMov (t 16)) 5 0]))))
def a56 : AFn := ⟨1, [(.cA 12 (pa 2))],
  (.seq (.region [yN (oAlloc [(.int .u32 0), (.int .u32 0), (.int .u32 0), (.int .u32 0), (.int .u32 0), (.int .u32 0), (.int .u32 0), (.int .u32 0), (.int .u32 0), (.int .u32 0), (.int .u32 0), (.int .u32 0)]) 2 0])
  (.seq (.region [yN (oAlloc [(.int .u32 0), (.int .u32 0), (.int .u32 0), (.int .u32 0), (.int .u32 0), (.int .u32 0), (.int .u32 0), (.int .u32 0), (.int .u32 0), (.int .u32 0), (.int .u32 0), (.int .u32 0)]) 3 0])
  (.seq (.seq (.region [yP (oMov (.c (.int .i64 0))) 5 0])
  (.block 0
    (.loop a56l0)))
  (.seq (.region [yR (oLoadA 12 (t 3)) 17 0,
    zE (oStore 12 (t 2) (t 17)) 0])
  .ret))))⟩
def a57l0 : ACode := (.seq (.seq (.region [yP (oMov (t 9)) 22 0,
              yP (oMov (t 6)) 23 0,
              yP (oBin Try.prog .add 3 (.tmp 22) (.tmp 23) .none (t 22) (t 23)) 24 0,
              yP (oBin Try.prog .lss 3 (.tmp 24) (.const (.int .i64 12)) .none (t 24) (.c (.int .i64 12))) 25 0])
            (.cond (t 25)
              .skip
              (.exit 2)))
            (.seq (.block 3
              (.seq (.draw [yP (oMov (t 9)) 28 0,
                yP (oMov (t 6)) 29 0,
                yP (oBin Try.prog .add 3 (.tmp 28) (.tmp 29) .none (t 28) (t 29)) 30 3,
                yP (oIndexAddrA 12 1 (t 5) (t 30)) 31 7,
                yR (oLoad1 (t 31)) 32 15,
                yP (oCvtInt .u64 (t 32)) 33 31,
                yP (oMov (t 9)) 34 0,
                yP (oIndexAddrA 12 1 (t 2) (t 34)) 35 64,
                yR (oLoad1 (t 35)) 36 192,
                yP (oCvtInt .u64 (t 36)) 37 448,
                yP (oMov (t 7)) 38 0,
                yP (oBin Try.prog .mul 95 (.tmp 37) (.tmp 38) .none (t 37) (t 38)) 39 1984,
                yP (oBin Try.prog .add 95 (.tmp 33) (.tmp 39) .none (t 33) (t 39)) 40 4095,
                yP (oMov (t 8)) 41 0,
                yP (oBin Try.prog .add 95 (.tmp 40) (.tmp 41) .none (t 40) (t 41)) 42 16383,
                yP (oMov (t 42)) 10 32767])
              (.region [yP (oMov (t 9)) 43 0,
                yP (oMov (t 6)) 44 0,
                yP (oBin Try.prog .add 3 (.tmp 43) (.tmp 44) .none (t 43) (t 44)) 45 0,
                yP (oMov (t 10)) 46 0,
                yP (oBin Try.prog .and 95 (.tmp 46) (.const (.int .u64 65535)) .none (t 46) (.c (.int .u64 65535))) 47 0,
                yP (oCvtInt .u32 (t 47)) 48 0,
                yP (oMov (t 10)) 49 0,
                yP (oBin Try.prog .shr 95 (.tmp 49) (.const (.int .u64 16)) .none (t 49) (.c (.int .u64 16))) 50 0,
                yP (oIndexAddrA 12 1 (t 5) (t 45)) 51 0,
                zE (oStore 1 (t 51) (t 48)) 0,
                yP (oMov (t 50)) 8 0])))
            (.region [yP (oMov (t 9)) 26 0,
              yP (oBin Try.prog .add 3 (.tmp 26) (.const (.int .i64 1)) .none (t 26) (.c (.int .i64 1))) 27 0,
              yP (oMov (t 27)) 9 0])))
def a57l1 : ACode := (.seq (.region [yP (oBin Try.prog .lss 3 (.tmp 18) (.const (.int .i64 2)) .none (t 18) (.c (.int .i64 2))) 19 0])
      (.seq (.cond (t 19)
        .skip
        (.exit 0))
      (.seq (.block 1
        (.seq (.region [yP (oMov (t 18)) 20 0,
          yP (oIndexA 2 1 .false (t 17) (t 18)) 21 0,
          yP (oMov (t 20)) 6 0,
          yP (oMov (t 21)) 7 0])
        (.seq (.region [yP (oMov (.c (.int .u64 0))) 8 0])
        (.seq (.region [yP (oMov (.c (.int .i64 0))) 9 0])
        (.block 2
          (.loop a57l0))))))
      (.region [yP (oBin Try.prog .add 3 (.tmp 18) (.const (.int .i64 1)) .none (t 18) (.c (.int .i64 1))) 52 0,
        yP (oMov (t 52)) 18 0]))))
def a57 : AFn := ⟨2, [(.cA 12 (pa 4))],
  (.seq (.region [yN (oBox (t 0)) 2 0,
    yN (oAlloc [(.int .u32 0), (.int .u32 0), (.int .u32 0), (.int .u32 0), (.int .u32 0), (.int .u32 0), (.int .u32 0), (.int .u32 0), (.int .u32 0), (.int .u32 0), (.int .u32 0), (.int .u32 0)]) 4 0])
  (.seq (.region [yN (oAlloc [(.int .u32 0), (.int .u32 0), (.int .u32 0), (.int .u32 0), (.int .u32 0), (.int .u32 0), (.int .u32 0), (.int .u32 0), (.int .u32 0), (.int .u32 0), (.int .u32 0), (.int .u32 0)]) 5 0])
  (.seq (.seq (.region [yP (oMov (t 1)) 11 0,
    yP (oCvtInt .u64 (t 11)) 12 0,
    yP (oBin Try.prog .and 95 (.tmp 12) (.const (.int .u64 65535)) .none (t 12) (.c (.int .u64 65535))) 13 0,
    yP (oMov (t 1)) 14 0,
    yP (oCvtInt .u64 (t 14)) 15 0,
    yP (oBin Try.prog .shr 95 (.tmp 15) (.const (.int .u64 16)) .none (t 15) (.c (.int .u64 16))) 16 0,
    yP (oBuild [(.int .u64 0), (.int .u64 0)] [(0, (1, (t 13))), (1, (1, (t 16)))]) 17 0,
    yP (oMov (.c (.int .i64 0))) 18 0])
  (.block 0
    (.loop a57l1)))
  (.seq (.region [yR (oLoadA 12 (t 5)) 53 0,
    zE (oStore 12 (t 4) (t 53)) 0])
  .ret))))⟩
def a58l0 : ACode := (.seq (.region [yP (oBin Try.prog .lss 3 (.tmp 8) (.const (.int .i64 12)) .none (t 8) (.c (.int .i64 12))) 9 0])
      (.seq (.cond (t 9)
        .skip
        (.exit 0))
      (.seq (.block 1
        (.seq (.region [yP (oMov (t 8)) 10 0,
          yP (oMov (t 10)) 6 0])
        (.seq (.draw [yP (oMov (t 6)) 11 0,
          yP (oIndexAddrA 12 1 (t 2) (t 11)) 12 1,
          yR (oLoad1 (t 12)) 13 3,
          yP (oMov (t 6)) 14 0,
          yP (oIndexAddrA 12 1 (t 3) (t 14)) 15 8,
          yR (oLoad1 (t 15)) 16 24,
          yP (oBin Try.prog .add 106 (.tmp 13) (.tmp 16) .none (t 13) (t 16)) 17 63,
          yP (oMov (t 5)) 18 0,
          yP (oBin Try.prog .add 106 (.tmp 17) (.tmp 18) .none (t 17) (t 18)) 19 255,
          yP (oMov (t 19)) 7 511])
        (.region [yP (oMov (t 6)) 20 0,
          yP (oMov (t 7)) 21 0,
          yP (oBin Try.prog .and 106 (.tmp 21) (.const (.int .u32 65535)) .none (t 21) (.c (.int .u32 65535))) 22 0,
          yP (oMov (t 7)) 23 0,
          yP (oBin Try.prog .shr 106 (.tmp 23) (.const (.int .u64 16)) .none (t 23) (.c (.int .u64 16))) 24 0,
          yP (oIndexAddrA 12 1 (t 2) (t 20)) 25 0,
          zE (oStore 1 (t 25) (t 22)) 0,
          yP (oMov (t 24)) 5 0]))))
      (.region [yP (oBin Try.prog .add 3 (.tmp 8) (.const (.int .i64 1)) .none (t 8) (.c (.int .i64 1))) 26 0,
        yP (oMov (t 26)) 8 0]))))
def a58 : AFn := ⟨2, [(.cA 12 (pa 4))],
  (.seq (.region [yN (oBox (t 0)) 2 0,
    yN (oBox (t 1)) 3 0,
    yN (oAlloc [(.int .u32 0), (.int .u32 0), (.int .u32 0), (.int .u32 0), (.int .u32 0), (.int .u32 0), (.int .u32 0), (.int .u32 0), (.int .u32 0), (.int .u32 0), (.int .u32 0), (.int .u32 0)]) 4 0])
  (.seq (.region [yP (oMov (.c (.int .u32 0))) 5 0])
  (.seq (.seq (.region [yP (oMov (.c (.int .i64 0))) 8 0])
  (.block 0
    (.loop a58l0)))
  (.seq (.region [yR (oLoadA 12 (t 2)) 27 0,
    zE (oStore 12 (t 4) (t 27)) 0])
  .ret))))⟩
def a59l0 : ACode := (.seq (.seq (.region [yP (oMov (t 5)) 6 0,
        yP (oBin Try.prog .geq 3 (.tmp 6) (.const (.int .i64 0)) .none (t 6) (.c (.int .i64 0))) 7 0])
      (.cond (t 7)
        .skip
        (.exit 0)))
      (.seq (.block 1
        (.seq (.draw [yP (oMov (t 5)) 10 0,
          yP (oIndexAddrA 12 1 (t 2) (t 10)) 11 1,
          yR (oLoad1 (t 11)) 12 3,
          yP (oMov (t 5)) 13 0,
          yP (oIndexAddrA 12 1 (t 3) (t 13)) 14 8,
          yR (oLoad1 (t 14)) 15 24,
          yP (oBin Try.prog .neq 106 (.tmp 12) (.tmp 15) .none (t 12) (t 15)) 16 63])
        (.cond (t 16)
          (.seq (.draw [yP (oMov (t 5)) 17 0,
            yP (oIndexAddrA 12 1 (t 2) (t 17)) 18 1,
            yR (oLoad1 (t 18)) 19 3,
            yP (oMov (t 5)) 20 0,
            yP (oIndexAddrA 12 1 (t 3) (t 20)) 21 8,
            yR (oLoad1 (t 21)) 22 24,
            yP (oBin Try.prog .lss 106 (.tmp 19) (.tmp 22) .none (t 19) (t 22)) 23 63,
            yP (oMov (t 23)) 4 127])
          .ret)
          .skip)))
      (.region [yP (oMov (t 5)) 8 0,
        yP (oBin Try.prog .sub 3 (.tmp 8) (.const (.int .i64 1)) .none (t 8) (.c (.int .i64 1))) 9 0,
        yP (oMov (t 9)) 5 0])))
def a59 : AFn := ⟨2, [(.t (pa 4))],
  (.seq (.region [yN (oBox (t 0)) 2 0,
    yN (oBox (t 1)) 3 0,
    yP (oMov (.c (.bool .false))) 4 0])
  (.seq (.seq (.region [yP (oMov (.c (.int .i64 11))) 5 0])
  (.block 0
    (.loop a59l0)))
  (.seq (.region [yP (oMov (.c (.bool .false))) 4 0])
  .ret)))⟩
def a60 : AFn := ⟨1, [(.t (pa 2))],
  (.seq (.region [yP (oMov (.c (.int .i32 0))) 2 0])
  (.seq (.seq (.region [yP (oMov (t 0)) 3 0,
    yP (oBin Try.prog .gtr 2 (.tmp 3) (.const (.int .i64 2147483647)) .none (t 3) (.c (.int .i64 2147483647))) 4 0])
  (.cond (t 4)
    (.seq (.region [yP (oMov (.c (.int .i32 2147483647))) 2 0])
    .ret)
    .skip))
  (.seq (.seq (.region [yP (oMov (t 0)) 5 0,
    yP (oBin Try.prog .lss 2 (.tmp 5) (.const (.int .i64 (-2147483648))) .none (t 5) (.c (.int .i64 (-2147483648)))) 6 0])
  (.cond (t 6)
    (.seq (.region [yP (oMov (.c (.int .i32 (-2147483648)))) 2 0])
    .ret)
    .skip))
  (.seq (.region [yP (oMov (t 0)) 7 0,
    yP (oCvtInt .i32 (t 7)) 8 0,
    yP (oMov (t 8)) 2 0])
  .ret))))⟩
def a61 : AFn := ⟨2, [(.t (pa 4))],
  (.seq (.region [yP (oMov (.c (.int .i32 0))) 4 0])
  (.seq (.seq (.region [yP (oMov (t 1)) 9 0,
    yP (oBin Try.prog .eql 27 (.tmp 9) (.const (.int .i32 0)) .none (t 9) (.c (.int .i32 0))) 10 0])
  (.cond (t 10)
    (.seq (.block 0
      (.seq (.region [yP (oMov (t 0)) 12 0,
        yP (oBin Try.prog .gtr 27 (.tmp 12) (.const (.int .i32 0)) .none (t 12) (.c (.int .i32 0))) 13 0,
        yP (oMov (t 13)) 11 0])
      (.cond (t 11)
        (.seq (.region [yP (oMov (.c (.int .i32 2147483647))) 4 0])
        .ret)
        (.seq (.region [yP (oMov (t 0)) 15 0,
          yP (oBin Try.prog .lss 27 (.tmp 15) (.const (.int .i32 0)) .none (t 15) (.c (.int .i32 0))) 16 0,
          yP (oMov (t 16)) 14 0])
        (.cond (t 14)
          (.seq (.region [yP (oMov (.c (.int .i32 (-2147483648)))) 4 0])
          .ret)
          .skip)))))
    (.seq (.region [yP (oMov (.c (.int .i32 0))) 4 0])
    .ret))
    .skip))
  (.seq (.region [yP (oMov (t 0)) 17 0,
    yP (oCvtInt .i64 (t 17)) 18 0,
    yP (oBin Try.prog .mul 2 (.tmp 18) (.const (.int .i64 65536)) .none (t 18) (.c (.int .i64 65536))) 19 0,
    yP (oMov (t 1)) 20 0,
    yP (oCvtInt .i64 (t 20)) 21 0,
    yP (oMov (t 19)) 5 0,
    yP (oMov (t 21)) 6 0])
  (.seq (.region [yP (oMov (t 5)) 22 0,
    yP (oBin Try.prog .lss 2 (.tmp 22) (.const (.int .i64 0)) .none (t 22) (.c (.int .i64 0))) 23 0,
    yP (oMov (t 6)) 24 0,
    yP (oBin Try.prog .lss 2 (.tmp 24) (.const (.int .i64 0)) .none (t 24) (.c (.int .i64 0))) 25 0,
    yP (oBin Try.prog .neq 4 (.tmp 23) (.tmp 25) .none (t 23) (t 25)) 26 0,
    yP (oMov (t 26)) 7 0])
  (.seq (.seq (.region [yP (oMov (t 5)) 27 0,
    yP (oBin Try.prog .lss 2 (.tmp 27) (.const (.int .i64 0)) .none (t 27) (.c (.int .i64 0))) 28 0])
  (.cond (t 28)
    (.region [yP (oMov (t 5)) 29 0,
      yP (oUn Try.prog .neg (t 29)) 30 0,
      yP (oMov (t 30)) 5 0])
    .skip))
  (.seq (.seq (.region [yP (oMov (t 6)) 31 0,
    yP (oBin Try.prog .lss 2 (.tmp 31) (.const (.int .i64 0)) .none (t 31) (.c (.int .i64 0))) 32 0])
  (.cond (t 32)
    (.region [yP (oMov (t 6)) 33 0,
      yP (oUn Try.prog .neg (t 33)) 34 0,
      yP (oMov (t 34)) 6 0])
    .skip))
  (.seq (.region [yP (oMov (t 5)) 35 0,
    yP (oMov (t 6)) 36 0,
    yP (oBin Try.prog .quo 2 (.tmp 35) (.tmp 36) .none (t 35) (t 36)) 37 0,
    yP (oMov (t 37)) 8 0])
  (.seq (.seq (.region [yP (oMov (t 5)) 38 0,
    yP (oMov (t 6)) 39 0,
    yP (oBin Try.prog .rem 2 (.tmp 38) (.tmp 39) .none (t 38) (t 39)) 40 0,
    yP (oBin Try.prog .mul 2 (.const (.int .i64 2)) (.tmp 40) .none (.c (.int .i64 2)) (t 40)) 41 0,
    yP (oMov (t 6)) 42 0,
    yP (oBin Try.prog .geq 2 (.tmp 41) (.tmp 42) .none (t 41) (t 42)) 43 0])
  (.cond (t 43)
    (.region [yP (oMov (t 8)) 44 0,
      yP (oBin Try.prog .add 2 (.tmp 44) (.const (.int .i64 1)) .none (t 44) (.c (.int .i64 1))) 45 0,
      yP (oMov (t 45)) 8 0])
    .skip))
  (.seq (.seq (.region [yP (oMov (t 7)) 46 0])
  (.cond (t 46)
    (.region [yP (oMov (t 8)) 47 0,
      yP (oUn Try.prog .neg (t 47)) 48 0,
      yP (oMov (t 48)) 8 0])
    .skip))
  (.seq (.region [yP (oMov (t 8)) 49 0,
    yE (oEnter 60 [(t 49)]) 50 0,
    yP (oMov (t 50)) 4 0])
  .ret))))))))))⟩
def a62 : AFn := ⟨2, [(.t (pa 4)), (.t (pa 5))],
  (.seq (.region [yP (oMov (.c (.int .u64 0))) 4 0,
    yP (oMov (.c (.int .u64 0))) 5 0])
  (.seq (.region [yP (oMov (t 0)) 14 0,
    yP (oBin Try.prog .and 95 (.tmp 14) (.const (.int .u64 4294967295)) .none (t 14) (.c (.int .u64 4294967295))) 15 0,
    yP (oMov (t 15)) 6 0])
  (.seq (.region [yP (oMov (t 0)) 16 0,
    yP (oBin Try.prog .shr 95 (.tmp 16) (.const (.int .u64 32)) .none (t 16) (.c (.int .u64 32))) 17 0,
    yP (oMov (t 17)) 7 0])
  (.seq (.region [yP (oMov (t 1)) 18 0,
    yP (oBin Try.prog .and 95 (.tmp 18) (.const (.int .u64 4294967295)) .none (t 18) (.c (.int .u64 4294967295))) 19 0,
    yP (oMov (t 19)) 8 0])
  (.seq (.region [yP (oMov (t 1)) 20 0,
    yP (oBin Try.prog .shr 95 (.tmp 20) (.const (.int .u64 32)) .none (t 20) (.c (.int .u64 32))) 21 0,
    yP (oMov (t 21)) 9 0])
  (.seq (.region [yP (oMov (t 6)) 22 0,
    yP (oMov (t 8)) 23 0,
    yP (oBin Try.prog .mul 95 (.tmp 22) (.tmp 23) .none (t 22) (t 23)) 24 0,
    yP (oMov (t 24)) 10 0])
  (.seq (.region [yP (oMov (t 7)) 25 0,
    yP (oMov (t 8)) 26 0,
    yP (oBin Try.prog .mul 95 (.tmp 25) (.tmp 26) .none (t 25) (t 26)) 27 0,
    yP (oMov (t 10)) 28 0,
    yP (oBin Try.prog .shr 95 (.tmp 28) (.const (.int .u64 32)) .none (t 28) (.c (.int .u64 32))) 29 0,
    yP (oBin Try.prog .add 95 (.tmp 27) (.tmp 29) .none (t 27) (t 29)) 30 0,
    yP (oMov (t 30)) 11 0])
  (.seq (.region [yP (oMov (t 11)) 31 0,
    yP (oBin Try.prog .and 95 (.tmp 31) (.const (.int .u64 4294967295)) .none (t 31) (.c (.int .u64 4294967295))) 32 0,
    yP (oMov (t 32)) 12 0])
  (.seq (.region [yP (oMov (t 11)) 33 0,
    yP (oBin Try.prog .shr 95 (.tmp 33) (.const (.int .u64 32)) .none (t 33) (.c (.int .u64 32))) 34 0,
    yP (oMov (t 34)) 13 0])
  (.seq (.region [yP (oMov (t 12)) 35 0,
    yP (oMov (t 6)) 36 0,
    yP (oMov (t 9)) 37 0,
    yP (oBin Try.prog .mul 95 (.tmp 36) (.tmp 37) .none (t 36) (t 37)) 38 0,
    yP (oBin Try.prog .add 95 (.tmp 35) (.tmp 38) .none (t 35) (t 38)) 39 0,
    yP (oMov (t 39)) 12 0])
  (.seq (.region [yP (oMov (t 7)) 40 0,
    yP (oMov (t 9)) 41 0,
    yP (oBin Try.prog .mul 95 (.tmp 40) (.tmp 41) .none (t 40) (t 41)) 42 0,
    yP (oMov (t 13)) 43 0,
    yP (oBin Try.prog .add 95 (.tmp 42) (.tmp 43) .none (t 42) (t 43)) 44 0,
    yP (oMov (t 12)) 45 0,
    yP (oBin Try.prog .shr 95 (.tmp 45) (.const (.int .u64 32)) .none (t 45) (.c (.int .u64 32))) 46 0,
    yP (oBin Try.prog .add 95 (.tmp 44) (.tmp 46) .none (t 44) (t 46)) 47 0,
    yP (oMov (t 47)) 4 0])
  (.seq (.region [yP (oMov (t 0)) 48 0,
    yP (oMov (t 1)) 49 0,
    yP (oBin Try.prog .mul 95 (.tmp 48) (.tmp 49) .none (t 48) (t 49)) 50 0,
    yP (oMov (t 50)) 5 0])
  .ret))))))))))))⟩
def a63 : AFn := ⟨2, [(.cA 2 (pa 4))],
  (.seq (.region [yN (oBox (t 0)) 2 0,
    yN (oBox (t 1)) 3 0,
    yN (oAlloc [(.int .u64 0), (.int .u64 0)]) 4 0])
  (.seq (.region [yP (oFieldAddr 1 (t 2)) 10 0,
    yR (oLoad1 (t 10)) 11 0,
    yP (oFieldAddr 1 (t 3)) 12 0,
    yR (oLoad1 (t 12)) 13 0,
    yP (oExt tx 67 [(t 11), (t 13), (.c (.int .u64 0))]) 14 0,
    yP (oMov (t 14)) 9 0,
    yP (oExtract 0 (t 9)) 15 0,
    yP (oExtract 1 (t 9)) 16 0,
    yP (oMov (t 15)) 5 0,
    yP (oMov (t 16)) 6 0])
  (.seq (.region [yP (oFieldAddr 0 (t 2)) 18 0,
    yR (oLoad1 (t 18)) 19 0,
    yP (oFieldAddr 0 (t 3)) 20 0,
    yR (oLoad1 (t 20)) 21 0,
    yP (oMov (t 6)) 22 0,
    yP (oExt tx 67 [(t 19), (t 21), (t 22)]) 23 0,
    yP (oMov (t 23)) 17 0,
    yP (oExtract 0 (t 17)) 24 0,
    yP (oExtract 1 (t 17)) 25 0,
    yP (oMov (t 24)) 7 0,
    yP (oMov (t 25)) 8 0])
  (.seq (.region [yP (oMov (t 7)) 26 0,
    yP (oMov (t 5)) 27 0,
    yP (oBuild [(.int .u64 0), (.int .u64 0)] [(0, (1, (t 26))), (1, (1, (t 27)))]) 28 0,
    zE (oStore 2 (t 4) (t 28)) 0])
  .ret))))⟩
def a64 : AFn := ⟨2, [(.t (pa 4))],
  (.seq (.region [yN (oBox (t 0)) 2 0,
    yN (oBox (t 1)) 3 0,
    yP (oMov (.c (.bool .false))) 4 0])
  (.seq (.region [yP (oFieldAddr 0 (t 2)) 5 0,
    yR (oLoad1 (t 5)) 6 0,
    yP (oFieldAddr 0 (t 3)) 7 0,
    yR (oLoad1 (t 7)) 8 0,
    yP (oBin Try.prog .lss 95 (.tmp 6) (.tmp 8) .none (t 6) (t 8)) 9 0,
    yP (oMov (t 9)) 10 0,
    yPg (oFieldAddr 0 (t 2)) 11 10 false 0,
    yRg (oLoad1 (t 11)) 12 10 false 0,
    yPg (oFieldAddr 0 (t 3)) 13 10 false 0,
    yRg (oLoad1 (t 13)) 14 10 false 0,
    yPg (oBin Try.prog .eql 95 (.tmp 12) (.tmp 14) .none (t 12) (t 14)) 15 10 false 0,
    yPg (oMov (t 15)) 16 10 false 0,
    yPg (oFieldAddr 1 (t 2)) 17 16 true 0,
    yRg (oLoad1 (t 17)) 18 16 true 0,
    yPg (oFieldAddr 1 (t 3)) 19 16 true 0,
    yRg (oLoad1 (t 19)) 20 16 true 0,
    yPg (oBin Try.prog .lss 95 (.tmp 18) (.tmp 20) .none (t 18) (t 20)) 21 16 true 0,
    yPg (oPick (t 16) (t 21) (.c (.bool .false))) 22 10 false 0,
    yP (oPick (t 10) (.c (.bool .true)) (t 22)) 23 0,
    yP (oMov (t 23)) 4 0])
  .ret))⟩
def a65 : AFn := ⟨2, [(.cA 2 (pa 4))],
  (.seq (.region [yN (oBox (t 0)) 2 0,
    yN (oBox (t 1)) 3 0,
    yN (oAlloc [(.int .u64 0), (.int .u64 0)]) 4 0])
  (.seq (.region [yP (oFieldAddr 1 (t 2)) 10 0,
    yR (oLoad1 (t 10)) 11 0,
    yP (oFieldAddr 1 (t 3)) 12 0,
    yR (oLoad1 (t 12)) 13 0,
    yP (oExt tx 68 [(t 11), (t 13), (.c (.int .u64 0))]) 14 0,
    yP (oMov (t 14)) 9 0,
    yP (oExtract 0 (t 9)) 15 0,
    yP (oExtract 1 (t 9)) 16 0,
    yP (oMov (t 15)) 5 0,
    yP (oMov (t 16)) 6 0])
  (.seq (.region [yP (oFieldAddr 0 (t 2)) 18 0,
    yR (oLoad1 (t 18)) 19 0,
    yP (oFieldAddr 0 (t 3)) 20 0,
    yR (oLoad1 (t 20)) 21 0,
    yP (oMov (t 6)) 22 0,
    yP (oExt tx 68 [(t 19), (t 21), (t 22)]) 23 0,
    yP (oMov (t 23)) 17 0,
    yP (oExtract 0 (t 17)) 24 0,
    yP (oExtract 1 (t 17)) 25 0,
    yP (oMov (t 24)) 7 0,
    yP (oMov (t 25)) 8 0])
  (.seq (.region [yP (oMov (t 7)) 26 0,
    yP (oMov (t 5)) 27 0,
    yP (oBuild [(.int .u64 0), (.int .u64 0)] [(0, (1, (t 26))), (1, (1, (t 27)))]) 28 0,
    zE (oStore 2 (t 4) (t 28)) 0])
  .ret))))⟩
def a66 : AFn := ⟨1, [(.t (pa 2))],
  (.seq (.region [yP (oMov (.c (.int .i32 0))) 2 0])
  (.seq (.region [yP (oMov (t 0)) 3 0,
    yE (oEnter 69 [(t 3), (.c (.int .i64 (-2147483648))), (.c (.int .i64 2147483647))]) 4 0,
    yP (oCvtInt .i32 (t 4)) 5 0,
    yP (oMov (t 5)) 2 0])
  .ret))⟩
def a69 : AFn := ⟨3, [(.t (pa 6))],
  (.seq (.region [yP (oMov (.c (.int .i64 0))) 6 0])
  (.seq (.region [yP (oMov (t 0)) 7 0,
    yP (oMov (t 1)) 8 0,
    yP (oMinmax Try.prog .true [(t 7), (t 8)]) 9 0,
    yP (oMov (t 2)) 10 0,
    yP (oMinmax Try.prog .false [(t 9), (t 10)]) 11 0,
    yP (oMov (t 11)) 6 0])
  .ret))⟩

theorem p3 : prepF Try.prog tx 3 = some a3 := by kernel_rfl
theorem p4 : prepF Try.prog tx 4 = some a4 := by kernel_rfl
theorem p5 : prepF Try.prog tx 5 = some a5 := by kernel_rfl
theorem p6 : prepF Try.prog tx 6 = some a6 := by kernel_rfl
theorem p7 : prepF Try.prog tx 7 = some a7 := by kernel_rfl
theorem p8 : prepF Try.prog tx 8 = some a8 := by kernel_rfl
theorem p9 : prepF Try.prog tx 9 = some a9 := by kernel_rfl
theorem p10 : prepF Try.prog tx 10 = some a10 := by kernel_rfl
theorem p11 : prepF Try.prog tx 11 = some a11 := by kernel_rfl
theorem p12 : prepF Try.prog tx 12 = some a12 := by kernel_rfl
theorem p13 : prepF Try.prog tx 13 = some a13 := by kernel_rfl
theorem p14 : prepF Try.prog tx 14 = some a14 := by kernel_rfl
theorem p15 : prepF Try.prog tx 15 = some a15 := by kernel_rfl
theorem p16 : prepF Try.prog tx 16 = some a16 := by kernel_rfl
theorem p17 : prepF Try.prog tx 17 = some a17 := by kernel_rfl
theorem p18 : prepF Try.prog tx 18 = some a18 := by kernel_rfl
theorem p19 : prepF Try.prog tx 19 = some a19 := by kernel_rfl
theorem p20 : prepF Try.prog tx 20 = some a20 := by kernel_rfl
theorem p21 : prepF Try.prog tx 21 = some a21 := by kernel_rfl
theorem p22 : prepF Try.prog tx 22 = some a22 := by kernel_rfl
theorem p23 : prepF Try.prog tx 23 = some a23 := by kernel_rfl
theorem p24 : prepF Try.prog tx 24 = some a24 := by kernel_rfl
theorem p25 : prepF Try.prog tx 25 = some a25 := by kernel_rfl
theorem p26 : prepF Try.prog tx 26 = some a26 := by kernel_rfl
theorem p27 : prepF Try.prog tx 27 = some a27 := by kernel_rfl
theorem p28 : prepF Try.prog tx 28 = some a28 := by kernel_rfl
theorem p29 : prepF Try.prog tx 29 = some a29 := by kernel_rfl
theorem p30 : prepF Try.prog tx 30 = some a30 := by kernel_rfl
theorem p31 : prepF Try.prog tx 31 = some a31 := by kernel_rfl
theorem p32 : prepF Try.prog tx 32 = some a32 := by kernel_rfl
theorem p33 : prepF Try.prog tx 33 = some a33 := by kernel_rfl
theorem p34 : prepF Try.prog tx 34 = some a34 := by kernel_rfl
theorem p35 : prepF Try.prog tx 35 = some a35 := by kernel_rfl
theorem p36 : prepF Try.prog tx 36 = some a36 := by kernel_rfl
theorem p37 : prepF Try.prog tx 37 = some a37 := by kernel_rfl
theorem p38 : prepF Try.prog tx 38 = some a38 := by kernel_rfl
theorem p39 : prepF Try.prog tx 39 = some a39 := by kernel_rfl
theorem p40 : prepF Try.prog tx 40 = some a40 := by kernel_rfl
theorem p41 : prepF Try.prog tx 41 = some a41 := by kernel_rfl
theorem p42 : prepF Try.prog tx 42 = some a42 := by kernel_rfl
theorem p43 : prepF Try.prog tx 43 = some a43 := by kernel_rfl
theorem p44 : prepF Try.prog tx 44 = some a44 := by kernel_rfl
theorem p45 : prepF Try.prog tx 45 = some a45 := by kernel_rfl
theorem p46 : prepF Try.prog tx 46 = some a46 := by kernel_rfl
theorem p47 : prepF Try.prog tx 47 = some a47 := by kernel_rfl
theorem p48 : prepF Try.prog tx 48 = some a48 := by kernel_rfl
theorem p49 : prepF Try.prog tx 49 = some a49 := by kernel_rfl
theorem p50 : prepF Try.prog tx 50 = some a50 := by kernel_rfl
theorem p51 : prepF Try.prog tx 51 = some a51 := by kernel_rfl
theorem p52 : prepF Try.prog tx 52 = some a52 := by kernel_rfl
theorem p53 : prepF Try.prog tx 53 = some a53 := by kernel_rfl
theorem p54 : prepF Try.prog tx 54 = some a54 := by kernel_rfl
theorem p55 : prepF Try.prog tx 55 = some a55 := by kernel_rfl
theorem p56 : prepF Try.prog tx 56 = some a56 := by kernel_rfl
theorem p57 : prepF Try.prog tx 57 = some a57 := by kernel_rfl
theorem p58 : prepF Try.prog tx 58 = some a58 := by kernel_rfl
theorem p59 : prepF Try.prog tx 59 = some a59 := by kernel_rfl
theorem p60 : prepF Try.prog tx 60 = some a60 := by kernel_rfl
theorem p61 : prepF Try.prog tx 61 = some a61 := by kernel_rfl
theorem p62 : prepF Try.prog tx 62 = some a62 := by kernel_rfl
theorem p63 : prepF Try.prog tx 63 = some a63 := by kernel_rfl
theorem p64 : prepF Try.prog tx 64 = some a64 := by kernel_rfl
theorem p65 : prepF Try.prog tx 65 = some a65 := by kernel_rfl
theorem p66 : prepF Try.prog tx 66 = some a66 := by kernel_rfl
theorem p69 : prepF Try.prog tx 69 = some a69 := by kernel_rfl
def tl : List (Option AFn) := [none, none, none, some a3, some a4, some a5, some a6, some a7, some a8, some a9, some a10, some a11, some a12, some a13, some a14, some a15, some a16, some a17, some a18, some a19, some a20, some a21, some a22, some a23, some a24, some a25, some a26, some a27, some a28, some a29, some a30, some a31, some a32, some a33, some a34, some a35, some a36, some a37, some a38, some a39, some a40, some a41, some a42, some a43, some a44, some a45, some a46, some a47, some a48, some a49, some a50, some a51, some a52, some a53, some a54, some a55, some a56, some a57, some a58, some a59, some a60, some a61, some a62, some a63, some a64, some a65, some a66, none, none, some a69]
def T : FT := fun f => match tl[f]? with
  | some x => x
  | none => none
def AllP : Nat → List (Option AFn) → Prop
  | _, [] => True
  | k, none :: l => AllP (k + 1) l
  | k, some a :: l => prepF Try.prog tx k = some a ∧ AllP (k + 1) l
theorem AllP_get : ∀ (l : List (Option AFn)) (k i : Nat) (fn : AFn), AllP k l → l[i]? = some (some fn) → prepF Try.prog tx (k + i) = some fn
  | [], _, _, _, _, h => by cases h
  | none :: l, k, 0, _, _, h => by cases h
  | some a :: l, k, 0, _, h1, h => by cases h; exact h1.1
  | none :: l, k, i + 1, fn, h1, h => by have := AllP_get l (k + 1) i fn h1 h; rwa [Nat.add_assoc, Nat.add_comm 1] at this
  | some a :: l, k, i + 1, fn, h1, h => by have := AllP_get l (k + 1) i fn h1.2 h; rwa [Nat.add_assoc, Nat.add_comm 1] at this
theorem allP : AllP 0 tl := ⟨p3, p4, p5, p6, p7, p8, p9, p10, p11, p12, p13, p14, p15, p16, p17, p18, p19, p20, p21, p22, p23, p24, p25, p26, p27, p28, p29, p30, p31, p32, p33, p34, p35, p36, p37, p38, p39, p40, p41, p42, p43, p44, p45, p46, p47, p48, p49, p50, p51, p52, p53, p54, p55, p56, p57, p58, p59, p60, p61, p62, p63, p64, p65, p66, p69, trivial⟩
theorem hT (f : FuncId) (fn : AFn) (h : T f = some fn) : prepF Try.prog tx f = some fn := by
  unfold T at h
  split at h
  · rename_i x hx; subst h; have := AllP_get tl 0 f fn allP hx; rwa [Nat.zero_add] at this
  · cases h
theorem T3 : T 3 = some a3 := rfl
theorem T4 : T 4 = some a4 := rfl
theorem T5 : T 5 = some a5 := rfl
theorem T6 : T 6 = some a6 := rfl
theorem T7 : T 7 = some a7 := rfl
theorem T8 : T 8 = some a8 := rfl
theorem T9 : T 9 = some a9 := rfl
theorem T10 : T 10 = some a10 := rfl
theorem T11 : T 11 = some a11 := rfl
theorem T12 : T 12 = some a12 := rfl
theorem T13 : T 13 = some a13 := rfl
theorem T14 : T 14 = some a14 := rfl
theorem T15 : T 15 = some a15 := rfl
theorem T16 : T 16 = some a16 := rfl
theorem T17 : T 17 = some a17 := rfl
theorem T18 : T 18 = some a18 := rfl
theorem T19 : T 19 = some a19 := rfl
theorem T20 : T 20 = some a20 := rfl
theorem T21 : T 21 = some a21 := rfl
theorem T22 : T 22 = some a22 := rfl
theorem T23 : T 23 = some a23 := rfl
theorem T24 : T 24 = some a24 := rfl
theorem T25 : T 25 = some a25 := rfl
theorem T26 : T 26 = some a26 := rfl
theorem T27 : T 27 = some a27 := rfl
theorem T28 : T 28 = some a28 := rfl
theorem T29 : T 29 = some a29 := rfl
theorem T30 : T 30 = some a30 := rfl
theorem T31 : T 31 = some a31 := rfl
theorem T32 : T 32 = some a32 := rfl
theorem T33 : T 33 = some a33 := rfl
theorem T34 : T 34 = some a34 := rfl
theorem T35 : T 35 = some a35 := rfl
theorem T36 : T 36 = some a36 := rfl
theorem T37 : T 37 = some a37 := rfl
theorem T38 : T 38 = some a38 := rfl
theorem T39 : T 39 = some a39 := rfl
theorem T40 : T 40 = some a40 := rfl
theorem T41 : T 41 = some a41 := rfl
theorem T42 : T 42 = some a42 := rfl
theorem T43 : T 43 = some a43 := rfl
theorem T44 : T 44 = some a44 := rfl
theorem T45 : T 45 = some a45 := rfl
theorem T46 : T 46 = some a46 := rfl
theorem T47 : T 47 = some a47 := rfl
theorem T48 : T 48 = some a48 := rfl
theorem T49 : T 49 = some a49 := rfl
theorem T50 : T 50 = some a50 := rfl
theorem T51 : T 51 = some a51 := rfl
theorem T52 : T 52 = some a52 := rfl
theorem T53 : T 53 = some a53 := rfl
theorem T54 : T 54 = some a54 := rfl
theorem T55 : T 55 = some a55 := rfl
theorem T56 : T 56 = some a56 := rfl
theorem T57 : T 57 = some a57 := rfl
theorem T58 : T 58 = some a58 := rfl
theorem T59 : T 59 = some a59 := rfl
theorem T60 : T 60 = some a60 := rfl
theorem T61 : T 61 = some a61 := rfl
theorem T62 : T 62 = some a62 := rfl
theorem T63 : T 63 = some a63 := rfl
theorem T64 : T 64 = some a64 := rfl
theorem T65 : T 65 = some a65 := rfl
theorem T66 : T 66 = some a66 := rfl
theorem T69 : T 69 = some a69 := rfl
end
end Go.AX.Tri
